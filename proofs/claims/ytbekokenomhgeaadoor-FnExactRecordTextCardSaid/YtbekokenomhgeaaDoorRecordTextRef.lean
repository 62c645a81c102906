/- The functions that this law reaches do what their models say. Printed by gen.py. -/
import Derived.Test.YtbekokenomhgeaaDoorMod
import Derived.Test.YtbekokenomhgeaaDoorLib
namespace Go.Proofs.YtbekokenomhgeaaDoor
open Go Go.RowKit
set_option linter.unusedSimpArgs false
set_option linter.unusedVariables false

set_option maxHeartbeats 1000000 in
theorem Play_equal (x y : Play) (w : World) : (Op.equalIn 10000 28 (Value.agg #[vI x.Row, vI x.Col, .bool x.Down, vS x.Word]) (Value.agg #[vI y.Row, vI y.Col, .bool y.Down, vS y.Word])).run Tryd.prog w = .ok (x == y) w := by
  have hS0 : Tryd.prog.underlying 28 = some (.struct (Tryd.prog.fieldsOf 28)) := by kernel_rfl
  have hp0 : Tryd.prog.stoodInHeld 28 = false := by kernel_rfl
  have u2 := Tryd.underlying2
  have u4 := Tryd.underlying4
  have u9 := Tryd.underlying9
  rw [show (10000 : Nat) = 9999 + 1 from rfl, run_equalIn_agg w 9999 28 _ _ hS0 hp0]
  simp only [Program.fieldsOf, Tryd.underlying28]
  go_simp
  obtain ⟨x0, x1, x2, x3⟩ := x
  obtain ⟨y0, y1, y2, y3⟩ := y
  simp only [Play.mk.injEq]
  by_cases h0 : x0 = y0 <;> by_cases h1 : x1 = y1 <;> by_cases h2 : x2 = y2 <;> by_cases h3 : x3 = y3 <;> simp [h0, h1, h2, h3]

theorem Play_eql {S : World → Prop} {N : Nat} {a : Act} {L : List (Nat × Value)} {dst : Option Tmp} {ty U : TypeId} {pos : String} {aft : Array Edge} {g : Option (Nat × Bool)} {X Y : Operand} (hf : Has N a L) {x y : Play} (hx : ev L X = some (Value.agg #[vI x.Row, vI x.Col, .bool x.Down, vS x.Word])) (hy : ev L Y = some (Value.agg #[vI y.Row, vI y.Col, .bool y.Down, vS y.Word])) : Yd Tryd.prog S a ⟨dst, .binOp .eql 28 X Y U, ty, pos, aft, g⟩ (.bool (x == y)) := by
  intro w _
  have hG : Tryd.prog.eqGuardType Tryd.prog.depth 28 = false := by kernel_rfl
  have h := Play_equal x y w
  simp only [execOp, hf.ev hx, hf.ev hy, Sem.run_bind, run_eqGuard_agg _ _ _ _ _ _ _ hG, Result.andThen_ok, run_eql_struct, h, Sem.run_pure]
  all_goals rfl

theorem Play_neq {S : World → Prop} {N : Nat} {a : Act} {L : List (Nat × Value)} {dst : Option Tmp} {ty U : TypeId} {pos : String} {aft : Array Edge} {g : Option (Nat × Bool)} {X Y : Operand} (hf : Has N a L) {x y : Play} (hx : ev L X = some (Value.agg #[vI x.Row, vI x.Col, .bool x.Down, vS x.Word])) (hy : ev L Y = some (Value.agg #[vI y.Row, vI y.Col, .bool y.Down, vS y.Word])) : Yd Tryd.prog S a ⟨dst, .binOp .neq 28 X Y U, ty, pos, aft, g⟩ (.bool (x != y)) := by
  intro w _
  have hG : Tryd.prog.eqGuardType Tryd.prog.depth 28 = false := by kernel_rfl
  have h := Play_equal x y w
  simp only [execOp, hf.ev hx, hf.ev hy, Sem.run_bind, run_eqGuard_agg _ _ _ _ _ _ _ hG, Result.andThen_ok, run_neq_struct, h, Sem.run_pure]
  all_goals rfl

theorem ei_5 : ElemInfo Tryd.prog 5 1 := elemInfo (by kernel_rfl)

theorem ei_9 : ElemInfo Tryd.prog 9 1 := elemInfo (by kernel_rfl)

theorem ei_38 : ElemInfo Tryd.prog 38 7 := elemInfo (by kernel_rfl)

theorem bp_28 : ∀ (fs : Array Field), some (TypeDesc.struct fs) = Tryd.prog.underlying 28 → ∀ w, (fs.mapM fun (f : Field) => do pure (f.offset, ← sizeOf f.type)).run Tryd.prog w = .ok #[(0, 1), (1, 1), (2, 1), (3, 1)] w := by
  intro fs h w
  rw [Tryd.underlying28] at h
  cases h
  simp

set_option maxRecDepth 100000 in
set_option maxHeartbeats 4000000 in
theorem r_laws_szPlay (C : Cx) (a1 : Play) (hp2 : R64 a1.Row) (hp3 : R64 a1.Col) (hp4 : a1.Word.length ≤ maxLen) (left5 : Int) (hp6 : R64 left5) (r : Int) (h : m_laws_szPlay a1 left5 = some r) :
    Calls Tryd.prog 22 #[.agg #[vI (a1.Row), vI (a1.Col), .bool (a1.Down), vS (a1.Word)], vI (left5)] C.w0 fun e w => e = .returned (vI (r)) ∧ Mem C w [] [] ∧ R64 r := by
  have hM := Mem.begin C [] trivial
  refine enter Tryd.func22 rfl Tryd.ntmps22 rfl fun a hf => ?_
  unfold m_laws_szPlay at h
  refine wp_seq ?_
  refine region_pl ?_
  refine pl_l hf rfl rfl rfl (w_box hf hM (cs := [vI (a1.Row), vI (a1.Col), .bool (a1.Down), vS (a1.Word)]) rfl rfl fun b7 w8 hx9 hM a hf => ?_)
  refine q_ hf rfl rfl rfl (e_assign hf rfl) fun a hf => ?_
  refine pl_nil ?_
  refine then_n ?_
  refine wp_seq ?_
  refine region_pl ?_
  refine q_ hf rfl rfl rfl (e_move hf rfl) fun a hf => ?_
  refine q_ hf rfl rfl rfl (e_field hf rfl Tryd.underlying23 rfl Tryd.sizeOf9 (o' := 3) rfl) fun a hf => ?_
  refine q_ hf rfl rfl rfl (e_load1 hf rfl Tryd.isAgg9 (hM.boxCell (k := 0) rfl rfl)) fun a hf => ?_
  refine q_ hf rfl rfl rfl (e_lenS hf (x := a1.Word) rfl Tryd.underlying9) fun a hf => ?_
  obtain ⟨z11, hz12, h⟩ := bind_some h
  refine q_ hf rfl rfl rfl (e_sub hf rfl rfl hz12) fun a hf => ?_
  refine q_ hf rfl rfl rfl (e_assign hf rfl) fun a hf => ?_
  refine pl_nil ?_
  refine then_n ?_
  refine wp_seq ?_
  refine wp_seq ?_
  refine region_pl ?_
  refine q_ hf rfl rfl rfl (e_move hf rfl) fun a hf => ?_
  refine q_ hf rfl rfl rfl (e_lt hf (x := z11) (y := 0) rfl rfl) fun a hf => ?_
  refine pl_nil ?_
  refine then_n ?_
  rcases cond_some h with ⟨hc13, h⟩ | ⟨hc13, h⟩
  · refine cond_t hf rfl hc13 ?_
    refine wp_seq ?_
    refine region_pl ?_
    refine q_ hf rfl rfl rfl (e_assign hf rfl) fun a hf => ?_
    refine pl_nil ?_
    refine then_n ?_
    refine wp_ret ?_
    refine then_r ?_
    obtain rfl := some_inj h
    have hM := hM.outs (own' := []) 0 rfl
    exact leave1 hf rfl rfl ⟨rfl, hM.fin, (R64_lit rfl)⟩
  · refine cond_f hf rfl hc13 ?_
    refine wp_skip ?_
    refine then_n ?_
    refine wp_seq ?_
    refine region_pl ?_
    refine q_ hf rfl rfl rfl (e_move hf rfl) fun a hf => ?_
    refine q_ hf rfl rfl rfl (e_assign hf rfl) fun a hf => ?_
    refine pl_nil ?_
    refine then_n ?_
    refine wp_ret ?_
    obtain rfl := some_inj h
    have hM := hM.outs (own' := []) 0 rfl
    exact leave1 hf rfl rfl ⟨rfl, hM.fin, (chk_R hz12)⟩

set_option maxRecDepth 100000 in
set_option maxHeartbeats 4000000 in
theorem r_laws_szAction (C : Cx) (a1 : Action) (hp2 : R64 a1.Kind) (hp3 : R64 a1.Play.Row) (hp4 : R64 a1.Play.Col) (hp5 : a1.Play.Word.length ≤ maxLen) (hp6 : a1.Tiles.length ≤ maxLen) (hp7 : R64 a1.Seconds) (left8 : Int) (hp9 : R64 left8) (r : Int) (h : m_laws_szAction a1 left8 = some r) :
    Calls Tryd.prog 11 #[.agg #[vI (a1.Kind), vI (a1.Play.Row), vI (a1.Play.Col), .bool (a1.Play.Down), vS (a1.Play.Word), vS (a1.Tiles), vI (a1.Seconds)], vI (left8)] C.w0 fun e w => e = .returned (vI (r)) ∧ Mem C w [] [] ∧ R64 r := by
  have hM := Mem.begin C [] trivial
  refine enter Tryd.func11 rfl Tryd.ntmps11 rfl fun a hf => ?_
  unfold m_laws_szAction at h
  refine wp_seq ?_
  refine region_pl ?_
  refine pl_l hf rfl rfl rfl (w_box hf hM (cs := [vI (a1.Kind), vI (a1.Play.Row), vI (a1.Play.Col), .bool (a1.Play.Down), vS (a1.Play.Word), vS (a1.Tiles), vI (a1.Seconds)]) rfl rfl fun b10 w11 hx12 hM a hf => ?_)
  refine q_ hf rfl rfl rfl (e_assign hf rfl) fun a hf => ?_
  refine pl_nil ?_
  refine then_n ?_
  refine wp_seq ?_
  refine region_pl ?_
  refine q_ hf rfl rfl rfl (e_field hf rfl Tryd.underlying34 rfl Tryd.sizeOf23 (o' := 1) rfl) fun a hf => ?_
  refine q_ hf rfl rfl rfl (e_loadA hf (us := [vI (a1.Play.Row), vI (a1.Play.Col), .bool (a1.Play.Down), vS (a1.Play.Word)]) rfl ⟨Tryd.isAgg23, Tryd.sizeOf23⟩ rfl (hM.boxSub (k := 0) (us := [vI (a1.Play.Row), vI (a1.Play.Col), .bool (a1.Play.Down), vS (a1.Play.Word)]) (o := 1) rfl rfl)) fun a hf => ?_
  refine q_ hf rfl rfl rfl (e_move hf rfl) fun a hf => ?_
  obtain ⟨y14, hz15, h⟩ := bind_some h
  refine pl_l hf rfl rfl rfl (w_call hf Tryd.call22 rfl (r_laws_szPlay ⟨_, Sh C _ _, none_, hM.sh_lt, none_not, C.G, hM.g_lt, g_none, hM.tabs⟩ a1.Play hp3 hp4 hp5 left8 hp9 _ hz15) ?_)
  rintro _ w17 ⟨rfl, hM2, hv16⟩
  obtain ⟨hM, hx18, hup19⟩ := hM.back hM2
  dsimp only [List.cons_append, List.nil_append] at hM hup19
  clear hM2
  refine ⟨_, rfl, fun a hf => ?_⟩
  refine q_ hf rfl rfl rfl (e_assign hf rfl) fun a hf => ?_
  refine pl_nil ?_
  refine then_n ?_
  refine wp_seq ?_
  refine wp_seq ?_
  refine region_pl ?_
  refine q_ hf rfl rfl rfl (e_move hf rfl) fun a hf => ?_
  refine q_ hf rfl rfl rfl (e_lt hf (x := y14) (y := 0) rfl rfl) fun a hf => ?_
  refine pl_nil ?_
  refine then_n ?_
  rcases cond_some h with ⟨hc20, h⟩ | ⟨hc20, h⟩
  · refine cond_t hf rfl hc20 ?_
    refine wp_seq ?_
    refine region_pl ?_
    refine q_ hf rfl rfl rfl (e_assign hf rfl) fun a hf => ?_
    refine pl_nil ?_
    refine then_n ?_
    refine wp_ret ?_
    refine then_r ?_
    obtain rfl := some_inj h
    have hM := hM.outs (own' := []) 0 rfl
    exact leave1 hf rfl rfl ⟨rfl, hM.fin, (R64_lit rfl)⟩
  · refine cond_f hf rfl hc20 ?_
    refine wp_skip ?_
    refine then_n ?_
    refine wp_seq ?_
    refine region_pl ?_
    refine q_ hf rfl rfl rfl (e_move hf rfl) fun a hf => ?_
    refine q_ hf rfl rfl rfl (e_field hf rfl Tryd.underlying34 rfl Tryd.sizeOf9 (o' := 5) rfl) fun a hf => ?_
    refine q_ hf rfl rfl rfl (e_load1 hf rfl Tryd.isAgg9 (hM.boxCell (k := 0) rfl rfl)) fun a hf => ?_
    refine q_ hf rfl rfl rfl (e_lenS hf (x := a1.Tiles) rfl Tryd.underlying9) fun a hf => ?_
    obtain ⟨z21, hz22, h⟩ := bind_some h
    refine q_ hf rfl rfl rfl (e_sub hf rfl rfl hz22) fun a hf => ?_
    refine q_ hf rfl rfl rfl (e_assign hf rfl) fun a hf => ?_
    refine pl_nil ?_
    refine then_n ?_
    refine wp_seq ?_
    refine wp_seq ?_
    refine region_pl ?_
    refine q_ hf rfl rfl rfl (e_move hf rfl) fun a hf => ?_
    refine q_ hf rfl rfl rfl (e_lt hf (x := z21) (y := 0) rfl rfl) fun a hf => ?_
    refine pl_nil ?_
    refine then_n ?_
    rcases cond_some h with ⟨hc23, h⟩ | ⟨hc23, h⟩
    · refine cond_t hf rfl hc23 ?_
      refine wp_seq ?_
      refine region_pl ?_
      refine q_ hf rfl rfl rfl (e_assign hf rfl) fun a hf => ?_
      refine pl_nil ?_
      refine then_n ?_
      refine wp_ret ?_
      refine then_r ?_
      obtain rfl := some_inj h
      have hM := hM.outs (own' := []) 0 rfl
      exact leave1 hf rfl rfl ⟨rfl, hM.fin, (R64_lit rfl)⟩
    · refine cond_f hf rfl hc23 ?_
      refine wp_skip ?_
      refine then_n ?_
      refine wp_seq ?_
      refine region_pl ?_
      refine q_ hf rfl rfl rfl (e_move hf rfl) fun a hf => ?_
      refine q_ hf rfl rfl rfl (e_assign hf rfl) fun a hf => ?_
      refine pl_nil ?_
      refine then_n ?_
      refine wp_ret ?_
      obtain rfl := some_inj h
      have hM := hM.outs (own' := []) 0 rfl
      exact leave1 hf rfl rfl ⟨rfl, hM.fin, (chk_R hz22)⟩

set_option maxRecDepth 100000 in
set_option maxHeartbeats 4000000 in
theorem r_laws_szActionS (C : Cx) (a1 : (List Action)) (A2 : Option Addr) (c3 : Nat) (hp4 : (sliceRep ActionRep).R C.w0 C.S0 a1 [vL A2 a1 c3]) (left5 : Int) (hp6 : R64 left5) (r : Int) (h : m_laws_szActionS a1 left5 = some r) :
    Calls Tryd.prog 36 #[vL A2 (a1) c3, vI (left5)] C.w0 fun e w => e = .returned (vI (r)) ∧ Mem C w [] [] ∧ R64 r := by
  have hM := Mem.begin C [.dat (sliceRep ActionRep) a1 [vL A2 a1 c3]] ⟨hp4, trivial⟩
  refine enter Tryd.func36 rfl Tryd.ntmps36 rfl fun a hf => ?_
  unfold m_laws_szActionS at h
  refine wp_seq ?_
  refine region_pl ?_
  refine q_ hf rfl rfl rfl (e_assign hf rfl) fun a hf => ?_
  refine pl_nil ?_
  refine then_n ?_
  refine wp_seq ?_
  refine region_pl ?_
  refine q_ hf rfl rfl rfl (e_move hf rfl) fun a hf => ?_
  refine q_ hf rfl rfl rfl (e_move hf rfl) fun a hf => ?_
  have hl7 := slice_len (hM.dat (k := 0) rfl)
  refine q_ hf rfl rfl rfl (e_lenL hf (x := a1) rfl Tryd.underlying41) fun a hf => ?_
  obtain ⟨z8, hz9, h⟩ := bind_some h
  refine q_ hf rfl rfl rfl (e_sub hf rfl rfl hz9) fun a hf => ?_
  refine q_ hf rfl rfl rfl (e_assign hf rfl) fun a hf => ?_
  refine pl_nil ?_
  refine then_n ?_
  refine wp_seq ?_
  refine wp_seq ?_
  refine region_pl ?_
  refine q_ hf rfl rfl rfl (e_move hf rfl) fun a hf => ?_
  refine q_ hf rfl rfl rfl (e_lt hf (x := z8) (y := 0) rfl rfl) fun a hf => ?_
  refine pl_nil ?_
  refine then_n ?_
  rcases cond_some h with ⟨hc10, h⟩ | ⟨hc10, h⟩
  · refine cond_t hf rfl hc10 ?_
    refine wp_seq ?_
    refine region_pl ?_
    refine q_ hf rfl rfl rfl (e_assign hf rfl) fun a hf => ?_
    refine pl_nil ?_
    refine then_n ?_
    refine wp_ret ?_
    refine then_r ?_
    obtain rfl := some_inj h
    exact leave1 hf rfl rfl ⟨rfl, hM.fin, (R64_lit rfl)⟩
  · refine cond_f hf rfl hc10 ?_
    refine wp_skip ?_
    refine then_n ?_
    obtain ⟨x13, h14, h⟩ := bind_some h
    refine seq_join (fun a w => ∃ (left11 : Int), (.inl left11) = x13 ∧ Has 27 a [(1, vI (left11))] ∧ Mem C w [] [.dat (sliceRep ActionRep) a1 [vL A2 a1 c3]] ∧ R64 left11) ?_ ?_
    · refine wp_seq ?_
      refine region_pl ?_
      refine q_ hf rfl rfl rfl (e_assign hf rfl) fun a hf => ?_
      refine pl_nil ?_
      refine then_n ?_
      refine wp_block ?_
      obtain ⟨x22, h23, h14⟩ := bind_some h14
      refine wp_loopM h23 (fun s a w => ∃ (left15 : Int) (n17 : Int), (left15, n17) = s ∧ Has 27 a [(0, vL A2 (a1) c3), (1, vI (left15)), (5, vI (n17))] ∧ Mem C w [] [.dat (sliceRep ActionRep) a1 [vL A2 a1 c3]] ∧ R64 left15 ∧ R64 n17) ?_ ?_
      · exact ⟨z8, 0, rfl, hf.keep ⟨rfl, rfl, rfl, trivial⟩, hM.pick [0] rfl, (chk_R hz9), (R64_lit rfl)⟩
      · rintro s o24 a w19 ⟨left15, n17, rfl, hf, hM, hv16, hv18⟩ h25 hd26
        replace h25 : m_laws_szActionS_l1 a1 left15 n17 = some o24 := h25
        unfold m_laws_szActionS_l1 at h25
        refine wp_seq ?_
        refine wp_seq ?_
        refine region_pl ?_
        refine q_ hf rfl rfl rfl (e_move hf rfl) fun a hf => ?_
        refine q_ hf rfl rfl rfl (e_move hf rfl) fun a hf => ?_
        have hl27 := slice_len (hM.dat (k := 0) rfl)
        refine q_ hf rfl rfl rfl (e_lenL hf (x := a1) rfl Tryd.underlying41) fun a hf => ?_
        refine q_ hf rfl rfl rfl (e_lt hf (x := n17) (y := (a1.length : Int)) rfl rfl) fun a hf => ?_
        refine pl_nil ?_
        refine then_n ?_
        rcases cond_some h25 with ⟨hc28, h25⟩ | ⟨hc28, h25⟩
        · refine cond_t hf rfl hc28 ?_
          refine wp_skip ?_
          refine then_n ?_
          refine wp_seq ?_
          refine wp_block ?_
          refine wp_seq ?_
          refine region_pl ?_
          refine q_ hf rfl rfl rfl (e_move hf rfl) fun a hf => ?_
          refine q_ hf rfl rfl rfl (e_move hf rfl) fun a hf => ?_
          obtain ⟨e29, hz30, h25⟩ := bind_some h25
          obtain ⟨b34, o35, _, hA36, h31, h32, hr33, hM⟩ := hM.elem (hM.dat (k := 0) rfl) (n := 7) rfl hz30
          obtain ⟨rfl, hv37, hv38, hv39, hv40, hv41, hv42⟩ := ActionRep_open hr33
          refine q_ hf rfl rfl rfl (e_indexAddr (A := A2) (b := b34) (o := o35) (xs := a1) (i := n17) hf hA36 rfl rfl Tryd.underlying41 Tryd.sizeOf34 h31 h32) fun a hf => ?_
          refine q_ hf rfl rfl rfl (e_loadA hf (us := [vI (e29.Kind), vI (e29.Play.Row), vI (e29.Play.Col), .bool (e29.Play.Down), vS (e29.Play.Word), vS (e29.Tiles), vI (e29.Seconds)]) rfl ⟨Tryd.isAgg34, Tryd.sizeOf34⟩ rfl (hM.litSub (k := 0) (d := 0) (us := [vI (e29.Kind), vI (e29.Play.Row), vI (e29.Play.Col), .bool (e29.Play.Down), vS (e29.Play.Word), vS (e29.Tiles), vI (e29.Seconds)]) rfl rfl rfl)) fun a hf => ?_
          refine q_ hf rfl rfl rfl (e_move hf rfl) fun a hf => ?_
          obtain ⟨y43, hz44, h25⟩ := bind_some h25
          refine pl_l hf rfl rfl rfl (w_call hf Tryd.call11 rfl (r_laws_szAction ⟨_, Sh C _ _, none_, hM.sh_lt, none_not, C.G, hM.g_lt, g_none, hM.tabs⟩ e29 hv37 hv38 hv39 hv40 hv41 hv42 left15 hv16 _ hz44) ?_)
          rintro _ w46 ⟨rfl, hM2, hv45⟩
          obtain ⟨hM, hx47, hup48⟩ := hM.back hM2
          dsimp only [List.cons_append, List.nil_append] at hM hup48
          clear hM2
          refine ⟨_, rfl, fun a hf => ?_⟩
          refine q_ hf rfl rfl rfl (e_assign hf rfl) fun a hf => ?_
          refine pl_nil ?_
          refine then_n ?_
          refine wp_seq ?_
          refine region_pl ?_
          refine q_ hf rfl rfl rfl (e_move hf rfl) fun a hf => ?_
          refine q_ hf rfl rfl rfl (e_lt hf (x := y43) (y := 0) rfl rfl) fun a hf => ?_
          refine pl_nil ?_
          refine then_n ?_
          rcases cond_some h25 with ⟨hc49, h25⟩ | ⟨hc49, h25⟩
          · refine cond_t hf rfl hc49 ?_
            refine wp_seq ?_
            refine region_pl ?_
            refine q_ hf rfl rfl rfl (e_assign hf rfl) fun a hf => ?_
            refine pl_nil ?_
            refine then_n ?_
            refine wp_ret ?_
            refine blk_r ?_
            refine then_r ?_
            obtain rfl := some_inj h25
            obtain rfl := hd26 _ rfl
            try dsimp only at h14
            refine then_r ?_
            refine blk_r ?_
            obtain rfl := some_inj h14
            try dsimp only at h
            refine then_r ?_
            obtain rfl := some_inj h
            exact leave1 hf rfl rfl ⟨rfl, hM.fin, (R64_lit rfl)⟩
          · refine cond_f hf rfl hc49 ?_
            refine wp_skip ?_
            refine blk_n ?_
            refine then_n ?_
            refine region_pl ?_
            refine q_ hf rfl rfl rfl (e_move hf rfl) fun a hf => ?_
            obtain ⟨z50, hz51, h25⟩ := bind_some h25
            refine q_ hf rfl rfl rfl (e_add hf rfl rfl hz51) fun a hf => ?_
            refine q_ hf rfl rfl rfl (e_assign hf rfl) fun a hf => ?_
            refine pl_nil ?_
            obtain rfl := some_inj h25
            refine then_n ⟨_, rfl, ?_⟩
            exact ⟨y43, z50, rfl, hf.keep ⟨rfl, rfl, rfl, trivial⟩, hM.pick [1] rfl, hv45, (chk_R hz51)⟩
        · refine cond_f hf rfl hc28 ?_
          refine wp_exit ?_
          refine then_x ?_
          obtain rfl := some_inj h25
          obtain rfl := hd26 _ rfl
          try dsimp only at h14
          refine then_x ?_
          refine exit_hit ?_
          obtain rfl := some_inj h14
          refine then_n ?_
          exact ⟨left15, rfl, hf.keep ⟨rfl, trivial⟩, hM.pick [0] rfl, hv16⟩
    · rintro a w58 ⟨left11, rfl, hf, hM, hv12⟩
      try dsimp only at h
      refine wp_seq ?_
      refine region_pl ?_
      refine q_ hf rfl rfl rfl (e_move hf rfl) fun a hf => ?_
      refine q_ hf rfl rfl rfl (e_assign hf rfl) fun a hf => ?_
      refine pl_nil ?_
      refine then_n ?_
      refine wp_ret ?_
      obtain rfl := some_inj h
      exact leave1 hf rfl rfl ⟨rfl, hM.fin, hv12⟩

set_option maxRecDepth 100000 in
set_option maxHeartbeats 4000000 in
theorem r_laws_szRecord (C : Cx) (a1 : Record) (hp2 : R64 a1.Seed) (A3 : Option Addr) (c4 : Nat) (hp5 : (sliceRep ActionRep).R C.w0 C.S0 a1.Actions [vL A3 a1.Actions c4]) (left6 : Int) (hp7 : R64 left6) (r : Int) (h : m_laws_szRecord a1 left6 = some r) :
    Calls Tryd.prog 15 #[.agg #[vI (a1.Seed), vL A3 (a1.Actions) c4], vI (left6)] C.w0 fun e w => e = .returned (vI (r)) ∧ Mem C w [] [] ∧ R64 r := by
  have hM := Mem.begin C [.dat (sliceRep ActionRep) a1.Actions [vL A3 a1.Actions c4]] ⟨hp5, trivial⟩
  refine enter Tryd.func15 rfl Tryd.ntmps15 rfl fun a hf => ?_
  unfold m_laws_szRecord at h
  refine wp_seq ?_
  refine region_pl ?_
  refine pl_l hf rfl rfl rfl (w_box hf hM (cs := [vI (a1.Seed), vL A3 (a1.Actions) c4]) rfl rfl fun b8 w9 hx10 hM a hf => ?_)
  refine q_ hf rfl rfl rfl (e_assign hf rfl) fun a hf => ?_
  refine pl_nil ?_
  refine then_n ?_
  refine wp_seq ?_
  refine region_pl ?_
  refine q_ hf rfl rfl rfl (e_field hf rfl Tryd.underlying43 rfl Tryd.sizeOf41 (o' := 1) rfl) fun a hf => ?_
  refine q_ hf rfl rfl rfl (e_load1 hf rfl Tryd.isAgg41 (hM.boxCell (k := 0) rfl rfl)) fun a hf => ?_
  refine q_ hf rfl rfl rfl (e_move hf rfl) fun a hf => ?_
  obtain ⟨y12, hz13, h⟩ := bind_some h
  refine pl_l hf rfl rfl rfl (w_call hf Tryd.call36 rfl (r_laws_szActionS ⟨_, Sh C _ _, none_, hM.sh_lt, none_not, C.G, hM.g_lt, g_none, hM.tabs⟩ a1.Actions _ _ (hM.dat (k := 0) rfl) left6 hp7 _ hz13) ?_)
  rintro _ w15 ⟨rfl, hM2, hv14⟩
  obtain ⟨hM, hx16, hup17⟩ := hM.back hM2
  dsimp only [List.cons_append, List.nil_append] at hM hup17
  clear hM2
  refine ⟨_, rfl, fun a hf => ?_⟩
  refine q_ hf rfl rfl rfl (e_assign hf rfl) fun a hf => ?_
  refine pl_nil ?_
  refine then_n ?_
  refine wp_seq ?_
  refine wp_seq ?_
  refine region_pl ?_
  refine q_ hf rfl rfl rfl (e_move hf rfl) fun a hf => ?_
  refine q_ hf rfl rfl rfl (e_lt hf (x := y12) (y := 0) rfl rfl) fun a hf => ?_
  refine pl_nil ?_
  refine then_n ?_
  rcases cond_some h with ⟨hc18, h⟩ | ⟨hc18, h⟩
  · refine cond_t hf rfl hc18 ?_
    refine wp_seq ?_
    refine region_pl ?_
    refine q_ hf rfl rfl rfl (e_assign hf rfl) fun a hf => ?_
    refine pl_nil ?_
    refine then_n ?_
    refine wp_ret ?_
    refine then_r ?_
    obtain rfl := some_inj h
    have hM := hM.outs (own' := []) 0 rfl
    exact leave1 hf rfl rfl ⟨rfl, hM.fin, (R64_lit rfl)⟩
  · refine cond_f hf rfl hc18 ?_
    refine wp_skip ?_
    refine then_n ?_
    refine wp_seq ?_
    refine region_pl ?_
    refine q_ hf rfl rfl rfl (e_move hf rfl) fun a hf => ?_
    refine q_ hf rfl rfl rfl (e_assign hf rfl) fun a hf => ?_
    refine pl_nil ?_
    refine then_n ?_
    refine wp_ret ?_
    obtain rfl := some_inj h
    have hM := hM.outs (own' := []) 0 rfl
    exact leave1 hf rfl rfl ⟨rfl, hM.fin, hv14⟩

set_option maxRecDepth 100000 in
set_option maxHeartbeats 4000000 in
theorem r_laws_toPlay (C : Cx) (a1 : Play) (hp2 : R64 a1.Row) (hp3 : R64 a1.Col) (hp4 : a1.Word.length ≤ maxLen) (r : Play) (h : m_laws_toPlay a1 = some r) :
    Calls Tryd.prog 25 #[.agg #[vI (a1.Row), vI (a1.Col), .bool (a1.Down), vS (a1.Word)]] C.w0 fun e w => e = .returned (.agg #[vI (r.Row), vI (r.Col), .bool (r.Down), vS (r.Word)]) ∧ Mem C w [] [] ∧ R64 r.Row ∧ R64 r.Col ∧ r.Word.length ≤ maxLen := by
  have hM := Mem.begin C [] trivial
  refine enter Tryd.func25 rfl Tryd.ntmps25 rfl fun a hf => ?_
  unfold m_laws_toPlay at h
  refine wp_seq ?_
  refine region_pl ?_
  refine pl_l hf rfl rfl rfl (w_box hf hM (cs := [vI (a1.Row), vI (a1.Col), .bool (a1.Down), vS (a1.Word)]) rfl rfl fun b5 w6 hx7 hM a hf => ?_)
  refine pl_l hf rfl rfl rfl (w_alloc hM (cs := [vI (0), vI (0), .bool (false), vS (([] : Str))]) Tryd.zeroValue28 rfl fun b9 w10 hx11 hM a hf => ?_)
  refine pl_nil ?_
  refine then_n ?_
  refine wp_seq ?_
  refine region_pl ?_
  refine pl_l hf rfl rfl rfl (w_alloc hM (cs := [vI (0), vI (0), .bool (false), vS (([] : Str))]) Tryd.zeroValue28 rfl fun b13 w14 hx15 hM a hf => ?_)
  refine pl_nil ?_
  refine then_n ?_
  refine wp_seq ?_
  refine region_pl ?_
  refine q_ hf rfl rfl rfl (e_field hf rfl Tryd.underlying23 rfl Tryd.sizeOf2 (o' := 0) rfl) fun a hf => ?_
  refine q_ hf rfl rfl rfl (e_load1 hf rfl Tryd.isAgg2 (hM.boxCell (k := 2) rfl rfl)) fun a hf => ?_
  refine q_ hf rfl rfl rfl (e_field hf rfl Tryd.underlying28 rfl Tryd.sizeOf2 (o' := 0) rfl) fun a hf => ?_
  refine pl_0 hf rfl rfl (w_store hf hM (us := [vI (a1.Row)]) (cs' := [vI (a1.Row), vI (0), .bool (false), vS (([] : Str))]) rfl rfl (k := 0) rfl rfl Tryd.sizeOf2 rfl rfl rfl fun w17 hM => ?_)
  dsimp only [List.set] at hM
  refine pl_nil ?_
  refine then_n ?_
  refine wp_seq ?_
  refine region_pl ?_
  refine q_ hf rfl rfl rfl (e_field hf rfl Tryd.underlying23 rfl Tryd.sizeOf2 (o' := 1) rfl) fun a hf => ?_
  refine q_ hf rfl rfl rfl (e_load1 hf rfl Tryd.isAgg2 (hM.boxCell (k := 2) rfl rfl)) fun a hf => ?_
  refine q_ hf rfl rfl rfl (e_field hf rfl Tryd.underlying28 rfl Tryd.sizeOf2 (o' := 1) rfl) fun a hf => ?_
  refine pl_0 hf rfl rfl (w_store hf hM (us := [vI (a1.Col)]) (cs' := [vI (a1.Row), vI (a1.Col), .bool (false), vS (([] : Str))]) rfl rfl (k := 0) rfl rfl Tryd.sizeOf2 rfl rfl rfl fun w20 hM => ?_)
  dsimp only [List.set] at hM
  refine pl_nil ?_
  refine then_n ?_
  refine wp_seq ?_
  refine region_pl ?_
  refine q_ hf rfl rfl rfl (e_field hf rfl Tryd.underlying23 rfl Tryd.sizeOf4 (o' := 2) rfl) fun a hf => ?_
  refine q_ hf rfl rfl rfl (e_load1 hf rfl Tryd.isAgg4 (hM.boxCell (k := 2) rfl rfl)) fun a hf => ?_
  refine q_ hf rfl rfl rfl (e_field hf rfl Tryd.underlying28 rfl Tryd.sizeOf4 (o' := 2) rfl) fun a hf => ?_
  refine pl_0 hf rfl rfl (w_store hf hM (us := [.bool (a1.Down)]) (cs' := [vI (a1.Row), vI (a1.Col), .bool (a1.Down), vS (([] : Str))]) rfl rfl (k := 0) rfl rfl Tryd.sizeOf4 rfl rfl rfl fun w23 hM => ?_)
  dsimp only [List.set] at hM
  refine pl_nil ?_
  refine then_n ?_
  refine wp_seq ?_
  refine region_pl ?_
  refine q_ hf rfl rfl rfl (e_field hf rfl Tryd.underlying23 rfl Tryd.sizeOf9 (o' := 3) rfl) fun a hf => ?_
  refine q_ hf rfl rfl rfl (e_load1 hf rfl Tryd.isAgg9 (hM.boxCell (k := 2) rfl rfl)) fun a hf => ?_
  refine q_ hf rfl rfl rfl (e_field hf rfl Tryd.underlying28 rfl Tryd.sizeOf9 (o' := 3) rfl) fun a hf => ?_
  refine pl_0 hf rfl rfl (w_store hf hM (us := [vS (a1.Word)]) (cs' := [vI (a1.Row), vI (a1.Col), .bool (a1.Down), vS (a1.Word)]) rfl rfl (k := 0) rfl rfl Tryd.sizeOf9 rfl rfl rfl fun w26 hM => ?_)
  dsimp only [List.set] at hM
  refine pl_nil ?_
  refine then_n ?_
  refine wp_seq ?_
  refine region_pl ?_
  refine q_ hf rfl rfl rfl (e_loadA hf (us := [vI (a1.Row), vI (a1.Col), .bool (a1.Down), vS (a1.Word)]) rfl ⟨Tryd.isAgg28, Tryd.sizeOf28⟩ rfl (hM.boxSub (k := 0) (us := [vI (a1.Row), vI (a1.Col), .bool (a1.Down), vS (a1.Word)]) (o := 0) rfl rfl)) fun a hf => ?_
  refine pl_0 hf rfl rfl (w_store hf hM (us := [vI (a1.Row), vI (a1.Col), .bool (a1.Down), vS (a1.Word)]) (cs' := [vI (a1.Row), vI (a1.Col), .bool (a1.Down), vS (a1.Word)]) rfl rfl (k := 1) rfl rfl Tryd.sizeOf28 rfl rfl rfl fun w29 hM => ?_)
  dsimp only [List.set] at hM
  refine pl_nil ?_
  refine then_n ?_
  refine wp_ret ?_
  obtain rfl := some_inj h
  have hres32 := leaveV1 (P := Tryd.prog) Tryd.results25 (res_agg hf rfl ⟨Tryd.isAgg28, Tryd.sizeOf28⟩ (us := [vI (a1.Row), vI (a1.Col), .bool (a1.Down), vS (a1.Word)]) rfl (hM.boxSub (k := 1) (o := 0) rfl rfl))
  have hM := hM.outs (own' := []) 0 rfl
  exact bodyPost_ret hres32 hf.defers ⟨rfl, hM.fin, hp2, hp3, hp4⟩

set_option maxRecDepth 100000 in
set_option maxHeartbeats 4000000 in
theorem r_laws_toAction (C : Cx) (a1 : Action) (hp2 : R64 a1.Kind) (hp3 : R64 a1.Play.Row) (hp4 : R64 a1.Play.Col) (hp5 : a1.Play.Word.length ≤ maxLen) (hp6 : a1.Tiles.length ≤ maxLen) (hp7 : R64 a1.Seconds) (r : Action) (h : m_laws_toAction a1 = some r) :
    Calls Tryd.prog 13 #[.agg #[vI (a1.Kind), vI (a1.Play.Row), vI (a1.Play.Col), .bool (a1.Play.Down), vS (a1.Play.Word), vS (a1.Tiles), vI (a1.Seconds)]] C.w0 fun e w => e = .returned (.agg #[vI (r.Kind), vI (r.Play.Row), vI (r.Play.Col), .bool (r.Play.Down), vS (r.Play.Word), vS (r.Tiles), vI (r.Seconds)]) ∧ Mem C w [] [] ∧ R64 r.Kind ∧ R64 r.Play.Row ∧ R64 r.Play.Col ∧ r.Play.Word.length ≤ maxLen ∧ r.Tiles.length ≤ maxLen ∧ R64 r.Seconds := by
  have hM := Mem.begin C [] trivial
  refine enter Tryd.func13 rfl Tryd.ntmps13 rfl fun a hf => ?_
  unfold m_laws_toAction at h
  refine wp_seq ?_
  refine region_pl ?_
  refine pl_l hf rfl rfl rfl (w_box hf hM (cs := [vI (a1.Kind), vI (a1.Play.Row), vI (a1.Play.Col), .bool (a1.Play.Down), vS (a1.Play.Word), vS (a1.Tiles), vI (a1.Seconds)]) rfl rfl fun b8 w9 hx10 hM a hf => ?_)
  refine pl_l hf rfl rfl rfl (w_alloc hM (cs := [vI (0), vI (0), vI (0), .bool (false), vS (([] : Str)), vS (([] : Str)), vI (0)]) Tryd.zeroValue38 rfl fun b12 w13 hx14 hM a hf => ?_)
  refine pl_nil ?_
  refine then_n ?_
  refine wp_seq ?_
  refine region_pl ?_
  refine pl_l hf rfl rfl rfl (w_alloc hM (cs := [vI (0), vI (0), vI (0), .bool (false), vS (([] : Str)), vS (([] : Str)), vI (0)]) Tryd.zeroValue38 rfl fun b16 w17 hx18 hM a hf => ?_)
  refine pl_nil ?_
  refine then_n ?_
  refine wp_seq ?_
  refine region_pl ?_
  refine q_ hf rfl rfl rfl (e_field hf rfl Tryd.underlying34 rfl Tryd.sizeOf2 (o' := 0) rfl) fun a hf => ?_
  refine q_ hf rfl rfl rfl (e_load1 hf rfl Tryd.isAgg2 (hM.boxCell (k := 2) rfl rfl)) fun a hf => ?_
  refine q_ hf rfl rfl rfl (e_field hf rfl Tryd.underlying38 rfl Tryd.sizeOf2 (o' := 0) rfl) fun a hf => ?_
  refine pl_0 hf rfl rfl (w_store hf hM (us := [vI (a1.Kind)]) (cs' := [vI (a1.Kind), vI (0), vI (0), .bool (false), vS (([] : Str)), vS (([] : Str)), vI (0)]) rfl rfl (k := 0) rfl rfl Tryd.sizeOf2 rfl rfl rfl fun w20 hM => ?_)
  dsimp only [List.set] at hM
  refine pl_nil ?_
  refine then_n ?_
  refine wp_seq ?_
  refine region_pl ?_
  refine q_ hf rfl rfl rfl (e_field hf rfl Tryd.underlying34 rfl Tryd.sizeOf23 (o' := 1) rfl) fun a hf => ?_
  refine q_ hf rfl rfl rfl (e_loadA hf (us := [vI (a1.Play.Row), vI (a1.Play.Col), .bool (a1.Play.Down), vS (a1.Play.Word)]) rfl ⟨Tryd.isAgg23, Tryd.sizeOf23⟩ rfl (hM.boxSub (k := 2) (us := [vI (a1.Play.Row), vI (a1.Play.Col), .bool (a1.Play.Down), vS (a1.Play.Word)]) (o := 1) rfl rfl)) fun a hf => ?_
  obtain ⟨y23, hz24, h⟩ := bind_some h
  refine pl_l hf rfl rfl rfl (w_call hf Tryd.call25 rfl (r_laws_toPlay ⟨_, Sh C _ _, none_, hM.sh_lt, none_not, C.G, hM.g_lt, g_none, hM.tabs⟩ a1.Play hp3 hp4 hp5 _ hz24) ?_)
  rintro _ w28 ⟨rfl, hM2, hv25, hv26, hv27⟩
  obtain ⟨hM, hx29, hup30⟩ := hM.back hM2
  dsimp only [List.cons_append, List.nil_append] at hM hup30
  clear hM2
  refine ⟨_, rfl, fun a hf => ?_⟩
  refine q_ hf rfl rfl rfl (e_field hf rfl Tryd.underlying38 rfl Tryd.sizeOf28 (o' := 1) rfl) fun a hf => ?_
  refine pl_0 hf rfl rfl (w_store hf hM (us := [vI (y23.Row), vI (y23.Col), .bool (y23.Down), vS (y23.Word)]) (cs' := [vI (a1.Kind), vI (y23.Row), vI (y23.Col), .bool (y23.Down), vS (y23.Word), vS (([] : Str)), vI (0)]) rfl rfl (k := 0) rfl rfl Tryd.sizeOf28 rfl rfl rfl fun w31 hM => ?_)
  dsimp only [List.set] at hM
  refine pl_nil ?_
  refine then_n ?_
  refine wp_seq ?_
  refine region_pl ?_
  refine q_ hf rfl rfl rfl (e_field hf rfl Tryd.underlying34 rfl Tryd.sizeOf9 (o' := 5) rfl) fun a hf => ?_
  refine q_ hf rfl rfl rfl (e_load1 hf rfl Tryd.isAgg9 (hM.boxCell (k := 2) rfl rfl)) fun a hf => ?_
  refine q_ hf rfl rfl rfl (e_field hf rfl Tryd.underlying38 rfl Tryd.sizeOf9 (o' := 5) rfl) fun a hf => ?_
  refine pl_0 hf rfl rfl (w_store hf hM (us := [vS (a1.Tiles)]) (cs' := [vI (a1.Kind), vI (y23.Row), vI (y23.Col), .bool (y23.Down), vS (y23.Word), vS (a1.Tiles), vI (0)]) rfl rfl (k := 0) rfl rfl Tryd.sizeOf9 rfl rfl rfl fun w34 hM => ?_)
  dsimp only [List.set] at hM
  refine pl_nil ?_
  refine then_n ?_
  refine wp_seq ?_
  refine region_pl ?_
  refine q_ hf rfl rfl rfl (e_field hf rfl Tryd.underlying34 rfl Tryd.sizeOf2 (o' := 6) rfl) fun a hf => ?_
  refine q_ hf rfl rfl rfl (e_load1 hf rfl Tryd.isAgg2 (hM.boxCell (k := 2) rfl rfl)) fun a hf => ?_
  refine q_ hf rfl rfl rfl (e_field hf rfl Tryd.underlying38 rfl Tryd.sizeOf2 (o' := 6) rfl) fun a hf => ?_
  refine pl_0 hf rfl rfl (w_store hf hM (us := [vI (a1.Seconds)]) (cs' := [vI (a1.Kind), vI (y23.Row), vI (y23.Col), .bool (y23.Down), vS (y23.Word), vS (a1.Tiles), vI (a1.Seconds)]) rfl rfl (k := 0) rfl rfl Tryd.sizeOf2 rfl rfl rfl fun w37 hM => ?_)
  dsimp only [List.set] at hM
  refine pl_nil ?_
  refine then_n ?_
  refine wp_seq ?_
  refine region_pl ?_
  refine q_ hf rfl rfl rfl (e_loadA hf (us := [vI (a1.Kind), vI (y23.Row), vI (y23.Col), .bool (y23.Down), vS (y23.Word), vS (a1.Tiles), vI (a1.Seconds)]) rfl ⟨Tryd.isAgg38, Tryd.sizeOf38⟩ rfl (hM.boxSub (k := 0) (us := [vI (a1.Kind), vI (y23.Row), vI (y23.Col), .bool (y23.Down), vS (y23.Word), vS (a1.Tiles), vI (a1.Seconds)]) (o := 0) rfl rfl)) fun a hf => ?_
  refine pl_0 hf rfl rfl (w_store hf hM (us := [vI (a1.Kind), vI (y23.Row), vI (y23.Col), .bool (y23.Down), vS (y23.Word), vS (a1.Tiles), vI (a1.Seconds)]) (cs' := [vI (a1.Kind), vI (y23.Row), vI (y23.Col), .bool (y23.Down), vS (y23.Word), vS (a1.Tiles), vI (a1.Seconds)]) rfl rfl (k := 1) rfl rfl Tryd.sizeOf38 rfl rfl rfl fun w40 hM => ?_)
  dsimp only [List.set] at hM
  refine pl_nil ?_
  refine then_n ?_
  refine wp_ret ?_
  obtain rfl := some_inj h
  have hres43 := leaveV1 (P := Tryd.prog) Tryd.results13 (res_agg hf rfl ⟨Tryd.isAgg38, Tryd.sizeOf38⟩ (us := [vI (a1.Kind), vI (y23.Row), vI (y23.Col), .bool (y23.Down), vS (y23.Word), vS (a1.Tiles), vI (a1.Seconds)]) rfl (hM.boxSub (k := 1) (o := 0) rfl rfl))
  have hM := hM.outs (own' := []) 0 rfl
  exact bodyPost_ret hres43 hf.defers ⟨rfl, hM.fin, hp2, hv25, hv26, hv27, hp6, hp7⟩

set_option maxRecDepth 100000 in
set_option maxHeartbeats 4000000 in
theorem r_laws_toActionS (C : Cx) (a1 : (List Action)) (A2 : Option Addr) (c3 : Nat) (hp4 : (sliceRep ActionRep).R C.w0 C.S0 a1 [vL A2 a1 c3]) (r : (List Action)) (h : m_laws_toActionS a1 = some r) :
    Calls Tryd.prog 38 #[vL A2 (a1) c3] C.w0 fun e w => ∃ (A_1 : Option Addr), ∃ (c_1 : Nat), e = .returned (vL A_1 (r) c_1) ∧ Mem C w [.row ActionRep A_1 c_1 38 r true] [] := by
  have hM := Mem.begin C [.dat (sliceRep ActionRep) a1 [vL A2 a1 c3]] ⟨hp4, trivial⟩
  refine enter Tryd.func38 rfl Tryd.ntmps38 rfl fun a hf => ?_
  unfold m_laws_toActionS at h
  refine wp_seq ?_
  refine region_pl ?_
  refine q_ hf rfl rfl rfl (e_assign hf rfl) fun a hf => ?_
  refine pl_nil ?_
  refine then_n ?_
  refine wp_seq ?_
  refine region_pl ?_
  refine q_ hf rfl rfl rfl (e_move hf rfl) fun a hf => ?_
  have hl5 := slice_len (hM.dat (k := 0) rfl)
  refine q_ hf rfl rfl rfl (e_lenL hf (x := a1) rfl Tryd.underlying41) fun a hf => ?_
  obtain ⟨xs6, hz7, h⟩ := bind_some h
  refine pl_l hf rfl rfl rfl (w_make hf hM (K := ActionRep) Tryd.underlying46 ei_38 Tryd.zeroValue38 rfl rfl rfl (ActionRep_mk (x := (⟨0, ⟨0, 0, false, ([] : Str)⟩, ([] : Str), 0⟩ : Action)) (R64_lit rfl) (R64_lit rfl) (R64_lit rfl) (lit_len rfl) (lit_len rfl) (R64_lit rfl)) hz7 fun b8 w9 hx10 hM a hf => ?_)
  refine q_ hf rfl rfl rfl (e_assign hf rfl) fun a hf => ?_
  refine pl_nil ?_
  refine then_n ?_
  obtain ⟨x12, h13, h⟩ := bind_some h
  refine seq_join (fun a w => ∃ (xs11 : (List Action)), xs11 = x12 ∧ Has 23 a [(3, vL (some ⟨b8, 0, none⟩) (xs11) (((a1.length : Int) : Int).toNat))] ∧ Mem C w [.row ActionRep (some ⟨b8, 0, none⟩) (((a1.length : Int) : Int).toNat) 38 xs11 true] [.dat (sliceRep ActionRep) a1 [vL A2 a1 c3]]) ?_ ?_
  · refine wp_seq ?_
    refine region_pl ?_
    refine q_ hf rfl rfl rfl (e_assign hf rfl) fun a hf => ?_
    refine pl_nil ?_
    refine then_n ?_
    refine wp_block ?_
    obtain ⟨x19, h20, h13⟩ := bind_some h13
    refine wp_loopM h20 (fun s a w => ∃ (xs14 : (List Action)) (n15 : Int), (xs14, n15) = s ∧ Has 23 a [(0, vL A2 (a1) c3), (3, vL (some ⟨b8, 0, none⟩) (xs14) (((a1.length : Int) : Int).toNat)), (4, vI (n15))] ∧ Mem C w [.row ActionRep (some ⟨b8, 0, none⟩) (((a1.length : Int) : Int).toNat) 38 xs14 true] [.dat (sliceRep ActionRep) a1 [vL A2 a1 c3]] ∧ R64 n15) ?_ ?_
    · exact ⟨xs6, 0, rfl, hf.keep ⟨rfl, rfl, rfl, trivial⟩, hM.pick [0] rfl, (R64_lit rfl)⟩
    · rintro s o21 a w17 ⟨xs14, n15, rfl, hf, hM, hv16⟩ h22 hd23
      replace h22 : m_laws_toActionS_l1 a1 xs14 n15 = some o21 := h22
      unfold m_laws_toActionS_l1 at h22
      refine wp_seq ?_
      refine wp_seq ?_
      refine region_pl ?_
      refine q_ hf rfl rfl rfl (e_move hf rfl) fun a hf => ?_
      refine q_ hf rfl rfl rfl (e_move hf rfl) fun a hf => ?_
      have hl24 := slice_len (hM.dat (k := 0) rfl)
      refine q_ hf rfl rfl rfl (e_lenL hf (x := a1) rfl Tryd.underlying41) fun a hf => ?_
      refine q_ hf rfl rfl rfl (e_lt hf (x := n15) (y := (a1.length : Int)) rfl rfl) fun a hf => ?_
      refine pl_nil ?_
      refine then_n ?_
      rcases cond_some h22 with ⟨hc25, h22⟩ | ⟨hc25, h22⟩
      · refine cond_t hf rfl hc25 ?_
        refine wp_skip ?_
        refine then_n ?_
        refine wp_seq ?_
        refine wp_block ?_
        refine region_pl ?_
        refine q_ hf rfl rfl rfl (e_move hf rfl) fun a hf => ?_
        refine q_ hf rfl rfl rfl (e_move hf rfl) fun a hf => ?_
        refine q_ hf rfl rfl rfl (e_move hf rfl) fun a hf => ?_
        refine q_ hf rfl rfl rfl (e_move hf rfl) fun a hf => ?_
        obtain ⟨e26, hz27, h22⟩ := bind_some h22
        obtain ⟨b31, o32, _, hA33, h28, h29, hr30, hM⟩ := hM.elem (hM.dat (k := 0) rfl) (n := 7) rfl hz27
        obtain ⟨rfl, hv34, hv35, hv36, hv37, hv38, hv39⟩ := ActionRep_open hr30
        refine q_ hf rfl rfl rfl (e_indexAddr (A := A2) (b := b31) (o := o32) (xs := a1) (i := n15) hf hA33 rfl rfl Tryd.underlying41 Tryd.sizeOf34 h28 h29) fun a hf => ?_
        refine q_ hf rfl rfl rfl (e_loadA hf (us := [vI (e26.Kind), vI (e26.Play.Row), vI (e26.Play.Col), .bool (e26.Play.Down), vS (e26.Play.Word), vS (e26.Tiles), vI (e26.Seconds)]) rfl ⟨Tryd.isAgg34, Tryd.sizeOf34⟩ rfl (hM.litSub (k := 0) (d := 0) (us := [vI (e26.Kind), vI (e26.Play.Row), vI (e26.Play.Col), .bool (e26.Play.Down), vS (e26.Play.Word), vS (e26.Tiles), vI (e26.Seconds)]) rfl rfl rfl)) fun a hf => ?_
        obtain ⟨y40, hz41, h22⟩ := bind_some h22
        refine pl_l hf rfl rfl rfl (w_call hf Tryd.call13 rfl (r_laws_toAction ⟨_, Sh C _ _, none_, hM.sh_lt, none_not, C.G, hM.g_lt, g_none, hM.tabs⟩ e26 hv34 hv35 hv36 hv37 hv38 hv39 _ hz41) ?_)
        rintro _ w48 ⟨rfl, hM2, hv42, hv43, hv44, hv45, hv46, hv47⟩
        obtain ⟨hM, hx49, hup50⟩ := hM.back hM2
        dsimp only [List.cons_append, List.nil_append] at hM hup50
        clear hM2
        refine ⟨_, rfl, fun a hf => ?_⟩
        obtain ⟨e51, hz52, h22⟩ := bind_some h22
        obtain ⟨_, h53, h54, hr55, hcell56⟩ := hM.rowElem' (k := 0) rfl (n := 7) rfl hz52
        obtain ⟨rfl, hv57, hv58, hv59, hv60, hv61, hv62⟩ := ActionRep_open hr55
        refine q_ hf rfl rfl rfl (e_indexAddr (A := (some ⟨b8, 0, none⟩)) (b := b8) (o := 0) (xs := xs14) (i := n15) hf rfl rfl rfl Tryd.underlying46 Tryd.sizeOf38 h53 h54) fun a hf => ?_
        obtain ⟨xs64, hz65, h22⟩ := bind_some h22
        refine pl_0 hf rfl rfl (w_storeElem hf hM (x := y40) (row := [vI (y40.Kind), vI (y40.Play.Row), vI (y40.Play.Col), .bool (y40.Play.Down), vS (y40.Play.Word), vS (y40.Tiles), vI (y40.Seconds)]) (i := n15) rfl rfl rfl rfl (k := 0) rfl rfl Tryd.sizeOf38 (ActionRep_mk (x := y40) hv42 hv43 hv44 hv45 hv46 hv47) hz65 fun w63 hM => ?_)
        dsimp only [List.set] at hM
        have hf := hf.alter (d := 3) (v := vL (some ⟨b8, 0, none⟩) (xs64) (((a1.length : Int) : Int).toNat)) rfl (vL_len (setL_len hz65))
        have hf := hf.alter (d := 14) (v := vL (some ⟨b8, 0, none⟩) (xs64) (((a1.length : Int) : Int).toNat)) rfl (vL_len (setL_len hz65))
        refine pl_nil ?_
        refine blk_n ?_
        refine then_n ?_
        refine region_pl ?_
        refine q_ hf rfl rfl rfl (e_move hf rfl) fun a hf => ?_
        obtain ⟨z66, hz67, h22⟩ := bind_some h22
        refine q_ hf rfl rfl rfl (e_add hf rfl rfl hz67) fun a hf => ?_
        refine q_ hf rfl rfl rfl (e_assign hf rfl) fun a hf => ?_
        refine pl_nil ?_
        obtain rfl := some_inj h22
        refine then_n ⟨_, rfl, ?_⟩
        exact ⟨xs64, z66, rfl, hf.keep ⟨rfl, rfl, rfl, trivial⟩, hM.pick [1] rfl, (chk_R hz67)⟩
      · refine cond_f hf rfl hc25 ?_
        refine wp_exit ?_
        refine then_x ?_
        obtain rfl := some_inj h22
        obtain rfl := hd23 _ rfl
        try dsimp only at h13
        refine then_x ?_
        refine exit_hit ?_
        obtain rfl := some_inj h13
        refine then_n ?_
        exact ⟨xs14, rfl, hf.keep ⟨rfl, trivial⟩, hM.pick [0] rfl⟩
  · rintro a w73 ⟨xs11, rfl, hf, hM⟩
    try dsimp only at h
    refine wp_seq ?_
    refine region_pl ?_
    refine q_ hf rfl rfl rfl (e_move hf rfl) fun a hf => ?_
    refine q_ hf rfl rfl rfl (e_assign hf rfl) fun a hf => ?_
    refine pl_nil ?_
    refine then_n ?_
    refine wp_ret ?_
    obtain rfl := some_inj h
    exact leave1 hf rfl rfl ⟨(some ⟨b8, 0, none⟩), (((a1.length : Int) : Int).toNat), rfl, hM.fin⟩

set_option maxRecDepth 100000 in
set_option maxHeartbeats 4000000 in
theorem r_laws_toRecord (C : Cx) (a1 : Record) (hp2 : R64 a1.Seed) (A3 : Option Addr) (c4 : Nat) (hp5 : (sliceRep ActionRep).R C.w0 C.S0 a1.Actions [vL A3 a1.Actions c4]) (r : Record) (h : m_laws_toRecord a1 = some r) :
    Calls Tryd.prog 17 #[.agg #[vI (a1.Seed), vL A3 (a1.Actions) c4]] C.w0 fun e w => ∃ (A_1 : Option Addr), ∃ (c_1 : Nat), e = .returned (.agg #[vI (r.Seed), vL A_1 (r.Actions) c_1]) ∧ Mem C w [.row ActionRep A_1 c_1 38 r.Actions true] [] ∧ R64 r.Seed := by
  have hM := Mem.begin C [.dat (sliceRep ActionRep) a1.Actions [vL A3 a1.Actions c4]] ⟨hp5, trivial⟩
  refine enter Tryd.func17 rfl Tryd.ntmps17 rfl fun a hf => ?_
  unfold m_laws_toRecord at h
  refine wp_seq ?_
  refine region_pl ?_
  refine pl_l hf rfl rfl rfl (w_box hf hM (cs := [vI (a1.Seed), vL A3 (a1.Actions) c4]) rfl rfl fun b6 w7 hx8 hM a hf => ?_)
  refine pl_l hf rfl rfl rfl (w_alloc hM (cs := [vI (0), vL none (([] : (List Action))) 0]) Tryd.zeroValue48 rfl fun b10 w11 hx12 hM a hf => ?_)
  refine pl_nil ?_
  refine then_n ?_
  refine wp_seq ?_
  refine region_pl ?_
  refine pl_l hf rfl rfl rfl (w_alloc hM (cs := [vI (0), vL none (([] : (List Action))) 0]) Tryd.zeroValue48 rfl fun b14 w15 hx16 hM a hf => ?_)
  refine pl_nil ?_
  refine then_n ?_
  refine wp_seq ?_
  refine region_pl ?_
  refine q_ hf rfl rfl rfl (e_field hf rfl Tryd.underlying43 rfl Tryd.sizeOf2 (o' := 0) rfl) fun a hf => ?_
  refine q_ hf rfl rfl rfl (e_load1 hf rfl Tryd.isAgg2 (hM.boxCell (k := 2) rfl rfl)) fun a hf => ?_
  refine q_ hf rfl rfl rfl (e_field hf rfl Tryd.underlying48 rfl Tryd.sizeOf2 (o' := 0) rfl) fun a hf => ?_
  refine pl_0 hf rfl rfl (w_store hf hM (us := [vI (a1.Seed)]) (cs' := [vI (a1.Seed), vL none (([] : (List Action))) 0]) rfl rfl (k := 0) rfl rfl Tryd.sizeOf2 rfl rfl rfl fun w18 hM => ?_)
  dsimp only [List.set] at hM
  refine pl_nil ?_
  refine then_n ?_
  refine wp_seq ?_
  refine region_pl ?_
  refine q_ hf rfl rfl rfl (e_field hf rfl Tryd.underlying43 rfl Tryd.sizeOf41 (o' := 1) rfl) fun a hf => ?_
  refine q_ hf rfl rfl rfl (e_load1 hf rfl Tryd.isAgg41 (hM.boxCell (k := 2) rfl rfl)) fun a hf => ?_
  obtain ⟨y21, hz22, h⟩ := bind_some h
  refine pl_l hf rfl rfl rfl (w_call hf Tryd.call38 rfl (r_laws_toActionS ⟨_, Sh C _ _, none_, hM.sh_lt, none_not, C.G, hM.g_lt, g_none, hM.tabs⟩ a1.Actions _ _ (hM.dat (k := 0) rfl) _ hz22) ?_)
  rintro _ w25 ⟨A23, c24, rfl, hM2⟩
  obtain ⟨hM, hx26, hup27⟩ := hM.back hM2
  dsimp only [List.cons_append, List.nil_append] at hM hup27
  clear hM2
  refine ⟨_, rfl, fun a hf => ?_⟩
  refine q_ hf rfl rfl rfl (e_field hf rfl Tryd.underlying48 rfl Tryd.sizeOf46 (o' := 1) rfl) fun a hf => ?_
  refine pl_0 hf rfl rfl (w_store hf hM (us := [vL A23 (y21) c24]) (cs' := [vI (a1.Seed), vL A23 (y21) c24]) rfl rfl (k := 1) rfl rfl Tryd.sizeOf46 rfl rfl rfl fun w28 hM => ?_)
  dsimp only [List.set] at hM
  refine pl_nil ?_
  refine then_n ?_
  refine wp_seq ?_
  refine region_pl ?_
  refine q_ hf rfl rfl rfl (e_loadA hf (us := [vI (a1.Seed), vL A23 (y21) c24]) rfl ⟨Tryd.isAgg48, Tryd.sizeOf48⟩ rfl (hM.boxSub (k := 1) (us := [vI (a1.Seed), vL A23 (y21) c24]) (o := 0) rfl rfl)) fun a hf => ?_
  refine pl_0 hf rfl rfl (w_store hf hM (us := [vI (a1.Seed), vL A23 (y21) c24]) (cs' := [vI (a1.Seed), vL A23 (y21) c24]) rfl rfl (k := 2) rfl rfl Tryd.sizeOf48 rfl rfl rfl fun w31 hM => ?_)
  dsimp only [List.set] at hM
  refine pl_nil ?_
  refine then_n ?_
  refine wp_ret ?_
  obtain rfl := some_inj h
  have hres34 := leaveV1 (P := Tryd.prog) Tryd.results17 (res_agg hf rfl ⟨Tryd.isAgg48, Tryd.sizeOf48⟩ (us := [vI (a1.Seed), vL A23 (y21) c24]) rfl (hM.boxSub (k := 2) (o := 0) rfl rfl))
  have hM := hM.outs (own' := [.row ActionRep A23 c24 38 y21 true]) 1 rfl
  exact bodyPost_ret hres34 hf.defers ⟨A23, c24, rfl, hM.fin, hp2⟩

set_option maxRecDepth 100000 in
set_option maxHeartbeats 4000000 in
theorem r_spec_l00In (C : Cx) (n1 : Int) (hp2 : R64 n1) (low3 : Int) (hp4 : R64 low3) (high5 : Int) (hp6 : R64 high5) (r : Bool) (h : m_spec_l00In n1 low3 high5 = some r) :
    Calls Tryd.prog 48 #[vI (n1), vI (low3), vI (high5)] C.w0 fun e w => e = .returned (.bool (r)) ∧ Mem C w [] [] := by
  have hM := Mem.begin C [] trivial
  refine enter Tryd.func48 rfl Tryd.ntmps48 rfl fun a hf => ?_
  unfold m_spec_l00In at h
  refine wp_seq ?_
  refine region_pl ?_
  refine q_ hf rfl rfl rfl (e_assign hf rfl) fun a hf => ?_
  refine pl_nil ?_
  refine then_n ?_
  obtain ⟨x9, h10, h⟩ := bind_some h
  refine seq_join (fun a w => ∃ (t7 : Bool), t7 = x9 ∧ Has 15 a [(6, .bool (t7))] ∧ Mem C w [] []) ?_ ?_
  · refine region_pl ?_
    refine q_ hf rfl rfl rfl (e_move hf rfl) fun a hf => ?_
    refine q_ hf rfl rfl rfl (e_move hf rfl) fun a hf => ?_
    refine q_ hf rfl rfl rfl (e_ge hf (x := n1) (y := low3) rfl rfl) fun a hf => ?_
    refine q_ hf rfl rfl rfl (e_move hf rfl) fun a hf => ?_
    rcases cond_some h10 with ⟨hc11, h10⟩ | ⟨hc11, h10⟩
    · refine gq (wanted_t hf rfl rfl rfl rfl hc11) hf rfl rfl (e_move hf rfl) fun a hf => ?_
      refine gq (wanted_t hf rfl rfl rfl rfl hc11) hf rfl rfl (e_move hf rfl) fun a hf => ?_
      refine gq (wanted_t hf rfl rfl rfl rfl hc11) hf rfl rfl (e_le hf (x := n1) (y := high5) rfl rfl) fun a hf => ?_
      refine q_ hf rfl rfl rfl (e_pick_t hf rfl hc11 rfl) fun a hf => ?_
      refine q_ hf rfl rfl rfl (e_assign hf rfl) fun a hf => ?_
      refine pl_nil ?_
      obtain rfl := some_inj h10
      refine then_n ?_
      exact ⟨(decide (n1 ≤ high5)), rfl, hf.keep ⟨rfl, trivial⟩, hM.pick [] rfl⟩
    · refine pl_gs (wanted_f hf rfl rfl rfl rfl hc11) hf rfl rfl fun a hf => ?_
      refine pl_gs (wanted_f hf rfl rfl rfl rfl hc11) hf rfl rfl fun a hf => ?_
      refine pl_gs (wanted_f hf rfl rfl rfl rfl hc11) hf rfl rfl fun a hf => ?_
      refine q_ hf rfl rfl rfl (e_pick_f hf rfl hc11 rfl) fun a hf => ?_
      refine q_ hf rfl rfl rfl (e_assign hf rfl) fun a hf => ?_
      refine pl_nil ?_
      obtain rfl := some_inj h10
      refine then_n ?_
      exact ⟨false, rfl, hf.keep ⟨rfl, trivial⟩, hM.pick [] rfl⟩
  · rintro a w14 ⟨t7, rfl, hf, hM⟩
    try dsimp only at h
    refine wp_ret ?_
    obtain rfl := some_inj h
    exact leave1 hf rfl rfl ⟨rfl, hM.fin⟩

set_option maxRecDepth 100000 in
set_option maxHeartbeats 4000000 in
theorem r_spec_l01Small (C : Cx) (c1 : UInt8) (r : Bool) (h : m_spec_l01Small c1 = some r) :
    Calls Tryd.prog 71 #[vB (c1)] C.w0 fun e w => e = .returned (.bool (r)) ∧ Mem C w [] [] := by
  have hM := Mem.begin C [] trivial
  refine enter Tryd.func71 rfl Tryd.ntmps71 rfl fun a hf => ?_
  unfold m_spec_l01Small at h
  refine wp_seq ?_
  refine region_pl ?_
  refine q_ hf rfl rfl rfl (e_assign hf rfl) fun a hf => ?_
  refine pl_nil ?_
  refine then_n ?_
  obtain ⟨x4, h5, h⟩ := bind_some h
  refine seq_join (fun a w => ∃ (t2 : Bool), t2 = x4 ∧ Has 9 a [(2, .bool (t2))] ∧ Mem C w [] []) ?_ ?_
  · refine region_pl ?_
    refine q_ hf rfl rfl rfl (e_move hf rfl) fun a hf => ?_
    refine q_ hf rfl rfl rfl (e_geB hf (x := c1) (y := 97) rfl rfl) fun a hf => ?_
    refine q_ hf rfl rfl rfl (e_move hf rfl) fun a hf => ?_
    rcases cond_some h5 with ⟨hc6, h5⟩ | ⟨hc6, h5⟩
    · refine gq (wanted_t hf rfl rfl rfl rfl hc6) hf rfl rfl (e_move hf rfl) fun a hf => ?_
      refine gq (wanted_t hf rfl rfl rfl rfl hc6) hf rfl rfl (e_leB hf (x := c1) (y := 122) rfl rfl) fun a hf => ?_
      refine q_ hf rfl rfl rfl (e_pick_t hf rfl hc6 rfl) fun a hf => ?_
      refine q_ hf rfl rfl rfl (e_assign hf rfl) fun a hf => ?_
      refine pl_nil ?_
      obtain rfl := some_inj h5
      refine then_n ?_
      exact ⟨(decide (c1 ≤ 122)), rfl, hf.keep ⟨rfl, trivial⟩, hM.pick [] rfl⟩
    · refine pl_gs (wanted_f hf rfl rfl rfl rfl hc6) hf rfl rfl fun a hf => ?_
      refine pl_gs (wanted_f hf rfl rfl rfl rfl hc6) hf rfl rfl fun a hf => ?_
      refine q_ hf rfl rfl rfl (e_pick_f hf rfl hc6 rfl) fun a hf => ?_
      refine q_ hf rfl rfl rfl (e_assign hf rfl) fun a hf => ?_
      refine pl_nil ?_
      obtain rfl := some_inj h5
      refine then_n ?_
      exact ⟨false, rfl, hf.keep ⟨rfl, trivial⟩, hM.pick [] rfl⟩
  · rintro a w9 ⟨t2, rfl, hf, hM⟩
    try dsimp only at h
    refine wp_ret ?_
    obtain rfl := some_inj h
    exact leave1 hf rfl rfl ⟨rfl, hM.fin⟩

set_option maxRecDepth 100000 in
set_option maxHeartbeats 4000000 in
theorem r_spec_l03Capital (C : Cx) (c1 : UInt8) (r : Bool) (h : m_spec_l03Capital c1 = some r) :
    Calls Tryd.prog 72 #[vB (c1)] C.w0 fun e w => e = .returned (.bool (r)) ∧ Mem C w [] [] := by
  have hM := Mem.begin C [] trivial
  refine enter Tryd.func72 rfl Tryd.ntmps72 rfl fun a hf => ?_
  unfold m_spec_l03Capital at h
  refine wp_seq ?_
  refine region_pl ?_
  refine q_ hf rfl rfl rfl (e_assign hf rfl) fun a hf => ?_
  refine pl_nil ?_
  refine then_n ?_
  obtain ⟨x4, h5, h⟩ := bind_some h
  refine seq_join (fun a w => ∃ (t2 : Bool), t2 = x4 ∧ Has 9 a [(2, .bool (t2))] ∧ Mem C w [] []) ?_ ?_
  · refine region_pl ?_
    refine q_ hf rfl rfl rfl (e_move hf rfl) fun a hf => ?_
    refine q_ hf rfl rfl rfl (e_geB hf (x := c1) (y := 65) rfl rfl) fun a hf => ?_
    refine q_ hf rfl rfl rfl (e_move hf rfl) fun a hf => ?_
    rcases cond_some h5 with ⟨hc6, h5⟩ | ⟨hc6, h5⟩
    · refine gq (wanted_t hf rfl rfl rfl rfl hc6) hf rfl rfl (e_move hf rfl) fun a hf => ?_
      refine gq (wanted_t hf rfl rfl rfl rfl hc6) hf rfl rfl (e_leB hf (x := c1) (y := 90) rfl rfl) fun a hf => ?_
      refine q_ hf rfl rfl rfl (e_pick_t hf rfl hc6 rfl) fun a hf => ?_
      refine q_ hf rfl rfl rfl (e_assign hf rfl) fun a hf => ?_
      refine pl_nil ?_
      obtain rfl := some_inj h5
      refine then_n ?_
      exact ⟨(decide (c1 ≤ 90)), rfl, hf.keep ⟨rfl, trivial⟩, hM.pick [] rfl⟩
    · refine pl_gs (wanted_f hf rfl rfl rfl rfl hc6) hf rfl rfl fun a hf => ?_
      refine pl_gs (wanted_f hf rfl rfl rfl rfl hc6) hf rfl rfl fun a hf => ?_
      refine q_ hf rfl rfl rfl (e_pick_f hf rfl hc6 rfl) fun a hf => ?_
      refine q_ hf rfl rfl rfl (e_assign hf rfl) fun a hf => ?_
      refine pl_nil ?_
      obtain rfl := some_inj h5
      refine then_n ?_
      exact ⟨false, rfl, hf.keep ⟨rfl, trivial⟩, hM.pick [] rfl⟩
  · rintro a w9 ⟨t2, rfl, hf, hM⟩
    try dsimp only at h
    refine wp_ret ?_
    obtain rfl := some_inj h
    exact leave1 hf rfl rfl ⟨rfl, hM.fin⟩

set_option maxRecDepth 100000 in
set_option maxHeartbeats 4000000 in
theorem r_spec_l03Placed (C : Cx) (word1 : Str) (hp2 : word1.length ≤ maxLen) (r : Bool) (h : m_spec_l03Placed word1 = some r) :
    Calls Tryd.prog 62 #[vS (word1)] C.w0 fun e w => e = .returned (.bool (r)) ∧ Mem C w [] [] := by
  have hM := Mem.begin C [] trivial
  refine enter Tryd.func62 rfl Tryd.ntmps62 rfl fun a hf => ?_
  unfold m_spec_l03Placed at h
  refine wp_seq ?_
  refine region_pl ?_
  refine q_ hf rfl rfl rfl (e_assign hf rfl) fun a hf => ?_
  refine pl_nil ?_
  refine then_n ?_
  obtain ⟨x3, h4, h⟩ := bind_some h
  refine seq_join (fun a w => (.inl ()) = x3 ∧ Has 25 a [(0, vS (word1))] ∧ Mem C w [] []) ?_ ?_
  · refine wp_seq ?_
    refine region_pl ?_
    refine q_ hf rfl rfl rfl (e_assign hf rfl) fun a hf => ?_
    refine pl_nil ?_
    refine then_n ?_
    refine wp_block ?_
    obtain ⟨x8, h9, h4⟩ := bind_some h4
    refine wp_loopM h9 (fun s a w => ∃ (n5 : Int), n5 = s ∧ Has 25 a [(0, vS (word1)), (3, vI (n5))] ∧ Mem C w [] [] ∧ R64 n5) ?_ ?_
    · exact ⟨0, rfl, hf.keep ⟨rfl, rfl, trivial⟩, hM.pick [] rfl, (R64_lit rfl)⟩
    · rintro s o10 a w7 ⟨n5, rfl, hf, hM, hv6⟩ h11 hd12
      replace h11 : m_spec_l03Placed_l1 word1 n5 = some o10 := h11
      unfold m_spec_l03Placed_l1 at h11
      refine wp_seq ?_
      refine wp_seq ?_
      refine region_pl ?_
      refine q_ hf rfl rfl rfl (e_move hf rfl) fun a hf => ?_
      refine q_ hf rfl rfl rfl (e_move hf rfl) fun a hf => ?_
      refine q_ hf rfl rfl rfl (e_lenS hf (x := word1) rfl Tryd.underlying9) fun a hf => ?_
      refine q_ hf rfl rfl rfl (e_lt hf (x := n5) (y := (word1.length : Int)) rfl rfl) fun a hf => ?_
      refine pl_nil ?_
      refine then_n ?_
      rcases cond_some h11 with ⟨hc13, h11⟩ | ⟨hc13, h11⟩
      · refine cond_t hf rfl hc13 ?_
        refine wp_skip ?_
        refine then_n ?_
        refine wp_seq ?_
        refine wp_block ?_
        obtain ⟨x16, h17, h11⟩ := bind_some h11
        refine seq_join (fun a w => ∃ (t14 : Bool), t14 = x16 ∧ Has 25 a [(0, vS (word1)), (3, vI (n5)), (21, .bool (t14))] ∧ Mem C w [] []) ?_ ?_
        · refine region_pl ?_
          refine q_ hf rfl rfl rfl (e_move hf rfl) fun a hf => ?_
          refine q_ hf rfl rfl rfl (e_move hf rfl) fun a hf => ?_
          obtain ⟨c18, hz19, h17⟩ := bind_some h17
          refine q_ hf rfl rfl rfl (e_indexS hf (x := word1) rfl rfl Tryd.underlying9 hz19) fun a hf => ?_
          obtain ⟨y20, hz21, h17⟩ := bind_some h17
          refine pl_l hf rfl rfl rfl (w_call hf Tryd.call71 rfl (r_spec_l01Small ⟨_, Sh C _ _, none_, hM.sh_lt, none_not, C.G, hM.g_lt, g_none, hM.tabs⟩ c18 _ hz21) ?_)
          rintro _ w22 ⟨rfl, hM2⟩
          obtain ⟨hM, hx23, hup24⟩ := hM.back hM2
          dsimp only [List.cons_append, List.nil_append] at hM hup24
          clear hM2
          refine ⟨_, rfl, fun a hf => ?_⟩
          refine q_ hf rfl rfl rfl (e_not hf rfl) fun a hf => ?_
          refine q_ hf rfl rfl rfl (e_move hf rfl) fun a hf => ?_
          rcases cond_some h17 with ⟨hc25, h17⟩ | ⟨hc25, h17⟩
          · refine gq (wanted_t hf rfl rfl rfl rfl hc25) hf rfl rfl (e_move hf rfl) fun a hf => ?_
            refine gq (wanted_t hf rfl rfl rfl rfl hc25) hf rfl rfl (e_move hf rfl) fun a hf => ?_
            obtain ⟨c26, hz27, h17⟩ := bind_some h17
            refine gq (wanted_t hf rfl rfl rfl rfl hc25) hf rfl rfl (e_indexS hf (x := word1) rfl rfl Tryd.underlying9 hz27) fun a hf => ?_
            obtain ⟨y28, hz29, h17⟩ := bind_some h17
            refine pl_gl (wanted_t hf rfl rfl rfl rfl hc25) hf rfl rfl (w_call hf Tryd.call72 rfl (r_spec_l03Capital ⟨_, Sh C _ _, none_, hM.sh_lt, none_not, C.G, hM.g_lt, g_none, hM.tabs⟩ c26 _ hz29) ?_)
            rintro _ w30 ⟨rfl, hM2⟩
            obtain ⟨hM, hx31, hup32⟩ := hM.back hM2
            dsimp only [List.cons_append, List.nil_append] at hM hup32
            clear hM2
            refine ⟨_, rfl, fun a hf => ?_⟩
            refine gq (wanted_t hf rfl rfl rfl rfl hc25) hf rfl rfl (e_not hf rfl) fun a hf => ?_
            refine q_ hf rfl rfl rfl (e_pick_t hf rfl hc25 rfl) fun a hf => ?_
            refine pl_nil ?_
            obtain rfl := some_inj h17
            refine then_n ?_
            exact ⟨(!y28), rfl, hf.keep ⟨rfl, rfl, rfl, trivial⟩, hM.pick [] rfl⟩
          · refine pl_gs (wanted_f hf rfl rfl rfl rfl hc25) hf rfl rfl fun a hf => ?_
            refine pl_gs (wanted_f hf rfl rfl rfl rfl hc25) hf rfl rfl fun a hf => ?_
            refine pl_gs (wanted_f hf rfl rfl rfl rfl hc25) hf rfl rfl fun a hf => ?_
            refine pl_gs (wanted_f hf rfl rfl rfl rfl hc25) hf rfl rfl fun a hf => ?_
            refine pl_gs (wanted_f hf rfl rfl rfl rfl hc25) hf rfl rfl fun a hf => ?_
            refine q_ hf rfl rfl rfl (e_pick_f hf rfl hc25 rfl) fun a hf => ?_
            refine pl_nil ?_
            obtain rfl := some_inj h17
            refine then_n ?_
            exact ⟨false, rfl, hf.keep ⟨rfl, rfl, rfl, trivial⟩, hM.pick [] rfl⟩
        · rintro a w35 ⟨t14, rfl, hf, hM⟩
          try dsimp only at h11
          rcases cond_some h11 with ⟨hc36, h11⟩ | ⟨hc36, h11⟩
          · refine cond_t hf rfl hc36 ?_
            refine wp_seq ?_
            refine region_pl ?_
            refine q_ hf rfl rfl rfl (e_assign hf rfl) fun a hf => ?_
            refine pl_nil ?_
            refine then_n ?_
            refine wp_ret ?_
            refine blk_r ?_
            refine then_r ?_
            obtain rfl := some_inj h11
            obtain rfl := hd12 _ rfl
            try dsimp only at h4
            refine then_r ?_
            refine blk_r ?_
            obtain rfl := some_inj h4
            try dsimp only at h
            refine then_r ?_
            obtain rfl := some_inj h
            exact leave1 hf rfl rfl ⟨rfl, hM.fin⟩
          · refine cond_f hf rfl hc36 ?_
            refine wp_skip ?_
            refine blk_n ?_
            refine then_n ?_
            refine region_pl ?_
            refine q_ hf rfl rfl rfl (e_move hf rfl) fun a hf => ?_
            obtain ⟨z37, hz38, h11⟩ := bind_some h11
            refine q_ hf rfl rfl rfl (e_add hf rfl rfl hz38) fun a hf => ?_
            refine q_ hf rfl rfl rfl (e_assign hf rfl) fun a hf => ?_
            refine pl_nil ?_
            obtain rfl := some_inj h11
            refine then_n ⟨_, rfl, ?_⟩
            exact ⟨z37, rfl, hf.keep ⟨rfl, rfl, trivial⟩, hM.pick [] rfl, (chk_R hz38)⟩
      · refine cond_f hf rfl hc13 ?_
        refine wp_exit ?_
        refine then_x ?_
        obtain rfl := some_inj h11
        obtain rfl := hd12 _ rfl
        try dsimp only at h4
        refine then_x ?_
        refine exit_hit ?_
        obtain rfl := some_inj h4
        refine then_n ?_
        exact ⟨rfl, hf.keep ⟨rfl, trivial⟩, hM.pick [] rfl⟩
  · rintro a w45 ⟨rfl, hf, hM⟩
    try dsimp only at h
    refine wp_seq ?_
    refine region_pl ?_
    refine q_ hf rfl rfl rfl (e_move hf rfl) fun a hf => ?_
    refine q_ hf rfl rfl rfl (e_lenS hf (x := word1) rfl Tryd.underlying9) fun a hf => ?_
    obtain ⟨y46, hz47, h⟩ := bind_some h
    refine pl_l hf rfl rfl rfl (w_call hf Tryd.call48 rfl (r_spec_l00In ⟨_, Sh C _ _, none_, hM.sh_lt, none_not, C.G, hM.g_lt, g_none, hM.tabs⟩ (word1.length : Int) (R64_len hp2) 1 (R64_lit rfl) 12 (R64_lit rfl) _ hz47) ?_)
    rintro _ w48 ⟨rfl, hM2⟩
    obtain ⟨hM, hx49, hup50⟩ := hM.back hM2
    dsimp only [List.cons_append, List.nil_append] at hM hup50
    clear hM2
    refine ⟨_, rfl, fun a hf => ?_⟩
    refine q_ hf rfl rfl rfl (e_assign hf rfl) fun a hf => ?_
    refine pl_nil ?_
    refine then_n ?_
    refine wp_ret ?_
    obtain rfl := some_inj h
    exact leave1 hf rfl rfl ⟨rfl, hM.fin⟩

set_option maxRecDepth 100000 in
set_option maxHeartbeats 4000000 in
theorem r_spec_l12Word (C : Cx) (word1 : Str) (hp2 : word1.length ≤ maxLen) (r : Bool) (h : m_spec_l12Word word1 = some r) :
    Calls Tryd.prog 54 #[vS (word1)] C.w0 fun e w => e = .returned (.bool (r)) ∧ Mem C w [] [] := by
  have hM := Mem.begin C [] trivial
  refine enter Tryd.func54 rfl Tryd.ntmps54 rfl fun a hf => ?_
  unfold m_spec_l12Word at h
  refine wp_seq ?_
  refine region_pl ?_
  refine q_ hf rfl rfl rfl (e_assign hf rfl) fun a hf => ?_
  refine pl_nil ?_
  refine then_n ?_
  obtain ⟨x5, h6, h⟩ := bind_some h
  refine seq_join (fun a w => ∃ (t3 : Bool), t3 = x5 ∧ Has 10 a [(2, .bool (t3))] ∧ Mem C w [] []) ?_ ?_
  · refine region_pl ?_
    refine q_ hf rfl rfl rfl (e_move hf rfl) fun a hf => ?_
    refine q_ hf rfl rfl rfl (e_lenS hf (x := word1) rfl Tryd.underlying9) fun a hf => ?_
    refine q_ hf rfl rfl rfl (e_gt hf (x := (word1.length : Int)) (y := 1) rfl rfl) fun a hf => ?_
    refine q_ hf rfl rfl rfl (e_move hf rfl) fun a hf => ?_
    rcases cond_some h6 with ⟨hc7, h6⟩ | ⟨hc7, h6⟩
    · refine gq (wanted_t hf rfl rfl rfl rfl hc7) hf rfl rfl (e_move hf rfl) fun a hf => ?_
      obtain ⟨y8, hz9, h6⟩ := bind_some h6
      refine pl_gl (wanted_t hf rfl rfl rfl rfl hc7) hf rfl rfl (w_call hf Tryd.call62 rfl (r_spec_l03Placed ⟨_, Sh C _ _, none_, hM.sh_lt, none_not, C.G, hM.g_lt, g_none, hM.tabs⟩ word1 hp2 _ hz9) ?_)
      rintro _ w10 ⟨rfl, hM2⟩
      obtain ⟨hM, hx11, hup12⟩ := hM.back hM2
      dsimp only [List.cons_append, List.nil_append] at hM hup12
      clear hM2
      refine ⟨_, rfl, fun a hf => ?_⟩
      refine q_ hf rfl rfl rfl (e_pick_t hf rfl hc7 rfl) fun a hf => ?_
      refine q_ hf rfl rfl rfl (e_assign hf rfl) fun a hf => ?_
      refine pl_nil ?_
      obtain rfl := some_inj h6
      refine then_n ?_
      exact ⟨y8, rfl, hf.keep ⟨rfl, trivial⟩, hM.pick [] rfl⟩
    · refine pl_gs (wanted_f hf rfl rfl rfl rfl hc7) hf rfl rfl fun a hf => ?_
      refine pl_gs (wanted_f hf rfl rfl rfl rfl hc7) hf rfl rfl fun a hf => ?_
      refine q_ hf rfl rfl rfl (e_pick_f hf rfl hc7 rfl) fun a hf => ?_
      refine q_ hf rfl rfl rfl (e_assign hf rfl) fun a hf => ?_
      refine pl_nil ?_
      obtain rfl := some_inj h6
      refine then_n ?_
      exact ⟨false, rfl, hf.keep ⟨rfl, trivial⟩, hM.pick [] rfl⟩
  · rintro a w15 ⟨t3, rfl, hf, hM⟩
    try dsimp only at h
    refine wp_ret ?_
    obtain rfl := some_inj h
    exact leave1 hf rfl rfl ⟨rfl, hM.fin⟩

set_option maxRecDepth 100000 in
set_option maxHeartbeats 4000000 in
theorem r_spec_l12Plain (C : Cx) (p1 : Play) (hp2 : R64 p1.Row) (hp3 : R64 p1.Col) (hp4 : p1.Word.length ≤ maxLen) (r : Bool) (h : m_spec_l12Plain p1 = some r) :
    Calls Tryd.prog 43 #[.agg #[vI (p1.Row), vI (p1.Col), .bool (p1.Down), vS (p1.Word)]] C.w0 fun e w => e = .returned (.bool (r)) ∧ Mem C w [] [] := by
  have hM := Mem.begin C [] trivial
  refine enter Tryd.func43 rfl Tryd.ntmps43 rfl fun a hf => ?_
  unfold m_spec_l12Plain at h
  refine wp_seq ?_
  refine region_pl ?_
  refine pl_l hf rfl rfl rfl (w_box hf hM (cs := [vI (p1.Row), vI (p1.Col), .bool (p1.Down), vS (p1.Word)]) rfl rfl fun b5 w6 hx7 hM a hf => ?_)
  refine q_ hf rfl rfl rfl (e_assign hf rfl) fun a hf => ?_
  refine pl_nil ?_
  refine then_n ?_
  obtain ⟨x11, h12, h⟩ := bind_some h
  refine seq_join (fun a w => ∃ (t9 : Bool), t9 = x11 ∧ Has 16 a [(2, .bool (t9))] ∧ Mem C w [.box b5 [vI (p1.Row), vI (p1.Col), .bool (p1.Down), vS (p1.Word)] 28] []) ?_ ?_
  · refine region_pl ?_
    refine q_ hf rfl rfl rfl (e_field hf rfl Tryd.underlying28 rfl Tryd.sizeOf2 (o' := 0) rfl) fun a hf => ?_
    refine q_ hf rfl rfl rfl (e_load1 hf rfl Tryd.isAgg2 (hM.boxCell (k := 0) rfl rfl)) fun a hf => ?_
    obtain ⟨y13, hz14, h12⟩ := bind_some h12
    refine pl_l hf rfl rfl rfl (w_call hf Tryd.call48 rfl (r_spec_l00In ⟨_, Sh C _ _, none_, hM.sh_lt, none_not, C.G, hM.g_lt, g_none, hM.tabs⟩ p1.Row hp2 0 (R64_lit rfl) 14 (R64_lit rfl) _ hz14) ?_)
    rintro _ w15 ⟨rfl, hM2⟩
    obtain ⟨hM, hx16, hup17⟩ := hM.back hM2
    dsimp only [List.cons_append, List.nil_append] at hM hup17
    clear hM2
    refine ⟨_, rfl, fun a hf => ?_⟩
    refine q_ hf rfl rfl rfl (e_move hf rfl) fun a hf => ?_
    rcases cond_some h12 with ⟨hc18, h12⟩ | ⟨hc18, h12⟩
    · refine gq (wanted_t hf rfl rfl rfl rfl hc18) hf rfl rfl (e_field hf rfl Tryd.underlying28 rfl Tryd.sizeOf2 (o' := 1) rfl) fun a hf => ?_
      refine gq (wanted_t hf rfl rfl rfl rfl hc18) hf rfl rfl (e_load1 hf rfl Tryd.isAgg2 (hM.boxCell (k := 0) rfl rfl)) fun a hf => ?_
      obtain ⟨y19, hz20, h12⟩ := bind_some h12
      refine pl_gl (wanted_t hf rfl rfl rfl rfl hc18) hf rfl rfl (w_call hf Tryd.call48 rfl (r_spec_l00In ⟨_, Sh C _ _, none_, hM.sh_lt, none_not, C.G, hM.g_lt, g_none, hM.tabs⟩ p1.Col hp3 0 (R64_lit rfl) 14 (R64_lit rfl) _ hz20) ?_)
      rintro _ w21 ⟨rfl, hM2⟩
      obtain ⟨hM, hx22, hup23⟩ := hM.back hM2
      dsimp only [List.cons_append, List.nil_append] at hM hup23
      clear hM2
      refine ⟨_, rfl, fun a hf => ?_⟩
      refine q_ hf rfl rfl rfl (e_pick_t hf rfl hc18 rfl) fun a hf => ?_
      refine q_ hf rfl rfl rfl (e_move hf rfl) fun a hf => ?_
      rcases cond_some h12 with ⟨hc24, h12⟩ | ⟨hc24, h12⟩
      · refine gq (wanted_t hf rfl rfl rfl rfl hc24) hf rfl rfl (e_field hf rfl Tryd.underlying28 rfl Tryd.sizeOf9 (o' := 3) rfl) fun a hf => ?_
        refine gq (wanted_t hf rfl rfl rfl rfl hc24) hf rfl rfl (e_load1 hf rfl Tryd.isAgg9 (hM.boxCell (k := 0) rfl rfl)) fun a hf => ?_
        obtain ⟨y25, hz26, h12⟩ := bind_some h12
        refine pl_gl (wanted_t hf rfl rfl rfl rfl hc24) hf rfl rfl (w_call hf Tryd.call54 rfl (r_spec_l12Word ⟨_, Sh C _ _, none_, hM.sh_lt, none_not, C.G, hM.g_lt, g_none, hM.tabs⟩ p1.Word hp4 _ hz26) ?_)
        rintro _ w27 ⟨rfl, hM2⟩
        obtain ⟨hM, hx28, hup29⟩ := hM.back hM2
        dsimp only [List.cons_append, List.nil_append] at hM hup29
        clear hM2
        refine ⟨_, rfl, fun a hf => ?_⟩
        refine q_ hf rfl rfl rfl (e_pick_t hf rfl hc24 rfl) fun a hf => ?_
        refine q_ hf rfl rfl rfl (e_assign hf rfl) fun a hf => ?_
        refine pl_nil ?_
        obtain rfl := some_inj h12
        refine then_n ?_
        exact ⟨y25, rfl, hf.keep ⟨rfl, trivial⟩, hM.pick [] rfl⟩
      · refine pl_gs (wanted_f hf rfl rfl rfl rfl hc24) hf rfl rfl fun a hf => ?_
        refine pl_gs (wanted_f hf rfl rfl rfl rfl hc24) hf rfl rfl fun a hf => ?_
        refine pl_gs (wanted_f hf rfl rfl rfl rfl hc24) hf rfl rfl fun a hf => ?_
        refine q_ hf rfl rfl rfl (e_pick_f hf rfl hc24 rfl) fun a hf => ?_
        refine q_ hf rfl rfl rfl (e_assign hf rfl) fun a hf => ?_
        refine pl_nil ?_
        obtain rfl := some_inj h12
        refine then_n ?_
        exact ⟨false, rfl, hf.keep ⟨rfl, trivial⟩, hM.pick [] rfl⟩
    · refine pl_gs (wanted_f hf rfl rfl rfl rfl hc18) hf rfl rfl fun a hf => ?_
      refine pl_gs (wanted_f hf rfl rfl rfl rfl hc18) hf rfl rfl fun a hf => ?_
      refine pl_gs (wanted_f hf rfl rfl rfl rfl hc18) hf rfl rfl fun a hf => ?_
      refine q_ hf rfl rfl rfl (e_pick_f hf rfl hc18 rfl) fun a hf => ?_
      refine q_ hf rfl rfl rfl (e_move hf rfl) fun a hf => ?_
      refine pl_gs (wanted_f hf rfl rfl rfl rfl rfl) hf rfl rfl fun a hf => ?_
      refine pl_gs (wanted_f hf rfl rfl rfl rfl rfl) hf rfl rfl fun a hf => ?_
      refine pl_gs (wanted_f hf rfl rfl rfl rfl rfl) hf rfl rfl fun a hf => ?_
      refine q_ hf rfl rfl rfl (e_pick_f hf rfl rfl rfl) fun a hf => ?_
      refine q_ hf rfl rfl rfl (e_assign hf rfl) fun a hf => ?_
      refine pl_nil ?_
      obtain rfl := some_inj h12
      refine then_n ?_
      exact ⟨false, rfl, hf.keep ⟨rfl, trivial⟩, hM.pick [] rfl⟩
  · rintro a w33 ⟨t9, rfl, hf, hM⟩
    try dsimp only at h
    refine wp_ret ?_
    obtain rfl := some_inj h
    have hM := hM.outs (own' := []) 0 rfl
    exact leave1 hf rfl rfl ⟨rfl, hM.fin⟩

set_option maxRecDepth 100000 in
set_option maxHeartbeats 4000000 in
theorem r_spec_l03Tile (C : Cx) (c1 : UInt8) (r : Bool) (h : m_spec_l03Tile c1 = some r) :
    Calls Tryd.prog 61 #[vB (c1)] C.w0 fun e w => e = .returned (.bool (r)) ∧ Mem C w [] [] := by
  have hM := Mem.begin C [] trivial
  refine enter Tryd.func61 rfl Tryd.ntmps61 rfl fun a hf => ?_
  unfold m_spec_l03Tile at h
  refine wp_seq ?_
  refine region_pl ?_
  refine q_ hf rfl rfl rfl (e_assign hf rfl) fun a hf => ?_
  refine pl_nil ?_
  refine then_n ?_
  obtain ⟨x4, h5, h⟩ := bind_some h
  refine seq_join (fun a w => ∃ (t2 : Bool), t2 = x4 ∧ Has 9 a [(2, .bool (t2))] ∧ Mem C w [] []) ?_ ?_
  · refine region_pl ?_
    refine q_ hf rfl rfl rfl (e_move hf rfl) fun a hf => ?_
    refine q_ hf rfl rfl rfl (e_eqB hf (x := c1) (y := 63) rfl rfl) fun a hf => ?_
    refine q_ hf rfl rfl rfl (e_move hf rfl) fun a hf => ?_
    rcases cond_some h5 with ⟨hc6, h5⟩ | ⟨hc6, h5⟩
    · refine pl_gs (wanted_f hf rfl rfl rfl rfl hc6) hf rfl rfl fun a hf => ?_
      refine pl_gs (wanted_f hf rfl rfl rfl rfl hc6) hf rfl rfl fun a hf => ?_
      refine q_ hf rfl rfl rfl (e_pick_t hf rfl hc6 rfl) fun a hf => ?_
      refine q_ hf rfl rfl rfl (e_assign hf rfl) fun a hf => ?_
      refine pl_nil ?_
      obtain rfl := some_inj h5
      refine then_n ?_
      exact ⟨true, rfl, hf.keep ⟨rfl, trivial⟩, hM.pick [] rfl⟩
    · refine gq (wanted_t hf rfl rfl rfl rfl hc6) hf rfl rfl (e_move hf rfl) fun a hf => ?_
      obtain ⟨y8, hz9, h5⟩ := bind_some h5
      refine pl_gl (wanted_t hf rfl rfl rfl rfl hc6) hf rfl rfl (w_call hf Tryd.call71 rfl (r_spec_l01Small ⟨_, Sh C _ _, none_, hM.sh_lt, none_not, C.G, hM.g_lt, g_none, hM.tabs⟩ c1 _ hz9) ?_)
      rintro _ w10 ⟨rfl, hM2⟩
      obtain ⟨hM, hx11, hup12⟩ := hM.back hM2
      dsimp only [List.cons_append, List.nil_append] at hM hup12
      clear hM2
      refine ⟨_, rfl, fun a hf => ?_⟩
      refine q_ hf rfl rfl rfl (e_pick_f hf rfl hc6 rfl) fun a hf => ?_
      refine q_ hf rfl rfl rfl (e_assign hf rfl) fun a hf => ?_
      refine pl_nil ?_
      obtain rfl := some_inj h5
      refine then_n ?_
      exact ⟨y8, rfl, hf.keep ⟨rfl, trivial⟩, hM.pick [] rfl⟩
  · rintro a w14 ⟨t2, rfl, hf, hM⟩
    try dsimp only at h
    refine wp_ret ?_
    obtain rfl := some_inj h
    exact leave1 hf rfl rfl ⟨rfl, hM.fin⟩

set_option maxRecDepth 100000 in
set_option maxHeartbeats 4000000 in
theorem r_spec_l03Pile (C : Cx) (s1 : Str) (hp2 : s1.length ≤ maxLen) (r : Bool) (h : m_spec_l03Pile s1 = some r) :
    Calls Tryd.prog 53 #[vS (s1)] C.w0 fun e w => e = .returned (.bool (r)) ∧ Mem C w [] [] := by
  have hM := Mem.begin C [] trivial
  refine enter Tryd.func53 rfl Tryd.ntmps53 rfl fun a hf => ?_
  unfold m_spec_l03Pile at h
  refine wp_seq ?_
  refine region_pl ?_
  refine q_ hf rfl rfl rfl (e_assign hf rfl) fun a hf => ?_
  refine pl_nil ?_
  refine then_n ?_
  obtain ⟨x3, h4, h⟩ := bind_some h
  refine seq_join (fun a w => (.inl ()) = x3 ∧ Has 32 a [(0, vS (s1))] ∧ Mem C w [] []) ?_ ?_
  · refine wp_seq ?_
    refine region_pl ?_
    refine q_ hf rfl rfl rfl (e_assign hf rfl) fun a hf => ?_
    refine pl_nil ?_
    refine then_n ?_
    refine wp_block ?_
    obtain ⟨x8, h9, h4⟩ := bind_some h4
    refine wp_loopM h9 (fun s a w => ∃ (n5 : Int), n5 = s ∧ Has 32 a [(0, vS (s1)), (3, vI (n5))] ∧ Mem C w [] [] ∧ R64 n5) ?_ ?_
    · exact ⟨0, rfl, hf.keep ⟨rfl, rfl, trivial⟩, hM.pick [] rfl, (R64_lit rfl)⟩
    · rintro s o10 a w7 ⟨n5, rfl, hf, hM, hv6⟩ h11 hd12
      replace h11 : m_spec_l03Pile_l1 s1 n5 = some o10 := h11
      unfold m_spec_l03Pile_l1 at h11
      refine wp_seq ?_
      refine wp_seq ?_
      refine region_pl ?_
      refine q_ hf rfl rfl rfl (e_move hf rfl) fun a hf => ?_
      refine q_ hf rfl rfl rfl (e_move hf rfl) fun a hf => ?_
      refine q_ hf rfl rfl rfl (e_lenS hf (x := s1) rfl Tryd.underlying9) fun a hf => ?_
      refine q_ hf rfl rfl rfl (e_lt hf (x := n5) (y := (s1.length : Int)) rfl rfl) fun a hf => ?_
      refine pl_nil ?_
      refine then_n ?_
      rcases cond_some h11 with ⟨hc13, h11⟩ | ⟨hc13, h11⟩
      · refine cond_t hf rfl hc13 ?_
        refine wp_skip ?_
        refine then_n ?_
        refine wp_seq ?_
        refine wp_block ?_
        obtain ⟨x16, h17, h11⟩ := bind_some h11
        refine seq_join (fun a w => ∃ (t14 : Bool), t14 = x16 ∧ Has 32 a [(0, vS (s1)), (3, vI (n5)), (28, .bool (t14))] ∧ Mem C w [] []) ?_ ?_
        · obtain ⟨w18, hw⟩ : ∃ x, x = w7.drew := ⟨_, rfl⟩
          refine region_pi (.q 0 (.q 1 (.q 2 (.l 3 (.q 4 (.q 5 (.q 6 (.q 7 (.q 8 (.q 9 (.q 10 (.q 11 (.q 12 (.q 13 (.q 14 (.q 15 (.q 16 (.q 17 (.q 18 (.nil)))))))))))))))))))) (Ext w18) rfl (by kernel_rfl) ?_
          have hM := hM.drew
          rw [← hw] at hM ⊢
          clear hw
          refine pi_q hf rfl rfl rfl rfl (Ext.refl _) (e_move hf rfl) fun a hf => ?_
          refine pi_q hf rfl rfl rfl rfl (Ext.refl _) (e_move hf rfl) fun a hf => ?_
          obtain ⟨c19, hz20, h17⟩ := bind_some h17
          refine pi_q hf rfl rfl rfl rfl (Ext.refl _) (e_indexS hf (x := s1) rfl rfl Tryd.underlying9 hz20) fun a hf => ?_
          refine pi_one ?_
          obtain ⟨y21, hz22, h17⟩ := bind_some h17
          refine pi_l hf rfl rfl rfl rfl (w_call hf Tryd.call61 rfl (r_spec_l03Tile ⟨_, Sh C _ _, none_, hM.sh_lt, none_not, C.G, hM.g_lt, g_none, hM.tabs⟩ c19 _ hz22) ?_)
          rintro _ w23 ⟨rfl, hM2⟩
          obtain ⟨hM, hx24, hup25⟩ := hM.back hM2
          dsimp only [List.cons_append, List.nil_append] at hM hup25
          clear hM2
          refine ⟨_, rfl, Ext w23, fun _ h => Ext.trans hx24 h, Ext.refl _, fun a hf => ?_⟩
          refine pi_q hf rfl rfl rfl rfl (Ext.refl _) (e_not hf rfl) fun a hf => ?_
          refine pi_q hf rfl rfl rfl rfl (Ext.refl _) (e_move hf rfl) fun a hf => ?_
          rcases cond_some h17 with ⟨hc26, h17⟩ | ⟨hc26, h17⟩
          · refine pi_gs hf rfl (wanted_f hf rfl rfl rfl rfl hc26) rfl rfl (Ext.refl _) fun a hf => ?_
            refine pi_gs hf rfl (wanted_f hf rfl rfl rfl rfl hc26) rfl rfl (Ext.refl _) fun a hf => ?_
            refine pi_gs hf rfl (wanted_f hf rfl rfl rfl rfl hc26) rfl rfl (Ext.refl _) fun a hf => ?_
            refine pi_gs hf rfl (wanted_u hf rfl rfl rfl rfl) rfl rfl (Ext.refl _) fun a hf => ?_
            refine pi_gs hf rfl (wanted_u hf rfl rfl rfl rfl) rfl rfl (Ext.refl _) fun a hf => ?_
            refine pi_gs hf rfl (wanted_u hf rfl rfl rfl rfl) rfl rfl (Ext.refl _) fun a hf => ?_
            refine pi_gs hf rfl (wanted_u hf rfl rfl rfl rfl) rfl rfl (Ext.refl _) fun a hf => ?_
            refine pi_gs hf rfl (wanted_u hf rfl rfl rfl rfl) rfl rfl (Ext.refl _) fun a hf => ?_
            refine pi_gs hf rfl (wanted_u hf rfl rfl rfl rfl) rfl rfl (Ext.refl _) fun a hf => ?_
            refine pi_gs hf rfl (wanted_u hf rfl rfl rfl rfl) rfl rfl (Ext.refl _) fun a hf => ?_
            refine pi_gs hf rfl (wanted_u hf rfl rfl rfl rfl) rfl rfl (Ext.refl _) fun a hf => ?_
            refine pi_gs hf rfl (wanted_f hf rfl rfl rfl rfl hc26) rfl rfl (Ext.refl _) fun a hf => ?_
            refine pi_q hf rfl rfl rfl rfl (Ext.refl _) (e_pick_t hf rfl hc26 rfl) fun a hf => ?_
            refine pi_nil ?_
            obtain rfl := some_inj h17
            refine then_n ?_
            exact ⟨true, rfl, hf.keep ⟨rfl, rfl, rfl, trivial⟩, hM.pick [] rfl⟩
          · refine pi_gq hf rfl (wanted_t hf rfl rfl rfl rfl hc26) rfl rfl (Ext.refl _) (e_move hf rfl) fun a hf => ?_
            refine pi_gq hf rfl (wanted_t hf rfl rfl rfl rfl hc26) rfl rfl (Ext.refl _) (e_gt hf (x := n5) (y := 0) rfl rfl) fun a hf => ?_
            refine pi_gq hf rfl (wanted_t hf rfl rfl rfl rfl hc26) rfl rfl (Ext.refl _) (e_move hf rfl) fun a hf => ?_
            rcases cond_some h17 with ⟨hc28, h17⟩ | ⟨hc28, h17⟩
            · refine pi_gq hf rfl (wanted_t hf rfl rfl rfl rfl hc28) rfl rfl (Ext.refl _) (e_move hf rfl) fun a hf => ?_
              refine pi_gq hf rfl (wanted_t hf rfl rfl rfl rfl hc28) rfl rfl (Ext.refl _) (e_move hf rfl) fun a hf => ?_
              obtain ⟨c29, hz30, h17⟩ := bind_some h17
              refine pi_gq hf rfl (wanted_t hf rfl rfl rfl rfl hc28) rfl rfl (Ext.refl _) (e_indexS hf (x := s1) rfl rfl Tryd.underlying9 hz30) fun a hf => ?_
              refine pi_gq hf rfl (wanted_t hf rfl rfl rfl rfl hc28) rfl rfl (Ext.refl _) (e_move hf rfl) fun a hf => ?_
              refine pi_gq hf rfl (wanted_t hf rfl rfl rfl rfl hc28) rfl rfl (Ext.refl _) (e_move hf rfl) fun a hf => ?_
              obtain ⟨z31, hz32, h17⟩ := bind_some h17
              refine pi_gq hf rfl (wanted_t hf rfl rfl rfl rfl hc28) rfl rfl (Ext.refl _) (e_sub hf rfl rfl hz32) fun a hf => ?_
              obtain ⟨c33, hz34, h17⟩ := bind_some h17
              refine pi_gq hf rfl (wanted_t hf rfl rfl rfl rfl hc28) rfl rfl (Ext.refl _) (e_indexS hf (x := s1) rfl rfl Tryd.underlying9 hz34) fun a hf => ?_
              refine pi_gq hf rfl (wanted_t hf rfl rfl rfl rfl hc28) rfl rfl (Ext.refl _) (e_ltB hf (x := c29) (y := c33) rfl rfl) fun a hf => ?_
              refine pi_gq hf rfl (wanted_t hf rfl rfl rfl rfl hc26) rfl rfl (Ext.refl _) (e_pick_t hf rfl hc28 rfl) fun a hf => ?_
              refine pi_q hf rfl rfl rfl rfl (Ext.refl _) (e_pick_f hf rfl hc26 rfl) fun a hf => ?_
              refine pi_nil ?_
              obtain rfl := some_inj h17
              refine then_n ?_
              exact ⟨(decide (c29 < c33)), rfl, hf.keep ⟨rfl, rfl, rfl, trivial⟩, hM.pick [] rfl⟩
            · refine pi_gs hf rfl (wanted_f hf rfl rfl rfl rfl hc28) rfl rfl (Ext.refl _) fun a hf => ?_
              refine pi_gs hf rfl (wanted_f hf rfl rfl rfl rfl hc28) rfl rfl (Ext.refl _) fun a hf => ?_
              refine pi_gs hf rfl (wanted_f hf rfl rfl rfl rfl hc28) rfl rfl (Ext.refl _) fun a hf => ?_
              refine pi_gs hf rfl (wanted_f hf rfl rfl rfl rfl hc28) rfl rfl (Ext.refl _) fun a hf => ?_
              refine pi_gs hf rfl (wanted_f hf rfl rfl rfl rfl hc28) rfl rfl (Ext.refl _) fun a hf => ?_
              refine pi_gs hf rfl (wanted_f hf rfl rfl rfl rfl hc28) rfl rfl (Ext.refl _) fun a hf => ?_
              refine pi_gs hf rfl (wanted_f hf rfl rfl rfl rfl hc28) rfl rfl (Ext.refl _) fun a hf => ?_
              refine pi_gs hf rfl (wanted_f hf rfl rfl rfl rfl hc28) rfl rfl (Ext.refl _) fun a hf => ?_
              refine pi_gq hf rfl (wanted_t hf rfl rfl rfl rfl hc26) rfl rfl (Ext.refl _) (e_pick_f hf rfl hc28 rfl) fun a hf => ?_
              refine pi_q hf rfl rfl rfl rfl (Ext.refl _) (e_pick_f hf rfl hc26 rfl) fun a hf => ?_
              refine pi_nil ?_
              obtain rfl := some_inj h17
              refine then_n ?_
              exact ⟨false, rfl, hf.keep ⟨rfl, rfl, rfl, trivial⟩, hM.pick [] rfl⟩
        · rintro a w37 ⟨t14, rfl, hf, hM⟩
          try dsimp only at h11
          rcases cond_some h11 with ⟨hc38, h11⟩ | ⟨hc38, h11⟩
          · refine cond_t hf rfl hc38 ?_
            refine wp_seq ?_
            refine region_pl ?_
            refine q_ hf rfl rfl rfl (e_assign hf rfl) fun a hf => ?_
            refine pl_nil ?_
            refine then_n ?_
            refine wp_ret ?_
            refine blk_r ?_
            refine then_r ?_
            obtain rfl := some_inj h11
            obtain rfl := hd12 _ rfl
            try dsimp only at h4
            refine then_r ?_
            refine blk_r ?_
            obtain rfl := some_inj h4
            try dsimp only at h
            refine then_r ?_
            obtain rfl := some_inj h
            exact leave1 hf rfl rfl ⟨rfl, hM.fin⟩
          · refine cond_f hf rfl hc38 ?_
            refine wp_skip ?_
            refine blk_n ?_
            refine then_n ?_
            refine region_pl ?_
            refine q_ hf rfl rfl rfl (e_move hf rfl) fun a hf => ?_
            obtain ⟨z39, hz40, h11⟩ := bind_some h11
            refine q_ hf rfl rfl rfl (e_add hf rfl rfl hz40) fun a hf => ?_
            refine q_ hf rfl rfl rfl (e_assign hf rfl) fun a hf => ?_
            refine pl_nil ?_
            obtain rfl := some_inj h11
            refine then_n ⟨_, rfl, ?_⟩
            exact ⟨z39, rfl, hf.keep ⟨rfl, rfl, trivial⟩, hM.pick [] rfl, (chk_R hz40)⟩
      · refine cond_f hf rfl hc13 ?_
        refine wp_exit ?_
        refine then_x ?_
        obtain rfl := some_inj h11
        obtain rfl := hd12 _ rfl
        try dsimp only at h4
        refine then_x ?_
        refine exit_hit ?_
        obtain rfl := some_inj h4
        refine then_n ?_
        exact ⟨rfl, hf.keep ⟨rfl, trivial⟩, hM.pick [] rfl⟩
  · rintro a w47 ⟨rfl, hf, hM⟩
    try dsimp only at h
    refine wp_seq ?_
    refine region_pl ?_
    refine q_ hf rfl rfl rfl (e_move hf rfl) fun a hf => ?_
    refine q_ hf rfl rfl rfl (e_lenS hf (x := s1) rfl Tryd.underlying9) fun a hf => ?_
    refine q_ hf rfl rfl rfl (e_le hf (x := (s1.length : Int)) (y := 120) rfl rfl) fun a hf => ?_
    refine q_ hf rfl rfl rfl (e_assign hf rfl) fun a hf => ?_
    refine pl_nil ?_
    refine then_n ?_
    refine wp_ret ?_
    obtain rfl := some_inj h
    exact leave1 hf rfl rfl ⟨rfl, hM.fin⟩

set_option maxRecDepth 100000 in
set_option maxHeartbeats 4000000 in
theorem r_spec_l03Rack (C : Cx) (s1 : Str) (hp2 : s1.length ≤ maxLen) (r : Bool) (h : m_spec_l03Rack s1 = some r) :
    Calls Tryd.prog 42 #[vS (s1)] C.w0 fun e w => e = .returned (.bool (r)) ∧ Mem C w [] [] := by
  have hM := Mem.begin C [] trivial
  refine enter Tryd.func42 rfl Tryd.ntmps42 rfl fun a hf => ?_
  unfold m_spec_l03Rack at h
  refine wp_seq ?_
  refine region_pl ?_
  refine q_ hf rfl rfl rfl (e_assign hf rfl) fun a hf => ?_
  refine pl_nil ?_
  refine then_n ?_
  obtain ⟨x5, h6, h⟩ := bind_some h
  refine seq_join (fun a w => ∃ (t3 : Bool), t3 = x5 ∧ Has 10 a [(2, .bool (t3))] ∧ Mem C w [] []) ?_ ?_
  · refine region_pl ?_
    refine q_ hf rfl rfl rfl (e_move hf rfl) fun a hf => ?_
    obtain ⟨y7, hz8, h6⟩ := bind_some h6
    refine pl_l hf rfl rfl rfl (w_call hf Tryd.call53 rfl (r_spec_l03Pile ⟨_, Sh C _ _, none_, hM.sh_lt, none_not, C.G, hM.g_lt, g_none, hM.tabs⟩ s1 hp2 _ hz8) ?_)
    rintro _ w9 ⟨rfl, hM2⟩
    obtain ⟨hM, hx10, hup11⟩ := hM.back hM2
    dsimp only [List.cons_append, List.nil_append] at hM hup11
    clear hM2
    refine ⟨_, rfl, fun a hf => ?_⟩
    refine q_ hf rfl rfl rfl (e_move hf rfl) fun a hf => ?_
    rcases cond_some h6 with ⟨hc12, h6⟩ | ⟨hc12, h6⟩
    · refine gq (wanted_t hf rfl rfl rfl rfl hc12) hf rfl rfl (e_move hf rfl) fun a hf => ?_
      refine gq (wanted_t hf rfl rfl rfl rfl hc12) hf rfl rfl (e_lenS hf (x := s1) rfl Tryd.underlying9) fun a hf => ?_
      refine gq (wanted_t hf rfl rfl rfl rfl hc12) hf rfl rfl (e_le hf (x := (s1.length : Int)) (y := 7) rfl rfl) fun a hf => ?_
      refine q_ hf rfl rfl rfl (e_pick_t hf rfl hc12 rfl) fun a hf => ?_
      refine q_ hf rfl rfl rfl (e_assign hf rfl) fun a hf => ?_
      refine pl_nil ?_
      obtain rfl := some_inj h6
      refine then_n ?_
      exact ⟨(decide ((s1.length : Int) ≤ 7)), rfl, hf.keep ⟨rfl, trivial⟩, hM.pick [] rfl⟩
    · refine pl_gs (wanted_f hf rfl rfl rfl rfl hc12) hf rfl rfl fun a hf => ?_
      refine pl_gs (wanted_f hf rfl rfl rfl rfl hc12) hf rfl rfl fun a hf => ?_
      refine pl_gs (wanted_f hf rfl rfl rfl rfl hc12) hf rfl rfl fun a hf => ?_
      refine q_ hf rfl rfl rfl (e_pick_f hf rfl hc12 rfl) fun a hf => ?_
      refine q_ hf rfl rfl rfl (e_assign hf rfl) fun a hf => ?_
      refine pl_nil ?_
      obtain rfl := some_inj h6
      refine then_n ?_
      exact ⟨false, rfl, hf.keep ⟨rfl, trivial⟩, hM.pick [] rfl⟩
  · rintro a w15 ⟨t3, rfl, hf, hM⟩
    try dsimp only at h
    refine wp_ret ?_
    obtain rfl := some_inj h
    exact leave1 hf rfl rfl ⟨rfl, hM.fin⟩

set_option maxRecDepth 100000 in
set_option maxHeartbeats 4000000 in
theorem r_spec_l20Action (C : Cx) (a1 : Action) (b2 : Nat) (o3 : Nat) (hp4 : (ptrRep ActionRep).R C.w0 C.S0 a1 [vP b2 o3]) (r : Bool) (h : m_spec_l20Action a1 = some r) :
    Calls Tryd.prog 31 #[vP b2 (o3)] C.w0 fun e w => e = .returned (.bool (r)) ∧ Mem C w [] [] := by
  have hM := Mem.begin C [.dat (ptrRep ActionRep) a1 [vP b2 o3]] ⟨hp4, trivial⟩
  refine enter Tryd.func31 rfl Tryd.ntmps31 rfl fun a hf => ?_
  unfold m_spec_l20Action at h
  refine wp_seq ?_
  refine region_pl ?_
  refine q_ hf rfl rfl rfl (e_assign hf rfl) fun a hf => ?_
  refine pl_nil ?_
  refine then_n ?_
  refine wp_seq ?_
  refine wp_seq ?_
  refine region_pl ?_
  refine q_ hf rfl rfl rfl (e_move hf rfl) fun a hf => ?_
  refine q_ hf rfl rfl rfl (e_nil hf rfl) fun a hf => ?_
  obtain ⟨_, hr5, hM⟩ := hM.deref (hM.dat (k := 0) rfl)
  obtain ⟨rfl, hv6, hv7, hv8, hv9, hv10, hv11⟩ := ActionRep_open hr5
  refine q_ hf rfl rfl rfl (e_field hf rfl Tryd.underlying38 rfl Tryd.sizeOf2 (o' := o3 + 6) rfl) fun a hf => ?_
  refine q_ hf rfl rfl rfl (e_load1 hf rfl Tryd.isAgg2 (hM.litCell (k := 0) (j := 6) rfl rfl rfl)) fun a hf => ?_
  obtain ⟨y12, hz13, h⟩ := bind_some h
  refine pl_l hf rfl rfl rfl (w_call hf Tryd.call48 rfl (r_spec_l00In ⟨_, Sh C _ _, none_, hM.sh_lt, none_not, C.G, hM.g_lt, g_none, hM.tabs⟩ a1.Seconds hv11 0 (R64_lit rfl) 36000 (R64_lit rfl) _ hz13) ?_)
  rintro _ w14 ⟨rfl, hM2⟩
  obtain ⟨hM, hx15, hup16⟩ := hM.back hM2
  dsimp only [List.cons_append, List.nil_append] at hM hup16
  clear hM2
  refine ⟨_, rfl, fun a hf => ?_⟩
  refine q_ hf rfl rfl rfl (e_not hf rfl) fun a hf => ?_
  refine pl_nil ?_
  refine then_n ?_
  rcases cond_some h with ⟨hc17, h⟩ | ⟨hc17, h⟩
  · refine cond_t hf rfl hc17 ?_
    refine wp_seq ?_
    refine region_pl ?_
    refine q_ hf rfl rfl rfl (e_assign hf rfl) fun a hf => ?_
    refine pl_nil ?_
    refine then_n ?_
    refine wp_ret ?_
    refine then_r ?_
    obtain rfl := some_inj h
    exact leave1 hf rfl rfl ⟨rfl, hM.fin⟩
  · refine cond_f hf rfl hc17 ?_
    refine wp_skip ?_
    refine then_n ?_
    refine wp_seq ?_
    refine region_pl ?_
    refine q_ hf rfl rfl rfl (e_build hf Tryd.zeroValue28 Tryd.underlying28 (bp_28 _ Tryd.underlying28.symm) rfl (cs := #[vI (0), vI (0), .bool (false), vS (([] : Str))]) (by kernel_rfl)) fun a hf => ?_
    refine pl_l hf rfl rfl rfl (w_alloc hM (cs := [vI (0), vI (0), .bool (false), vS (([] : Str))]) Tryd.zeroValue28 rfl fun b18 w19 hx20 hM a hf => ?_)
    refine pl_0 hf rfl rfl (w_store hf hM (us := [vI (0), vI (0), .bool (false), vS (([] : Str))]) (cs' := [vI (0), vI (0), .bool (false), vS (([] : Str))]) rfl rfl (k := 0) rfl rfl Tryd.sizeOf28 rfl rfl rfl fun w22 hM => ?_)
    dsimp only [List.set] at hM
    refine pl_nil ?_
    refine then_n ?_
    refine wp_seq ?_
    refine wp_seq ?_
    refine region_pl ?_
    refine q_ hf rfl rfl rfl (e_move hf rfl) fun a hf => ?_
    refine q_ hf rfl rfl rfl (e_nil hf rfl) fun a hf => ?_
    refine q_ hf rfl rfl rfl (e_field hf rfl Tryd.underlying38 rfl Tryd.sizeOf2 (o' := o3 + 0) rfl) fun a hf => ?_
    refine q_ hf rfl rfl rfl (e_load1 hf rfl Tryd.isAgg2 (hM.litCell (k := 0) (j := 0) rfl rfl rfl)) fun a hf => ?_
    refine pl_nil ?_
    refine then_n ?_
    refine wp_block ?_
    refine wp_seq ?_
    refine region_pl ?_
    refine q_ hf rfl rfl rfl (e_eq hf (x := a1.Kind) (y := 1) rfl rfl) fun a hf => ?_
    refine q_ hf rfl rfl rfl (e_assign hf rfl) fun a hf => ?_
    refine pl_nil ?_
    refine then_n ?_
    rcases cond_some h with ⟨hc25, h⟩ | ⟨hc25, h⟩
    · refine cond_t hf rfl hc25 ?_
      obtain ⟨x28, h29, h⟩ := bind_some h
      refine seq_join (fun a w => ∃ (none26 : Bool), none26 = x28 ∧ Has 67 a [(2, .bool (none26))] ∧ Mem C w [.box b18 [vI (0), vI (0), .bool (false), vS (([] : Str))] 28] [.lit b2 (o3) [vI (a1.Kind), vI (a1.Play.Row), vI (a1.Play.Col), .bool (a1.Play.Down), vS (a1.Play.Word), vS (a1.Tiles), vI (a1.Seconds)], .dat (ptrRep ActionRep) a1 [vP b2 o3]]) ?_ ?_
      · refine region_pl ?_
        refine q_ hf rfl rfl rfl (e_move hf rfl) fun a hf => ?_
        refine q_ hf rfl rfl rfl (e_nil hf rfl) fun a hf => ?_
        refine q_ hf rfl rfl rfl (e_field hf rfl Tryd.underlying38 rfl Tryd.sizeOf28 (o' := o3 + 1) rfl) fun a hf => ?_
        refine q_ hf rfl rfl rfl (e_loadA hf (us := [vI (a1.Play.Row), vI (a1.Play.Col), .bool (a1.Play.Down), vS (a1.Play.Word)]) rfl ⟨Tryd.isAgg28, Tryd.sizeOf28⟩ rfl (hM.litSub (k := 0) (d := 1) (us := [vI (a1.Play.Row), vI (a1.Play.Col), .bool (a1.Play.Down), vS (a1.Play.Word)]) rfl rfl rfl)) fun a hf => ?_
        obtain ⟨y30, hz31, h29⟩ := bind_some h29
        refine pl_l hf rfl rfl rfl (w_call hf Tryd.call43 rfl (r_spec_l12Plain ⟨_, Sh C _ _, none_, hM.sh_lt, none_not, C.G, hM.g_lt, g_none, hM.tabs⟩ a1.Play hv7 hv8 hv9 _ hz31) ?_)
        rintro _ w32 ⟨rfl, hM2⟩
        obtain ⟨hM, hx33, hup34⟩ := hM.back hM2
        dsimp only [List.cons_append, List.nil_append] at hM hup34
        clear hM2
        refine ⟨_, rfl, fun a hf => ?_⟩
        refine q_ hf rfl rfl rfl (e_move hf rfl) fun a hf => ?_
        rcases cond_some h29 with ⟨hc35, h29⟩ | ⟨hc35, h29⟩
        · refine gq (wanted_t hf rfl rfl rfl rfl hc35) hf rfl rfl (e_move hf rfl) fun a hf => ?_
          refine gq (wanted_t hf rfl rfl rfl rfl hc35) hf rfl rfl (e_nil hf rfl) fun a hf => ?_
          refine gq (wanted_t hf rfl rfl rfl rfl hc35) hf rfl rfl (e_field hf rfl Tryd.underlying38 rfl Tryd.sizeOf9 (o' := o3 + 5) rfl) fun a hf => ?_
          refine gq (wanted_t hf rfl rfl rfl rfl hc35) hf rfl rfl (e_load1 hf rfl Tryd.isAgg9 (hM.litCell (k := 0) (j := 5) rfl rfl rfl)) fun a hf => ?_
          refine gq (wanted_t hf rfl rfl rfl rfl hc35) hf rfl rfl (e_eqS hf (x := a1.Tiles) (y := ([] : Str)) rfl rfl) fun a hf => ?_
          refine q_ hf rfl rfl rfl (e_pick_t hf rfl hc35 rfl) fun a hf => ?_
          refine q_ hf rfl rfl rfl (e_assign hf rfl) fun a hf => ?_
          refine pl_nil ?_
          obtain rfl := some_inj h29
          refine then_n ?_
          exact ⟨(a1.Tiles == ([] : Str)), rfl, hf.keep ⟨rfl, trivial⟩, hM.pick [0, 1] rfl⟩
        · refine pl_gs (wanted_f hf rfl rfl rfl rfl hc35) hf rfl rfl fun a hf => ?_
          refine pl_gs (wanted_f hf rfl rfl rfl rfl hc35) hf rfl rfl fun a hf => ?_
          refine pl_gs (wanted_f hf rfl rfl rfl rfl hc35) hf rfl rfl fun a hf => ?_
          refine pl_gs (wanted_f hf rfl rfl rfl rfl hc35) hf rfl rfl fun a hf => ?_
          refine pl_gs (wanted_f hf rfl rfl rfl rfl hc35) hf rfl rfl fun a hf => ?_
          refine q_ hf rfl rfl rfl (e_pick_f hf rfl hc35 rfl) fun a hf => ?_
          refine q_ hf rfl rfl rfl (e_assign hf rfl) fun a hf => ?_
          refine pl_nil ?_
          obtain rfl := some_inj h29
          refine then_n ?_
          exact ⟨false, rfl, hf.keep ⟨rfl, trivial⟩, hM.pick [0, 1] rfl⟩
      · rintro a w38 ⟨none26, rfl, hf, hM⟩
        try dsimp only at h
        refine wp_ret ?_
        refine blk_r ?_
        refine then_r ?_
        obtain rfl := some_inj h
        have hM := hM.outs (own' := []) 0 rfl
        exact leave1 hf rfl rfl ⟨rfl, hM.fin⟩
    · refine cond_f hf rfl hc25 ?_
      refine wp_seq ?_
      refine region_pl ?_
      refine q_ hf rfl rfl rfl (e_eq hf (x := a1.Kind) (y := 2) rfl rfl) fun a hf => ?_
      refine q_ hf rfl rfl rfl (e_assign hf rfl) fun a hf => ?_
      refine pl_nil ?_
      refine then_n ?_
      rcases cond_some h with ⟨hc39, h⟩ | ⟨hc39, h⟩
      · refine cond_t hf rfl hc39 ?_
        obtain ⟨x42, h43, h⟩ := bind_some h
        refine seq_join (fun a w => ∃ (none40 : Bool), none40 = x42 ∧ Has 67 a [(2, .bool (none40))] ∧ Mem C w [.box b18 [vI (0), vI (0), .bool (false), vS (([] : Str))] 28] [.lit b2 (o3) [vI (a1.Kind), vI (a1.Play.Row), vI (a1.Play.Col), .bool (a1.Play.Down), vS (a1.Play.Word), vS (a1.Tiles), vI (a1.Seconds)], .dat (ptrRep ActionRep) a1 [vP b2 o3]]) ?_ ?_
        · obtain ⟨w44, hw⟩ : ∃ x, x = w22.drew := ⟨_, rfl⟩
          refine region_pi (.q 0 (.q 1 (.q 2 (.q 3 (.q 4 (.q 5 (.q 6 (.q 7 (.q 8 (.q 9 (.q 10 (.q 11 (.q 12 (.q 13 (.q 14 (.q 15 (.q 16 (.q 17 (.l 18 (.q 19 (.q 20 (.nil)))))))))))))))))))))) (Ext w44) rfl (by kernel_rfl) ?_
          have hM := hM.drew
          rw [← hw] at hM ⊢
          clear hw
          refine pi_q hf rfl rfl rfl rfl (Ext.refl _) (e_move hf rfl) fun a hf => ?_
          refine pi_q hf rfl rfl rfl rfl (Ext.refl _) (e_nil hf rfl) fun a hf => ?_
          refine pi_q hf rfl rfl rfl rfl (Ext.refl _) (e_field hf rfl Tryd.underlying38 rfl Tryd.sizeOf28 (o' := o3 + 1) rfl) fun a hf => ?_
          refine pi_q hf rfl rfl rfl rfl (Ext.refl _) (e_loadA hf (us := [vI (a1.Play.Row), vI (a1.Play.Col), .bool (a1.Play.Down), vS (a1.Play.Word)]) rfl ⟨Tryd.isAgg28, Tryd.sizeOf28⟩ rfl (hM.litSub (k := 0) (d := 1) (us := [vI (a1.Play.Row), vI (a1.Play.Col), .bool (a1.Play.Down), vS (a1.Play.Word)]) rfl rfl rfl)) fun a hf => ?_
          refine pi_q hf rfl rfl rfl rfl (Ext.refl _) (e_loadA hf (us := [vI (0), vI (0), .bool (false), vS (([] : Str))]) rfl ⟨Tryd.isAgg28, Tryd.sizeOf28⟩ rfl (hM.boxSub (k := 0) (us := [vI (0), vI (0), .bool (false), vS (([] : Str))]) (o := 0) rfl rfl)) fun a hf => ?_
          refine pi_q hf rfl rfl rfl rfl (Ext.refl _) (Play_eql hf (x := a1.Play) (y := (⟨0, 0, false, ([] : Str)⟩ : Play)) rfl rfl) fun a hf => ?_
          refine pi_q hf rfl rfl rfl rfl (Ext.refl _) (e_move hf rfl) fun a hf => ?_
          rcases cond_some h43 with ⟨hc45, h43⟩ | ⟨hc45, h43⟩
          · refine pi_gq hf rfl (wanted_t hf rfl rfl rfl rfl hc45) rfl rfl (Ext.refl _) (e_move hf rfl) fun a hf => ?_
            refine pi_gq hf rfl (wanted_t hf rfl rfl rfl rfl hc45) rfl rfl (Ext.refl _) (e_nil hf rfl) fun a hf => ?_
            refine pi_gq hf rfl (wanted_t hf rfl rfl rfl rfl hc45) rfl rfl (Ext.refl _) (e_field hf rfl Tryd.underlying38 rfl Tryd.sizeOf9 (o' := o3 + 5) rfl) fun a hf => ?_
            refine pi_gq hf rfl (wanted_t hf rfl rfl rfl rfl hc45) rfl rfl (Ext.refl _) (e_load1 hf rfl Tryd.isAgg9 (hM.litCell (k := 0) (j := 5) rfl rfl rfl)) fun a hf => ?_
            refine pi_gq hf rfl (wanted_t hf rfl rfl rfl rfl hc45) rfl rfl (Ext.refl _) (e_neS hf (x := a1.Tiles) (y := ([] : Str)) rfl rfl) fun a hf => ?_
            refine pi_q hf rfl rfl rfl rfl (Ext.refl _) (e_pick_t hf rfl hc45 rfl) fun a hf => ?_
            refine pi_q hf rfl rfl rfl rfl (Ext.refl _) (e_move hf rfl) fun a hf => ?_
            rcases cond_some h43 with ⟨hc46, h43⟩ | ⟨hc46, h43⟩
            · refine pi_gq hf rfl (wanted_t hf rfl rfl rfl rfl hc46) rfl rfl (Ext.refl _) (e_move hf rfl) fun a hf => ?_
              refine pi_gq hf rfl (wanted_t hf rfl rfl rfl rfl hc46) rfl rfl (Ext.refl _) (e_nil hf rfl) fun a hf => ?_
              refine pi_gq hf rfl (wanted_t hf rfl rfl rfl rfl hc46) rfl rfl (Ext.refl _) (e_field hf rfl Tryd.underlying38 rfl Tryd.sizeOf9 (o' := o3 + 5) rfl) fun a hf => ?_
              refine pi_gq hf rfl (wanted_t hf rfl rfl rfl rfl hc46) rfl rfl (Ext.refl _) (e_load1 hf rfl Tryd.isAgg9 (hM.litCell (k := 0) (j := 5) rfl rfl rfl)) fun a hf => ?_
              refine pi_one ?_
              obtain ⟨y47, hz48, h43⟩ := bind_some h43
              refine pi_gl hf rfl (wanted_t hf rfl rfl rfl rfl hc46) rfl rfl (w_call hf Tryd.call42 rfl (r_spec_l03Rack ⟨_, Sh C _ _, none_, hM.sh_lt, none_not, C.G, hM.g_lt, g_none, hM.tabs⟩ a1.Tiles hv10 _ hz48) ?_)
              rintro _ w49 ⟨rfl, hM2⟩
              obtain ⟨hM, hx50, hup51⟩ := hM.back hM2
              dsimp only [List.cons_append, List.nil_append] at hM hup51
              clear hM2
              refine ⟨_, rfl, Ext w49, fun _ h => Ext.trans hx50 h, Ext.refl _, fun a hf => ?_⟩
              refine pi_q hf rfl rfl rfl rfl (Ext.refl _) (e_pick_t hf rfl hc46 rfl) fun a hf => ?_
              refine pi_q hf rfl rfl rfl rfl (Ext.refl _) (e_assign hf rfl) fun a hf => ?_
              refine pi_nil ?_
              obtain rfl := some_inj h43
              refine then_n ?_
              exact ⟨y47, rfl, hf.keep ⟨rfl, trivial⟩, hM.pick [0, 1] rfl⟩
            · refine pi_gs hf rfl (wanted_f hf rfl rfl rfl rfl hc46) rfl rfl (Ext.refl _) fun a hf => ?_
              refine pi_gs hf rfl (wanted_f hf rfl rfl rfl rfl hc46) rfl rfl (Ext.refl _) fun a hf => ?_
              refine pi_gs hf rfl (wanted_f hf rfl rfl rfl rfl hc46) rfl rfl (Ext.refl _) fun a hf => ?_
              refine pi_gs hf rfl (wanted_f hf rfl rfl rfl rfl hc46) rfl rfl (Ext.refl _) fun a hf => ?_
              refine pi_one ?_
              refine pi_ls hf rfl (wanted_f hf rfl rfl rfl rfl hc46) rfl rfl (Ext.refl _) fun a hf => ?_
              refine pi_q hf rfl rfl rfl rfl (Ext.refl _) (e_pick_f hf rfl hc46 rfl) fun a hf => ?_
              refine pi_q hf rfl rfl rfl rfl (Ext.refl _) (e_assign hf rfl) fun a hf => ?_
              refine pi_nil ?_
              obtain rfl := some_inj h43
              refine then_n ?_
              exact ⟨false, rfl, hf.keep ⟨rfl, trivial⟩, hM.pick [0, 1] rfl⟩
          · refine pi_gs hf rfl (wanted_f hf rfl rfl rfl rfl hc45) rfl rfl (Ext.refl _) fun a hf => ?_
            refine pi_gs hf rfl (wanted_f hf rfl rfl rfl rfl hc45) rfl rfl (Ext.refl _) fun a hf => ?_
            refine pi_gs hf rfl (wanted_f hf rfl rfl rfl rfl hc45) rfl rfl (Ext.refl _) fun a hf => ?_
            refine pi_gs hf rfl (wanted_f hf rfl rfl rfl rfl hc45) rfl rfl (Ext.refl _) fun a hf => ?_
            refine pi_gs hf rfl (wanted_f hf rfl rfl rfl rfl hc45) rfl rfl (Ext.refl _) fun a hf => ?_
            refine pi_q hf rfl rfl rfl rfl (Ext.refl _) (e_pick_f hf rfl hc45 rfl) fun a hf => ?_
            refine pi_q hf rfl rfl rfl rfl (Ext.refl _) (e_move hf rfl) fun a hf => ?_
            refine pi_gs hf rfl (wanted_f hf rfl rfl rfl rfl rfl) rfl rfl (Ext.refl _) fun a hf => ?_
            refine pi_gs hf rfl (wanted_f hf rfl rfl rfl rfl rfl) rfl rfl (Ext.refl _) fun a hf => ?_
            refine pi_gs hf rfl (wanted_f hf rfl rfl rfl rfl rfl) rfl rfl (Ext.refl _) fun a hf => ?_
            refine pi_gs hf rfl (wanted_f hf rfl rfl rfl rfl rfl) rfl rfl (Ext.refl _) fun a hf => ?_
            refine pi_one ?_
            refine pi_ls hf rfl (wanted_f hf rfl rfl rfl rfl rfl) rfl rfl (Ext.refl _) fun a hf => ?_
            refine pi_q hf rfl rfl rfl rfl (Ext.refl _) (e_pick_f hf rfl rfl rfl) fun a hf => ?_
            refine pi_q hf rfl rfl rfl rfl (Ext.refl _) (e_assign hf rfl) fun a hf => ?_
            refine pi_nil ?_
            obtain rfl := some_inj h43
            refine then_n ?_
            exact ⟨false, rfl, hf.keep ⟨rfl, trivial⟩, hM.pick [0, 1] rfl⟩
        · rintro a w55 ⟨none40, rfl, hf, hM⟩
          try dsimp only at h
          refine wp_ret ?_
          refine blk_r ?_
          refine then_r ?_
          obtain rfl := some_inj h
          have hM := hM.outs (own' := []) 0 rfl
          exact leave1 hf rfl rfl ⟨rfl, hM.fin⟩
      · refine cond_f hf rfl hc39 ?_
        obtain ⟨x58, h59, h⟩ := bind_some h
        refine seq_join (fun a w => ∃ (t56 : Bool), t56 = x58 ∧ Has 67 a [(0, vP b2 (o3)), (3, vP b18 (0)), (51, .bool (t56))] ∧ Mem C w [.box b18 [vI (0), vI (0), .bool (false), vS (([] : Str))] 28] [.lit b2 (o3) [vI (a1.Kind), vI (a1.Play.Row), vI (a1.Play.Col), .bool (a1.Play.Down), vS (a1.Play.Word), vS (a1.Tiles), vI (a1.Seconds)], .dat (ptrRep ActionRep) a1 [vP b2 o3]]) ?_ ?_
        · refine wp_seq ?_
          refine region_pl ?_
          refine q_ hf rfl rfl rfl (e_eq hf (x := a1.Kind) (y := 3) rfl rfl) fun a hf => ?_
          refine q_ hf rfl rfl rfl (e_assign hf rfl) fun a hf => ?_
          refine pl_nil ?_
          refine then_n ?_
          rcases cond_some h59 with ⟨hc60, h59⟩ | ⟨hc60, h59⟩
          · refine cond_t hf rfl hc60 ?_
            refine wp_skip ?_
            obtain rfl := some_inj h59
            refine then_n ?_
            exact ⟨(a1.Kind == 3), rfl, hf.keep ⟨rfl, rfl, rfl, trivial⟩, hM.pick [0, 1] rfl⟩
          · refine cond_f hf rfl hc60 ?_
            refine region_pl ?_
            refine q_ hf rfl rfl rfl (e_eq hf (x := a1.Kind) (y := 4) rfl rfl) fun a hf => ?_
            refine q_ hf rfl rfl rfl (e_assign hf rfl) fun a hf => ?_
            refine pl_nil ?_
            obtain rfl := some_inj h59
            refine then_n ?_
            exact ⟨(a1.Kind == 4), rfl, hf.keep ⟨rfl, rfl, rfl, trivial⟩, hM.pick [0, 1] rfl⟩
        · rintro a w63 ⟨t56, rfl, hf, hM⟩
          try dsimp only at h
          rcases cond_some h with ⟨hc64, h⟩ | ⟨hc64, h⟩
          · refine cond_t hf rfl hc64 ?_
            obtain ⟨x67, h68, h⟩ := bind_some h
            refine seq_join (fun a w => ∃ (none65 : Bool), none65 = x67 ∧ Has 67 a [(2, .bool (none65))] ∧ Mem C w [.box b18 [vI (0), vI (0), .bool (false), vS (([] : Str))] 28] [.lit b2 (o3) [vI (a1.Kind), vI (a1.Play.Row), vI (a1.Play.Col), .bool (a1.Play.Down), vS (a1.Play.Word), vS (a1.Tiles), vI (a1.Seconds)], .dat (ptrRep ActionRep) a1 [vP b2 o3]]) ?_ ?_
            · obtain ⟨w69, hw⟩ : ∃ x, x = w63.drew := ⟨_, rfl⟩
              refine region_pi (.q 0 (.q 1 (.q 2 (.q 3 (.q 4 (.q 5 (.q 6 (.q 7 (.q 8 (.q 9 (.q 10 (.q 11 (.q 12 (.q 13 (.nil))))))))))))))) (Ext w69) rfl (by kernel_rfl) ?_
              have hM := hM.drew
              rw [← hw] at hM ⊢
              clear hw
              refine pi_q hf rfl rfl rfl rfl (Ext.refl _) (e_move hf rfl) fun a hf => ?_
              refine pi_q hf rfl rfl rfl rfl (Ext.refl _) (e_nil hf rfl) fun a hf => ?_
              refine pi_q hf rfl rfl rfl rfl (Ext.refl _) (e_field hf rfl Tryd.underlying38 rfl Tryd.sizeOf28 (o' := o3 + 1) rfl) fun a hf => ?_
              refine pi_q hf rfl rfl rfl rfl (Ext.refl _) (e_loadA hf (us := [vI (a1.Play.Row), vI (a1.Play.Col), .bool (a1.Play.Down), vS (a1.Play.Word)]) rfl ⟨Tryd.isAgg28, Tryd.sizeOf28⟩ rfl (hM.litSub (k := 0) (d := 1) (us := [vI (a1.Play.Row), vI (a1.Play.Col), .bool (a1.Play.Down), vS (a1.Play.Word)]) rfl rfl rfl)) fun a hf => ?_
              refine pi_q hf rfl rfl rfl rfl (Ext.refl _) (e_loadA hf (us := [vI (0), vI (0), .bool (false), vS (([] : Str))]) rfl ⟨Tryd.isAgg28, Tryd.sizeOf28⟩ rfl (hM.boxSub (k := 0) (us := [vI (0), vI (0), .bool (false), vS (([] : Str))]) (o := 0) rfl rfl)) fun a hf => ?_
              refine pi_q hf rfl rfl rfl rfl (Ext.refl _) (Play_eql hf (x := a1.Play) (y := (⟨0, 0, false, ([] : Str)⟩ : Play)) rfl rfl) fun a hf => ?_
              refine pi_q hf rfl rfl rfl rfl (Ext.refl _) (e_move hf rfl) fun a hf => ?_
              rcases cond_some h68 with ⟨hc70, h68⟩ | ⟨hc70, h68⟩
              · refine pi_gq hf rfl (wanted_t hf rfl rfl rfl rfl hc70) rfl rfl (Ext.refl _) (e_move hf rfl) fun a hf => ?_
                refine pi_gq hf rfl (wanted_t hf rfl rfl rfl rfl hc70) rfl rfl (Ext.refl _) (e_nil hf rfl) fun a hf => ?_
                refine pi_gq hf rfl (wanted_t hf rfl rfl rfl rfl hc70) rfl rfl (Ext.refl _) (e_field hf rfl Tryd.underlying38 rfl Tryd.sizeOf9 (o' := o3 + 5) rfl) fun a hf => ?_
                refine pi_gq hf rfl (wanted_t hf rfl rfl rfl rfl hc70) rfl rfl (Ext.refl _) (e_load1 hf rfl Tryd.isAgg9 (hM.litCell (k := 0) (j := 5) rfl rfl rfl)) fun a hf => ?_
                refine pi_gq hf rfl (wanted_t hf rfl rfl rfl rfl hc70) rfl rfl (Ext.refl _) (e_eqS hf (x := a1.Tiles) (y := ([] : Str)) rfl rfl) fun a hf => ?_
                refine pi_q hf rfl rfl rfl rfl (Ext.refl _) (e_pick_t hf rfl hc70 rfl) fun a hf => ?_
                refine pi_q hf rfl rfl rfl rfl (Ext.refl _) (e_assign hf rfl) fun a hf => ?_
                refine pi_nil ?_
                obtain rfl := some_inj h68
                refine then_n ?_
                exact ⟨(a1.Tiles == ([] : Str)), rfl, hf.keep ⟨rfl, trivial⟩, hM.pick [0, 1] rfl⟩
              · refine pi_gs hf rfl (wanted_f hf rfl rfl rfl rfl hc70) rfl rfl (Ext.refl _) fun a hf => ?_
                refine pi_gs hf rfl (wanted_f hf rfl rfl rfl rfl hc70) rfl rfl (Ext.refl _) fun a hf => ?_
                refine pi_gs hf rfl (wanted_f hf rfl rfl rfl rfl hc70) rfl rfl (Ext.refl _) fun a hf => ?_
                refine pi_gs hf rfl (wanted_f hf rfl rfl rfl rfl hc70) rfl rfl (Ext.refl _) fun a hf => ?_
                refine pi_gs hf rfl (wanted_f hf rfl rfl rfl rfl hc70) rfl rfl (Ext.refl _) fun a hf => ?_
                refine pi_q hf rfl rfl rfl rfl (Ext.refl _) (e_pick_f hf rfl hc70 rfl) fun a hf => ?_
                refine pi_q hf rfl rfl rfl rfl (Ext.refl _) (e_assign hf rfl) fun a hf => ?_
                refine pi_nil ?_
                obtain rfl := some_inj h68
                refine then_n ?_
                exact ⟨false, rfl, hf.keep ⟨rfl, trivial⟩, hM.pick [0, 1] rfl⟩
            · rintro a w73 ⟨none65, rfl, hf, hM⟩
              try dsimp only at h
              refine wp_ret ?_
              refine blk_r ?_
              refine then_r ?_
              obtain rfl := some_inj h
              have hM := hM.outs (own' := []) 0 rfl
              exact leave1 hf rfl rfl ⟨rfl, hM.fin⟩
          · refine cond_f hf rfl hc64 ?_
            refine wp_skip ?_
            refine blk_n ?_
            refine then_n ?_
            refine wp_seq ?_
            refine region_pl ?_
            refine q_ hf rfl rfl rfl (e_assign hf rfl) fun a hf => ?_
            refine pl_nil ?_
            refine then_n ?_
            refine wp_ret ?_
            obtain rfl := some_inj h
            have hM := hM.outs (own' := []) 0 rfl
            exact leave1 hf rfl rfl ⟨rfl, hM.fin⟩

set_option maxRecDepth 100000 in
set_option maxHeartbeats 4000000 in
theorem r_spec_l20Ok (C : Cx) (r1 : Record) (b2 : Nat) (o3 : Nat) (hp4 : (ptrRep RecordRep).R C.w0 C.S0 r1 [vP b2 o3]) (r : Bool) (h : m_spec_l20Ok r1 = some r) :
    Calls Tryd.prog 37 #[vP b2 (o3)] C.w0 fun e w => e = .returned (.bool (r)) ∧ Mem C w [] [] := by
  have hM := Mem.begin C [.dat (ptrRep RecordRep) r1 [vP b2 o3]] ⟨hp4, trivial⟩
  refine enter Tryd.func37 rfl Tryd.ntmps37 rfl fun a hf => ?_
  unfold m_spec_l20Ok at h
  refine wp_seq ?_
  refine region_pl ?_
  refine q_ hf rfl rfl rfl (e_assign hf rfl) fun a hf => ?_
  refine pl_nil ?_
  refine then_n ?_
  obtain ⟨x5, h6, h⟩ := bind_some h
  refine seq_join (fun a w => (.inl ()) = x5 ∧ Has 34 a [(0, vP b2 (o3))] ∧ Mem C w [] [.dat (ptrRep RecordRep) r1 [vP b2 o3]]) ?_ ?_
  · refine wp_seq ?_
    refine region_pl ?_
    refine q_ hf rfl rfl rfl (e_assign hf rfl) fun a hf => ?_
    refine pl_nil ?_
    refine then_n ?_
    refine wp_block ?_
    obtain ⟨x10, h11, h6⟩ := bind_some h6
    refine wp_loopM h11 (fun s a w => ∃ (n7 : Int), n7 = s ∧ Has 34 a [(0, vP b2 (o3)), (3, vI (n7))] ∧ Mem C w [] [.dat (ptrRep RecordRep) r1 [vP b2 o3]] ∧ R64 n7) ?_ ?_
    · exact ⟨0, rfl, hf.keep ⟨rfl, rfl, trivial⟩, hM.pick [0] rfl, (R64_lit rfl)⟩
    · rintro s o12 a w9 ⟨n7, rfl, hf, hM, hv8⟩ h13 hd14
      replace h13 : m_spec_l20Ok_l1 r1 n7 = some o12 := h13
      unfold m_spec_l20Ok_l1 at h13
      refine wp_seq ?_
      refine wp_seq ?_
      refine region_pl ?_
      refine q_ hf rfl rfl rfl (e_move hf rfl) fun a hf => ?_
      refine q_ hf rfl rfl rfl (e_move hf rfl) fun a hf => ?_
      refine q_ hf rfl rfl rfl (e_nil hf rfl) fun a hf => ?_
      obtain ⟨_, hr15, hM⟩ := hM.deref (hM.dat (k := 0) rfl)
      obtain ⟨A17, c18, rfl, hv16, hv19⟩ := RecordRep_open hr15
      have hM := hM.add (y := .dat (sliceRep ActionRep) r1.Actions [vL A17 r1.Actions c18]) hv19
      refine q_ hf rfl rfl rfl (e_field hf rfl Tryd.underlying48 rfl Tryd.sizeOf46 (o' := o3 + 1) rfl) fun a hf => ?_
      refine q_ hf rfl rfl rfl (e_load1 hf rfl Tryd.isAgg46 (hM.litCell (k := 1) (j := 1) rfl rfl rfl)) fun a hf => ?_
      have hl20 := slice_len (hM.dat (k := 0) rfl)
      refine q_ hf rfl rfl rfl (e_lenL hf (x := r1.Actions) rfl Tryd.underlying46) fun a hf => ?_
      refine q_ hf rfl rfl rfl (e_lt hf (x := n7) (y := (r1.Actions.length : Int)) rfl rfl) fun a hf => ?_
      refine pl_nil ?_
      refine then_n ?_
      rcases cond_some h13 with ⟨hc21, h13⟩ | ⟨hc21, h13⟩
      · refine cond_t hf rfl hc21 ?_
        refine wp_skip ?_
        refine then_n ?_
        refine wp_seq ?_
        refine wp_block ?_
        refine wp_seq ?_
        refine region_pl ?_
        refine q_ hf rfl rfl rfl (e_move hf rfl) fun a hf => ?_
        refine q_ hf rfl rfl rfl (e_nil hf rfl) fun a hf => ?_
        refine q_ hf rfl rfl rfl (e_field hf rfl Tryd.underlying48 rfl Tryd.sizeOf46 (o' := o3 + 1) rfl) fun a hf => ?_
        refine q_ hf rfl rfl rfl (e_load1 hf rfl Tryd.isAgg46 (hM.litCell (k := 1) (j := 1) rfl rfl rfl)) fun a hf => ?_
        refine q_ hf rfl rfl rfl (e_move hf rfl) fun a hf => ?_
        obtain ⟨e22, hz23, h13⟩ := bind_some h13
        obtain ⟨b27, o28, _, hA29, h24, h25, hr26, hM⟩ := hM.elem (hM.dat (k := 0) rfl) (n := 7) rfl hz23
        obtain ⟨rfl, hv30, hv31, hv32, hv33, hv34, hv35⟩ := ActionRep_open hr26
        refine q_ hf rfl rfl rfl (e_indexAddr (A := A17) (b := b27) (o := o28) (xs := r1.Actions) (i := n7) hf hA29 rfl rfl Tryd.underlying46 Tryd.sizeOf38 h24 h25) fun a hf => ?_
        obtain ⟨y36, hz37, h13⟩ := bind_some h13
        refine pl_l hf rfl rfl rfl (w_call hf Tryd.call31 rfl (r_spec_l20Action ⟨_, Sh C _ _, none_, hM.sh_lt, none_not, C.G, hM.g_lt, g_none, hM.tabs⟩ e22 _ _ (hM.litPtr (k := 0) (d := 0) (us := [vI (e22.Kind), vI (e22.Play.Row), vI (e22.Play.Col), .bool (e22.Play.Down), vS (e22.Play.Word), vS (e22.Tiles), vI (e22.Seconds)]) rfl rfl rfl (ActionRep_mk (x := e22) hv30 hv31 hv32 hv33 hv34 hv35)) _ hz37) ?_)
        rintro _ w38 ⟨rfl, hM2⟩
        obtain ⟨hM, hx39, hup40⟩ := hM.back hM2
        dsimp only [List.cons_append, List.nil_append] at hM hup40
        clear hM2
        refine ⟨_, rfl, fun a hf => ?_⟩
        refine q_ hf rfl rfl rfl (e_not hf rfl) fun a hf => ?_
        refine pl_nil ?_
        refine then_n ?_
        rcases cond_some h13 with ⟨hc41, h13⟩ | ⟨hc41, h13⟩
        · refine cond_t hf rfl hc41 ?_
          refine wp_seq ?_
          refine region_pl ?_
          refine q_ hf rfl rfl rfl (e_assign hf rfl) fun a hf => ?_
          refine pl_nil ?_
          refine then_n ?_
          refine wp_ret ?_
          refine blk_r ?_
          refine then_r ?_
          obtain rfl := some_inj h13
          obtain rfl := hd14 _ rfl
          try dsimp only at h6
          refine then_r ?_
          refine blk_r ?_
          obtain rfl := some_inj h6
          try dsimp only at h
          refine then_r ?_
          obtain rfl := some_inj h
          exact leave1 hf rfl rfl ⟨rfl, hM.fin⟩
        · refine cond_f hf rfl hc41 ?_
          refine wp_skip ?_
          refine blk_n ?_
          refine then_n ?_
          refine region_pl ?_
          refine q_ hf rfl rfl rfl (e_move hf rfl) fun a hf => ?_
          obtain ⟨z42, hz43, h13⟩ := bind_some h13
          refine q_ hf rfl rfl rfl (e_add hf rfl rfl hz43) fun a hf => ?_
          refine q_ hf rfl rfl rfl (e_assign hf rfl) fun a hf => ?_
          refine pl_nil ?_
          obtain rfl := some_inj h13
          refine then_n ⟨_, rfl, ?_⟩
          exact ⟨z42, rfl, hf.keep ⟨rfl, rfl, trivial⟩, hM.pick [3] rfl, (chk_R hz43)⟩
      · refine cond_f hf rfl hc21 ?_
        refine wp_exit ?_
        refine then_x ?_
        obtain rfl := some_inj h13
        obtain rfl := hd14 _ rfl
        try dsimp only at h6
        refine then_x ?_
        refine exit_hit ?_
        obtain rfl := some_inj h6
        refine then_n ?_
        exact ⟨rfl, hf.keep ⟨rfl, trivial⟩, hM.pick [2] rfl⟩
  · rintro a w50 ⟨rfl, hf, hM⟩
    try dsimp only at h
    obtain ⟨x53, h54, h⟩ := bind_some h
    refine seq_join (fun a w => ∃ (i51 : Bool), i51 = x53 ∧ Has 34 a [(2, .bool (i51))] ∧ Mem C w [] [.dat (ptrRep RecordRep) r1 [vP b2 o3]]) ?_ ?_
    · refine region_pl ?_
      refine q_ hf rfl rfl rfl (e_move hf rfl) fun a hf => ?_
      refine q_ hf rfl rfl rfl (e_nil hf rfl) fun a hf => ?_
      obtain ⟨_, hr55, hM⟩ := hM.deref (hM.dat (k := 0) rfl)
      obtain ⟨A57, c58, rfl, hv56, hv59⟩ := RecordRep_open hr55
      have hM := hM.add (y := .dat (sliceRep ActionRep) r1.Actions [vL A57 r1.Actions c58]) hv59
      refine q_ hf rfl rfl rfl (e_field hf rfl Tryd.underlying48 rfl Tryd.sizeOf2 (o' := o3 + 0) rfl) fun a hf => ?_
      refine q_ hf rfl rfl rfl (e_load1 hf rfl Tryd.isAgg2 (hM.litCell (k := 1) (j := 0) rfl rfl rfl)) fun a hf => ?_
      obtain ⟨y60, hz61, h54⟩ := bind_some h54
      refine pl_l hf rfl rfl rfl (w_call hf Tryd.call48 rfl (r_spec_l00In ⟨_, Sh C _ _, none_, hM.sh_lt, none_not, C.G, hM.g_lt, g_none, hM.tabs⟩ r1.Seed hv56 0 (R64_lit rfl) 2147483647 (R64_lit rfl) _ hz61) ?_)
      rintro _ w62 ⟨rfl, hM2⟩
      obtain ⟨hM, hx63, hup64⟩ := hM.back hM2
      dsimp only [List.cons_append, List.nil_append] at hM hup64
      clear hM2
      refine ⟨_, rfl, fun a hf => ?_⟩
      refine q_ hf rfl rfl rfl (e_move hf rfl) fun a hf => ?_
      rcases cond_some h54 with ⟨hc65, h54⟩ | ⟨hc65, h54⟩
      · refine gq (wanted_t hf rfl rfl rfl rfl hc65) hf rfl rfl (e_move hf rfl) fun a hf => ?_
        refine gq (wanted_t hf rfl rfl rfl rfl hc65) hf rfl rfl (e_nil hf rfl) fun a hf => ?_
        refine gq (wanted_t hf rfl rfl rfl rfl hc65) hf rfl rfl (e_field hf rfl Tryd.underlying48 rfl Tryd.sizeOf46 (o' := o3 + 1) rfl) fun a hf => ?_
        refine gq (wanted_t hf rfl rfl rfl rfl hc65) hf rfl rfl (e_load1 hf rfl Tryd.isAgg46 (hM.litCell (k := 1) (j := 1) rfl rfl rfl)) fun a hf => ?_
        have hl66 := slice_len (hM.dat (k := 0) rfl)
        refine gq (wanted_t hf rfl rfl rfl rfl hc65) hf rfl rfl (e_lenL hf (x := r1.Actions) rfl Tryd.underlying46) fun a hf => ?_
        refine gq (wanted_t hf rfl rfl rfl rfl hc65) hf rfl rfl (e_le hf (x := (r1.Actions.length : Int)) (y := 200) rfl rfl) fun a hf => ?_
        refine q_ hf rfl rfl rfl (e_pick_t hf rfl hc65 rfl) fun a hf => ?_
        refine q_ hf rfl rfl rfl (e_assign hf rfl) fun a hf => ?_
        refine pl_nil ?_
        obtain rfl := some_inj h54
        refine then_n ?_
        exact ⟨(decide ((r1.Actions.length : Int) ≤ 200)), rfl, hf.keep ⟨rfl, trivial⟩, hM.pick [2] rfl⟩
      · refine pl_gs (wanted_f hf rfl rfl rfl rfl hc65) hf rfl rfl fun a hf => ?_
        refine pl_gs (wanted_f hf rfl rfl rfl rfl hc65) hf rfl rfl fun a hf => ?_
        refine pl_gs (wanted_f hf rfl rfl rfl rfl hc65) hf rfl rfl fun a hf => ?_
        refine pl_gs (wanted_f hf rfl rfl rfl rfl hc65) hf rfl rfl fun a hf => ?_
        refine pl_gs (wanted_f hf rfl rfl rfl rfl hc65) hf rfl rfl fun a hf => ?_
        refine pl_gs (wanted_f hf rfl rfl rfl rfl hc65) hf rfl rfl fun a hf => ?_
        refine q_ hf rfl rfl rfl (e_pick_f hf rfl hc65 rfl) fun a hf => ?_
        refine q_ hf rfl rfl rfl (e_assign hf rfl) fun a hf => ?_
        refine pl_nil ?_
        obtain rfl := some_inj h54
        refine then_n ?_
        exact ⟨false, rfl, hf.keep ⟨rfl, trivial⟩, hM.pick [2] rfl⟩
    · rintro a w69 ⟨i51, rfl, hf, hM⟩
      try dsimp only at h
      refine wp_ret ?_
      obtain rfl := some_inj h
      exact leave1 hf rfl rfl ⟨rfl, hM.fin⟩

set_option maxRecDepth 100000 in
set_option maxHeartbeats 4000000 in
theorem r_spec_l01Dec (C : Cx) (n1 : Int) (hp2 : R64 n1) (r : Str) (h : m_spec_l01Dec n1 = some r) :
    Calls Tryd.prog 49 #[vI (n1)] C.w0 fun e w => e = .returned (vS (r)) ∧ Mem C w [] [] ∧ r.length ≤ maxLen := by
  have hM := Mem.begin C [] trivial
  refine enter Tryd.func49 rfl Tryd.ntmps49 rfl fun a hf => ?_
  unfold m_spec_l01Dec at h
  refine wp_seq ?_
  refine region_pl ?_
  refine q_ hf rfl rfl rfl (e_assign hf rfl) fun a hf => ?_
  refine pl_nil ?_
  refine then_n ?_
  refine wp_seq ?_
  refine region_pl ?_
  refine pl_l hf rfl rfl rfl (w_slice0 (K := byteRep) hM Tryd.underlying59 ei_5 fun b3 w4 hx5 hM a hf => ?_)
  refine q_ hf rfl rfl rfl (e_assign hf rfl) fun a hf => ?_
  refine pl_nil ?_
  refine then_n ?_
  obtain ⟨x9, h10, h⟩ := bind_some h
  refine seq_join (fun a w => ∃ (xs6 : Str) (A7 : Option Addr) (c8 : Nat), xs6 = x9 ∧ Has 34 a [(0, vI (n1)), (3, vL A7 (xs6) c8)] ∧ Mem C w [.row byteRep A7 c8 5 xs6 true] []) ?_ ?_
  · refine wp_seq ?_
    refine region_pl ?_
    refine q_ hf rfl rfl rfl (e_move hf rfl) fun a hf => ?_
    refine q_ hf rfl rfl rfl (e_assign hf rfl) fun a hf => ?_
    refine pl_nil ?_
    refine then_n ?_
    refine wp_block ?_
    obtain ⟨x20, h21, h10⟩ := bind_some h10
    refine wp_loopM h21 (fun s a w => ∃ (xs11 : Str) (d14 : Int) (A12 : Option Addr) (c13 : Nat), (xs11, d14) = s ∧ Has 34 a [(0, vI (n1)), (3, vL A12 (xs11) c13), (4, vI (d14))] ∧ Mem C w [.row byteRep A12 c13 5 xs11 true] [] ∧ R64 d14) ?_ ?_
    · exact ⟨([] : Str), n1, (some ⟨b3, 0, none⟩), 0, rfl, hf.keep ⟨rfl, rfl, rfl, trivial⟩, hM.pick [] rfl, hp2⟩
    · rintro s o22 a w16 ⟨xs11, d14, A12, c13, rfl, hf, hM, hv15⟩ h23 hd24
      replace h23 : m_spec_l01Dec_l1 xs11 d14 = some o22 := h23
      unfold m_spec_l01Dec_l1 at h23
      refine wp_seq ?_
      refine wp_seq ?_
      refine region_pl ?_
      refine q_ hf rfl rfl rfl (e_move hf rfl) fun a hf => ?_
      refine q_ hf rfl rfl rfl (e_ne hf (x := d14) (y := 0) rfl rfl) fun a hf => ?_
      refine pl_nil ?_
      refine then_n ?_
      rcases cond_some h23 with ⟨hc25, h23⟩ | ⟨hc25, h23⟩
      · refine cond_t hf rfl hc25 ?_
        refine wp_skip ?_
        refine then_n ?_
        refine wp_seq ?_
        refine wp_block ?_
        refine wp_seq ?_
        refine region_pl ?_
        refine q_ hf rfl rfl rfl (e_move hf rfl) fun a hf => ?_
        obtain ⟨z26, hz27, h23⟩ := bind_some h23
        refine q_ hf rfl rfl rfl (e_rem hf rfl rfl hz27) fun a hf => ?_
        refine q_ hf rfl rfl rfl (e_assign hf rfl) fun a hf => ?_
        refine pl_nil ?_
        refine then_n ?_
        obtain ⟨x30, h31, h23⟩ := bind_some h23
        refine seq_join (fun a w => ∃ (n28 : Int), n28 = x30 ∧ Has 34 a [(0, vI (n1)), (3, vL A12 (xs11) c13), (4, vI (d14)), (5, vI (n28))] ∧ Mem C w [.row byteRep A12 c13 5 xs11 true] [] ∧ R64 n28) ?_ ?_
        · refine wp_seq ?_
          refine region_pl ?_
          refine q_ hf rfl rfl rfl (e_move hf rfl) fun a hf => ?_
          refine q_ hf rfl rfl rfl (e_lt hf (x := z26) (y := 0) rfl rfl) fun a hf => ?_
          refine pl_nil ?_
          refine then_n ?_
          rcases cond_some h31 with ⟨hc32, h31⟩ | ⟨hc32, h31⟩
          · refine cond_t hf rfl hc32 ?_
            refine region_pl ?_
            refine q_ hf rfl rfl rfl (e_move hf rfl) fun a hf => ?_
            obtain ⟨z33, hz34, h31⟩ := bind_some h31
            refine q_ hf rfl rfl rfl (e_neg hf rfl hz34) fun a hf => ?_
            refine q_ hf rfl rfl rfl (e_assign hf rfl) fun a hf => ?_
            refine pl_nil ?_
            obtain rfl := some_inj h31
            refine then_n ?_
            exact ⟨z33, rfl, hf.keep ⟨rfl, rfl, rfl, rfl, trivial⟩, hM.pick [] rfl, (chk_R hz34)⟩
          · refine cond_f hf rfl hc32 ?_
            refine wp_skip ?_
            obtain rfl := some_inj h31
            refine then_n ?_
            exact ⟨z26, rfl, hf.keep ⟨rfl, rfl, rfl, rfl, trivial⟩, hM.pick [] rfl, (remI_R hz27 hv15)⟩
        · rintro a w37 ⟨n28, rfl, hf, hM, hv29⟩
          try dsimp only at h23
          refine region_pl ?_
          refine q_ hf rfl rfl rfl (e_move hf rfl) fun a hf => ?_
          obtain ⟨z38, hz39, h23⟩ := bind_some h23
          refine q_ hf rfl rfl rfl (e_add hf rfl rfl hz39) fun a hf => ?_
          refine q_ hf rfl rfl rfl (e_convIB hf rfl Tryd.underlying2 Tryd.underlying5) fun a hf => ?_
          refine pl_l hf rfl rfl rfl (w_slice hf hM (K := byteRep) (xs := ([UInt8.ofNat (z38 % 256).toNat] : Str)) (os := [.tmp 20]) Tryd.underlying59 ei_5 rfl rfl rfl rfl rfl ⟨⟨[vB (UInt8.ofNat (z38 % 256).toNat)], rfl, rfl⟩, trivial⟩ rfl fun b40 w41 hx42 hM a hf => ?_)
          refine q_ hf rfl rfl rfl (e_move hf rfl) fun a hf => ?_
          have hM := hM.freezeRow (k := 1) rfl rfl
          dsimp only [List.eraseIdx] at hM
          obtain ⟨xs43, hz44, h23⟩ := bind_some h23
          refine pl_l hf rfl rfl rfl (w_appendD hf hM Tryd.underlying59 ei_5 rfl rfl rfl (k := 0) rfl (hM.dat (k := 0) rfl) hz44 fun A45 c46 w47 hM a hf => ?_)
          dsimp only [List.set] at hM
          refine q_ hf rfl rfl rfl (e_assign hf rfl) fun a hf => ?_
          refine pl_nil ?_
          refine blk_n ?_
          refine then_n ?_
          refine region_pl ?_
          refine q_ hf rfl rfl rfl (e_move hf rfl) fun a hf => ?_
          obtain ⟨z50, hz51, h23⟩ := bind_some h23
          refine q_ hf rfl rfl rfl (e_quo hf rfl rfl hz51) fun a hf => ?_
          refine q_ hf rfl rfl rfl (e_assign hf rfl) fun a hf => ?_
          refine pl_nil ?_
          obtain rfl := some_inj h23
          refine then_n ⟨_, rfl, ?_⟩
          exact ⟨xs43, z50, A45, c46, rfl, hf.keep ⟨rfl, rfl, rfl, trivial⟩, hM.pick [] rfl, (quoI_R hz51)⟩
      · refine cond_f hf rfl hc25 ?_
        refine wp_exit ?_
        refine then_x ?_
        obtain rfl := some_inj h23
        obtain rfl := hd24 _ rfl
        try dsimp only at h10
        refine then_x ?_
        refine exit_hit ?_
        obtain rfl := some_inj h10
        refine then_n ?_
        exact ⟨xs11, A12, c13, rfl, hf.keep ⟨rfl, rfl, trivial⟩, hM.pick [] rfl⟩
  · rintro a w57 ⟨xs6, A7, c8, rfl, hf, hM⟩
    try dsimp only at h
    refine wp_seq ?_
    refine wp_seq ?_
    refine region_pl ?_
    refine q_ hf rfl rfl rfl (e_move hf rfl) fun a hf => ?_
    have hl58 := row_len (hM.ownAt (k := 0) rfl)
    refine q_ hf rfl rfl rfl (e_lenL hf (x := xs6) rfl Tryd.underlying59) fun a hf => ?_
    refine q_ hf rfl rfl rfl (e_eq hf (x := (xs6.length : Int)) (y := 0) rfl rfl) fun a hf => ?_
    refine pl_nil ?_
    refine then_n ?_
    rcases cond_some h with ⟨hc59, h⟩ | ⟨hc59, h⟩
    · refine cond_t hf rfl hc59 ?_
      refine wp_seq ?_
      refine region_pl ?_
      refine q_ hf rfl rfl rfl (e_assign hf rfl) fun a hf => ?_
      refine pl_nil ?_
      refine then_n ?_
      refine wp_ret ?_
      refine then_r ?_
      obtain rfl := some_inj h
      have hM := hM.outs (own' := []) 0 rfl
      exact leave1 hf rfl rfl ⟨rfl, hM.fin, (lit_len rfl)⟩
    · refine cond_f hf rfl hc59 ?_
      refine wp_skip ?_
      refine then_n ?_
      refine wp_seq ?_
      refine wp_seq ?_
      refine region_pl ?_
      refine q_ hf rfl rfl rfl (e_move hf rfl) fun a hf => ?_
      refine q_ hf rfl rfl rfl (e_lt hf (x := n1) (y := 0) rfl rfl) fun a hf => ?_
      refine pl_nil ?_
      refine then_n ?_
      rcases cond_some h with ⟨hc60, h⟩ | ⟨hc60, h⟩
      · refine cond_t hf rfl hc60 ?_
        refine wp_seq ?_
        refine region_pl ?_
        refine q_ hf rfl rfl rfl (e_move hf rfl) fun a hf => ?_
        have hl61 := row_len (hM.ownAt (k := 0) rfl)
        refine q_ hf rfl rfl rfl (e_bytesStr hf (xs := xs6) rfl Tryd.underlying59 Tryd.underlying5 Tryd.underlying9 (hM.lendRow (k := 0) rfl)) fun a hf => ?_
        obtain ⟨s62, hz63, h⟩ := bind_some h
        refine q_ hf rfl rfl rfl (e_cat hf (x := ([45] : Str)) (y := xs6) rfl rfl hz63) fun a hf => ?_
        refine q_ hf rfl rfl rfl (e_assign hf rfl) fun a hf => ?_
        refine pl_nil ?_
        refine then_n ?_
        refine wp_ret ?_
        refine then_r ?_
        obtain rfl := some_inj h
        have hM := hM.outs (own' := []) 0 rfl
        exact leave1 hf rfl rfl ⟨rfl, hM.fin, (cat_len hz63)⟩
      · refine cond_f hf rfl hc60 ?_
        refine wp_skip ?_
        refine then_n ?_
        refine wp_seq ?_
        refine region_pl ?_
        refine q_ hf rfl rfl rfl (e_move hf rfl) fun a hf => ?_
        have hl64 := row_len (hM.ownAt (k := 0) rfl)
        refine q_ hf rfl rfl rfl (e_bytesStr hf (xs := xs6) rfl Tryd.underlying59 Tryd.underlying5 Tryd.underlying9 (hM.lendRow (k := 0) rfl)) fun a hf => ?_
        refine q_ hf rfl rfl rfl (e_assign hf rfl) fun a hf => ?_
        refine pl_nil ?_
        refine then_n ?_
        refine wp_ret ?_
        obtain rfl := some_inj h
        have hM := hM.outs (own' := []) 0 rfl
        exact leave1 hf rfl rfl ⟨rfl, hM.fin, hl64⟩

set_option maxRecDepth 100000 in
set_option maxHeartbeats 4000000 in
theorem r_spec_l12Text (C : Cx) (p1 : Play) (hp2 : R64 p1.Row) (hp3 : R64 p1.Col) (hp4 : p1.Word.length ≤ maxLen) (r : Str) (h : m_spec_l12Text p1 = some r) :
    Calls Tryd.prog 44 #[.agg #[vI (p1.Row), vI (p1.Col), .bool (p1.Down), vS (p1.Word)]] C.w0 fun e w => e = .returned (vS (r)) ∧ Mem C w [] [] ∧ r.length ≤ maxLen := by
  have hM := Mem.begin C [] trivial
  refine enter Tryd.func44 rfl Tryd.ntmps44 rfl fun a hf => ?_
  unfold m_spec_l12Text at h
  refine wp_seq ?_
  refine region_pl ?_
  refine pl_l hf rfl rfl rfl (w_box hf hM (cs := [vI (p1.Row), vI (p1.Col), .bool (p1.Down), vS (p1.Word)]) rfl rfl fun b5 w6 hx7 hM a hf => ?_)
  refine q_ hf rfl rfl rfl (e_assign hf rfl) fun a hf => ?_
  refine pl_nil ?_
  refine then_n ?_
  refine wp_seq ?_
  refine region_pl ?_
  refine q_ hf rfl rfl rfl (e_field hf rfl Tryd.underlying28 rfl Tryd.sizeOf2 (o' := 0) rfl) fun a hf => ?_
  refine q_ hf rfl rfl rfl (e_load1 hf rfl Tryd.isAgg2 (hM.boxCell (k := 0) rfl rfl)) fun a hf => ?_
  obtain ⟨z9, hz10, h⟩ := bind_some h
  refine q_ hf rfl rfl rfl (e_add hf rfl rfl hz10) fun a hf => ?_
  obtain ⟨y11, hz12, h⟩ := bind_some h
  refine pl_l hf rfl rfl rfl (w_call hf Tryd.call49 rfl (r_spec_l01Dec ⟨_, Sh C _ _, none_, hM.sh_lt, none_not, C.G, hM.g_lt, g_none, hM.tabs⟩ z9 (chk_R hz10) _ hz12) ?_)
  rintro _ w14 ⟨rfl, hM2, hv13⟩
  obtain ⟨hM, hx15, hup16⟩ := hM.back hM2
  dsimp only [List.cons_append, List.nil_append] at hM hup16
  clear hM2
  refine ⟨_, rfl, fun a hf => ?_⟩
  refine q_ hf rfl rfl rfl (e_assign hf rfl) fun a hf => ?_
  refine pl_nil ?_
  refine then_n ?_
  refine wp_seq ?_
  refine region_pl ?_
  refine q_ hf rfl rfl rfl (e_field hf rfl Tryd.underlying28 rfl Tryd.sizeOf2 (o' := 1) rfl) fun a hf => ?_
  refine q_ hf rfl rfl rfl (e_load1 hf rfl Tryd.isAgg2 (hM.boxCell (k := 0) rfl rfl)) fun a hf => ?_
  obtain ⟨z17, hz18, h⟩ := bind_some h
  refine q_ hf rfl rfl rfl (e_add hf rfl rfl hz18) fun a hf => ?_
  refine q_ hf rfl rfl rfl (e_convIB hf rfl Tryd.underlying2 Tryd.underlying5) fun a hf => ?_
  refine pl_l hf rfl rfl rfl (w_slice hf hM (K := byteRep) (xs := ([UInt8.ofNat (z17 % 256).toNat] : Str)) (os := [.tmp 12]) Tryd.underlying59 ei_5 rfl rfl rfl rfl rfl ⟨⟨[vB (UInt8.ofNat (z17 % 256).toNat)], rfl, rfl⟩, trivial⟩ rfl fun b19 w20 hx21 hM a hf => ?_)
  have hl22 := row_len (hM.ownAt (k := 0) rfl)
  refine q_ hf rfl rfl rfl (e_bytesStr hf (xs := ([UInt8.ofNat (z17 % 256).toNat] : Str)) rfl Tryd.underlying59 Tryd.underlying5 Tryd.underlying9 (hM.lendRow (k := 0) rfl)) fun a hf => ?_
  refine q_ hf rfl rfl rfl (e_assign hf rfl) fun a hf => ?_
  refine pl_nil ?_
  refine then_n ?_
  refine wp_seq ?_
  refine wp_seq ?_
  refine region_pl ?_
  refine q_ hf rfl rfl rfl (e_field hf rfl Tryd.underlying28 rfl Tryd.sizeOf4 (o' := 2) rfl) fun a hf => ?_
  refine q_ hf rfl rfl rfl (e_load1 hf rfl Tryd.isAgg4 (hM.boxCell (k := 1) rfl rfl)) fun a hf => ?_
  refine pl_nil ?_
  refine then_n ?_
  rcases cond_some h with ⟨hc23, h⟩ | ⟨hc23, h⟩
  · refine cond_t hf rfl hc23 ?_
    refine wp_seq ?_
    refine region_pl ?_
    refine q_ hf rfl rfl rfl (e_move hf rfl) fun a hf => ?_
    refine q_ hf rfl rfl rfl (e_move hf rfl) fun a hf => ?_
    obtain ⟨s24, hz25, h⟩ := bind_some h
    refine q_ hf rfl rfl rfl (e_cat hf (x := ([UInt8.ofNat (z17 % 256).toNat] : Str)) (y := y11) rfl rfl hz25) fun a hf => ?_
    obtain ⟨s26, hz27, h⟩ := bind_some h
    refine q_ hf rfl rfl rfl (e_cat hf (x := s24) (y := ([32] : Str)) rfl rfl hz27) fun a hf => ?_
    refine q_ hf rfl rfl rfl (e_field hf rfl Tryd.underlying28 rfl Tryd.sizeOf9 (o' := 3) rfl) fun a hf => ?_
    refine q_ hf rfl rfl rfl (e_load1 hf rfl Tryd.isAgg9 (hM.boxCell (k := 1) rfl rfl)) fun a hf => ?_
    obtain ⟨s28, hz29, h⟩ := bind_some h
    refine q_ hf rfl rfl rfl (e_cat hf (x := s26) (y := p1.Word) rfl rfl hz29) fun a hf => ?_
    refine q_ hf rfl rfl rfl (e_assign hf rfl) fun a hf => ?_
    refine pl_nil ?_
    refine then_n ?_
    refine wp_ret ?_
    refine then_r ?_
    obtain rfl := some_inj h
    have hM := hM.outs (own' := []) 0 rfl
    exact leave1 hf rfl rfl ⟨rfl, hM.fin, (cat_len hz29)⟩
  · refine cond_f hf rfl hc23 ?_
    refine wp_skip ?_
    refine then_n ?_
    refine wp_seq ?_
    refine region_pl ?_
    refine q_ hf rfl rfl rfl (e_move hf rfl) fun a hf => ?_
    refine q_ hf rfl rfl rfl (e_move hf rfl) fun a hf => ?_
    obtain ⟨s30, hz31, h⟩ := bind_some h
    refine q_ hf rfl rfl rfl (e_cat hf (x := y11) (y := ([UInt8.ofNat (z17 % 256).toNat] : Str)) rfl rfl hz31) fun a hf => ?_
    obtain ⟨s32, hz33, h⟩ := bind_some h
    refine q_ hf rfl rfl rfl (e_cat hf (x := s30) (y := ([32] : Str)) rfl rfl hz33) fun a hf => ?_
    refine q_ hf rfl rfl rfl (e_field hf rfl Tryd.underlying28 rfl Tryd.sizeOf9 (o' := 3) rfl) fun a hf => ?_
    refine q_ hf rfl rfl rfl (e_load1 hf rfl Tryd.isAgg9 (hM.boxCell (k := 1) rfl rfl)) fun a hf => ?_
    obtain ⟨s34, hz35, h⟩ := bind_some h
    refine q_ hf rfl rfl rfl (e_cat hf (x := s32) (y := p1.Word) rfl rfl hz35) fun a hf => ?_
    refine q_ hf rfl rfl rfl (e_assign hf rfl) fun a hf => ?_
    refine pl_nil ?_
    refine then_n ?_
    refine wp_ret ?_
    obtain rfl := some_inj h
    have hM := hM.outs (own' := []) 0 rfl
    exact leave1 hf rfl rfl ⟨rfl, hM.fin, (cat_len hz35)⟩

set_option maxRecDepth 100000 in
set_option maxHeartbeats 4000000 in
theorem r_spec_l20Text (C : Cx) (a1 : Action) (b2 : Nat) (o3 : Nat) (hp4 : (ptrRep ActionRep).R C.w0 C.S0 a1 [vP b2 o3]) (r : Str) (h : m_spec_l20Text a1 = some r) :
    Calls Tryd.prog 32 #[vP b2 (o3)] C.w0 fun e w => e = .returned (vS (r)) ∧ Mem C w [] [] ∧ r.length ≤ maxLen := by
  have hM := Mem.begin C [.dat (ptrRep ActionRep) a1 [vP b2 o3]] ⟨hp4, trivial⟩
  refine enter Tryd.func32 rfl Tryd.ntmps32 rfl fun a hf => ?_
  unfold m_spec_l20Text at h
  refine wp_seq ?_
  refine region_pl ?_
  refine q_ hf rfl rfl rfl (e_assign hf rfl) fun a hf => ?_
  refine pl_nil ?_
  refine then_n ?_
  refine wp_seq ?_
  refine region_pl ?_
  refine q_ hf rfl rfl rfl (e_move hf rfl) fun a hf => ?_
  refine q_ hf rfl rfl rfl (e_nil hf rfl) fun a hf => ?_
  obtain ⟨_, hr5, hM⟩ := hM.deref (hM.dat (k := 0) rfl)
  obtain ⟨rfl, hv6, hv7, hv8, hv9, hv10, hv11⟩ := ActionRep_open hr5
  refine q_ hf rfl rfl rfl (e_field hf rfl Tryd.underlying38 rfl Tryd.sizeOf2 (o' := o3 + 6) rfl) fun a hf => ?_
  refine q_ hf rfl rfl rfl (e_load1 hf rfl Tryd.isAgg2 (hM.litCell (k := 0) (j := 6) rfl rfl rfl)) fun a hf => ?_
  obtain ⟨y12, hz13, h⟩ := bind_some h
  refine pl_l hf rfl rfl rfl (w_call hf Tryd.call49 rfl (r_spec_l01Dec ⟨_, Sh C _ _, none_, hM.sh_lt, none_not, C.G, hM.g_lt, g_none, hM.tabs⟩ a1.Seconds hv11 _ hz13) ?_)
  rintro _ w15 ⟨rfl, hM2, hv14⟩
  obtain ⟨hM, hx16, hup17⟩ := hM.back hM2
  dsimp only [List.cons_append, List.nil_append] at hM hup17
  clear hM2
  refine ⟨_, rfl, fun a hf => ?_⟩
  refine q_ hf rfl rfl rfl (e_assign hf rfl) fun a hf => ?_
  refine pl_nil ?_
  refine then_n ?_
  refine wp_seq ?_
  refine wp_seq ?_
  refine region_pl ?_
  refine q_ hf rfl rfl rfl (e_move hf rfl) fun a hf => ?_
  refine q_ hf rfl rfl rfl (e_nil hf rfl) fun a hf => ?_
  refine q_ hf rfl rfl rfl (e_field hf rfl Tryd.underlying38 rfl Tryd.sizeOf2 (o' := o3 + 0) rfl) fun a hf => ?_
  refine q_ hf rfl rfl rfl (e_load1 hf rfl Tryd.isAgg2 (hM.litCell (k := 0) (j := 0) rfl rfl rfl)) fun a hf => ?_
  refine pl_nil ?_
  refine then_n ?_
  refine wp_block ?_
  refine wp_seq ?_
  refine region_pl ?_
  refine q_ hf rfl rfl rfl (e_eq hf (x := a1.Kind) (y := 1) rfl rfl) fun a hf => ?_
  refine q_ hf rfl rfl rfl (e_assign hf rfl) fun a hf => ?_
  refine pl_nil ?_
  refine then_n ?_
  rcases cond_some h with ⟨hc18, h⟩ | ⟨hc18, h⟩
  · refine cond_t hf rfl hc18 ?_
    refine wp_seq ?_
    refine region_pl ?_
    refine q_ hf rfl rfl rfl (e_move hf rfl) fun a hf => ?_
    refine q_ hf rfl rfl rfl (e_nil hf rfl) fun a hf => ?_
    refine q_ hf rfl rfl rfl (e_field hf rfl Tryd.underlying38 rfl Tryd.sizeOf28 (o' := o3 + 1) rfl) fun a hf => ?_
    refine q_ hf rfl rfl rfl (e_loadA hf (us := [vI (a1.Play.Row), vI (a1.Play.Col), .bool (a1.Play.Down), vS (a1.Play.Word)]) rfl ⟨Tryd.isAgg28, Tryd.sizeOf28⟩ rfl (hM.litSub (k := 0) (d := 1) (us := [vI (a1.Play.Row), vI (a1.Play.Col), .bool (a1.Play.Down), vS (a1.Play.Word)]) rfl rfl rfl)) fun a hf => ?_
    obtain ⟨y19, hz20, h⟩ := bind_some h
    refine pl_l hf rfl rfl rfl (w_call hf Tryd.call44 rfl (r_spec_l12Text ⟨_, Sh C _ _, none_, hM.sh_lt, none_not, C.G, hM.g_lt, g_none, hM.tabs⟩ a1.Play hv7 hv8 hv9 _ hz20) ?_)
    rintro _ w22 ⟨rfl, hM2, hv21⟩
    obtain ⟨hM, hx23, hup24⟩ := hM.back hM2
    dsimp only [List.cons_append, List.nil_append] at hM hup24
    clear hM2
    refine ⟨_, rfl, fun a hf => ?_⟩
    obtain ⟨s25, hz26, h⟩ := bind_some h
    refine q_ hf rfl rfl rfl (e_cat hf (x := ([112, 108, 97, 121, 32] : Str)) (y := y19) rfl rfl hz26) fun a hf => ?_
    obtain ⟨s27, hz28, h⟩ := bind_some h
    refine q_ hf rfl rfl rfl (e_cat hf (x := s25) (y := ([32] : Str)) rfl rfl hz28) fun a hf => ?_
    refine q_ hf rfl rfl rfl (e_move hf rfl) fun a hf => ?_
    obtain ⟨s29, hz30, h⟩ := bind_some h
    refine q_ hf rfl rfl rfl (e_cat hf (x := s27) (y := y12) rfl rfl hz30) fun a hf => ?_
    refine q_ hf rfl rfl rfl (e_assign hf rfl) fun a hf => ?_
    refine pl_nil ?_
    refine then_n ?_
    refine wp_ret ?_
    refine blk_r ?_
    refine then_r ?_
    obtain rfl := some_inj h
    exact leave1 hf rfl rfl ⟨rfl, hM.fin, (cat_len hz30)⟩
  · refine cond_f hf rfl hc18 ?_
    refine wp_seq ?_
    refine region_pl ?_
    refine q_ hf rfl rfl rfl (e_eq hf (x := a1.Kind) (y := 2) rfl rfl) fun a hf => ?_
    refine q_ hf rfl rfl rfl (e_assign hf rfl) fun a hf => ?_
    refine pl_nil ?_
    refine then_n ?_
    rcases cond_some h with ⟨hc31, h⟩ | ⟨hc31, h⟩
    · refine cond_t hf rfl hc31 ?_
      refine wp_seq ?_
      refine region_pl ?_
      refine q_ hf rfl rfl rfl (e_move hf rfl) fun a hf => ?_
      refine q_ hf rfl rfl rfl (e_nil hf rfl) fun a hf => ?_
      refine q_ hf rfl rfl rfl (e_field hf rfl Tryd.underlying38 rfl Tryd.sizeOf9 (o' := o3 + 5) rfl) fun a hf => ?_
      refine q_ hf rfl rfl rfl (e_load1 hf rfl Tryd.isAgg9 (hM.litCell (k := 0) (j := 5) rfl rfl rfl)) fun a hf => ?_
      obtain ⟨s32, hz33, h⟩ := bind_some h
      refine q_ hf rfl rfl rfl (e_cat hf (x := ([101, 120, 99, 104, 97, 110, 103, 101, 32] : Str)) (y := a1.Tiles) rfl rfl hz33) fun a hf => ?_
      obtain ⟨s34, hz35, h⟩ := bind_some h
      refine q_ hf rfl rfl rfl (e_cat hf (x := s32) (y := ([32] : Str)) rfl rfl hz35) fun a hf => ?_
      refine q_ hf rfl rfl rfl (e_move hf rfl) fun a hf => ?_
      obtain ⟨s36, hz37, h⟩ := bind_some h
      refine q_ hf rfl rfl rfl (e_cat hf (x := s34) (y := y12) rfl rfl hz37) fun a hf => ?_
      refine q_ hf rfl rfl rfl (e_assign hf rfl) fun a hf => ?_
      refine pl_nil ?_
      refine then_n ?_
      refine wp_ret ?_
      refine blk_r ?_
      refine then_r ?_
      obtain rfl := some_inj h
      exact leave1 hf rfl rfl ⟨rfl, hM.fin, (cat_len hz37)⟩
    · refine cond_f hf rfl hc31 ?_
      refine wp_seq ?_
      refine region_pl ?_
      refine q_ hf rfl rfl rfl (e_eq hf (x := a1.Kind) (y := 3) rfl rfl) fun a hf => ?_
      refine q_ hf rfl rfl rfl (e_assign hf rfl) fun a hf => ?_
      refine pl_nil ?_
      refine then_n ?_
      rcases cond_some h with ⟨hc38, h⟩ | ⟨hc38, h⟩
      · refine cond_t hf rfl hc38 ?_
        refine wp_seq ?_
        refine region_pl ?_
        refine q_ hf rfl rfl rfl (e_move hf rfl) fun a hf => ?_
        obtain ⟨s39, hz40, h⟩ := bind_some h
        refine q_ hf rfl rfl rfl (e_cat hf (x := ([112, 97, 115, 115, 32] : Str)) (y := y12) rfl rfl hz40) fun a hf => ?_
        refine q_ hf rfl rfl rfl (e_assign hf rfl) fun a hf => ?_
        refine pl_nil ?_
        refine then_n ?_
        refine wp_ret ?_
        refine blk_r ?_
        refine then_r ?_
        obtain rfl := some_inj h
        exact leave1 hf rfl rfl ⟨rfl, hM.fin, (cat_len hz40)⟩
      · refine cond_f hf rfl hc38 ?_
        refine wp_skip ?_
        refine blk_n ?_
        refine then_n ?_
        refine wp_seq ?_
        refine region_pl ?_
        refine q_ hf rfl rfl rfl (e_move hf rfl) fun a hf => ?_
        obtain ⟨s41, hz42, h⟩ := bind_some h
        refine q_ hf rfl rfl rfl (e_cat hf (x := ([99, 104, 97, 108, 108, 101, 110, 103, 101, 32] : Str)) (y := y12) rfl rfl hz42) fun a hf => ?_
        refine q_ hf rfl rfl rfl (e_assign hf rfl) fun a hf => ?_
        refine pl_nil ?_
        refine then_n ?_
        refine wp_ret ?_
        obtain rfl := some_inj h
        exact leave1 hf rfl rfl ⟨rfl, hM.fin, (cat_len hz42)⟩

set_option maxRecDepth 100000 in
set_option maxHeartbeats 4000000 in
theorem r_spec_l20Record (C : Cx) (r1 : Record) (b2 : Nat) (o3 : Nat) (hp4 : (ptrRep RecordRep).R C.w0 C.S0 r1 [vP b2 o3]) (r : Str) (h : m_spec_l20Record r1 = some r) :
    Calls Tryd.prog 41 #[vP b2 (o3)] C.w0 fun e w => e = .returned (vS (r)) ∧ Mem C w [] [] ∧ r.length ≤ maxLen := by
  have hM := Mem.begin C [.dat (ptrRep RecordRep) r1 [vP b2 o3]] ⟨hp4, trivial⟩
  refine enter Tryd.func41 rfl Tryd.ntmps41 rfl fun a hf => ?_
  unfold m_spec_l20Record at h
  refine wp_seq ?_
  refine region_pl ?_
  refine q_ hf rfl rfl rfl (e_assign hf rfl) fun a hf => ?_
  refine pl_nil ?_
  refine then_n ?_
  refine wp_seq ?_
  refine region_pl ?_
  refine q_ hf rfl rfl rfl (e_move hf rfl) fun a hf => ?_
  refine q_ hf rfl rfl rfl (e_nil hf rfl) fun a hf => ?_
  obtain ⟨_, hr5, hM⟩ := hM.deref (hM.dat (k := 0) rfl)
  obtain ⟨A7, c8, rfl, hv6, hv9⟩ := RecordRep_open hr5
  have hM := hM.add (y := .dat (sliceRep ActionRep) r1.Actions [vL A7 r1.Actions c8]) hv9
  refine q_ hf rfl rfl rfl (e_field hf rfl Tryd.underlying48 rfl Tryd.sizeOf2 (o' := o3 + 0) rfl) fun a hf => ?_
  refine q_ hf rfl rfl rfl (e_load1 hf rfl Tryd.isAgg2 (hM.litCell (k := 1) (j := 0) rfl rfl rfl)) fun a hf => ?_
  obtain ⟨y10, hz11, h⟩ := bind_some h
  refine pl_l hf rfl rfl rfl (w_call hf Tryd.call49 rfl (r_spec_l01Dec ⟨_, Sh C _ _, none_, hM.sh_lt, none_not, C.G, hM.g_lt, g_none, hM.tabs⟩ r1.Seed hv6 _ hz11) ?_)
  rintro _ w13 ⟨rfl, hM2, hv12⟩
  obtain ⟨hM, hx14, hup15⟩ := hM.back hM2
  dsimp only [List.cons_append, List.nil_append] at hM hup15
  clear hM2
  refine ⟨_, rfl, fun a hf => ?_⟩
  obtain ⟨s16, hz17, h⟩ := bind_some h
  refine q_ hf rfl rfl rfl (e_cat hf (x := ([115, 101, 101, 100, 32] : Str)) (y := y10) rfl rfl hz17) fun a hf => ?_
  obtain ⟨s18, hz19, h⟩ := bind_some h
  refine q_ hf rfl rfl rfl (e_cat hf (x := s16) (y := ([10] : Str)) rfl rfl hz19) fun a hf => ?_
  refine q_ hf rfl rfl rfl (e_assign hf rfl) fun a hf => ?_
  refine pl_nil ?_
  refine then_n ?_
  obtain ⟨x22, h23, h⟩ := bind_some h
  refine seq_join (fun a w => ∃ (i20 : Str), i20 = x22 ∧ Has 32 a [(3, vS (i20))] ∧ Mem C w [] [.dat (sliceRep ActionRep) r1.Actions [vL A7 r1.Actions c8], .lit b2 (o3) [vI (r1.Seed), vL A7 (r1.Actions) c8], .dat (ptrRep RecordRep) r1 [vP b2 o3]] ∧ i20.length ≤ maxLen) ?_ ?_
  · refine wp_seq ?_
    refine region_pl ?_
    refine q_ hf rfl rfl rfl (e_assign hf rfl) fun a hf => ?_
    refine pl_nil ?_
    refine then_n ?_
    refine wp_block ?_
    obtain ⟨x31, h32, h23⟩ := bind_some h23
    refine wp_loopM h32 (fun s a w => ∃ (i24 : Str) (n26 : Int), (i24, n26) = s ∧ Has 32 a [(0, vP b2 (o3)), (3, vS (i24)), (4, vI (n26))] ∧ Mem C w [] [.dat (sliceRep ActionRep) r1.Actions [vL A7 r1.Actions c8], .lit b2 (o3) [vI (r1.Seed), vL A7 (r1.Actions) c8], .dat (ptrRep RecordRep) r1 [vP b2 o3]] ∧ i24.length ≤ maxLen ∧ R64 n26) ?_ ?_
    · exact ⟨s18, 0, rfl, hf.keep ⟨rfl, rfl, rfl, trivial⟩, hM.pick [0, 1, 2] rfl, (cat_len hz19), (R64_lit rfl)⟩
    · rintro s o33 a w28 ⟨i24, n26, rfl, hf, hM, hv25, hv27⟩ h34 hd35
      replace h34 : m_spec_l20Record_l1 r1 i24 n26 = some o33 := h34
      unfold m_spec_l20Record_l1 at h34
      refine wp_seq ?_
      refine wp_seq ?_
      refine region_pl ?_
      refine q_ hf rfl rfl rfl (e_move hf rfl) fun a hf => ?_
      refine q_ hf rfl rfl rfl (e_move hf rfl) fun a hf => ?_
      refine q_ hf rfl rfl rfl (e_nil hf rfl) fun a hf => ?_
      refine q_ hf rfl rfl rfl (e_field hf rfl Tryd.underlying48 rfl Tryd.sizeOf46 (o' := o3 + 1) rfl) fun a hf => ?_
      refine q_ hf rfl rfl rfl (e_load1 hf rfl Tryd.isAgg46 (hM.litCell (k := 1) (j := 1) rfl rfl rfl)) fun a hf => ?_
      have hl36 := slice_len (hM.dat (k := 0) rfl)
      refine q_ hf rfl rfl rfl (e_lenL hf (x := r1.Actions) rfl Tryd.underlying46) fun a hf => ?_
      refine q_ hf rfl rfl rfl (e_lt hf (x := n26) (y := (r1.Actions.length : Int)) rfl rfl) fun a hf => ?_
      refine pl_nil ?_
      refine then_n ?_
      rcases cond_some h34 with ⟨hc37, h34⟩ | ⟨hc37, h34⟩
      · refine cond_t hf rfl hc37 ?_
        refine wp_skip ?_
        refine then_n ?_
        refine wp_seq ?_
        refine wp_block ?_
        refine region_pl ?_
        refine q_ hf rfl rfl rfl (e_move hf rfl) fun a hf => ?_
        refine q_ hf rfl rfl rfl (e_move hf rfl) fun a hf => ?_
        refine q_ hf rfl rfl rfl (e_nil hf rfl) fun a hf => ?_
        refine q_ hf rfl rfl rfl (e_field hf rfl Tryd.underlying48 rfl Tryd.sizeOf46 (o' := o3 + 1) rfl) fun a hf => ?_
        refine q_ hf rfl rfl rfl (e_load1 hf rfl Tryd.isAgg46 (hM.litCell (k := 1) (j := 1) rfl rfl rfl)) fun a hf => ?_
        refine q_ hf rfl rfl rfl (e_move hf rfl) fun a hf => ?_
        obtain ⟨e38, hz39, h34⟩ := bind_some h34
        obtain ⟨b43, o44, _, hA45, h40, h41, hr42, hM⟩ := hM.elem (hM.dat (k := 0) rfl) (n := 7) rfl hz39
        obtain ⟨rfl, hv46, hv47, hv48, hv49, hv50, hv51⟩ := ActionRep_open hr42
        refine q_ hf rfl rfl rfl (e_indexAddr (A := A7) (b := b43) (o := o44) (xs := r1.Actions) (i := n26) hf hA45 rfl rfl Tryd.underlying46 Tryd.sizeOf38 h40 h41) fun a hf => ?_
        obtain ⟨y52, hz53, h34⟩ := bind_some h34
        refine pl_l hf rfl rfl rfl (w_call hf Tryd.call32 rfl (r_spec_l20Text ⟨_, Sh C _ _, none_, hM.sh_lt, none_not, C.G, hM.g_lt, g_none, hM.tabs⟩ e38 _ _ (hM.litPtr (k := 0) (d := 0) (us := [vI (e38.Kind), vI (e38.Play.Row), vI (e38.Play.Col), .bool (e38.Play.Down), vS (e38.Play.Word), vS (e38.Tiles), vI (e38.Seconds)]) rfl rfl rfl (ActionRep_mk (x := e38) hv46 hv47 hv48 hv49 hv50 hv51)) _ hz53) ?_)
        rintro _ w55 ⟨rfl, hM2, hv54⟩
        obtain ⟨hM, hx56, hup57⟩ := hM.back hM2
        dsimp only [List.cons_append, List.nil_append] at hM hup57
        clear hM2
        refine ⟨_, rfl, fun a hf => ?_⟩
        obtain ⟨s58, hz59, h34⟩ := bind_some h34
        refine q_ hf rfl rfl rfl (e_cat hf (x := y52) (y := ([10] : Str)) rfl rfl hz59) fun a hf => ?_
        obtain ⟨s60, hz61, h34⟩ := bind_some h34
        refine q_ hf rfl rfl rfl (e_cat hf (x := i24) (y := s58) rfl rfl hz61) fun a hf => ?_
        refine q_ hf rfl rfl rfl (e_assign hf rfl) fun a hf => ?_
        refine pl_nil ?_
        refine blk_n ?_
        refine then_n ?_
        refine region_pl ?_
        refine q_ hf rfl rfl rfl (e_move hf rfl) fun a hf => ?_
        obtain ⟨z62, hz63, h34⟩ := bind_some h34
        refine q_ hf rfl rfl rfl (e_add hf rfl rfl hz63) fun a hf => ?_
        refine q_ hf rfl rfl rfl (e_assign hf rfl) fun a hf => ?_
        refine pl_nil ?_
        obtain rfl := some_inj h34
        refine then_n ⟨_, rfl, ?_⟩
        exact ⟨s60, z62, rfl, hf.keep ⟨rfl, rfl, rfl, trivial⟩, hM.pick [1, 2, 3] rfl, (cat_len hz61), (chk_R hz63)⟩
      · refine cond_f hf rfl hc37 ?_
        refine wp_exit ?_
        refine then_x ?_
        obtain rfl := some_inj h34
        obtain rfl := hd35 _ rfl
        try dsimp only at h23
        refine then_x ?_
        refine exit_hit ?_
        obtain rfl := some_inj h23
        refine then_n ?_
        exact ⟨i24, rfl, hf.keep ⟨rfl, trivial⟩, hM.pick [0, 1, 2] rfl, hv25⟩
  · rintro a w69 ⟨i20, rfl, hf, hM, hv21⟩
    try dsimp only at h
    refine wp_seq ?_
    refine region_pl ?_
    refine q_ hf rfl rfl rfl (e_move hf rfl) fun a hf => ?_
    refine q_ hf rfl rfl rfl (e_assign hf rfl) fun a hf => ?_
    refine pl_nil ?_
    refine then_n ?_
    refine wp_ret ?_
    obtain rfl := some_inj h
    exact leave1 hf rfl rfl ⟨rfl, hM.fin, hv21⟩

set_option maxRecDepth 100000 in
set_option maxHeartbeats 4000000 in
theorem r_spec_RecordText (C : Cx) (r1 : Record) (hp2 : R64 r1.Seed) (A3 : Option Addr) (c4 : Nat) (hp5 : (sliceRep ActionRep).R C.w0 C.S0 r1.Actions [vL A3 r1.Actions c4]) (r : Str) (h : m_spec_RecordText r1 = some r) :
    Calls Tryd.prog 20 #[.agg #[vI (r1.Seed), vL A3 (r1.Actions) c4]] C.w0 fun e w => e = .returned (vS (r)) ∧ Mem C w [] [] ∧ r.length ≤ maxLen := by
  have hM := Mem.begin C [.dat (sliceRep ActionRep) r1.Actions [vL A3 r1.Actions c4]] ⟨hp5, trivial⟩
  refine enter Tryd.func20 rfl Tryd.ntmps20 rfl fun a hf => ?_
  unfold m_spec_RecordText at h
  refine wp_seq ?_
  refine region_pl ?_
  refine pl_l hf rfl rfl rfl (w_box hf hM (cs := [vI (r1.Seed), vL A3 (r1.Actions) c4]) rfl rfl fun b6 w7 hx8 hM a hf => ?_)
  refine q_ hf rfl rfl rfl (e_assign hf rfl) fun a hf => ?_
  refine pl_nil ?_
  refine then_n ?_
  refine wp_seq ?_
  refine wp_seq ?_
  refine region_pl ?_
  obtain ⟨y10, hz11, h⟩ := bind_some h
  refine pl_l hf rfl rfl rfl (w_call hf Tryd.call37 rfl (r_spec_l20Ok ⟨_, All C _ _, none_, hM.all_lt, none_not, C.G, hM.g_lt, g_none, hM.tabs⟩ r1 _ _ (hM.lendBox (k := 0) rfl (RecordRep_mk (x := r1) hp2 (hM.lendDat (k := 0) rfl))) _ hz11) ?_)
  rintro _ w12 ⟨rfl, hM2⟩
  obtain ⟨hM, hx13⟩ := hM.backA hM2
  clear hM2
  refine ⟨_, rfl, fun a hf => ?_⟩
  refine q_ hf rfl rfl rfl (e_not hf rfl) fun a hf => ?_
  refine pl_nil ?_
  refine then_n ?_
  rcases cond_some h with ⟨hc15, h⟩ | ⟨hc15, h⟩
  · refine cond_t hf rfl hc15 ?_
    refine wp_seq ?_
    refine region_pl ?_
    refine q_ hf rfl rfl rfl (e_assign hf rfl) fun a hf => ?_
    refine pl_nil ?_
    refine then_n ?_
    refine wp_ret ?_
    refine then_r ?_
    obtain rfl := some_inj h
    have hM := hM.outs (own' := []) 0 rfl
    exact leave1 hf rfl rfl ⟨rfl, hM.fin, (lit_len rfl)⟩
  · refine cond_f hf rfl hc15 ?_
    refine wp_skip ?_
    refine then_n ?_
    refine wp_seq ?_
    refine region_pl ?_
    obtain ⟨y16, hz17, h⟩ := bind_some h
    refine pl_l hf rfl rfl rfl (w_call hf Tryd.call41 rfl (r_spec_l20Record ⟨_, All C _ _, none_, hM.all_lt, none_not, C.G, hM.g_lt, g_none, hM.tabs⟩ r1 _ _ (hM.lendBox (k := 0) rfl (RecordRep_mk (x := r1) hp2 (hM.lendDat (k := 0) rfl))) _ hz17) ?_)
    rintro _ w19 ⟨rfl, hM2, hv18⟩
    obtain ⟨hM, hx20⟩ := hM.backA hM2
    clear hM2
    refine ⟨_, rfl, fun a hf => ?_⟩
    refine q_ hf rfl rfl rfl (e_assign hf rfl) fun a hf => ?_
    refine pl_nil ?_
    refine then_n ?_
    refine wp_ret ?_
    obtain rfl := some_inj h
    have hM := hM.outs (own' := []) 0 rfl
    exact leave1 hf rfl rfl ⟨rfl, hM.fin, hv18⟩

set_option maxRecDepth 100000 in
set_option maxHeartbeats 4000000 in
theorem r_impl_within (C : Cx) (x1 : Int) (hp2 : R64 x1) (low3 : Int) (hp4 : R64 low3) (high5 : Int) (hp6 : R64 high5) (r : Bool) (h : m_impl_within x1 low3 high5 = some r) :
    Calls Tryd.prog 39 #[vI (x1), vI (low3), vI (high5)] C.w0 fun e w => e = .returned (.bool (r)) ∧ Mem C w [] [] := by
  have hM := Mem.begin C [] trivial
  refine enter Tryd.func39 rfl Tryd.ntmps39 rfl fun a hf => ?_
  unfold m_impl_within at h
  refine wp_seq ?_
  refine region_pl ?_
  refine q_ hf rfl rfl rfl (e_assign hf rfl) fun a hf => ?_
  refine pl_nil ?_
  refine then_n ?_
  obtain ⟨x9, h10, h⟩ := bind_some h
  refine seq_join (fun a w => ∃ (t7 : Bool), t7 = x9 ∧ Has 15 a [(6, .bool (t7))] ∧ Mem C w [] []) ?_ ?_
  · refine region_pl ?_
    refine q_ hf rfl rfl rfl (e_move hf rfl) fun a hf => ?_
    refine q_ hf rfl rfl rfl (e_move hf rfl) fun a hf => ?_
    refine q_ hf rfl rfl rfl (e_le hf (x := low3) (y := x1) rfl rfl) fun a hf => ?_
    refine q_ hf rfl rfl rfl (e_move hf rfl) fun a hf => ?_
    rcases cond_some h10 with ⟨hc11, h10⟩ | ⟨hc11, h10⟩
    · refine gq (wanted_t hf rfl rfl rfl rfl hc11) hf rfl rfl (e_move hf rfl) fun a hf => ?_
      refine gq (wanted_t hf rfl rfl rfl rfl hc11) hf rfl rfl (e_move hf rfl) fun a hf => ?_
      refine gq (wanted_t hf rfl rfl rfl rfl hc11) hf rfl rfl (e_le hf (x := x1) (y := high5) rfl rfl) fun a hf => ?_
      refine q_ hf rfl rfl rfl (e_pick_t hf rfl hc11 rfl) fun a hf => ?_
      refine q_ hf rfl rfl rfl (e_assign hf rfl) fun a hf => ?_
      refine pl_nil ?_
      obtain rfl := some_inj h10
      refine then_n ?_
      exact ⟨(decide (x1 ≤ high5)), rfl, hf.keep ⟨rfl, trivial⟩, hM.pick [] rfl⟩
    · refine pl_gs (wanted_f hf rfl rfl rfl rfl hc11) hf rfl rfl fun a hf => ?_
      refine pl_gs (wanted_f hf rfl rfl rfl rfl hc11) hf rfl rfl fun a hf => ?_
      refine pl_gs (wanted_f hf rfl rfl rfl rfl hc11) hf rfl rfl fun a hf => ?_
      refine q_ hf rfl rfl rfl (e_pick_f hf rfl hc11 rfl) fun a hf => ?_
      refine q_ hf rfl rfl rfl (e_assign hf rfl) fun a hf => ?_
      refine pl_nil ?_
      obtain rfl := some_inj h10
      refine then_n ?_
      exact ⟨false, rfl, hf.keep ⟨rfl, trivial⟩, hM.pick [] rfl⟩
  · rintro a w14 ⟨t7, rfl, hf, hM⟩
    try dsimp only at h
    refine wp_ret ?_
    obtain rfl := some_inj h
    exact leave1 hf rfl rfl ⟨rfl, hM.fin⟩

set_option maxRecDepth 100000 in
set_option maxHeartbeats 4000000 in
theorem r_impl_small (C : Cx) (c1 : UInt8) (r : Bool) (h : m_impl_small c1 = some r) :
    Calls Tryd.prog 77 #[vB (c1)] C.w0 fun e w => e = .returned (.bool (r)) ∧ Mem C w [] [] := by
  have hM := Mem.begin C [] trivial
  refine enter Tryd.func77 rfl Tryd.ntmps77 rfl fun a hf => ?_
  unfold m_impl_small at h
  refine wp_seq ?_
  refine region_pl ?_
  refine q_ hf rfl rfl rfl (e_assign hf rfl) fun a hf => ?_
  refine pl_nil ?_
  refine then_n ?_
  obtain ⟨x4, h5, h⟩ := bind_some h
  refine seq_join (fun a w => ∃ (t2 : Bool), t2 = x4 ∧ Has 9 a [(2, .bool (t2))] ∧ Mem C w [] []) ?_ ?_
  · refine region_pl ?_
    refine q_ hf rfl rfl rfl (e_move hf rfl) fun a hf => ?_
    refine q_ hf rfl rfl rfl (e_leB hf (x := 97) (y := c1) rfl rfl) fun a hf => ?_
    refine q_ hf rfl rfl rfl (e_move hf rfl) fun a hf => ?_
    rcases cond_some h5 with ⟨hc6, h5⟩ | ⟨hc6, h5⟩
    · refine gq (wanted_t hf rfl rfl rfl rfl hc6) hf rfl rfl (e_move hf rfl) fun a hf => ?_
      refine gq (wanted_t hf rfl rfl rfl rfl hc6) hf rfl rfl (e_leB hf (x := c1) (y := 122) rfl rfl) fun a hf => ?_
      refine q_ hf rfl rfl rfl (e_pick_t hf rfl hc6 rfl) fun a hf => ?_
      refine q_ hf rfl rfl rfl (e_assign hf rfl) fun a hf => ?_
      refine pl_nil ?_
      obtain rfl := some_inj h5
      refine then_n ?_
      exact ⟨(decide (c1 ≤ 122)), rfl, hf.keep ⟨rfl, trivial⟩, hM.pick [] rfl⟩
    · refine pl_gs (wanted_f hf rfl rfl rfl rfl hc6) hf rfl rfl fun a hf => ?_
      refine pl_gs (wanted_f hf rfl rfl rfl rfl hc6) hf rfl rfl fun a hf => ?_
      refine q_ hf rfl rfl rfl (e_pick_f hf rfl hc6 rfl) fun a hf => ?_
      refine q_ hf rfl rfl rfl (e_assign hf rfl) fun a hf => ?_
      refine pl_nil ?_
      obtain rfl := some_inj h5
      refine then_n ?_
      exact ⟨false, rfl, hf.keep ⟨rfl, trivial⟩, hM.pick [] rfl⟩
  · rintro a w9 ⟨t2, rfl, hf, hM⟩
    try dsimp only at h
    refine wp_ret ?_
    obtain rfl := some_inj h
    exact leave1 hf rfl rfl ⟨rfl, hM.fin⟩

set_option maxRecDepth 100000 in
set_option maxHeartbeats 4000000 in
theorem r_impl_onlySmall (C : Cx) (s1 : Str) (hp2 : s1.length ≤ maxLen) (r : Bool) (h : m_impl_onlySmall s1 = some r) :
    Calls Tryd.prog 73 #[vS (s1)] C.w0 fun e w => e = .returned (.bool (r)) ∧ Mem C w [] [] := by
  have hM := Mem.begin C [] trivial
  refine enter Tryd.func73 rfl Tryd.ntmps73 rfl fun a hf => ?_
  unfold m_impl_onlySmall at h
  refine wp_seq ?_
  refine region_pl ?_
  refine q_ hf rfl rfl rfl (e_assign hf rfl) fun a hf => ?_
  refine pl_nil ?_
  refine then_n ?_
  obtain ⟨x3, h4, h⟩ := bind_some h
  refine seq_join (fun a w => (.inl ()) = x3 ∧ Has 16 a [] ∧ Mem C w [] []) ?_ ?_
  · refine wp_seq ?_
    refine region_pl ?_
    refine q_ hf rfl rfl rfl (e_move hf rfl) fun a hf => ?_
    refine pl_l hf rfl rfl rfl (w_bytes hf hM (x := s1) rfl Tryd.underlying9 Tryd.underlying59 Tryd.underlying5 hp2 fun A5 c6 w7 hx8 hM a hf => ?_)
    have hl9 := row_len (hM.ownAt (k := 0) rfl)
    refine q_ hf rfl rfl rfl (e_lenL hf (x := s1) rfl Tryd.underlying59) fun a hf => ?_
    refine q_ hf rfl rfl rfl (e_move hf rfl) fun a hf => ?_
    refine pl_nil ?_
    refine then_n ?_
    refine wp_block ?_
    obtain ⟨x13, h14, h4⟩ := bind_some h4
    refine wp_loopM h14 (fun s a w => ∃ (n10 : Int), n10 = s ∧ Has 16 a [(6, vL A5 (s1) c6), (7, vI ((s1.length : Int))), (8, vI (n10))] ∧ Mem C w [.row byteRep A5 c6 5 s1 false] [] ∧ R64 n10) ?_ ?_
    · exact ⟨0, rfl, hf.keep ⟨rfl, rfl, rfl, trivial⟩, hM.pick [] rfl, (R64_lit rfl)⟩
    · rintro s o15 a w12 ⟨n10, rfl, hf, hM, hv11⟩ h16 hd17
      replace h16 : m_impl_onlySmall_l1 s1 n10 = some o15 := h16
      unfold m_impl_onlySmall_l1 at h16
      refine wp_seq ?_
      refine region_pl ?_
      refine q_ hf rfl rfl rfl (e_lt hf (x := n10) (y := (s1.length : Int)) rfl rfl) fun a hf => ?_
      refine pl_nil ?_
      refine then_n ?_
      refine wp_seq ?_
      rcases cond_some h16 with ⟨hc18, h16⟩ | ⟨hc18, h16⟩
      · refine cond_t hf rfl hc18 ?_
        refine wp_skip ?_
        refine then_n ?_
        refine wp_seq ?_
        refine wp_block ?_
        refine wp_seq ?_
        refine region_pl ?_
        obtain ⟨e19, hz20, h16⟩ := bind_some h16
        obtain ⟨b25, _, hA26, h21, h22, hr23, hcell24⟩ := hM.rowElemN (k := 0) rfl (n := 1) rfl hz20
        obtain rfl : _ = _ := hr23
        refine q_ hf rfl rfl rfl (e_indexAddr (A := A5) (b := b25) (o := 0) (xs := s1) (i := n10) hf hA26 rfl rfl Tryd.underlying59 Tryd.sizeOf5 h21 h22) fun a hf => ?_
        refine q_ hf rfl rfl rfl (e_load1 hf rfl Tryd.isAgg5 (hcell24 0 _ rfl)) fun a hf => ?_
        refine q_ hf rfl rfl rfl (e_assign hf rfl) fun a hf => ?_
        refine pl_nil ?_
        refine then_n ?_
        refine wp_seq ?_
        refine region_pl ?_
        refine q_ hf rfl rfl rfl (e_move hf rfl) fun a hf => ?_
        obtain ⟨y27, hz28, h16⟩ := bind_some h16
        refine pl_l hf rfl rfl rfl (w_call hf Tryd.call77 rfl (r_impl_small ⟨_, Sh C _ _, none_, hM.sh_lt, none_not, C.G, hM.g_lt, g_none, hM.tabs⟩ e19 _ hz28) ?_)
        rintro _ w29 ⟨rfl, hM2⟩
        obtain ⟨hM, hx30, hup31⟩ := hM.back hM2
        dsimp only [List.cons_append, List.nil_append] at hM hup31
        clear hM2
        refine ⟨_, rfl, fun a hf => ?_⟩
        refine q_ hf rfl rfl rfl (e_not hf rfl) fun a hf => ?_
        refine pl_nil ?_
        refine then_n ?_
        rcases cond_some h16 with ⟨hc32, h16⟩ | ⟨hc32, h16⟩
        · refine cond_t hf rfl hc32 ?_
          refine wp_seq ?_
          refine region_pl ?_
          refine q_ hf rfl rfl rfl (e_assign hf rfl) fun a hf => ?_
          refine pl_nil ?_
          refine then_n ?_
          refine wp_ret ?_
          refine blk_r ?_
          refine then_r ?_
          obtain rfl := some_inj h16
          obtain rfl := hd17 _ rfl
          try dsimp only at h4
          refine then_r ?_
          refine blk_r ?_
          obtain rfl := some_inj h4
          try dsimp only at h
          refine then_r ?_
          obtain rfl := some_inj h
          have hM := hM.outs (own' := []) 0 rfl
          exact leave1 hf rfl rfl ⟨rfl, hM.fin⟩
        · refine cond_f hf rfl hc32 ?_
          refine wp_skip ?_
          refine blk_n ?_
          refine then_n ?_
          refine region_pl ?_
          obtain ⟨z33, hz34, h16⟩ := bind_some h16
          refine q_ hf rfl rfl rfl (e_add hf rfl rfl hz34) fun a hf => ?_
          refine q_ hf rfl rfl rfl (e_move hf rfl) fun a hf => ?_
          refine pl_nil ?_
          obtain rfl := some_inj h16
          refine then_n ⟨_, rfl, ?_⟩
          exact ⟨z33, rfl, hf.keep ⟨rfl, rfl, rfl, trivial⟩, hM.pick [] rfl, (chk_R hz34)⟩
      · refine cond_f hf rfl hc18 ?_
        refine wp_exit ?_
        refine then_x ?_
        obtain rfl := some_inj h16
        obtain rfl := hd17 _ rfl
        try dsimp only at h4
        refine then_x ?_
        refine exit_hit ?_
        obtain rfl := some_inj h4
        refine then_n ?_
        exact ⟨rfl, hf.keep trivial, (hM.drop (.cons _ .slnil)).pick [] rfl⟩
  · rintro a w41 ⟨rfl, hf, hM⟩
    try dsimp only at h
    refine wp_seq ?_
    refine region_pl ?_
    refine q_ hf rfl rfl rfl (e_assign hf rfl) fun a hf => ?_
    refine pl_nil ?_
    refine then_n ?_
    refine wp_ret ?_
    obtain rfl := some_inj h
    exact leave1 hf rfl rfl ⟨rfl, hM.fin⟩

set_option maxRecDepth 100000 in
set_option maxHeartbeats 4000000 in
theorem r_impl_IsWord (C : Cx) (s1 : Str) (hp2 : s1.length ≤ maxLen) (r : Bool) (h : m_impl_IsWord s1 = some r) :
    Calls Tryd.prog 63 #[vS (s1)] C.w0 fun e w => e = .returned (.bool (r)) ∧ Mem C w [] [] := by
  have hM := Mem.begin C [] trivial
  refine enter Tryd.func63 rfl Tryd.ntmps63 rfl fun a hf => ?_
  unfold m_impl_IsWord at h
  refine wp_seq ?_
  refine region_pl ?_
  refine q_ hf rfl rfl rfl (e_assign hf rfl) fun a hf => ?_
  refine pl_nil ?_
  refine then_n ?_
  obtain ⟨x5, h6, h⟩ := bind_some h
  refine seq_join (fun a w => ∃ (t3 : Bool), t3 = x5 ∧ Has 15 a [(2, .bool (t3))] ∧ Mem C w [] []) ?_ ?_
  · refine region_pl ?_
    refine q_ hf rfl rfl rfl (e_move hf rfl) fun a hf => ?_
    refine q_ hf rfl rfl rfl (e_lenS hf (x := s1) rfl Tryd.underlying9) fun a hf => ?_
    refine q_ hf rfl rfl rfl (e_ge hf (x := (s1.length : Int)) (y := 1) rfl rfl) fun a hf => ?_
    refine q_ hf rfl rfl rfl (e_move hf rfl) fun a hf => ?_
    rcases cond_some h6 with ⟨hc7, h6⟩ | ⟨hc7, h6⟩
    · refine gq (wanted_t hf rfl rfl rfl rfl hc7) hf rfl rfl (e_move hf rfl) fun a hf => ?_
      refine gq (wanted_t hf rfl rfl rfl rfl hc7) hf rfl rfl (e_lenS hf (x := s1) rfl Tryd.underlying9) fun a hf => ?_
      refine gq (wanted_t hf rfl rfl rfl rfl hc7) hf rfl rfl (e_le hf (x := (s1.length : Int)) (y := 12) rfl rfl) fun a hf => ?_
      refine q_ hf rfl rfl rfl (e_pick_t hf rfl hc7 rfl) fun a hf => ?_
      refine q_ hf rfl rfl rfl (e_move hf rfl) fun a hf => ?_
      rcases cond_some h6 with ⟨hc8, h6⟩ | ⟨hc8, h6⟩
      · refine gq (wanted_t hf rfl rfl rfl rfl hc8) hf rfl rfl (e_move hf rfl) fun a hf => ?_
        obtain ⟨y9, hz10, h6⟩ := bind_some h6
        refine pl_gl (wanted_t hf rfl rfl rfl rfl hc8) hf rfl rfl (w_call hf Tryd.call73 rfl (r_impl_onlySmall ⟨_, Sh C _ _, none_, hM.sh_lt, none_not, C.G, hM.g_lt, g_none, hM.tabs⟩ s1 hp2 _ hz10) ?_)
        rintro _ w11 ⟨rfl, hM2⟩
        obtain ⟨hM, hx12, hup13⟩ := hM.back hM2
        dsimp only [List.cons_append, List.nil_append] at hM hup13
        clear hM2
        refine ⟨_, rfl, fun a hf => ?_⟩
        refine q_ hf rfl rfl rfl (e_pick_t hf rfl hc8 rfl) fun a hf => ?_
        refine q_ hf rfl rfl rfl (e_assign hf rfl) fun a hf => ?_
        refine pl_nil ?_
        obtain rfl := some_inj h6
        refine then_n ?_
        exact ⟨y9, rfl, hf.keep ⟨rfl, trivial⟩, hM.pick [] rfl⟩
      · refine pl_gs (wanted_f hf rfl rfl rfl rfl hc8) hf rfl rfl fun a hf => ?_
        refine pl_gs (wanted_f hf rfl rfl rfl rfl hc8) hf rfl rfl fun a hf => ?_
        refine q_ hf rfl rfl rfl (e_pick_f hf rfl hc8 rfl) fun a hf => ?_
        refine q_ hf rfl rfl rfl (e_assign hf rfl) fun a hf => ?_
        refine pl_nil ?_
        obtain rfl := some_inj h6
        refine then_n ?_
        exact ⟨false, rfl, hf.keep ⟨rfl, trivial⟩, hM.pick [] rfl⟩
    · refine pl_gs (wanted_f hf rfl rfl rfl rfl hc7) hf rfl rfl fun a hf => ?_
      refine pl_gs (wanted_f hf rfl rfl rfl rfl hc7) hf rfl rfl fun a hf => ?_
      refine pl_gs (wanted_f hf rfl rfl rfl rfl hc7) hf rfl rfl fun a hf => ?_
      refine q_ hf rfl rfl rfl (e_pick_f hf rfl hc7 rfl) fun a hf => ?_
      refine q_ hf rfl rfl rfl (e_move hf rfl) fun a hf => ?_
      refine pl_gs (wanted_f hf rfl rfl rfl rfl rfl) hf rfl rfl fun a hf => ?_
      refine pl_gs (wanted_f hf rfl rfl rfl rfl rfl) hf rfl rfl fun a hf => ?_
      refine q_ hf rfl rfl rfl (e_pick_f hf rfl rfl rfl) fun a hf => ?_
      refine q_ hf rfl rfl rfl (e_assign hf rfl) fun a hf => ?_
      refine pl_nil ?_
      obtain rfl := some_inj h6
      refine then_n ?_
      exact ⟨false, rfl, hf.keep ⟨rfl, trivial⟩, hM.pick [] rfl⟩
  · rintro a w17 ⟨t3, rfl, hf, hM⟩
    try dsimp only at h
    refine wp_ret ?_
    obtain rfl := some_inj h
    exact leave1 hf rfl rfl ⟨rfl, hM.fin⟩

set_option maxRecDepth 100000 in
set_option maxHeartbeats 4000000 in
theorem r_impl_isPlaced (C : Cx) (s1 : Str) (hp2 : s1.length ≤ maxLen) (r : Bool) (h : m_impl_isPlaced s1 = some r) :
    Calls Tryd.prog 56 #[vS (s1)] C.w0 fun e w => e = .returned (.bool (r)) ∧ Mem C w [] [] := by
  have hM := Mem.begin C [] trivial
  refine enter Tryd.func56 rfl Tryd.ntmps56 rfl fun a hf => ?_
  unfold m_impl_isPlaced at h
  refine wp_seq ?_
  refine region_pl ?_
  refine q_ hf rfl rfl rfl (e_assign hf rfl) fun a hf => ?_
  refine pl_nil ?_
  refine then_n ?_
  obtain ⟨x5, h6, h⟩ := bind_some h
  refine seq_join (fun a w => ∃ (t3 : Bool), t3 = x5 ∧ Has 14 a [(2, .bool (t3))] ∧ Mem C w [] []) ?_ ?_
  · refine region_pl ?_
    refine q_ hf rfl rfl rfl (e_move hf rfl) fun a hf => ?_
    obtain ⟨y7, hz8, h6⟩ := bind_some h6
    refine pl_l hf rfl rfl rfl (w_call hf Tryd.call64 rfl (r_strings_ToLower ⟨_, Sh C _ _, none_, hM.sh_lt, none_not, C.G, hM.g_lt, g_none, hM.tabs⟩ s1 hp2 _ hz8) ?_)
    rintro _ w10 ⟨rfl, hM2, hv9⟩
    obtain ⟨hM, hx11, hup12⟩ := hM.back hM2
    dsimp only [List.cons_append, List.nil_append] at hM hup12
    clear hM2
    refine ⟨_, rfl, fun a hf => ?_⟩
    obtain ⟨y13, hz14, h6⟩ := bind_some h6
    refine pl_l hf rfl rfl rfl (w_call hf Tryd.call63 rfl (r_impl_IsWord ⟨_, Sh C _ _, none_, hM.sh_lt, none_not, C.G, hM.g_lt, g_none, hM.tabs⟩ y7 hv9 _ hz14) ?_)
    rintro _ w15 ⟨rfl, hM2⟩
    obtain ⟨hM, hx16, hup17⟩ := hM.back hM2
    dsimp only [List.cons_append, List.nil_append] at hM hup17
    clear hM2
    refine ⟨_, rfl, fun a hf => ?_⟩
    refine q_ hf rfl rfl rfl (e_move hf rfl) fun a hf => ?_
    rcases cond_some h6 with ⟨hc18, h6⟩ | ⟨hc18, h6⟩
    · refine gq (wanted_t hf rfl rfl rfl rfl hc18) hf rfl rfl (e_move hf rfl) fun a hf => ?_
      refine gq (wanted_t hf rfl rfl rfl rfl hc18) hf rfl rfl (e_lenS hf (x := s1) rfl Tryd.underlying9) fun a hf => ?_
      refine gq (wanted_t hf rfl rfl rfl rfl hc18) hf rfl rfl (e_move hf rfl) fun a hf => ?_
      obtain ⟨y19, hz20, h6⟩ := bind_some h6
      refine pl_gl (wanted_t hf rfl rfl rfl rfl hc18) hf rfl rfl (w_call hf Tryd.call64 rfl (r_strings_ToLower ⟨_, Sh C _ _, none_, hM.sh_lt, none_not, C.G, hM.g_lt, g_none, hM.tabs⟩ s1 hp2 _ hz20) ?_)
      rintro _ w22 ⟨rfl, hM2, hv21⟩
      obtain ⟨hM, hx23, hup24⟩ := hM.back hM2
      dsimp only [List.cons_append, List.nil_append] at hM hup24
      clear hM2
      refine ⟨_, rfl, fun a hf => ?_⟩
      refine gq (wanted_t hf rfl rfl rfl rfl hc18) hf rfl rfl (e_lenS hf (x := y19) rfl Tryd.underlying9) fun a hf => ?_
      refine gq (wanted_t hf rfl rfl rfl rfl hc18) hf rfl rfl (e_eq hf (x := (s1.length : Int)) (y := (y19.length : Int)) rfl rfl) fun a hf => ?_
      refine q_ hf rfl rfl rfl (e_pick_t hf rfl hc18 rfl) fun a hf => ?_
      refine q_ hf rfl rfl rfl (e_assign hf rfl) fun a hf => ?_
      refine pl_nil ?_
      obtain rfl := some_inj h6
      refine then_n ?_
      exact ⟨((s1.length : Int) == (y19.length : Int)), rfl, hf.keep ⟨rfl, trivial⟩, hM.pick [] rfl⟩
    · refine pl_gs (wanted_f hf rfl rfl rfl rfl hc18) hf rfl rfl fun a hf => ?_
      refine pl_gs (wanted_f hf rfl rfl rfl rfl hc18) hf rfl rfl fun a hf => ?_
      refine pl_gs (wanted_f hf rfl rfl rfl rfl hc18) hf rfl rfl fun a hf => ?_
      refine pl_gs (wanted_f hf rfl rfl rfl rfl hc18) hf rfl rfl fun a hf => ?_
      refine pl_gs (wanted_f hf rfl rfl rfl rfl hc18) hf rfl rfl fun a hf => ?_
      refine pl_gs (wanted_f hf rfl rfl rfl rfl hc18) hf rfl rfl fun a hf => ?_
      refine q_ hf rfl rfl rfl (e_pick_f hf rfl hc18 rfl) fun a hf => ?_
      refine q_ hf rfl rfl rfl (e_assign hf rfl) fun a hf => ?_
      refine pl_nil ?_
      obtain rfl := some_inj h6
      refine then_n ?_
      exact ⟨false, rfl, hf.keep ⟨rfl, trivial⟩, hM.pick [] rfl⟩
  · rintro a w27 ⟨t3, rfl, hf, hM⟩
    try dsimp only at h
    refine wp_ret ?_
    obtain rfl := some_inj h
    exact leave1 hf rfl rfl ⟨rfl, hM.fin⟩

set_option maxRecDepth 100000 in
set_option maxHeartbeats 4000000 in
theorem r_impl_isMain (C : Cx) (s1 : Str) (hp2 : s1.length ≤ maxLen) (r : Bool) (h : m_impl_isMain s1 = some r) :
    Calls Tryd.prog 46 #[vS (s1)] C.w0 fun e w => e = .returned (.bool (r)) ∧ Mem C w [] [] := by
  have hM := Mem.begin C [] trivial
  refine enter Tryd.func46 rfl Tryd.ntmps46 rfl fun a hf => ?_
  unfold m_impl_isMain at h
  refine wp_seq ?_
  refine region_pl ?_
  refine q_ hf rfl rfl rfl (e_assign hf rfl) fun a hf => ?_
  refine pl_nil ?_
  refine then_n ?_
  obtain ⟨x5, h6, h⟩ := bind_some h
  refine seq_join (fun a w => ∃ (t3 : Bool), t3 = x5 ∧ Has 10 a [(2, .bool (t3))] ∧ Mem C w [] []) ?_ ?_
  · refine region_pl ?_
    refine q_ hf rfl rfl rfl (e_move hf rfl) fun a hf => ?_
    refine q_ hf rfl rfl rfl (e_lenS hf (x := s1) rfl Tryd.underlying9) fun a hf => ?_
    refine q_ hf rfl rfl rfl (e_ge hf (x := (s1.length : Int)) (y := 2) rfl rfl) fun a hf => ?_
    refine q_ hf rfl rfl rfl (e_move hf rfl) fun a hf => ?_
    rcases cond_some h6 with ⟨hc7, h6⟩ | ⟨hc7, h6⟩
    · refine gq (wanted_t hf rfl rfl rfl rfl hc7) hf rfl rfl (e_move hf rfl) fun a hf => ?_
      obtain ⟨y8, hz9, h6⟩ := bind_some h6
      refine pl_gl (wanted_t hf rfl rfl rfl rfl hc7) hf rfl rfl (w_call hf Tryd.call56 rfl (r_impl_isPlaced ⟨_, Sh C _ _, none_, hM.sh_lt, none_not, C.G, hM.g_lt, g_none, hM.tabs⟩ s1 hp2 _ hz9) ?_)
      rintro _ w10 ⟨rfl, hM2⟩
      obtain ⟨hM, hx11, hup12⟩ := hM.back hM2
      dsimp only [List.cons_append, List.nil_append] at hM hup12
      clear hM2
      refine ⟨_, rfl, fun a hf => ?_⟩
      refine q_ hf rfl rfl rfl (e_pick_t hf rfl hc7 rfl) fun a hf => ?_
      refine q_ hf rfl rfl rfl (e_assign hf rfl) fun a hf => ?_
      refine pl_nil ?_
      obtain rfl := some_inj h6
      refine then_n ?_
      exact ⟨y8, rfl, hf.keep ⟨rfl, trivial⟩, hM.pick [] rfl⟩
    · refine pl_gs (wanted_f hf rfl rfl rfl rfl hc7) hf rfl rfl fun a hf => ?_
      refine pl_gs (wanted_f hf rfl rfl rfl rfl hc7) hf rfl rfl fun a hf => ?_
      refine q_ hf rfl rfl rfl (e_pick_f hf rfl hc7 rfl) fun a hf => ?_
      refine q_ hf rfl rfl rfl (e_assign hf rfl) fun a hf => ?_
      refine pl_nil ?_
      obtain rfl := some_inj h6
      refine then_n ?_
      exact ⟨false, rfl, hf.keep ⟨rfl, trivial⟩, hM.pick [] rfl⟩
  · rintro a w15 ⟨t3, rfl, hf, hM⟩
    try dsimp only at h
    refine wp_ret ?_
    obtain rfl := some_inj h
    exact leave1 hf rfl rfl ⟨rfl, hM.fin⟩

set_option maxRecDepth 100000 in
set_option maxHeartbeats 4000000 in
theorem r_impl_Decimal (C : Cx) (n1 : Int) (hp2 : R64 n1) (r : Str) (h : m_impl_Decimal n1 = some r) :
    Calls Tryd.prog 34 #[vI (n1)] C.w0 fun e w => e = .returned (vS (r)) ∧ Mem C w [] [] ∧ r.length ≤ maxLen := by
  have hM := Mem.begin C [] trivial
  refine enter Tryd.func34 rfl Tryd.ntmps34 rfl fun a hf => ?_
  unfold m_impl_Decimal at h
  refine wp_seq ?_
  refine region_pl ?_
  refine q_ hf rfl rfl rfl (e_assign hf rfl) fun a hf => ?_
  refine pl_nil ?_
  refine then_n ?_
  refine wp_seq ?_
  refine region_pl ?_
  refine q_ hf rfl rfl rfl (e_move hf rfl) fun a hf => ?_
  obtain ⟨y3, hz4, h⟩ := bind_some h
  refine pl_l hf rfl rfl rfl (w_call hf Tryd.call50 rfl (r_strconv_FormatInt ⟨_, Sh C _ _, none_, hM.sh_lt, none_not, C.G, hM.g_lt, g_none, hM.tabs⟩ n1 hp2 10 (R64_lit rfl) _ hz4) ?_)
  rintro _ w6 ⟨rfl, hM2, hv5⟩
  obtain ⟨hM, hx7, hup8⟩ := hM.back hM2
  dsimp only [List.cons_append, List.nil_append] at hM hup8
  clear hM2
  refine ⟨_, rfl, fun a hf => ?_⟩
  refine q_ hf rfl rfl rfl (e_assign hf rfl) fun a hf => ?_
  refine pl_nil ?_
  refine then_n ?_
  refine wp_ret ?_
  obtain rfl := some_inj h
  exact leave1 hf rfl rfl ⟨rfl, hM.fin, hv5⟩

set_option maxRecDepth 100000 in
set_option maxHeartbeats 4000000 in
theorem r_impl_PlayText (C : Cx) (p1 : Play) (hp2 : R64 p1.Row) (hp3 : R64 p1.Col) (hp4 : p1.Word.length ≤ maxLen) (r : Str) (h : m_impl_PlayText p1 = some r) :
    Calls Tryd.prog 28 #[.agg #[vI (p1.Row), vI (p1.Col), .bool (p1.Down), vS (p1.Word)]] C.w0 fun e w => e = .returned (vS (r)) ∧ Mem C w [] [] ∧ r.length ≤ maxLen := by
  have hM := Mem.begin C [] trivial
  refine enter Tryd.func28 rfl Tryd.ntmps28 rfl fun a hf => ?_
  unfold m_impl_PlayText at h
  refine wp_seq ?_
  refine region_pl ?_
  refine pl_l hf rfl rfl rfl (w_box hf hM (cs := [vI (p1.Row), vI (p1.Col), .bool (p1.Down), vS (p1.Word)]) rfl rfl fun b5 w6 hx7 hM a hf => ?_)
  refine q_ hf rfl rfl rfl (e_assign hf rfl) fun a hf => ?_
  refine pl_nil ?_
  refine then_n ?_
  refine wp_seq ?_
  obtain ⟨x11, h12, h⟩ := bind_some h
  refine seq_join (fun a w => ∃ (t9 : Bool), t9 = x11 ∧ Has 46 a [(1, vP b5 (0)), (20, .bool (t9))] ∧ Mem C w [.box b5 [vI (p1.Row), vI (p1.Col), .bool (p1.Down), vS (p1.Word)] 28] []) ?_ ?_
  · refine region_pl ?_
    refine q_ hf rfl rfl rfl (e_field hf rfl Tryd.underlying28 rfl Tryd.sizeOf2 (o' := 0) rfl) fun a hf => ?_
    refine q_ hf rfl rfl rfl (e_load1 hf rfl Tryd.isAgg2 (hM.boxCell (k := 0) rfl rfl)) fun a hf => ?_
    obtain ⟨y13, hz14, h12⟩ := bind_some h12
    refine pl_l hf rfl rfl rfl (w_call hf Tryd.call39 rfl (r_impl_within ⟨_, Sh C _ _, none_, hM.sh_lt, none_not, C.G, hM.g_lt, g_none, hM.tabs⟩ p1.Row hp2 0 (R64_lit rfl) 14 (R64_lit rfl) _ hz14) ?_)
    rintro _ w15 ⟨rfl, hM2⟩
    obtain ⟨hM, hx16, hup17⟩ := hM.back hM2
    dsimp only [List.cons_append, List.nil_append] at hM hup17
    clear hM2
    refine ⟨_, rfl, fun a hf => ?_⟩
    refine q_ hf rfl rfl rfl (e_not hf rfl) fun a hf => ?_
    refine q_ hf rfl rfl rfl (e_move hf rfl) fun a hf => ?_
    rcases cond_some h12 with ⟨hc18, h12⟩ | ⟨hc18, h12⟩
    · refine pl_gs (wanted_f hf rfl rfl rfl rfl hc18) hf rfl rfl fun a hf => ?_
      refine pl_gs (wanted_f hf rfl rfl rfl rfl hc18) hf rfl rfl fun a hf => ?_
      refine pl_gs (wanted_f hf rfl rfl rfl rfl hc18) hf rfl rfl fun a hf => ?_
      refine pl_gs (wanted_f hf rfl rfl rfl rfl hc18) hf rfl rfl fun a hf => ?_
      refine q_ hf rfl rfl rfl (e_pick_t hf rfl hc18 rfl) fun a hf => ?_
      refine q_ hf rfl rfl rfl (e_move hf rfl) fun a hf => ?_
      refine pl_gs (wanted_f hf rfl rfl rfl rfl rfl) hf rfl rfl fun a hf => ?_
      refine pl_gs (wanted_f hf rfl rfl rfl rfl rfl) hf rfl rfl fun a hf => ?_
      refine pl_gs (wanted_f hf rfl rfl rfl rfl rfl) hf rfl rfl fun a hf => ?_
      refine pl_gs (wanted_f hf rfl rfl rfl rfl rfl) hf rfl rfl fun a hf => ?_
      refine q_ hf rfl rfl rfl (e_pick_t hf rfl rfl rfl) fun a hf => ?_
      refine pl_nil ?_
      obtain rfl := some_inj h12
      refine then_n ?_
      exact ⟨true, rfl, hf.keep ⟨rfl, rfl, trivial⟩, hM.pick [] rfl⟩
    · refine gq (wanted_t hf rfl rfl rfl rfl hc18) hf rfl rfl (e_field hf rfl Tryd.underlying28 rfl Tryd.sizeOf2 (o' := 1) rfl) fun a hf => ?_
      refine gq (wanted_t hf rfl rfl rfl rfl hc18) hf rfl rfl (e_load1 hf rfl Tryd.isAgg2 (hM.boxCell (k := 0) rfl rfl)) fun a hf => ?_
      obtain ⟨y20, hz21, h12⟩ := bind_some h12
      refine pl_gl (wanted_t hf rfl rfl rfl rfl hc18) hf rfl rfl (w_call hf Tryd.call39 rfl (r_impl_within ⟨_, Sh C _ _, none_, hM.sh_lt, none_not, C.G, hM.g_lt, g_none, hM.tabs⟩ p1.Col hp3 0 (R64_lit rfl) 14 (R64_lit rfl) _ hz21) ?_)
      rintro _ w22 ⟨rfl, hM2⟩
      obtain ⟨hM, hx23, hup24⟩ := hM.back hM2
      dsimp only [List.cons_append, List.nil_append] at hM hup24
      clear hM2
      refine ⟨_, rfl, fun a hf => ?_⟩
      refine gq (wanted_t hf rfl rfl rfl rfl hc18) hf rfl rfl (e_not hf rfl) fun a hf => ?_
      refine q_ hf rfl rfl rfl (e_pick_f hf rfl hc18 rfl) fun a hf => ?_
      refine q_ hf rfl rfl rfl (e_move hf rfl) fun a hf => ?_
      rcases cond_some h12 with ⟨hc25, h12⟩ | ⟨hc25, h12⟩
      · refine pl_gs (wanted_f hf rfl rfl rfl rfl hc25) hf rfl rfl fun a hf => ?_
        refine pl_gs (wanted_f hf rfl rfl rfl rfl hc25) hf rfl rfl fun a hf => ?_
        refine pl_gs (wanted_f hf rfl rfl rfl rfl hc25) hf rfl rfl fun a hf => ?_
        refine pl_gs (wanted_f hf rfl rfl rfl rfl hc25) hf rfl rfl fun a hf => ?_
        refine q_ hf rfl rfl rfl (e_pick_t hf rfl hc25 rfl) fun a hf => ?_
        refine pl_nil ?_
        obtain rfl := some_inj h12
        refine then_n ?_
        exact ⟨true, rfl, hf.keep ⟨rfl, rfl, trivial⟩, hM.pick [] rfl⟩
      · refine gq (wanted_t hf rfl rfl rfl rfl hc25) hf rfl rfl (e_field hf rfl Tryd.underlying28 rfl Tryd.sizeOf9 (o' := 3) rfl) fun a hf => ?_
        refine gq (wanted_t hf rfl rfl rfl rfl hc25) hf rfl rfl (e_load1 hf rfl Tryd.isAgg9 (hM.boxCell (k := 0) rfl rfl)) fun a hf => ?_
        obtain ⟨y27, hz28, h12⟩ := bind_some h12
        refine pl_gl (wanted_t hf rfl rfl rfl rfl hc25) hf rfl rfl (w_call hf Tryd.call46 rfl (r_impl_isMain ⟨_, Sh C _ _, none_, hM.sh_lt, none_not, C.G, hM.g_lt, g_none, hM.tabs⟩ p1.Word hp4 _ hz28) ?_)
        rintro _ w29 ⟨rfl, hM2⟩
        obtain ⟨hM, hx30, hup31⟩ := hM.back hM2
        dsimp only [List.cons_append, List.nil_append] at hM hup31
        clear hM2
        refine ⟨_, rfl, fun a hf => ?_⟩
        refine gq (wanted_t hf rfl rfl rfl rfl hc25) hf rfl rfl (e_not hf rfl) fun a hf => ?_
        refine q_ hf rfl rfl rfl (e_pick_f hf rfl hc25 rfl) fun a hf => ?_
        refine pl_nil ?_
        obtain rfl := some_inj h12
        refine then_n ?_
        exact ⟨(!y27), rfl, hf.keep ⟨rfl, rfl, trivial⟩, hM.pick [] rfl⟩
  · rintro a w33 ⟨t9, rfl, hf, hM⟩
    try dsimp only at h
    rcases cond_some h with ⟨hc34, h⟩ | ⟨hc34, h⟩
    · refine cond_t hf rfl hc34 ?_
      refine wp_seq ?_
      refine region_pl ?_
      refine q_ hf rfl rfl rfl (e_assign hf rfl) fun a hf => ?_
      refine pl_nil ?_
      refine then_n ?_
      refine wp_ret ?_
      refine then_r ?_
      obtain rfl := some_inj h
      have hM := hM.outs (own' := []) 0 rfl
      exact leave1 hf rfl rfl ⟨rfl, hM.fin, (lit_len rfl)⟩
    · refine cond_f hf rfl hc34 ?_
      refine wp_skip ?_
      refine then_n ?_
      refine wp_seq ?_
      obtain ⟨w35, hw⟩ : ∃ x, x = w33.drew := ⟨_, rfl⟩
      refine region_pi (.q 0 (.q 1 (.q 2 (.q 4 (.q 5 (.q 6 (.q 7 (.q 8 (.l 3 (.q 9 (.q 10 (.nil)))))))))))) (Ext w35) rfl (by kernel_rfl) ?_
      have hM := hM.drew
      rw [← hw] at hM ⊢
      clear hw
      refine pi_q hf rfl rfl rfl rfl (Ext.refl _) (e_field hf rfl Tryd.underlying28 rfl Tryd.sizeOf2 (o' := 0) rfl) fun a hf => ?_
      refine pi_q hf rfl rfl rfl rfl (Ext.refl _) (e_load1 hf rfl Tryd.isAgg2 (hM.boxCell (k := 0) rfl rfl)) fun a hf => ?_
      obtain ⟨z36, hz37, h⟩ := bind_some h
      refine pi_q hf rfl rfl rfl rfl (Ext.refl _) (e_add hf rfl rfl hz37) fun a hf => ?_
      refine pi_q hf rfl rfl rfl rfl (Ext.refl _) (e_field hf rfl Tryd.underlying28 rfl Tryd.sizeOf2 (o' := 1) rfl) fun a hf => ?_
      refine pi_q hf rfl rfl rfl rfl (Ext.refl _) (e_load1 hf rfl Tryd.isAgg2 (hM.boxCell (k := 0) rfl rfl)) fun a hf => ?_
      obtain ⟨z38, hz39, h⟩ := bind_some h
      refine pi_q hf rfl rfl rfl rfl (Ext.refl _) (e_add hf rfl rfl hz39) fun a hf => ?_
      obtain ⟨z40, hz41, h⟩ := bind_some h
      refine pi_q hf rfl rfl rfl rfl (Ext.refl _) (e_convIR hf rfl Tryd.underlying2 Tryd.underlying21 hz41) fun a hf => ?_
      obtain ⟨s42, hz43, h⟩ := bind_some h
      refine pi_q hf rfl rfl rfl rfl (Ext.refl _) (e_convRS hf rfl Tryd.underlying21 Tryd.underlying9 hz43) fun a hf => ?_
      refine pi_one ?_
      obtain ⟨y44, hz45, h⟩ := bind_some h
      refine pi_l hf rfl rfl rfl rfl (w_call hf Tryd.call34 rfl (r_impl_Decimal ⟨_, Sh C _ _, none_, hM.sh_lt, none_not, C.G, hM.g_lt, g_none, hM.tabs⟩ z36 (chk_R hz37) _ hz45) ?_)
      rintro _ w47 ⟨rfl, hM2, hv46⟩
      obtain ⟨hM, hx48, hup49⟩ := hM.back hM2
      dsimp only [List.cons_append, List.nil_append] at hM hup49
      clear hM2
      refine ⟨_, rfl, Ext w47, fun _ h => Ext.trans hx48 h, Ext.refl _, fun a hf => ?_⟩
      refine pi_q hf rfl rfl rfl rfl (Ext.refl _) (e_assign hf rfl) fun a hf => ?_
      refine pi_q hf rfl rfl rfl rfl (Ext.refl _) (e_assign hf rfl) fun a hf => ?_
      refine pi_nil ?_
      refine then_n ?_
      refine wp_seq ?_
      refine wp_seq ?_
      refine region_pl ?_
      refine q_ hf rfl rfl rfl (e_field hf rfl Tryd.underlying28 rfl Tryd.sizeOf4 (o' := 2) rfl) fun a hf => ?_
      refine q_ hf rfl rfl rfl (e_load1 hf rfl Tryd.isAgg4 (hM.boxCell (k := 0) rfl rfl)) fun a hf => ?_
      refine pl_nil ?_
      refine then_n ?_
      rcases cond_some h with ⟨hc50, h⟩ | ⟨hc50, h⟩
      · refine cond_t hf rfl hc50 ?_
        refine wp_seq ?_
        refine region_pl ?_
        refine q_ hf rfl rfl rfl (e_move hf rfl) fun a hf => ?_
        refine q_ hf rfl rfl rfl (e_move hf rfl) fun a hf => ?_
        obtain ⟨s51, hz52, h⟩ := bind_some h
        refine q_ hf rfl rfl rfl (e_cat hf (x := s42) (y := y44) rfl rfl hz52) fun a hf => ?_
        obtain ⟨s53, hz54, h⟩ := bind_some h
        refine q_ hf rfl rfl rfl (e_cat hf (x := s51) (y := ([32] : Str)) rfl rfl hz54) fun a hf => ?_
        refine q_ hf rfl rfl rfl (e_field hf rfl Tryd.underlying28 rfl Tryd.sizeOf9 (o' := 3) rfl) fun a hf => ?_
        refine q_ hf rfl rfl rfl (e_load1 hf rfl Tryd.isAgg9 (hM.boxCell (k := 0) rfl rfl)) fun a hf => ?_
        obtain ⟨s55, hz56, h⟩ := bind_some h
        refine q_ hf rfl rfl rfl (e_cat hf (x := s53) (y := p1.Word) rfl rfl hz56) fun a hf => ?_
        refine q_ hf rfl rfl rfl (e_assign hf rfl) fun a hf => ?_
        refine pl_nil ?_
        refine then_n ?_
        refine wp_ret ?_
        refine then_r ?_
        obtain rfl := some_inj h
        have hM := hM.outs (own' := []) 0 rfl
        exact leave1 hf rfl rfl ⟨rfl, hM.fin, (cat_len hz56)⟩
      · refine cond_f hf rfl hc50 ?_
        refine wp_skip ?_
        refine then_n ?_
        refine wp_seq ?_
        refine region_pl ?_
        refine q_ hf rfl rfl rfl (e_move hf rfl) fun a hf => ?_
        refine q_ hf rfl rfl rfl (e_move hf rfl) fun a hf => ?_
        obtain ⟨s57, hz58, h⟩ := bind_some h
        refine q_ hf rfl rfl rfl (e_cat hf (x := y44) (y := s42) rfl rfl hz58) fun a hf => ?_
        obtain ⟨s59, hz60, h⟩ := bind_some h
        refine q_ hf rfl rfl rfl (e_cat hf (x := s57) (y := ([32] : Str)) rfl rfl hz60) fun a hf => ?_
        refine q_ hf rfl rfl rfl (e_field hf rfl Tryd.underlying28 rfl Tryd.sizeOf9 (o' := 3) rfl) fun a hf => ?_
        refine q_ hf rfl rfl rfl (e_load1 hf rfl Tryd.isAgg9 (hM.boxCell (k := 0) rfl rfl)) fun a hf => ?_
        obtain ⟨s61, hz62, h⟩ := bind_some h
        refine q_ hf rfl rfl rfl (e_cat hf (x := s59) (y := p1.Word) rfl rfl hz62) fun a hf => ?_
        refine q_ hf rfl rfl rfl (e_assign hf rfl) fun a hf => ?_
        refine pl_nil ?_
        refine then_n ?_
        refine wp_ret ?_
        obtain rfl := some_inj h
        have hM := hM.outs (own' := []) 0 rfl
        exact leave1 hf rfl rfl ⟨rfl, hM.fin, (cat_len hz62)⟩

set_option maxRecDepth 100000 in
set_option maxHeartbeats 4000000 in
theorem r_impl_place (C : Cx) (tile1 : UInt8) (r : Int) (h : m_impl_place tile1 = some r) :
    Calls Tryd.prog 65 #[vB (tile1)] C.w0 fun e w => e = .returned (vI (r)) ∧ Mem C w [] [] ∧ R64 r := by
  have hM := Mem.begin C [] trivial
  refine enter Tryd.func65 rfl Tryd.ntmps65 rfl fun a hf => ?_
  unfold m_impl_place at h
  refine wp_seq ?_
  refine region_pl ?_
  refine q_ hf rfl rfl rfl (e_assign hf rfl) fun a hf => ?_
  refine pl_nil ?_
  refine then_n ?_
  refine wp_seq ?_
  refine wp_block ?_
  refine wp_seq ?_
  refine region_pl ?_
  refine q_ hf rfl rfl rfl (e_move hf rfl) fun a hf => ?_
  refine q_ hf rfl rfl rfl (e_eqB hf (x := tile1) (y := 63) rfl rfl) fun a hf => ?_
  refine q_ hf rfl rfl rfl (e_assign hf rfl) fun a hf => ?_
  refine pl_nil ?_
  refine then_n ?_
  rcases cond_some h with ⟨hc2, h⟩ | ⟨hc2, h⟩
  · refine cond_t hf rfl hc2 ?_
    refine wp_seq ?_
    refine region_pl ?_
    refine q_ hf rfl rfl rfl (e_assign hf rfl) fun a hf => ?_
    refine pl_nil ?_
    refine then_n ?_
    refine wp_ret ?_
    refine blk_r ?_
    refine then_r ?_
    obtain rfl := some_inj h
    exact leave1 hf rfl rfl ⟨rfl, hM.fin, (R64_lit rfl)⟩
  · refine cond_f hf rfl hc2 ?_
    refine wp_seq ?_
    refine region_pl ?_
    refine q_ hf rfl rfl rfl (e_move hf rfl) fun a hf => ?_
    obtain ⟨y3, hz4, h⟩ := bind_some h
    refine pl_l hf rfl rfl rfl (w_call hf Tryd.call77 rfl (r_impl_small ⟨_, Sh C _ _, none_, hM.sh_lt, none_not, C.G, hM.g_lt, g_none, hM.tabs⟩ tile1 _ hz4) ?_)
    rintro _ w5 ⟨rfl, hM2⟩
    obtain ⟨hM, hx6, hup7⟩ := hM.back hM2
    dsimp only [List.cons_append, List.nil_append] at hM hup7
    clear hM2
    refine ⟨_, rfl, fun a hf => ?_⟩
    refine q_ hf rfl rfl rfl (e_assign hf rfl) fun a hf => ?_
    refine pl_nil ?_
    refine then_n ?_
    rcases cond_some h with ⟨hc8, h⟩ | ⟨hc8, h⟩
    · refine cond_t hf rfl hc8 ?_
      refine wp_seq ?_
      refine region_pl ?_
      refine q_ hf rfl rfl rfl (e_move hf rfl) fun a hf => ?_
      refine q_ hf rfl rfl rfl (e_subB hf (x := tile1) (y := 97) rfl rfl) fun a hf => ?_
      refine q_ hf rfl rfl rfl (e_convBI hf (x := tile1 - 97) rfl Tryd.underlying5 Tryd.underlying3) fun a hf => ?_
      obtain ⟨z9, hz10, h⟩ := bind_some h
      refine q_ hf rfl rfl rfl (e_add hf rfl rfl hz10) fun a hf => ?_
      refine q_ hf rfl rfl rfl (e_assign hf rfl) fun a hf => ?_
      refine pl_nil ?_
      refine then_n ?_
      refine wp_ret ?_
      refine blk_r ?_
      refine then_r ?_
      obtain rfl := some_inj h
      exact leave1 hf rfl rfl ⟨rfl, hM.fin, (chk_R hz10)⟩
    · refine cond_f hf rfl hc8 ?_
      refine wp_skip ?_
      refine blk_n ?_
      refine then_n ?_
      refine wp_seq ?_
      refine region_pl ?_
      refine q_ hf rfl rfl rfl (e_assign hf rfl) fun a hf => ?_
      refine pl_nil ?_
      refine then_n ?_
      refine wp_ret ?_
      obtain rfl := some_inj h
      exact leave1 hf rfl rfl ⟨rfl, hM.fin, (R64_lit rfl)⟩

set_option maxRecDepth 100000 in
set_option maxHeartbeats 4000000 in
theorem r_impl_onlyTiles (C : Cx) (s1 : Str) (hp2 : s1.length ≤ maxLen) (r : Bool) (h : m_impl_onlyTiles s1 = some r) :
    Calls Tryd.prog 57 #[vS (s1)] C.w0 fun e w => e = .returned (.bool (r)) ∧ Mem C w [] [] := by
  have hM := Mem.begin C [] trivial
  refine enter Tryd.func57 rfl Tryd.ntmps57 rfl fun a hf => ?_
  unfold m_impl_onlyTiles at h
  refine wp_seq ?_
  refine region_pl ?_
  refine q_ hf rfl rfl rfl (e_assign hf rfl) fun a hf => ?_
  refine pl_nil ?_
  refine then_n ?_
  obtain ⟨x3, h4, h⟩ := bind_some h
  refine seq_join (fun a w => (.inl ()) = x3 ∧ Has 15 a [] ∧ Mem C w [] []) ?_ ?_
  · refine wp_seq ?_
    refine region_pl ?_
    refine q_ hf rfl rfl rfl (e_assign hf rfl) fun a hf => ?_
    refine pl_nil ?_
    refine then_n ?_
    refine wp_block ?_
    obtain ⟨x8, h9, h4⟩ := bind_some h4
    refine wp_loopM h9 (fun s a w => ∃ (n5 : Int), n5 = s ∧ Has 15 a [(0, vS (s1)), (3, vI (n5))] ∧ Mem C w [] [] ∧ R64 n5) ?_ ?_
    · exact ⟨0, rfl, hf.keep ⟨rfl, rfl, trivial⟩, hM.pick [] rfl, (R64_lit rfl)⟩
    · rintro s o10 a w7 ⟨n5, rfl, hf, hM, hv6⟩ h11 hd12
      replace h11 : m_impl_onlyTiles_l1 s1 n5 = some o10 := h11
      unfold m_impl_onlyTiles_l1 at h11
      refine wp_seq ?_
      refine wp_seq ?_
      refine region_pl ?_
      refine q_ hf rfl rfl rfl (e_move hf rfl) fun a hf => ?_
      refine q_ hf rfl rfl rfl (e_move hf rfl) fun a hf => ?_
      refine q_ hf rfl rfl rfl (e_lenS hf (x := s1) rfl Tryd.underlying9) fun a hf => ?_
      refine q_ hf rfl rfl rfl (e_lt hf (x := n5) (y := (s1.length : Int)) rfl rfl) fun a hf => ?_
      refine pl_nil ?_
      refine then_n ?_
      rcases cond_some h11 with ⟨hc13, h11⟩ | ⟨hc13, h11⟩
      · refine cond_t hf rfl hc13 ?_
        refine wp_skip ?_
        refine then_n ?_
        refine wp_seq ?_
        refine wp_block ?_
        refine wp_seq ?_
        refine region_pl ?_
        refine q_ hf rfl rfl rfl (e_move hf rfl) fun a hf => ?_
        refine q_ hf rfl rfl rfl (e_move hf rfl) fun a hf => ?_
        obtain ⟨c14, hz15, h11⟩ := bind_some h11
        refine q_ hf rfl rfl rfl (e_indexS hf (x := s1) rfl rfl Tryd.underlying9 hz15) fun a hf => ?_
        obtain ⟨y16, hz17, h11⟩ := bind_some h11
        refine pl_l hf rfl rfl rfl (w_call hf Tryd.call65 rfl (r_impl_place ⟨_, Sh C _ _, none_, hM.sh_lt, none_not, C.G, hM.g_lt, g_none, hM.tabs⟩ c14 _ hz17) ?_)
        rintro _ w19 ⟨rfl, hM2, hv18⟩
        obtain ⟨hM, hx20, hup21⟩ := hM.back hM2
        dsimp only [List.cons_append, List.nil_append] at hM hup21
        clear hM2
        refine ⟨_, rfl, fun a hf => ?_⟩
        refine q_ hf rfl rfl rfl (e_lt hf (x := y16) (y := 0) rfl rfl) fun a hf => ?_
        refine pl_nil ?_
        refine then_n ?_
        rcases cond_some h11 with ⟨hc22, h11⟩ | ⟨hc22, h11⟩
        · refine cond_t hf rfl hc22 ?_
          refine wp_seq ?_
          refine region_pl ?_
          refine q_ hf rfl rfl rfl (e_assign hf rfl) fun a hf => ?_
          refine pl_nil ?_
          refine then_n ?_
          refine wp_ret ?_
          refine blk_r ?_
          refine then_r ?_
          obtain rfl := some_inj h11
          obtain rfl := hd12 _ rfl
          try dsimp only at h4
          refine then_r ?_
          refine blk_r ?_
          obtain rfl := some_inj h4
          try dsimp only at h
          refine then_r ?_
          obtain rfl := some_inj h
          exact leave1 hf rfl rfl ⟨rfl, hM.fin⟩
        · refine cond_f hf rfl hc22 ?_
          refine wp_skip ?_
          refine blk_n ?_
          refine then_n ?_
          refine region_pl ?_
          refine q_ hf rfl rfl rfl (e_move hf rfl) fun a hf => ?_
          obtain ⟨z23, hz24, h11⟩ := bind_some h11
          refine q_ hf rfl rfl rfl (e_add hf rfl rfl hz24) fun a hf => ?_
          refine q_ hf rfl rfl rfl (e_assign hf rfl) fun a hf => ?_
          refine pl_nil ?_
          obtain rfl := some_inj h11
          refine then_n ⟨_, rfl, ?_⟩
          exact ⟨z23, rfl, hf.keep ⟨rfl, rfl, trivial⟩, hM.pick [] rfl, (chk_R hz24)⟩
      · refine cond_f hf rfl hc13 ?_
        refine wp_exit ?_
        refine then_x ?_
        obtain rfl := some_inj h11
        obtain rfl := hd12 _ rfl
        try dsimp only at h4
        refine then_x ?_
        refine exit_hit ?_
        obtain rfl := some_inj h4
        refine then_n ?_
        exact ⟨rfl, hf.keep trivial, hM.pick [] rfl⟩
  · rintro a w31 ⟨rfl, hf, hM⟩
    try dsimp only at h
    refine wp_seq ?_
    refine region_pl ?_
    refine q_ hf rfl rfl rfl (e_assign hf rfl) fun a hf => ?_
    refine pl_nil ?_
    refine then_n ?_
    refine wp_ret ?_
    obtain rfl := some_inj h
    exact leave1 hf rfl rfl ⟨rfl, hM.fin⟩

set_option maxRecDepth 100000 in
set_option maxHeartbeats 4000000 in
theorem r_impl_ValidPile (C : Cx) (s1 : Str) (hp2 : s1.length ≤ maxLen) (r : Bool) (h : m_impl_ValidPile s1 = some r) :
    Calls Tryd.prog 47 #[vS (s1)] C.w0 fun e w => e = .returned (.bool (r)) ∧ Mem C w [] [] := by
  have hM := Mem.begin C [] trivial
  refine enter Tryd.func47 rfl Tryd.ntmps47 rfl fun a hf => ?_
  unfold m_impl_ValidPile at h
  refine wp_seq ?_
  refine region_pl ?_
  refine q_ hf rfl rfl rfl (e_assign hf rfl) fun a hf => ?_
  refine pl_nil ?_
  refine then_n ?_
  refine wp_seq ?_
  obtain ⟨x5, h6, h⟩ := bind_some h
  refine seq_join (fun a w => ∃ (t3 : Bool), t3 = x5 ∧ Has 26 a [(0, vS (s1)), (11, .bool (t3))] ∧ Mem C w [] []) ?_ ?_
  · refine region_pl ?_
    refine q_ hf rfl rfl rfl (e_move hf rfl) fun a hf => ?_
    refine q_ hf rfl rfl rfl (e_lenS hf (x := s1) rfl Tryd.underlying9) fun a hf => ?_
    refine q_ hf rfl rfl rfl (e_gt hf (x := (s1.length : Int)) (y := 120) rfl rfl) fun a hf => ?_
    refine q_ hf rfl rfl rfl (e_move hf rfl) fun a hf => ?_
    rcases cond_some h6 with ⟨hc7, h6⟩ | ⟨hc7, h6⟩
    · refine pl_gs (wanted_f hf rfl rfl rfl rfl hc7) hf rfl rfl fun a hf => ?_
      refine pl_gs (wanted_f hf rfl rfl rfl rfl hc7) hf rfl rfl fun a hf => ?_
      refine pl_gs (wanted_f hf rfl rfl rfl rfl hc7) hf rfl rfl fun a hf => ?_
      refine q_ hf rfl rfl rfl (e_pick_t hf rfl hc7 rfl) fun a hf => ?_
      refine pl_nil ?_
      obtain rfl := some_inj h6
      refine then_n ?_
      exact ⟨true, rfl, hf.keep ⟨rfl, rfl, trivial⟩, hM.pick [] rfl⟩
    · refine gq (wanted_t hf rfl rfl rfl rfl hc7) hf rfl rfl (e_move hf rfl) fun a hf => ?_
      obtain ⟨y9, hz10, h6⟩ := bind_some h6
      refine pl_gl (wanted_t hf rfl rfl rfl rfl hc7) hf rfl rfl (w_call hf Tryd.call57 rfl (r_impl_onlyTiles ⟨_, Sh C _ _, none_, hM.sh_lt, none_not, C.G, hM.g_lt, g_none, hM.tabs⟩ s1 hp2 _ hz10) ?_)
      rintro _ w11 ⟨rfl, hM2⟩
      obtain ⟨hM, hx12, hup13⟩ := hM.back hM2
      dsimp only [List.cons_append, List.nil_append] at hM hup13
      clear hM2
      refine ⟨_, rfl, fun a hf => ?_⟩
      refine gq (wanted_t hf rfl rfl rfl rfl hc7) hf rfl rfl (e_not hf rfl) fun a hf => ?_
      refine q_ hf rfl rfl rfl (e_pick_f hf rfl hc7 rfl) fun a hf => ?_
      refine pl_nil ?_
      obtain rfl := some_inj h6
      refine then_n ?_
      exact ⟨(!y9), rfl, hf.keep ⟨rfl, rfl, trivial⟩, hM.pick [] rfl⟩
  · rintro a w15 ⟨t3, rfl, hf, hM⟩
    try dsimp only at h
    rcases cond_some h with ⟨hc16, h⟩ | ⟨hc16, h⟩
    · refine cond_t hf rfl hc16 ?_
      refine wp_seq ?_
      refine region_pl ?_
      refine q_ hf rfl rfl rfl (e_assign hf rfl) fun a hf => ?_
      refine pl_nil ?_
      refine then_n ?_
      refine wp_ret ?_
      refine then_r ?_
      obtain rfl := some_inj h
      exact leave1 hf rfl rfl ⟨rfl, hM.fin⟩
    · refine cond_f hf rfl hc16 ?_
      refine wp_skip ?_
      refine then_n ?_
      obtain ⟨x17, h18, h⟩ := bind_some h
      refine seq_join (fun a w => (.inl ()) = x17 ∧ Has 26 a [] ∧ Mem C w [] []) ?_ ?_
      · refine wp_seq ?_
        refine region_pl ?_
        refine q_ hf rfl rfl rfl (e_assign hf rfl) fun a hf => ?_
        refine pl_nil ?_
        refine then_n ?_
        refine wp_block ?_
        obtain ⟨x22, h23, h18⟩ := bind_some h18
        refine wp_loopM h23 (fun s a w => ∃ (n19 : Int), n19 = s ∧ Has 26 a [(0, vS (s1)), (3, vI (n19))] ∧ Mem C w [] [] ∧ R64 n19) ?_ ?_
        · exact ⟨1, rfl, hf.keep ⟨rfl, rfl, trivial⟩, hM.pick [] rfl, (R64_lit rfl)⟩
        · rintro s o24 a w21 ⟨n19, rfl, hf, hM, hv20⟩ h25 hd26
          replace h25 : m_impl_ValidPile_l1 s1 n19 = some o24 := h25
          unfold m_impl_ValidPile_l1 at h25
          refine wp_seq ?_
          refine wp_seq ?_
          refine region_pl ?_
          refine q_ hf rfl rfl rfl (e_move hf rfl) fun a hf => ?_
          refine q_ hf rfl rfl rfl (e_move hf rfl) fun a hf => ?_
          refine q_ hf rfl rfl rfl (e_lenS hf (x := s1) rfl Tryd.underlying9) fun a hf => ?_
          refine q_ hf rfl rfl rfl (e_lt hf (x := n19) (y := (s1.length : Int)) rfl rfl) fun a hf => ?_
          refine pl_nil ?_
          refine then_n ?_
          rcases cond_some h25 with ⟨hc27, h25⟩ | ⟨hc27, h25⟩
          · refine cond_t hf rfl hc27 ?_
            refine wp_skip ?_
            refine then_n ?_
            refine wp_seq ?_
            refine wp_block ?_
            refine wp_seq ?_
            obtain ⟨w28, hw⟩ : ∃ x, x = w21.drew := ⟨_, rfl⟩
            refine region_pi (.q 0 (.q 1 (.q 2 (.q 3 (.q 4 (.q 5 (.q 6 (.q 7 (.nil))))))))) (Ext w28) rfl (by kernel_rfl) ?_
            have hM := hM.drew
            rw [← hw] at hM ⊢
            clear hw
            refine pi_q hf rfl rfl rfl rfl (Ext.refl _) (e_move hf rfl) fun a hf => ?_
            refine pi_q hf rfl rfl rfl rfl (Ext.refl _) (e_move hf rfl) fun a hf => ?_
            obtain ⟨z29, hz30, h25⟩ := bind_some h25
            refine pi_q hf rfl rfl rfl rfl (Ext.refl _) (e_sub hf rfl rfl hz30) fun a hf => ?_
            obtain ⟨c31, hz32, h25⟩ := bind_some h25
            refine pi_q hf rfl rfl rfl rfl (Ext.refl _) (e_indexS hf (x := s1) rfl rfl Tryd.underlying9 hz32) fun a hf => ?_
            refine pi_q hf rfl rfl rfl rfl (Ext.refl _) (e_move hf rfl) fun a hf => ?_
            refine pi_q hf rfl rfl rfl rfl (Ext.refl _) (e_move hf rfl) fun a hf => ?_
            obtain ⟨c33, hz34, h25⟩ := bind_some h25
            refine pi_q hf rfl rfl rfl rfl (Ext.refl _) (e_indexS hf (x := s1) rfl rfl Tryd.underlying9 hz34) fun a hf => ?_
            refine pi_q hf rfl rfl rfl rfl (Ext.refl _) (e_gtB hf (x := c31) (y := c33) rfl rfl) fun a hf => ?_
            refine pi_nil ?_
            refine then_n ?_
            rcases cond_some h25 with ⟨hc35, h25⟩ | ⟨hc35, h25⟩
            · refine cond_t hf rfl hc35 ?_
              refine wp_seq ?_
              refine region_pl ?_
              refine q_ hf rfl rfl rfl (e_assign hf rfl) fun a hf => ?_
              refine pl_nil ?_
              refine then_n ?_
              refine wp_ret ?_
              refine blk_r ?_
              refine then_r ?_
              obtain rfl := some_inj h25
              obtain rfl := hd26 _ rfl
              try dsimp only at h18
              refine then_r ?_
              refine blk_r ?_
              obtain rfl := some_inj h18
              try dsimp only at h
              refine then_r ?_
              obtain rfl := some_inj h
              exact leave1 hf rfl rfl ⟨rfl, hM.fin⟩
            · refine cond_f hf rfl hc35 ?_
              refine wp_skip ?_
              refine blk_n ?_
              refine then_n ?_
              refine region_pl ?_
              refine q_ hf rfl rfl rfl (e_move hf rfl) fun a hf => ?_
              obtain ⟨z36, hz37, h25⟩ := bind_some h25
              refine q_ hf rfl rfl rfl (e_add hf rfl rfl hz37) fun a hf => ?_
              refine q_ hf rfl rfl rfl (e_assign hf rfl) fun a hf => ?_
              refine pl_nil ?_
              obtain rfl := some_inj h25
              refine then_n ⟨_, rfl, ?_⟩
              exact ⟨z36, rfl, hf.keep ⟨rfl, rfl, trivial⟩, hM.pick [] rfl, (chk_R hz37)⟩
          · refine cond_f hf rfl hc27 ?_
            refine wp_exit ?_
            refine then_x ?_
            obtain rfl := some_inj h25
            obtain rfl := hd26 _ rfl
            try dsimp only at h18
            refine then_x ?_
            refine exit_hit ?_
            obtain rfl := some_inj h18
            refine then_n ?_
            exact ⟨rfl, hf.keep trivial, hM.pick [] rfl⟩
      · rintro a w44 ⟨rfl, hf, hM⟩
        try dsimp only at h
        refine wp_seq ?_
        refine region_pl ?_
        refine q_ hf rfl rfl rfl (e_assign hf rfl) fun a hf => ?_
        refine pl_nil ?_
        refine then_n ?_
        refine wp_ret ?_
        obtain rfl := some_inj h
        exact leave1 hf rfl rfl ⟨rfl, hM.fin⟩

set_option maxRecDepth 100000 in
set_option maxHeartbeats 4000000 in
theorem r_impl_ValidRack (C : Cx) (s1 : Str) (hp2 : s1.length ≤ maxLen) (r : Bool) (h : m_impl_ValidRack s1 = some r) :
    Calls Tryd.prog 29 #[vS (s1)] C.w0 fun e w => e = .returned (.bool (r)) ∧ Mem C w [] [] := by
  have hM := Mem.begin C [] trivial
  refine enter Tryd.func29 rfl Tryd.ntmps29 rfl fun a hf => ?_
  unfold m_impl_ValidRack at h
  refine wp_seq ?_
  refine region_pl ?_
  refine q_ hf rfl rfl rfl (e_assign hf rfl) fun a hf => ?_
  refine pl_nil ?_
  refine then_n ?_
  obtain ⟨x5, h6, h⟩ := bind_some h
  refine seq_join (fun a w => ∃ (t3 : Bool), t3 = x5 ∧ Has 10 a [(2, .bool (t3))] ∧ Mem C w [] []) ?_ ?_
  · refine region_pl ?_
    refine q_ hf rfl rfl rfl (e_move hf rfl) fun a hf => ?_
    refine q_ hf rfl rfl rfl (e_lenS hf (x := s1) rfl Tryd.underlying9) fun a hf => ?_
    refine q_ hf rfl rfl rfl (e_le hf (x := (s1.length : Int)) (y := 7) rfl rfl) fun a hf => ?_
    refine q_ hf rfl rfl rfl (e_move hf rfl) fun a hf => ?_
    rcases cond_some h6 with ⟨hc7, h6⟩ | ⟨hc7, h6⟩
    · refine gq (wanted_t hf rfl rfl rfl rfl hc7) hf rfl rfl (e_move hf rfl) fun a hf => ?_
      obtain ⟨y8, hz9, h6⟩ := bind_some h6
      refine pl_gl (wanted_t hf rfl rfl rfl rfl hc7) hf rfl rfl (w_call hf Tryd.call47 rfl (r_impl_ValidPile ⟨_, Sh C _ _, none_, hM.sh_lt, none_not, C.G, hM.g_lt, g_none, hM.tabs⟩ s1 hp2 _ hz9) ?_)
      rintro _ w10 ⟨rfl, hM2⟩
      obtain ⟨hM, hx11, hup12⟩ := hM.back hM2
      dsimp only [List.cons_append, List.nil_append] at hM hup12
      clear hM2
      refine ⟨_, rfl, fun a hf => ?_⟩
      refine q_ hf rfl rfl rfl (e_pick_t hf rfl hc7 rfl) fun a hf => ?_
      refine q_ hf rfl rfl rfl (e_assign hf rfl) fun a hf => ?_
      refine pl_nil ?_
      obtain rfl := some_inj h6
      refine then_n ?_
      exact ⟨y8, rfl, hf.keep ⟨rfl, trivial⟩, hM.pick [] rfl⟩
    · refine pl_gs (wanted_f hf rfl rfl rfl rfl hc7) hf rfl rfl fun a hf => ?_
      refine pl_gs (wanted_f hf rfl rfl rfl rfl hc7) hf rfl rfl fun a hf => ?_
      refine q_ hf rfl rfl rfl (e_pick_f hf rfl hc7 rfl) fun a hf => ?_
      refine q_ hf rfl rfl rfl (e_assign hf rfl) fun a hf => ?_
      refine pl_nil ?_
      obtain rfl := some_inj h6
      refine then_n ?_
      exact ⟨false, rfl, hf.keep ⟨rfl, trivial⟩, hM.pick [] rfl⟩
  · rintro a w15 ⟨t3, rfl, hf, hM⟩
    try dsimp only at h
    refine wp_ret ?_
    obtain rfl := some_inj h
    exact leave1 hf rfl rfl ⟨rfl, hM.fin⟩

set_option maxRecDepth 100000 in
set_option maxHeartbeats 4000000 in
theorem r_impl_ValidAction (C : Cx) (a1 : Action) (hp2 : R64 a1.Kind) (hp3 : R64 a1.Play.Row) (hp4 : R64 a1.Play.Col) (hp5 : a1.Play.Word.length ≤ maxLen) (hp6 : a1.Tiles.length ≤ maxLen) (hp7 : R64 a1.Seconds) (r : Bool) (h : m_impl_ValidAction a1 = some r) :
    Calls Tryd.prog 33 #[.agg #[vI (a1.Kind), vI (a1.Play.Row), vI (a1.Play.Col), .bool (a1.Play.Down), vS (a1.Play.Word), vS (a1.Tiles), vI (a1.Seconds)]] C.w0 fun e w => e = .returned (.bool (r)) ∧ Mem C w [] [] := by
  have hM := Mem.begin C [] trivial
  refine enter Tryd.func33 rfl Tryd.ntmps33 rfl fun a hf => ?_
  unfold m_impl_ValidAction at h
  refine wp_seq ?_
  refine region_pl ?_
  refine pl_l hf rfl rfl rfl (w_box hf hM (cs := [vI (a1.Kind), vI (a1.Play.Row), vI (a1.Play.Col), .bool (a1.Play.Down), vS (a1.Play.Word), vS (a1.Tiles), vI (a1.Seconds)]) rfl rfl fun b8 w9 hx10 hM a hf => ?_)
  refine q_ hf rfl rfl rfl (e_assign hf rfl) fun a hf => ?_
  refine pl_nil ?_
  refine then_n ?_
  refine wp_seq ?_
  refine wp_seq ?_
  refine region_pl ?_
  refine q_ hf rfl rfl rfl (e_field hf rfl Tryd.underlying38 rfl Tryd.sizeOf2 (o' := 6) rfl) fun a hf => ?_
  refine q_ hf rfl rfl rfl (e_load1 hf rfl Tryd.isAgg2 (hM.boxCell (k := 0) rfl rfl)) fun a hf => ?_
  obtain ⟨y12, hz13, h⟩ := bind_some h
  refine pl_l hf rfl rfl rfl (w_call hf Tryd.call39 rfl (r_impl_within ⟨_, Sh C _ _, none_, hM.sh_lt, none_not, C.G, hM.g_lt, g_none, hM.tabs⟩ a1.Seconds hp7 0 (R64_lit rfl) 36000 (R64_lit rfl) _ hz13) ?_)
  rintro _ w14 ⟨rfl, hM2⟩
  obtain ⟨hM, hx15, hup16⟩ := hM.back hM2
  dsimp only [List.cons_append, List.nil_append] at hM hup16
  clear hM2
  refine ⟨_, rfl, fun a hf => ?_⟩
  refine q_ hf rfl rfl rfl (e_not hf rfl) fun a hf => ?_
  refine pl_nil ?_
  refine then_n ?_
  rcases cond_some h with ⟨hc17, h⟩ | ⟨hc17, h⟩
  · refine cond_t hf rfl hc17 ?_
    refine wp_seq ?_
    refine region_pl ?_
    refine q_ hf rfl rfl rfl (e_assign hf rfl) fun a hf => ?_
    refine pl_nil ?_
    refine then_n ?_
    refine wp_ret ?_
    refine then_r ?_
    obtain rfl := some_inj h
    have hM := hM.outs (own' := []) 0 rfl
    exact leave1 hf rfl rfl ⟨rfl, hM.fin⟩
  · refine cond_f hf rfl hc17 ?_
    refine wp_skip ?_
    refine then_n ?_
    refine wp_seq ?_
    refine wp_seq ?_
    refine region_pl ?_
    refine q_ hf rfl rfl rfl (e_field hf rfl Tryd.underlying38 rfl Tryd.sizeOf2 (o' := 0) rfl) fun a hf => ?_
    refine q_ hf rfl rfl rfl (e_load1 hf rfl Tryd.isAgg2 (hM.boxCell (k := 0) rfl rfl)) fun a hf => ?_
    refine pl_nil ?_
    refine then_n ?_
    refine wp_block ?_
    refine wp_seq ?_
    refine region_pl ?_
    refine q_ hf rfl rfl rfl (e_eq hf (x := a1.Kind) (y := 1) rfl rfl) fun a hf => ?_
    refine q_ hf rfl rfl rfl (e_assign hf rfl) fun a hf => ?_
    refine pl_nil ?_
    refine then_n ?_
    rcases cond_some h with ⟨hc18, h⟩ | ⟨hc18, h⟩
    · refine cond_t hf rfl hc18 ?_
      obtain ⟨x21, h22, h⟩ := bind_some h
      refine seq_join (fun a w => ∃ (t19 : Bool), t19 = x21 ∧ Has 48 a [(2, .bool (t19))] ∧ Mem C w [.box b8 [vI (a1.Kind), vI (a1.Play.Row), vI (a1.Play.Col), .bool (a1.Play.Down), vS (a1.Play.Word), vS (a1.Tiles), vI (a1.Seconds)] 38] []) ?_ ?_
      · refine region_pl ?_
        refine q_ hf rfl rfl rfl (e_field hf rfl Tryd.underlying38 rfl Tryd.sizeOf28 (o' := 1) rfl) fun a hf => ?_
        refine q_ hf rfl rfl rfl (e_loadA hf (us := [vI (a1.Play.Row), vI (a1.Play.Col), .bool (a1.Play.Down), vS (a1.Play.Word)]) rfl ⟨Tryd.isAgg28, Tryd.sizeOf28⟩ rfl (hM.boxSub (k := 0) (us := [vI (a1.Play.Row), vI (a1.Play.Col), .bool (a1.Play.Down), vS (a1.Play.Word)]) (o := 1) rfl rfl)) fun a hf => ?_
        obtain ⟨y23, hz24, h22⟩ := bind_some h22
        refine pl_l hf rfl rfl rfl (w_call hf Tryd.call28 rfl (r_impl_PlayText ⟨_, Sh C _ _, none_, hM.sh_lt, none_not, C.G, hM.g_lt, g_none, hM.tabs⟩ a1.Play hp3 hp4 hp5 _ hz24) ?_)
        rintro _ w26 ⟨rfl, hM2, hv25⟩
        obtain ⟨hM, hx27, hup28⟩ := hM.back hM2
        dsimp only [List.cons_append, List.nil_append] at hM hup28
        clear hM2
        refine ⟨_, rfl, fun a hf => ?_⟩
        refine q_ hf rfl rfl rfl (e_neS hf (x := y23) (y := ([] : Str)) rfl rfl) fun a hf => ?_
        refine q_ hf rfl rfl rfl (e_move hf rfl) fun a hf => ?_
        rcases cond_some h22 with ⟨hc29, h22⟩ | ⟨hc29, h22⟩
        · refine gq (wanted_t hf rfl rfl rfl rfl hc29) hf rfl rfl (e_field hf rfl Tryd.underlying38 rfl Tryd.sizeOf9 (o' := 5) rfl) fun a hf => ?_
          refine gq (wanted_t hf rfl rfl rfl rfl hc29) hf rfl rfl (e_load1 hf rfl Tryd.isAgg9 (hM.boxCell (k := 0) rfl rfl)) fun a hf => ?_
          refine gq (wanted_t hf rfl rfl rfl rfl hc29) hf rfl rfl (e_eqS hf (x := a1.Tiles) (y := ([] : Str)) rfl rfl) fun a hf => ?_
          refine q_ hf rfl rfl rfl (e_pick_t hf rfl hc29 rfl) fun a hf => ?_
          refine q_ hf rfl rfl rfl (e_assign hf rfl) fun a hf => ?_
          refine pl_nil ?_
          obtain rfl := some_inj h22
          refine then_n ?_
          exact ⟨(a1.Tiles == ([] : Str)), rfl, hf.keep ⟨rfl, trivial⟩, hM.pick [] rfl⟩
        · refine pl_gs (wanted_f hf rfl rfl rfl rfl hc29) hf rfl rfl fun a hf => ?_
          refine pl_gs (wanted_f hf rfl rfl rfl rfl hc29) hf rfl rfl fun a hf => ?_
          refine pl_gs (wanted_f hf rfl rfl rfl rfl hc29) hf rfl rfl fun a hf => ?_
          refine q_ hf rfl rfl rfl (e_pick_f hf rfl hc29 rfl) fun a hf => ?_
          refine q_ hf rfl rfl rfl (e_assign hf rfl) fun a hf => ?_
          refine pl_nil ?_
          obtain rfl := some_inj h22
          refine then_n ?_
          exact ⟨false, rfl, hf.keep ⟨rfl, trivial⟩, hM.pick [] rfl⟩
      · rintro a w32 ⟨t19, rfl, hf, hM⟩
        try dsimp only at h
        refine wp_ret ?_
        refine blk_r ?_
        refine then_r ?_
        obtain rfl := some_inj h
        have hM := hM.outs (own' := []) 0 rfl
        exact leave1 hf rfl rfl ⟨rfl, hM.fin⟩
    · refine cond_f hf rfl hc18 ?_
      refine wp_seq ?_
      refine region_pl ?_
      refine q_ hf rfl rfl rfl (e_eq hf (x := a1.Kind) (y := 2) rfl rfl) fun a hf => ?_
      refine q_ hf rfl rfl rfl (e_assign hf rfl) fun a hf => ?_
      refine pl_nil ?_
      refine then_n ?_
      rcases cond_some h with ⟨hc33, h⟩ | ⟨hc33, h⟩
      · refine cond_t hf rfl hc33 ?_
        obtain ⟨x36, h37, h⟩ := bind_some h
        refine seq_join (fun a w => ∃ (t34 : Bool), t34 = x36 ∧ Has 48 a [(2, .bool (t34))] ∧ Mem C w [.box b8 [vI (a1.Kind), vI (a1.Play.Row), vI (a1.Play.Col), .bool (a1.Play.Down), vS (a1.Play.Word), vS (a1.Tiles), vI (a1.Seconds)] 38] []) ?_ ?_
        · refine region_pl ?_
          refine q_ hf rfl rfl rfl (e_field hf rfl Tryd.underlying38 rfl Tryd.sizeOf28 (o' := 1) rfl) fun a hf => ?_
          refine q_ hf rfl rfl rfl (e_loadA hf (us := [vI (a1.Play.Row), vI (a1.Play.Col), .bool (a1.Play.Down), vS (a1.Play.Word)]) rfl ⟨Tryd.isAgg28, Tryd.sizeOf28⟩ rfl (hM.boxSub (k := 0) (us := [vI (a1.Play.Row), vI (a1.Play.Col), .bool (a1.Play.Down), vS (a1.Play.Word)]) (o := 1) rfl rfl)) fun a hf => ?_
          refine q_ hf rfl rfl rfl (e_build hf Tryd.zeroValue28 Tryd.underlying28 (bp_28 _ Tryd.underlying28.symm) rfl (cs := #[vI (0), vI (0), .bool (false), vS (([] : Str))]) (by kernel_rfl)) fun a hf => ?_
          refine q_ hf rfl rfl rfl (Play_eql hf (x := a1.Play) (y := (⟨0, 0, false, ([] : Str)⟩ : Play)) rfl rfl) fun a hf => ?_
          refine q_ hf rfl rfl rfl (e_move hf rfl) fun a hf => ?_
          rcases cond_some h37 with ⟨hc38, h37⟩ | ⟨hc38, h37⟩
          · refine gq (wanted_t hf rfl rfl rfl rfl hc38) hf rfl rfl (e_field hf rfl Tryd.underlying38 rfl Tryd.sizeOf9 (o' := 5) rfl) fun a hf => ?_
            refine gq (wanted_t hf rfl rfl rfl rfl hc38) hf rfl rfl (e_load1 hf rfl Tryd.isAgg9 (hM.boxCell (k := 0) rfl rfl)) fun a hf => ?_
            refine gq (wanted_t hf rfl rfl rfl rfl hc38) hf rfl rfl (e_neS hf (x := a1.Tiles) (y := ([] : Str)) rfl rfl) fun a hf => ?_
            refine q_ hf rfl rfl rfl (e_pick_t hf rfl hc38 rfl) fun a hf => ?_
            refine q_ hf rfl rfl rfl (e_move hf rfl) fun a hf => ?_
            rcases cond_some h37 with ⟨hc39, h37⟩ | ⟨hc39, h37⟩
            · refine gq (wanted_t hf rfl rfl rfl rfl hc39) hf rfl rfl (e_field hf rfl Tryd.underlying38 rfl Tryd.sizeOf9 (o' := 5) rfl) fun a hf => ?_
              refine gq (wanted_t hf rfl rfl rfl rfl hc39) hf rfl rfl (e_load1 hf rfl Tryd.isAgg9 (hM.boxCell (k := 0) rfl rfl)) fun a hf => ?_
              obtain ⟨y40, hz41, h37⟩ := bind_some h37
              refine pl_gl (wanted_t hf rfl rfl rfl rfl hc39) hf rfl rfl (w_call hf Tryd.call29 rfl (r_impl_ValidRack ⟨_, Sh C _ _, none_, hM.sh_lt, none_not, C.G, hM.g_lt, g_none, hM.tabs⟩ a1.Tiles hp6 _ hz41) ?_)
              rintro _ w42 ⟨rfl, hM2⟩
              obtain ⟨hM, hx43, hup44⟩ := hM.back hM2
              dsimp only [List.cons_append, List.nil_append] at hM hup44
              clear hM2
              refine ⟨_, rfl, fun a hf => ?_⟩
              refine q_ hf rfl rfl rfl (e_pick_t hf rfl hc39 rfl) fun a hf => ?_
              refine q_ hf rfl rfl rfl (e_assign hf rfl) fun a hf => ?_
              refine pl_nil ?_
              obtain rfl := some_inj h37
              refine then_n ?_
              exact ⟨y40, rfl, hf.keep ⟨rfl, trivial⟩, hM.pick [] rfl⟩
            · refine pl_gs (wanted_f hf rfl rfl rfl rfl hc39) hf rfl rfl fun a hf => ?_
              refine pl_gs (wanted_f hf rfl rfl rfl rfl hc39) hf rfl rfl fun a hf => ?_
              refine pl_gs (wanted_f hf rfl rfl rfl rfl hc39) hf rfl rfl fun a hf => ?_
              refine q_ hf rfl rfl rfl (e_pick_f hf rfl hc39 rfl) fun a hf => ?_
              refine q_ hf rfl rfl rfl (e_assign hf rfl) fun a hf => ?_
              refine pl_nil ?_
              obtain rfl := some_inj h37
              refine then_n ?_
              exact ⟨false, rfl, hf.keep ⟨rfl, trivial⟩, hM.pick [] rfl⟩
          · refine pl_gs (wanted_f hf rfl rfl rfl rfl hc38) hf rfl rfl fun a hf => ?_
            refine pl_gs (wanted_f hf rfl rfl rfl rfl hc38) hf rfl rfl fun a hf => ?_
            refine pl_gs (wanted_f hf rfl rfl rfl rfl hc38) hf rfl rfl fun a hf => ?_
            refine q_ hf rfl rfl rfl (e_pick_f hf rfl hc38 rfl) fun a hf => ?_
            refine q_ hf rfl rfl rfl (e_move hf rfl) fun a hf => ?_
            refine pl_gs (wanted_f hf rfl rfl rfl rfl rfl) hf rfl rfl fun a hf => ?_
            refine pl_gs (wanted_f hf rfl rfl rfl rfl rfl) hf rfl rfl fun a hf => ?_
            refine pl_gs (wanted_f hf rfl rfl rfl rfl rfl) hf rfl rfl fun a hf => ?_
            refine q_ hf rfl rfl rfl (e_pick_f hf rfl rfl rfl) fun a hf => ?_
            refine q_ hf rfl rfl rfl (e_assign hf rfl) fun a hf => ?_
            refine pl_nil ?_
            obtain rfl := some_inj h37
            refine then_n ?_
            exact ⟨false, rfl, hf.keep ⟨rfl, trivial⟩, hM.pick [] rfl⟩
        · rintro a w48 ⟨t34, rfl, hf, hM⟩
          try dsimp only at h
          refine wp_ret ?_
          refine blk_r ?_
          refine then_r ?_
          obtain rfl := some_inj h
          have hM := hM.outs (own' := []) 0 rfl
          exact leave1 hf rfl rfl ⟨rfl, hM.fin⟩
      · refine cond_f hf rfl hc33 ?_
        obtain ⟨x51, h52, h⟩ := bind_some h
        refine seq_join (fun a w => ∃ (t49 : Bool), t49 = x51 ∧ Has 48 a [(1, vP b8 (0)), (36, .bool (t49))] ∧ Mem C w [.box b8 [vI (a1.Kind), vI (a1.Play.Row), vI (a1.Play.Col), .bool (a1.Play.Down), vS (a1.Play.Word), vS (a1.Tiles), vI (a1.Seconds)] 38] []) ?_ ?_
        · refine wp_seq ?_
          refine region_pl ?_
          refine q_ hf rfl rfl rfl (e_eq hf (x := a1.Kind) (y := 3) rfl rfl) fun a hf => ?_
          refine q_ hf rfl rfl rfl (e_assign hf rfl) fun a hf => ?_
          refine pl_nil ?_
          refine then_n ?_
          rcases cond_some h52 with ⟨hc53, h52⟩ | ⟨hc53, h52⟩
          · refine cond_t hf rfl hc53 ?_
            refine wp_skip ?_
            obtain rfl := some_inj h52
            refine then_n ?_
            exact ⟨(a1.Kind == 3), rfl, hf.keep ⟨rfl, rfl, trivial⟩, hM.pick [] rfl⟩
          · refine cond_f hf rfl hc53 ?_
            refine region_pl ?_
            refine q_ hf rfl rfl rfl (e_eq hf (x := a1.Kind) (y := 4) rfl rfl) fun a hf => ?_
            refine q_ hf rfl rfl rfl (e_assign hf rfl) fun a hf => ?_
            refine pl_nil ?_
            obtain rfl := some_inj h52
            refine then_n ?_
            exact ⟨(a1.Kind == 4), rfl, hf.keep ⟨rfl, rfl, trivial⟩, hM.pick [] rfl⟩
        · rintro a w56 ⟨t49, rfl, hf, hM⟩
          try dsimp only at h
          rcases cond_some h with ⟨hc57, h⟩ | ⟨hc57, h⟩
          · refine cond_t hf rfl hc57 ?_
            obtain ⟨x60, h61, h⟩ := bind_some h
            refine seq_join (fun a w => ∃ (t58 : Bool), t58 = x60 ∧ Has 48 a [(2, .bool (t58))] ∧ Mem C w [.box b8 [vI (a1.Kind), vI (a1.Play.Row), vI (a1.Play.Col), .bool (a1.Play.Down), vS (a1.Play.Word), vS (a1.Tiles), vI (a1.Seconds)] 38] []) ?_ ?_
            · refine region_pl ?_
              refine q_ hf rfl rfl rfl (e_field hf rfl Tryd.underlying38 rfl Tryd.sizeOf28 (o' := 1) rfl) fun a hf => ?_
              refine q_ hf rfl rfl rfl (e_loadA hf (us := [vI (a1.Play.Row), vI (a1.Play.Col), .bool (a1.Play.Down), vS (a1.Play.Word)]) rfl ⟨Tryd.isAgg28, Tryd.sizeOf28⟩ rfl (hM.boxSub (k := 0) (us := [vI (a1.Play.Row), vI (a1.Play.Col), .bool (a1.Play.Down), vS (a1.Play.Word)]) (o := 1) rfl rfl)) fun a hf => ?_
              refine q_ hf rfl rfl rfl (e_build hf Tryd.zeroValue28 Tryd.underlying28 (bp_28 _ Tryd.underlying28.symm) rfl (cs := #[vI (0), vI (0), .bool (false), vS (([] : Str))]) (by kernel_rfl)) fun a hf => ?_
              refine q_ hf rfl rfl rfl (Play_eql hf (x := a1.Play) (y := (⟨0, 0, false, ([] : Str)⟩ : Play)) rfl rfl) fun a hf => ?_
              refine q_ hf rfl rfl rfl (e_move hf rfl) fun a hf => ?_
              rcases cond_some h61 with ⟨hc62, h61⟩ | ⟨hc62, h61⟩
              · refine gq (wanted_t hf rfl rfl rfl rfl hc62) hf rfl rfl (e_field hf rfl Tryd.underlying38 rfl Tryd.sizeOf9 (o' := 5) rfl) fun a hf => ?_
                refine gq (wanted_t hf rfl rfl rfl rfl hc62) hf rfl rfl (e_load1 hf rfl Tryd.isAgg9 (hM.boxCell (k := 0) rfl rfl)) fun a hf => ?_
                refine gq (wanted_t hf rfl rfl rfl rfl hc62) hf rfl rfl (e_eqS hf (x := a1.Tiles) (y := ([] : Str)) rfl rfl) fun a hf => ?_
                refine q_ hf rfl rfl rfl (e_pick_t hf rfl hc62 rfl) fun a hf => ?_
                refine q_ hf rfl rfl rfl (e_assign hf rfl) fun a hf => ?_
                refine pl_nil ?_
                obtain rfl := some_inj h61
                refine then_n ?_
                exact ⟨(a1.Tiles == ([] : Str)), rfl, hf.keep ⟨rfl, trivial⟩, hM.pick [] rfl⟩
              · refine pl_gs (wanted_f hf rfl rfl rfl rfl hc62) hf rfl rfl fun a hf => ?_
                refine pl_gs (wanted_f hf rfl rfl rfl rfl hc62) hf rfl rfl fun a hf => ?_
                refine pl_gs (wanted_f hf rfl rfl rfl rfl hc62) hf rfl rfl fun a hf => ?_
                refine q_ hf rfl rfl rfl (e_pick_f hf rfl hc62 rfl) fun a hf => ?_
                refine q_ hf rfl rfl rfl (e_assign hf rfl) fun a hf => ?_
                refine pl_nil ?_
                obtain rfl := some_inj h61
                refine then_n ?_
                exact ⟨false, rfl, hf.keep ⟨rfl, trivial⟩, hM.pick [] rfl⟩
            · rintro a w65 ⟨t58, rfl, hf, hM⟩
              try dsimp only at h
              refine wp_ret ?_
              refine blk_r ?_
              refine then_r ?_
              obtain rfl := some_inj h
              have hM := hM.outs (own' := []) 0 rfl
              exact leave1 hf rfl rfl ⟨rfl, hM.fin⟩
          · refine cond_f hf rfl hc57 ?_
            refine wp_skip ?_
            refine blk_n ?_
            refine then_n ?_
            refine wp_seq ?_
            refine region_pl ?_
            refine q_ hf rfl rfl rfl (e_assign hf rfl) fun a hf => ?_
            refine pl_nil ?_
            refine then_n ?_
            refine wp_ret ?_
            obtain rfl := some_inj h
            have hM := hM.outs (own' := []) 0 rfl
            exact leave1 hf rfl rfl ⟨rfl, hM.fin⟩

set_option maxRecDepth 100000 in
set_option maxHeartbeats 4000000 in
theorem r_impl_ValidRecord (C : Cx) (r1 : Record) (hp2 : R64 r1.Seed) (A3 : Option Addr) (c4 : Nat) (hp5 : (sliceRep ActionRep).R C.w0 C.S0 r1.Actions [vL A3 r1.Actions c4]) (r : Bool) (h : m_impl_ValidRecord r1 = some r) :
    Calls Tryd.prog 18 #[.agg #[vI (r1.Seed), vL A3 (r1.Actions) c4]] C.w0 fun e w => e = .returned (.bool (r)) ∧ Mem C w [] [] := by
  have hM := Mem.begin C [.dat (sliceRep ActionRep) r1.Actions [vL A3 r1.Actions c4]] ⟨hp5, trivial⟩
  refine enter Tryd.func18 rfl Tryd.ntmps18 rfl fun a hf => ?_
  unfold m_impl_ValidRecord at h
  refine wp_seq ?_
  refine region_pl ?_
  refine pl_l hf rfl rfl rfl (w_box hf hM (cs := [vI (r1.Seed), vL A3 (r1.Actions) c4]) rfl rfl fun b6 w7 hx8 hM a hf => ?_)
  refine q_ hf rfl rfl rfl (e_assign hf rfl) fun a hf => ?_
  refine pl_nil ?_
  refine then_n ?_
  refine wp_seq ?_
  obtain ⟨x12, h13, h⟩ := bind_some h
  refine seq_join (fun a w => ∃ (t10 : Bool), t10 = x12 ∧ Has 26 a [(1, vP b6 (0)), (14, .bool (t10))] ∧ Mem C w [.box b6 [vI (r1.Seed), vL A3 (r1.Actions) c4] 48] [.dat (sliceRep ActionRep) r1.Actions [vL A3 r1.Actions c4]]) ?_ ?_
  · refine region_pl ?_
    refine q_ hf rfl rfl rfl (e_field hf rfl Tryd.underlying48 rfl Tryd.sizeOf2 (o' := 0) rfl) fun a hf => ?_
    refine q_ hf rfl rfl rfl (e_load1 hf rfl Tryd.isAgg2 (hM.boxCell (k := 0) rfl rfl)) fun a hf => ?_
    obtain ⟨y14, hz15, h13⟩ := bind_some h13
    refine pl_l hf rfl rfl rfl (w_call hf Tryd.call39 rfl (r_impl_within ⟨_, Sh C _ _, none_, hM.sh_lt, none_not, C.G, hM.g_lt, g_none, hM.tabs⟩ r1.Seed hp2 0 (R64_lit rfl) 2147483647 (R64_lit rfl) _ hz15) ?_)
    rintro _ w16 ⟨rfl, hM2⟩
    obtain ⟨hM, hx17, hup18⟩ := hM.back hM2
    dsimp only [List.cons_append, List.nil_append] at hM hup18
    clear hM2
    refine ⟨_, rfl, fun a hf => ?_⟩
    refine q_ hf rfl rfl rfl (e_not hf rfl) fun a hf => ?_
    refine q_ hf rfl rfl rfl (e_move hf rfl) fun a hf => ?_
    rcases cond_some h13 with ⟨hc19, h13⟩ | ⟨hc19, h13⟩
    · refine pl_gs (wanted_f hf rfl rfl rfl rfl hc19) hf rfl rfl fun a hf => ?_
      refine pl_gs (wanted_f hf rfl rfl rfl rfl hc19) hf rfl rfl fun a hf => ?_
      refine pl_gs (wanted_f hf rfl rfl rfl rfl hc19) hf rfl rfl fun a hf => ?_
      refine pl_gs (wanted_f hf rfl rfl rfl rfl hc19) hf rfl rfl fun a hf => ?_
      refine q_ hf rfl rfl rfl (e_pick_t hf rfl hc19 rfl) fun a hf => ?_
      refine pl_nil ?_
      obtain rfl := some_inj h13
      refine then_n ?_
      exact ⟨true, rfl, hf.keep ⟨rfl, rfl, trivial⟩, hM.pick [0] rfl⟩
    · refine gq (wanted_t hf rfl rfl rfl rfl hc19) hf rfl rfl (e_field hf rfl Tryd.underlying48 rfl Tryd.sizeOf46 (o' := 1) rfl) fun a hf => ?_
      refine gq (wanted_t hf rfl rfl rfl rfl hc19) hf rfl rfl (e_load1 hf rfl Tryd.isAgg46 (hM.boxCell (k := 0) rfl rfl)) fun a hf => ?_
      have hl21 := slice_len (hM.dat (k := 0) rfl)
      refine gq (wanted_t hf rfl rfl rfl rfl hc19) hf rfl rfl (e_lenL hf (x := r1.Actions) rfl Tryd.underlying46) fun a hf => ?_
      refine gq (wanted_t hf rfl rfl rfl rfl hc19) hf rfl rfl (e_gt hf (x := (r1.Actions.length : Int)) (y := 200) rfl rfl) fun a hf => ?_
      refine q_ hf rfl rfl rfl (e_pick_f hf rfl hc19 rfl) fun a hf => ?_
      refine pl_nil ?_
      obtain rfl := some_inj h13
      refine then_n ?_
      exact ⟨(decide (200 < (r1.Actions.length : Int))), rfl, hf.keep ⟨rfl, rfl, trivial⟩, hM.pick [0] rfl⟩
  · rintro a w23 ⟨t10, rfl, hf, hM⟩
    try dsimp only at h
    rcases cond_some h with ⟨hc24, h⟩ | ⟨hc24, h⟩
    · refine cond_t hf rfl hc24 ?_
      refine wp_seq ?_
      refine region_pl ?_
      refine q_ hf rfl rfl rfl (e_assign hf rfl) fun a hf => ?_
      refine pl_nil ?_
      refine then_n ?_
      refine wp_ret ?_
      refine then_r ?_
      obtain rfl := some_inj h
      have hM := hM.outs (own' := []) 0 rfl
      exact leave1 hf rfl rfl ⟨rfl, hM.fin⟩
    · refine cond_f hf rfl hc24 ?_
      refine wp_skip ?_
      refine then_n ?_
      obtain ⟨x25, h26, h⟩ := bind_some h
      refine seq_join (fun a w => (.inl ()) = x25 ∧ Has 26 a [] ∧ Mem C w [.box b6 [vI (r1.Seed), vL A3 (r1.Actions) c4] 48] [.dat (sliceRep ActionRep) r1.Actions [vL A3 r1.Actions c4]]) ?_ ?_
      · refine wp_seq ?_
        refine region_pl ?_
        refine q_ hf rfl rfl rfl (e_field hf rfl Tryd.underlying48 rfl Tryd.sizeOf46 (o' := 1) rfl) fun a hf => ?_
        refine q_ hf rfl rfl rfl (e_load1 hf rfl Tryd.isAgg46 (hM.boxCell (k := 0) rfl rfl)) fun a hf => ?_
        have hl27 := slice_len (hM.dat (k := 0) rfl)
        refine q_ hf rfl rfl rfl (e_lenL hf (x := r1.Actions) rfl Tryd.underlying46) fun a hf => ?_
        refine q_ hf rfl rfl rfl (e_move hf rfl) fun a hf => ?_
        refine pl_nil ?_
        refine then_n ?_
        refine wp_block ?_
        obtain ⟨x31, h32, h26⟩ := bind_some h26
        refine wp_loopM h32 (fun s a w => ∃ (n28 : Int), n28 = s ∧ Has 26 a [(16, vL A3 (r1.Actions) c4), (17, vI ((r1.Actions.length : Int))), (18, vI (n28))] ∧ Mem C w [.box b6 [vI (r1.Seed), vL A3 (r1.Actions) c4] 48] [.dat (sliceRep ActionRep) r1.Actions [vL A3 r1.Actions c4]] ∧ R64 n28) ?_ ?_
        · exact ⟨0, rfl, hf.keep ⟨rfl, rfl, rfl, trivial⟩, hM.pick [0] rfl, (R64_lit rfl)⟩
        · rintro s o33 a w30 ⟨n28, rfl, hf, hM, hv29⟩ h34 hd35
          replace h34 : m_impl_ValidRecord_l1 r1 n28 = some o33 := h34
          unfold m_impl_ValidRecord_l1 at h34
          refine wp_seq ?_
          refine region_pl ?_
          refine q_ hf rfl rfl rfl (e_lt hf (x := n28) (y := (r1.Actions.length : Int)) rfl rfl) fun a hf => ?_
          refine pl_nil ?_
          refine then_n ?_
          refine wp_seq ?_
          rcases cond_some h34 with ⟨hc36, h34⟩ | ⟨hc36, h34⟩
          · refine cond_t hf rfl hc36 ?_
            refine wp_skip ?_
            refine then_n ?_
            refine wp_seq ?_
            refine wp_block ?_
            refine wp_seq ?_
            refine region_pl ?_
            obtain ⟨e37, hz38, h34⟩ := bind_some h34
            obtain ⟨b42, o43, _, hA44, h39, h40, hr41, hM⟩ := hM.elem (hM.dat (k := 0) rfl) (n := 7) rfl hz38
            obtain ⟨rfl, hv45, hv46, hv47, hv48, hv49, hv50⟩ := ActionRep_open hr41
            refine q_ hf rfl rfl rfl (e_indexAddr (A := A3) (b := b42) (o := o43) (xs := r1.Actions) (i := n28) hf hA44 rfl rfl Tryd.underlying46 Tryd.sizeOf38 h39 h40) fun a hf => ?_
            refine q_ hf rfl rfl rfl (e_loadA hf (us := [vI (e37.Kind), vI (e37.Play.Row), vI (e37.Play.Col), .bool (e37.Play.Down), vS (e37.Play.Word), vS (e37.Tiles), vI (e37.Seconds)]) rfl ⟨Tryd.isAgg38, Tryd.sizeOf38⟩ rfl (hM.litSub (k := 0) (d := 0) (us := [vI (e37.Kind), vI (e37.Play.Row), vI (e37.Play.Col), .bool (e37.Play.Down), vS (e37.Play.Word), vS (e37.Tiles), vI (e37.Seconds)]) rfl rfl rfl)) fun a hf => ?_
            refine pl_l hf rfl rfl rfl (w_alloc hM (cs := [vI (0), vI (0), vI (0), .bool (false), vS (([] : Str)), vS (([] : Str)), vI (0)]) Tryd.zeroValue38 rfl fun b51 w52 hx53 hM a hf => ?_)
            refine pl_0 hf rfl rfl (w_store hf hM (us := [vI (e37.Kind), vI (e37.Play.Row), vI (e37.Play.Col), .bool (e37.Play.Down), vS (e37.Play.Word), vS (e37.Tiles), vI (e37.Seconds)]) (cs' := [vI (e37.Kind), vI (e37.Play.Row), vI (e37.Play.Col), .bool (e37.Play.Down), vS (e37.Play.Word), vS (e37.Tiles), vI (e37.Seconds)]) rfl rfl (k := 0) rfl rfl Tryd.sizeOf38 rfl rfl rfl fun w55 hM => ?_)
            dsimp only [List.set] at hM
            refine pl_nil ?_
            refine then_n ?_
            refine wp_seq ?_
            refine region_pl ?_
            refine q_ hf rfl rfl rfl (e_loadA hf (us := [vI (e37.Kind), vI (e37.Play.Row), vI (e37.Play.Col), .bool (e37.Play.Down), vS (e37.Play.Word), vS (e37.Tiles), vI (e37.Seconds)]) rfl ⟨Tryd.isAgg38, Tryd.sizeOf38⟩ rfl (hM.boxSub (k := 0) (us := [vI (e37.Kind), vI (e37.Play.Row), vI (e37.Play.Col), .bool (e37.Play.Down), vS (e37.Play.Word), vS (e37.Tiles), vI (e37.Seconds)]) (o := 0) rfl rfl)) fun a hf => ?_
            obtain ⟨y58, hz59, h34⟩ := bind_some h34
            refine pl_l hf rfl rfl rfl (w_call hf Tryd.call33 rfl (r_impl_ValidAction ⟨_, Sh C _ _, none_, hM.sh_lt, none_not, C.G, hM.g_lt, g_none, hM.tabs⟩ e37 hv45 hv46 hv47 hv48 hv49 hv50 _ hz59) ?_)
            rintro _ w60 ⟨rfl, hM2⟩
            obtain ⟨hM, hx61, hup62⟩ := hM.back hM2
            dsimp only [List.cons_append, List.nil_append] at hM hup62
            clear hM2
            refine ⟨_, rfl, fun a hf => ?_⟩
            refine q_ hf rfl rfl rfl (e_not hf rfl) fun a hf => ?_
            refine pl_nil ?_
            refine then_n ?_
            rcases cond_some h34 with ⟨hc63, h34⟩ | ⟨hc63, h34⟩
            · refine cond_t hf rfl hc63 ?_
              refine wp_seq ?_
              refine region_pl ?_
              refine q_ hf rfl rfl rfl (e_assign hf rfl) fun a hf => ?_
              refine pl_nil ?_
              refine then_n ?_
              refine wp_ret ?_
              refine blk_r ?_
              refine then_r ?_
              obtain rfl := some_inj h34
              obtain rfl := hd35 _ rfl
              try dsimp only at h26
              refine then_r ?_
              refine blk_r ?_
              obtain rfl := some_inj h26
              try dsimp only at h
              refine then_r ?_
              obtain rfl := some_inj h
              have hM := hM.outs (own' := []) 0 rfl
              exact leave1 hf rfl rfl ⟨rfl, hM.fin⟩
            · refine cond_f hf rfl hc63 ?_
              refine wp_skip ?_
              refine blk_n ?_
              refine then_n ?_
              refine region_pl ?_
              obtain ⟨z64, hz65, h34⟩ := bind_some h34
              refine q_ hf rfl rfl rfl (e_add hf rfl rfl hz65) fun a hf => ?_
              refine q_ hf rfl rfl rfl (e_move hf rfl) fun a hf => ?_
              refine pl_nil ?_
              obtain rfl := some_inj h34
              refine then_n ⟨_, rfl, ?_⟩
              exact ⟨z64, rfl, hf.keep ⟨rfl, rfl, rfl, trivial⟩, (hM.drop (.cons _ (.cons_cons _ .slnil))).pick [1] rfl, (chk_R hz65)⟩
          · refine cond_f hf rfl hc36 ?_
            refine wp_exit ?_
            refine then_x ?_
            obtain rfl := some_inj h34
            obtain rfl := hd35 _ rfl
            try dsimp only at h26
            refine then_x ?_
            refine exit_hit ?_
            obtain rfl := some_inj h26
            refine then_n ?_
            exact ⟨rfl, hf.keep trivial, hM.pick [0] rfl⟩
      · rintro a w72 ⟨rfl, hf, hM⟩
        try dsimp only at h
        refine wp_seq ?_
        refine region_pl ?_
        refine q_ hf rfl rfl rfl (e_assign hf rfl) fun a hf => ?_
        refine pl_nil ?_
        refine then_n ?_
        refine wp_ret ?_
        obtain rfl := some_inj h
        have hM := hM.outs (own' := []) 0 rfl
        exact leave1 hf rfl rfl ⟨rfl, hM.fin⟩

set_option maxRecDepth 100000 in
set_option maxHeartbeats 4000000 in
theorem r_strings_Builder_copyCheck (C : Cx) (b1 : Str) (b2 : Nat) (p3 : Value) (hp4 : AddrOk b2 p3) (A5 : Option Addr) (c6 : Nat) (hO : Mem C C.w0 [.box b2 [p3, vL A5 (b1) c6] 61, .row byteRep A5 c6 5 b1 true] []) (hd : ∀ b, C.S0 b → ¬ ownB [.box b2 [p3, vL A5 (b1) c6] 61, .row byteRep A5 c6 5 b1 true] b) (r : Str) (h : m_strings_Builder_copyCheck b1 = some r) :
    Calls Tryd.prog 45 #[vP b2 (0)] C.w0 fun e w => ∃ (p_1 : Value), ∃ (A_1 : Option Addr), ∃ (c_1 : Nat), e = .returned (.tuple #[]) ∧ Mem C w [.box b2 [p_1, vL A_1 (r) c_1] 61, .row byteRep A_1 c_1 5 r true] [] ∧ AddrOk b2 p_1 := by
  have hM := hO
  refine enter Tryd.func45 rfl Tryd.ntmps45 rfl fun a hf => ?_
  unfold m_strings_Builder_copyCheck at h
  rcases hp4 with rfl | rfl
  · refine wp_seq ?_
    refine region_pl ?_
    refine q_ hf rfl rfl rfl (e_move hf rfl) fun a hf => ?_
    refine q_ hf rfl rfl rfl (e_nil hf rfl) fun a hf => ?_
    refine q_ hf rfl rfl rfl (e_field hf rfl Tryd.underlying61 rfl Tryd.sizeOf58 (o' := 0) rfl) fun a hf => ?_
    refine q_ hf rfl rfl rfl (e_load1 hf rfl Tryd.isAgg58 (hM.boxCell (k := 0) rfl rfl)) fun a hf => ?_
    refine q_ hf rfl rfl rfl (e_eqPN hf rfl rfl Tryd.underlying58) fun a hf => ?_
    refine pl_nil ?_
    refine then_n ?_
    refine cond_t hf rfl rfl ?_
    refine region_pl ?_
    refine q_ hf rfl rfl rfl (e_move hf rfl) fun a hf => ?_
    refine q_ hf rfl rfl rfl (e_move hf rfl) fun a hf => ?_
    refine q_ hf rfl rfl rfl (e_toUnsafe hf hM (k := 0) (n := 2) rfl rfl Tryd.underlying58 Tryd.underlying89 (by kernel_rfl) rfl rfl) fun a hf => ?_
    refine q_ hf rfl rfl rfl (e_noEscape hf (f := 55) rfl Tryd.func55 rfl rfl (by kernel_rfl) (by kernel_rfl)) fun a hf => ?_
    refine q_ hf rfl rfl rfl (e_fromUnsafe hf hM (k := 0) (n := 2) rfl rfl Tryd.underlying89 Tryd.underlying58 (by kernel_rfl) (by kernel_rfl)) fun a hf => ?_
    refine q_ hf rfl rfl rfl (e_nil hf rfl) fun a hf => ?_
    refine q_ hf rfl rfl rfl (e_field hf rfl Tryd.underlying61 rfl Tryd.sizeOf58 (o' := 0) rfl) fun a hf => ?_
    refine pl_0 hf rfl rfl (w_store hf hM (us := [vP b2 0]) (cs' := [vP b2 0, vL A5 (b1) c6]) rfl rfl (k := 0) rfl rfl Tryd.sizeOf58 rfl rfl rfl fun w7 hM => ?_)
    dsimp only [List.set] at hM
    refine pl_nil ?_
    obtain rfl := some_inj h
    exact leave0n hf rfl ⟨(vP b2 0), A5, c6, rfl, hM.fin, (AddrOk.self _)⟩
  · refine wp_seq ?_
    refine region_pl ?_
    refine q_ hf rfl rfl rfl (e_move hf rfl) fun a hf => ?_
    refine q_ hf rfl rfl rfl (e_nil hf rfl) fun a hf => ?_
    refine q_ hf rfl rfl rfl (e_field hf rfl Tryd.underlying61 rfl Tryd.sizeOf58 (o' := 0) rfl) fun a hf => ?_
    refine q_ hf rfl rfl rfl (e_load1 hf rfl Tryd.isAgg58 (hM.boxCell (k := 0) rfl rfl)) fun a hf => ?_
    refine q_ hf rfl rfl rfl (e_eqPS hf rfl rfl Tryd.underlying58) fun a hf => ?_
    refine pl_nil ?_
    refine then_n ?_
    refine cond_f hf rfl rfl ?_
    refine wp_seq ?_
    refine region_pl ?_
    refine q_ hf rfl rfl rfl (e_move hf rfl) fun a hf => ?_
    refine q_ hf rfl rfl rfl (e_nil hf rfl) fun a hf => ?_
    refine q_ hf rfl rfl rfl (e_field hf rfl Tryd.underlying61 rfl Tryd.sizeOf58 (o' := 0) rfl) fun a hf => ?_
    refine q_ hf rfl rfl rfl (e_load1 hf rfl Tryd.isAgg58 (hM.boxCell (k := 0) rfl rfl)) fun a hf => ?_
    refine q_ hf rfl rfl rfl (e_move hf rfl) fun a hf => ?_
    refine q_ hf rfl rfl rfl (e_nePS hf (n := 2) rfl rfl Tryd.underlying58 (by kernel_rfl)) fun a hf => ?_
    refine pl_nil ?_
    refine then_n ?_
    refine cond_f hf rfl rfl ?_
    refine wp_skip ?_
    obtain rfl := some_inj h
    exact leave0n hf rfl ⟨(vP b2 0), A5, c6, rfl, hM.fin, (AddrOk.self _)⟩

set_option maxRecDepth 100000 in
set_option maxHeartbeats 4000000 in
theorem r_strings_Builder_WriteString (C : Cx) (b1 : Str) (b2 : Nat) (p3 : Value) (hp4 : AddrOk b2 p3) (A5 : Option Addr) (c6 : Nat) (s7 : Str) (hp8 : s7.length ≤ maxLen) (hO : Mem C C.w0 [.box b2 [p3, vL A5 (b1) c6] 61, .row byteRep A5 c6 5 b1 true] []) (hd : ∀ b, C.S0 b → ¬ ownB [.box b2 [p3, vL A5 (b1) c6] 61, .row byteRep A5 c6 5 b1 true] b) (r : (Int × Unit × Str)) (h : m_strings_Builder_WriteString b1 s7 = some r) :
    Calls Tryd.prog 26 #[vP b2 (0), vS (s7)] C.w0 fun e w => ∃ (p_1 : Value), ∃ (A_1 : Option Addr), ∃ (c_1 : Nat), e = .returned (.tuple #[vI (r.1), .nilIface]) ∧ Mem C w [.box b2 [p_1, vL A_1 (r.2.2) c_1] 61, .row byteRep A_1 c_1 5 r.2.2 true] [] ∧ AddrOk b2 p_1 ∧ R64 r.1 := by
  have hM := hO
  refine enter Tryd.func26 rfl Tryd.ntmps26 rfl fun a hf => ?_
  unfold m_strings_Builder_WriteString at h
  refine wp_seq ?_
  refine region_pl ?_
  refine q_ hf rfl rfl rfl (e_assign hf rfl) fun a hf => ?_
  refine q_ hf rfl rfl rfl (e_assign hf rfl) fun a hf => ?_
  refine pl_nil ?_
  refine then_n ?_
  refine wp_seq ?_
  refine region_pl ?_
  refine q_ hf rfl rfl rfl (e_move hf rfl) fun a hf => ?_
  have hM : Mem C _ ([.box b2 [p3, vL A5 (b1) c6] 61, .row byteRep A5 c6 5 b1 true] ++ []) _ := hM
  obtain ⟨y9, hz10, h⟩ := bind_some h
  refine pl_l hf rfl rfl rfl (w_call hf Tryd.call45 rfl (r_strings_Builder_copyCheck ⟨_, Sh C _ _, ownB _, hM.sh_lt, sub_dis, C.G, hM.g_lt, hM.g_own, hM.tabs⟩ b1 _ _ hp4 _ _ hM.sub sub_dis _ hz10) ?_)
  rintro _ w15 ⟨p11, A13, c14, rfl, hM2, hv12⟩
  obtain ⟨hM, hup17⟩ := hM.backG hM2
  dsimp only [List.cons_append, List.nil_append] at hM hup17
  clear hM2
  refine ⟨_, rfl, fun a hf => ?_⟩
  refine pl_nil ?_
  refine then_n ?_
  refine wp_seq ?_
  refine region_pl ?_
  refine q_ hf rfl rfl rfl (e_move hf rfl) fun a hf => ?_
  refine q_ hf rfl rfl rfl (e_move hf rfl) fun a hf => ?_
  refine q_ hf rfl rfl rfl (e_nil hf rfl) fun a hf => ?_
  refine q_ hf rfl rfl rfl (e_field hf rfl Tryd.underlying61 rfl Tryd.sizeOf59 (o' := 1) rfl) fun a hf => ?_
  refine q_ hf rfl rfl rfl (e_load1 hf rfl Tryd.isAgg59 (hM.boxCell (k := 0) rfl rfl)) fun a hf => ?_
  refine q_ hf rfl rfl rfl (e_move hf rfl) fun a hf => ?_
  obtain ⟨xs18, hz19, h⟩ := bind_some h
  refine pl_l hf rfl rfl rfl (w_appendS hf hM Tryd.underlying59 Tryd.underlying9 (by kernel_rfl) rfl rfl (k := 1) rfl hz19 fun A20 c21 w22 hM a hf => ?_)
  dsimp only [List.set] at hM
  refine q_ hf rfl rfl rfl (e_nil hf rfl) fun a hf => ?_
  refine q_ hf rfl rfl rfl (e_field hf rfl Tryd.underlying61 rfl Tryd.sizeOf59 (o' := 1) rfl) fun a hf => ?_
  refine pl_0 hf rfl rfl (w_store hf hM (us := [vL A20 (xs18) c21]) (cs' := [p11, vL A20 (xs18) c21]) rfl rfl (k := 0) rfl rfl Tryd.sizeOf59 rfl rfl rfl fun w23 hM => ?_)
  dsimp only [List.set] at hM
  refine pl_nil ?_
  refine then_n ?_
  refine wp_seq ?_
  refine region_pl ?_
  refine q_ hf rfl rfl rfl (e_move hf rfl) fun a hf => ?_
  refine q_ hf rfl rfl rfl (e_lenS hf (x := s7) rfl Tryd.underlying9) fun a hf => ?_
  refine q_ hf rfl rfl rfl (e_assign hf rfl) fun a hf => ?_
  refine q_ hf rfl rfl rfl (e_assign hf rfl) fun a hf => ?_
  refine pl_nil ?_
  refine then_n ?_
  refine wp_ret ?_
  obtain rfl := some_inj h
  exact leave2 hf rfl rfl rfl ⟨p11, A20, c21, rfl, hM.fin, hv12, (R64_len hp8)⟩

set_option maxRecDepth 100000 in
set_option maxHeartbeats 4000000 in
theorem r_impl_joined (C : Cx) (words1 : (List Str)) (A2 : Option Addr) (c3 : Nat) (hp4 : (sliceRep strRep).R C.w0 C.S0 words1 [vL A2 words1 c3]) (r : Str) (h : m_impl_joined words1 = some r) :
    Calls Tryd.prog 35 #[vL A2 (words1) c3] C.w0 fun e w => e = .returned (vS (r)) ∧ Mem C w [] [] ∧ r.length ≤ maxLen := by
  have hM := Mem.begin C [.dat (sliceRep strRep) words1 [vL A2 words1 c3]] ⟨hp4, trivial⟩
  refine enter Tryd.func35 rfl Tryd.ntmps35 rfl fun a hf => ?_
  unfold m_impl_joined at h
  refine wp_seq ?_
  refine region_pl ?_
  refine q_ hf rfl rfl rfl (e_assign hf rfl) fun a hf => ?_
  refine pl_nil ?_
  refine then_n ?_
  refine wp_seq ?_
  refine region_pl ?_
  refine q_ hf rfl rfl rfl (e_move hf rfl) fun a hf => ?_
  obtain ⟨y5, hz6, h⟩ := bind_some h
  refine pl_l hf rfl rfl rfl (w_call hf Tryd.call51 rfl (r_strings_Join ⟨_, Sh C _ _, none_, hM.sh_lt, none_not, C.G, hM.g_lt, g_none, hM.tabs⟩ words1 _ _ (hM.dat (k := 0) rfl) ([32] : Str) (lit_len rfl) _ hz6) ?_)
  rintro _ w8 ⟨rfl, hM2, hv7⟩
  obtain ⟨hM, hx9, hup10⟩ := hM.back hM2
  dsimp only [List.cons_append, List.nil_append] at hM hup10
  clear hM2
  refine ⟨_, rfl, fun a hf => ?_⟩
  refine q_ hf rfl rfl rfl (e_assign hf rfl) fun a hf => ?_
  refine pl_nil ?_
  refine then_n ?_
  refine wp_ret ?_
  obtain rfl := some_inj h
  exact leave1 hf rfl rfl ⟨rfl, hM.fin, hv7⟩

end Go.Proofs.YtbekokenomhgeaaDoor
