/- The functions that this law reaches do what their models say. Printed by gen.py. -/
import Derived.Test.YtbekokenomhgeaaGreatDoorMod
import Derived.Test.YtbekokenomhgeaaGreatDoorLib
namespace Go.Proofs.YtbekokenomhgeaaGreatDoor
open Go Go.RowKit
set_option linter.unusedSimpArgs false
set_option linter.unusedVariables false

set_option maxHeartbeats 1000000 in
theorem Play_equal (x y : Play) (w : World) : (Op.equalIn 10000 41 (Value.agg #[vI x.Row, vI x.Col, .bool x.Down, vS x.Word]) (Value.agg #[vI y.Row, vI y.Col, .bool y.Down, vS y.Word])).run Tryz.prog w = .ok (x == y) w := by
 have hS0 : Tryz.prog.underlying 41 = some (.struct (Tryz.prog.fieldsOf 41)) := by kernel_rfl
 have hp0 : Tryz.prog.stoodInHeld 41 = false := by kernel_rfl
 have u2 := Tryz.underlying2
 have u4 := Tryz.underlying4
 have u9 := Tryz.underlying9
 rw [show (10000 : Nat) = 9999 + 1 from rfl, run_equalIn_agg w 9999 41 _ _ hS0 hp0]
 simp only [Program.fieldsOf, Tryz.underlying41]
 go_simp
 obtain ⟨x0, x1, x2, x3⟩ := x
 obtain ⟨y0, y1, y2, y3⟩ := y
 simp only [Play.mk.injEq]
 by_cases h0 : x0 = y0 <;> by_cases h1 : x1 = y1 <;> by_cases h2 : x2 = y2 <;> by_cases h3 : x3 = y3 <;> simp [h0, h1, h2, h3]

theorem Play_eql {S : World → Prop} {N : Nat} {a : Act} {L : List (Nat × Value)} {dst : Option Tmp} {ty U : TypeId} {pos : String} {aft : Array Edge} {g : Option (Nat × Bool)} {X Y : Operand} (hf : Has N a L) {x y : Play} (hx : ev L X = some (Value.agg #[vI x.Row, vI x.Col, .bool x.Down, vS x.Word])) (hy : ev L Y = some (Value.agg #[vI y.Row, vI y.Col, .bool y.Down, vS y.Word])) : Yd Tryz.prog S a ⟨dst, .binOp .eql 41 X Y U, ty, pos, aft, g⟩ (.bool (x == y)) := by
 intro w _
 have hG : Tryz.prog.eqGuardType Tryz.prog.depth 41 = false := by kernel_rfl
 have h := Play_equal x y w
 simp only [execOp, hf.ev hx, hf.ev hy, Sem.run_bind, run_eqGuard_agg _ _ _ _ _ _ _ hG, Result.andThen_ok, run_eql_struct, h, Sem.run_pure]
 all_goals rfl

theorem ei_5 : ElemInfo Tryz.prog 5 1 := elemInfo (by kernel_rfl)

theorem ei_9 : ElemInfo Tryz.prog 9 1 := elemInfo (by kernel_rfl)

theorem ei_55 : ElemInfo Tryz.prog 55 7 := elemInfo (by kernel_rfl)

theorem bp_41 : ∀ (fs : Array Field), some (TypeDesc.struct fs) = Tryz.prog.underlying 41 → ∀ w, (fs.mapM fun (f : Field) => do pure (f.offset, ← sizeOf f.type)).run Tryz.prog w = .ok #[(0, 1), (1, 1), (2, 1), (3, 1)] w := by
 intro fs h w
 rw [Tryz.underlying41] at h
 cases h
 simp

theorem bp_55 : ∀ (fs : Array Field), some (TypeDesc.struct fs) = Tryz.prog.underlying 55 → ∀ w, (fs.mapM fun (f : Field) => do pure (f.offset, ← sizeOf f.type)).run Tryz.prog w = .ok #[(0, 1), (1, 4), (5, 1), (6, 1)] w := by
 intro fs h w
 rw [Tryz.underlying55] at h
 cases h
 simp

theorem bp_61 : ∀ (fs : Array Field), some (TypeDesc.struct fs) = Tryz.prog.underlying 61 → ∀ w, (fs.mapM fun (f : Field) => do pure (f.offset, ← sizeOf f.type)).run Tryz.prog w = .ok #[(0, 1), (1, 1)] w := by
 intro fs h w
 rw [Tryz.underlying61] at h
 cases h
 simp

set_option maxRecDepth 100000 in
set_option maxHeartbeats 4000000 in
theorem r_spec_l01Split (C : Cx) (s1 : Str) (hp2 : s1.length ≤ maxLen) (by_3 : UInt8) (r : (List Str)) (h : m_spec_l01Split s1 by_3 = some r) :
    Calls Tryz.prog 68 #[vS (s1), vB (by_3)] C.w0 fun e w => ∃ (A_1 : Option Addr), ∃ (c_1 : Nat), e = .returned (vL A_1 (r) c_1) ∧ Mem C w [.row strRep A_1 c_1 9 r true] [] := by
 have hM := Mem.begin C [] trivial
 refine enter Tryz.func68 rfl Tryz.ntmps68 rfl fun a hf => ?_
 unfold m_spec_l01Split at h
 refine wp_seq ?_
 refine region_pl ?_
 refine q_ hf rfl rfl rfl (e_assign hf rfl) fun a hf => ?_
 refine pl_nil ?_
 refine then_n ?_
 refine wp_seq ?_
 refine region_pl ?_
 refine pl_l hf rfl rfl rfl (w_slice0 (K := strRep) hM Tryz.underlying91 ei_9 fun b4 w5 hx6 hM a hf => ?_)
 refine q_ hf rfl rfl rfl (e_assign hf rfl) fun a hf => ?_
 refine pl_nil ?_
 refine then_n ?_
 refine wp_seq ?_
 refine region_pl ?_
 refine q_ hf rfl rfl rfl (e_assign hf rfl) fun a hf => ?_
 refine pl_nil ?_
 refine then_n ?_
 obtain ⟨x12, h13, h⟩ := bind_some h
 refine seq_join (fun a w => ∃ (xs7 : (List Str)) (n10 : Int) (A8 : Option Addr) (c9 : Nat), (xs7, n10) = x12 ∧ Has 35 a [(0, vS (s1)), (5, vL A8 (xs7) c9), (6, vI (n10))] ∧ Mem C w [.row strRep A8 c9 9 xs7 true] [] ∧ R64 n10) ?_ ?_
 ·refine wp_seq ?_
  refine region_pl ?_
  refine q_ hf rfl rfl rfl (e_assign hf rfl) fun a hf => ?_
  refine pl_nil ?_
  refine then_n ?_
  refine wp_block ?_
  obtain ⟨x27, h28, h13⟩ := bind_some h13
  refine wp_loopM h28 (fun s a w => ∃ (xs14 : (List Str)) (n17 : Int) (n19 : Int) (A15 : Option Addr) (c16 : Nat), (xs14, n17, n19) = s ∧ Has 35 a [(0, vS (s1)), (1, vB (by_3)), (5, vL A15 (xs14) c16), (6, vI (n17)), (7, vI (n19))] ∧ Mem C w [.row strRep A15 c16 9 xs14 true] [] ∧ R64 n17 ∧ R64 n19) ?_ ?_
  ·exact ⟨([] : (List Str)), 0, 0, (some ⟨b4, 0, none⟩), 0, rfl, hf.keep ⟨rfl, rfl, rfl, rfl, rfl, trivial⟩, hM.pick [] rfl, (R64_lit rfl), (R64_lit rfl)⟩
  rintro s o29 a w21 ⟨xs14, n17, n19, A15, c16, rfl, hf, hM, hv18, hv20⟩ h30 hd31
  replace h30 : m_spec_l01Split_l1 s1 by_3 xs14 n17 n19 = some o29 := h30
  unfold m_spec_l01Split_l1 at h30
  iterate 2 refine wp_seq ?_
  refine region_pl ?_
  iterate 2 refine q_ hf rfl rfl rfl (e_move hf rfl) fun a hf => ?_
  refine q_ hf rfl rfl rfl (e_lenS hf (x := s1) rfl Tryz.underlying9) fun a hf => ?_
  refine q_ hf rfl rfl rfl (e_lt hf (x := n19) (y := (s1.length : Int)) rfl rfl) fun a hf => ?_
  refine pl_nil ?_
  refine then_n ?_
  rcases cond_some h30 with ⟨hc32, h30⟩ | ⟨hc32, h30⟩
  ·refine cond_t hf rfl hc32 ?_
   refine wp_skip ?_
   refine then_n ?_
   obtain ⟨x38, h39, h30⟩ := bind_some h30
   refine seq_join (fun a w => ∃ (xs33 : (List Str)) (n36 : Int) (A34 : Option Addr) (c35 : Nat), (xs33, n36) = x38 ∧ Has 35 a [(0, vS (s1)), (1, vB (by_3)), (5, vL A34 (xs33) c35), (6, vI (n36)), (7, vI (n19))] ∧ Mem C w [.row strRep A34 c35 9 xs33 true] [] ∧ R64 n36) ?_ ?_
   ·refine wp_block ?_
    refine wp_seq ?_
    refine region_pl ?_
    iterate 2 refine q_ hf rfl rfl rfl (e_move hf rfl) fun a hf => ?_
    obtain ⟨c40, hz41, h39⟩ := bind_some h39
    refine q_ hf rfl rfl rfl (e_indexS hf (x := s1) rfl rfl Tryz.underlying9 hz41) fun a hf => ?_
    refine q_ hf rfl rfl rfl (e_move hf rfl) fun a hf => ?_
    refine q_ hf rfl rfl rfl (e_eqB hf (x := c40) (y := by_3) rfl rfl) fun a hf => ?_
    refine pl_nil ?_
    refine then_n ?_
    rcases cond_some h39 with ⟨hc42, h39⟩ | ⟨hc42, h39⟩
    ·refine cond_t hf rfl hc42 ?_
     refine wp_seq ?_
     refine region_pl ?_
     iterate 4 refine q_ hf rfl rfl rfl (e_move hf rfl) fun a hf => ?_
     obtain ⟨s43, hz44, h39⟩ := bind_some h39
     refine q_ hf rfl rfl rfl (e_subS hf (x := s1) rfl rfl rfl Tryz.underlying9 hz44) fun a hf => ?_
     refine pl_l hf rfl rfl rfl (w_slice hf hM (K := strRep) (xs := ([s43] : (List Str))) (os := [.tmp 24]) Tryz.underlying91 ei_9 rfl rfl rfl rfl rfl ⟨⟨[vS (s43)], rfl, ⟨rfl, (sub_len hz44 hp2)⟩⟩, trivial⟩ rfl fun b45 w46 hx47 hM a hf => ?_)
     obtain ⟨xs48, hz49, h39⟩ := bind_some h39
     refine pl_l hf rfl rfl rfl (w_append hf hM Tryz.underlying91 ei_9 rfl rfl rfl (k := 1) rfl (hM.srcRow (k := 0) rfl) hz49 fun A50 c51 w52 hM a hf => ?_)
     dsimp only [List.set] at hM
     refine q_ hf rfl rfl rfl (e_assign hf rfl) fun a hf => ?_
     refine pl_nil ?_
     refine then_n ?_
     refine region_pl ?_
     refine q_ hf rfl rfl rfl (e_move hf rfl) fun a hf => ?_
     obtain ⟨z55, hz56, h39⟩ := bind_some h39
     refine q_ hf rfl rfl rfl (e_add hf rfl rfl hz56) fun a hf => ?_
     refine q_ hf rfl rfl rfl (e_assign hf rfl) fun a hf => ?_
     refine pl_nil ?_
     refine blk_n ?_
     obtain rfl := some_inj h39
     refine then_n ?_
     exact ⟨xs48, z55, A50, c51, rfl, hf.keep ⟨rfl, rfl, rfl, rfl, rfl, trivial⟩, (hM.drop (.cons _ (.cons_cons _ .slnil))).pick [] rfl, (chk_R hz56)⟩
    refine cond_f hf rfl hc42 ?_
    refine wp_skip ?_
    refine blk_n ?_
    obtain rfl := some_inj h39
    refine then_n ?_
    exact ⟨xs14, n17, A15, c16, rfl, hf.keep ⟨rfl, rfl, rfl, rfl, rfl, trivial⟩, hM.pick [] rfl, hv18⟩
   rintro a w59 ⟨xs33, n36, A34, c35, rfl, hf, hM, hv37⟩
   try dsimp only at h30
   refine region_pl ?_
   refine q_ hf rfl rfl rfl (e_move hf rfl) fun a hf => ?_
   obtain ⟨z60, hz61, h30⟩ := bind_some h30
   refine q_ hf rfl rfl rfl (e_add hf rfl rfl hz61) fun a hf => ?_
   refine q_ hf rfl rfl rfl (e_assign hf rfl) fun a hf => ?_
   refine pl_nil ?_
   obtain rfl := some_inj h30
   refine then_n ⟨_, rfl, ?_⟩
   exact ⟨xs33, n36, z60, A34, c35, rfl, hf.keep ⟨rfl, rfl, rfl, rfl, rfl, trivial⟩, hM.pick [] rfl, hv37, (chk_R hz61)⟩
  refine cond_f hf rfl hc32 ?_
  refine wp_exit ?_
  refine then_x ?_
  obtain rfl := some_inj h30
  obtain rfl := hd31 _ rfl
  try dsimp only at h13
  refine then_x ?_
  refine exit_hit ?_
  obtain rfl := some_inj h13
  refine then_n ?_
  exact ⟨xs14, n17, A15, c16, rfl, hf.keep ⟨rfl, rfl, rfl, trivial⟩, hM.pick [] rfl, hv18⟩
 rintro a w67 ⟨xs7, n10, A8, c9, rfl, hf, hM, hv11⟩
 try dsimp only at h
 refine wp_seq ?_
 refine region_pl ?_
 iterate 3 refine q_ hf rfl rfl rfl (e_move hf rfl) fun a hf => ?_
 obtain ⟨s68, hz69, h⟩ := bind_some h
 refine q_ hf rfl rfl rfl (e_subSl hf (x := s1) rfl rfl Tryz.underlying9 hz69) fun a hf => ?_
 refine pl_l hf rfl rfl rfl (w_slice hf hM (K := strRep) (xs := ([s68] : (List Str))) (os := [.tmp 32]) Tryz.underlying91 ei_9 rfl rfl rfl rfl rfl ⟨⟨[vS (s68)], rfl, ⟨rfl, (sub_len hz69 hp2)⟩⟩, trivial⟩ rfl fun b70 w71 hx72 hM a hf => ?_)
 obtain ⟨xs73, hz74, h⟩ := bind_some h
 refine pl_l hf rfl rfl rfl (w_append hf hM Tryz.underlying91 ei_9 rfl rfl rfl (k := 1) rfl (hM.srcRow (k := 0) rfl) hz74 fun A75 c76 w77 hM a hf => ?_)
 dsimp only [List.set] at hM
 refine q_ hf rfl rfl rfl (e_assign hf rfl) fun a hf => ?_
 refine pl_nil ?_
 refine then_n ?_
 refine wp_ret ?_
 obtain rfl := some_inj h
 have hM := hM.front (k := 1) rfl
 dsimp only [List.eraseIdx] at hM
 have hM := hM.outs (own' := [.row strRep A75 c76 9 xs73 true]) 1 rfl
 exact leave1 hf rfl rfl ⟨A75, c76, rfl, hM.fin⟩

set_option maxRecDepth 100000 in
set_option maxHeartbeats 4000000 in
theorem r_spec_l01Digit (C : Cx) (c1 : UInt8) (r : Bool) (h : m_spec_l01Digit c1 = some r) :
    Calls Tryz.prog 126 #[vB (c1)] C.w0 fun e w => e = .returned (.bool (r)) ∧ Mem C w [] [] := by
 have hM := Mem.begin C [] trivial
 refine enter Tryz.func126 rfl Tryz.ntmps126 rfl fun a hf => ?_
 unfold m_spec_l01Digit at h
 refine wp_seq ?_
 refine region_pl ?_
 refine q_ hf rfl rfl rfl (e_assign hf rfl) fun a hf => ?_
 refine pl_nil ?_
 refine then_n ?_
 obtain ⟨x4, h5, h⟩ := bind_some h
 refine seq_join (fun a w => ∃ (t2 : Bool), t2 = x4 ∧ Has 9 a [(2, .bool (t2))] ∧ Mem C w [] []) ?_ ?_
 ·refine region_pl ?_
  refine q_ hf rfl rfl rfl (e_move hf rfl) fun a hf => ?_
  refine q_ hf rfl rfl rfl (e_geB hf (x := c1) (y := 48) rfl rfl) fun a hf => ?_
  refine q_ hf rfl rfl rfl (e_move hf rfl) fun a hf => ?_
  rcases cond_some h5 with ⟨hc6, h5⟩ | ⟨hc6, h5⟩
  ·refine gq (wanted_t hf rfl rfl rfl rfl hc6) hf rfl rfl (e_move hf rfl) fun a hf => ?_
   refine gq (wanted_t hf rfl rfl rfl rfl hc6) hf rfl rfl (e_leB hf (x := c1) (y := 57) rfl rfl) fun a hf => ?_
   refine q_ hf rfl rfl rfl (e_pick_t hf rfl hc6 rfl) fun a hf => ?_
   refine q_ hf rfl rfl rfl (e_assign hf rfl) fun a hf => ?_
   refine pl_nil ?_
   obtain rfl := some_inj h5
   refine then_n ?_
   exact ⟨(decide (c1 ≤ 57)), rfl, hf.keep ⟨rfl, trivial⟩, hM.pick [] rfl⟩
  iterate 2 refine pl_gs (wanted_f hf rfl rfl rfl rfl hc6) hf rfl rfl fun a hf => ?_
  refine q_ hf rfl rfl rfl (e_pick_f hf rfl hc6 rfl) fun a hf => ?_
  refine q_ hf rfl rfl rfl (e_assign hf rfl) fun a hf => ?_
  refine pl_nil ?_
  obtain rfl := some_inj h5
  refine then_n ?_
  exact ⟨false, rfl, hf.keep ⟨rfl, trivial⟩, hM.pick [] rfl⟩
 rintro a w9 ⟨t2, rfl, hf, hM⟩
 try dsimp only at h
 refine wp_ret ?_
 obtain rfl := some_inj h
 exact leave1 hf rfl rfl ⟨rfl, hM.fin⟩

set_option maxRecDepth 100000 in
set_option maxHeartbeats 4000000 in
theorem r_spec_l01Dec (C : Cx) (n1 : Int) (hp2 : R64 n1) (r : Str) (h : m_spec_l01Dec n1 = some r) :
    Calls Tryz.prog 127 #[vI (n1)] C.w0 fun e w => e = .returned (vS (r)) ∧ Mem C w [] [] ∧ r.length ≤ maxLen := by
 have hM := Mem.begin C [] trivial
 refine enter Tryz.func127 rfl Tryz.ntmps127 rfl fun a hf => ?_
 unfold m_spec_l01Dec at h
 refine wp_seq ?_
 refine region_pl ?_
 refine q_ hf rfl rfl rfl (e_assign hf rfl) fun a hf => ?_
 refine pl_nil ?_
 refine then_n ?_
 refine wp_seq ?_
 refine region_pl ?_
 refine pl_l hf rfl rfl rfl (w_slice0 (K := byteRep) hM Tryz.underlying138 ei_5 fun b3 w4 hx5 hM a hf => ?_)
 refine q_ hf rfl rfl rfl (e_assign hf rfl) fun a hf => ?_
 refine pl_nil ?_
 refine then_n ?_
 obtain ⟨x9, h10, h⟩ := bind_some h
 refine seq_join (fun a w => ∃ (xs6 : Str) (A7 : Option Addr) (c8 : Nat), xs6 = x9 ∧ Has 34 a [(0, vI (n1)), (3, vL A7 (xs6) c8)] ∧ Mem C w [.row byteRep A7 c8 5 xs6 true] []) ?_ ?_
 ·refine wp_seq ?_
  refine region_pl ?_
  refine q_ hf rfl rfl rfl (e_move hf rfl) fun a hf => ?_
  refine q_ hf rfl rfl rfl (e_assign hf rfl) fun a hf => ?_
  refine pl_nil ?_
  refine then_n ?_
  refine wp_block ?_
  obtain ⟨x20, h21, h10⟩ := bind_some h10
  refine wp_loopM h21 (fun s a w => ∃ (xs11 : Str) (d14 : Int) (A12 : Option Addr) (c13 : Nat), (xs11, d14) = s ∧ Has 34 a [(0, vI (n1)), (3, vL A12 (xs11) c13), (4, vI (d14))] ∧ Mem C w [.row byteRep A12 c13 5 xs11 true] [] ∧ R64 d14) ?_ ?_
  ·exact ⟨([] : Str), n1, (some ⟨b3, 0, none⟩), 0, rfl, hf.keep ⟨rfl, rfl, rfl, trivial⟩, hM.pick [] rfl, hp2⟩
  rintro s o22 a w16 ⟨xs11, d14, A12, c13, rfl, hf, hM, hv15⟩ h23 hd24
  replace h23 : m_spec_l01Dec_l1 xs11 d14 = some o22 := h23
  unfold m_spec_l01Dec_l1 at h23
  iterate 2 refine wp_seq ?_
  refine region_pl ?_
  refine q_ hf rfl rfl rfl (e_move hf rfl) fun a hf => ?_
  refine q_ hf rfl rfl rfl (e_ne hf (x := d14) (y := 0) rfl rfl) fun a hf => ?_
  refine pl_nil ?_
  refine then_n ?_
  rcases cond_some h23 with ⟨hc25, h23⟩ | ⟨hc25, h23⟩
  ·refine cond_t hf rfl hc25 ?_
   refine wp_skip ?_
   refine then_n ?_
   refine wp_seq ?_
   refine wp_block ?_
   refine wp_seq ?_
   refine region_pl ?_
   refine q_ hf rfl rfl rfl (e_move hf rfl) fun a hf => ?_
   obtain ⟨z26, hz27, h23⟩ := bind_some h23
   refine q_ hf rfl rfl rfl (e_rem hf rfl rfl hz27) fun a hf => ?_
   refine q_ hf rfl rfl rfl (e_assign hf rfl) fun a hf => ?_
   refine pl_nil ?_
   refine then_n ?_
   obtain ⟨x30, h31, h23⟩ := bind_some h23
   refine seq_join (fun a w => ∃ (n28 : Int), n28 = x30 ∧ Has 34 a [(0, vI (n1)), (3, vL A12 (xs11) c13), (4, vI (d14)), (5, vI (n28))] ∧ Mem C w [.row byteRep A12 c13 5 xs11 true] [] ∧ R64 n28) ?_ ?_
   ·refine wp_seq ?_
    refine region_pl ?_
    refine q_ hf rfl rfl rfl (e_move hf rfl) fun a hf => ?_
    refine q_ hf rfl rfl rfl (e_lt hf (x := z26) (y := 0) rfl rfl) fun a hf => ?_
    refine pl_nil ?_
    refine then_n ?_
    rcases cond_some h31 with ⟨hc32, h31⟩ | ⟨hc32, h31⟩
    ·refine cond_t hf rfl hc32 ?_
     refine region_pl ?_
     refine q_ hf rfl rfl rfl (e_move hf rfl) fun a hf => ?_
     obtain ⟨z33, hz34, h31⟩ := bind_some h31
     refine q_ hf rfl rfl rfl (e_neg hf rfl hz34) fun a hf => ?_
     refine q_ hf rfl rfl rfl (e_assign hf rfl) fun a hf => ?_
     refine pl_nil ?_
     obtain rfl := some_inj h31
     refine then_n ?_
     exact ⟨z33, rfl, hf.keep ⟨rfl, rfl, rfl, rfl, trivial⟩, hM.pick [] rfl, (chk_R hz34)⟩
    refine cond_f hf rfl hc32 ?_
    refine wp_skip ?_
    obtain rfl := some_inj h31
    refine then_n ?_
    exact ⟨z26, rfl, hf.keep ⟨rfl, rfl, rfl, rfl, trivial⟩, hM.pick [] rfl, (remI_R hz27 hv15)⟩
   rintro a w37 ⟨n28, rfl, hf, hM, hv29⟩
   try dsimp only at h23
   refine region_pl ?_
   refine q_ hf rfl rfl rfl (e_move hf rfl) fun a hf => ?_
   obtain ⟨z38, hz39, h23⟩ := bind_some h23
   refine q_ hf rfl rfl rfl (e_add hf rfl rfl hz39) fun a hf => ?_
   refine q_ hf rfl rfl rfl (e_convIB hf rfl Tryz.underlying2 Tryz.underlying5) fun a hf => ?_
   refine pl_l hf rfl rfl rfl (w_slice hf hM (K := byteRep) (xs := ([UInt8.ofNat (z38 % 256).toNat] : Str)) (os := [.tmp 20]) Tryz.underlying138 ei_5 rfl rfl rfl rfl rfl ⟨⟨[vB (UInt8.ofNat (z38 % 256).toNat)], rfl, rfl⟩, trivial⟩ rfl fun b40 w41 hx42 hM a hf => ?_)
   refine q_ hf rfl rfl rfl (e_move hf rfl) fun a hf => ?_
   have hM := hM.freezeRow (k := 1) rfl rfl
   dsimp only [List.eraseIdx] at hM
   obtain ⟨xs43, hz44, h23⟩ := bind_some h23
   refine pl_l hf rfl rfl rfl (w_appendD hf hM Tryz.underlying138 ei_5 rfl rfl rfl (k := 0) rfl (hM.dat (k := 0) rfl) hz44 fun A45 c46 w47 hM a hf => ?_)
   dsimp only [List.set] at hM
   refine q_ hf rfl rfl rfl (e_assign hf rfl) fun a hf => ?_
   refine pl_nil ?_
   refine blk_n ?_
   refine then_n ?_
   refine region_pl ?_
   refine q_ hf rfl rfl rfl (e_move hf rfl) fun a hf => ?_
   obtain ⟨z50, hz51, h23⟩ := bind_some h23
   refine q_ hf rfl rfl rfl (e_quo hf rfl rfl hz51) fun a hf => ?_
   refine q_ hf rfl rfl rfl (e_assign hf rfl) fun a hf => ?_
   refine pl_nil ?_
   obtain rfl := some_inj h23
   refine then_n ⟨_, rfl, ?_⟩
   exact ⟨xs43, z50, A45, c46, rfl, hf.keep ⟨rfl, rfl, rfl, trivial⟩, hM.pick [] rfl, (quoI_R hz51)⟩
  refine cond_f hf rfl hc25 ?_
  refine wp_exit ?_
  refine then_x ?_
  obtain rfl := some_inj h23
  obtain rfl := hd24 _ rfl
  try dsimp only at h10
  refine then_x ?_
  refine exit_hit ?_
  obtain rfl := some_inj h10
  refine then_n ?_
  exact ⟨xs11, A12, c13, rfl, hf.keep ⟨rfl, rfl, trivial⟩, hM.pick [] rfl⟩
 rintro a w57 ⟨xs6, A7, c8, rfl, hf, hM⟩
 try dsimp only at h
 iterate 2 refine wp_seq ?_
 refine region_pl ?_
 refine q_ hf rfl rfl rfl (e_move hf rfl) fun a hf => ?_
 have hl58 := row_len (hM.ownAt (k := 0) rfl)
 refine q_ hf rfl rfl rfl (e_lenL hf (x := xs6) rfl Tryz.underlying138) fun a hf => ?_
 refine q_ hf rfl rfl rfl (e_eq hf (x := (xs6.length : Int)) (y := 0) rfl rfl) fun a hf => ?_
 refine pl_nil ?_
 refine then_n ?_
 rcases cond_some h with ⟨hc59, h⟩ | ⟨hc59, h⟩
 ·refine cond_t hf rfl hc59 ?_
  refine wp_seq ?_
  refine region_pl ?_
  refine q_ hf rfl rfl rfl (e_assign hf rfl) fun a hf => ?_
  refine pl_nil ?_
  refine then_n ?_
  refine wp_ret ?_
  refine then_r ?_
  obtain rfl := some_inj h
  have hM := hM.outs (own' := []) 0 rfl
  exact leave1 hf rfl rfl ⟨rfl, hM.fin, (lit_len rfl)⟩
 refine cond_f hf rfl hc59 ?_
 refine wp_skip ?_
 refine then_n ?_
 iterate 2 refine wp_seq ?_
 refine region_pl ?_
 refine q_ hf rfl rfl rfl (e_move hf rfl) fun a hf => ?_
 refine q_ hf rfl rfl rfl (e_lt hf (x := n1) (y := 0) rfl rfl) fun a hf => ?_
 refine pl_nil ?_
 refine then_n ?_
 rcases cond_some h with ⟨hc60, h⟩ | ⟨hc60, h⟩
 ·refine cond_t hf rfl hc60 ?_
  refine wp_seq ?_
  refine region_pl ?_
  refine q_ hf rfl rfl rfl (e_move hf rfl) fun a hf => ?_
  have hl61 := row_len (hM.ownAt (k := 0) rfl)
  refine q_ hf rfl rfl rfl (e_bytesStr hf (xs := xs6) rfl Tryz.underlying138 Tryz.underlying5 Tryz.underlying9 (hM.lendRow (k := 0) rfl)) fun a hf => ?_
  obtain ⟨s62, hz63, h⟩ := bind_some h
  refine q_ hf rfl rfl rfl (e_cat hf (x := ([45] : Str)) (y := xs6) rfl rfl hz63) fun a hf => ?_
  refine q_ hf rfl rfl rfl (e_assign hf rfl) fun a hf => ?_
  refine pl_nil ?_
  refine then_n ?_
  refine wp_ret ?_
  refine then_r ?_
  obtain rfl := some_inj h
  have hM := hM.outs (own' := []) 0 rfl
  exact leave1 hf rfl rfl ⟨rfl, hM.fin, (cat_len hz63)⟩
 refine cond_f hf rfl hc60 ?_
 refine wp_skip ?_
 refine then_n ?_
 refine wp_seq ?_
 refine region_pl ?_
 refine q_ hf rfl rfl rfl (e_move hf rfl) fun a hf => ?_
 have hl64 := row_len (hM.ownAt (k := 0) rfl)
 refine q_ hf rfl rfl rfl (e_bytesStr hf (xs := xs6) rfl Tryz.underlying138 Tryz.underlying5 Tryz.underlying9 (hM.lendRow (k := 0) rfl)) fun a hf => ?_
 refine q_ hf rfl rfl rfl (e_assign hf rfl) fun a hf => ?_
 refine pl_nil ?_
 refine then_n ?_
 refine wp_ret ?_
 obtain rfl := some_inj h
 have hM := hM.outs (own' := []) 0 rfl
 exact leave1 hf rfl rfl ⟨rfl, hM.fin, hl64⟩

set_option maxRecDepth 100000 in
set_option maxHeartbeats 4000000 in
theorem r_spec_l01Number (C : Cx) (s1 : Str) (hp2 : s1.length ≤ maxLen) (r : (Int × Bool)) (h : m_spec_l01Number s1 = some r) :
    Calls Tryz.prog 69 #[vS (s1)] C.w0 fun e w => e = .returned (.tuple #[vI (r.1), .bool (r.2)]) ∧ Mem C w [] [] ∧ R64 r.1 := by
 have hM := Mem.begin C [] trivial
 refine enter Tryz.func69 rfl Tryz.ntmps69 rfl fun a hf => ?_
 unfold m_spec_l01Number at h
 refine wp_seq ?_
 refine region_pl ?_
 iterate 2 refine q_ hf rfl rfl rfl (e_assign hf rfl) fun a hf => ?_
 refine pl_nil ?_
 refine then_n ?_
 refine wp_seq ?_
 refine region_pl ?_
 refine q_ hf rfl rfl rfl (e_move hf rfl) fun a hf => ?_
 refine q_ hf rfl rfl rfl (e_assign hf rfl) fun a hf => ?_
 refine pl_nil ?_
 refine then_n ?_
 obtain ⟨x5, h6, h⟩ := bind_some h
 refine seq_join (fun a w => ∃ (n3 : Str), n3 = x5 ∧ Has 56 a [(0, vS (s1)), (4, vS (n3))] ∧ Mem C w [] [] ∧ n3.length ≤ maxLen) ?_ ?_
 ·obtain ⟨x9, h10, h6⟩ := bind_some h6
  refine seq_join (fun a w => ∃ (t7 : Bool), t7 = x9 ∧ Has 56 a [(0, vS (s1)), (4, vS (s1)), (14, .bool (t7))] ∧ Mem C w [] []) ?_ ?_
  ·refine region_pl ?_
   refine q_ hf rfl rfl rfl (e_move hf rfl) fun a hf => ?_
   refine q_ hf rfl rfl rfl (e_neS hf (x := s1) (y := ([] : Str)) rfl rfl) fun a hf => ?_
   refine q_ hf rfl rfl rfl (e_move hf rfl) fun a hf => ?_
   rcases cond_some h10 with ⟨hc11, h10⟩ | ⟨hc11, h10⟩
   ·refine gq (wanted_t hf rfl rfl rfl rfl hc11) hf rfl rfl (e_move hf rfl) fun a hf => ?_
    obtain ⟨c12, hz13, h10⟩ := bind_some h10
    refine gq (wanted_t hf rfl rfl rfl rfl hc11) hf rfl rfl (e_indexS hf (x := s1) rfl rfl Tryz.underlying9 hz13) fun a hf => ?_
    refine gq (wanted_t hf rfl rfl rfl rfl hc11) hf rfl rfl (e_eqB hf (x := c12) (y := 45) rfl rfl) fun a hf => ?_
    refine q_ hf rfl rfl rfl (e_pick_t hf rfl hc11 rfl) fun a hf => ?_
    refine pl_nil ?_
    obtain rfl := some_inj h10
    refine then_n ?_
    exact ⟨(c12 == 45), rfl, hf.keep ⟨rfl, rfl, rfl, trivial⟩, hM.pick [] rfl⟩
   iterate 3 refine pl_gs (wanted_f hf rfl rfl rfl rfl hc11) hf rfl rfl fun a hf => ?_
   refine q_ hf rfl rfl rfl (e_pick_f hf rfl hc11 rfl) fun a hf => ?_
   refine pl_nil ?_
   obtain rfl := some_inj h10
   refine then_n ?_
   exact ⟨false, rfl, hf.keep ⟨rfl, rfl, rfl, trivial⟩, hM.pick [] rfl⟩
  rintro a w16 ⟨t7, rfl, hf, hM⟩
  try dsimp only at h6
  rcases cond_some h6 with ⟨hc17, h6⟩ | ⟨hc17, h6⟩
  ·refine cond_t hf rfl hc17 ?_
   refine region_pl ?_
   refine q_ hf rfl rfl rfl (e_move hf rfl) fun a hf => ?_
   obtain ⟨s18, hz19, h6⟩ := bind_some h6
   refine q_ hf rfl rfl rfl (e_subSl hf (x := s1) rfl rfl Tryz.underlying9 hz19) fun a hf => ?_
   refine q_ hf rfl rfl rfl (e_assign hf rfl) fun a hf => ?_
   refine pl_nil ?_
   obtain rfl := some_inj h6
   refine then_n ?_
   exact ⟨s18, rfl, hf.keep ⟨rfl, rfl, trivial⟩, hM.pick [] rfl, (sub_len hz19 hp2)⟩
  refine cond_f hf rfl hc17 ?_
  refine wp_skip ?_
  obtain rfl := some_inj h6
  refine then_n ?_
  exact ⟨s1, rfl, hf.keep ⟨rfl, rfl, trivial⟩, hM.pick [] rfl, hp2⟩
 rintro a w22 ⟨n3, rfl, hf, hM, hv4⟩
 try dsimp only at h
 refine wp_seq ?_
 obtain ⟨x25, h26, h⟩ := bind_some h
 refine seq_join (fun a w => ∃ (t23 : Bool), t23 = x25 ∧ Has 56 a [(0, vS (s1)), (4, vS (n3)), (24, .bool (t23))] ∧ Mem C w [] []) ?_ ?_
 ·refine region_pl ?_
  refine q_ hf rfl rfl rfl (e_move hf rfl) fun a hf => ?_
  refine q_ hf rfl rfl rfl (e_lenS hf (x := n3) rfl Tryz.underlying9) fun a hf => ?_
  refine q_ hf rfl rfl rfl (e_lt hf (x := (n3.length : Int)) (y := 1) rfl rfl) fun a hf => ?_
  refine q_ hf rfl rfl rfl (e_move hf rfl) fun a hf => ?_
  rcases cond_some h26 with ⟨hc27, h26⟩ | ⟨hc27, h26⟩
  ·iterate 3 refine pl_gs (wanted_f hf rfl rfl rfl rfl hc27) hf rfl rfl fun a hf => ?_
   refine q_ hf rfl rfl rfl (e_pick_t hf rfl hc27 rfl) fun a hf => ?_
   refine pl_nil ?_
   obtain rfl := some_inj h26
   refine then_n ?_
   exact ⟨true, rfl, hf.keep ⟨rfl, rfl, rfl, trivial⟩, hM.pick [] rfl⟩
  refine gq (wanted_t hf rfl rfl rfl rfl hc27) hf rfl rfl (e_move hf rfl) fun a hf => ?_
  refine gq (wanted_t hf rfl rfl rfl rfl hc27) hf rfl rfl (e_lenS hf (x := n3) rfl Tryz.underlying9) fun a hf => ?_
  refine gq (wanted_t hf rfl rfl rfl rfl hc27) hf rfl rfl (e_gt hf (x := (n3.length : Int)) (y := 18) rfl rfl) fun a hf => ?_
  refine q_ hf rfl rfl rfl (e_pick_f hf rfl hc27 rfl) fun a hf => ?_
  refine pl_nil ?_
  obtain rfl := some_inj h26
  refine then_n ?_
  exact ⟨(decide (18 < (n3.length : Int))), rfl, hf.keep ⟨rfl, rfl, rfl, trivial⟩, hM.pick [] rfl⟩
 rintro a w30 ⟨t23, rfl, hf, hM⟩
 try dsimp only at h
 rcases cond_some h with ⟨hc31, h⟩ | ⟨hc31, h⟩
 ·refine cond_t hf rfl hc31 ?_
  refine wp_seq ?_
  refine region_pl ?_
  iterate 2 refine q_ hf rfl rfl rfl (e_assign hf rfl) fun a hf => ?_
  refine pl_nil ?_
  refine then_n ?_
  refine wp_ret ?_
  refine then_r ?_
  obtain rfl := some_inj h
  exact leave2 hf rfl rfl rfl ⟨rfl, hM.fin, (R64_lit rfl)⟩
 refine cond_f hf rfl hc31 ?_
 refine wp_skip ?_
 refine then_n ?_
 refine wp_seq ?_
 refine region_pl ?_
 refine q_ hf rfl rfl rfl (e_assign hf rfl) fun a hf => ?_
 refine pl_nil ?_
 refine then_n ?_
 obtain ⟨x34, h35, h⟩ := bind_some h
 refine seq_join (fun a w => ∃ (i32 : Int), (.inl i32) = x34 ∧ Has 56 a [(0, vS (s1)), (4, vS (n3)), (5, vI (i32))] ∧ Mem C w [] [] ∧ R64 i32) ?_ ?_
 ·refine wp_seq ?_
  refine region_pl ?_
  refine q_ hf rfl rfl rfl (e_assign hf rfl) fun a hf => ?_
  refine pl_nil ?_
  refine then_n ?_
  refine wp_block ?_
  obtain ⟨x43, h44, h35⟩ := bind_some h35
  refine wp_loopM h44 (fun s a w => ∃ (i36 : Int) (n38 : Int), (i36, n38) = s ∧ Has 56 a [(0, vS (s1)), (4, vS (n3)), (5, vI (i36)), (6, vI (n38))] ∧ Mem C w [] [] ∧ R64 i36 ∧ R64 n38) ?_ ?_
  ·exact ⟨0, 0, rfl, hf.keep ⟨rfl, rfl, rfl, rfl, trivial⟩, hM.pick [] rfl, (R64_lit rfl), (R64_lit rfl)⟩
  rintro s o45 a w40 ⟨i36, n38, rfl, hf, hM, hv37, hv39⟩ h46 hd47
  replace h46 : m_spec_l01Number_l1 n3 i36 n38 = some o45 := h46
  unfold m_spec_l01Number_l1 at h46
  iterate 2 refine wp_seq ?_
  refine region_pl ?_
  iterate 2 refine q_ hf rfl rfl rfl (e_move hf rfl) fun a hf => ?_
  refine q_ hf rfl rfl rfl (e_lenS hf (x := n3) rfl Tryz.underlying9) fun a hf => ?_
  refine q_ hf rfl rfl rfl (e_lt hf (x := n38) (y := (n3.length : Int)) rfl rfl) fun a hf => ?_
  refine pl_nil ?_
  refine then_n ?_
  rcases cond_some h46 with ⟨hc48, h46⟩ | ⟨hc48, h46⟩
  ·refine cond_t hf rfl hc48 ?_
   refine wp_skip ?_
   refine then_n ?_
   refine wp_seq ?_
   refine wp_block ?_
   iterate 2 refine wp_seq ?_
   refine region_pl ?_
   iterate 2 refine q_ hf rfl rfl rfl (e_move hf rfl) fun a hf => ?_
   obtain ⟨c49, hz50, h46⟩ := bind_some h46
   refine q_ hf rfl rfl rfl (e_indexS hf (x := n3) rfl rfl Tryz.underlying9 hz50) fun a hf => ?_
   obtain ⟨y51, hz52, h46⟩ := bind_some h46
   refine pl_l hf rfl rfl rfl (w_call hf Tryz.call126 rfl (r_spec_l01Digit ⟨_, Sh C _ _, none_, hM.sh_lt, none_not, C.G, hM.g_lt, g_none, hM.tabs⟩ c49 _ hz52) ?_)
   rintro _ w53 ⟨rfl, hM2⟩
   obtain ⟨hM, hx54, hup55⟩ := hM.back hM2
   dsimp only [List.cons_append, List.nil_append] at hM hup55
   clear hM2
   refine ⟨_, rfl, fun a hf => ?_⟩
   refine q_ hf rfl rfl rfl (e_not hf rfl) fun a hf => ?_
   refine pl_nil ?_
   refine then_n ?_
   rcases cond_some h46 with ⟨hc56, h46⟩ | ⟨hc56, h46⟩
   ·refine cond_t hf rfl hc56 ?_
    refine wp_seq ?_
    refine region_pl ?_
    iterate 2 refine q_ hf rfl rfl rfl (e_assign hf rfl) fun a hf => ?_
    refine pl_nil ?_
    refine then_n ?_
    refine wp_ret ?_
    refine then_r ?_
    refine blk_r ?_
    refine then_r ?_
    obtain rfl := some_inj h46
    obtain rfl := hd47 _ rfl
    try dsimp only at h35
    refine then_r ?_
    refine blk_r ?_
    obtain rfl := some_inj h35
    try dsimp only at h
    refine then_r ?_
    obtain rfl := some_inj h
    exact leave2 hf rfl rfl rfl ⟨rfl, hM.fin, (R64_lit rfl)⟩
   refine cond_f hf rfl hc56 ?_
   refine wp_skip ?_
   refine then_n ?_
   refine region_pl ?_
   refine q_ hf rfl rfl rfl (e_move hf rfl) fun a hf => ?_
   obtain ⟨z57, hz58, h46⟩ := bind_some h46
   refine q_ hf rfl rfl rfl (e_mul hf rfl rfl hz58) fun a hf => ?_
   iterate 2 refine q_ hf rfl rfl rfl (e_move hf rfl) fun a hf => ?_
   obtain ⟨c59, hz60, h46⟩ := bind_some h46
   refine q_ hf rfl rfl rfl (e_indexS hf (x := n3) rfl rfl Tryz.underlying9 hz60) fun a hf => ?_
   refine q_ hf rfl rfl rfl (e_subB hf (x := c59) (y := 48) rfl rfl) fun a hf => ?_
   refine q_ hf rfl rfl rfl (e_convBI hf (x := c59 - 48) rfl Tryz.underlying5 Tryz.underlying2) fun a hf => ?_
   obtain ⟨z61, hz62, h46⟩ := bind_some h46
   refine q_ hf rfl rfl rfl (e_add hf rfl rfl hz62) fun a hf => ?_
   refine q_ hf rfl rfl rfl (e_assign hf rfl) fun a hf => ?_
   refine pl_nil ?_
   refine blk_n ?_
   refine then_n ?_
   refine region_pl ?_
   refine q_ hf rfl rfl rfl (e_move hf rfl) fun a hf => ?_
   obtain ⟨z63, hz64, h46⟩ := bind_some h46
   refine q_ hf rfl rfl rfl (e_add hf rfl rfl hz64) fun a hf => ?_
   refine q_ hf rfl rfl rfl (e_assign hf rfl) fun a hf => ?_
   refine pl_nil ?_
   obtain rfl := some_inj h46
   refine then_n ⟨_, rfl, ?_⟩
   exact ⟨z61, z63, rfl, hf.keep ⟨rfl, rfl, rfl, rfl, trivial⟩, hM.pick [] rfl, (chk_R hz62), (chk_R hz64)⟩
  refine cond_f hf rfl hc48 ?_
  refine wp_exit ?_
  refine then_x ?_
  obtain rfl := some_inj h46
  obtain rfl := hd47 _ rfl
  try dsimp only at h35
  refine then_x ?_
  refine exit_hit ?_
  obtain rfl := some_inj h35
  refine then_n ?_
  exact ⟨i36, rfl, hf.keep ⟨rfl, rfl, rfl, trivial⟩, hM.pick [] rfl, hv37⟩
 rintro a w71 ⟨i32, rfl, hf, hM, hv33⟩
 try dsimp only at h
 obtain ⟨x74, h75, h⟩ := bind_some h
 refine seq_join (fun a w => ∃ (i72 : Int), i72 = x74 ∧ Has 56 a [(0, vS (s1)), (5, vI (i72))] ∧ Mem C w [] [] ∧ R64 i72) ?_ ?_
 ·refine wp_seq ?_
  refine region_pl ?_
  refine q_ hf rfl rfl rfl (e_move hf rfl) fun a hf => ?_
  refine q_ hf rfl rfl rfl (e_lenS hf (x := n3) rfl Tryz.underlying9) fun a hf => ?_
  refine q_ hf rfl rfl rfl (e_move hf rfl) fun a hf => ?_
  refine q_ hf rfl rfl rfl (e_lenS hf (x := s1) rfl Tryz.underlying9) fun a hf => ?_
  refine q_ hf rfl rfl rfl (e_lt hf (x := (n3.length : Int)) (y := (s1.length : Int)) rfl rfl) fun a hf => ?_
  refine pl_nil ?_
  refine then_n ?_
  rcases cond_some h75 with ⟨hc76, h75⟩ | ⟨hc76, h75⟩
  ·refine cond_t hf rfl hc76 ?_
   refine region_pl ?_
   refine q_ hf rfl rfl rfl (e_move hf rfl) fun a hf => ?_
   obtain ⟨z77, hz78, h75⟩ := bind_some h75
   refine q_ hf rfl rfl rfl (e_neg hf rfl hz78) fun a hf => ?_
   refine q_ hf rfl rfl rfl (e_assign hf rfl) fun a hf => ?_
   refine pl_nil ?_
   obtain rfl := some_inj h75
   refine then_n ?_
   exact ⟨z77, rfl, hf.keep ⟨rfl, rfl, trivial⟩, hM.pick [] rfl, (chk_R hz78)⟩
  refine cond_f hf rfl hc76 ?_
  refine wp_skip ?_
  obtain rfl := some_inj h75
  refine then_n ?_
  exact ⟨i32, rfl, hf.keep ⟨rfl, rfl, trivial⟩, hM.pick [] rfl, hv33⟩
 rintro a w81 ⟨i72, rfl, hf, hM, hv73⟩
 try dsimp only at h
 iterate 2 refine wp_seq ?_
 refine region_pl ?_
 refine q_ hf rfl rfl rfl (e_move hf rfl) fun a hf => ?_
 obtain ⟨y82, hz83, h⟩ := bind_some h
 refine pl_l hf rfl rfl rfl (w_call hf Tryz.call127 rfl (r_spec_l01Dec ⟨_, Sh C _ _, none_, hM.sh_lt, none_not, C.G, hM.g_lt, g_none, hM.tabs⟩ i72 hv73 _ hz83) ?_)
 rintro _ w85 ⟨rfl, hM2, hv84⟩
 obtain ⟨hM, hx86, hup87⟩ := hM.back hM2
 dsimp only [List.cons_append, List.nil_append] at hM hup87
 clear hM2
 refine ⟨_, rfl, fun a hf => ?_⟩
 refine q_ hf rfl rfl rfl (e_move hf rfl) fun a hf => ?_
 refine q_ hf rfl rfl rfl (e_neS hf (x := y82) (y := s1) rfl rfl) fun a hf => ?_
 refine pl_nil ?_
 refine then_n ?_
 rcases cond_some h with ⟨hc88, h⟩ | ⟨hc88, h⟩
 ·refine cond_t hf rfl hc88 ?_
  refine wp_seq ?_
  refine region_pl ?_
  iterate 2 refine q_ hf rfl rfl rfl (e_assign hf rfl) fun a hf => ?_
  refine pl_nil ?_
  refine then_n ?_
  refine wp_ret ?_
  refine then_r ?_
  obtain rfl := some_inj h
  exact leave2 hf rfl rfl rfl ⟨rfl, hM.fin, (R64_lit rfl)⟩
 refine cond_f hf rfl hc88 ?_
 refine wp_skip ?_
 refine then_n ?_
 refine wp_seq ?_
 refine region_pl ?_
 refine q_ hf rfl rfl rfl (e_move hf rfl) fun a hf => ?_
 iterate 2 refine q_ hf rfl rfl rfl (e_assign hf rfl) fun a hf => ?_
 refine pl_nil ?_
 refine then_n ?_
 refine wp_ret ?_
 obtain rfl := some_inj h
 exact leave2 hf rfl rfl rfl ⟨rfl, hM.fin, hv73⟩

set_option maxRecDepth 100000 in
set_option maxHeartbeats 4000000 in
theorem r_spec_l01Small (C : Cx) (c1 : UInt8) (r : Bool) (h : m_spec_l01Small c1 = some r) :
    Calls Tryz.prog 131 #[vB (c1)] C.w0 fun e w => e = .returned (.bool (r)) ∧ Mem C w [] [] := by
 have hM := Mem.begin C [] trivial
 refine enter Tryz.func131 rfl Tryz.ntmps131 rfl fun a hf => ?_
 unfold m_spec_l01Small at h
 refine wp_seq ?_
 refine region_pl ?_
 refine q_ hf rfl rfl rfl (e_assign hf rfl) fun a hf => ?_
 refine pl_nil ?_
 refine then_n ?_
 obtain ⟨x4, h5, h⟩ := bind_some h
 refine seq_join (fun a w => ∃ (t2 : Bool), t2 = x4 ∧ Has 9 a [(2, .bool (t2))] ∧ Mem C w [] []) ?_ ?_
 ·refine region_pl ?_
  refine q_ hf rfl rfl rfl (e_move hf rfl) fun a hf => ?_
  refine q_ hf rfl rfl rfl (e_geB hf (x := c1) (y := 97) rfl rfl) fun a hf => ?_
  refine q_ hf rfl rfl rfl (e_move hf rfl) fun a hf => ?_
  rcases cond_some h5 with ⟨hc6, h5⟩ | ⟨hc6, h5⟩
  ·refine gq (wanted_t hf rfl rfl rfl rfl hc6) hf rfl rfl (e_move hf rfl) fun a hf => ?_
   refine gq (wanted_t hf rfl rfl rfl rfl hc6) hf rfl rfl (e_leB hf (x := c1) (y := 122) rfl rfl) fun a hf => ?_
   refine q_ hf rfl rfl rfl (e_pick_t hf rfl hc6 rfl) fun a hf => ?_
   refine q_ hf rfl rfl rfl (e_assign hf rfl) fun a hf => ?_
   refine pl_nil ?_
   obtain rfl := some_inj h5
   refine then_n ?_
   exact ⟨(decide (c1 ≤ 122)), rfl, hf.keep ⟨rfl, trivial⟩, hM.pick [] rfl⟩
  iterate 2 refine pl_gs (wanted_f hf rfl rfl rfl rfl hc6) hf rfl rfl fun a hf => ?_
  refine q_ hf rfl rfl rfl (e_pick_f hf rfl hc6 rfl) fun a hf => ?_
  refine q_ hf rfl rfl rfl (e_assign hf rfl) fun a hf => ?_
  refine pl_nil ?_
  obtain rfl := some_inj h5
  refine then_n ?_
  exact ⟨false, rfl, hf.keep ⟨rfl, trivial⟩, hM.pick [] rfl⟩
 rintro a w9 ⟨t2, rfl, hf, hM⟩
 try dsimp only at h
 refine wp_ret ?_
 obtain rfl := some_inj h
 exact leave1 hf rfl rfl ⟨rfl, hM.fin⟩

set_option maxRecDepth 100000 in
set_option maxHeartbeats 4000000 in
theorem r_spec_l00In (C : Cx) (n1 : Int) (hp2 : R64 n1) (low3 : Int) (hp4 : R64 low3) (high5 : Int) (hp6 : R64 high5) (r : Bool) (h : m_spec_l00In n1 low3 high5 = some r) :
    Calls Tryz.prog 86 #[vI (n1), vI (low3), vI (high5)] C.w0 fun e w => e = .returned (.bool (r)) ∧ Mem C w [] [] := by
 have hM := Mem.begin C [] trivial
 refine enter Tryz.func86 rfl Tryz.ntmps86 rfl fun a hf => ?_
 unfold m_spec_l00In at h
 refine wp_seq ?_
 refine region_pl ?_
 refine q_ hf rfl rfl rfl (e_assign hf rfl) fun a hf => ?_
 refine pl_nil ?_
 refine then_n ?_
 obtain ⟨x9, h10, h⟩ := bind_some h
 refine seq_join (fun a w => ∃ (t7 : Bool), t7 = x9 ∧ Has 15 a [(6, .bool (t7))] ∧ Mem C w [] []) ?_ ?_
 ·refine region_pl ?_
  iterate 2 refine q_ hf rfl rfl rfl (e_move hf rfl) fun a hf => ?_
  refine q_ hf rfl rfl rfl (e_ge hf (x := n1) (y := low3) rfl rfl) fun a hf => ?_
  refine q_ hf rfl rfl rfl (e_move hf rfl) fun a hf => ?_
  rcases cond_some h10 with ⟨hc11, h10⟩ | ⟨hc11, h10⟩
  ·iterate 2 refine gq (wanted_t hf rfl rfl rfl rfl hc11) hf rfl rfl (e_move hf rfl) fun a hf => ?_
   refine gq (wanted_t hf rfl rfl rfl rfl hc11) hf rfl rfl (e_le hf (x := n1) (y := high5) rfl rfl) fun a hf => ?_
   refine q_ hf rfl rfl rfl (e_pick_t hf rfl hc11 rfl) fun a hf => ?_
   refine q_ hf rfl rfl rfl (e_assign hf rfl) fun a hf => ?_
   refine pl_nil ?_
   obtain rfl := some_inj h10
   refine then_n ?_
   exact ⟨(decide (n1 ≤ high5)), rfl, hf.keep ⟨rfl, trivial⟩, hM.pick [] rfl⟩
  iterate 3 refine pl_gs (wanted_f hf rfl rfl rfl rfl hc11) hf rfl rfl fun a hf => ?_
  refine q_ hf rfl rfl rfl (e_pick_f hf rfl hc11 rfl) fun a hf => ?_
  refine q_ hf rfl rfl rfl (e_assign hf rfl) fun a hf => ?_
  refine pl_nil ?_
  obtain rfl := some_inj h10
  refine then_n ?_
  exact ⟨false, rfl, hf.keep ⟨rfl, trivial⟩, hM.pick [] rfl⟩
 rintro a w14 ⟨t7, rfl, hf, hM⟩
 try dsimp only at h
 refine wp_ret ?_
 obtain rfl := some_inj h
 exact leave1 hf rfl rfl ⟨rfl, hM.fin⟩

set_option maxRecDepth 100000 in
set_option maxHeartbeats 4000000 in
theorem r_spec_l03Capital (C : Cx) (c1 : UInt8) (r : Bool) (h : m_spec_l03Capital c1 = some r) :
    Calls Tryz.prog 132 #[vB (c1)] C.w0 fun e w => e = .returned (.bool (r)) ∧ Mem C w [] [] := by
 have hM := Mem.begin C [] trivial
 refine enter Tryz.func132 rfl Tryz.ntmps132 rfl fun a hf => ?_
 unfold m_spec_l03Capital at h
 refine wp_seq ?_
 refine region_pl ?_
 refine q_ hf rfl rfl rfl (e_assign hf rfl) fun a hf => ?_
 refine pl_nil ?_
 refine then_n ?_
 obtain ⟨x4, h5, h⟩ := bind_some h
 refine seq_join (fun a w => ∃ (t2 : Bool), t2 = x4 ∧ Has 9 a [(2, .bool (t2))] ∧ Mem C w [] []) ?_ ?_
 ·refine region_pl ?_
  refine q_ hf rfl rfl rfl (e_move hf rfl) fun a hf => ?_
  refine q_ hf rfl rfl rfl (e_geB hf (x := c1) (y := 65) rfl rfl) fun a hf => ?_
  refine q_ hf rfl rfl rfl (e_move hf rfl) fun a hf => ?_
  rcases cond_some h5 with ⟨hc6, h5⟩ | ⟨hc6, h5⟩
  ·refine gq (wanted_t hf rfl rfl rfl rfl hc6) hf rfl rfl (e_move hf rfl) fun a hf => ?_
   refine gq (wanted_t hf rfl rfl rfl rfl hc6) hf rfl rfl (e_leB hf (x := c1) (y := 90) rfl rfl) fun a hf => ?_
   refine q_ hf rfl rfl rfl (e_pick_t hf rfl hc6 rfl) fun a hf => ?_
   refine q_ hf rfl rfl rfl (e_assign hf rfl) fun a hf => ?_
   refine pl_nil ?_
   obtain rfl := some_inj h5
   refine then_n ?_
   exact ⟨(decide (c1 ≤ 90)), rfl, hf.keep ⟨rfl, trivial⟩, hM.pick [] rfl⟩
  iterate 2 refine pl_gs (wanted_f hf rfl rfl rfl rfl hc6) hf rfl rfl fun a hf => ?_
  refine q_ hf rfl rfl rfl (e_pick_f hf rfl hc6 rfl) fun a hf => ?_
  refine q_ hf rfl rfl rfl (e_assign hf rfl) fun a hf => ?_
  refine pl_nil ?_
  obtain rfl := some_inj h5
  refine then_n ?_
  exact ⟨false, rfl, hf.keep ⟨rfl, trivial⟩, hM.pick [] rfl⟩
 rintro a w9 ⟨t2, rfl, hf, hM⟩
 try dsimp only at h
 refine wp_ret ?_
 obtain rfl := some_inj h
 exact leave1 hf rfl rfl ⟨rfl, hM.fin⟩

set_option maxRecDepth 100000 in
set_option maxHeartbeats 4000000 in
theorem r_spec_l03Placed (C : Cx) (word1 : Str) (hp2 : word1.length ≤ maxLen) (r : Bool) (h : m_spec_l03Placed word1 = some r) :
    Calls Tryz.prog 134 #[vS (word1)] C.w0 fun e w => e = .returned (.bool (r)) ∧ Mem C w [] [] := by
 have hM := Mem.begin C [] trivial
 refine enter Tryz.func134 rfl Tryz.ntmps134 rfl fun a hf => ?_
 unfold m_spec_l03Placed at h
 refine wp_seq ?_
 refine region_pl ?_
 refine q_ hf rfl rfl rfl (e_assign hf rfl) fun a hf => ?_
 refine pl_nil ?_
 refine then_n ?_
 obtain ⟨x3, h4, h⟩ := bind_some h
 refine seq_join (fun a w => (.inl ()) = x3 ∧ Has 25 a [(0, vS (word1))] ∧ Mem C w [] []) ?_ ?_
 ·refine wp_seq ?_
  refine region_pl ?_
  refine q_ hf rfl rfl rfl (e_assign hf rfl) fun a hf => ?_
  refine pl_nil ?_
  refine then_n ?_
  refine wp_block ?_
  obtain ⟨x8, h9, h4⟩ := bind_some h4
  refine wp_loopM h9 (fun s a w => ∃ (n5 : Int), n5 = s ∧ Has 25 a [(0, vS (word1)), (3, vI (n5))] ∧ Mem C w [] [] ∧ R64 n5) ?_ ?_
  ·exact ⟨0, rfl, hf.keep ⟨rfl, rfl, trivial⟩, hM.pick [] rfl, (R64_lit rfl)⟩
  rintro s o10 a w7 ⟨n5, rfl, hf, hM, hv6⟩ h11 hd12
  replace h11 : m_spec_l03Placed_l1 word1 n5 = some o10 := h11
  unfold m_spec_l03Placed_l1 at h11
  iterate 2 refine wp_seq ?_
  refine region_pl ?_
  iterate 2 refine q_ hf rfl rfl rfl (e_move hf rfl) fun a hf => ?_
  refine q_ hf rfl rfl rfl (e_lenS hf (x := word1) rfl Tryz.underlying9) fun a hf => ?_
  refine q_ hf rfl rfl rfl (e_lt hf (x := n5) (y := (word1.length : Int)) rfl rfl) fun a hf => ?_
  refine pl_nil ?_
  refine then_n ?_
  rcases cond_some h11 with ⟨hc13, h11⟩ | ⟨hc13, h11⟩
  ·refine cond_t hf rfl hc13 ?_
   refine wp_skip ?_
   refine then_n ?_
   refine wp_seq ?_
   refine wp_block ?_
   obtain ⟨x16, h17, h11⟩ := bind_some h11
   refine seq_join (fun a w => ∃ (t14 : Bool), t14 = x16 ∧ Has 25 a [(0, vS (word1)), (3, vI (n5)), (21, .bool (t14))] ∧ Mem C w [] []) ?_ ?_
   ·refine region_pl ?_
    iterate 2 refine q_ hf rfl rfl rfl (e_move hf rfl) fun a hf => ?_
    obtain ⟨c18, hz19, h17⟩ := bind_some h17
    refine q_ hf rfl rfl rfl (e_indexS hf (x := word1) rfl rfl Tryz.underlying9 hz19) fun a hf => ?_
    obtain ⟨y20, hz21, h17⟩ := bind_some h17
    refine pl_l hf rfl rfl rfl (w_call hf Tryz.call131 rfl (r_spec_l01Small ⟨_, Sh C _ _, none_, hM.sh_lt, none_not, C.G, hM.g_lt, g_none, hM.tabs⟩ c18 _ hz21) ?_)
    rintro _ w22 ⟨rfl, hM2⟩
    obtain ⟨hM, hx23, hup24⟩ := hM.back hM2
    dsimp only [List.cons_append, List.nil_append] at hM hup24
    clear hM2
    refine ⟨_, rfl, fun a hf => ?_⟩
    refine q_ hf rfl rfl rfl (e_not hf rfl) fun a hf => ?_
    refine q_ hf rfl rfl rfl (e_move hf rfl) fun a hf => ?_
    rcases cond_some h17 with ⟨hc25, h17⟩ | ⟨hc25, h17⟩
    ·iterate 2 refine gq (wanted_t hf rfl rfl rfl rfl hc25) hf rfl rfl (e_move hf rfl) fun a hf => ?_
     obtain ⟨c26, hz27, h17⟩ := bind_some h17
     refine gq (wanted_t hf rfl rfl rfl rfl hc25) hf rfl rfl (e_indexS hf (x := word1) rfl rfl Tryz.underlying9 hz27) fun a hf => ?_
     obtain ⟨y28, hz29, h17⟩ := bind_some h17
     refine pl_gl (wanted_t hf rfl rfl rfl rfl hc25) hf rfl rfl (w_call hf Tryz.call132 rfl (r_spec_l03Capital ⟨_, Sh C _ _, none_, hM.sh_lt, none_not, C.G, hM.g_lt, g_none, hM.tabs⟩ c26 _ hz29) ?_)
     rintro _ w30 ⟨rfl, hM2⟩
     obtain ⟨hM, hx31, hup32⟩ := hM.back hM2
     dsimp only [List.cons_append, List.nil_append] at hM hup32
     clear hM2
     refine ⟨_, rfl, fun a hf => ?_⟩
     refine gq (wanted_t hf rfl rfl rfl rfl hc25) hf rfl rfl (e_not hf rfl) fun a hf => ?_
     refine q_ hf rfl rfl rfl (e_pick_t hf rfl hc25 rfl) fun a hf => ?_
     refine pl_nil ?_
     obtain rfl := some_inj h17
     refine then_n ?_
     exact ⟨(!y28), rfl, hf.keep ⟨rfl, rfl, rfl, trivial⟩, hM.pick [] rfl⟩
    iterate 5 refine pl_gs (wanted_f hf rfl rfl rfl rfl hc25) hf rfl rfl fun a hf => ?_
    refine q_ hf rfl rfl rfl (e_pick_f hf rfl hc25 rfl) fun a hf => ?_
    refine pl_nil ?_
    obtain rfl := some_inj h17
    refine then_n ?_
    exact ⟨false, rfl, hf.keep ⟨rfl, rfl, rfl, trivial⟩, hM.pick [] rfl⟩
   rintro a w35 ⟨t14, rfl, hf, hM⟩
   try dsimp only at h11
   rcases cond_some h11 with ⟨hc36, h11⟩ | ⟨hc36, h11⟩
   ·refine cond_t hf rfl hc36 ?_
    refine wp_seq ?_
    refine region_pl ?_
    refine q_ hf rfl rfl rfl (e_assign hf rfl) fun a hf => ?_
    refine pl_nil ?_
    refine then_n ?_
    refine wp_ret ?_
    refine blk_r ?_
    refine then_r ?_
    obtain rfl := some_inj h11
    obtain rfl := hd12 _ rfl
    try dsimp only at h4
    refine then_r ?_
    refine blk_r ?_
    obtain rfl := some_inj h4
    try dsimp only at h
    refine then_r ?_
    obtain rfl := some_inj h
    exact leave1 hf rfl rfl ⟨rfl, hM.fin⟩
   refine cond_f hf rfl hc36 ?_
   refine wp_skip ?_
   refine blk_n ?_
   refine then_n ?_
   refine region_pl ?_
   refine q_ hf rfl rfl rfl (e_move hf rfl) fun a hf => ?_
   obtain ⟨z37, hz38, h11⟩ := bind_some h11
   refine q_ hf rfl rfl rfl (e_add hf rfl rfl hz38) fun a hf => ?_
   refine q_ hf rfl rfl rfl (e_assign hf rfl) fun a hf => ?_
   refine pl_nil ?_
   obtain rfl := some_inj h11
   refine then_n ⟨_, rfl, ?_⟩
   exact ⟨z37, rfl, hf.keep ⟨rfl, rfl, trivial⟩, hM.pick [] rfl, (chk_R hz38)⟩
  refine cond_f hf rfl hc13 ?_
  refine wp_exit ?_
  refine then_x ?_
  obtain rfl := some_inj h11
  obtain rfl := hd12 _ rfl
  try dsimp only at h4
  refine then_x ?_
  refine exit_hit ?_
  obtain rfl := some_inj h4
  refine then_n ?_
  exact ⟨rfl, hf.keep ⟨rfl, trivial⟩, hM.pick [] rfl⟩
 rintro a w45 ⟨rfl, hf, hM⟩
 try dsimp only at h
 refine wp_seq ?_
 refine region_pl ?_
 refine q_ hf rfl rfl rfl (e_move hf rfl) fun a hf => ?_
 refine q_ hf rfl rfl rfl (e_lenS hf (x := word1) rfl Tryz.underlying9) fun a hf => ?_
 obtain ⟨y46, hz47, h⟩ := bind_some h
 refine pl_l hf rfl rfl rfl (w_call hf Tryz.call86 rfl (r_spec_l00In ⟨_, Sh C _ _, none_, hM.sh_lt, none_not, C.G, hM.g_lt, g_none, hM.tabs⟩ (word1.length : Int) (R64_len hp2) 1 (R64_lit rfl) 12 (R64_lit rfl) _ hz47) ?_)
 rintro _ w48 ⟨rfl, hM2⟩
 obtain ⟨hM, hx49, hup50⟩ := hM.back hM2
 dsimp only [List.cons_append, List.nil_append] at hM hup50
 clear hM2
 refine ⟨_, rfl, fun a hf => ?_⟩
 refine q_ hf rfl rfl rfl (e_assign hf rfl) fun a hf => ?_
 refine pl_nil ?_
 refine then_n ?_
 refine wp_ret ?_
 obtain rfl := some_inj h
 exact leave1 hf rfl rfl ⟨rfl, hM.fin⟩

set_option maxRecDepth 100000 in
set_option maxHeartbeats 4000000 in
theorem r_spec_l12Word (C : Cx) (word1 : Str) (hp2 : word1.length ≤ maxLen) (r : Bool) (h : m_spec_l12Word word1 = some r) :
    Calls Tryz.prog 87 #[vS (word1)] C.w0 fun e w => e = .returned (.bool (r)) ∧ Mem C w [] [] := by
 have hM := Mem.begin C [] trivial
 refine enter Tryz.func87 rfl Tryz.ntmps87 rfl fun a hf => ?_
 unfold m_spec_l12Word at h
 refine wp_seq ?_
 refine region_pl ?_
 refine q_ hf rfl rfl rfl (e_assign hf rfl) fun a hf => ?_
 refine pl_nil ?_
 refine then_n ?_
 obtain ⟨x5, h6, h⟩ := bind_some h
 refine seq_join (fun a w => ∃ (t3 : Bool), t3 = x5 ∧ Has 10 a [(2, .bool (t3))] ∧ Mem C w [] []) ?_ ?_
 ·refine region_pl ?_
  refine q_ hf rfl rfl rfl (e_move hf rfl) fun a hf => ?_
  refine q_ hf rfl rfl rfl (e_lenS hf (x := word1) rfl Tryz.underlying9) fun a hf => ?_
  refine q_ hf rfl rfl rfl (e_gt hf (x := (word1.length : Int)) (y := 1) rfl rfl) fun a hf => ?_
  refine q_ hf rfl rfl rfl (e_move hf rfl) fun a hf => ?_
  rcases cond_some h6 with ⟨hc7, h6⟩ | ⟨hc7, h6⟩
  ·refine gq (wanted_t hf rfl rfl rfl rfl hc7) hf rfl rfl (e_move hf rfl) fun a hf => ?_
   obtain ⟨y8, hz9, h6⟩ := bind_some h6
   refine pl_gl (wanted_t hf rfl rfl rfl rfl hc7) hf rfl rfl (w_call hf Tryz.call134 rfl (r_spec_l03Placed ⟨_, Sh C _ _, none_, hM.sh_lt, none_not, C.G, hM.g_lt, g_none, hM.tabs⟩ word1 hp2 _ hz9) ?_)
   rintro _ w10 ⟨rfl, hM2⟩
   obtain ⟨hM, hx11, hup12⟩ := hM.back hM2
   dsimp only [List.cons_append, List.nil_append] at hM hup12
   clear hM2
   refine ⟨_, rfl, fun a hf => ?_⟩
   refine q_ hf rfl rfl rfl (e_pick_t hf rfl hc7 rfl) fun a hf => ?_
   refine q_ hf rfl rfl rfl (e_assign hf rfl) fun a hf => ?_
   refine pl_nil ?_
   obtain rfl := some_inj h6
   refine then_n ?_
   exact ⟨y8, rfl, hf.keep ⟨rfl, trivial⟩, hM.pick [] rfl⟩
  iterate 2 refine pl_gs (wanted_f hf rfl rfl rfl rfl hc7) hf rfl rfl fun a hf => ?_
  refine q_ hf rfl rfl rfl (e_pick_f hf rfl hc7 rfl) fun a hf => ?_
  refine q_ hf rfl rfl rfl (e_assign hf rfl) fun a hf => ?_
  refine pl_nil ?_
  obtain rfl := some_inj h6
  refine then_n ?_
  exact ⟨false, rfl, hf.keep ⟨rfl, trivial⟩, hM.pick [] rfl⟩
 rintro a w15 ⟨t3, rfl, hf, hM⟩
 try dsimp only at h
 refine wp_ret ?_
 obtain rfl := some_inj h
 exact leave1 hf rfl rfl ⟨rfl, hM.fin⟩

set_option maxRecDepth 100000 in
set_option maxHeartbeats 4000000 in
theorem r_spec_l12Plain (C : Cx) (p1 : Play) (hp2 : R64 p1.Row) (hp3 : R64 p1.Col) (hp4 : p1.Word.length ≤ maxLen) (r : Bool) (h : m_spec_l12Plain p1 = some r) :
    Calls Tryz.prog 152 #[.agg #[vI (p1.Row), vI (p1.Col), .bool (p1.Down), vS (p1.Word)]] C.w0 fun e w => e = .returned (.bool (r)) ∧ Mem C w [] [] := by
 have hM := Mem.begin C [] trivial
 refine enter Tryz.func152 rfl Tryz.ntmps152 rfl fun a hf => ?_
 unfold m_spec_l12Plain at h
 refine wp_seq ?_
 refine region_pl ?_
 refine pl_l hf rfl rfl rfl (w_box hf hM (cs := [vI (p1.Row), vI (p1.Col), .bool (p1.Down), vS (p1.Word)]) rfl rfl fun b5 w6 hx7 hM a hf => ?_)
 refine q_ hf rfl rfl rfl (e_assign hf rfl) fun a hf => ?_
 refine pl_nil ?_
 refine then_n ?_
 obtain ⟨x11, h12, h⟩ := bind_some h
 refine seq_join (fun a w => ∃ (t9 : Bool), t9 = x11 ∧ Has 16 a [(2, .bool (t9))] ∧ Mem C w [.box b5 [vI (p1.Row), vI (p1.Col), .bool (p1.Down), vS (p1.Word)] 41] []) ?_ ?_
 ·refine region_pl ?_
  refine q_ hf rfl rfl rfl (e_field hf rfl Tryz.underlying41 rfl Tryz.sizeOf2 (o' := 0) rfl) fun a hf => ?_
  refine q_ hf rfl rfl rfl (e_load1 hf rfl Tryz.isAgg2 (hM.boxCell (k := 0) rfl rfl)) fun a hf => ?_
  obtain ⟨y13, hz14, h12⟩ := bind_some h12
  refine pl_l hf rfl rfl rfl (w_call hf Tryz.call86 rfl (r_spec_l00In ⟨_, Sh C _ _, none_, hM.sh_lt, none_not, C.G, hM.g_lt, g_none, hM.tabs⟩ p1.Row hp2 0 (R64_lit rfl) 14 (R64_lit rfl) _ hz14) ?_)
  rintro _ w15 ⟨rfl, hM2⟩
  obtain ⟨hM, hx16, hup17⟩ := hM.back hM2
  dsimp only [List.cons_append, List.nil_append] at hM hup17
  clear hM2
  refine ⟨_, rfl, fun a hf => ?_⟩
  refine q_ hf rfl rfl rfl (e_move hf rfl) fun a hf => ?_
  rcases cond_some h12 with ⟨hc18, h12⟩ | ⟨hc18, h12⟩
  ·refine gq (wanted_t hf rfl rfl rfl rfl hc18) hf rfl rfl (e_field hf rfl Tryz.underlying41 rfl Tryz.sizeOf2 (o' := 1) rfl) fun a hf => ?_
   refine gq (wanted_t hf rfl rfl rfl rfl hc18) hf rfl rfl (e_load1 hf rfl Tryz.isAgg2 (hM.boxCell (k := 0) rfl rfl)) fun a hf => ?_
   obtain ⟨y19, hz20, h12⟩ := bind_some h12
   refine pl_gl (wanted_t hf rfl rfl rfl rfl hc18) hf rfl rfl (w_call hf Tryz.call86 rfl (r_spec_l00In ⟨_, Sh C _ _, none_, hM.sh_lt, none_not, C.G, hM.g_lt, g_none, hM.tabs⟩ p1.Col hp3 0 (R64_lit rfl) 14 (R64_lit rfl) _ hz20) ?_)
   rintro _ w21 ⟨rfl, hM2⟩
   obtain ⟨hM, hx22, hup23⟩ := hM.back hM2
   dsimp only [List.cons_append, List.nil_append] at hM hup23
   clear hM2
   refine ⟨_, rfl, fun a hf => ?_⟩
   refine q_ hf rfl rfl rfl (e_pick_t hf rfl hc18 rfl) fun a hf => ?_
   refine q_ hf rfl rfl rfl (e_move hf rfl) fun a hf => ?_
   rcases cond_some h12 with ⟨hc24, h12⟩ | ⟨hc24, h12⟩
   ·refine gq (wanted_t hf rfl rfl rfl rfl hc24) hf rfl rfl (e_field hf rfl Tryz.underlying41 rfl Tryz.sizeOf9 (o' := 3) rfl) fun a hf => ?_
    refine gq (wanted_t hf rfl rfl rfl rfl hc24) hf rfl rfl (e_load1 hf rfl Tryz.isAgg9 (hM.boxCell (k := 0) rfl rfl)) fun a hf => ?_
    obtain ⟨y25, hz26, h12⟩ := bind_some h12
    refine pl_gl (wanted_t hf rfl rfl rfl rfl hc24) hf rfl rfl (w_call hf Tryz.call87 rfl (r_spec_l12Word ⟨_, Sh C _ _, none_, hM.sh_lt, none_not, C.G, hM.g_lt, g_none, hM.tabs⟩ p1.Word hp4 _ hz26) ?_)
    rintro _ w27 ⟨rfl, hM2⟩
    obtain ⟨hM, hx28, hup29⟩ := hM.back hM2
    dsimp only [List.cons_append, List.nil_append] at hM hup29
    clear hM2
    refine ⟨_, rfl, fun a hf => ?_⟩
    refine q_ hf rfl rfl rfl (e_pick_t hf rfl hc24 rfl) fun a hf => ?_
    refine q_ hf rfl rfl rfl (e_assign hf rfl) fun a hf => ?_
    refine pl_nil ?_
    obtain rfl := some_inj h12
    refine then_n ?_
    exact ⟨y25, rfl, hf.keep ⟨rfl, trivial⟩, hM.pick [] rfl⟩
   iterate 3 refine pl_gs (wanted_f hf rfl rfl rfl rfl hc24) hf rfl rfl fun a hf => ?_
   refine q_ hf rfl rfl rfl (e_pick_f hf rfl hc24 rfl) fun a hf => ?_
   refine q_ hf rfl rfl rfl (e_assign hf rfl) fun a hf => ?_
   refine pl_nil ?_
   obtain rfl := some_inj h12
   refine then_n ?_
   exact ⟨false, rfl, hf.keep ⟨rfl, trivial⟩, hM.pick [] rfl⟩
  iterate 3 refine pl_gs (wanted_f hf rfl rfl rfl rfl hc18) hf rfl rfl fun a hf => ?_
  refine q_ hf rfl rfl rfl (e_pick_f hf rfl hc18 rfl) fun a hf => ?_
  refine q_ hf rfl rfl rfl (e_move hf rfl) fun a hf => ?_
  iterate 3 refine pl_gs (wanted_f hf rfl rfl rfl rfl rfl) hf rfl rfl fun a hf => ?_
  refine q_ hf rfl rfl rfl (e_pick_f hf rfl rfl rfl) fun a hf => ?_
  refine q_ hf rfl rfl rfl (e_assign hf rfl) fun a hf => ?_
  refine pl_nil ?_
  obtain rfl := some_inj h12
  refine then_n ?_
  exact ⟨false, rfl, hf.keep ⟨rfl, trivial⟩, hM.pick [] rfl⟩
 rintro a w33 ⟨t9, rfl, hf, hM⟩
 try dsimp only at h
 refine wp_ret ?_
 obtain rfl := some_inj h
 have hM := hM.outs (own' := []) 0 rfl
 exact leave1 hf rfl rfl ⟨rfl, hM.fin⟩

set_option maxRecDepth 100000 in
set_option maxHeartbeats 4000000 in
theorem r_spec_l12Read (C : Cx) (s1 : Str) (hp2 : s1.length ≤ maxLen) (r : (Play × Bool)) (h : m_spec_l12Read s1 = some r) :
    Calls Tryz.prog 113 #[vS (s1)] C.w0 fun e w => e = .returned (.tuple #[.agg #[vI (r.1.Row), vI (r.1.Col), .bool (r.1.Down), vS (r.1.Word)], .bool (r.2)]) ∧ Mem C w [] [] ∧ R64 r.1.Row ∧ R64 r.1.Col ∧ r.1.Word.length ≤ maxLen := by
 have hM := Mem.begin C [] trivial
 refine enter Tryz.func113 rfl Tryz.ntmps113 rfl fun a hf => ?_
 unfold m_spec_l12Read at h
 refine wp_seq ?_
 refine region_pl ?_
 refine pl_l hf rfl rfl rfl (w_alloc hM (cs := [vI (0), vI (0), .bool (false), vS (([] : Str))]) Tryz.zeroValue41 rfl fun b3 w4 hx5 hM a hf => ?_)
 refine q_ hf rfl rfl rfl (e_assign hf rfl) fun a hf => ?_
 refine pl_nil ?_
 refine then_n ?_
 refine wp_seq ?_
 refine region_pl ?_
 refine q_ hf rfl rfl rfl (e_move hf rfl) fun a hf => ?_
 obtain ⟨y7, hz8, h⟩ := bind_some h
 refine pl_l hf rfl rfl rfl (w_call hf Tryz.call68 rfl (r_spec_l01Split ⟨_, Sh C _ _, none_, hM.sh_lt, none_not, C.G, hM.g_lt, g_none, hM.tabs⟩ s1 hp2 32 _ hz8) ?_)
 rintro _ w11 ⟨A9, c10, rfl, hM2⟩
 obtain ⟨hM, hx12, hup13⟩ := hM.back hM2
 dsimp only [List.cons_append, List.nil_append] at hM hup13
 clear hM2
 refine ⟨_, rfl, fun a hf => ?_⟩
 refine q_ hf rfl rfl rfl (e_assign hf rfl) fun a hf => ?_
 refine pl_nil ?_
 refine then_n ?_
 refine wp_seq ?_
 obtain ⟨x16, h17, h⟩ := bind_some h
 refine seq_join (fun a w => ∃ (t14 : Bool), t14 = x16 ∧ Has 71 a [(2, vP b3 (0)), (4, vL A9 (y7) c10), (22, .bool (t14))] ∧ Mem C w [.row strRep A9 c10 9 y7 true, .box b3 [vI (0), vI (0), .bool (false), vS (([] : Str))] 41] []) ?_ ?_
 ·refine region_pl ?_
  refine q_ hf rfl rfl rfl (e_move hf rfl) fun a hf => ?_
  have hl18 := row_len (hM.ownAt (k := 0) rfl)
  refine q_ hf rfl rfl rfl (e_lenL hf (x := y7) rfl Tryz.underlying91) fun a hf => ?_
  refine q_ hf rfl rfl rfl (e_ne hf (x := (y7.length : Int)) (y := 2) rfl rfl) fun a hf => ?_
  refine q_ hf rfl rfl rfl (e_move hf rfl) fun a hf => ?_
  rcases cond_some h17 with ⟨hc19, h17⟩ | ⟨hc19, h17⟩
  ·iterate 5 refine pl_gs (wanted_f hf rfl rfl rfl rfl hc19) hf rfl rfl fun a hf => ?_
   refine q_ hf rfl rfl rfl (e_pick_t hf rfl hc19 rfl) fun a hf => ?_
   refine pl_nil ?_
   obtain rfl := some_inj h17
   refine then_n ?_
   exact ⟨true, rfl, hf.keep ⟨rfl, rfl, rfl, trivial⟩, hM.pick [] rfl⟩
  refine gq (wanted_t hf rfl rfl rfl rfl hc19) hf rfl rfl (e_move hf rfl) fun a hf => ?_
  obtain ⟨e21, hz22, h17⟩ := bind_some h17
  obtain ⟨b27, _, hA28, h23, h24, hr25, hcell26⟩ := hM.rowElemN (k := 0) rfl (n := 1) rfl hz22
  obtain ⟨rfl, hv29⟩ := hr25
  refine gq (wanted_t hf rfl rfl rfl rfl hc19) hf rfl rfl (e_indexAddr (A := A9) (b := b27) (o := 0) (xs := y7) (i := 0) hf hA28 rfl rfl Tryz.underlying91 Tryz.sizeOf9 h23 h24) fun a hf => ?_
  refine gq (wanted_t hf rfl rfl rfl rfl hc19) hf rfl rfl (e_load1 hf rfl Tryz.isAgg9 (hcell26 0 _ rfl)) fun a hf => ?_
  refine gq (wanted_t hf rfl rfl rfl rfl hc19) hf rfl rfl (e_lenS hf (x := e21) rfl Tryz.underlying9) fun a hf => ?_
  refine gq (wanted_t hf rfl rfl rfl rfl hc19) hf rfl rfl (e_lt hf (x := (e21.length : Int)) (y := 2) rfl rfl) fun a hf => ?_
  refine q_ hf rfl rfl rfl (e_pick_f hf rfl hc19 rfl) fun a hf => ?_
  refine pl_nil ?_
  obtain rfl := some_inj h17
  refine then_n ?_
  exact ⟨(decide ((e21.length : Int) < 2)), rfl, hf.keep ⟨rfl, rfl, rfl, trivial⟩, hM.pick [] rfl⟩
 rintro a w31 ⟨t14, rfl, hf, hM⟩
 try dsimp only at h
 rcases cond_some h with ⟨hc32, h⟩ | ⟨hc32, h⟩
 ·refine cond_t hf rfl hc32 ?_
  refine wp_seq ?_
  refine region_pl ?_
  refine q_ hf rfl rfl rfl (e_build hf Tryz.zeroValue41 Tryz.underlying41 (bp_41 _ Tryz.underlying41.symm) rfl (cs := #[vI (0), vI (0), .bool (false), vS (([] : Str))]) (by kernel_rfl)) fun a hf => ?_
  refine pl_0 hf rfl rfl (w_store hf hM (us := [vI (0), vI (0), .bool (false), vS (([] : Str))]) (cs' := [vI (0), vI (0), .bool (false), vS (([] : Str))]) rfl rfl (k := 1) rfl rfl Tryz.sizeOf41 rfl rfl rfl fun w33 hM => ?_)
  dsimp only [List.set] at hM
  refine q_ hf rfl rfl rfl (e_assign hf rfl) fun a hf => ?_
  refine pl_nil ?_
  refine then_n ?_
  refine wp_ret ?_
  refine then_r ?_
  obtain rfl := some_inj h
  have hres36 := leaveV2 (P := Tryz.prog) (w := w33) Tryz.results113 (res_agg hf rfl ⟨Tryz.isAgg41, Tryz.sizeOf41⟩ (us := [vI (0), vI (0), .bool (false), vS (([] : Str))]) rfl (hM.boxSub (k := 1) (o := 0) rfl rfl)) (res_tmp hf rfl)
  have hM := hM.outs (own' := []) 0 rfl
  exact bodyPost_ret hres36 hf.defers ⟨rfl, hM.fin, (R64_lit rfl), (R64_lit rfl), (lit_len rfl)⟩
 refine cond_f hf rfl hc32 ?_
 refine wp_skip ?_
 refine then_n ?_
 refine wp_seq ?_
 refine region_pl ?_
 refine q_ hf rfl rfl rfl (e_move hf rfl) fun a hf => ?_
 obtain ⟨e37, hz38, h⟩ := bind_some h
 obtain ⟨b43, _, hA44, h39, h40, hr41, hcell42⟩ := hM.rowElemN (k := 0) rfl (n := 1) rfl hz38
 obtain ⟨rfl, hv45⟩ := hr41
 refine q_ hf rfl rfl rfl (e_indexAddr (A := A9) (b := b43) (o := 0) (xs := y7) (i := 0) hf hA44 rfl rfl Tryz.underlying91 Tryz.sizeOf9 h39 h40) fun a hf => ?_
 refine q_ hf rfl rfl rfl (e_load1 hf rfl Tryz.isAgg9 (hcell42 0 _ rfl)) fun a hf => ?_
 refine q_ hf rfl rfl rfl (e_assign hf rfl) fun a hf => ?_
 refine pl_nil ?_
 refine then_n ?_
 refine wp_seq ?_
 obtain ⟨w46, hw⟩ : ∃ x, x = w31.drew := ⟨_, rfl⟩
 refine region_pi (.q 0 (.q 1 (.q 2 (.q 3 (.q 4 (.b 5 7 (.q 6 (.l 7 (.l 8 (.nil)))) (.l 5 (.q 6 (.l 8 (.nil)))))))))) (Ext w46) rfl (by kernel_rfl) ?_
 have hM := hM.drew
 rw [← hw] at hM ⊢
 clear hw
 refine pi_q hf rfl rfl rfl rfl (Ext.refl _) (e_move hf rfl) fun a hf => ?_
 obtain ⟨e47, hz48, h⟩ := bind_some h
 obtain ⟨b53, _, hA54, h49, h50, hr51, hcell52⟩ := hM.rowElemN (k := 0) rfl (n := 1) rfl hz48
 obtain ⟨rfl, hv55⟩ := hr51
 refine pi_q hf rfl rfl rfl rfl (Ext.refl _) (e_indexAddr (A := A9) (b := b53) (o := 0) (xs := y7) (i := 1) hf hA54 rfl rfl Tryz.underlying91 Tryz.sizeOf9 h49 h50) fun a hf => ?_
 refine pi_q hf rfl rfl rfl rfl (Ext.refl _) (e_load1 hf rfl Tryz.isAgg9 (hcell52 0 _ rfl)) fun a hf => ?_
 refine pi_q hf rfl rfl rfl rfl (Ext.refl _) (e_move hf rfl) fun a hf => ?_
 obtain ⟨c56, hz57, h⟩ := bind_some h
 refine pi_q hf rfl rfl rfl rfl (Ext.refl _) (e_indexS hf (x := e37) rfl rfl Tryz.underlying9 hz57) fun a hf => ?_
 obtain ⟨y58, hz59, h⟩ := bind_some h
 refine pi_two ?_ ?_
 ·refine pi_l hf rfl rfl rfl rfl (w_call hf Tryz.call131 rfl (r_spec_l01Small ⟨_, Sh C _ _, none_, hM.sh_lt, none_not, C.G, hM.g_lt, g_none, hM.tabs⟩ c56 _ hz59) ?_)
  rintro _ w67 ⟨rfl, hM2⟩
  obtain ⟨hM, hx68, hup69⟩ := hM.back hM2
  dsimp only [List.cons_append, List.nil_append] at hM hup69
  clear hM2
  refine ⟨_, rfl, Ext w67, fun _ h => Ext.trans hx68 h, Ext.refl _, fun a hf => ?_⟩
  refine pi_q hf rfl rfl rfl rfl (Ext.refl _) (e_build hf Tryz.zeroValue41 Tryz.underlying41 (bp_41 _ Tryz.underlying41.symm) rfl (cs := #[vI (0), vI (0), .bool (y58), vS (e47)]) (by kernel_rfl)) fun a hf => ?_
  refine pi_one ?_
  refine pi_l hf rfl rfl rfl rfl (w_alloc hM (cs := [vI (0), vI (0), .bool (false), vS (([] : Str))]) Tryz.zeroValue41 rfl fun b70 w71 hx72 hM => ⟨Ext w71, fun _ h => Ext.trans hx72 h, Ext.refl _, fun a hf => ?_⟩)
  refine pi_one ?_
  refine pi_z0 hf rfl rfl rfl (by kernel_rfl) (w_store hf hM (us := [vI (0), vI (0), .bool (y58), vS (e47)]) (cs' := [vI (0), vI (0), .bool (y58), vS (e47)]) rfl rfl (k := 0) rfl rfl Tryz.sizeOf41 rfl rfl rfl fun w74 hM => ?_)
  dsimp only [List.set] at hM
  refine pi_nil ?_
  refine then_n ?_
  refine wp_seq ?_
  refine region_pl ?_
  iterate 2 refine q_ hf rfl rfl rfl (e_move hf rfl) fun a hf => ?_
  refine q_ hf rfl rfl rfl (e_lenS hf (x := e37) rfl Tryz.underlying9) fun a hf => ?_
  obtain ⟨z77, hz78, h⟩ := bind_some h
  refine q_ hf rfl rfl rfl (e_sub hf rfl rfl hz78) fun a hf => ?_
  obtain ⟨c79, hz80, h⟩ := bind_some h
  refine q_ hf rfl rfl rfl (e_indexS hf (x := e37) rfl rfl Tryz.underlying9 hz80) fun a hf => ?_
  refine q_ hf rfl rfl rfl (e_assign hf rfl) fun a hf => ?_
  refine pl_nil ?_
  refine then_n ?_
  refine wp_seq ?_
  refine region_pl ?_
  iterate 2 refine q_ hf rfl rfl rfl (e_move hf rfl) fun a hf => ?_
  refine q_ hf rfl rfl rfl (e_lenS hf (x := e37) rfl Tryz.underlying9) fun a hf => ?_
  obtain ⟨z81, hz82, h⟩ := bind_some h
  refine q_ hf rfl rfl rfl (e_sub hf rfl rfl hz82) fun a hf => ?_
  obtain ⟨s83, hz84, h⟩ := bind_some h
  refine q_ hf rfl rfl rfl (e_subSh hf (x := e37) rfl rfl Tryz.underlying9 hz84) fun a hf => ?_
  refine q_ hf rfl rfl rfl (e_assign hf rfl) fun a hf => ?_
  refine pl_nil ?_
  refine then_n ?_
  obtain ⟨x89, h90, h⟩ := bind_some h
  refine seq_join (fun a w => ∃ (digits85 : UInt8) (row87 : Str), (digits85, row87) = x89 ∧ Has 71 a [(2, vP b3 (0)), (6, vP b70 (0)), (7, vB (digits85)), (8, vS (row87))] ∧ Mem C w [.box b70 [vI (0), vI (0), .bool (y58), vS (e47)] 41, .row strRep A9 c10 9 y7 true, .box b3 [vI (0), vI (0), .bool (false), vS (([] : Str))] 41] [] ∧ row87.length ≤ maxLen) ?_ ?_
  ·refine wp_seq ?_
   refine region_pl ?_
   refine q_ hf rfl rfl rfl (e_field hf rfl Tryz.underlying41 rfl Tryz.sizeOf4 (o' := 2) rfl) fun a hf => ?_
   refine q_ hf rfl rfl rfl (e_load1 hf rfl Tryz.isAgg4 (hM.boxCell (k := 0) rfl rfl)) fun a hf => ?_
   refine pl_nil ?_
   refine then_n ?_
   rcases cond_some h90 with ⟨hc91, h90⟩ | ⟨hc91, h90⟩
   ·refine cond_t hf rfl hc91 ?_
    refine wp_seq ?_
    refine region_pl ?_
    refine q_ hf rfl rfl rfl (e_move hf rfl) fun a hf => ?_
    obtain ⟨c92, hz93, h90⟩ := bind_some h90
    refine q_ hf rfl rfl rfl (e_indexS hf (x := e37) rfl rfl Tryz.underlying9 hz93) fun a hf => ?_
    refine q_ hf rfl rfl rfl (e_assign hf rfl) fun a hf => ?_
    refine pl_nil ?_
    refine then_n ?_
    refine region_pl ?_
    refine q_ hf rfl rfl rfl (e_move hf rfl) fun a hf => ?_
    obtain ⟨s94, hz95, h90⟩ := bind_some h90
    refine q_ hf rfl rfl rfl (e_subSl hf (x := e37) rfl rfl Tryz.underlying9 hz95) fun a hf => ?_
    refine q_ hf rfl rfl rfl (e_assign hf rfl) fun a hf => ?_
    refine pl_nil ?_
    obtain rfl := some_inj h90
    refine then_n ?_
    exact ⟨c92, s94, rfl, hf.keep ⟨rfl, rfl, rfl, rfl, trivial⟩, hM.pick [] rfl, (sub_len hz95 hv45)⟩
   refine cond_f hf rfl hc91 ?_
   refine wp_skip ?_
   obtain rfl := some_inj h90
   refine then_n ?_
   exact ⟨c79, s83, rfl, hf.keep ⟨rfl, rfl, rfl, rfl, trivial⟩, hM.pick [] rfl, (sub_len hz84 hv45)⟩
  rintro a w98 ⟨digits85, row87, rfl, hf, hM, hv88⟩
  try dsimp only at h
  refine wp_seq ?_
  refine region_pl ?_
  refine q_ hf rfl rfl rfl (e_move hf rfl) fun a hf => ?_
  obtain ⟨y99, hz100, h⟩ := bind_some h
  refine pl_l hf rfl rfl rfl (w_call hf Tryz.call69 rfl (r_spec_l01Number ⟨_, Sh C _ _, none_, hM.sh_lt, none_not, C.G, hM.g_lt, g_none, hM.tabs⟩ row87 hv88 _ hz100) ?_)
  rintro _ w102 ⟨rfl, hM2, hv101⟩
  obtain ⟨hM, hx103, hup104⟩ := hM.back hM2
  dsimp only [List.cons_append, List.nil_append] at hM hup104
  clear hM2
  refine ⟨_, rfl, fun a hf => ?_⟩
  refine q_ hf rfl rfl rfl (e_move hf rfl) fun a hf => ?_
  iterate 2 refine q_ hf rfl rfl rfl (e_extract hf rfl rfl) fun a hf => ?_
  iterate 2 refine q_ hf rfl rfl rfl (e_assign hf rfl) fun a hf => ?_
  refine pl_nil ?_
  refine then_n ?_
  refine wp_seq ?_
  refine region_pl ?_
  refine q_ hf rfl rfl rfl (e_move hf rfl) fun a hf => ?_
  obtain ⟨z105, hz106, h⟩ := bind_some h
  refine q_ hf rfl rfl rfl (e_sub hf rfl rfl hz106) fun a hf => ?_
  refine q_ hf rfl rfl rfl (e_field hf rfl Tryz.underlying41 rfl Tryz.sizeOf2 (o' := 0) rfl) fun a hf => ?_
  refine pl_0 hf rfl rfl (w_store hf hM (us := [vI (z105)]) (cs' := [vI (z105), vI (0), .bool (y58), vS (e47)]) rfl rfl (k := 0) rfl rfl Tryz.sizeOf2 rfl rfl rfl fun w107 hM => ?_)
  dsimp only [List.set] at hM
  refine pl_nil ?_
  refine then_n ?_
  refine wp_seq ?_
  refine region_pl ?_
  refine q_ hf rfl rfl rfl (e_move hf rfl) fun a hf => ?_
  refine q_ hf rfl rfl rfl (e_convBI hf (x := digits85) rfl Tryz.underlying5 Tryz.underlying2) fun a hf => ?_
  obtain ⟨z110, hz111, h⟩ := bind_some h
  refine q_ hf rfl rfl rfl (e_sub hf rfl rfl hz111) fun a hf => ?_
  refine q_ hf rfl rfl rfl (e_field hf rfl Tryz.underlying41 rfl Tryz.sizeOf2 (o' := 1) rfl) fun a hf => ?_
  refine pl_0 hf rfl rfl (w_store hf hM (us := [vI (z110)]) (cs' := [vI (z105), vI (z110), .bool (y58), vS (e47)]) rfl rfl (k := 0) rfl rfl Tryz.sizeOf2 rfl rfl rfl fun w112 hM => ?_)
  dsimp only [List.set] at hM
  refine pl_nil ?_
  refine then_n ?_
  refine wp_seq ?_
  obtain ⟨x117, h118, h⟩ := bind_some h
  refine seq_join (fun a w => ∃ (t115 : Bool), t115 = x117 ∧ Has 71 a [(2, vP b3 (0)), (6, vP b70 (0)), (68, .bool (t115))] ∧ Mem C w [.box b70 [vI (z105), vI (z110), .bool (y58), vS (e47)] 41, .row strRep A9 c10 9 y7 true, .box b3 [vI (0), vI (0), .bool (false), vS (([] : Str))] 41] []) ?_ ?_
  ·refine region_pl ?_
   refine q_ hf rfl rfl rfl (e_move hf rfl) fun a hf => ?_
   refine q_ hf rfl rfl rfl (e_not hf rfl) fun a hf => ?_
   refine q_ hf rfl rfl rfl (e_move hf rfl) fun a hf => ?_
   rcases cond_some h118 with ⟨hc119, h118⟩ | ⟨hc119, h118⟩
   ·iterate 3 refine pl_gs (wanted_f hf rfl rfl rfl rfl hc119) hf rfl rfl fun a hf => ?_
    refine q_ hf rfl rfl rfl (e_pick_t hf rfl hc119 rfl) fun a hf => ?_
    refine pl_nil ?_
    obtain rfl := some_inj h118
    refine then_n ?_
    exact ⟨true, rfl, hf.keep ⟨rfl, rfl, rfl, trivial⟩, hM.pick [] rfl⟩
   refine gq (wanted_t hf rfl rfl rfl rfl hc119) hf rfl rfl (e_loadA hf (us := [vI (z105), vI (z110), .bool (y58), vS (e47)]) rfl ⟨Tryz.isAgg41, Tryz.sizeOf41⟩ rfl (hM.boxSub (k := 0) (us := [vI (z105), vI (z110), .bool (y58), vS (e47)]) (o := 0) rfl rfl)) fun a hf => ?_
   obtain ⟨y121, hz122, h118⟩ := bind_some h118
   refine pl_gl (wanted_t hf rfl rfl rfl rfl hc119) hf rfl rfl (w_call hf Tryz.call152 rfl (r_spec_l12Plain ⟨_, Sh C _ _, none_, hM.sh_lt, none_not, C.G, hM.g_lt, g_none, hM.tabs⟩ (⟨z105, z110, y58, e47⟩ : Play) (chk_R hz106) (chk_R hz111) hv55 _ hz122) ?_)
   rintro _ w123 ⟨rfl, hM2⟩
   obtain ⟨hM, hx124, hup125⟩ := hM.back hM2
   dsimp only [List.cons_append, List.nil_append] at hM hup125
   clear hM2
   refine ⟨_, rfl, fun a hf => ?_⟩
   refine gq (wanted_t hf rfl rfl rfl rfl hc119) hf rfl rfl (e_not hf rfl) fun a hf => ?_
   refine q_ hf rfl rfl rfl (e_pick_f hf rfl hc119 rfl) fun a hf => ?_
   refine pl_nil ?_
   obtain rfl := some_inj h118
   refine then_n ?_
   exact ⟨(!y121), rfl, hf.keep ⟨rfl, rfl, rfl, trivial⟩, hM.pick [] rfl⟩
  rintro a w127 ⟨t115, rfl, hf, hM⟩
  try dsimp only at h
  rcases cond_some h with ⟨hc128, h⟩ | ⟨hc128, h⟩
  ·refine cond_t hf rfl hc128 ?_
   refine wp_seq ?_
   refine region_pl ?_
   refine q_ hf rfl rfl rfl (e_build hf Tryz.zeroValue41 Tryz.underlying41 (bp_41 _ Tryz.underlying41.symm) rfl (cs := #[vI (0), vI (0), .bool (false), vS (([] : Str))]) (by kernel_rfl)) fun a hf => ?_
   refine pl_0 hf rfl rfl (w_store hf hM (us := [vI (0), vI (0), .bool (false), vS (([] : Str))]) (cs' := [vI (0), vI (0), .bool (false), vS (([] : Str))]) rfl rfl (k := 2) rfl rfl Tryz.sizeOf41 rfl rfl rfl fun w129 hM => ?_)
   dsimp only [List.set] at hM
   refine q_ hf rfl rfl rfl (e_assign hf rfl) fun a hf => ?_
   refine pl_nil ?_
   refine then_n ?_
   refine wp_ret ?_
   refine then_r ?_
   obtain rfl := some_inj h
   have hres132 := leaveV2 (P := Tryz.prog) (w := w129) Tryz.results113 (res_agg hf rfl ⟨Tryz.isAgg41, Tryz.sizeOf41⟩ (us := [vI (0), vI (0), .bool (false), vS (([] : Str))]) rfl (hM.boxSub (k := 2) (o := 0) rfl rfl)) (res_tmp hf rfl)
   have hM := hM.outs (own' := []) 0 rfl
   exact bodyPost_ret hres132 hf.defers ⟨rfl, hM.fin, (R64_lit rfl), (R64_lit rfl), (lit_len rfl)⟩
  refine cond_f hf rfl hc128 ?_
  refine wp_skip ?_
  refine then_n ?_
  refine wp_seq ?_
  refine region_pl ?_
  refine q_ hf rfl rfl rfl (e_loadA hf (us := [vI (z105), vI (z110), .bool (y58), vS (e47)]) rfl ⟨Tryz.isAgg41, Tryz.sizeOf41⟩ rfl (hM.boxSub (k := 0) (us := [vI (z105), vI (z110), .bool (y58), vS (e47)]) (o := 0) rfl rfl)) fun a hf => ?_
  refine pl_0 hf rfl rfl (w_store hf hM (us := [vI (z105), vI (z110), .bool (y58), vS (e47)]) (cs' := [vI (z105), vI (z110), .bool (y58), vS (e47)]) rfl rfl (k := 2) rfl rfl Tryz.sizeOf41 rfl rfl rfl fun w133 hM => ?_)
  dsimp only [List.set] at hM
  refine q_ hf rfl rfl rfl (e_assign hf rfl) fun a hf => ?_
  refine pl_nil ?_
  refine then_n ?_
  refine wp_ret ?_
  obtain rfl := some_inj h
  have hres136 := leaveV2 (P := Tryz.prog) (w := w133) Tryz.results113 (res_agg hf rfl ⟨Tryz.isAgg41, Tryz.sizeOf41⟩ (us := [vI (z105), vI (z110), .bool (y58), vS (e47)]) rfl (hM.boxSub (k := 2) (o := 0) rfl rfl)) (res_tmp hf rfl)
  have hM := hM.outs (own' := []) 0 rfl
  exact bodyPost_ret hres136 hf.defers ⟨rfl, hM.fin, (chk_R hz106), (chk_R hz111), hv55⟩
 refine pi_l hf rfl rfl rfl rfl (w_alloc hM (cs := [vI (0), vI (0), .bool (false), vS (([] : Str))]) Tryz.zeroValue41 rfl fun b137 w138 hx139 hM => ⟨Ext w138, fun _ h => Ext.trans hx139 h, Ext.refl _, fun a hf => ?_⟩)
 refine pi_one ?_
 refine pi_l hf rfl rfl rfl rfl (w_call hf Tryz.call131 rfl (r_spec_l01Small ⟨_, Sh C _ _, none_, hM.sh_lt, none_not, C.G, hM.g_lt, g_none, hM.tabs⟩ c56 _ hz59) ?_)
 rintro _ w141 ⟨rfl, hM2⟩
 obtain ⟨hM, hx142, hup143⟩ := hM.back hM2
 dsimp only [List.cons_append, List.nil_append] at hM hup143
 clear hM2
 refine ⟨_, rfl, Ext w141, fun _ h => Ext.trans hx142 h, Ext.refl _, fun a hf => ?_⟩
 refine pi_q hf rfl rfl rfl rfl (Ext.refl _) (e_build hf Tryz.zeroValue41 Tryz.underlying41 (bp_41 _ Tryz.underlying41.symm) rfl (cs := #[vI (0), vI (0), .bool (y58), vS (e47)]) (by kernel_rfl)) fun a hf => ?_
 refine pi_one ?_
 refine pi_z0 hf rfl rfl rfl (by kernel_rfl) (w_store hf hM (us := [vI (0), vI (0), .bool (y58), vS (e47)]) (cs' := [vI (0), vI (0), .bool (y58), vS (e47)]) rfl rfl (k := 0) rfl rfl Tryz.sizeOf41 rfl rfl rfl fun w144 hM => ?_)
 dsimp only [List.set] at hM
 refine pi_nil ?_
 refine then_n ?_
 refine wp_seq ?_
 refine region_pl ?_
 iterate 2 refine q_ hf rfl rfl rfl (e_move hf rfl) fun a hf => ?_
 refine q_ hf rfl rfl rfl (e_lenS hf (x := e37) rfl Tryz.underlying9) fun a hf => ?_
 obtain ⟨z147, hz148, h⟩ := bind_some h
 refine q_ hf rfl rfl rfl (e_sub hf rfl rfl hz148) fun a hf => ?_
 obtain ⟨c149, hz150, h⟩ := bind_some h
 refine q_ hf rfl rfl rfl (e_indexS hf (x := e37) rfl rfl Tryz.underlying9 hz150) fun a hf => ?_
 refine q_ hf rfl rfl rfl (e_assign hf rfl) fun a hf => ?_
 refine pl_nil ?_
 refine then_n ?_
 refine wp_seq ?_
 refine region_pl ?_
 iterate 2 refine q_ hf rfl rfl rfl (e_move hf rfl) fun a hf => ?_
 refine q_ hf rfl rfl rfl (e_lenS hf (x := e37) rfl Tryz.underlying9) fun a hf => ?_
 obtain ⟨z151, hz152, h⟩ := bind_some h
 refine q_ hf rfl rfl rfl (e_sub hf rfl rfl hz152) fun a hf => ?_
 obtain ⟨s153, hz154, h⟩ := bind_some h
 refine q_ hf rfl rfl rfl (e_subSh hf (x := e37) rfl rfl Tryz.underlying9 hz154) fun a hf => ?_
 refine q_ hf rfl rfl rfl (e_assign hf rfl) fun a hf => ?_
 refine pl_nil ?_
 refine then_n ?_
 obtain ⟨x159, h160, h⟩ := bind_some h
 refine seq_join (fun a w => ∃ (digits155 : UInt8) (row157 : Str), (digits155, row157) = x159 ∧ Has 71 a [(2, vP b3 (0)), (6, vP b137 (0)), (7, vB (digits155)), (8, vS (row157))] ∧ Mem C w [.box b137 [vI (0), vI (0), .bool (y58), vS (e47)] 41, .row strRep A9 c10 9 y7 true, .box b3 [vI (0), vI (0), .bool (false), vS (([] : Str))] 41] [] ∧ row157.length ≤ maxLen) ?_ ?_
 ·refine wp_seq ?_
  refine region_pl ?_
  refine q_ hf rfl rfl rfl (e_field hf rfl Tryz.underlying41 rfl Tryz.sizeOf4 (o' := 2) rfl) fun a hf => ?_
  refine q_ hf rfl rfl rfl (e_load1 hf rfl Tryz.isAgg4 (hM.boxCell (k := 0) rfl rfl)) fun a hf => ?_
  refine pl_nil ?_
  refine then_n ?_
  rcases cond_some h160 with ⟨hc161, h160⟩ | ⟨hc161, h160⟩
  ·refine cond_t hf rfl hc161 ?_
   refine wp_seq ?_
   refine region_pl ?_
   refine q_ hf rfl rfl rfl (e_move hf rfl) fun a hf => ?_
   obtain ⟨c162, hz163, h160⟩ := bind_some h160
   refine q_ hf rfl rfl rfl (e_indexS hf (x := e37) rfl rfl Tryz.underlying9 hz163) fun a hf => ?_
   refine q_ hf rfl rfl rfl (e_assign hf rfl) fun a hf => ?_
   refine pl_nil ?_
   refine then_n ?_
   refine region_pl ?_
   refine q_ hf rfl rfl rfl (e_move hf rfl) fun a hf => ?_
   obtain ⟨s164, hz165, h160⟩ := bind_some h160
   refine q_ hf rfl rfl rfl (e_subSl hf (x := e37) rfl rfl Tryz.underlying9 hz165) fun a hf => ?_
   refine q_ hf rfl rfl rfl (e_assign hf rfl) fun a hf => ?_
   refine pl_nil ?_
   obtain rfl := some_inj h160
   refine then_n ?_
   exact ⟨c162, s164, rfl, hf.keep ⟨rfl, rfl, rfl, rfl, trivial⟩, hM.pick [] rfl, (sub_len hz165 hv45)⟩
  refine cond_f hf rfl hc161 ?_
  refine wp_skip ?_
  obtain rfl := some_inj h160
  refine then_n ?_
  exact ⟨c149, s153, rfl, hf.keep ⟨rfl, rfl, rfl, rfl, trivial⟩, hM.pick [] rfl, (sub_len hz154 hv45)⟩
 rintro a w168 ⟨digits155, row157, rfl, hf, hM, hv158⟩
 try dsimp only at h
 refine wp_seq ?_
 refine region_pl ?_
 refine q_ hf rfl rfl rfl (e_move hf rfl) fun a hf => ?_
 obtain ⟨y169, hz170, h⟩ := bind_some h
 refine pl_l hf rfl rfl rfl (w_call hf Tryz.call69 rfl (r_spec_l01Number ⟨_, Sh C _ _, none_, hM.sh_lt, none_not, C.G, hM.g_lt, g_none, hM.tabs⟩ row157 hv158 _ hz170) ?_)
 rintro _ w172 ⟨rfl, hM2, hv171⟩
 obtain ⟨hM, hx173, hup174⟩ := hM.back hM2
 dsimp only [List.cons_append, List.nil_append] at hM hup174
 clear hM2
 refine ⟨_, rfl, fun a hf => ?_⟩
 refine q_ hf rfl rfl rfl (e_move hf rfl) fun a hf => ?_
 iterate 2 refine q_ hf rfl rfl rfl (e_extract hf rfl rfl) fun a hf => ?_
 iterate 2 refine q_ hf rfl rfl rfl (e_assign hf rfl) fun a hf => ?_
 refine pl_nil ?_
 refine then_n ?_
 refine wp_seq ?_
 refine region_pl ?_
 refine q_ hf rfl rfl rfl (e_move hf rfl) fun a hf => ?_
 obtain ⟨z175, hz176, h⟩ := bind_some h
 refine q_ hf rfl rfl rfl (e_sub hf rfl rfl hz176) fun a hf => ?_
 refine q_ hf rfl rfl rfl (e_field hf rfl Tryz.underlying41 rfl Tryz.sizeOf2 (o' := 0) rfl) fun a hf => ?_
 refine pl_0 hf rfl rfl (w_store hf hM (us := [vI (z175)]) (cs' := [vI (z175), vI (0), .bool (y58), vS (e47)]) rfl rfl (k := 0) rfl rfl Tryz.sizeOf2 rfl rfl rfl fun w177 hM => ?_)
 dsimp only [List.set] at hM
 refine pl_nil ?_
 refine then_n ?_
 refine wp_seq ?_
 refine region_pl ?_
 refine q_ hf rfl rfl rfl (e_move hf rfl) fun a hf => ?_
 refine q_ hf rfl rfl rfl (e_convBI hf (x := digits155) rfl Tryz.underlying5 Tryz.underlying2) fun a hf => ?_
 obtain ⟨z180, hz181, h⟩ := bind_some h
 refine q_ hf rfl rfl rfl (e_sub hf rfl rfl hz181) fun a hf => ?_
 refine q_ hf rfl rfl rfl (e_field hf rfl Tryz.underlying41 rfl Tryz.sizeOf2 (o' := 1) rfl) fun a hf => ?_
 refine pl_0 hf rfl rfl (w_store hf hM (us := [vI (z180)]) (cs' := [vI (z175), vI (z180), .bool (y58), vS (e47)]) rfl rfl (k := 0) rfl rfl Tryz.sizeOf2 rfl rfl rfl fun w182 hM => ?_)
 dsimp only [List.set] at hM
 refine pl_nil ?_
 refine then_n ?_
 refine wp_seq ?_
 obtain ⟨x187, h188, h⟩ := bind_some h
 refine seq_join (fun a w => ∃ (t185 : Bool), t185 = x187 ∧ Has 71 a [(2, vP b3 (0)), (6, vP b137 (0)), (68, .bool (t185))] ∧ Mem C w [.box b137 [vI (z175), vI (z180), .bool (y58), vS (e47)] 41, .row strRep A9 c10 9 y7 true, .box b3 [vI (0), vI (0), .bool (false), vS (([] : Str))] 41] []) ?_ ?_
 ·refine region_pl ?_
  refine q_ hf rfl rfl rfl (e_move hf rfl) fun a hf => ?_
  refine q_ hf rfl rfl rfl (e_not hf rfl) fun a hf => ?_
  refine q_ hf rfl rfl rfl (e_move hf rfl) fun a hf => ?_
  rcases cond_some h188 with ⟨hc189, h188⟩ | ⟨hc189, h188⟩
  ·iterate 3 refine pl_gs (wanted_f hf rfl rfl rfl rfl hc189) hf rfl rfl fun a hf => ?_
   refine q_ hf rfl rfl rfl (e_pick_t hf rfl hc189 rfl) fun a hf => ?_
   refine pl_nil ?_
   obtain rfl := some_inj h188
   refine then_n ?_
   exact ⟨true, rfl, hf.keep ⟨rfl, rfl, rfl, trivial⟩, hM.pick [] rfl⟩
  refine gq (wanted_t hf rfl rfl rfl rfl hc189) hf rfl rfl (e_loadA hf (us := [vI (z175), vI (z180), .bool (y58), vS (e47)]) rfl ⟨Tryz.isAgg41, Tryz.sizeOf41⟩ rfl (hM.boxSub (k := 0) (us := [vI (z175), vI (z180), .bool (y58), vS (e47)]) (o := 0) rfl rfl)) fun a hf => ?_
  obtain ⟨y191, hz192, h188⟩ := bind_some h188
  refine pl_gl (wanted_t hf rfl rfl rfl rfl hc189) hf rfl rfl (w_call hf Tryz.call152 rfl (r_spec_l12Plain ⟨_, Sh C _ _, none_, hM.sh_lt, none_not, C.G, hM.g_lt, g_none, hM.tabs⟩ (⟨z175, z180, y58, e47⟩ : Play) (chk_R hz176) (chk_R hz181) hv55 _ hz192) ?_)
  rintro _ w193 ⟨rfl, hM2⟩
  obtain ⟨hM, hx194, hup195⟩ := hM.back hM2
  dsimp only [List.cons_append, List.nil_append] at hM hup195
  clear hM2
  refine ⟨_, rfl, fun a hf => ?_⟩
  refine gq (wanted_t hf rfl rfl rfl rfl hc189) hf rfl rfl (e_not hf rfl) fun a hf => ?_
  refine q_ hf rfl rfl rfl (e_pick_f hf rfl hc189 rfl) fun a hf => ?_
  refine pl_nil ?_
  obtain rfl := some_inj h188
  refine then_n ?_
  exact ⟨(!y191), rfl, hf.keep ⟨rfl, rfl, rfl, trivial⟩, hM.pick [] rfl⟩
 rintro a w197 ⟨t185, rfl, hf, hM⟩
 try dsimp only at h
 rcases cond_some h with ⟨hc198, h⟩ | ⟨hc198, h⟩
 ·refine cond_t hf rfl hc198 ?_
  refine wp_seq ?_
  refine region_pl ?_
  refine q_ hf rfl rfl rfl (e_build hf Tryz.zeroValue41 Tryz.underlying41 (bp_41 _ Tryz.underlying41.symm) rfl (cs := #[vI (0), vI (0), .bool (false), vS (([] : Str))]) (by kernel_rfl)) fun a hf => ?_
  refine pl_0 hf rfl rfl (w_store hf hM (us := [vI (0), vI (0), .bool (false), vS (([] : Str))]) (cs' := [vI (0), vI (0), .bool (false), vS (([] : Str))]) rfl rfl (k := 2) rfl rfl Tryz.sizeOf41 rfl rfl rfl fun w199 hM => ?_)
  dsimp only [List.set] at hM
  refine q_ hf rfl rfl rfl (e_assign hf rfl) fun a hf => ?_
  refine pl_nil ?_
  refine then_n ?_
  refine wp_ret ?_
  refine then_r ?_
  obtain rfl := some_inj h
  have hres202 := leaveV2 (P := Tryz.prog) (w := w199) Tryz.results113 (res_agg hf rfl ⟨Tryz.isAgg41, Tryz.sizeOf41⟩ (us := [vI (0), vI (0), .bool (false), vS (([] : Str))]) rfl (hM.boxSub (k := 2) (o := 0) rfl rfl)) (res_tmp hf rfl)
  have hM := hM.outs (own' := []) 0 rfl
  exact bodyPost_ret hres202 hf.defers ⟨rfl, hM.fin, (R64_lit rfl), (R64_lit rfl), (lit_len rfl)⟩
 refine cond_f hf rfl hc198 ?_
 refine wp_skip ?_
 refine then_n ?_
 refine wp_seq ?_
 refine region_pl ?_
 refine q_ hf rfl rfl rfl (e_loadA hf (us := [vI (z175), vI (z180), .bool (y58), vS (e47)]) rfl ⟨Tryz.isAgg41, Tryz.sizeOf41⟩ rfl (hM.boxSub (k := 0) (us := [vI (z175), vI (z180), .bool (y58), vS (e47)]) (o := 0) rfl rfl)) fun a hf => ?_
 refine pl_0 hf rfl rfl (w_store hf hM (us := [vI (z175), vI (z180), .bool (y58), vS (e47)]) (cs' := [vI (z175), vI (z180), .bool (y58), vS (e47)]) rfl rfl (k := 2) rfl rfl Tryz.sizeOf41 rfl rfl rfl fun w203 hM => ?_)
 dsimp only [List.set] at hM
 refine q_ hf rfl rfl rfl (e_assign hf rfl) fun a hf => ?_
 refine pl_nil ?_
 refine then_n ?_
 refine wp_ret ?_
 obtain rfl := some_inj h
 have hres206 := leaveV2 (P := Tryz.prog) (w := w203) Tryz.results113 (res_agg hf rfl ⟨Tryz.isAgg41, Tryz.sizeOf41⟩ (us := [vI (z175), vI (z180), .bool (y58), vS (e47)]) rfl (hM.boxSub (k := 2) (o := 0) rfl rfl)) (res_tmp hf rfl)
 have hM := hM.outs (own' := []) 0 rfl
 exact bodyPost_ret hres206 hf.defers ⟨rfl, hM.fin, (chk_R hz176), (chk_R hz181), hv55⟩

set_option maxRecDepth 100000 in
set_option maxHeartbeats 4000000 in
theorem r_spec_l03Tile (C : Cx) (c1 : UInt8) (r : Bool) (h : m_spec_l03Tile c1 = some r) :
    Calls Tryz.prog 133 #[vB (c1)] C.w0 fun e w => e = .returned (.bool (r)) ∧ Mem C w [] [] := by
 have hM := Mem.begin C [] trivial
 refine enter Tryz.func133 rfl Tryz.ntmps133 rfl fun a hf => ?_
 unfold m_spec_l03Tile at h
 refine wp_seq ?_
 refine region_pl ?_
 refine q_ hf rfl rfl rfl (e_assign hf rfl) fun a hf => ?_
 refine pl_nil ?_
 refine then_n ?_
 obtain ⟨x4, h5, h⟩ := bind_some h
 refine seq_join (fun a w => ∃ (t2 : Bool), t2 = x4 ∧ Has 9 a [(2, .bool (t2))] ∧ Mem C w [] []) ?_ ?_
 ·refine region_pl ?_
  refine q_ hf rfl rfl rfl (e_move hf rfl) fun a hf => ?_
  refine q_ hf rfl rfl rfl (e_eqB hf (x := c1) (y := 63) rfl rfl) fun a hf => ?_
  refine q_ hf rfl rfl rfl (e_move hf rfl) fun a hf => ?_
  rcases cond_some h5 with ⟨hc6, h5⟩ | ⟨hc6, h5⟩
  ·iterate 2 refine pl_gs (wanted_f hf rfl rfl rfl rfl hc6) hf rfl rfl fun a hf => ?_
   refine q_ hf rfl rfl rfl (e_pick_t hf rfl hc6 rfl) fun a hf => ?_
   refine q_ hf rfl rfl rfl (e_assign hf rfl) fun a hf => ?_
   refine pl_nil ?_
   obtain rfl := some_inj h5
   refine then_n ?_
   exact ⟨true, rfl, hf.keep ⟨rfl, trivial⟩, hM.pick [] rfl⟩
  refine gq (wanted_t hf rfl rfl rfl rfl hc6) hf rfl rfl (e_move hf rfl) fun a hf => ?_
  obtain ⟨y8, hz9, h5⟩ := bind_some h5
  refine pl_gl (wanted_t hf rfl rfl rfl rfl hc6) hf rfl rfl (w_call hf Tryz.call131 rfl (r_spec_l01Small ⟨_, Sh C _ _, none_, hM.sh_lt, none_not, C.G, hM.g_lt, g_none, hM.tabs⟩ c1 _ hz9) ?_)
  rintro _ w10 ⟨rfl, hM2⟩
  obtain ⟨hM, hx11, hup12⟩ := hM.back hM2
  dsimp only [List.cons_append, List.nil_append] at hM hup12
  clear hM2
  refine ⟨_, rfl, fun a hf => ?_⟩
  refine q_ hf rfl rfl rfl (e_pick_f hf rfl hc6 rfl) fun a hf => ?_
  refine q_ hf rfl rfl rfl (e_assign hf rfl) fun a hf => ?_
  refine pl_nil ?_
  obtain rfl := some_inj h5
  refine then_n ?_
  exact ⟨y8, rfl, hf.keep ⟨rfl, trivial⟩, hM.pick [] rfl⟩
 rintro a w14 ⟨t2, rfl, hf, hM⟩
 try dsimp only at h
 refine wp_ret ?_
 obtain rfl := some_inj h
 exact leave1 hf rfl rfl ⟨rfl, hM.fin⟩

set_option maxRecDepth 100000 in
set_option maxHeartbeats 4000000 in
theorem r_spec_l03Pile (C : Cx) (s1 : Str) (hp2 : s1.length ≤ maxLen) (r : Bool) (h : m_spec_l03Pile s1 = some r) :
    Calls Tryz.prog 85 #[vS (s1)] C.w0 fun e w => e = .returned (.bool (r)) ∧ Mem C w [] [] := by
 have hM := Mem.begin C [] trivial
 refine enter Tryz.func85 rfl Tryz.ntmps85 rfl fun a hf => ?_
 unfold m_spec_l03Pile at h
 refine wp_seq ?_
 refine region_pl ?_
 refine q_ hf rfl rfl rfl (e_assign hf rfl) fun a hf => ?_
 refine pl_nil ?_
 refine then_n ?_
 obtain ⟨x3, h4, h⟩ := bind_some h
 refine seq_join (fun a w => (.inl ()) = x3 ∧ Has 32 a [(0, vS (s1))] ∧ Mem C w [] []) ?_ ?_
 ·refine wp_seq ?_
  refine region_pl ?_
  refine q_ hf rfl rfl rfl (e_assign hf rfl) fun a hf => ?_
  refine pl_nil ?_
  refine then_n ?_
  refine wp_block ?_
  obtain ⟨x8, h9, h4⟩ := bind_some h4
  refine wp_loopM h9 (fun s a w => ∃ (n5 : Int), n5 = s ∧ Has 32 a [(0, vS (s1)), (3, vI (n5))] ∧ Mem C w [] [] ∧ R64 n5) ?_ ?_
  ·exact ⟨0, rfl, hf.keep ⟨rfl, rfl, trivial⟩, hM.pick [] rfl, (R64_lit rfl)⟩
  rintro s o10 a w7 ⟨n5, rfl, hf, hM, hv6⟩ h11 hd12
  replace h11 : m_spec_l03Pile_l1 s1 n5 = some o10 := h11
  unfold m_spec_l03Pile_l1 at h11
  iterate 2 refine wp_seq ?_
  refine region_pl ?_
  iterate 2 refine q_ hf rfl rfl rfl (e_move hf rfl) fun a hf => ?_
  refine q_ hf rfl rfl rfl (e_lenS hf (x := s1) rfl Tryz.underlying9) fun a hf => ?_
  refine q_ hf rfl rfl rfl (e_lt hf (x := n5) (y := (s1.length : Int)) rfl rfl) fun a hf => ?_
  refine pl_nil ?_
  refine then_n ?_
  rcases cond_some h11 with ⟨hc13, h11⟩ | ⟨hc13, h11⟩
  ·refine cond_t hf rfl hc13 ?_
   refine wp_skip ?_
   refine then_n ?_
   refine wp_seq ?_
   refine wp_block ?_
   obtain ⟨x16, h17, h11⟩ := bind_some h11
   refine seq_join (fun a w => ∃ (t14 : Bool), t14 = x16 ∧ Has 32 a [(0, vS (s1)), (3, vI (n5)), (28, .bool (t14))] ∧ Mem C w [] []) ?_ ?_
   ·obtain ⟨w18, hw⟩ : ∃ x, x = w7.drew := ⟨_, rfl⟩
    refine region_pi (.q 0 (.q 1 (.q 2 (.l 3 (.q 4 (.q 5 (.q 6 (.q 7 (.q 8 (.q 9 (.q 10 (.q 11 (.q 12 (.q 13 (.q 14 (.q 15 (.q 16 (.q 17 (.q 18 (.nil)))))))))))))))))))) (Ext w18) rfl (by kernel_rfl) ?_
    have hM := hM.drew
    rw [← hw] at hM ⊢
    clear hw
    iterate 2 refine pi_q hf rfl rfl rfl rfl (Ext.refl _) (e_move hf rfl) fun a hf => ?_
    obtain ⟨c19, hz20, h17⟩ := bind_some h17
    refine pi_q hf rfl rfl rfl rfl (Ext.refl _) (e_indexS hf (x := s1) rfl rfl Tryz.underlying9 hz20) fun a hf => ?_
    refine pi_one ?_
    obtain ⟨y21, hz22, h17⟩ := bind_some h17
    refine pi_l hf rfl rfl rfl rfl (w_call hf Tryz.call133 rfl (r_spec_l03Tile ⟨_, Sh C _ _, none_, hM.sh_lt, none_not, C.G, hM.g_lt, g_none, hM.tabs⟩ c19 _ hz22) ?_)
    rintro _ w23 ⟨rfl, hM2⟩
    obtain ⟨hM, hx24, hup25⟩ := hM.back hM2
    dsimp only [List.cons_append, List.nil_append] at hM hup25
    clear hM2
    refine ⟨_, rfl, Ext w23, fun _ h => Ext.trans hx24 h, Ext.refl _, fun a hf => ?_⟩
    refine pi_q hf rfl rfl rfl rfl (Ext.refl _) (e_not hf rfl) fun a hf => ?_
    refine pi_q hf rfl rfl rfl rfl (Ext.refl _) (e_move hf rfl) fun a hf => ?_
    rcases cond_some h17 with ⟨hc26, h17⟩ | ⟨hc26, h17⟩
    ·iterate 3 refine pi_gs hf rfl (wanted_f hf rfl rfl rfl rfl hc26) rfl rfl (Ext.refl _) fun a hf => ?_
     iterate 8 refine pi_gs hf rfl (wanted_u hf rfl rfl rfl rfl) rfl rfl (Ext.refl _) fun a hf => ?_
     refine pi_gs hf rfl (wanted_f hf rfl rfl rfl rfl hc26) rfl rfl (Ext.refl _) fun a hf => ?_
     refine pi_q hf rfl rfl rfl rfl (Ext.refl _) (e_pick_t hf rfl hc26 rfl) fun a hf => ?_
     refine pi_nil ?_
     obtain rfl := some_inj h17
     refine then_n ?_
     exact ⟨true, rfl, hf.keep ⟨rfl, rfl, rfl, trivial⟩, hM.pick [] rfl⟩
    refine pi_gq hf rfl (wanted_t hf rfl rfl rfl rfl hc26) rfl rfl (Ext.refl _) (e_move hf rfl) fun a hf => ?_
    refine pi_gq hf rfl (wanted_t hf rfl rfl rfl rfl hc26) rfl rfl (Ext.refl _) (e_gt hf (x := n5) (y := 0) rfl rfl) fun a hf => ?_
    refine pi_gq hf rfl (wanted_t hf rfl rfl rfl rfl hc26) rfl rfl (Ext.refl _) (e_move hf rfl) fun a hf => ?_
    rcases cond_some h17 with ⟨hc28, h17⟩ | ⟨hc28, h17⟩
    ·iterate 2 refine pi_gq hf rfl (wanted_t hf rfl rfl rfl rfl hc28) rfl rfl (Ext.refl _) (e_move hf rfl) fun a hf => ?_
     obtain ⟨c29, hz30, h17⟩ := bind_some h17
     refine pi_gq hf rfl (wanted_t hf rfl rfl rfl rfl hc28) rfl rfl (Ext.refl _) (e_indexS hf (x := s1) rfl rfl Tryz.underlying9 hz30) fun a hf => ?_
     iterate 2 refine pi_gq hf rfl (wanted_t hf rfl rfl rfl rfl hc28) rfl rfl (Ext.refl _) (e_move hf rfl) fun a hf => ?_
     obtain ⟨z31, hz32, h17⟩ := bind_some h17
     refine pi_gq hf rfl (wanted_t hf rfl rfl rfl rfl hc28) rfl rfl (Ext.refl _) (e_sub hf rfl rfl hz32) fun a hf => ?_
     obtain ⟨c33, hz34, h17⟩ := bind_some h17
     refine pi_gq hf rfl (wanted_t hf rfl rfl rfl rfl hc28) rfl rfl (Ext.refl _) (e_indexS hf (x := s1) rfl rfl Tryz.underlying9 hz34) fun a hf => ?_
     refine pi_gq hf rfl (wanted_t hf rfl rfl rfl rfl hc28) rfl rfl (Ext.refl _) (e_ltB hf (x := c29) (y := c33) rfl rfl) fun a hf => ?_
     refine pi_gq hf rfl (wanted_t hf rfl rfl rfl rfl hc26) rfl rfl (Ext.refl _) (e_pick_t hf rfl hc28 rfl) fun a hf => ?_
     refine pi_q hf rfl rfl rfl rfl (Ext.refl _) (e_pick_f hf rfl hc26 rfl) fun a hf => ?_
     refine pi_nil ?_
     obtain rfl := some_inj h17
     refine then_n ?_
     exact ⟨(decide (c29 < c33)), rfl, hf.keep ⟨rfl, rfl, rfl, trivial⟩, hM.pick [] rfl⟩
    iterate 8 refine pi_gs hf rfl (wanted_f hf rfl rfl rfl rfl hc28) rfl rfl (Ext.refl _) fun a hf => ?_
    refine pi_gq hf rfl (wanted_t hf rfl rfl rfl rfl hc26) rfl rfl (Ext.refl _) (e_pick_f hf rfl hc28 rfl) fun a hf => ?_
    refine pi_q hf rfl rfl rfl rfl (Ext.refl _) (e_pick_f hf rfl hc26 rfl) fun a hf => ?_
    refine pi_nil ?_
    obtain rfl := some_inj h17
    refine then_n ?_
    exact ⟨false, rfl, hf.keep ⟨rfl, rfl, rfl, trivial⟩, hM.pick [] rfl⟩
   rintro a w37 ⟨t14, rfl, hf, hM⟩
   try dsimp only at h11
   rcases cond_some h11 with ⟨hc38, h11⟩ | ⟨hc38, h11⟩
   ·refine cond_t hf rfl hc38 ?_
    refine wp_seq ?_
    refine region_pl ?_
    refine q_ hf rfl rfl rfl (e_assign hf rfl) fun a hf => ?_
    refine pl_nil ?_
    refine then_n ?_
    refine wp_ret ?_
    refine blk_r ?_
    refine then_r ?_
    obtain rfl := some_inj h11
    obtain rfl := hd12 _ rfl
    try dsimp only at h4
    refine then_r ?_
    refine blk_r ?_
    obtain rfl := some_inj h4
    try dsimp only at h
    refine then_r ?_
    obtain rfl := some_inj h
    exact leave1 hf rfl rfl ⟨rfl, hM.fin⟩
   refine cond_f hf rfl hc38 ?_
   refine wp_skip ?_
   refine blk_n ?_
   refine then_n ?_
   refine region_pl ?_
   refine q_ hf rfl rfl rfl (e_move hf rfl) fun a hf => ?_
   obtain ⟨z39, hz40, h11⟩ := bind_some h11
   refine q_ hf rfl rfl rfl (e_add hf rfl rfl hz40) fun a hf => ?_
   refine q_ hf rfl rfl rfl (e_assign hf rfl) fun a hf => ?_
   refine pl_nil ?_
   obtain rfl := some_inj h11
   refine then_n ⟨_, rfl, ?_⟩
   exact ⟨z39, rfl, hf.keep ⟨rfl, rfl, trivial⟩, hM.pick [] rfl, (chk_R hz40)⟩
  refine cond_f hf rfl hc13 ?_
  refine wp_exit ?_
  refine then_x ?_
  obtain rfl := some_inj h11
  obtain rfl := hd12 _ rfl
  try dsimp only at h4
  refine then_x ?_
  refine exit_hit ?_
  obtain rfl := some_inj h4
  refine then_n ?_
  exact ⟨rfl, hf.keep ⟨rfl, trivial⟩, hM.pick [] rfl⟩
 rintro a w47 ⟨rfl, hf, hM⟩
 try dsimp only at h
 refine wp_seq ?_
 refine region_pl ?_
 refine q_ hf rfl rfl rfl (e_move hf rfl) fun a hf => ?_
 refine q_ hf rfl rfl rfl (e_lenS hf (x := s1) rfl Tryz.underlying9) fun a hf => ?_
 refine q_ hf rfl rfl rfl (e_le hf (x := (s1.length : Int)) (y := 120) rfl rfl) fun a hf => ?_
 refine q_ hf rfl rfl rfl (e_assign hf rfl) fun a hf => ?_
 refine pl_nil ?_
 refine then_n ?_
 refine wp_ret ?_
 obtain rfl := some_inj h
 exact leave1 hf rfl rfl ⟨rfl, hM.fin⟩

set_option maxRecDepth 100000 in
set_option maxHeartbeats 4000000 in
theorem r_spec_l03Rack (C : Cx) (s1 : Str) (hp2 : s1.length ≤ maxLen) (r : Bool) (h : m_spec_l03Rack s1 = some r) :
    Calls Tryz.prog 40 #[vS (s1)] C.w0 fun e w => e = .returned (.bool (r)) ∧ Mem C w [] [] := by
 have hM := Mem.begin C [] trivial
 refine enter Tryz.func40 rfl Tryz.ntmps40 rfl fun a hf => ?_
 unfold m_spec_l03Rack at h
 refine wp_seq ?_
 refine region_pl ?_
 refine q_ hf rfl rfl rfl (e_assign hf rfl) fun a hf => ?_
 refine pl_nil ?_
 refine then_n ?_
 obtain ⟨x5, h6, h⟩ := bind_some h
 refine seq_join (fun a w => ∃ (t3 : Bool), t3 = x5 ∧ Has 10 a [(2, .bool (t3))] ∧ Mem C w [] []) ?_ ?_
 ·refine region_pl ?_
  refine q_ hf rfl rfl rfl (e_move hf rfl) fun a hf => ?_
  obtain ⟨y7, hz8, h6⟩ := bind_some h6
  refine pl_l hf rfl rfl rfl (w_call hf Tryz.call85 rfl (r_spec_l03Pile ⟨_, Sh C _ _, none_, hM.sh_lt, none_not, C.G, hM.g_lt, g_none, hM.tabs⟩ s1 hp2 _ hz8) ?_)
  rintro _ w9 ⟨rfl, hM2⟩
  obtain ⟨hM, hx10, hup11⟩ := hM.back hM2
  dsimp only [List.cons_append, List.nil_append] at hM hup11
  clear hM2
  refine ⟨_, rfl, fun a hf => ?_⟩
  refine q_ hf rfl rfl rfl (e_move hf rfl) fun a hf => ?_
  rcases cond_some h6 with ⟨hc12, h6⟩ | ⟨hc12, h6⟩
  ·refine gq (wanted_t hf rfl rfl rfl rfl hc12) hf rfl rfl (e_move hf rfl) fun a hf => ?_
   refine gq (wanted_t hf rfl rfl rfl rfl hc12) hf rfl rfl (e_lenS hf (x := s1) rfl Tryz.underlying9) fun a hf => ?_
   refine gq (wanted_t hf rfl rfl rfl rfl hc12) hf rfl rfl (e_le hf (x := (s1.length : Int)) (y := 7) rfl rfl) fun a hf => ?_
   refine q_ hf rfl rfl rfl (e_pick_t hf rfl hc12 rfl) fun a hf => ?_
   refine q_ hf rfl rfl rfl (e_assign hf rfl) fun a hf => ?_
   refine pl_nil ?_
   obtain rfl := some_inj h6
   refine then_n ?_
   exact ⟨(decide ((s1.length : Int) ≤ 7)), rfl, hf.keep ⟨rfl, trivial⟩, hM.pick [] rfl⟩
  iterate 3 refine pl_gs (wanted_f hf rfl rfl rfl rfl hc12) hf rfl rfl fun a hf => ?_
  refine q_ hf rfl rfl rfl (e_pick_f hf rfl hc12 rfl) fun a hf => ?_
  refine q_ hf rfl rfl rfl (e_assign hf rfl) fun a hf => ?_
  refine pl_nil ?_
  obtain rfl := some_inj h6
  refine then_n ?_
  exact ⟨false, rfl, hf.keep ⟨rfl, trivial⟩, hM.pick [] rfl⟩
 rintro a w15 ⟨t3, rfl, hf, hM⟩
 try dsimp only at h
 refine wp_ret ?_
 obtain rfl := some_inj h
 exact leave1 hf rfl rfl ⟨rfl, hM.fin⟩

set_option maxRecDepth 100000 in
set_option maxHeartbeats 4000000 in
theorem r_spec_l20Action (C : Cx) (a1 : Action) (b2 : Nat) (o3 : Nat) (hp4 : (ptrRep ActionRep).R C.w0 C.S0 a1 [vP b2 o3]) (r : Bool) (h : m_spec_l20Action a1 = some r) :
    Calls Tryz.prog 120 #[vP b2 (o3)] C.w0 fun e w => e = .returned (.bool (r)) ∧ Mem C w [] [] := by
 have hM := Mem.begin C [.dat (ptrRep ActionRep) a1 [vP b2 o3]] ⟨hp4, trivial⟩
 refine enter Tryz.func120 rfl Tryz.ntmps120 rfl fun a hf => ?_
 unfold m_spec_l20Action at h
 refine wp_seq ?_
 refine region_pl ?_
 refine q_ hf rfl rfl rfl (e_assign hf rfl) fun a hf => ?_
 refine pl_nil ?_
 refine then_n ?_
 iterate 2 refine wp_seq ?_
 refine region_pl ?_
 refine q_ hf rfl rfl rfl (e_move hf rfl) fun a hf => ?_
 refine q_ hf rfl rfl rfl (e_nil hf rfl) fun a hf => ?_
 obtain ⟨_, hr5, hM⟩ := hM.deref (hM.dat (k := 0) rfl)
 obtain ⟨rfl, hv6, hv7, hv8, hv9, hv10, hv11⟩ := ActionRep_open hr5
 refine q_ hf rfl rfl rfl (e_field hf rfl Tryz.underlying55 rfl Tryz.sizeOf2 (o' := o3 + 6) rfl) fun a hf => ?_
 refine q_ hf rfl rfl rfl (e_load1 hf rfl Tryz.isAgg2 (hM.litCell (k := 0) (j := 6) rfl rfl rfl)) fun a hf => ?_
 obtain ⟨y12, hz13, h⟩ := bind_some h
 refine pl_l hf rfl rfl rfl (w_call hf Tryz.call86 rfl (r_spec_l00In ⟨_, Sh C _ _, none_, hM.sh_lt, none_not, C.G, hM.g_lt, g_none, hM.tabs⟩ a1.Seconds hv11 0 (R64_lit rfl) 36000 (R64_lit rfl) _ hz13) ?_)
 rintro _ w14 ⟨rfl, hM2⟩
 obtain ⟨hM, hx15, hup16⟩ := hM.back hM2
 dsimp only [List.cons_append, List.nil_append] at hM hup16
 clear hM2
 refine ⟨_, rfl, fun a hf => ?_⟩
 refine q_ hf rfl rfl rfl (e_not hf rfl) fun a hf => ?_
 refine pl_nil ?_
 refine then_n ?_
 rcases cond_some h with ⟨hc17, h⟩ | ⟨hc17, h⟩
 ·refine cond_t hf rfl hc17 ?_
  refine wp_seq ?_
  refine region_pl ?_
  refine q_ hf rfl rfl rfl (e_assign hf rfl) fun a hf => ?_
  refine pl_nil ?_
  refine then_n ?_
  refine wp_ret ?_
  refine then_r ?_
  obtain rfl := some_inj h
  exact leave1 hf rfl rfl ⟨rfl, hM.fin⟩
 refine cond_f hf rfl hc17 ?_
 refine wp_skip ?_
 refine then_n ?_
 refine wp_seq ?_
 refine region_pl ?_
 refine q_ hf rfl rfl rfl (e_build hf Tryz.zeroValue41 Tryz.underlying41 (bp_41 _ Tryz.underlying41.symm) rfl (cs := #[vI (0), vI (0), .bool (false), vS (([] : Str))]) (by kernel_rfl)) fun a hf => ?_
 refine pl_l hf rfl rfl rfl (w_alloc hM (cs := [vI (0), vI (0), .bool (false), vS (([] : Str))]) Tryz.zeroValue41 rfl fun b18 w19 hx20 hM a hf => ?_)
 refine pl_0 hf rfl rfl (w_store hf hM (us := [vI (0), vI (0), .bool (false), vS (([] : Str))]) (cs' := [vI (0), vI (0), .bool (false), vS (([] : Str))]) rfl rfl (k := 0) rfl rfl Tryz.sizeOf41 rfl rfl rfl fun w22 hM => ?_)
 dsimp only [List.set] at hM
 refine pl_nil ?_
 refine then_n ?_
 iterate 2 refine wp_seq ?_
 refine region_pl ?_
 refine q_ hf rfl rfl rfl (e_move hf rfl) fun a hf => ?_
 refine q_ hf rfl rfl rfl (e_nil hf rfl) fun a hf => ?_
 refine q_ hf rfl rfl rfl (e_field hf rfl Tryz.underlying55 rfl Tryz.sizeOf2 (o' := o3 + 0) rfl) fun a hf => ?_
 refine q_ hf rfl rfl rfl (e_load1 hf rfl Tryz.isAgg2 (hM.litCell (k := 0) (j := 0) rfl rfl rfl)) fun a hf => ?_
 refine pl_nil ?_
 refine then_n ?_
 refine wp_block ?_
 refine wp_seq ?_
 refine region_pl ?_
 refine q_ hf rfl rfl rfl (e_eq hf (x := a1.Kind) (y := 1) rfl rfl) fun a hf => ?_
 refine q_ hf rfl rfl rfl (e_assign hf rfl) fun a hf => ?_
 refine pl_nil ?_
 refine then_n ?_
 rcases cond_some h with ⟨hc25, h⟩ | ⟨hc25, h⟩
 ·refine cond_t hf rfl hc25 ?_
  obtain ⟨x28, h29, h⟩ := bind_some h
  refine seq_join (fun a w => ∃ (none26 : Bool), none26 = x28 ∧ Has 67 a [(2, .bool (none26))] ∧ Mem C w [.box b18 [vI (0), vI (0), .bool (false), vS (([] : Str))] 41] [.lit b2 (o3) [vI (a1.Kind), vI (a1.Play.Row), vI (a1.Play.Col), .bool (a1.Play.Down), vS (a1.Play.Word), vS (a1.Tiles), vI (a1.Seconds)], .dat (ptrRep ActionRep) a1 [vP b2 o3]]) ?_ ?_
  ·refine region_pl ?_
   refine q_ hf rfl rfl rfl (e_move hf rfl) fun a hf => ?_
   refine q_ hf rfl rfl rfl (e_nil hf rfl) fun a hf => ?_
   refine q_ hf rfl rfl rfl (e_field hf rfl Tryz.underlying55 rfl Tryz.sizeOf41 (o' := o3 + 1) rfl) fun a hf => ?_
   refine q_ hf rfl rfl rfl (e_loadA hf (us := [vI (a1.Play.Row), vI (a1.Play.Col), .bool (a1.Play.Down), vS (a1.Play.Word)]) rfl ⟨Tryz.isAgg41, Tryz.sizeOf41⟩ rfl (hM.litSub (k := 0) (d := 1) (us := [vI (a1.Play.Row), vI (a1.Play.Col), .bool (a1.Play.Down), vS (a1.Play.Word)]) rfl rfl rfl)) fun a hf => ?_
   obtain ⟨y30, hz31, h29⟩ := bind_some h29
   refine pl_l hf rfl rfl rfl (w_call hf Tryz.call152 rfl (r_spec_l12Plain ⟨_, Sh C _ _, none_, hM.sh_lt, none_not, C.G, hM.g_lt, g_none, hM.tabs⟩ a1.Play hv7 hv8 hv9 _ hz31) ?_)
   rintro _ w32 ⟨rfl, hM2⟩
   obtain ⟨hM, hx33, hup34⟩ := hM.back hM2
   dsimp only [List.cons_append, List.nil_append] at hM hup34
   clear hM2
   refine ⟨_, rfl, fun a hf => ?_⟩
   refine q_ hf rfl rfl rfl (e_move hf rfl) fun a hf => ?_
   rcases cond_some h29 with ⟨hc35, h29⟩ | ⟨hc35, h29⟩
   ·refine gq (wanted_t hf rfl rfl rfl rfl hc35) hf rfl rfl (e_move hf rfl) fun a hf => ?_
    refine gq (wanted_t hf rfl rfl rfl rfl hc35) hf rfl rfl (e_nil hf rfl) fun a hf => ?_
    refine gq (wanted_t hf rfl rfl rfl rfl hc35) hf rfl rfl (e_field hf rfl Tryz.underlying55 rfl Tryz.sizeOf9 (o' := o3 + 5) rfl) fun a hf => ?_
    refine gq (wanted_t hf rfl rfl rfl rfl hc35) hf rfl rfl (e_load1 hf rfl Tryz.isAgg9 (hM.litCell (k := 0) (j := 5) rfl rfl rfl)) fun a hf => ?_
    refine gq (wanted_t hf rfl rfl rfl rfl hc35) hf rfl rfl (e_eqS hf (x := a1.Tiles) (y := ([] : Str)) rfl rfl) fun a hf => ?_
    refine q_ hf rfl rfl rfl (e_pick_t hf rfl hc35 rfl) fun a hf => ?_
    refine q_ hf rfl rfl rfl (e_assign hf rfl) fun a hf => ?_
    refine pl_nil ?_
    obtain rfl := some_inj h29
    refine then_n ?_
    exact ⟨(a1.Tiles == ([] : Str)), rfl, hf.keep ⟨rfl, trivial⟩, hM.pick [0, 1] rfl⟩
   iterate 5 refine pl_gs (wanted_f hf rfl rfl rfl rfl hc35) hf rfl rfl fun a hf => ?_
   refine q_ hf rfl rfl rfl (e_pick_f hf rfl hc35 rfl) fun a hf => ?_
   refine q_ hf rfl rfl rfl (e_assign hf rfl) fun a hf => ?_
   refine pl_nil ?_
   obtain rfl := some_inj h29
   refine then_n ?_
   exact ⟨false, rfl, hf.keep ⟨rfl, trivial⟩, hM.pick [0, 1] rfl⟩
  rintro a w38 ⟨none26, rfl, hf, hM⟩
  try dsimp only at h
  refine wp_ret ?_
  refine blk_r ?_
  refine then_r ?_
  obtain rfl := some_inj h
  have hM := hM.outs (own' := []) 0 rfl
  exact leave1 hf rfl rfl ⟨rfl, hM.fin⟩
 refine cond_f hf rfl hc25 ?_
 refine wp_seq ?_
 refine region_pl ?_
 refine q_ hf rfl rfl rfl (e_eq hf (x := a1.Kind) (y := 2) rfl rfl) fun a hf => ?_
 refine q_ hf rfl rfl rfl (e_assign hf rfl) fun a hf => ?_
 refine pl_nil ?_
 refine then_n ?_
 rcases cond_some h with ⟨hc39, h⟩ | ⟨hc39, h⟩
 ·refine cond_t hf rfl hc39 ?_
  obtain ⟨x42, h43, h⟩ := bind_some h
  refine seq_join (fun a w => ∃ (none40 : Bool), none40 = x42 ∧ Has 67 a [(2, .bool (none40))] ∧ Mem C w [.box b18 [vI (0), vI (0), .bool (false), vS (([] : Str))] 41] [.lit b2 (o3) [vI (a1.Kind), vI (a1.Play.Row), vI (a1.Play.Col), .bool (a1.Play.Down), vS (a1.Play.Word), vS (a1.Tiles), vI (a1.Seconds)], .dat (ptrRep ActionRep) a1 [vP b2 o3]]) ?_ ?_
  ·obtain ⟨w44, hw⟩ : ∃ x, x = w22.drew := ⟨_, rfl⟩
   refine region_pi (.q 0 (.q 1 (.q 2 (.q 3 (.q 4 (.q 5 (.q 6 (.q 7 (.q 8 (.q 9 (.q 10 (.q 11 (.q 12 (.q 13 (.q 14 (.q 15 (.q 16 (.q 17 (.l 18 (.q 19 (.q 20 (.nil)))))))))))))))))))))) (Ext w44) rfl (by kernel_rfl) ?_
   have hM := hM.drew
   rw [← hw] at hM ⊢
   clear hw
   refine pi_q hf rfl rfl rfl rfl (Ext.refl _) (e_move hf rfl) fun a hf => ?_
   refine pi_q hf rfl rfl rfl rfl (Ext.refl _) (e_nil hf rfl) fun a hf => ?_
   refine pi_q hf rfl rfl rfl rfl (Ext.refl _) (e_field hf rfl Tryz.underlying55 rfl Tryz.sizeOf41 (o' := o3 + 1) rfl) fun a hf => ?_
   refine pi_q hf rfl rfl rfl rfl (Ext.refl _) (e_loadA hf (us := [vI (a1.Play.Row), vI (a1.Play.Col), .bool (a1.Play.Down), vS (a1.Play.Word)]) rfl ⟨Tryz.isAgg41, Tryz.sizeOf41⟩ rfl (hM.litSub (k := 0) (d := 1) (us := [vI (a1.Play.Row), vI (a1.Play.Col), .bool (a1.Play.Down), vS (a1.Play.Word)]) rfl rfl rfl)) fun a hf => ?_
   refine pi_q hf rfl rfl rfl rfl (Ext.refl _) (e_loadA hf (us := [vI (0), vI (0), .bool (false), vS (([] : Str))]) rfl ⟨Tryz.isAgg41, Tryz.sizeOf41⟩ rfl (hM.boxSub (k := 0) (us := [vI (0), vI (0), .bool (false), vS (([] : Str))]) (o := 0) rfl rfl)) fun a hf => ?_
   refine pi_q hf rfl rfl rfl rfl (Ext.refl _) (Play_eql hf (x := a1.Play) (y := (⟨0, 0, false, ([] : Str)⟩ : Play)) rfl rfl) fun a hf => ?_
   refine pi_q hf rfl rfl rfl rfl (Ext.refl _) (e_move hf rfl) fun a hf => ?_
   rcases cond_some h43 with ⟨hc45, h43⟩ | ⟨hc45, h43⟩
   ·refine pi_gq hf rfl (wanted_t hf rfl rfl rfl rfl hc45) rfl rfl (Ext.refl _) (e_move hf rfl) fun a hf => ?_
    refine pi_gq hf rfl (wanted_t hf rfl rfl rfl rfl hc45) rfl rfl (Ext.refl _) (e_nil hf rfl) fun a hf => ?_
    refine pi_gq hf rfl (wanted_t hf rfl rfl rfl rfl hc45) rfl rfl (Ext.refl _) (e_field hf rfl Tryz.underlying55 rfl Tryz.sizeOf9 (o' := o3 + 5) rfl) fun a hf => ?_
    refine pi_gq hf rfl (wanted_t hf rfl rfl rfl rfl hc45) rfl rfl (Ext.refl _) (e_load1 hf rfl Tryz.isAgg9 (hM.litCell (k := 0) (j := 5) rfl rfl rfl)) fun a hf => ?_
    refine pi_gq hf rfl (wanted_t hf rfl rfl rfl rfl hc45) rfl rfl (Ext.refl _) (e_neS hf (x := a1.Tiles) (y := ([] : Str)) rfl rfl) fun a hf => ?_
    refine pi_q hf rfl rfl rfl rfl (Ext.refl _) (e_pick_t hf rfl hc45 rfl) fun a hf => ?_
    refine pi_q hf rfl rfl rfl rfl (Ext.refl _) (e_move hf rfl) fun a hf => ?_
    rcases cond_some h43 with ⟨hc46, h43⟩ | ⟨hc46, h43⟩
    ·refine pi_gq hf rfl (wanted_t hf rfl rfl rfl rfl hc46) rfl rfl (Ext.refl _) (e_move hf rfl) fun a hf => ?_
     refine pi_gq hf rfl (wanted_t hf rfl rfl rfl rfl hc46) rfl rfl (Ext.refl _) (e_nil hf rfl) fun a hf => ?_
     refine pi_gq hf rfl (wanted_t hf rfl rfl rfl rfl hc46) rfl rfl (Ext.refl _) (e_field hf rfl Tryz.underlying55 rfl Tryz.sizeOf9 (o' := o3 + 5) rfl) fun a hf => ?_
     refine pi_gq hf rfl (wanted_t hf rfl rfl rfl rfl hc46) rfl rfl (Ext.refl _) (e_load1 hf rfl Tryz.isAgg9 (hM.litCell (k := 0) (j := 5) rfl rfl rfl)) fun a hf => ?_
     refine pi_one ?_
     obtain ⟨y47, hz48, h43⟩ := bind_some h43
     refine pi_gl hf rfl (wanted_t hf rfl rfl rfl rfl hc46) rfl rfl (w_call hf Tryz.call40 rfl (r_spec_l03Rack ⟨_, Sh C _ _, none_, hM.sh_lt, none_not, C.G, hM.g_lt, g_none, hM.tabs⟩ a1.Tiles hv10 _ hz48) ?_)
     rintro _ w49 ⟨rfl, hM2⟩
     obtain ⟨hM, hx50, hup51⟩ := hM.back hM2
     dsimp only [List.cons_append, List.nil_append] at hM hup51
     clear hM2
     refine ⟨_, rfl, Ext w49, fun _ h => Ext.trans hx50 h, Ext.refl _, fun a hf => ?_⟩
     refine pi_q hf rfl rfl rfl rfl (Ext.refl _) (e_pick_t hf rfl hc46 rfl) fun a hf => ?_
     refine pi_q hf rfl rfl rfl rfl (Ext.refl _) (e_assign hf rfl) fun a hf => ?_
     refine pi_nil ?_
     obtain rfl := some_inj h43
     refine then_n ?_
     exact ⟨y47, rfl, hf.keep ⟨rfl, trivial⟩, hM.pick [0, 1] rfl⟩
    iterate 4 refine pi_gs hf rfl (wanted_f hf rfl rfl rfl rfl hc46) rfl rfl (Ext.refl _) fun a hf => ?_
    refine pi_one ?_
    refine pi_ls hf rfl (wanted_f hf rfl rfl rfl rfl hc46) rfl rfl (Ext.refl _) fun a hf => ?_
    refine pi_q hf rfl rfl rfl rfl (Ext.refl _) (e_pick_f hf rfl hc46 rfl) fun a hf => ?_
    refine pi_q hf rfl rfl rfl rfl (Ext.refl _) (e_assign hf rfl) fun a hf => ?_
    refine pi_nil ?_
    obtain rfl := some_inj h43
    refine then_n ?_
    exact ⟨false, rfl, hf.keep ⟨rfl, trivial⟩, hM.pick [0, 1] rfl⟩
   iterate 5 refine pi_gs hf rfl (wanted_f hf rfl rfl rfl rfl hc45) rfl rfl (Ext.refl _) fun a hf => ?_
   refine pi_q hf rfl rfl rfl rfl (Ext.refl _) (e_pick_f hf rfl hc45 rfl) fun a hf => ?_
   refine pi_q hf rfl rfl rfl rfl (Ext.refl _) (e_move hf rfl) fun a hf => ?_
   iterate 4 refine pi_gs hf rfl (wanted_f hf rfl rfl rfl rfl rfl) rfl rfl (Ext.refl _) fun a hf => ?_
   refine pi_one ?_
   refine pi_ls hf rfl (wanted_f hf rfl rfl rfl rfl rfl) rfl rfl (Ext.refl _) fun a hf => ?_
   refine pi_q hf rfl rfl rfl rfl (Ext.refl _) (e_pick_f hf rfl rfl rfl) fun a hf => ?_
   refine pi_q hf rfl rfl rfl rfl (Ext.refl _) (e_assign hf rfl) fun a hf => ?_
   refine pi_nil ?_
   obtain rfl := some_inj h43
   refine then_n ?_
   exact ⟨false, rfl, hf.keep ⟨rfl, trivial⟩, hM.pick [0, 1] rfl⟩
  rintro a w55 ⟨none40, rfl, hf, hM⟩
  try dsimp only at h
  refine wp_ret ?_
  refine blk_r ?_
  refine then_r ?_
  obtain rfl := some_inj h
  have hM := hM.outs (own' := []) 0 rfl
  exact leave1 hf rfl rfl ⟨rfl, hM.fin⟩
 refine cond_f hf rfl hc39 ?_
 obtain ⟨x58, h59, h⟩ := bind_some h
 refine seq_join (fun a w => ∃ (t56 : Bool), t56 = x58 ∧ Has 67 a [(0, vP b2 (o3)), (3, vP b18 (0)), (51, .bool (t56))] ∧ Mem C w [.box b18 [vI (0), vI (0), .bool (false), vS (([] : Str))] 41] [.lit b2 (o3) [vI (a1.Kind), vI (a1.Play.Row), vI (a1.Play.Col), .bool (a1.Play.Down), vS (a1.Play.Word), vS (a1.Tiles), vI (a1.Seconds)], .dat (ptrRep ActionRep) a1 [vP b2 o3]]) ?_ ?_
 ·refine wp_seq ?_
  refine region_pl ?_
  refine q_ hf rfl rfl rfl (e_eq hf (x := a1.Kind) (y := 3) rfl rfl) fun a hf => ?_
  refine q_ hf rfl rfl rfl (e_assign hf rfl) fun a hf => ?_
  refine pl_nil ?_
  refine then_n ?_
  rcases cond_some h59 with ⟨hc60, h59⟩ | ⟨hc60, h59⟩
  ·refine cond_t hf rfl hc60 ?_
   refine wp_skip ?_
   obtain rfl := some_inj h59
   refine then_n ?_
   exact ⟨(a1.Kind == 3), rfl, hf.keep ⟨rfl, rfl, rfl, trivial⟩, hM.pick [0, 1] rfl⟩
  refine cond_f hf rfl hc60 ?_
  refine region_pl ?_
  refine q_ hf rfl rfl rfl (e_eq hf (x := a1.Kind) (y := 4) rfl rfl) fun a hf => ?_
  refine q_ hf rfl rfl rfl (e_assign hf rfl) fun a hf => ?_
  refine pl_nil ?_
  obtain rfl := some_inj h59
  refine then_n ?_
  exact ⟨(a1.Kind == 4), rfl, hf.keep ⟨rfl, rfl, rfl, trivial⟩, hM.pick [0, 1] rfl⟩
 rintro a w63 ⟨t56, rfl, hf, hM⟩
 try dsimp only at h
 rcases cond_some h with ⟨hc64, h⟩ | ⟨hc64, h⟩
 ·refine cond_t hf rfl hc64 ?_
  obtain ⟨x67, h68, h⟩ := bind_some h
  refine seq_join (fun a w => ∃ (none65 : Bool), none65 = x67 ∧ Has 67 a [(2, .bool (none65))] ∧ Mem C w [.box b18 [vI (0), vI (0), .bool (false), vS (([] : Str))] 41] [.lit b2 (o3) [vI (a1.Kind), vI (a1.Play.Row), vI (a1.Play.Col), .bool (a1.Play.Down), vS (a1.Play.Word), vS (a1.Tiles), vI (a1.Seconds)], .dat (ptrRep ActionRep) a1 [vP b2 o3]]) ?_ ?_
  ·obtain ⟨w69, hw⟩ : ∃ x, x = w63.drew := ⟨_, rfl⟩
   refine region_pi (.q 0 (.q 1 (.q 2 (.q 3 (.q 4 (.q 5 (.q 6 (.q 7 (.q 8 (.q 9 (.q 10 (.q 11 (.q 12 (.q 13 (.nil))))))))))))))) (Ext w69) rfl (by kernel_rfl) ?_
   have hM := hM.drew
   rw [← hw] at hM ⊢
   clear hw
   refine pi_q hf rfl rfl rfl rfl (Ext.refl _) (e_move hf rfl) fun a hf => ?_
   refine pi_q hf rfl rfl rfl rfl (Ext.refl _) (e_nil hf rfl) fun a hf => ?_
   refine pi_q hf rfl rfl rfl rfl (Ext.refl _) (e_field hf rfl Tryz.underlying55 rfl Tryz.sizeOf41 (o' := o3 + 1) rfl) fun a hf => ?_
   refine pi_q hf rfl rfl rfl rfl (Ext.refl _) (e_loadA hf (us := [vI (a1.Play.Row), vI (a1.Play.Col), .bool (a1.Play.Down), vS (a1.Play.Word)]) rfl ⟨Tryz.isAgg41, Tryz.sizeOf41⟩ rfl (hM.litSub (k := 0) (d := 1) (us := [vI (a1.Play.Row), vI (a1.Play.Col), .bool (a1.Play.Down), vS (a1.Play.Word)]) rfl rfl rfl)) fun a hf => ?_
   refine pi_q hf rfl rfl rfl rfl (Ext.refl _) (e_loadA hf (us := [vI (0), vI (0), .bool (false), vS (([] : Str))]) rfl ⟨Tryz.isAgg41, Tryz.sizeOf41⟩ rfl (hM.boxSub (k := 0) (us := [vI (0), vI (0), .bool (false), vS (([] : Str))]) (o := 0) rfl rfl)) fun a hf => ?_
   refine pi_q hf rfl rfl rfl rfl (Ext.refl _) (Play_eql hf (x := a1.Play) (y := (⟨0, 0, false, ([] : Str)⟩ : Play)) rfl rfl) fun a hf => ?_
   refine pi_q hf rfl rfl rfl rfl (Ext.refl _) (e_move hf rfl) fun a hf => ?_
   rcases cond_some h68 with ⟨hc70, h68⟩ | ⟨hc70, h68⟩
   ·refine pi_gq hf rfl (wanted_t hf rfl rfl rfl rfl hc70) rfl rfl (Ext.refl _) (e_move hf rfl) fun a hf => ?_
    refine pi_gq hf rfl (wanted_t hf rfl rfl rfl rfl hc70) rfl rfl (Ext.refl _) (e_nil hf rfl) fun a hf => ?_
    refine pi_gq hf rfl (wanted_t hf rfl rfl rfl rfl hc70) rfl rfl (Ext.refl _) (e_field hf rfl Tryz.underlying55 rfl Tryz.sizeOf9 (o' := o3 + 5) rfl) fun a hf => ?_
    refine pi_gq hf rfl (wanted_t hf rfl rfl rfl rfl hc70) rfl rfl (Ext.refl _) (e_load1 hf rfl Tryz.isAgg9 (hM.litCell (k := 0) (j := 5) rfl rfl rfl)) fun a hf => ?_
    refine pi_gq hf rfl (wanted_t hf rfl rfl rfl rfl hc70) rfl rfl (Ext.refl _) (e_eqS hf (x := a1.Tiles) (y := ([] : Str)) rfl rfl) fun a hf => ?_
    refine pi_q hf rfl rfl rfl rfl (Ext.refl _) (e_pick_t hf rfl hc70 rfl) fun a hf => ?_
    refine pi_q hf rfl rfl rfl rfl (Ext.refl _) (e_assign hf rfl) fun a hf => ?_
    refine pi_nil ?_
    obtain rfl := some_inj h68
    refine then_n ?_
    exact ⟨(a1.Tiles == ([] : Str)), rfl, hf.keep ⟨rfl, trivial⟩, hM.pick [0, 1] rfl⟩
   iterate 5 refine pi_gs hf rfl (wanted_f hf rfl rfl rfl rfl hc70) rfl rfl (Ext.refl _) fun a hf => ?_
   refine pi_q hf rfl rfl rfl rfl (Ext.refl _) (e_pick_f hf rfl hc70 rfl) fun a hf => ?_
   refine pi_q hf rfl rfl rfl rfl (Ext.refl _) (e_assign hf rfl) fun a hf => ?_
   refine pi_nil ?_
   obtain rfl := some_inj h68
   refine then_n ?_
   exact ⟨false, rfl, hf.keep ⟨rfl, trivial⟩, hM.pick [0, 1] rfl⟩
  rintro a w73 ⟨none65, rfl, hf, hM⟩
  try dsimp only at h
  refine wp_ret ?_
  refine blk_r ?_
  refine then_r ?_
  obtain rfl := some_inj h
  have hM := hM.outs (own' := []) 0 rfl
  exact leave1 hf rfl rfl ⟨rfl, hM.fin⟩
 refine cond_f hf rfl hc64 ?_
 refine wp_skip ?_
 refine blk_n ?_
 refine then_n ?_
 refine wp_seq ?_
 refine region_pl ?_
 refine q_ hf rfl rfl rfl (e_assign hf rfl) fun a hf => ?_
 refine pl_nil ?_
 refine then_n ?_
 refine wp_ret ?_
 obtain rfl := some_inj h
 have hM := hM.outs (own' := []) 0 rfl
 exact leave1 hf rfl rfl ⟨rfl, hM.fin⟩

set_option maxRecDepth 100000 in
set_option maxHeartbeats 4000000 in
theorem r_spec_l20Read (C : Cx) (s1 : Str) (hp2 : s1.length ≤ maxLen) (r : (Action × Bool)) (h : m_spec_l20Read s1 = some r) :
    Calls Tryz.prog 58 #[vS (s1)] C.w0 fun e w => e = .returned (.tuple #[.agg #[vI (r.1.Kind), vI (r.1.Play.Row), vI (r.1.Play.Col), .bool (r.1.Play.Down), vS (r.1.Play.Word), vS (r.1.Tiles), vI (r.1.Seconds)], .bool (r.2)]) ∧ Mem C w [] [] ∧ R64 r.1.Kind ∧ R64 r.1.Play.Row ∧ R64 r.1.Play.Col ∧ r.1.Play.Word.length ≤ maxLen ∧ r.1.Tiles.length ≤ maxLen ∧ R64 r.1.Seconds := by
 have hM := Mem.begin C [] trivial
 refine enter Tryz.func58 rfl Tryz.ntmps58 rfl fun a hf => ?_
 unfold m_spec_l20Read at h
 refine wp_seq ?_
 refine region_pl ?_
 refine pl_l hf rfl rfl rfl (w_alloc hM (cs := [vI (0), vI (0), vI (0), .bool (false), vS (([] : Str)), vS (([] : Str)), vI (0)]) Tryz.zeroValue55 rfl fun b3 w4 hx5 hM a hf => ?_)
 refine q_ hf rfl rfl rfl (e_assign hf rfl) fun a hf => ?_
 refine pl_nil ?_
 refine then_n ?_
 refine wp_seq ?_
 refine region_pl ?_
 refine q_ hf rfl rfl rfl (e_move hf rfl) fun a hf => ?_
 obtain ⟨y7, hz8, h⟩ := bind_some h
 refine pl_l hf rfl rfl rfl (w_call hf Tryz.call68 rfl (r_spec_l01Split ⟨_, Sh C _ _, none_, hM.sh_lt, none_not, C.G, hM.g_lt, g_none, hM.tabs⟩ s1 hp2 32 _ hz8) ?_)
 rintro _ w11 ⟨A9, c10, rfl, hM2⟩
 obtain ⟨hM, hx12, hup13⟩ := hM.back hM2
 dsimp only [List.cons_append, List.nil_append] at hM hup13
 clear hM2
 refine ⟨_, rfl, fun a hf => ?_⟩
 refine q_ hf rfl rfl rfl (e_assign hf rfl) fun a hf => ?_
 refine pl_nil ?_
 refine then_n ?_
 refine wp_seq ?_
 refine region_pl ?_
 refine q_ hf rfl rfl rfl (e_build hf Tryz.zeroValue55 Tryz.underlying55 (bp_55 _ Tryz.underlying55.symm) rfl (cs := #[vI (0), vI (0), vI (0), .bool (false), vS (([] : Str)), vS (([] : Str)), vI (0)]) (by kernel_rfl)) fun a hf => ?_
 refine pl_l hf rfl rfl rfl (w_alloc hM (cs := [vI (0), vI (0), vI (0), .bool (false), vS (([] : Str)), vS (([] : Str)), vI (0)]) Tryz.zeroValue55 rfl fun b14 w15 hx16 hM a hf => ?_)
 refine pl_0 hf rfl rfl (w_store hf hM (us := [vI (0), vI (0), vI (0), .bool (false), vS (([] : Str)), vS (([] : Str)), vI (0)]) (cs' := [vI (0), vI (0), vI (0), .bool (false), vS (([] : Str)), vS (([] : Str)), vI (0)]) rfl rfl (k := 0) rfl rfl Tryz.sizeOf55 rfl rfl rfl fun w18 hM => ?_)
 dsimp only [List.set] at hM
 refine pl_nil ?_
 refine then_n ?_
 refine wp_seq ?_
 refine region_pl ?_
 refine q_ hf rfl rfl rfl (e_assign hf rfl) fun a hf => ?_
 refine pl_nil ?_
 refine then_n ?_
 obtain ⟨x35, h36, h⟩ := bind_some h
 refine seq_join (fun a w => ∃ (n21 : Int) (n23 : Int) (n25 : Int) (t27 : Bool) (s29 : Str) (s31 : Str) (n33 : Bool), (n21, n23, n25, t27, s29, s31, n33) = x35 ∧ Has 96 a [(2, vP b3 (0)), (4, vL A9 (y7) c10), (5, vP b14 (0)), (6, .bool (n33))] ∧ Mem C w [.box b14 [vI (n21), vI (n23), vI (n25), .bool (t27), vS (s29), vS (s31), vI (0)] 55, .row strRep A9 c10 9 y7 true, .box b3 [vI (0), vI (0), vI (0), .bool (false), vS (([] : Str)), vS (([] : Str)), vI (0)] 55] [] ∧ R64 n21 ∧ R64 n23 ∧ R64 n25 ∧ s29.length ≤ maxLen ∧ s31.length ≤ maxLen) ?_ ?_
 ·refine wp_block ?_
  obtain ⟨x39, h40, h36⟩ := bind_some h36
  refine seq_join (fun a w => ∃ (t37 : Bool), t37 = x39 ∧ Has 96 a [(2, vP b3 (0)), (4, vL A9 (y7) c10), (5, vP b14 (0)), (6, .bool (false)), (12, .bool (t37))] ∧ Mem C w [.box b14 [vI (0), vI (0), vI (0), .bool (false), vS (([] : Str)), vS (([] : Str)), vI (0)] 55, .row strRep A9 c10 9 y7 true, .box b3 [vI (0), vI (0), vI (0), .bool (false), vS (([] : Str)), vS (([] : Str)), vI (0)] 55] []) ?_ ?_
  ·refine region_pl ?_
   refine q_ hf rfl rfl rfl (e_move hf rfl) fun a hf => ?_
   obtain ⟨e41, hz42, h40⟩ := bind_some h40
   obtain ⟨b47, _, hA48, h43, h44, hr45, hcell46⟩ := hM.rowElemN (k := 1) rfl (n := 1) rfl hz42
   obtain ⟨rfl, hv49⟩ := hr45
   refine q_ hf rfl rfl rfl (e_indexAddr (A := A9) (b := b47) (o := 0) (xs := y7) (i := 0) hf hA48 rfl rfl Tryz.underlying91 Tryz.sizeOf9 h43 h44) fun a hf => ?_
   refine q_ hf rfl rfl rfl (e_load1 hf rfl Tryz.isAgg9 (hcell46 0 _ rfl)) fun a hf => ?_
   refine q_ hf rfl rfl rfl (e_eqS hf (x := e41) (y := ([112, 108, 97, 121] : Str)) rfl rfl) fun a hf => ?_
   refine q_ hf rfl rfl rfl (e_move hf rfl) fun a hf => ?_
   rcases cond_some h40 with ⟨hc50, h40⟩ | ⟨hc50, h40⟩
   ·refine gq (wanted_t hf rfl rfl rfl rfl hc50) hf rfl rfl (e_move hf rfl) fun a hf => ?_
    have hl51 := row_len (hM.ownAt (k := 1) rfl)
    refine gq (wanted_t hf rfl rfl rfl rfl hc50) hf rfl rfl (e_lenL hf (x := y7) rfl Tryz.underlying91) fun a hf => ?_
    refine gq (wanted_t hf rfl rfl rfl rfl hc50) hf rfl rfl (e_eq hf (x := (y7.length : Int)) (y := 4) rfl rfl) fun a hf => ?_
    refine q_ hf rfl rfl rfl (e_pick_t hf rfl hc50 rfl) fun a hf => ?_
    refine q_ hf rfl rfl rfl (e_assign hf rfl) fun a hf => ?_
    refine pl_nil ?_
    obtain rfl := some_inj h40
    refine then_n ?_
    exact ⟨((y7.length : Int) == 4), rfl, hf.keep ⟨rfl, rfl, rfl, rfl, rfl, trivial⟩, hM.pick [] rfl⟩
   iterate 3 refine pl_gs (wanted_f hf rfl rfl rfl rfl hc50) hf rfl rfl fun a hf => ?_
   refine q_ hf rfl rfl rfl (e_pick_f hf rfl hc50 rfl) fun a hf => ?_
   refine q_ hf rfl rfl rfl (e_assign hf rfl) fun a hf => ?_
   refine pl_nil ?_
   obtain rfl := some_inj h40
   refine then_n ?_
   exact ⟨false, rfl, hf.keep ⟨rfl, rfl, rfl, rfl, rfl, trivial⟩, hM.pick [] rfl⟩
  rintro a w54 ⟨t37, rfl, hf, hM⟩
  try dsimp only at h36
  rcases cond_some h36 with ⟨hc55, h36⟩ | ⟨hc55, h36⟩
  ·refine cond_t hf rfl hc55 ?_
   refine wp_seq ?_
   refine region_pl ?_
   refine q_ hf rfl rfl rfl (e_field hf rfl Tryz.underlying55 rfl Tryz.sizeOf2 (o' := 0) rfl) fun a hf => ?_
   refine pl_0 hf rfl rfl (w_store hf hM (us := [vI (1)]) (cs' := [vI (1), vI (0), vI (0), .bool (false), vS (([] : Str)), vS (([] : Str)), vI (0)]) rfl rfl (k := 0) rfl rfl Tryz.sizeOf2 rfl rfl rfl fun w56 hM => ?_)
   dsimp only [List.set] at hM
   refine pl_nil ?_
   refine then_n ?_
   obtain ⟨w59, hw⟩ : ∃ x, x = w56.drew := ⟨_, rfl⟩
   refine region_pi (.q 0 (.q 1 (.q 2 (.q 3 (.q 4 (.q 5 (.q 6 (.q 7 (.l 8 (.q 9 (.q 10 (.q 11 (.q 12 (.l 13 (.q 14 (.nil)))))))))))))))) (ExtM [some b14] w59) rfl (by kernel_rfl) ?_
   have hM := hM.drew
   rw [← hw] at hM ⊢
   clear hw
   refine pi_q hf rfl rfl rfl rfl (ExtM.refl _ _) (e_move hf rfl) fun a hf => ?_
   obtain ⟨e60, hz61, h36⟩ := bind_some h36
   obtain ⟨b66, _, hA67, h62, h63, hr64, hcell65⟩ := hM.rowElemN (k := 1) rfl (n := 1) rfl hz61
   obtain ⟨rfl, hv68⟩ := hr64
   refine pi_q hf rfl rfl rfl rfl (ExtM.refl _ _) (e_indexAddr (A := A9) (b := b66) (o := 0) (xs := y7) (i := 1) hf hA67 rfl rfl Tryz.underlying91 Tryz.sizeOf9 h62 h63) fun a hf => ?_
   refine pi_q hf rfl rfl rfl rfl (ExtM.refl _ _) (e_load1M hf rfl Tryz.isAgg9 (hcell65 0 _ rfl) (hM.apart (js := [0]) rfl (k := 1) rfl (by rw [hA67]; rfl) rfl)) fun a hf => ?_
   obtain ⟨s69, hz70, h36⟩ := bind_some h36
   refine pi_q hf rfl rfl rfl rfl (ExtM.refl _ _) (e_cat hf (x := e60) (y := ([32] : Str)) rfl rfl hz70) fun a hf => ?_
   refine pi_q hf rfl rfl rfl rfl (ExtM.refl _ _) (e_move hf rfl) fun a hf => ?_
   obtain ⟨e71, hz72, h36⟩ := bind_some h36
   obtain ⟨b77, _, hA78, h73, h74, hr75, hcell76⟩ := hM.rowElemN (k := 1) rfl (n := 1) rfl hz72
   obtain ⟨rfl, hv79⟩ := hr75
   refine pi_q hf rfl rfl rfl rfl (ExtM.refl _ _) (e_indexAddr (A := A9) (b := b77) (o := 0) (xs := y7) (i := 2) hf hA78 rfl rfl Tryz.underlying91 Tryz.sizeOf9 h73 h74) fun a hf => ?_
   refine pi_q hf rfl rfl rfl rfl (ExtM.refl _ _) (e_load1M hf rfl Tryz.isAgg9 (hcell76 0 _ rfl) (hM.apart (js := [0]) rfl (k := 1) rfl (by rw [hA78]; rfl) rfl)) fun a hf => ?_
   obtain ⟨s80, hz81, h36⟩ := bind_some h36
   refine pi_q hf rfl rfl rfl rfl (ExtM.refl _ _) (e_cat hf (x := s69) (y := e71) rfl rfl hz81) fun a hf => ?_
   refine pi_one ?_
   obtain ⟨y82, hz83, h36⟩ := bind_some h36
   refine pi_l hf rfl rfl rfl rfl (w_call hf Tryz.call113 rfl (r_spec_l12Read ⟨_, Sh C _ _, none_, hM.sh_lt, none_not, C.G, hM.g_lt, g_none, hM.tabs⟩ s80 (cat_len hz81) _ hz83) ?_)
   rintro _ w87 ⟨rfl, hM2, hv84, hv85, hv86⟩
   obtain ⟨hM, hx88, hup89⟩ := hM.back hM2
   dsimp only [List.cons_append, List.nil_append] at hM hup89
   clear hM2
   refine ⟨_, rfl, ExtM [some b14] w87, fun _ h => ExtM.trans hx88 h, ExtM.refl _ _, fun a hf => ?_⟩
   refine pi_q hf rfl rfl rfl rfl (ExtM.refl _ _) (e_move hf rfl) fun a hf => ?_
   iterate 2 refine pi_q hf rfl rfl rfl rfl (ExtM.refl _ _) (e_extract hf rfl rfl) fun a hf => ?_
   refine pi_q hf rfl rfl rfl rfl (ExtM.refl _ _) (e_field hf rfl Tryz.underlying55 rfl Tryz.sizeOf41 (o' := 1) rfl) fun a hf => ?_
   refine pi_one ?_
   refine pi_l0 hf rfl rfl rfl (w_storeM hf (List.mem_of_getElem? (i := 0) rfl) hM (us := [vI (y82.1.Row), vI (y82.1.Col), .bool (y82.1.Down), vS (y82.1.Word)]) (cs' := [vI (1), vI (y82.1.Row), vI (y82.1.Col), .bool (y82.1.Down), vS (y82.1.Word), vS (([] : Str)), vI (0)]) rfl rfl (k := 0) rfl rfl Tryz.sizeOf41 rfl rfl rfl fun w90 hxm91 hsz92 hM => ⟨Ext w90, fun _ h => ExtM.last hxm91 hsz92 h, Ext.refl _, ?_⟩)
   dsimp only [List.set] at hM
   refine pi_q hf rfl rfl rfl rfl (Ext.refl _) (e_assign hf rfl) fun a hf => ?_
   refine pi_nil ?_
   refine blk_n ?_
   obtain rfl := some_inj h36
   refine then_n ?_
   exact ⟨1, y82.1.Row, y82.1.Col, y82.1.Down, y82.1.Word, ([] : Str), y82.2, rfl, hf.keep ⟨rfl, rfl, rfl, rfl, trivial⟩, hM.pick [] rfl, (R64_lit rfl), hv84, hv85, hv86, (lit_len rfl)⟩
  refine cond_f hf rfl hc55 ?_
  obtain ⟨x96, h97, h36⟩ := bind_some h36
  refine seq_join (fun a w => ∃ (t94 : Bool), t94 = x96 ∧ Has 96 a [(2, vP b3 (0)), (4, vL A9 (y7) c10), (5, vP b14 (0)), (6, .bool (false)), (36, .bool (t94))] ∧ Mem C w [.box b14 [vI (0), vI (0), vI (0), .bool (false), vS (([] : Str)), vS (([] : Str)), vI (0)] 55, .row strRep A9 c10 9 y7 true, .box b3 [vI (0), vI (0), vI (0), .bool (false), vS (([] : Str)), vS (([] : Str)), vI (0)] 55] []) ?_ ?_
  ·refine region_pl ?_
   refine q_ hf rfl rfl rfl (e_move hf rfl) fun a hf => ?_
   obtain ⟨e98, hz99, h97⟩ := bind_some h97
   obtain ⟨b104, _, hA105, h100, h101, hr102, hcell103⟩ := hM.rowElemN (k := 1) rfl (n := 1) rfl hz99
   obtain ⟨rfl, hv106⟩ := hr102
   refine q_ hf rfl rfl rfl (e_indexAddr (A := A9) (b := b104) (o := 0) (xs := y7) (i := 0) hf hA105 rfl rfl Tryz.underlying91 Tryz.sizeOf9 h100 h101) fun a hf => ?_
   refine q_ hf rfl rfl rfl (e_load1 hf rfl Tryz.isAgg9 (hcell103 0 _ rfl)) fun a hf => ?_
   refine q_ hf rfl rfl rfl (e_eqS hf (x := e98) (y := ([101, 120, 99, 104, 97, 110, 103, 101] : Str)) rfl rfl) fun a hf => ?_
   refine q_ hf rfl rfl rfl (e_move hf rfl) fun a hf => ?_
   rcases cond_some h97 with ⟨hc107, h97⟩ | ⟨hc107, h97⟩
   ·refine gq (wanted_t hf rfl rfl rfl rfl hc107) hf rfl rfl (e_move hf rfl) fun a hf => ?_
    have hl108 := row_len (hM.ownAt (k := 1) rfl)
    refine gq (wanted_t hf rfl rfl rfl rfl hc107) hf rfl rfl (e_lenL hf (x := y7) rfl Tryz.underlying91) fun a hf => ?_
    refine gq (wanted_t hf rfl rfl rfl rfl hc107) hf rfl rfl (e_eq hf (x := (y7.length : Int)) (y := 3) rfl rfl) fun a hf => ?_
    refine q_ hf rfl rfl rfl (e_pick_t hf rfl hc107 rfl) fun a hf => ?_
    refine q_ hf rfl rfl rfl (e_assign hf rfl) fun a hf => ?_
    refine pl_nil ?_
    obtain rfl := some_inj h97
    refine then_n ?_
    exact ⟨((y7.length : Int) == 3), rfl, hf.keep ⟨rfl, rfl, rfl, rfl, rfl, trivial⟩, hM.pick [] rfl⟩
   iterate 3 refine pl_gs (wanted_f hf rfl rfl rfl rfl hc107) hf rfl rfl fun a hf => ?_
   refine q_ hf rfl rfl rfl (e_pick_f hf rfl hc107 rfl) fun a hf => ?_
   refine q_ hf rfl rfl rfl (e_assign hf rfl) fun a hf => ?_
   refine pl_nil ?_
   obtain rfl := some_inj h97
   refine then_n ?_
   exact ⟨false, rfl, hf.keep ⟨rfl, rfl, rfl, rfl, rfl, trivial⟩, hM.pick [] rfl⟩
  rintro a w111 ⟨t94, rfl, hf, hM⟩
  try dsimp only at h36
  rcases cond_some h36 with ⟨hc112, h36⟩ | ⟨hc112, h36⟩
  ·refine cond_t hf rfl hc112 ?_
   refine wp_seq ?_
   refine region_pl ?_
   refine q_ hf rfl rfl rfl (e_move hf rfl) fun a hf => ?_
   obtain ⟨e113, hz114, h36⟩ := bind_some h36
   obtain ⟨b119, _, hA120, h115, h116, hr117, hcell118⟩ := hM.rowElemN (k := 1) rfl (n := 1) rfl hz114
   obtain ⟨rfl, hv121⟩ := hr117
   refine q_ hf rfl rfl rfl (e_indexAddr (A := A9) (b := b119) (o := 0) (xs := y7) (i := 1) hf hA120 rfl rfl Tryz.underlying91 Tryz.sizeOf9 h115 h116) fun a hf => ?_
   refine q_ hf rfl rfl rfl (e_load1 hf rfl Tryz.isAgg9 (hcell118 0 _ rfl)) fun a hf => ?_
   refine q_ hf rfl rfl rfl (e_build hf Tryz.zeroValue55 Tryz.underlying55 (bp_55 _ Tryz.underlying55.symm) rfl (cs := #[vI (2), vI (0), vI (0), .bool (false), vS (([] : Str)), vS (e113), vI (0)]) (by kernel_rfl)) fun a hf => ?_
   refine pl_0 hf rfl rfl (w_store hf hM (us := [vI (2), vI (0), vI (0), .bool (false), vS (([] : Str)), vS (e113), vI (0)]) (cs' := [vI (2), vI (0), vI (0), .bool (false), vS (([] : Str)), vS (e113), vI (0)]) rfl rfl (k := 0) rfl rfl Tryz.sizeOf55 rfl rfl rfl fun w122 hM => ?_)
   dsimp only [List.set] at hM
   refine pl_nil ?_
   refine then_n ?_
   refine region_pl ?_
   refine q_ hf rfl rfl rfl (e_assign hf rfl) fun a hf => ?_
   refine pl_nil ?_
   refine blk_n ?_
   obtain rfl := some_inj h36
   refine then_n ?_
   exact ⟨2, 0, 0, false, ([] : Str), e113, true, rfl, hf.keep ⟨rfl, rfl, rfl, rfl, trivial⟩, hM.pick [] rfl, (R64_lit rfl), (R64_lit rfl), (R64_lit rfl), (lit_len rfl), hv121⟩
  refine cond_f hf rfl hc112 ?_
  obtain ⟨x128, h129, h36⟩ := bind_some h36
  refine seq_join (fun a w => ∃ (t126 : Bool), t126 = x128 ∧ Has 96 a [(2, vP b3 (0)), (4, vL A9 (y7) c10), (5, vP b14 (0)), (6, .bool (false)), (50, .bool (t126))] ∧ Mem C w [.box b14 [vI (0), vI (0), vI (0), .bool (false), vS (([] : Str)), vS (([] : Str)), vI (0)] 55, .row strRep A9 c10 9 y7 true, .box b3 [vI (0), vI (0), vI (0), .bool (false), vS (([] : Str)), vS (([] : Str)), vI (0)] 55] []) ?_ ?_
  ·refine region_pl ?_
   refine q_ hf rfl rfl rfl (e_move hf rfl) fun a hf => ?_
   obtain ⟨e130, hz131, h129⟩ := bind_some h129
   obtain ⟨b136, _, hA137, h132, h133, hr134, hcell135⟩ := hM.rowElemN (k := 1) rfl (n := 1) rfl hz131
   obtain ⟨rfl, hv138⟩ := hr134
   refine q_ hf rfl rfl rfl (e_indexAddr (A := A9) (b := b136) (o := 0) (xs := y7) (i := 0) hf hA137 rfl rfl Tryz.underlying91 Tryz.sizeOf9 h132 h133) fun a hf => ?_
   refine q_ hf rfl rfl rfl (e_load1 hf rfl Tryz.isAgg9 (hcell135 0 _ rfl)) fun a hf => ?_
   refine q_ hf rfl rfl rfl (e_eqS hf (x := e130) (y := ([112, 97, 115, 115] : Str)) rfl rfl) fun a hf => ?_
   refine q_ hf rfl rfl rfl (e_move hf rfl) fun a hf => ?_
   rcases cond_some h129 with ⟨hc139, h129⟩ | ⟨hc139, h129⟩
   ·refine gq (wanted_t hf rfl rfl rfl rfl hc139) hf rfl rfl (e_move hf rfl) fun a hf => ?_
    have hl140 := row_len (hM.ownAt (k := 1) rfl)
    refine gq (wanted_t hf rfl rfl rfl rfl hc139) hf rfl rfl (e_lenL hf (x := y7) rfl Tryz.underlying91) fun a hf => ?_
    refine gq (wanted_t hf rfl rfl rfl rfl hc139) hf rfl rfl (e_eq hf (x := (y7.length : Int)) (y := 2) rfl rfl) fun a hf => ?_
    refine q_ hf rfl rfl rfl (e_pick_t hf rfl hc139 rfl) fun a hf => ?_
    refine q_ hf rfl rfl rfl (e_assign hf rfl) fun a hf => ?_
    refine pl_nil ?_
    obtain rfl := some_inj h129
    refine then_n ?_
    exact ⟨((y7.length : Int) == 2), rfl, hf.keep ⟨rfl, rfl, rfl, rfl, rfl, trivial⟩, hM.pick [] rfl⟩
   iterate 3 refine pl_gs (wanted_f hf rfl rfl rfl rfl hc139) hf rfl rfl fun a hf => ?_
   refine q_ hf rfl rfl rfl (e_pick_f hf rfl hc139 rfl) fun a hf => ?_
   refine q_ hf rfl rfl rfl (e_assign hf rfl) fun a hf => ?_
   refine pl_nil ?_
   obtain rfl := some_inj h129
   refine then_n ?_
   exact ⟨false, rfl, hf.keep ⟨rfl, rfl, rfl, rfl, rfl, trivial⟩, hM.pick [] rfl⟩
  rintro a w143 ⟨t126, rfl, hf, hM⟩
  try dsimp only at h36
  rcases cond_some h36 with ⟨hc144, h36⟩ | ⟨hc144, h36⟩
  ·refine cond_t hf rfl hc144 ?_
   refine wp_seq ?_
   refine region_pl ?_
   refine q_ hf rfl rfl rfl (e_field hf rfl Tryz.underlying55 rfl Tryz.sizeOf2 (o' := 0) rfl) fun a hf => ?_
   refine pl_0 hf rfl rfl (w_store hf hM (us := [vI (3)]) (cs' := [vI (3), vI (0), vI (0), .bool (false), vS (([] : Str)), vS (([] : Str)), vI (0)]) rfl rfl (k := 0) rfl rfl Tryz.sizeOf2 rfl rfl rfl fun w145 hM => ?_)
   dsimp only [List.set] at hM
   refine pl_nil ?_
   refine then_n ?_
   refine region_pl ?_
   refine q_ hf rfl rfl rfl (e_assign hf rfl) fun a hf => ?_
   refine pl_nil ?_
   refine blk_n ?_
   obtain rfl := some_inj h36
   refine then_n ?_
   exact ⟨3, 0, 0, false, ([] : Str), ([] : Str), true, rfl, hf.keep ⟨rfl, rfl, rfl, rfl, trivial⟩, hM.pick [] rfl, (R64_lit rfl), (R64_lit rfl), (R64_lit rfl), (lit_len rfl), (lit_len rfl)⟩
  refine cond_f hf rfl hc144 ?_
  obtain ⟨x151, h152, h36⟩ := bind_some h36
  refine seq_join (fun a w => ∃ (t149 : Bool), t149 = x151 ∧ Has 96 a [(2, vP b3 (0)), (4, vL A9 (y7) c10), (5, vP b14 (0)), (6, .bool (false)), (61, .bool (t149))] ∧ Mem C w [.box b14 [vI (0), vI (0), vI (0), .bool (false), vS (([] : Str)), vS (([] : Str)), vI (0)] 55, .row strRep A9 c10 9 y7 true, .box b3 [vI (0), vI (0), vI (0), .bool (false), vS (([] : Str)), vS (([] : Str)), vI (0)] 55] []) ?_ ?_
  ·refine region_pl ?_
   refine q_ hf rfl rfl rfl (e_move hf rfl) fun a hf => ?_
   obtain ⟨e153, hz154, h152⟩ := bind_some h152
   obtain ⟨b159, _, hA160, h155, h156, hr157, hcell158⟩ := hM.rowElemN (k := 1) rfl (n := 1) rfl hz154
   obtain ⟨rfl, hv161⟩ := hr157
   refine q_ hf rfl rfl rfl (e_indexAddr (A := A9) (b := b159) (o := 0) (xs := y7) (i := 0) hf hA160 rfl rfl Tryz.underlying91 Tryz.sizeOf9 h155 h156) fun a hf => ?_
   refine q_ hf rfl rfl rfl (e_load1 hf rfl Tryz.isAgg9 (hcell158 0 _ rfl)) fun a hf => ?_
   refine q_ hf rfl rfl rfl (e_eqS hf (x := e153) (y := ([99, 104, 97, 108, 108, 101, 110, 103, 101] : Str)) rfl rfl) fun a hf => ?_
   refine q_ hf rfl rfl rfl (e_move hf rfl) fun a hf => ?_
   rcases cond_some h152 with ⟨hc162, h152⟩ | ⟨hc162, h152⟩
   ·refine gq (wanted_t hf rfl rfl rfl rfl hc162) hf rfl rfl (e_move hf rfl) fun a hf => ?_
    have hl163 := row_len (hM.ownAt (k := 1) rfl)
    refine gq (wanted_t hf rfl rfl rfl rfl hc162) hf rfl rfl (e_lenL hf (x := y7) rfl Tryz.underlying91) fun a hf => ?_
    refine gq (wanted_t hf rfl rfl rfl rfl hc162) hf rfl rfl (e_eq hf (x := (y7.length : Int)) (y := 2) rfl rfl) fun a hf => ?_
    refine q_ hf rfl rfl rfl (e_pick_t hf rfl hc162 rfl) fun a hf => ?_
    refine q_ hf rfl rfl rfl (e_assign hf rfl) fun a hf => ?_
    refine pl_nil ?_
    obtain rfl := some_inj h152
    refine then_n ?_
    exact ⟨((y7.length : Int) == 2), rfl, hf.keep ⟨rfl, rfl, rfl, rfl, rfl, trivial⟩, hM.pick [] rfl⟩
   iterate 3 refine pl_gs (wanted_f hf rfl rfl rfl rfl hc162) hf rfl rfl fun a hf => ?_
   refine q_ hf rfl rfl rfl (e_pick_f hf rfl hc162 rfl) fun a hf => ?_
   refine q_ hf rfl rfl rfl (e_assign hf rfl) fun a hf => ?_
   refine pl_nil ?_
   obtain rfl := some_inj h152
   refine then_n ?_
   exact ⟨false, rfl, hf.keep ⟨rfl, rfl, rfl, rfl, rfl, trivial⟩, hM.pick [] rfl⟩
  rintro a w166 ⟨t149, rfl, hf, hM⟩
  try dsimp only at h36
  rcases cond_some h36 with ⟨hc167, h36⟩ | ⟨hc167, h36⟩
  ·refine cond_t hf rfl hc167 ?_
   refine wp_seq ?_
   refine region_pl ?_
   refine q_ hf rfl rfl rfl (e_field hf rfl Tryz.underlying55 rfl Tryz.sizeOf2 (o' := 0) rfl) fun a hf => ?_
   refine pl_0 hf rfl rfl (w_store hf hM (us := [vI (4)]) (cs' := [vI (4), vI (0), vI (0), .bool (false), vS (([] : Str)), vS (([] : Str)), vI (0)]) rfl rfl (k := 0) rfl rfl Tryz.sizeOf2 rfl rfl rfl fun w168 hM => ?_)
   dsimp only [List.set] at hM
   refine pl_nil ?_
   refine then_n ?_
   refine region_pl ?_
   refine q_ hf rfl rfl rfl (e_assign hf rfl) fun a hf => ?_
   refine pl_nil ?_
   refine blk_n ?_
   obtain rfl := some_inj h36
   refine then_n ?_
   exact ⟨4, 0, 0, false, ([] : Str), ([] : Str), true, rfl, hf.keep ⟨rfl, rfl, rfl, rfl, trivial⟩, hM.pick [] rfl, (R64_lit rfl), (R64_lit rfl), (R64_lit rfl), (lit_len rfl), (lit_len rfl)⟩
  refine cond_f hf rfl hc167 ?_
  refine wp_skip ?_
  refine blk_n ?_
  obtain rfl := some_inj h36
  refine then_n ?_
  exact ⟨0, 0, 0, false, ([] : Str), ([] : Str), false, rfl, hf.keep ⟨rfl, rfl, rfl, rfl, trivial⟩, hM.pick [] rfl, (R64_lit rfl), (R64_lit rfl), (R64_lit rfl), (lit_len rfl), (lit_len rfl)⟩
 rintro a w173 ⟨n21, n23, n25, t27, s29, s31, n33, rfl, hf, hM, hv22, hv24, hv26, hv30, hv32⟩
 try dsimp only at h
 refine wp_seq ?_
 refine region_pl ?_
 iterate 2 refine q_ hf rfl rfl rfl (e_move hf rfl) fun a hf => ?_
 have hl174 := row_len (hM.ownAt (k := 1) rfl)
 refine q_ hf rfl rfl rfl (e_lenL hf (x := y7) rfl Tryz.underlying91) fun a hf => ?_
 obtain ⟨z175, hz176, h⟩ := bind_some h
 refine q_ hf rfl rfl rfl (e_sub hf rfl rfl hz176) fun a hf => ?_
 obtain ⟨e177, hz178, h⟩ := bind_some h
 obtain ⟨b183, _, hA184, h179, h180, hr181, hcell182⟩ := hM.rowElemN (k := 1) rfl (n := 1) rfl hz178
 obtain ⟨rfl, hv185⟩ := hr181
 refine q_ hf rfl rfl rfl (e_indexAddr (A := A9) (b := b183) (o := 0) (xs := y7) (i := z175) hf hA184 rfl rfl Tryz.underlying91 Tryz.sizeOf9 h179 h180) fun a hf => ?_
 refine q_ hf rfl rfl rfl (e_load1 hf rfl Tryz.isAgg9 (hcell182 0 _ rfl)) fun a hf => ?_
 obtain ⟨y186, hz187, h⟩ := bind_some h
 refine pl_l hf rfl rfl rfl (w_call hf Tryz.call69 rfl (r_spec_l01Number ⟨_, Sh C _ _, none_, hM.sh_lt, none_not, C.G, hM.g_lt, g_none, hM.tabs⟩ e177 hv185 _ hz187) ?_)
 rintro _ w189 ⟨rfl, hM2, hv188⟩
 obtain ⟨hM, hx190, hup191⟩ := hM.back hM2
 dsimp only [List.cons_append, List.nil_append] at hM hup191
 clear hM2
 refine ⟨_, rfl, fun a hf => ?_⟩
 refine q_ hf rfl rfl rfl (e_move hf rfl) fun a hf => ?_
 iterate 2 refine q_ hf rfl rfl rfl (e_extract hf rfl rfl) fun a hf => ?_
 iterate 2 refine q_ hf rfl rfl rfl (e_assign hf rfl) fun a hf => ?_
 refine pl_nil ?_
 refine then_n ?_
 refine wp_seq ?_
 refine region_pl ?_
 refine q_ hf rfl rfl rfl (e_move hf rfl) fun a hf => ?_
 refine q_ hf rfl rfl rfl (e_field hf rfl Tryz.underlying55 rfl Tryz.sizeOf2 (o' := 6) rfl) fun a hf => ?_
 refine pl_0 hf rfl rfl (w_store hf hM (us := [vI (y186.1)]) (cs' := [vI (n21), vI (n23), vI (n25), .bool (t27), vS (s29), vS (s31), vI (y186.1)]) rfl rfl (k := 0) rfl rfl Tryz.sizeOf2 rfl rfl rfl fun w192 hM => ?_)
 dsimp only [List.set] at hM
 refine pl_nil ?_
 refine then_n ?_
 refine wp_seq ?_
 obtain ⟨x197, h198, h⟩ := bind_some h
 refine seq_join (fun a w => ∃ (t195 : Bool), t195 = x197 ∧ Has 96 a [(2, vP b3 (0)), (5, vP b14 (0)), (93, .bool (t195))] ∧ Mem C w [.box b14 [vI (n21), vI (n23), vI (n25), .bool (t27), vS (s29), vS (s31), vI (y186.1)] 55, .row strRep A9 c10 9 y7 true, .box b3 [vI (0), vI (0), vI (0), .bool (false), vS (([] : Str)), vS (([] : Str)), vI (0)] 55] []) ?_ ?_
 ·refine region_pl ?_
  refine q_ hf rfl rfl rfl (e_move hf rfl) fun a hf => ?_
  refine q_ hf rfl rfl rfl (e_not hf rfl) fun a hf => ?_
  refine q_ hf rfl rfl rfl (e_move hf rfl) fun a hf => ?_
  rcases cond_some h198 with ⟨hc199, h198⟩ | ⟨hc199, h198⟩
  ·iterate 2 refine pl_gs (wanted_f hf rfl rfl rfl rfl hc199) hf rfl rfl fun a hf => ?_
   refine q_ hf rfl rfl rfl (e_pick_t hf rfl hc199 rfl) fun a hf => ?_
   refine q_ hf rfl rfl rfl (e_move hf rfl) fun a hf => ?_
   iterate 2 refine pl_gs (wanted_f hf rfl rfl rfl rfl rfl) hf rfl rfl fun a hf => ?_
   refine q_ hf rfl rfl rfl (e_pick_t hf rfl rfl rfl) fun a hf => ?_
   refine pl_nil ?_
   obtain rfl := some_inj h198
   refine then_n ?_
   exact ⟨true, rfl, hf.keep ⟨rfl, rfl, rfl, trivial⟩, hM.pick [] rfl⟩
  refine gq (wanted_t hf rfl rfl rfl rfl hc199) hf rfl rfl (e_move hf rfl) fun a hf => ?_
  refine gq (wanted_t hf rfl rfl rfl rfl hc199) hf rfl rfl (e_not hf rfl) fun a hf => ?_
  refine q_ hf rfl rfl rfl (e_pick_f hf rfl hc199 rfl) fun a hf => ?_
  refine q_ hf rfl rfl rfl (e_move hf rfl) fun a hf => ?_
  rcases cond_some h198 with ⟨hc201, h198⟩ | ⟨hc201, h198⟩
  ·iterate 2 refine pl_gs (wanted_f hf rfl rfl rfl rfl hc201) hf rfl rfl fun a hf => ?_
   refine q_ hf rfl rfl rfl (e_pick_t hf rfl hc201 rfl) fun a hf => ?_
   refine pl_nil ?_
   obtain rfl := some_inj h198
   refine then_n ?_
   exact ⟨true, rfl, hf.keep ⟨rfl, rfl, rfl, trivial⟩, hM.pick [] rfl⟩
  obtain ⟨y203, hz204, h198⟩ := bind_some h198
  refine pl_gl (wanted_t hf rfl rfl rfl rfl hc201) hf rfl rfl (w_call hf Tryz.call120 rfl (r_spec_l20Action ⟨_, All C _ _, none_, hM.all_lt, none_not, C.G, hM.g_lt, g_none, hM.tabs⟩ (⟨n21, ⟨n23, n25, t27, s29⟩, s31, y186.1⟩ : Action) _ _ (hM.lendBox (k := 0) rfl (ActionRep_mk (x := (⟨n21, ⟨n23, n25, t27, s29⟩, s31, y186.1⟩ : Action)) hv22 hv24 hv26 hv30 hv32 hv188)) _ hz204) ?_)
  rintro _ w205 ⟨rfl, hM2⟩
  obtain ⟨hM, hx206⟩ := hM.backA hM2
  clear hM2
  refine ⟨_, rfl, fun a hf => ?_⟩
  refine gq (wanted_t hf rfl rfl rfl rfl hc201) hf rfl rfl (e_not hf rfl) fun a hf => ?_
  refine q_ hf rfl rfl rfl (e_pick_f hf rfl hc201 rfl) fun a hf => ?_
  refine pl_nil ?_
  obtain rfl := some_inj h198
  refine then_n ?_
  exact ⟨(!y203), rfl, hf.keep ⟨rfl, rfl, rfl, trivial⟩, hM.pick [] rfl⟩
 rintro a w209 ⟨t195, rfl, hf, hM⟩
 try dsimp only at h
 rcases cond_some h with ⟨hc210, h⟩ | ⟨hc210, h⟩
 ·refine cond_t hf rfl hc210 ?_
  refine wp_seq ?_
  refine region_pl ?_
  refine q_ hf rfl rfl rfl (e_build hf Tryz.zeroValue55 Tryz.underlying55 (bp_55 _ Tryz.underlying55.symm) rfl (cs := #[vI (0), vI (0), vI (0), .bool (false), vS (([] : Str)), vS (([] : Str)), vI (0)]) (by kernel_rfl)) fun a hf => ?_
  refine pl_0 hf rfl rfl (w_store hf hM (us := [vI (0), vI (0), vI (0), .bool (false), vS (([] : Str)), vS (([] : Str)), vI (0)]) (cs' := [vI (0), vI (0), vI (0), .bool (false), vS (([] : Str)), vS (([] : Str)), vI (0)]) rfl rfl (k := 2) rfl rfl Tryz.sizeOf55 rfl rfl rfl fun w211 hM => ?_)
  dsimp only [List.set] at hM
  refine q_ hf rfl rfl rfl (e_assign hf rfl) fun a hf => ?_
  refine pl_nil ?_
  refine then_n ?_
  refine wp_ret ?_
  refine then_r ?_
  obtain rfl := some_inj h
  have hres214 := leaveV2 (P := Tryz.prog) (w := w211) Tryz.results58 (res_agg hf rfl ⟨Tryz.isAgg55, Tryz.sizeOf55⟩ (us := [vI (0), vI (0), vI (0), .bool (false), vS (([] : Str)), vS (([] : Str)), vI (0)]) rfl (hM.boxSub (k := 2) (o := 0) rfl rfl)) (res_tmp hf rfl)
  have hM := hM.outs (own' := []) 0 rfl
  exact bodyPost_ret hres214 hf.defers ⟨rfl, hM.fin, (R64_lit rfl), (R64_lit rfl), (R64_lit rfl), (lit_len rfl), (lit_len rfl), (R64_lit rfl)⟩
 refine cond_f hf rfl hc210 ?_
 refine wp_skip ?_
 refine then_n ?_
 refine wp_seq ?_
 refine region_pl ?_
 refine q_ hf rfl rfl rfl (e_loadA hf (us := [vI (n21), vI (n23), vI (n25), .bool (t27), vS (s29), vS (s31), vI (y186.1)]) rfl ⟨Tryz.isAgg55, Tryz.sizeOf55⟩ rfl (hM.boxSub (k := 0) (us := [vI (n21), vI (n23), vI (n25), .bool (t27), vS (s29), vS (s31), vI (y186.1)]) (o := 0) rfl rfl)) fun a hf => ?_
 refine pl_0 hf rfl rfl (w_store hf hM (us := [vI (n21), vI (n23), vI (n25), .bool (t27), vS (s29), vS (s31), vI (y186.1)]) (cs' := [vI (n21), vI (n23), vI (n25), .bool (t27), vS (s29), vS (s31), vI (y186.1)]) rfl rfl (k := 2) rfl rfl Tryz.sizeOf55 rfl rfl rfl fun w215 hM => ?_)
 dsimp only [List.set] at hM
 refine q_ hf rfl rfl rfl (e_assign hf rfl) fun a hf => ?_
 refine pl_nil ?_
 refine then_n ?_
 refine wp_ret ?_
 obtain rfl := some_inj h
 have hres218 := leaveV2 (P := Tryz.prog) (w := w215) Tryz.results58 (res_agg hf rfl ⟨Tryz.isAgg55, Tryz.sizeOf55⟩ (us := [vI (n21), vI (n23), vI (n25), .bool (t27), vS (s29), vS (s31), vI (y186.1)]) rfl (hM.boxSub (k := 2) (o := 0) rfl rfl)) (res_tmp hf rfl)
 have hM := hM.outs (own' := []) 0 rfl
 exact bodyPost_ret hres218 hf.defers ⟨rfl, hM.fin, hv22, hv24, hv26, hv30, hv32, hv188⟩

set_option maxRecDepth 100000 in
set_option maxHeartbeats 4000000 in
theorem r_spec_l20Ok (C : Cx) (r1 : Record) (b2 : Nat) (o3 : Nat) (hp4 : (ptrRep RecordRep).R C.w0 C.S0 r1 [vP b2 o3]) (r : Bool) (h : m_spec_l20Ok r1 = some r) :
    Calls Tryz.prog 70 #[vP b2 (o3)] C.w0 fun e w => e = .returned (.bool (r)) ∧ Mem C w [] [] := by
 have hM := Mem.begin C [.dat (ptrRep RecordRep) r1 [vP b2 o3]] ⟨hp4, trivial⟩
 refine enter Tryz.func70 rfl Tryz.ntmps70 rfl fun a hf => ?_
 unfold m_spec_l20Ok at h
 refine wp_seq ?_
 refine region_pl ?_
 refine q_ hf rfl rfl rfl (e_assign hf rfl) fun a hf => ?_
 refine pl_nil ?_
 refine then_n ?_
 obtain ⟨x5, h6, h⟩ := bind_some h
 refine seq_join (fun a w => (.inl ()) = x5 ∧ Has 34 a [(0, vP b2 (o3))] ∧ Mem C w [] [.dat (ptrRep RecordRep) r1 [vP b2 o3]]) ?_ ?_
 ·refine wp_seq ?_
  refine region_pl ?_
  refine q_ hf rfl rfl rfl (e_assign hf rfl) fun a hf => ?_
  refine pl_nil ?_
  refine then_n ?_
  refine wp_block ?_
  obtain ⟨x10, h11, h6⟩ := bind_some h6
  refine wp_loopM h11 (fun s a w => ∃ (n7 : Int), n7 = s ∧ Has 34 a [(0, vP b2 (o3)), (3, vI (n7))] ∧ Mem C w [] [.dat (ptrRep RecordRep) r1 [vP b2 o3]] ∧ R64 n7) ?_ ?_
  ·exact ⟨0, rfl, hf.keep ⟨rfl, rfl, trivial⟩, hM.pick [0] rfl, (R64_lit rfl)⟩
  rintro s o12 a w9 ⟨n7, rfl, hf, hM, hv8⟩ h13 hd14
  replace h13 : m_spec_l20Ok_l1 r1 n7 = some o12 := h13
  unfold m_spec_l20Ok_l1 at h13
  iterate 2 refine wp_seq ?_
  refine region_pl ?_
  iterate 2 refine q_ hf rfl rfl rfl (e_move hf rfl) fun a hf => ?_
  refine q_ hf rfl rfl rfl (e_nil hf rfl) fun a hf => ?_
  obtain ⟨_, hr15, hM⟩ := hM.deref (hM.dat (k := 0) rfl)
  obtain ⟨A17, c18, rfl, hv16, hv19⟩ := RecordRep_open hr15
  have hM := hM.add (y := .dat (sliceRep ActionRep) r1.Actions [vL A17 r1.Actions c18]) hv19
  refine q_ hf rfl rfl rfl (e_field hf rfl Tryz.underlying61 rfl Tryz.sizeOf59 (o' := o3 + 1) rfl) fun a hf => ?_
  refine q_ hf rfl rfl rfl (e_load1 hf rfl Tryz.isAgg59 (hM.litCell (k := 1) (j := 1) rfl rfl rfl)) fun a hf => ?_
  have hl20 := slice_len (hM.dat (k := 0) rfl)
  refine q_ hf rfl rfl rfl (e_lenL hf (x := r1.Actions) rfl Tryz.underlying59) fun a hf => ?_
  refine q_ hf rfl rfl rfl (e_lt hf (x := n7) (y := (r1.Actions.length : Int)) rfl rfl) fun a hf => ?_
  refine pl_nil ?_
  refine then_n ?_
  rcases cond_some h13 with ⟨hc21, h13⟩ | ⟨hc21, h13⟩
  ·refine cond_t hf rfl hc21 ?_
   refine wp_skip ?_
   refine then_n ?_
   refine wp_seq ?_
   refine wp_block ?_
   refine wp_seq ?_
   refine region_pl ?_
   refine q_ hf rfl rfl rfl (e_move hf rfl) fun a hf => ?_
   refine q_ hf rfl rfl rfl (e_nil hf rfl) fun a hf => ?_
   refine q_ hf rfl rfl rfl (e_field hf rfl Tryz.underlying61 rfl Tryz.sizeOf59 (o' := o3 + 1) rfl) fun a hf => ?_
   refine q_ hf rfl rfl rfl (e_load1 hf rfl Tryz.isAgg59 (hM.litCell (k := 1) (j := 1) rfl rfl rfl)) fun a hf => ?_
   refine q_ hf rfl rfl rfl (e_move hf rfl) fun a hf => ?_
   obtain ⟨e22, hz23, h13⟩ := bind_some h13
   obtain ⟨b27, o28, _, hA29, h24, h25, hr26, hM⟩ := hM.elem (hM.dat (k := 0) rfl) (n := 7) rfl hz23
   obtain ⟨rfl, hv30, hv31, hv32, hv33, hv34, hv35⟩ := ActionRep_open hr26
   refine q_ hf rfl rfl rfl (e_indexAddr (A := A17) (b := b27) (o := o28) (xs := r1.Actions) (i := n7) hf hA29 rfl rfl Tryz.underlying59 Tryz.sizeOf55 h24 h25) fun a hf => ?_
   obtain ⟨y36, hz37, h13⟩ := bind_some h13
   refine pl_l hf rfl rfl rfl (w_call hf Tryz.call120 rfl (r_spec_l20Action ⟨_, Sh C _ _, none_, hM.sh_lt, none_not, C.G, hM.g_lt, g_none, hM.tabs⟩ e22 _ _ (hM.litPtr (k := 0) (d := 0) (us := [vI (e22.Kind), vI (e22.Play.Row), vI (e22.Play.Col), .bool (e22.Play.Down), vS (e22.Play.Word), vS (e22.Tiles), vI (e22.Seconds)]) rfl rfl rfl (ActionRep_mk (x := e22) hv30 hv31 hv32 hv33 hv34 hv35)) _ hz37) ?_)
   rintro _ w38 ⟨rfl, hM2⟩
   obtain ⟨hM, hx39, hup40⟩ := hM.back hM2
   dsimp only [List.cons_append, List.nil_append] at hM hup40
   clear hM2
   refine ⟨_, rfl, fun a hf => ?_⟩
   refine q_ hf rfl rfl rfl (e_not hf rfl) fun a hf => ?_
   refine pl_nil ?_
   refine then_n ?_
   rcases cond_some h13 with ⟨hc41, h13⟩ | ⟨hc41, h13⟩
   ·refine cond_t hf rfl hc41 ?_
    refine wp_seq ?_
    refine region_pl ?_
    refine q_ hf rfl rfl rfl (e_assign hf rfl) fun a hf => ?_
    refine pl_nil ?_
    refine then_n ?_
    refine wp_ret ?_
    refine blk_r ?_
    refine then_r ?_
    obtain rfl := some_inj h13
    obtain rfl := hd14 _ rfl
    try dsimp only at h6
    refine then_r ?_
    refine blk_r ?_
    obtain rfl := some_inj h6
    try dsimp only at h
    refine then_r ?_
    obtain rfl := some_inj h
    exact leave1 hf rfl rfl ⟨rfl, hM.fin⟩
   refine cond_f hf rfl hc41 ?_
   refine wp_skip ?_
   refine blk_n ?_
   refine then_n ?_
   refine region_pl ?_
   refine q_ hf rfl rfl rfl (e_move hf rfl) fun a hf => ?_
   obtain ⟨z42, hz43, h13⟩ := bind_some h13
   refine q_ hf rfl rfl rfl (e_add hf rfl rfl hz43) fun a hf => ?_
   refine q_ hf rfl rfl rfl (e_assign hf rfl) fun a hf => ?_
   refine pl_nil ?_
   obtain rfl := some_inj h13
   refine then_n ⟨_, rfl, ?_⟩
   exact ⟨z42, rfl, hf.keep ⟨rfl, rfl, trivial⟩, hM.pick [3] rfl, (chk_R hz43)⟩
  refine cond_f hf rfl hc21 ?_
  refine wp_exit ?_
  refine then_x ?_
  obtain rfl := some_inj h13
  obtain rfl := hd14 _ rfl
  try dsimp only at h6
  refine then_x ?_
  refine exit_hit ?_
  obtain rfl := some_inj h6
  refine then_n ?_
  exact ⟨rfl, hf.keep ⟨rfl, trivial⟩, hM.pick [2] rfl⟩
 rintro a w50 ⟨rfl, hf, hM⟩
 try dsimp only at h
 obtain ⟨x53, h54, h⟩ := bind_some h
 refine seq_join (fun a w => ∃ (i51 : Bool), i51 = x53 ∧ Has 34 a [(2, .bool (i51))] ∧ Mem C w [] [.dat (ptrRep RecordRep) r1 [vP b2 o3]]) ?_ ?_
 ·refine region_pl ?_
  refine q_ hf rfl rfl rfl (e_move hf rfl) fun a hf => ?_
  refine q_ hf rfl rfl rfl (e_nil hf rfl) fun a hf => ?_
  obtain ⟨_, hr55, hM⟩ := hM.deref (hM.dat (k := 0) rfl)
  obtain ⟨A57, c58, rfl, hv56, hv59⟩ := RecordRep_open hr55
  have hM := hM.add (y := .dat (sliceRep ActionRep) r1.Actions [vL A57 r1.Actions c58]) hv59
  refine q_ hf rfl rfl rfl (e_field hf rfl Tryz.underlying61 rfl Tryz.sizeOf2 (o' := o3 + 0) rfl) fun a hf => ?_
  refine q_ hf rfl rfl rfl (e_load1 hf rfl Tryz.isAgg2 (hM.litCell (k := 1) (j := 0) rfl rfl rfl)) fun a hf => ?_
  obtain ⟨y60, hz61, h54⟩ := bind_some h54
  refine pl_l hf rfl rfl rfl (w_call hf Tryz.call86 rfl (r_spec_l00In ⟨_, Sh C _ _, none_, hM.sh_lt, none_not, C.G, hM.g_lt, g_none, hM.tabs⟩ r1.Seed hv56 0 (R64_lit rfl) 2147483647 (R64_lit rfl) _ hz61) ?_)
  rintro _ w62 ⟨rfl, hM2⟩
  obtain ⟨hM, hx63, hup64⟩ := hM.back hM2
  dsimp only [List.cons_append, List.nil_append] at hM hup64
  clear hM2
  refine ⟨_, rfl, fun a hf => ?_⟩
  refine q_ hf rfl rfl rfl (e_move hf rfl) fun a hf => ?_
  rcases cond_some h54 with ⟨hc65, h54⟩ | ⟨hc65, h54⟩
  ·refine gq (wanted_t hf rfl rfl rfl rfl hc65) hf rfl rfl (e_move hf rfl) fun a hf => ?_
   refine gq (wanted_t hf rfl rfl rfl rfl hc65) hf rfl rfl (e_nil hf rfl) fun a hf => ?_
   refine gq (wanted_t hf rfl rfl rfl rfl hc65) hf rfl rfl (e_field hf rfl Tryz.underlying61 rfl Tryz.sizeOf59 (o' := o3 + 1) rfl) fun a hf => ?_
   refine gq (wanted_t hf rfl rfl rfl rfl hc65) hf rfl rfl (e_load1 hf rfl Tryz.isAgg59 (hM.litCell (k := 1) (j := 1) rfl rfl rfl)) fun a hf => ?_
   have hl66 := slice_len (hM.dat (k := 0) rfl)
   refine gq (wanted_t hf rfl rfl rfl rfl hc65) hf rfl rfl (e_lenL hf (x := r1.Actions) rfl Tryz.underlying59) fun a hf => ?_
   refine gq (wanted_t hf rfl rfl rfl rfl hc65) hf rfl rfl (e_le hf (x := (r1.Actions.length : Int)) (y := 200) rfl rfl) fun a hf => ?_
   refine q_ hf rfl rfl rfl (e_pick_t hf rfl hc65 rfl) fun a hf => ?_
   refine q_ hf rfl rfl rfl (e_assign hf rfl) fun a hf => ?_
   refine pl_nil ?_
   obtain rfl := some_inj h54
   refine then_n ?_
   exact ⟨(decide ((r1.Actions.length : Int) ≤ 200)), rfl, hf.keep ⟨rfl, trivial⟩, hM.pick [2] rfl⟩
  iterate 6 refine pl_gs (wanted_f hf rfl rfl rfl rfl hc65) hf rfl rfl fun a hf => ?_
  refine q_ hf rfl rfl rfl (e_pick_f hf rfl hc65 rfl) fun a hf => ?_
  refine q_ hf rfl rfl rfl (e_assign hf rfl) fun a hf => ?_
  refine pl_nil ?_
  obtain rfl := some_inj h54
  refine then_n ?_
  exact ⟨false, rfl, hf.keep ⟨rfl, trivial⟩, hM.pick [2] rfl⟩
 rintro a w69 ⟨i51, rfl, hf, hM⟩
 try dsimp only at h
 refine wp_ret ?_
 obtain rfl := some_inj h
 exact leave1 hf rfl rfl ⟨rfl, hM.fin⟩

set_option maxRecDepth 100000 in
set_option maxHeartbeats 4000000 in
theorem r_spec_ReadRecord (C : Cx) (s1 : Str) (hp2 : s1.length ≤ maxLen) (r : (Record × Bool)) (h : m_spec_ReadRecord s1 = some r) :
    Calls Tryz.prog 30 #[vS (s1)] C.w0 fun e w => ∃ (A_1 : Option Addr), ∃ (c_1 : Nat), e = .returned (.tuple #[.agg #[vI (r.1.Seed), vL A_1 (r.1.Actions) c_1], .bool (r.2)]) ∧ Mem C w [.row ActionRep A_1 c_1 55 r.1.Actions true] [] ∧ R64 r.1.Seed := by
 have hM := Mem.begin C [] trivial
 refine enter Tryz.func30 rfl Tryz.ntmps30 rfl fun a hf => ?_
 unfold m_spec_ReadRecord at h
 refine wp_seq ?_
 refine region_pl ?_
 refine pl_l hf rfl rfl rfl (w_alloc hM (cs := [vI (0), vL none (([] : (List Action))) 0]) Tryz.zeroValue61 rfl fun b3 w4 hx5 hM a hf => ?_)
 refine q_ hf rfl rfl rfl (e_assign hf rfl) fun a hf => ?_
 refine pl_nil ?_
 refine then_n ?_
 refine wp_seq ?_
 refine region_pl ?_
 refine q_ hf rfl rfl rfl (e_move hf rfl) fun a hf => ?_
 obtain ⟨y7, hz8, h⟩ := bind_some h
 refine pl_l hf rfl rfl rfl (w_call hf Tryz.call68 rfl (r_spec_l01Split ⟨_, Sh C _ _, none_, hM.sh_lt, none_not, C.G, hM.g_lt, g_none, hM.tabs⟩ s1 hp2 10 _ hz8) ?_)
 rintro _ w11 ⟨A9, c10, rfl, hM2⟩
 obtain ⟨hM, hx12, hup13⟩ := hM.back hM2
 dsimp only [List.cons_append, List.nil_append] at hM hup13
 clear hM2
 refine ⟨_, rfl, fun a hf => ?_⟩
 refine q_ hf rfl rfl rfl (e_assign hf rfl) fun a hf => ?_
 refine pl_nil ?_
 refine then_n ?_
 refine wp_seq ?_
 refine region_pl ?_
 refine q_ hf rfl rfl rfl (e_move hf rfl) fun a hf => ?_
 obtain ⟨e14, hz15, h⟩ := bind_some h
 obtain ⟨b20, _, hA21, h16, h17, hr18, hcell19⟩ := hM.rowElemN (k := 0) rfl (n := 1) rfl hz15
 obtain ⟨rfl, hv22⟩ := hr18
 refine q_ hf rfl rfl rfl (e_indexAddr (A := A9) (b := b20) (o := 0) (xs := y7) (i := 0) hf hA21 rfl rfl Tryz.underlying91 Tryz.sizeOf9 h16 h17) fun a hf => ?_
 refine q_ hf rfl rfl rfl (e_load1 hf rfl Tryz.isAgg9 (hcell19 0 _ rfl)) fun a hf => ?_
 obtain ⟨y23, hz24, h⟩ := bind_some h
 refine pl_l hf rfl rfl rfl (w_call hf Tryz.call68 rfl (r_spec_l01Split ⟨_, Sh C _ _, none_, hM.sh_lt, none_not, C.G, hM.g_lt, g_none, hM.tabs⟩ e14 hv22 32 _ hz24) ?_)
 rintro _ w27 ⟨A25, c26, rfl, hM2⟩
 obtain ⟨hM, hx28, hup29⟩ := hM.back hM2
 dsimp only [List.cons_append, List.nil_append] at hM hup29
 clear hM2
 refine ⟨_, rfl, fun a hf => ?_⟩
 refine q_ hf rfl rfl rfl (e_assign hf rfl) fun a hf => ?_
 refine pl_nil ?_
 refine then_n ?_
 refine wp_seq ?_
 refine region_pl ?_
 iterate 2 refine q_ hf rfl rfl rfl (e_move hf rfl) fun a hf => ?_
 have hl30 := row_len (hM.ownAt (k := 0) rfl)
 refine q_ hf rfl rfl rfl (e_lenL hf (x := y23) rfl Tryz.underlying91) fun a hf => ?_
 obtain ⟨z31, hz32, h⟩ := bind_some h
 refine q_ hf rfl rfl rfl (e_sub hf rfl rfl hz32) fun a hf => ?_
 obtain ⟨e33, hz34, h⟩ := bind_some h
 obtain ⟨b39, _, hA40, h35, h36, hr37, hcell38⟩ := hM.rowElemN (k := 0) rfl (n := 1) rfl hz34
 obtain ⟨rfl, hv41⟩ := hr37
 refine q_ hf rfl rfl rfl (e_indexAddr (A := A25) (b := b39) (o := 0) (xs := y23) (i := z31) hf hA40 rfl rfl Tryz.underlying91 Tryz.sizeOf9 h35 h36) fun a hf => ?_
 refine q_ hf rfl rfl rfl (e_load1 hf rfl Tryz.isAgg9 (hcell38 0 _ rfl)) fun a hf => ?_
 obtain ⟨y42, hz43, h⟩ := bind_some h
 refine pl_l hf rfl rfl rfl (w_call hf Tryz.call69 rfl (r_spec_l01Number ⟨_, Sh C _ _, none_, hM.sh_lt, none_not, C.G, hM.g_lt, g_none, hM.tabs⟩ e33 hv41 _ hz43) ?_)
 rintro _ w45 ⟨rfl, hM2, hv44⟩
 obtain ⟨hM, hx46, hup47⟩ := hM.back hM2
 dsimp only [List.cons_append, List.nil_append] at hM hup47
 clear hM2
 refine ⟨_, rfl, fun a hf => ?_⟩
 refine q_ hf rfl rfl rfl (e_move hf rfl) fun a hf => ?_
 iterate 2 refine q_ hf rfl rfl rfl (e_extract hf rfl rfl) fun a hf => ?_
 iterate 2 refine q_ hf rfl rfl rfl (e_assign hf rfl) fun a hf => ?_
 refine pl_nil ?_
 refine then_n ?_
 refine wp_seq ?_
 obtain ⟨x50, h51, h⟩ := bind_some h
 refine seq_join (fun a w => ∃ (t48 : Bool), t48 = x50 ∧ Has 91 a [(2, vP b3 (0)), (4, vL A9 (y7) c10), (6, vI (y42.1)), (59, .bool (t48))] ∧ Mem C w [.row strRep A25 c26 9 y23 true, .row strRep A9 c10 9 y7 true, .box b3 [vI (0), vL none (([] : (List Action))) 0] 61] []) ?_ ?_
 ·refine region_pl ?_
  refine q_ hf rfl rfl rfl (e_move hf rfl) fun a hf => ?_
  refine q_ hf rfl rfl rfl (e_not hf rfl) fun a hf => ?_
  refine q_ hf rfl rfl rfl (e_move hf rfl) fun a hf => ?_
  rcases cond_some h51 with ⟨hc52, h51⟩ | ⟨hc52, h51⟩
  ·iterate 3 refine pl_gs (wanted_f hf rfl rfl rfl rfl hc52) hf rfl rfl fun a hf => ?_
   refine q_ hf rfl rfl rfl (e_pick_t hf rfl hc52 rfl) fun a hf => ?_
   refine q_ hf rfl rfl rfl (e_move hf rfl) fun a hf => ?_
   iterate 4 refine pl_gs (wanted_f hf rfl rfl rfl rfl rfl) hf rfl rfl fun a hf => ?_
   refine q_ hf rfl rfl rfl (e_pick_t hf rfl rfl rfl) fun a hf => ?_
   refine q_ hf rfl rfl rfl (e_move hf rfl) fun a hf => ?_
   iterate 3 refine pl_gs (wanted_f hf rfl rfl rfl rfl rfl) hf rfl rfl fun a hf => ?_
   refine q_ hf rfl rfl rfl (e_pick_t hf rfl rfl rfl) fun a hf => ?_
   refine q_ hf rfl rfl rfl (e_move hf rfl) fun a hf => ?_
   iterate 3 refine pl_gs (wanted_f hf rfl rfl rfl rfl rfl) hf rfl rfl fun a hf => ?_
   refine q_ hf rfl rfl rfl (e_pick_t hf rfl rfl rfl) fun a hf => ?_
   refine q_ hf rfl rfl rfl (e_move hf rfl) fun a hf => ?_
   iterate 7 refine pl_gs (wanted_f hf rfl rfl rfl rfl rfl) hf rfl rfl fun a hf => ?_
   refine q_ hf rfl rfl rfl (e_pick_t hf rfl rfl rfl) fun a hf => ?_
   refine pl_nil ?_
   obtain rfl := some_inj h51
   refine then_n ?_
   exact ⟨true, rfl, hf.keep ⟨rfl, rfl, rfl, rfl, trivial⟩, hM.pick [] rfl⟩
  refine gq (wanted_t hf rfl rfl rfl rfl hc52) hf rfl rfl (e_move hf rfl) fun a hf => ?_
  have hl54 := row_len (hM.ownAt (k := 0) rfl)
  refine gq (wanted_t hf rfl rfl rfl rfl hc52) hf rfl rfl (e_lenL hf (x := y23) rfl Tryz.underlying91) fun a hf => ?_
  refine gq (wanted_t hf rfl rfl rfl rfl hc52) hf rfl rfl (e_ne hf (x := (y23.length : Int)) (y := 2) rfl rfl) fun a hf => ?_
  refine q_ hf rfl rfl rfl (e_pick_f hf rfl hc52 rfl) fun a hf => ?_
  refine q_ hf rfl rfl rfl (e_move hf rfl) fun a hf => ?_
  rcases cond_some h51 with ⟨hc55, h51⟩ | ⟨hc55, h51⟩
  ·iterate 4 refine pl_gs (wanted_f hf rfl rfl rfl rfl hc55) hf rfl rfl fun a hf => ?_
   refine q_ hf rfl rfl rfl (e_pick_t hf rfl hc55 rfl) fun a hf => ?_
   refine q_ hf rfl rfl rfl (e_move hf rfl) fun a hf => ?_
   iterate 3 refine pl_gs (wanted_f hf rfl rfl rfl rfl rfl) hf rfl rfl fun a hf => ?_
   refine q_ hf rfl rfl rfl (e_pick_t hf rfl rfl rfl) fun a hf => ?_
   refine q_ hf rfl rfl rfl (e_move hf rfl) fun a hf => ?_
   iterate 3 refine pl_gs (wanted_f hf rfl rfl rfl rfl rfl) hf rfl rfl fun a hf => ?_
   refine q_ hf rfl rfl rfl (e_pick_t hf rfl rfl rfl) fun a hf => ?_
   refine q_ hf rfl rfl rfl (e_move hf rfl) fun a hf => ?_
   iterate 7 refine pl_gs (wanted_f hf rfl rfl rfl rfl rfl) hf rfl rfl fun a hf => ?_
   refine q_ hf rfl rfl rfl (e_pick_t hf rfl rfl rfl) fun a hf => ?_
   refine pl_nil ?_
   obtain rfl := some_inj h51
   refine then_n ?_
   exact ⟨true, rfl, hf.keep ⟨rfl, rfl, rfl, rfl, trivial⟩, hM.pick [] rfl⟩
  refine gq (wanted_t hf rfl rfl rfl rfl hc55) hf rfl rfl (e_move hf rfl) fun a hf => ?_
  obtain ⟨e57, hz58, h51⟩ := bind_some h51
  obtain ⟨b63, _, hA64, h59, h60, hr61, hcell62⟩ := hM.rowElemN (k := 0) rfl (n := 1) rfl hz58
  obtain ⟨rfl, hv65⟩ := hr61
  refine gq (wanted_t hf rfl rfl rfl rfl hc55) hf rfl rfl (e_indexAddr (A := A25) (b := b63) (o := 0) (xs := y23) (i := 0) hf hA64 rfl rfl Tryz.underlying91 Tryz.sizeOf9 h59 h60) fun a hf => ?_
  refine gq (wanted_t hf rfl rfl rfl rfl hc55) hf rfl rfl (e_load1 hf rfl Tryz.isAgg9 (hcell62 0 _ rfl)) fun a hf => ?_
  refine gq (wanted_t hf rfl rfl rfl rfl hc55) hf rfl rfl (e_neS hf (x := e57) (y := ([115, 101, 101, 100] : Str)) rfl rfl) fun a hf => ?_
  refine q_ hf rfl rfl rfl (e_pick_f hf rfl hc55 rfl) fun a hf => ?_
  refine q_ hf rfl rfl rfl (e_move hf rfl) fun a hf => ?_
  rcases cond_some h51 with ⟨hc66, h51⟩ | ⟨hc66, h51⟩
  ·iterate 3 refine pl_gs (wanted_f hf rfl rfl rfl rfl hc66) hf rfl rfl fun a hf => ?_
   refine q_ hf rfl rfl rfl (e_pick_t hf rfl hc66 rfl) fun a hf => ?_
   refine q_ hf rfl rfl rfl (e_move hf rfl) fun a hf => ?_
   iterate 3 refine pl_gs (wanted_f hf rfl rfl rfl rfl rfl) hf rfl rfl fun a hf => ?_
   refine q_ hf rfl rfl rfl (e_pick_t hf rfl rfl rfl) fun a hf => ?_
   refine q_ hf rfl rfl rfl (e_move hf rfl) fun a hf => ?_
   iterate 7 refine pl_gs (wanted_f hf rfl rfl rfl rfl rfl) hf rfl rfl fun a hf => ?_
   refine q_ hf rfl rfl rfl (e_pick_t hf rfl rfl rfl) fun a hf => ?_
   refine pl_nil ?_
   obtain rfl := some_inj h51
   refine then_n ?_
   exact ⟨true, rfl, hf.keep ⟨rfl, rfl, rfl, rfl, trivial⟩, hM.pick [] rfl⟩
  refine gq (wanted_t hf rfl rfl rfl rfl hc66) hf rfl rfl (e_move hf rfl) fun a hf => ?_
  have hl68 := row_len (hM.ownAt (k := 1) rfl)
  refine gq (wanted_t hf rfl rfl rfl rfl hc66) hf rfl rfl (e_lenL hf (x := y7) rfl Tryz.underlying91) fun a hf => ?_
  refine gq (wanted_t hf rfl rfl rfl rfl hc66) hf rfl rfl (e_lt hf (x := (y7.length : Int)) (y := 2) rfl rfl) fun a hf => ?_
  refine q_ hf rfl rfl rfl (e_pick_f hf rfl hc66 rfl) fun a hf => ?_
  refine q_ hf rfl rfl rfl (e_move hf rfl) fun a hf => ?_
  rcases cond_some h51 with ⟨hc69, h51⟩ | ⟨hc69, h51⟩
  ·iterate 3 refine pl_gs (wanted_f hf rfl rfl rfl rfl hc69) hf rfl rfl fun a hf => ?_
   refine q_ hf rfl rfl rfl (e_pick_t hf rfl hc69 rfl) fun a hf => ?_
   refine q_ hf rfl rfl rfl (e_move hf rfl) fun a hf => ?_
   iterate 7 refine pl_gs (wanted_f hf rfl rfl rfl rfl rfl) hf rfl rfl fun a hf => ?_
   refine q_ hf rfl rfl rfl (e_pick_t hf rfl rfl rfl) fun a hf => ?_
   refine pl_nil ?_
   obtain rfl := some_inj h51
   refine then_n ?_
   exact ⟨true, rfl, hf.keep ⟨rfl, rfl, rfl, rfl, trivial⟩, hM.pick [] rfl⟩
  refine gq (wanted_t hf rfl rfl rfl rfl hc69) hf rfl rfl (e_move hf rfl) fun a hf => ?_
  have hl71 := row_len (hM.ownAt (k := 1) rfl)
  refine gq (wanted_t hf rfl rfl rfl rfl hc69) hf rfl rfl (e_lenL hf (x := y7) rfl Tryz.underlying91) fun a hf => ?_
  refine gq (wanted_t hf rfl rfl rfl rfl hc69) hf rfl rfl (e_gt hf (x := (y7.length : Int)) (y := 202) rfl rfl) fun a hf => ?_
  refine q_ hf rfl rfl rfl (e_pick_f hf rfl hc69 rfl) fun a hf => ?_
  refine q_ hf rfl rfl rfl (e_move hf rfl) fun a hf => ?_
  rcases cond_some h51 with ⟨hc72, h51⟩ | ⟨hc72, h51⟩
  ·iterate 7 refine pl_gs (wanted_f hf rfl rfl rfl rfl hc72) hf rfl rfl fun a hf => ?_
   refine q_ hf rfl rfl rfl (e_pick_t hf rfl hc72 rfl) fun a hf => ?_
   refine pl_nil ?_
   obtain rfl := some_inj h51
   refine then_n ?_
   exact ⟨true, rfl, hf.keep ⟨rfl, rfl, rfl, rfl, trivial⟩, hM.pick [] rfl⟩
  iterate 2 refine gq (wanted_t hf rfl rfl rfl rfl hc72) hf rfl rfl (e_move hf rfl) fun a hf => ?_
  have hl74 := row_len (hM.ownAt (k := 1) rfl)
  refine gq (wanted_t hf rfl rfl rfl rfl hc72) hf rfl rfl (e_lenL hf (x := y7) rfl Tryz.underlying91) fun a hf => ?_
  obtain ⟨z75, hz76, h51⟩ := bind_some h51
  refine gq (wanted_t hf rfl rfl rfl rfl hc72) hf rfl rfl (e_sub hf rfl rfl hz76) fun a hf => ?_
  obtain ⟨e77, hz78, h51⟩ := bind_some h51
  obtain ⟨b83, _, hA84, h79, h80, hr81, hcell82⟩ := hM.rowElemN (k := 1) rfl (n := 1) rfl hz78
  obtain ⟨rfl, hv85⟩ := hr81
  refine gq (wanted_t hf rfl rfl rfl rfl hc72) hf rfl rfl (e_indexAddr (A := A9) (b := b83) (o := 0) (xs := y7) (i := z75) hf hA84 rfl rfl Tryz.underlying91 Tryz.sizeOf9 h79 h80) fun a hf => ?_
  refine gq (wanted_t hf rfl rfl rfl rfl hc72) hf rfl rfl (e_load1 hf rfl Tryz.isAgg9 (hcell82 0 _ rfl)) fun a hf => ?_
  refine gq (wanted_t hf rfl rfl rfl rfl hc72) hf rfl rfl (e_neS hf (x := e77) (y := ([] : Str)) rfl rfl) fun a hf => ?_
  refine q_ hf rfl rfl rfl (e_pick_f hf rfl hc72 rfl) fun a hf => ?_
  refine pl_nil ?_
  obtain rfl := some_inj h51
  refine then_n ?_
  exact ⟨(e77 != ([] : Str)), rfl, hf.keep ⟨rfl, rfl, rfl, rfl, trivial⟩, hM.pick [] rfl⟩
 rintro a w87 ⟨t48, rfl, hf, hM⟩
 try dsimp only at h
 rcases cond_some h with ⟨hc88, h⟩ | ⟨hc88, h⟩
 ·refine cond_t hf rfl hc88 ?_
  refine wp_seq ?_
  refine region_pl ?_
  refine q_ hf rfl rfl rfl (e_build hf Tryz.zeroValue61 Tryz.underlying61 (bp_61 _ Tryz.underlying61.symm) rfl (cs := #[vI (0), vL none (([] : (List Action))) 0]) (by kernel_rfl)) fun a hf => ?_
  refine pl_0 hf rfl rfl (w_store hf hM (us := [vI (0), vL none (([] : (List Action))) 0]) (cs' := [vI (0), vL none (([] : (List Action))) 0]) rfl rfl (k := 2) rfl rfl Tryz.sizeOf61 rfl rfl rfl fun w89 hM => ?_)
  dsimp only [List.set] at hM
  refine q_ hf rfl rfl rfl (e_assign hf rfl) fun a hf => ?_
  refine pl_nil ?_
  refine then_n ?_
  refine wp_ret ?_
  refine then_r ?_
  obtain rfl := some_inj h
  have hres92 := leaveV2 (P := Tryz.prog) (w := w89) Tryz.results30 (res_agg hf rfl ⟨Tryz.isAgg61, Tryz.sizeOf61⟩ (us := [vI (0), vL none (([] : (List Action))) 0]) rfl (hM.boxSub (k := 2) (o := 0) rfl rfl)) (res_tmp hf rfl)
  have hM := hM.nilRow ActionRep 55
  have hM := hM.outs (own' := [.row ActionRep none 0 55 ([] : (List Action)) true]) 1 rfl
  exact bodyPost_ret hres92 hf.defers ⟨none, 0, rfl, hM.fin, (R64_lit rfl)⟩
 refine cond_f hf rfl hc88 ?_
 refine wp_skip ?_
 refine then_n ?_
 refine wp_seq ?_
 refine region_pl ?_
 refine q_ hf rfl rfl rfl (e_move hf rfl) fun a hf => ?_
 refine q_ hf rfl rfl rfl (e_build hf Tryz.zeroValue61 Tryz.underlying61 (bp_61 _ Tryz.underlying61.symm) rfl (cs := #[vI (y42.1), vL none (([] : (List Action))) 0]) (by kernel_rfl)) fun a hf => ?_
 refine pl_l hf rfl rfl rfl (w_alloc hM (cs := [vI (0), vL none (([] : (List Action))) 0]) Tryz.zeroValue61 rfl fun b93 w94 hx95 hM a hf => ?_)
 refine pl_0 hf rfl rfl (w_store hf hM (us := [vI (y42.1), vL none (([] : (List Action))) 0]) (cs' := [vI (y42.1), vL none (([] : (List Action))) 0]) rfl rfl (k := 0) rfl rfl Tryz.sizeOf61 rfl rfl rfl fun w97 hM => ?_)
 dsimp only [List.set] at hM
 refine pl_nil ?_
 refine then_n ?_
 obtain ⟨x106, h107, h⟩ := bind_some h
 refine seq_join (fun a w => ∃ (xs100 : (List Action)) (xs103 : (List Action)) (A101 : Option Addr) (c102 : Nat) (A104 : Option Addr) (c105 : Nat), (.inl (xs100, xs103)) = x106 ∧ Has 91 a [(2, vP b3 (0)), (8, vP b93 (0))] ∧ Mem C w [.row ActionRep A104 c105 55 xs103 true, .row ActionRep A101 c102 55 xs100 true, .box b93 [vI (y42.1), vL A104 (xs103) c105] 61, .row strRep A25 c26 9 y23 true, .row strRep A9 c10 9 y7 true, .box b3 [vI (0), vL A101 (xs100) c102] 61] []) ?_ ?_
 ·refine wp_seq ?_
  refine region_pl ?_
  refine q_ hf rfl rfl rfl (e_assign hf rfl) fun a hf => ?_
  refine pl_nil ?_
  refine then_n ?_
  refine wp_block ?_
  iterate 2 have hM := hM.nilRow ActionRep 55
  obtain ⟨x117, h118, h107⟩ := bind_some h107
  refine wp_loopM h118 (fun s a w => ∃ (xs108 : (List Action)) (a111 : Int) (A109 : Option Addr) (c110 : Nat), (xs108, a111) = s ∧ Has 91 a [(2, vP b3 (0)), (4, vL A9 (y7) c10), (8, vP b93 (0)), (9, vI (a111))] ∧ Mem C w [.row ActionRep none 0 55 ([] : (List Action)) true, .row ActionRep A109 c110 55 xs108 true, .box b93 [vI (y42.1), vL A109 (xs108) c110] 61, .row strRep A25 c26 9 y23 true, .row strRep A9 c10 9 y7 true, .box b3 [vI (0), vL none (([] : (List Action))) 0] 61] [] ∧ R64 a111) ?_ ?_
  ·exact ⟨([] : (List Action)), 1, none, 0, rfl, hf.keep ⟨rfl, rfl, rfl, rfl, trivial⟩, hM.pick [] rfl, (R64_lit rfl)⟩
  rintro s o119 a w113 ⟨xs108, a111, A109, c110, rfl, hf, hM, hv112⟩ h120 hd121
  replace h120 : m_spec_ReadRecord_l1 y7 xs108 a111 = some o119 := h120
  unfold m_spec_ReadRecord_l1 at h120
  iterate 2 refine wp_seq ?_
  refine region_pl ?_
  iterate 2 refine q_ hf rfl rfl rfl (e_move hf rfl) fun a hf => ?_
  have hl122 := row_len (hM.ownAt (k := 4) rfl)
  refine q_ hf rfl rfl rfl (e_lenL hf (x := y7) rfl Tryz.underlying91) fun a hf => ?_
  obtain ⟨z123, hz124, h120⟩ := bind_some h120
  refine q_ hf rfl rfl rfl (e_sub hf rfl rfl hz124) fun a hf => ?_
  refine q_ hf rfl rfl rfl (e_lt hf (x := a111) (y := z123) rfl rfl) fun a hf => ?_
  refine pl_nil ?_
  refine then_n ?_
  rcases cond_some h120 with ⟨hc125, h120⟩ | ⟨hc125, h120⟩
  ·refine cond_t hf rfl hc125 ?_
   refine wp_skip ?_
   refine then_n ?_
   refine wp_seq ?_
   refine wp_block ?_
   refine wp_seq ?_
   refine region_pl ?_
   iterate 2 refine q_ hf rfl rfl rfl (e_move hf rfl) fun a hf => ?_
   obtain ⟨e126, hz127, h120⟩ := bind_some h120
   obtain ⟨b132, _, hA133, h128, h129, hr130, hcell131⟩ := hM.rowElemN (k := 4) rfl (n := 1) rfl hz127
   obtain ⟨rfl, hv134⟩ := hr130
   refine q_ hf rfl rfl rfl (e_indexAddr (A := A9) (b := b132) (o := 0) (xs := y7) (i := a111) hf hA133 rfl rfl Tryz.underlying91 Tryz.sizeOf9 h128 h129) fun a hf => ?_
   refine q_ hf rfl rfl rfl (e_load1 hf rfl Tryz.isAgg9 (hcell131 0 _ rfl)) fun a hf => ?_
   obtain ⟨y135, hz136, h120⟩ := bind_some h120
   refine pl_l hf rfl rfl rfl (w_call hf Tryz.call58 rfl (r_spec_l20Read ⟨_, Sh C _ _, none_, hM.sh_lt, none_not, C.G, hM.g_lt, g_none, hM.tabs⟩ e126 hv134 _ hz136) ?_)
   rintro _ w143 ⟨rfl, hM2, hv137, hv138, hv139, hv140, hv141, hv142⟩
   obtain ⟨hM, hx144, hup145⟩ := hM.back hM2
   dsimp only [List.cons_append, List.nil_append] at hM hup145
   clear hM2
   refine ⟨_, rfl, fun a hf => ?_⟩
   refine q_ hf rfl rfl rfl (e_move hf rfl) fun a hf => ?_
   iterate 2 refine q_ hf rfl rfl rfl (e_extract hf rfl rfl) fun a hf => ?_
   refine pl_l hf rfl rfl rfl (w_alloc hM (cs := [vI (0), vI (0), vI (0), .bool (false), vS (([] : Str)), vS (([] : Str)), vI (0)]) Tryz.zeroValue55 rfl fun b146 w147 hx148 hM a hf => ?_)
   refine pl_0 hf rfl rfl (w_store hf hM (us := [vI (y135.1.Kind), vI (y135.1.Play.Row), vI (y135.1.Play.Col), .bool (y135.1.Play.Down), vS (y135.1.Play.Word), vS (y135.1.Tiles), vI (y135.1.Seconds)]) (cs' := [vI (y135.1.Kind), vI (y135.1.Play.Row), vI (y135.1.Play.Col), .bool (y135.1.Play.Down), vS (y135.1.Play.Word), vS (y135.1.Tiles), vI (y135.1.Seconds)]) rfl rfl (k := 0) rfl rfl Tryz.sizeOf55 rfl rfl rfl fun w150 hM => ?_)
   dsimp only [List.set] at hM
   refine q_ hf rfl rfl rfl (e_assign hf rfl) fun a hf => ?_
   refine pl_nil ?_
   refine then_n ?_
   iterate 2 refine wp_seq ?_
   refine region_pl ?_
   refine q_ hf rfl rfl rfl (e_move hf rfl) fun a hf => ?_
   refine q_ hf rfl rfl rfl (e_not hf rfl) fun a hf => ?_
   refine pl_nil ?_
   refine then_n ?_
   rcases cond_some h120 with ⟨hc153, h120⟩ | ⟨hc153, h120⟩
   ·refine cond_t hf rfl hc153 ?_
    refine wp_seq ?_
    refine region_pl ?_
    refine q_ hf rfl rfl rfl (e_build hf Tryz.zeroValue61 Tryz.underlying61 (bp_61 _ Tryz.underlying61.symm) rfl (cs := #[vI (0), vL none (([] : (List Action))) 0]) (by kernel_rfl)) fun a hf => ?_
    refine pl_0 hf rfl rfl (w_store hf hM (us := [vI (0), vL none (([] : (List Action))) 0]) (cs' := [vI (0), vL none (([] : (List Action))) 0]) rfl rfl (k := 6) rfl rfl Tryz.sizeOf61 rfl rfl rfl fun w154 hM => ?_)
    dsimp only [List.set] at hM
    refine q_ hf rfl rfl rfl (e_assign hf rfl) fun a hf => ?_
    refine pl_nil ?_
    refine then_n ?_
    refine wp_ret ?_
    refine then_r ?_
    refine blk_r ?_
    refine then_r ?_
    obtain rfl := some_inj h120
    obtain rfl := hd121 _ rfl
    try dsimp only at h107
    refine then_r ?_
    refine blk_r ?_
    obtain rfl := some_inj h107
    try dsimp only at h
    refine then_r ?_
    obtain rfl := some_inj h
    have hres159 := leaveV2 (P := Tryz.prog) (w := w154) Tryz.results30 (res_agg hf rfl ⟨Tryz.isAgg61, Tryz.sizeOf61⟩ (us := [vI (0), vL none (([] : (List Action))) 0]) rfl (hM.boxSub (k := 6) (o := 0) rfl rfl)) (res_tmp hf rfl)
    have hM := hM.nilRow ActionRep 55
    have hM := hM.outs (own' := [.row ActionRep none 0 55 ([] : (List Action)) true]) 1 rfl
    exact bodyPost_ret hres159 hf.defers ⟨none, 0, rfl, hM.fin, (R64_lit rfl)⟩
   refine cond_f hf rfl hc153 ?_
   refine wp_skip ?_
   refine then_n ?_
   refine region_pl ?_
   refine q_ hf rfl rfl rfl (e_field hf rfl Tryz.underlying61 rfl Tryz.sizeOf59 (o' := 1) rfl) fun a hf => ?_
   refine q_ hf rfl rfl rfl (e_load1 hf rfl Tryz.isAgg59 (hM.boxCell (k := 3) rfl rfl)) fun a hf => ?_
   refine q_ hf rfl rfl rfl (e_loadA hf (us := [vI (y135.1.Kind), vI (y135.1.Play.Row), vI (y135.1.Play.Col), .bool (y135.1.Play.Down), vS (y135.1.Play.Word), vS (y135.1.Tiles), vI (y135.1.Seconds)]) rfl ⟨Tryz.isAgg55, Tryz.sizeOf55⟩ rfl (hM.boxSub (k := 0) (us := [vI (y135.1.Kind), vI (y135.1.Play.Row), vI (y135.1.Play.Col), .bool (y135.1.Play.Down), vS (y135.1.Play.Word), vS (y135.1.Tiles), vI (y135.1.Seconds)]) (o := 0) rfl rfl)) fun a hf => ?_
   refine pl_l hf rfl rfl rfl (w_slice hf hM (K := ActionRep) (xs := ([y135.1] : (List Action))) (os := [.tmp 83]) Tryz.underlying59 ei_55 rfl rfl rfl rfl rfl ⟨⟨[vI (y135.1.Kind), vI (y135.1.Play.Row), vI (y135.1.Play.Col), .bool (y135.1.Play.Down), vS (y135.1.Play.Word), vS (y135.1.Tiles), vI (y135.1.Seconds)], rfl, (ActionRep_mk (x := y135.1) hv137 hv138 hv139 hv140 hv141 hv142)⟩, trivial⟩ rfl fun b160 w161 hx162 hM a hf => ?_)
   obtain ⟨xs163, hz164, h120⟩ := bind_some h120
   refine pl_l hf rfl rfl rfl (w_append hf hM Tryz.underlying59 ei_55 rfl rfl rfl (k := 3) rfl (hM.srcRow (k := 0) rfl) hz164 fun A165 c166 w167 hM a hf => ?_)
   dsimp only [List.set] at hM
   refine q_ hf rfl rfl rfl (e_field hf rfl Tryz.underlying61 rfl Tryz.sizeOf59 (o' := 1) rfl) fun a hf => ?_
   refine pl_0 hf rfl rfl (w_store hf hM (us := [vL A165 (xs163) c166]) (cs' := [vI (y42.1), vL A165 (xs163) c166]) rfl rfl (k := 4) rfl rfl Tryz.sizeOf59 rfl rfl rfl fun w170 hM => ?_)
   dsimp only [List.set] at hM
   refine pl_nil ?_
   refine blk_n ?_
   refine then_n ?_
   refine region_pl ?_
   refine q_ hf rfl rfl rfl (e_move hf rfl) fun a hf => ?_
   obtain ⟨z173, hz174, h120⟩ := bind_some h120
   refine q_ hf rfl rfl rfl (e_add hf rfl rfl hz174) fun a hf => ?_
   refine q_ hf rfl rfl rfl (e_assign hf rfl) fun a hf => ?_
   refine pl_nil ?_
   obtain rfl := some_inj h120
   refine then_n ⟨_, rfl, ?_⟩
   exact ⟨xs163, z173, A165, c166, rfl, hf.keep ⟨rfl, rfl, rfl, rfl, trivial⟩, (hM.drop (.cons _ (.cons _ (.cons_cons _ (.cons_cons _ (.cons_cons _ (.cons_cons _ (.cons_cons _ (.cons_cons _ .slnil))))))))).pick [] rfl, (chk_R hz174)⟩
  refine cond_f hf rfl hc125 ?_
  refine wp_exit ?_
  refine then_x ?_
  obtain rfl := some_inj h120
  obtain rfl := hd121 _ rfl
  try dsimp only at h107
  refine then_x ?_
  refine exit_hit ?_
  obtain rfl := some_inj h107
  refine then_n ?_
  have hM := hM.front (k := 5) rfl
  dsimp only [List.eraseIdx] at hM
  have hM := hM.front (k := 5) rfl
  dsimp only [List.eraseIdx] at hM
  have hM := hM.front (k := 5) rfl
  dsimp only [List.eraseIdx] at hM
  have hM := hM.front (k := 5) rfl
  dsimp only [List.eraseIdx] at hM
  have hM := hM.front (k := 4) rfl
  dsimp only [List.eraseIdx] at hM
  have hM := hM.front (k := 5) rfl
  dsimp only [List.eraseIdx] at hM
  exact ⟨([] : (List Action)), xs108, none, 0, A109, c110, rfl, hf.keep ⟨rfl, rfl, trivial⟩, hM.pick [] rfl⟩
 rintro a w181 ⟨xs100, xs103, A101, c102, A104, c105, rfl, hf, hM⟩
 try dsimp only at h
 iterate 2 refine wp_seq ?_
 refine region_pl ?_
 obtain ⟨y182, hz183, h⟩ := bind_some h
 refine pl_l hf rfl rfl rfl (w_call hf Tryz.call70 rfl (r_spec_l20Ok ⟨_, All C _ _, none_, hM.all_lt, none_not, C.G, hM.g_lt, g_none, hM.tabs⟩ (⟨y42.1, xs103⟩ : Record) _ _ (hM.lendBox (k := 2) rfl (RecordRep_mk (x := (⟨y42.1, xs103⟩ : Record)) hv44 (hM.lendRow (k := 0) rfl))) _ hz183) ?_)
 rintro _ w184 ⟨rfl, hM2⟩
 obtain ⟨hM, hx185⟩ := hM.backA hM2
 clear hM2
 refine ⟨_, rfl, fun a hf => ?_⟩
 refine q_ hf rfl rfl rfl (e_not hf rfl) fun a hf => ?_
 refine pl_nil ?_
 refine then_n ?_
 rcases cond_some h with ⟨hc187, h⟩ | ⟨hc187, h⟩
 ·refine cond_t hf rfl hc187 ?_
  refine wp_seq ?_
  refine region_pl ?_
  refine q_ hf rfl rfl rfl (e_build hf Tryz.zeroValue61 Tryz.underlying61 (bp_61 _ Tryz.underlying61.symm) rfl (cs := #[vI (0), vL none (([] : (List Action))) 0]) (by kernel_rfl)) fun a hf => ?_
  refine pl_0 hf rfl rfl (w_store hf hM (us := [vI (0), vL none (([] : (List Action))) 0]) (cs' := [vI (0), vL none (([] : (List Action))) 0]) rfl rfl (k := 5) rfl rfl Tryz.sizeOf61 rfl rfl rfl fun w188 hM => ?_)
  dsimp only [List.set] at hM
  refine q_ hf rfl rfl rfl (e_assign hf rfl) fun a hf => ?_
  refine pl_nil ?_
  refine then_n ?_
  refine wp_ret ?_
  refine then_r ?_
  obtain rfl := some_inj h
  have hres191 := leaveV2 (P := Tryz.prog) (w := w188) Tryz.results30 (res_agg hf rfl ⟨Tryz.isAgg61, Tryz.sizeOf61⟩ (us := [vI (0), vL none (([] : (List Action))) 0]) rfl (hM.boxSub (k := 5) (o := 0) rfl rfl)) (res_tmp hf rfl)
  have hM := hM.nilRow ActionRep 55
  have hM := hM.outs (own' := [.row ActionRep none 0 55 ([] : (List Action)) true]) 1 rfl
  exact bodyPost_ret hres191 hf.defers ⟨none, 0, rfl, hM.fin, (R64_lit rfl)⟩
 refine cond_f hf rfl hc187 ?_
 refine wp_skip ?_
 refine then_n ?_
 refine wp_seq ?_
 refine region_pl ?_
 refine q_ hf rfl rfl rfl (e_loadA hf (us := [vI (y42.1), vL A104 (xs103) c105]) rfl ⟨Tryz.isAgg61, Tryz.sizeOf61⟩ rfl (hM.boxSub (k := 2) (us := [vI (y42.1), vL A104 (xs103) c105]) (o := 0) rfl rfl)) fun a hf => ?_
 refine pl_0 hf rfl rfl (w_store hf hM (us := [vI (y42.1), vL A104 (xs103) c105]) (cs' := [vI (y42.1), vL A104 (xs103) c105]) rfl rfl (k := 5) rfl rfl Tryz.sizeOf61 rfl rfl rfl fun w192 hM => ?_)
 dsimp only [List.set] at hM
 refine q_ hf rfl rfl rfl (e_assign hf rfl) fun a hf => ?_
 refine pl_nil ?_
 refine then_n ?_
 refine wp_ret ?_
 obtain rfl := some_inj h
 have hres195 := leaveV2 (P := Tryz.prog) (w := w192) Tryz.results30 (res_agg hf rfl ⟨Tryz.isAgg61, Tryz.sizeOf61⟩ (us := [vI (y42.1), vL A104 (xs103) c105]) rfl (hM.boxSub (k := 5) (o := 0) rfl rfl)) (res_tmp hf rfl)
 have hM := hM.outs (own' := [.row ActionRep A104 c105 55 xs103 true]) 1 rfl
 exact bodyPost_ret hres195 hf.defers ⟨A104, c105, rfl, hM.fin, hv44⟩

set_option maxRecDepth 100000 in
set_option maxHeartbeats 4000000 in
theorem r_internal_stringslite_HasSuffix (C : Cx) (s1 : Str) (hp2 : s1.length ≤ maxLen) (suffix3 : Str) (hp4 : suffix3.length ≤ maxLen) (r : Bool) (h : m_internal_stringslite_HasSuffix s1 suffix3 = some r) :
    Calls Tryz.prog 177 #[vS (s1), vS (suffix3)] C.w0 fun e w => e = .returned (.bool (r)) ∧ Mem C w [] [] := by
 have hM := Mem.begin C [] trivial
 refine enter Tryz.func177 rfl Tryz.ntmps177 rfl fun a hf => ?_
 unfold m_internal_stringslite_HasSuffix at h
 refine wp_seq ?_
 refine region_pl ?_
 refine q_ hf rfl rfl rfl (e_assign hf rfl) fun a hf => ?_
 refine pl_nil ?_
 refine then_n ?_
 obtain ⟨x7, h8, h⟩ := bind_some h
 refine seq_join (fun a w => ∃ (t5 : Bool), t5 = x7 ∧ Has 21 a [(4, .bool (t5))] ∧ Mem C w [] []) ?_ ?_
 ·refine region_pl ?_
  refine q_ hf rfl rfl rfl (e_move hf rfl) fun a hf => ?_
  refine q_ hf rfl rfl rfl (e_lenS hf (x := s1) rfl Tryz.underlying9) fun a hf => ?_
  refine q_ hf rfl rfl rfl (e_move hf rfl) fun a hf => ?_
  refine q_ hf rfl rfl rfl (e_lenS hf (x := suffix3) rfl Tryz.underlying9) fun a hf => ?_
  refine q_ hf rfl rfl rfl (e_ge hf (x := (s1.length : Int)) (y := (suffix3.length : Int)) rfl rfl) fun a hf => ?_
  refine q_ hf rfl rfl rfl (e_move hf rfl) fun a hf => ?_
  rcases cond_some h8 with ⟨hc9, h8⟩ | ⟨hc9, h8⟩
  ·iterate 2 refine gq (wanted_t hf rfl rfl rfl rfl hc9) hf rfl rfl (e_move hf rfl) fun a hf => ?_
   refine gq (wanted_t hf rfl rfl rfl rfl hc9) hf rfl rfl (e_lenS hf (x := s1) rfl Tryz.underlying9) fun a hf => ?_
   refine gq (wanted_t hf rfl rfl rfl rfl hc9) hf rfl rfl (e_move hf rfl) fun a hf => ?_
   refine gq (wanted_t hf rfl rfl rfl rfl hc9) hf rfl rfl (e_lenS hf (x := suffix3) rfl Tryz.underlying9) fun a hf => ?_
   obtain ⟨z10, hz11, h8⟩ := bind_some h8
   refine gq (wanted_t hf rfl rfl rfl rfl hc9) hf rfl rfl (e_sub hf rfl rfl hz11) fun a hf => ?_
   obtain ⟨s12, hz13, h8⟩ := bind_some h8
   refine gq (wanted_t hf rfl rfl rfl rfl hc9) hf rfl rfl (e_subSl hf (x := s1) rfl rfl Tryz.underlying9 hz13) fun a hf => ?_
   refine gq (wanted_t hf rfl rfl rfl rfl hc9) hf rfl rfl (e_move hf rfl) fun a hf => ?_
   refine gq (wanted_t hf rfl rfl rfl rfl hc9) hf rfl rfl (e_eqS hf (x := s12) (y := suffix3) rfl rfl) fun a hf => ?_
   refine q_ hf rfl rfl rfl (e_pick_t hf rfl hc9 rfl) fun a hf => ?_
   refine q_ hf rfl rfl rfl (e_assign hf rfl) fun a hf => ?_
   refine pl_nil ?_
   obtain rfl := some_inj h8
   refine then_n ?_
   exact ⟨(s12 == suffix3), rfl, hf.keep ⟨rfl, trivial⟩, hM.pick [] rfl⟩
  iterate 9 refine pl_gs (wanted_f hf rfl rfl rfl rfl hc9) hf rfl rfl fun a hf => ?_
  refine q_ hf rfl rfl rfl (e_pick_f hf rfl hc9 rfl) fun a hf => ?_
  refine q_ hf rfl rfl rfl (e_assign hf rfl) fun a hf => ?_
  refine pl_nil ?_
  obtain rfl := some_inj h8
  refine then_n ?_
  exact ⟨false, rfl, hf.keep ⟨rfl, trivial⟩, hM.pick [] rfl⟩
 rintro a w16 ⟨t5, rfl, hf, hM⟩
 try dsimp only at h
 refine wp_ret ?_
 obtain rfl := some_inj h
 exact leave1 hf rfl rfl ⟨rfl, hM.fin⟩

set_option maxRecDepth 100000 in
set_option maxHeartbeats 4000000 in
theorem r_internal_stringslite_CutSuffix (C : Cx) (s1 : Str) (hp2 : s1.length ≤ maxLen) (suffix3 : Str) (hp4 : suffix3.length ≤ maxLen) (r : (Str × Bool)) (h : m_internal_stringslite_CutSuffix s1 suffix3 = some r) :
    Calls Tryz.prog 159 #[vS (s1), vS (suffix3)] C.w0 fun e w => e = .returned (.tuple #[vS (r.1), .bool (r.2)]) ∧ Mem C w [] [] ∧ r.1.length ≤ maxLen := by
 have hM := Mem.begin C [] trivial
 refine enter Tryz.func159 rfl Tryz.ntmps159 rfl fun a hf => ?_
 unfold m_internal_stringslite_CutSuffix at h
 refine wp_seq ?_
 refine region_pl ?_
 iterate 2 refine q_ hf rfl rfl rfl (e_assign hf rfl) fun a hf => ?_
 refine pl_nil ?_
 refine then_n ?_
 iterate 2 refine wp_seq ?_
 refine region_pl ?_
 iterate 2 refine q_ hf rfl rfl rfl (e_move hf rfl) fun a hf => ?_
 obtain ⟨y5, hz6, h⟩ := bind_some h
 refine pl_l hf rfl rfl rfl (w_call hf Tryz.call177 rfl (r_internal_stringslite_HasSuffix ⟨_, Sh C _ _, none_, hM.sh_lt, none_not, C.G, hM.g_lt, g_none, hM.tabs⟩ s1 hp2 suffix3 hp4 _ hz6) ?_)
 rintro _ w7 ⟨rfl, hM2⟩
 obtain ⟨hM, hx8, hup9⟩ := hM.back hM2
 dsimp only [List.cons_append, List.nil_append] at hM hup9
 clear hM2
 refine ⟨_, rfl, fun a hf => ?_⟩
 refine q_ hf rfl rfl rfl (e_not hf rfl) fun a hf => ?_
 refine pl_nil ?_
 refine then_n ?_
 rcases cond_some h with ⟨hc10, h⟩ | ⟨hc10, h⟩
 ·refine cond_t hf rfl hc10 ?_
  refine wp_seq ?_
  refine region_pl ?_
  refine q_ hf rfl rfl rfl (e_move hf rfl) fun a hf => ?_
  iterate 2 refine q_ hf rfl rfl rfl (e_assign hf rfl) fun a hf => ?_
  refine pl_nil ?_
  refine then_n ?_
  refine wp_ret ?_
  refine then_r ?_
  obtain rfl := some_inj h
  exact leave2 hf rfl rfl rfl ⟨rfl, hM.fin, hp2⟩
 refine cond_f hf rfl hc10 ?_
 refine wp_skip ?_
 refine then_n ?_
 refine wp_seq ?_
 refine region_pl ?_
 iterate 2 refine q_ hf rfl rfl rfl (e_move hf rfl) fun a hf => ?_
 refine q_ hf rfl rfl rfl (e_lenS hf (x := s1) rfl Tryz.underlying9) fun a hf => ?_
 refine q_ hf rfl rfl rfl (e_move hf rfl) fun a hf => ?_
 refine q_ hf rfl rfl rfl (e_lenS hf (x := suffix3) rfl Tryz.underlying9) fun a hf => ?_
 obtain ⟨z11, hz12, h⟩ := bind_some h
 refine q_ hf rfl rfl rfl (e_sub hf rfl rfl hz12) fun a hf => ?_
 obtain ⟨s13, hz14, h⟩ := bind_some h
 refine q_ hf rfl rfl rfl (e_subSh hf (x := s1) rfl rfl Tryz.underlying9 hz14) fun a hf => ?_
 iterate 2 refine q_ hf rfl rfl rfl (e_assign hf rfl) fun a hf => ?_
 refine pl_nil ?_
 refine then_n ?_
 refine wp_ret ?_
 obtain rfl := some_inj h
 exact leave2 hf rfl rfl rfl ⟨rfl, hM.fin, (sub_len hz14 hp2)⟩

set_option maxRecDepth 100000 in
set_option maxHeartbeats 4000000 in
theorem r_strings_CutSuffix (C : Cx) (s1 : Str) (hp2 : s1.length ≤ maxLen) (suffix3 : Str) (hp4 : suffix3.length ≤ maxLen) (r : (Str × Bool)) (h : m_strings_CutSuffix s1 suffix3 = some r) :
    Calls Tryz.prog 128 #[vS (s1), vS (suffix3)] C.w0 fun e w => e = .returned (.tuple #[vS (r.1), .bool (r.2)]) ∧ Mem C w [] [] ∧ r.1.length ≤ maxLen := by
 have hM := Mem.begin C [] trivial
 refine enter Tryz.func128 rfl Tryz.ntmps128 rfl fun a hf => ?_
 unfold m_strings_CutSuffix at h
 refine wp_seq ?_
 refine region_pl ?_
 iterate 2 refine q_ hf rfl rfl rfl (e_assign hf rfl) fun a hf => ?_
 refine pl_nil ?_
 refine then_n ?_
 refine wp_seq ?_
 refine region_pl ?_
 iterate 2 refine q_ hf rfl rfl rfl (e_move hf rfl) fun a hf => ?_
 obtain ⟨y5, hz6, h⟩ := bind_some h
 refine pl_l hf rfl rfl rfl (w_call hf Tryz.call159 rfl (r_internal_stringslite_CutSuffix ⟨_, Sh C _ _, none_, hM.sh_lt, none_not, C.G, hM.g_lt, g_none, hM.tabs⟩ s1 hp2 suffix3 hp4 _ hz6) ?_)
 rintro _ w8 ⟨rfl, hM2, hv7⟩
 obtain ⟨hM, hx9, hup10⟩ := hM.back hM2
 dsimp only [List.cons_append, List.nil_append] at hM hup10
 clear hM2
 refine ⟨_, rfl, fun a hf => ?_⟩
 iterate 2 refine q_ hf rfl rfl rfl (e_extract hf rfl rfl) fun a hf => ?_
 iterate 2 refine q_ hf rfl rfl rfl (e_assign hf rfl) fun a hf => ?_
 refine pl_nil ?_
 refine then_n ?_
 refine wp_ret ?_
 obtain rfl := some_inj h
 exact leave2 hf rfl rfl rfl ⟨rfl, hM.fin, hv7⟩

set_option maxRecDepth 100000 in
set_option maxHeartbeats 4000000 in
theorem r_impl_linesOf (C : Cx) (s1 : Str) (hp2 : s1.length ≤ maxLen) (r : ((List Str) × Bool)) (h : m_impl_linesOf s1 = some r) :
    Calls Tryz.prog 71 #[vS (s1)] C.w0 fun e w => ∃ (A_1 : Option Addr), ∃ (c_1 : Nat), e = .returned (.tuple #[vL A_1 (r.1) c_1, .bool (r.2)]) ∧ Mem C w [] [] ∧ (sliceRep strRep).R w (Sh C [] w) r.1 [vL A_1 r.1 c_1] := by
 have hM := Mem.begin C [] trivial
 refine enter Tryz.func71 rfl Tryz.ntmps71 rfl fun a hf => ?_
 unfold m_impl_linesOf at h
 refine wp_seq ?_
 refine region_pl ?_
 iterate 2 refine q_ hf rfl rfl rfl (e_assign hf rfl) fun a hf => ?_
 refine pl_nil ?_
 refine then_n ?_
 iterate 2 refine wp_seq ?_
 refine region_pl ?_
 refine q_ hf rfl rfl rfl (e_move hf rfl) fun a hf => ?_
 refine q_ hf rfl rfl rfl (e_eqS hf (x := s1) (y := ([] : Str)) rfl rfl) fun a hf => ?_
 refine pl_nil ?_
 refine then_n ?_
 rcases cond_some h with ⟨hc3, h⟩ | ⟨hc3, h⟩
 ·refine cond_t hf rfl hc3 ?_
  refine wp_seq ?_
  refine region_pl ?_
  refine pl_l hf rfl rfl rfl (w_slice0 (K := strRep) hM Tryz.underlying91 ei_9 fun b4 w5 hx6 hM a hf => ?_)
  iterate 2 refine q_ hf rfl rfl rfl (e_assign hf rfl) fun a hf => ?_
  refine pl_nil ?_
  refine then_n ?_
  refine wp_ret ?_
  refine then_r ?_
  obtain rfl := some_inj h
  have hM := hM.freezeRow (k := 0) rfl rfl
  dsimp only [List.eraseIdx] at hM
  exact leave2 hf rfl rfl rfl ⟨(some ⟨b4, 0, none⟩), 0, rfl, hM.fin, (hM.dat (k := 0) rfl)⟩
 refine cond_f hf rfl hc3 ?_
 refine wp_skip ?_
 refine then_n ?_
 refine wp_seq ?_
 refine region_pl ?_
 refine q_ hf rfl rfl rfl (e_move hf rfl) fun a hf => ?_
 obtain ⟨y7, hz8, h⟩ := bind_some h
 refine pl_l hf rfl rfl rfl (w_call hf Tryz.call128 rfl (r_strings_CutSuffix ⟨_, Sh C _ _, none_, hM.sh_lt, none_not, C.G, hM.g_lt, g_none, hM.tabs⟩ s1 hp2 ([10] : Str) (lit_len rfl) _ hz8) ?_)
 rintro _ w10 ⟨rfl, hM2, hv9⟩
 obtain ⟨hM, hx11, hup12⟩ := hM.back hM2
 dsimp only [List.cons_append, List.nil_append] at hM hup12
 clear hM2
 refine ⟨_, rfl, fun a hf => ?_⟩
 refine q_ hf rfl rfl rfl (e_move hf rfl) fun a hf => ?_
 iterate 2 refine q_ hf rfl rfl rfl (e_extract hf rfl rfl) fun a hf => ?_
 iterate 2 refine q_ hf rfl rfl rfl (e_assign hf rfl) fun a hf => ?_
 refine pl_nil ?_
 refine then_n ?_
 refine wp_seq ?_
 refine region_pl ?_
 refine q_ hf rfl rfl rfl (e_move hf rfl) fun a hf => ?_
 obtain ⟨y13, hz14, h⟩ := bind_some h
 refine pl_l hf rfl rfl rfl (w_call hf Tryz.call59 rfl (r_strings_Split ⟨_, Sh C _ _, none_, hM.sh_lt, none_not, C.G, hM.g_lt, g_none, hM.tabs⟩ y7.1 hv9 ([10] : Str) (lit_len rfl) _ hz14) ?_)
 rintro _ w18 ⟨A15, c16, rfl, hM2, hv17⟩
 obtain ⟨hM, hx19, hup20⟩ := hM.back hM2
 dsimp only [List.cons_append, List.nil_append] at hM hup20
 clear hM2
 have hM := hM.add (y := .dat (sliceRep strRep) y13 [vL A15 y13 c16]) (hup20 hv17)
 refine ⟨_, rfl, fun a hf => ?_⟩
 refine q_ hf rfl rfl rfl (e_move hf rfl) fun a hf => ?_
 iterate 2 refine q_ hf rfl rfl rfl (e_assign hf rfl) fun a hf => ?_
 refine pl_nil ?_
 refine then_n ?_
 refine wp_ret ?_
 obtain rfl := some_inj h
 exact leave2 hf rfl rfl rfl ⟨A15, c16, rfl, hM.fin, (hM.dat (k := 0) rfl)⟩

set_option maxRecDepth 100000 in
set_option maxHeartbeats 4000000 in
theorem r_internal_stringslite_HasPrefix (C : Cx) (s1 : Str) (hp2 : s1.length ≤ maxLen) (prefix_3 : Str) (hp4 : prefix_3.length ≤ maxLen) (r : Bool) (h : m_internal_stringslite_HasPrefix s1 prefix_3 = some r) :
    Calls Tryz.prog 160 #[vS (s1), vS (prefix_3)] C.w0 fun e w => e = .returned (.bool (r)) ∧ Mem C w [] [] := by
 have hM := Mem.begin C [] trivial
 refine enter Tryz.func160 rfl Tryz.ntmps160 rfl fun a hf => ?_
 unfold m_internal_stringslite_HasPrefix at h
 refine wp_seq ?_
 refine region_pl ?_
 refine q_ hf rfl rfl rfl (e_assign hf rfl) fun a hf => ?_
 refine pl_nil ?_
 refine then_n ?_
 obtain ⟨x7, h8, h⟩ := bind_some h
 refine seq_join (fun a w => ∃ (t5 : Bool), t5 = x7 ∧ Has 18 a [(4, .bool (t5))] ∧ Mem C w [] []) ?_ ?_
 ·refine region_pl ?_
  refine q_ hf rfl rfl rfl (e_move hf rfl) fun a hf => ?_
  refine q_ hf rfl rfl rfl (e_lenS hf (x := s1) rfl Tryz.underlying9) fun a hf => ?_
  refine q_ hf rfl rfl rfl (e_move hf rfl) fun a hf => ?_
  refine q_ hf rfl rfl rfl (e_lenS hf (x := prefix_3) rfl Tryz.underlying9) fun a hf => ?_
  refine q_ hf rfl rfl rfl (e_ge hf (x := (s1.length : Int)) (y := (prefix_3.length : Int)) rfl rfl) fun a hf => ?_
  refine q_ hf rfl rfl rfl (e_move hf rfl) fun a hf => ?_
  rcases cond_some h8 with ⟨hc9, h8⟩ | ⟨hc9, h8⟩
  ·iterate 2 refine gq (wanted_t hf rfl rfl rfl rfl hc9) hf rfl rfl (e_move hf rfl) fun a hf => ?_
   refine gq (wanted_t hf rfl rfl rfl rfl hc9) hf rfl rfl (e_lenS hf (x := prefix_3) rfl Tryz.underlying9) fun a hf => ?_
   obtain ⟨s10, hz11, h8⟩ := bind_some h8
   refine gq (wanted_t hf rfl rfl rfl rfl hc9) hf rfl rfl (e_subSh hf (x := s1) rfl rfl Tryz.underlying9 hz11) fun a hf => ?_
   refine gq (wanted_t hf rfl rfl rfl rfl hc9) hf rfl rfl (e_move hf rfl) fun a hf => ?_
   refine gq (wanted_t hf rfl rfl rfl rfl hc9) hf rfl rfl (e_eqS hf (x := s10) (y := prefix_3) rfl rfl) fun a hf => ?_
   refine q_ hf rfl rfl rfl (e_pick_t hf rfl hc9 rfl) fun a hf => ?_
   refine q_ hf rfl rfl rfl (e_assign hf rfl) fun a hf => ?_
   refine pl_nil ?_
   obtain rfl := some_inj h8
   refine then_n ?_
   exact ⟨(s10 == prefix_3), rfl, hf.keep ⟨rfl, trivial⟩, hM.pick [] rfl⟩
  iterate 6 refine pl_gs (wanted_f hf rfl rfl rfl rfl hc9) hf rfl rfl fun a hf => ?_
  refine q_ hf rfl rfl rfl (e_pick_f hf rfl hc9 rfl) fun a hf => ?_
  refine q_ hf rfl rfl rfl (e_assign hf rfl) fun a hf => ?_
  refine pl_nil ?_
  obtain rfl := some_inj h8
  refine then_n ?_
  exact ⟨false, rfl, hf.keep ⟨rfl, trivial⟩, hM.pick [] rfl⟩
 rintro a w14 ⟨t5, rfl, hf, hM⟩
 try dsimp only at h
 refine wp_ret ?_
 obtain rfl := some_inj h
 exact leave1 hf rfl rfl ⟨rfl, hM.fin⟩

set_option maxRecDepth 100000 in
set_option maxHeartbeats 4000000 in
theorem r_internal_stringslite_TrimPrefix (C : Cx) (s1 : Str) (hp2 : s1.length ≤ maxLen) (prefix_3 : Str) (hp4 : prefix_3.length ≤ maxLen) (r : Str) (h : m_internal_stringslite_TrimPrefix s1 prefix_3 = some r) :
    Calls Tryz.prog 129 #[vS (s1), vS (prefix_3)] C.w0 fun e w => e = .returned (vS (r)) ∧ Mem C w [] [] ∧ r.length ≤ maxLen := by
 have hM := Mem.begin C [] trivial
 refine enter Tryz.func129 rfl Tryz.ntmps129 rfl fun a hf => ?_
 unfold m_internal_stringslite_TrimPrefix at h
 refine wp_seq ?_
 refine region_pl ?_
 refine q_ hf rfl rfl rfl (e_assign hf rfl) fun a hf => ?_
 refine pl_nil ?_
 refine then_n ?_
 iterate 2 refine wp_seq ?_
 refine region_pl ?_
 iterate 2 refine q_ hf rfl rfl rfl (e_move hf rfl) fun a hf => ?_
 obtain ⟨y5, hz6, h⟩ := bind_some h
 refine pl_l hf rfl rfl rfl (w_call hf Tryz.call160 rfl (r_internal_stringslite_HasPrefix ⟨_, Sh C _ _, none_, hM.sh_lt, none_not, C.G, hM.g_lt, g_none, hM.tabs⟩ s1 hp2 prefix_3 hp4 _ hz6) ?_)
 rintro _ w7 ⟨rfl, hM2⟩
 obtain ⟨hM, hx8, hup9⟩ := hM.back hM2
 dsimp only [List.cons_append, List.nil_append] at hM hup9
 clear hM2
 refine ⟨_, rfl, fun a hf => ?_⟩
 refine pl_nil ?_
 refine then_n ?_
 rcases cond_some h with ⟨hc10, h⟩ | ⟨hc10, h⟩
 ·refine cond_t hf rfl hc10 ?_
  refine wp_seq ?_
  refine region_pl ?_
  iterate 2 refine q_ hf rfl rfl rfl (e_move hf rfl) fun a hf => ?_
  refine q_ hf rfl rfl rfl (e_lenS hf (x := prefix_3) rfl Tryz.underlying9) fun a hf => ?_
  obtain ⟨s11, hz12, h⟩ := bind_some h
  refine q_ hf rfl rfl rfl (e_subSl hf (x := s1) rfl rfl Tryz.underlying9 hz12) fun a hf => ?_
  refine q_ hf rfl rfl rfl (e_assign hf rfl) fun a hf => ?_
  refine pl_nil ?_
  refine then_n ?_
  refine wp_ret ?_
  refine then_r ?_
  obtain rfl := some_inj h
  exact leave1 hf rfl rfl ⟨rfl, hM.fin, (sub_len hz12 hp2)⟩
 refine cond_f hf rfl hc10 ?_
 refine wp_skip ?_
 refine then_n ?_
 refine wp_seq ?_
 refine region_pl ?_
 refine q_ hf rfl rfl rfl (e_move hf rfl) fun a hf => ?_
 refine q_ hf rfl rfl rfl (e_assign hf rfl) fun a hf => ?_
 refine pl_nil ?_
 refine then_n ?_
 refine wp_ret ?_
 obtain rfl := some_inj h
 exact leave1 hf rfl rfl ⟨rfl, hM.fin, hp2⟩

set_option maxRecDepth 100000 in
set_option maxHeartbeats 4000000 in
theorem r_strings_TrimPrefix (C : Cx) (s1 : Str) (hp2 : s1.length ≤ maxLen) (prefix_3 : Str) (hp4 : prefix_3.length ≤ maxLen) (r : Str) (h : m_strings_TrimPrefix s1 prefix_3 = some r) :
    Calls Tryz.prog 72 #[vS (s1), vS (prefix_3)] C.w0 fun e w => e = .returned (vS (r)) ∧ Mem C w [] [] ∧ r.length ≤ maxLen := by
 have hM := Mem.begin C [] trivial
 refine enter Tryz.func72 rfl Tryz.ntmps72 rfl fun a hf => ?_
 unfold m_strings_TrimPrefix at h
 refine wp_seq ?_
 refine region_pl ?_
 refine q_ hf rfl rfl rfl (e_assign hf rfl) fun a hf => ?_
 refine pl_nil ?_
 refine then_n ?_
 refine wp_seq ?_
 refine region_pl ?_
 iterate 2 refine q_ hf rfl rfl rfl (e_move hf rfl) fun a hf => ?_
 obtain ⟨y5, hz6, h⟩ := bind_some h
 refine pl_l hf rfl rfl rfl (w_call hf Tryz.call129 rfl (r_internal_stringslite_TrimPrefix ⟨_, Sh C _ _, none_, hM.sh_lt, none_not, C.G, hM.g_lt, g_none, hM.tabs⟩ s1 hp2 prefix_3 hp4 _ hz6) ?_)
 rintro _ w8 ⟨rfl, hM2, hv7⟩
 obtain ⟨hM, hx9, hup10⟩ := hM.back hM2
 dsimp only [List.cons_append, List.nil_append] at hM hup10
 clear hM2
 refine ⟨_, rfl, fun a hf => ?_⟩
 refine q_ hf rfl rfl rfl (e_assign hf rfl) fun a hf => ?_
 refine pl_nil ?_
 refine then_n ?_
 refine wp_ret ?_
 obtain rfl := some_inj h
 exact leave1 hf rfl rfl ⟨rfl, hM.fin, hv7⟩

set_option maxRecDepth 100000 in
set_option maxHeartbeats 4000000 in
theorem r_impl_Decimal (C : Cx) (n1 : Int) (hp2 : R64 n1) (r : Str) (h : m_impl_Decimal n1 = some r) :
    Calls Tryz.prog 125 #[vI (n1)] C.w0 fun e w => e = .returned (vS (r)) ∧ Mem C w [] [] ∧ r.length ≤ maxLen := by
 have hM := Mem.begin C [] trivial
 refine enter Tryz.func125 rfl Tryz.ntmps125 rfl fun a hf => ?_
 unfold m_impl_Decimal at h
 refine wp_seq ?_
 refine region_pl ?_
 refine q_ hf rfl rfl rfl (e_assign hf rfl) fun a hf => ?_
 refine pl_nil ?_
 refine then_n ?_
 refine wp_seq ?_
 refine region_pl ?_
 refine q_ hf rfl rfl rfl (e_move hf rfl) fun a hf => ?_
 obtain ⟨y3, hz4, h⟩ := bind_some h
 refine pl_l hf rfl rfl rfl (w_call hf Tryz.call158 rfl (r_strconv_FormatInt ⟨_, Sh C _ _, none_, hM.sh_lt, none_not, C.G, hM.g_lt, g_none, hM.tabs⟩ n1 hp2 10 (R64_lit rfl) _ hz4) ?_)
 rintro _ w6 ⟨rfl, hM2, hv5⟩
 obtain ⟨hM, hx7, hup8⟩ := hM.back hM2
 dsimp only [List.cons_append, List.nil_append] at hM hup8
 clear hM2
 refine ⟨_, rfl, fun a hf => ?_⟩
 refine q_ hf rfl rfl rfl (e_assign hf rfl) fun a hf => ?_
 refine pl_nil ?_
 refine then_n ?_
 refine wp_ret ?_
 obtain rfl := some_inj h
 exact leave1 hf rfl rfl ⟨rfl, hM.fin, hv5⟩

set_option maxRecDepth 100000 in
set_option maxHeartbeats 4000000 in
theorem r_impl_anyDecimal (C : Cx) (s1 : Str) (hp2 : s1.length ≤ maxLen) (r : (Int × Bool)) (h : m_impl_anyDecimal s1 = some r) :
    Calls Tryz.prog 122 #[vS (s1)] C.w0 fun e w => e = .returned (.tuple #[vI (r.1), .bool (r.2)]) ∧ Mem C w [] [] ∧ R64 r.1 := by
 have hM := Mem.begin C [] trivial
 refine enter Tryz.func122 rfl Tryz.ntmps122 rfl fun a hf => ?_
 unfold m_impl_anyDecimal at h
 refine wp_seq ?_
 refine region_pl ?_
 iterate 2 refine q_ hf rfl rfl rfl (e_assign hf rfl) fun a hf => ?_
 refine pl_nil ?_
 refine then_n ?_
 refine wp_seq ?_
 refine region_pl ?_
 refine q_ hf rfl rfl rfl (e_move hf rfl) fun a hf => ?_
 obtain ⟨y3, hz4, h⟩ := bind_some h
 refine pl_l hf rfl rfl rfl (w_call hf Tryz.call156 rfl (r_strconv_ParseInt ⟨_, Sh C _ _, none_, hM.sh_lt, none_not, C.G, hM.g_lt, g_none, hM.tabs⟩ s1 hp2 10 (R64_lit rfl) 64 (R64_lit rfl) _ hz4) ?_)
 rintro _ w8 ⟨p6, rfl, hM2, hv5, hv7⟩
 obtain ⟨hM, hx9, hup10⟩ := hM.back hM2
 dsimp only [List.cons_append, List.nil_append] at hM hup10
 clear hM2
 refine ⟨_, rfl, fun a hf => ?_⟩
 refine q_ hf rfl rfl rfl (e_move hf rfl) fun a hf => ?_
 iterate 2 refine q_ hf rfl rfl rfl (e_extract hf rfl rfl) fun a hf => ?_
 iterate 2 refine q_ hf rfl rfl rfl (e_assign hf rfl) fun a hf => ?_
 refine pl_nil ?_
 refine then_n ?_
 refine wp_seq ?_
 obtain ⟨x13, h14, h⟩ := bind_some h
 refine seq_join (fun a w => ∃ (t11 : Bool), t11 = x13 ∧ Has 20 a [(4, vI (y3.1)), (18, .bool (t11))] ∧ Mem C w [] []) ?_ ?_
 ·refine region_pl ?_
  refine q_ hf rfl rfl rfl (e_move hf rfl) fun a hf => ?_
  refine q_ hf rfl rfl rfl (e_neqErr hf rfl rfl Tryz.underlying147 hv7) fun a hf => ?_
  refine q_ hf rfl rfl rfl (e_move hf rfl) fun a hf => ?_
  rcases cond_some h14 with ⟨hc15, h14⟩ | ⟨hc15, h14⟩
  ·iterate 4 refine pl_gs (wanted_f hf rfl rfl rfl rfl hc15) hf rfl rfl fun a hf => ?_
   refine q_ hf rfl rfl rfl (e_pick_t hf rfl hc15 rfl) fun a hf => ?_
   refine pl_nil ?_
   obtain rfl := some_inj h14
   refine then_n ?_
   exact ⟨true, rfl, hf.keep ⟨rfl, rfl, trivial⟩, hM.pick [] rfl⟩
  refine gq (wanted_t hf rfl rfl rfl rfl hc15) hf rfl rfl (e_move hf rfl) fun a hf => ?_
  obtain ⟨y17, hz18, h14⟩ := bind_some h14
  refine pl_gl (wanted_t hf rfl rfl rfl rfl hc15) hf rfl rfl (w_call hf Tryz.call125 rfl (r_impl_Decimal ⟨_, Sh C _ _, none_, hM.sh_lt, none_not, C.G, hM.g_lt, g_none, hM.tabs⟩ y3.1 hv5 _ hz18) ?_)
  rintro _ w20 ⟨rfl, hM2, hv19⟩
  obtain ⟨hM, hx21, hup22⟩ := hM.back hM2
  dsimp only [List.cons_append, List.nil_append] at hM hup22
  clear hM2
  refine ⟨_, rfl, fun a hf => ?_⟩
  refine gq (wanted_t hf rfl rfl rfl rfl hc15) hf rfl rfl (e_move hf rfl) fun a hf => ?_
  refine gq (wanted_t hf rfl rfl rfl rfl hc15) hf rfl rfl (e_neS hf (x := y17) (y := s1) rfl rfl) fun a hf => ?_
  refine q_ hf rfl rfl rfl (e_pick_f hf rfl hc15 rfl) fun a hf => ?_
  refine pl_nil ?_
  obtain rfl := some_inj h14
  refine then_n ?_
  exact ⟨(y17 != s1), rfl, hf.keep ⟨rfl, rfl, trivial⟩, hM.pick [] rfl⟩
 rintro a w24 ⟨t11, rfl, hf, hM⟩
 try dsimp only at h
 rcases cond_some h with ⟨hc25, h⟩ | ⟨hc25, h⟩
 ·refine cond_t hf rfl hc25 ?_
  refine wp_seq ?_
  refine region_pl ?_
  iterate 2 refine q_ hf rfl rfl rfl (e_assign hf rfl) fun a hf => ?_
  refine pl_nil ?_
  refine then_n ?_
  refine wp_ret ?_
  refine then_r ?_
  obtain rfl := some_inj h
  exact leave2 hf rfl rfl rfl ⟨rfl, hM.fin, (R64_lit rfl)⟩
 refine cond_f hf rfl hc25 ?_
 refine wp_skip ?_
 refine then_n ?_
 refine wp_seq ?_
 refine region_pl ?_
 refine q_ hf rfl rfl rfl (e_move hf rfl) fun a hf => ?_
 iterate 2 refine q_ hf rfl rfl rfl (e_assign hf rfl) fun a hf => ?_
 refine pl_nil ?_
 refine then_n ?_
 refine wp_ret ?_
 obtain rfl := some_inj h
 exact leave2 hf rfl rfl rfl ⟨rfl, hM.fin, hv5⟩

set_option maxRecDepth 100000 in
set_option maxHeartbeats 4000000 in
theorem r_impl_ReadDecimal (C : Cx) (s1 : Str) (hp2 : s1.length ≤ maxLen) (r : (Int × Bool)) (h : m_impl_ReadDecimal s1 = some r) :
    Calls Tryz.prog 60 #[vS (s1)] C.w0 fun e w => e = .returned (.tuple #[vI (r.1), .bool (r.2)]) ∧ Mem C w [] [] ∧ R64 r.1 := by
 have hM := Mem.begin C [] trivial
 refine enter Tryz.func60 rfl Tryz.ntmps60 rfl fun a hf => ?_
 unfold m_impl_ReadDecimal at h
 refine wp_seq ?_
 refine region_pl ?_
 iterate 2 refine q_ hf rfl rfl rfl (e_assign hf rfl) fun a hf => ?_
 refine pl_nil ?_
 refine then_n ?_
 iterate 2 refine wp_seq ?_
 refine region_pl ?_
 refine q_ hf rfl rfl rfl (e_move hf rfl) fun a hf => ?_
 obtain ⟨y3, hz4, h⟩ := bind_some h
 refine pl_l hf rfl rfl rfl (w_call hf Tryz.call72 rfl (r_strings_TrimPrefix ⟨_, Sh C _ _, none_, hM.sh_lt, none_not, C.G, hM.g_lt, g_none, hM.tabs⟩ s1 hp2 ([45] : Str) (lit_len rfl) _ hz4) ?_)
 rintro _ w6 ⟨rfl, hM2, hv5⟩
 obtain ⟨hM, hx7, hup8⟩ := hM.back hM2
 dsimp only [List.cons_append, List.nil_append] at hM hup8
 clear hM2
 refine ⟨_, rfl, fun a hf => ?_⟩
 refine q_ hf rfl rfl rfl (e_lenS hf (x := y3) rfl Tryz.underlying9) fun a hf => ?_
 refine q_ hf rfl rfl rfl (e_gt hf (x := (y3.length : Int)) (y := 18) rfl rfl) fun a hf => ?_
 refine pl_nil ?_
 refine then_n ?_
 rcases cond_some h with ⟨hc9, h⟩ | ⟨hc9, h⟩
 ·refine cond_t hf rfl hc9 ?_
  refine wp_seq ?_
  refine region_pl ?_
  iterate 2 refine q_ hf rfl rfl rfl (e_assign hf rfl) fun a hf => ?_
  refine pl_nil ?_
  refine then_n ?_
  refine wp_ret ?_
  refine then_r ?_
  obtain rfl := some_inj h
  exact leave2 hf rfl rfl rfl ⟨rfl, hM.fin, (R64_lit rfl)⟩
 refine cond_f hf rfl hc9 ?_
 refine wp_skip ?_
 refine then_n ?_
 refine wp_seq ?_
 refine region_pl ?_
 refine q_ hf rfl rfl rfl (e_move hf rfl) fun a hf => ?_
 obtain ⟨y10, hz11, h⟩ := bind_some h
 refine pl_l hf rfl rfl rfl (w_call hf Tryz.call122 rfl (r_impl_anyDecimal ⟨_, Sh C _ _, none_, hM.sh_lt, none_not, C.G, hM.g_lt, g_none, hM.tabs⟩ s1 hp2 _ hz11) ?_)
 rintro _ w13 ⟨rfl, hM2, hv12⟩
 obtain ⟨hM, hx14, hup15⟩ := hM.back hM2
 dsimp only [List.cons_append, List.nil_append] at hM hup15
 clear hM2
 refine ⟨_, rfl, fun a hf => ?_⟩
 iterate 2 refine q_ hf rfl rfl rfl (e_extract hf rfl rfl) fun a hf => ?_
 iterate 2 refine q_ hf rfl rfl rfl (e_assign hf rfl) fun a hf => ?_
 refine pl_nil ?_
 refine then_n ?_
 refine wp_ret ?_
 obtain rfl := some_inj h
 exact leave2 hf rfl rfl rfl ⟨rfl, hM.fin, hv12⟩

set_option maxRecDepth 100000 in
set_option maxHeartbeats 4000000 in
theorem r_impl_joined (C : Cx) (words1 : (List Str)) (A2 : Option Addr) (c3 : Nat) (hp4 : (sliceRep strRep).R C.w0 C.S0 words1 [vL A2 words1 c3]) (r : Str) (h : m_impl_joined words1 = some r) :
    Calls Tryz.prog 62 #[vL A2 (words1) c3] C.w0 fun e w => e = .returned (vS (r)) ∧ Mem C w [] [] ∧ r.length ≤ maxLen := by
 have hM := Mem.begin C [.dat (sliceRep strRep) words1 [vL A2 words1 c3]] ⟨hp4, trivial⟩
 refine enter Tryz.func62 rfl Tryz.ntmps62 rfl fun a hf => ?_
 unfold m_impl_joined at h
 refine wp_seq ?_
 refine region_pl ?_
 refine q_ hf rfl rfl rfl (e_assign hf rfl) fun a hf => ?_
 refine pl_nil ?_
 refine then_n ?_
 refine wp_seq ?_
 refine region_pl ?_
 refine q_ hf rfl rfl rfl (e_move hf rfl) fun a hf => ?_
 obtain ⟨y5, hz6, h⟩ := bind_some h
 refine pl_l hf rfl rfl rfl (w_call hf Tryz.call123 rfl (r_strings_Join ⟨_, Sh C _ _, none_, hM.sh_lt, none_not, C.G, hM.g_lt, g_none, hM.tabs⟩ words1 _ _ (hM.dat (k := 0) rfl) ([32] : Str) (lit_len rfl) _ hz6) ?_)
 rintro _ w8 ⟨rfl, hM2, hv7⟩
 obtain ⟨hM, hx9, hup10⟩ := hM.back hM2
 dsimp only [List.cons_append, List.nil_append] at hM hup10
 clear hM2
 refine ⟨_, rfl, fun a hf => ?_⟩
 refine q_ hf rfl rfl rfl (e_assign hf rfl) fun a hf => ?_
 refine pl_nil ?_
 refine then_n ?_
 refine wp_ret ?_
 obtain rfl := some_inj h
 exact leave1 hf rfl rfl ⟨rfl, hM.fin, hv7⟩

set_option maxRecDepth 100000 in
set_option maxHeartbeats 4000000 in
theorem r_impl_small (C : Cx) (c1 : UInt8) (r : Bool) (h : m_impl_small c1 = some r) :
    Calls Tryz.prog 115 #[vB (c1)] C.w0 fun e w => e = .returned (.bool (r)) ∧ Mem C w [] [] := by
 have hM := Mem.begin C [] trivial
 refine enter Tryz.func115 rfl Tryz.ntmps115 rfl fun a hf => ?_
 unfold m_impl_small at h
 refine wp_seq ?_
 refine region_pl ?_
 refine q_ hf rfl rfl rfl (e_assign hf rfl) fun a hf => ?_
 refine pl_nil ?_
 refine then_n ?_
 obtain ⟨x4, h5, h⟩ := bind_some h
 refine seq_join (fun a w => ∃ (t2 : Bool), t2 = x4 ∧ Has 9 a [(2, .bool (t2))] ∧ Mem C w [] []) ?_ ?_
 ·refine region_pl ?_
  refine q_ hf rfl rfl rfl (e_move hf rfl) fun a hf => ?_
  refine q_ hf rfl rfl rfl (e_leB hf (x := 97) (y := c1) rfl rfl) fun a hf => ?_
  refine q_ hf rfl rfl rfl (e_move hf rfl) fun a hf => ?_
  rcases cond_some h5 with ⟨hc6, h5⟩ | ⟨hc6, h5⟩
  ·refine gq (wanted_t hf rfl rfl rfl rfl hc6) hf rfl rfl (e_move hf rfl) fun a hf => ?_
   refine gq (wanted_t hf rfl rfl rfl rfl hc6) hf rfl rfl (e_leB hf (x := c1) (y := 122) rfl rfl) fun a hf => ?_
   refine q_ hf rfl rfl rfl (e_pick_t hf rfl hc6 rfl) fun a hf => ?_
   refine q_ hf rfl rfl rfl (e_assign hf rfl) fun a hf => ?_
   refine pl_nil ?_
   obtain rfl := some_inj h5
   refine then_n ?_
   exact ⟨(decide (c1 ≤ 122)), rfl, hf.keep ⟨rfl, trivial⟩, hM.pick [] rfl⟩
  iterate 2 refine pl_gs (wanted_f hf rfl rfl rfl rfl hc6) hf rfl rfl fun a hf => ?_
  refine q_ hf rfl rfl rfl (e_pick_f hf rfl hc6 rfl) fun a hf => ?_
  refine q_ hf rfl rfl rfl (e_assign hf rfl) fun a hf => ?_
  refine pl_nil ?_
  obtain rfl := some_inj h5
  refine then_n ?_
  exact ⟨false, rfl, hf.keep ⟨rfl, trivial⟩, hM.pick [] rfl⟩
 rintro a w9 ⟨t2, rfl, hf, hM⟩
 try dsimp only at h
 refine wp_ret ?_
 obtain rfl := some_inj h
 exact leave1 hf rfl rfl ⟨rfl, hM.fin⟩

set_option maxRecDepth 100000 in
set_option maxHeartbeats 4000000 in
theorem r_impl_within (C : Cx) (x1 : Int) (hp2 : R64 x1) (low3 : Int) (hp4 : R64 low3) (high5 : Int) (hp6 : R64 high5) (r : Bool) (h : m_impl_within x1 low3 high5 = some r) :
    Calls Tryz.prog 124 #[vI (x1), vI (low3), vI (high5)] C.w0 fun e w => e = .returned (.bool (r)) ∧ Mem C w [] [] := by
 have hM := Mem.begin C [] trivial
 refine enter Tryz.func124 rfl Tryz.ntmps124 rfl fun a hf => ?_
 unfold m_impl_within at h
 refine wp_seq ?_
 refine region_pl ?_
 refine q_ hf rfl rfl rfl (e_assign hf rfl) fun a hf => ?_
 refine pl_nil ?_
 refine then_n ?_
 obtain ⟨x9, h10, h⟩ := bind_some h
 refine seq_join (fun a w => ∃ (t7 : Bool), t7 = x9 ∧ Has 15 a [(6, .bool (t7))] ∧ Mem C w [] []) ?_ ?_
 ·refine region_pl ?_
  iterate 2 refine q_ hf rfl rfl rfl (e_move hf rfl) fun a hf => ?_
  refine q_ hf rfl rfl rfl (e_le hf (x := low3) (y := x1) rfl rfl) fun a hf => ?_
  refine q_ hf rfl rfl rfl (e_move hf rfl) fun a hf => ?_
  rcases cond_some h10 with ⟨hc11, h10⟩ | ⟨hc11, h10⟩
  ·iterate 2 refine gq (wanted_t hf rfl rfl rfl rfl hc11) hf rfl rfl (e_move hf rfl) fun a hf => ?_
   refine gq (wanted_t hf rfl rfl rfl rfl hc11) hf rfl rfl (e_le hf (x := x1) (y := high5) rfl rfl) fun a hf => ?_
   refine q_ hf rfl rfl rfl (e_pick_t hf rfl hc11 rfl) fun a hf => ?_
   refine q_ hf rfl rfl rfl (e_assign hf rfl) fun a hf => ?_
   refine pl_nil ?_
   obtain rfl := some_inj h10
   refine then_n ?_
   exact ⟨(decide (x1 ≤ high5)), rfl, hf.keep ⟨rfl, trivial⟩, hM.pick [] rfl⟩
  iterate 3 refine pl_gs (wanted_f hf rfl rfl rfl rfl hc11) hf rfl rfl fun a hf => ?_
  refine q_ hf rfl rfl rfl (e_pick_f hf rfl hc11 rfl) fun a hf => ?_
  refine q_ hf rfl rfl rfl (e_assign hf rfl) fun a hf => ?_
  refine pl_nil ?_
  obtain rfl := some_inj h10
  refine then_n ?_
  exact ⟨false, rfl, hf.keep ⟨rfl, trivial⟩, hM.pick [] rfl⟩
 rintro a w14 ⟨t7, rfl, hf, hM⟩
 try dsimp only at h
 refine wp_ret ?_
 obtain rfl := some_inj h
 exact leave1 hf rfl rfl ⟨rfl, hM.fin⟩

set_option maxRecDepth 100000 in
set_option maxHeartbeats 4000000 in
theorem r_impl_onlySmall (C : Cx) (s1 : Str) (hp2 : s1.length ≤ maxLen) (r : Bool) (h : m_impl_onlySmall s1 = some r) :
    Calls Tryz.prog 179 #[vS (s1)] C.w0 fun e w => e = .returned (.bool (r)) ∧ Mem C w [] [] := by
 have hM := Mem.begin C [] trivial
 refine enter Tryz.func179 rfl Tryz.ntmps179 rfl fun a hf => ?_
 unfold m_impl_onlySmall at h
 refine wp_seq ?_
 refine region_pl ?_
 refine q_ hf rfl rfl rfl (e_assign hf rfl) fun a hf => ?_
 refine pl_nil ?_
 refine then_n ?_
 obtain ⟨x3, h4, h⟩ := bind_some h
 refine seq_join (fun a w => (.inl ()) = x3 ∧ Has 16 a [] ∧ Mem C w [] []) ?_ ?_
 ·refine wp_seq ?_
  refine region_pl ?_
  refine q_ hf rfl rfl rfl (e_move hf rfl) fun a hf => ?_
  refine pl_l hf rfl rfl rfl (w_bytes hf hM (x := s1) rfl Tryz.underlying9 Tryz.underlying138 Tryz.underlying5 hp2 fun A5 c6 w7 hx8 hM a hf => ?_)
  have hl9 := row_len (hM.ownAt (k := 0) rfl)
  refine q_ hf rfl rfl rfl (e_lenL hf (x := s1) rfl Tryz.underlying138) fun a hf => ?_
  refine q_ hf rfl rfl rfl (e_move hf rfl) fun a hf => ?_
  refine pl_nil ?_
  refine then_n ?_
  refine wp_block ?_
  obtain ⟨x13, h14, h4⟩ := bind_some h4
  refine wp_loopM h14 (fun s a w => ∃ (n10 : Int), n10 = s ∧ Has 16 a [(6, vL A5 (s1) c6), (7, vI ((s1.length : Int))), (8, vI (n10))] ∧ Mem C w [.row byteRep A5 c6 5 s1 false] [] ∧ R64 n10) ?_ ?_
  ·exact ⟨0, rfl, hf.keep ⟨rfl, rfl, rfl, trivial⟩, hM.pick [] rfl, (R64_lit rfl)⟩
  rintro s o15 a w12 ⟨n10, rfl, hf, hM, hv11⟩ h16 hd17
  replace h16 : m_impl_onlySmall_l1 s1 n10 = some o15 := h16
  unfold m_impl_onlySmall_l1 at h16
  refine wp_seq ?_
  refine region_pl ?_
  refine q_ hf rfl rfl rfl (e_lt hf (x := n10) (y := (s1.length : Int)) rfl rfl) fun a hf => ?_
  refine pl_nil ?_
  refine then_n ?_
  refine wp_seq ?_
  rcases cond_some h16 with ⟨hc18, h16⟩ | ⟨hc18, h16⟩
  ·refine cond_t hf rfl hc18 ?_
   refine wp_skip ?_
   refine then_n ?_
   refine wp_seq ?_
   refine wp_block ?_
   refine wp_seq ?_
   refine region_pl ?_
   obtain ⟨e19, hz20, h16⟩ := bind_some h16
   obtain ⟨b25, _, hA26, h21, h22, hr23, hcell24⟩ := hM.rowElemN (k := 0) rfl (n := 1) rfl hz20
   obtain rfl : _ = _ := hr23
   refine q_ hf rfl rfl rfl (e_indexAddr (A := A5) (b := b25) (o := 0) (xs := s1) (i := n10) hf hA26 rfl rfl Tryz.underlying138 Tryz.sizeOf5 h21 h22) fun a hf => ?_
   refine q_ hf rfl rfl rfl (e_load1 hf rfl Tryz.isAgg5 (hcell24 0 _ rfl)) fun a hf => ?_
   refine q_ hf rfl rfl rfl (e_assign hf rfl) fun a hf => ?_
   refine pl_nil ?_
   refine then_n ?_
   refine wp_seq ?_
   refine region_pl ?_
   refine q_ hf rfl rfl rfl (e_move hf rfl) fun a hf => ?_
   obtain ⟨y27, hz28, h16⟩ := bind_some h16
   refine pl_l hf rfl rfl rfl (w_call hf Tryz.call115 rfl (r_impl_small ⟨_, Sh C _ _, none_, hM.sh_lt, none_not, C.G, hM.g_lt, g_none, hM.tabs⟩ e19 _ hz28) ?_)
   rintro _ w29 ⟨rfl, hM2⟩
   obtain ⟨hM, hx30, hup31⟩ := hM.back hM2
   dsimp only [List.cons_append, List.nil_append] at hM hup31
   clear hM2
   refine ⟨_, rfl, fun a hf => ?_⟩
   refine q_ hf rfl rfl rfl (e_not hf rfl) fun a hf => ?_
   refine pl_nil ?_
   refine then_n ?_
   rcases cond_some h16 with ⟨hc32, h16⟩ | ⟨hc32, h16⟩
   ·refine cond_t hf rfl hc32 ?_
    refine wp_seq ?_
    refine region_pl ?_
    refine q_ hf rfl rfl rfl (e_assign hf rfl) fun a hf => ?_
    refine pl_nil ?_
    refine then_n ?_
    refine wp_ret ?_
    refine blk_r ?_
    refine then_r ?_
    obtain rfl := some_inj h16
    obtain rfl := hd17 _ rfl
    try dsimp only at h4
    refine then_r ?_
    refine blk_r ?_
    obtain rfl := some_inj h4
    try dsimp only at h
    refine then_r ?_
    obtain rfl := some_inj h
    have hM := hM.outs (own' := []) 0 rfl
    exact leave1 hf rfl rfl ⟨rfl, hM.fin⟩
   refine cond_f hf rfl hc32 ?_
   refine wp_skip ?_
   refine blk_n ?_
   refine then_n ?_
   refine region_pl ?_
   obtain ⟨z33, hz34, h16⟩ := bind_some h16
   refine q_ hf rfl rfl rfl (e_add hf rfl rfl hz34) fun a hf => ?_
   refine q_ hf rfl rfl rfl (e_move hf rfl) fun a hf => ?_
   refine pl_nil ?_
   obtain rfl := some_inj h16
   refine then_n ⟨_, rfl, ?_⟩
   exact ⟨z33, rfl, hf.keep ⟨rfl, rfl, rfl, trivial⟩, hM.pick [] rfl, (chk_R hz34)⟩
  refine cond_f hf rfl hc18 ?_
  refine wp_exit ?_
  refine then_x ?_
  obtain rfl := some_inj h16
  obtain rfl := hd17 _ rfl
  try dsimp only at h4
  refine then_x ?_
  refine exit_hit ?_
  obtain rfl := some_inj h4
  refine then_n ?_
  exact ⟨rfl, hf.keep trivial, (hM.drop (.cons _ .slnil)).pick [] rfl⟩
 rintro a w41 ⟨rfl, hf, hM⟩
 try dsimp only at h
 refine wp_seq ?_
 refine region_pl ?_
 refine q_ hf rfl rfl rfl (e_assign hf rfl) fun a hf => ?_
 refine pl_nil ?_
 refine then_n ?_
 refine wp_ret ?_
 obtain rfl := some_inj h
 exact leave1 hf rfl rfl ⟨rfl, hM.fin⟩

set_option maxRecDepth 100000 in
set_option maxHeartbeats 4000000 in
theorem r_impl_IsWord (C : Cx) (s1 : Str) (hp2 : s1.length ≤ maxLen) (r : Bool) (h : m_impl_IsWord s1 = some r) :
    Calls Tryz.prog 164 #[vS (s1)] C.w0 fun e w => e = .returned (.bool (r)) ∧ Mem C w [] [] := by
 have hM := Mem.begin C [] trivial
 refine enter Tryz.func164 rfl Tryz.ntmps164 rfl fun a hf => ?_
 unfold m_impl_IsWord at h
 refine wp_seq ?_
 refine region_pl ?_
 refine q_ hf rfl rfl rfl (e_assign hf rfl) fun a hf => ?_
 refine pl_nil ?_
 refine then_n ?_
 obtain ⟨x5, h6, h⟩ := bind_some h
 refine seq_join (fun a w => ∃ (t3 : Bool), t3 = x5 ∧ Has 15 a [(2, .bool (t3))] ∧ Mem C w [] []) ?_ ?_
 ·refine region_pl ?_
  refine q_ hf rfl rfl rfl (e_move hf rfl) fun a hf => ?_
  refine q_ hf rfl rfl rfl (e_lenS hf (x := s1) rfl Tryz.underlying9) fun a hf => ?_
  refine q_ hf rfl rfl rfl (e_ge hf (x := (s1.length : Int)) (y := 1) rfl rfl) fun a hf => ?_
  refine q_ hf rfl rfl rfl (e_move hf rfl) fun a hf => ?_
  rcases cond_some h6 with ⟨hc7, h6⟩ | ⟨hc7, h6⟩
  ·refine gq (wanted_t hf rfl rfl rfl rfl hc7) hf rfl rfl (e_move hf rfl) fun a hf => ?_
   refine gq (wanted_t hf rfl rfl rfl rfl hc7) hf rfl rfl (e_lenS hf (x := s1) rfl Tryz.underlying9) fun a hf => ?_
   refine gq (wanted_t hf rfl rfl rfl rfl hc7) hf rfl rfl (e_le hf (x := (s1.length : Int)) (y := 12) rfl rfl) fun a hf => ?_
   refine q_ hf rfl rfl rfl (e_pick_t hf rfl hc7 rfl) fun a hf => ?_
   refine q_ hf rfl rfl rfl (e_move hf rfl) fun a hf => ?_
   rcases cond_some h6 with ⟨hc8, h6⟩ | ⟨hc8, h6⟩
   ·refine gq (wanted_t hf rfl rfl rfl rfl hc8) hf rfl rfl (e_move hf rfl) fun a hf => ?_
    obtain ⟨y9, hz10, h6⟩ := bind_some h6
    refine pl_gl (wanted_t hf rfl rfl rfl rfl hc8) hf rfl rfl (w_call hf Tryz.call179 rfl (r_impl_onlySmall ⟨_, Sh C _ _, none_, hM.sh_lt, none_not, C.G, hM.g_lt, g_none, hM.tabs⟩ s1 hp2 _ hz10) ?_)
    rintro _ w11 ⟨rfl, hM2⟩
    obtain ⟨hM, hx12, hup13⟩ := hM.back hM2
    dsimp only [List.cons_append, List.nil_append] at hM hup13
    clear hM2
    refine ⟨_, rfl, fun a hf => ?_⟩
    refine q_ hf rfl rfl rfl (e_pick_t hf rfl hc8 rfl) fun a hf => ?_
    refine q_ hf rfl rfl rfl (e_assign hf rfl) fun a hf => ?_
    refine pl_nil ?_
    obtain rfl := some_inj h6
    refine then_n ?_
    exact ⟨y9, rfl, hf.keep ⟨rfl, trivial⟩, hM.pick [] rfl⟩
   iterate 2 refine pl_gs (wanted_f hf rfl rfl rfl rfl hc8) hf rfl rfl fun a hf => ?_
   refine q_ hf rfl rfl rfl (e_pick_f hf rfl hc8 rfl) fun a hf => ?_
   refine q_ hf rfl rfl rfl (e_assign hf rfl) fun a hf => ?_
   refine pl_nil ?_
   obtain rfl := some_inj h6
   refine then_n ?_
   exact ⟨false, rfl, hf.keep ⟨rfl, trivial⟩, hM.pick [] rfl⟩
  iterate 3 refine pl_gs (wanted_f hf rfl rfl rfl rfl hc7) hf rfl rfl fun a hf => ?_
  refine q_ hf rfl rfl rfl (e_pick_f hf rfl hc7 rfl) fun a hf => ?_
  refine q_ hf rfl rfl rfl (e_move hf rfl) fun a hf => ?_
  iterate 2 refine pl_gs (wanted_f hf rfl rfl rfl rfl rfl) hf rfl rfl fun a hf => ?_
  refine q_ hf rfl rfl rfl (e_pick_f hf rfl rfl rfl) fun a hf => ?_
  refine q_ hf rfl rfl rfl (e_assign hf rfl) fun a hf => ?_
  refine pl_nil ?_
  obtain rfl := some_inj h6
  refine then_n ?_
  exact ⟨false, rfl, hf.keep ⟨rfl, trivial⟩, hM.pick [] rfl⟩
 rintro a w17 ⟨t3, rfl, hf, hM⟩
 try dsimp only at h
 refine wp_ret ?_
 obtain rfl := some_inj h
 exact leave1 hf rfl rfl ⟨rfl, hM.fin⟩

set_option maxRecDepth 100000 in
set_option maxHeartbeats 4000000 in
theorem r_impl_isPlaced (C : Cx) (s1 : Str) (hp2 : s1.length ≤ maxLen) (r : Bool) (h : m_impl_isPlaced s1 = some r) :
    Calls Tryz.prog 145 #[vS (s1)] C.w0 fun e w => e = .returned (.bool (r)) ∧ Mem C w [] [] := by
 have hM := Mem.begin C [] trivial
 refine enter Tryz.func145 rfl Tryz.ntmps145 rfl fun a hf => ?_
 unfold m_impl_isPlaced at h
 refine wp_seq ?_
 refine region_pl ?_
 refine q_ hf rfl rfl rfl (e_assign hf rfl) fun a hf => ?_
 refine pl_nil ?_
 refine then_n ?_
 obtain ⟨x5, h6, h⟩ := bind_some h
 refine seq_join (fun a w => ∃ (t3 : Bool), t3 = x5 ∧ Has 14 a [(2, .bool (t3))] ∧ Mem C w [] []) ?_ ?_
 ·refine region_pl ?_
  refine q_ hf rfl rfl rfl (e_move hf rfl) fun a hf => ?_
  obtain ⟨y7, hz8, h6⟩ := bind_some h6
  refine pl_l hf rfl rfl rfl (w_call hf Tryz.call165 rfl (r_strings_ToLower ⟨_, Sh C _ _, none_, hM.sh_lt, none_not, C.G, hM.g_lt, g_none, hM.tabs⟩ s1 hp2 _ hz8) ?_)
  rintro _ w10 ⟨rfl, hM2, hv9⟩
  obtain ⟨hM, hx11, hup12⟩ := hM.back hM2
  dsimp only [List.cons_append, List.nil_append] at hM hup12
  clear hM2
  refine ⟨_, rfl, fun a hf => ?_⟩
  obtain ⟨y13, hz14, h6⟩ := bind_some h6
  refine pl_l hf rfl rfl rfl (w_call hf Tryz.call164 rfl (r_impl_IsWord ⟨_, Sh C _ _, none_, hM.sh_lt, none_not, C.G, hM.g_lt, g_none, hM.tabs⟩ y7 hv9 _ hz14) ?_)
  rintro _ w15 ⟨rfl, hM2⟩
  obtain ⟨hM, hx16, hup17⟩ := hM.back hM2
  dsimp only [List.cons_append, List.nil_append] at hM hup17
  clear hM2
  refine ⟨_, rfl, fun a hf => ?_⟩
  refine q_ hf rfl rfl rfl (e_move hf rfl) fun a hf => ?_
  rcases cond_some h6 with ⟨hc18, h6⟩ | ⟨hc18, h6⟩
  ·refine gq (wanted_t hf rfl rfl rfl rfl hc18) hf rfl rfl (e_move hf rfl) fun a hf => ?_
   refine gq (wanted_t hf rfl rfl rfl rfl hc18) hf rfl rfl (e_lenS hf (x := s1) rfl Tryz.underlying9) fun a hf => ?_
   refine gq (wanted_t hf rfl rfl rfl rfl hc18) hf rfl rfl (e_move hf rfl) fun a hf => ?_
   obtain ⟨y19, hz20, h6⟩ := bind_some h6
   refine pl_gl (wanted_t hf rfl rfl rfl rfl hc18) hf rfl rfl (w_call hf Tryz.call165 rfl (r_strings_ToLower ⟨_, Sh C _ _, none_, hM.sh_lt, none_not, C.G, hM.g_lt, g_none, hM.tabs⟩ s1 hp2 _ hz20) ?_)
   rintro _ w22 ⟨rfl, hM2, hv21⟩
   obtain ⟨hM, hx23, hup24⟩ := hM.back hM2
   dsimp only [List.cons_append, List.nil_append] at hM hup24
   clear hM2
   refine ⟨_, rfl, fun a hf => ?_⟩
   refine gq (wanted_t hf rfl rfl rfl rfl hc18) hf rfl rfl (e_lenS hf (x := y19) rfl Tryz.underlying9) fun a hf => ?_
   refine gq (wanted_t hf rfl rfl rfl rfl hc18) hf rfl rfl (e_eq hf (x := (s1.length : Int)) (y := (y19.length : Int)) rfl rfl) fun a hf => ?_
   refine q_ hf rfl rfl rfl (e_pick_t hf rfl hc18 rfl) fun a hf => ?_
   refine q_ hf rfl rfl rfl (e_assign hf rfl) fun a hf => ?_
   refine pl_nil ?_
   obtain rfl := some_inj h6
   refine then_n ?_
   exact ⟨((s1.length : Int) == (y19.length : Int)), rfl, hf.keep ⟨rfl, trivial⟩, hM.pick [] rfl⟩
  iterate 6 refine pl_gs (wanted_f hf rfl rfl rfl rfl hc18) hf rfl rfl fun a hf => ?_
  refine q_ hf rfl rfl rfl (e_pick_f hf rfl hc18 rfl) fun a hf => ?_
  refine q_ hf rfl rfl rfl (e_assign hf rfl) fun a hf => ?_
  refine pl_nil ?_
  obtain rfl := some_inj h6
  refine then_n ?_
  exact ⟨false, rfl, hf.keep ⟨rfl, trivial⟩, hM.pick [] rfl⟩
 rintro a w27 ⟨t3, rfl, hf, hM⟩
 try dsimp only at h
 refine wp_ret ?_
 obtain rfl := some_inj h
 exact leave1 hf rfl rfl ⟨rfl, hM.fin⟩

set_option maxRecDepth 100000 in
set_option maxHeartbeats 4000000 in
theorem r_impl_isMain (C : Cx) (s1 : Str) (hp2 : s1.length ≤ maxLen) (r : Bool) (h : m_impl_isMain s1 = some r) :
    Calls Tryz.prog 99 #[vS (s1)] C.w0 fun e w => e = .returned (.bool (r)) ∧ Mem C w [] [] := by
 have hM := Mem.begin C [] trivial
 refine enter Tryz.func99 rfl Tryz.ntmps99 rfl fun a hf => ?_
 unfold m_impl_isMain at h
 refine wp_seq ?_
 refine region_pl ?_
 refine q_ hf rfl rfl rfl (e_assign hf rfl) fun a hf => ?_
 refine pl_nil ?_
 refine then_n ?_
 obtain ⟨x5, h6, h⟩ := bind_some h
 refine seq_join (fun a w => ∃ (t3 : Bool), t3 = x5 ∧ Has 10 a [(2, .bool (t3))] ∧ Mem C w [] []) ?_ ?_
 ·refine region_pl ?_
  refine q_ hf rfl rfl rfl (e_move hf rfl) fun a hf => ?_
  refine q_ hf rfl rfl rfl (e_lenS hf (x := s1) rfl Tryz.underlying9) fun a hf => ?_
  refine q_ hf rfl rfl rfl (e_ge hf (x := (s1.length : Int)) (y := 2) rfl rfl) fun a hf => ?_
  refine q_ hf rfl rfl rfl (e_move hf rfl) fun a hf => ?_
  rcases cond_some h6 with ⟨hc7, h6⟩ | ⟨hc7, h6⟩
  ·refine gq (wanted_t hf rfl rfl rfl rfl hc7) hf rfl rfl (e_move hf rfl) fun a hf => ?_
   obtain ⟨y8, hz9, h6⟩ := bind_some h6
   refine pl_gl (wanted_t hf rfl rfl rfl rfl hc7) hf rfl rfl (w_call hf Tryz.call145 rfl (r_impl_isPlaced ⟨_, Sh C _ _, none_, hM.sh_lt, none_not, C.G, hM.g_lt, g_none, hM.tabs⟩ s1 hp2 _ hz9) ?_)
   rintro _ w10 ⟨rfl, hM2⟩
   obtain ⟨hM, hx11, hup12⟩ := hM.back hM2
   dsimp only [List.cons_append, List.nil_append] at hM hup12
   clear hM2
   refine ⟨_, rfl, fun a hf => ?_⟩
   refine q_ hf rfl rfl rfl (e_pick_t hf rfl hc7 rfl) fun a hf => ?_
   refine q_ hf rfl rfl rfl (e_assign hf rfl) fun a hf => ?_
   refine pl_nil ?_
   obtain rfl := some_inj h6
   refine then_n ?_
   exact ⟨y8, rfl, hf.keep ⟨rfl, trivial⟩, hM.pick [] rfl⟩
  iterate 2 refine pl_gs (wanted_f hf rfl rfl rfl rfl hc7) hf rfl rfl fun a hf => ?_
  refine q_ hf rfl rfl rfl (e_pick_f hf rfl hc7 rfl) fun a hf => ?_
  refine q_ hf rfl rfl rfl (e_assign hf rfl) fun a hf => ?_
  refine pl_nil ?_
  obtain rfl := some_inj h6
  refine then_n ?_
  exact ⟨false, rfl, hf.keep ⟨rfl, trivial⟩, hM.pick [] rfl⟩
 rintro a w15 ⟨t3, rfl, hf, hM⟩
 try dsimp only at h
 refine wp_ret ?_
 obtain rfl := some_inj h
 exact leave1 hf rfl rfl ⟨rfl, hM.fin⟩

set_option maxRecDepth 100000 in
set_option maxHeartbeats 4000000 in
theorem r_impl_PlayText (C : Cx) (p1 : Play) (hp2 : R64 p1.Row) (hp3 : R64 p1.Col) (hp4 : p1.Word.length ≤ maxLen) (r : Str) (h : m_impl_PlayText p1 = some r) :
    Calls Tryz.prog 116 #[.agg #[vI (p1.Row), vI (p1.Col), .bool (p1.Down), vS (p1.Word)]] C.w0 fun e w => e = .returned (vS (r)) ∧ Mem C w [] [] ∧ r.length ≤ maxLen := by
 have hM := Mem.begin C [] trivial
 refine enter Tryz.func116 rfl Tryz.ntmps116 rfl fun a hf => ?_
 unfold m_impl_PlayText at h
 refine wp_seq ?_
 refine region_pl ?_
 refine pl_l hf rfl rfl rfl (w_box hf hM (cs := [vI (p1.Row), vI (p1.Col), .bool (p1.Down), vS (p1.Word)]) rfl rfl fun b5 w6 hx7 hM a hf => ?_)
 refine q_ hf rfl rfl rfl (e_assign hf rfl) fun a hf => ?_
 refine pl_nil ?_
 refine then_n ?_
 refine wp_seq ?_
 obtain ⟨x11, h12, h⟩ := bind_some h
 refine seq_join (fun a w => ∃ (t9 : Bool), t9 = x11 ∧ Has 46 a [(1, vP b5 (0)), (20, .bool (t9))] ∧ Mem C w [.box b5 [vI (p1.Row), vI (p1.Col), .bool (p1.Down), vS (p1.Word)] 41] []) ?_ ?_
 ·refine region_pl ?_
  refine q_ hf rfl rfl rfl (e_field hf rfl Tryz.underlying41 rfl Tryz.sizeOf2 (o' := 0) rfl) fun a hf => ?_
  refine q_ hf rfl rfl rfl (e_load1 hf rfl Tryz.isAgg2 (hM.boxCell (k := 0) rfl rfl)) fun a hf => ?_
  obtain ⟨y13, hz14, h12⟩ := bind_some h12
  refine pl_l hf rfl rfl rfl (w_call hf Tryz.call124 rfl (r_impl_within ⟨_, Sh C _ _, none_, hM.sh_lt, none_not, C.G, hM.g_lt, g_none, hM.tabs⟩ p1.Row hp2 0 (R64_lit rfl) 14 (R64_lit rfl) _ hz14) ?_)
  rintro _ w15 ⟨rfl, hM2⟩
  obtain ⟨hM, hx16, hup17⟩ := hM.back hM2
  dsimp only [List.cons_append, List.nil_append] at hM hup17
  clear hM2
  refine ⟨_, rfl, fun a hf => ?_⟩
  refine q_ hf rfl rfl rfl (e_not hf rfl) fun a hf => ?_
  refine q_ hf rfl rfl rfl (e_move hf rfl) fun a hf => ?_
  rcases cond_some h12 with ⟨hc18, h12⟩ | ⟨hc18, h12⟩
  ·iterate 4 refine pl_gs (wanted_f hf rfl rfl rfl rfl hc18) hf rfl rfl fun a hf => ?_
   refine q_ hf rfl rfl rfl (e_pick_t hf rfl hc18 rfl) fun a hf => ?_
   refine q_ hf rfl rfl rfl (e_move hf rfl) fun a hf => ?_
   iterate 4 refine pl_gs (wanted_f hf rfl rfl rfl rfl rfl) hf rfl rfl fun a hf => ?_
   refine q_ hf rfl rfl rfl (e_pick_t hf rfl rfl rfl) fun a hf => ?_
   refine pl_nil ?_
   obtain rfl := some_inj h12
   refine then_n ?_
   exact ⟨true, rfl, hf.keep ⟨rfl, rfl, trivial⟩, hM.pick [] rfl⟩
  refine gq (wanted_t hf rfl rfl rfl rfl hc18) hf rfl rfl (e_field hf rfl Tryz.underlying41 rfl Tryz.sizeOf2 (o' := 1) rfl) fun a hf => ?_
  refine gq (wanted_t hf rfl rfl rfl rfl hc18) hf rfl rfl (e_load1 hf rfl Tryz.isAgg2 (hM.boxCell (k := 0) rfl rfl)) fun a hf => ?_
  obtain ⟨y20, hz21, h12⟩ := bind_some h12
  refine pl_gl (wanted_t hf rfl rfl rfl rfl hc18) hf rfl rfl (w_call hf Tryz.call124 rfl (r_impl_within ⟨_, Sh C _ _, none_, hM.sh_lt, none_not, C.G, hM.g_lt, g_none, hM.tabs⟩ p1.Col hp3 0 (R64_lit rfl) 14 (R64_lit rfl) _ hz21) ?_)
  rintro _ w22 ⟨rfl, hM2⟩
  obtain ⟨hM, hx23, hup24⟩ := hM.back hM2
  dsimp only [List.cons_append, List.nil_append] at hM hup24
  clear hM2
  refine ⟨_, rfl, fun a hf => ?_⟩
  refine gq (wanted_t hf rfl rfl rfl rfl hc18) hf rfl rfl (e_not hf rfl) fun a hf => ?_
  refine q_ hf rfl rfl rfl (e_pick_f hf rfl hc18 rfl) fun a hf => ?_
  refine q_ hf rfl rfl rfl (e_move hf rfl) fun a hf => ?_
  rcases cond_some h12 with ⟨hc25, h12⟩ | ⟨hc25, h12⟩
  ·iterate 4 refine pl_gs (wanted_f hf rfl rfl rfl rfl hc25) hf rfl rfl fun a hf => ?_
   refine q_ hf rfl rfl rfl (e_pick_t hf rfl hc25 rfl) fun a hf => ?_
   refine pl_nil ?_
   obtain rfl := some_inj h12
   refine then_n ?_
   exact ⟨true, rfl, hf.keep ⟨rfl, rfl, trivial⟩, hM.pick [] rfl⟩
  refine gq (wanted_t hf rfl rfl rfl rfl hc25) hf rfl rfl (e_field hf rfl Tryz.underlying41 rfl Tryz.sizeOf9 (o' := 3) rfl) fun a hf => ?_
  refine gq (wanted_t hf rfl rfl rfl rfl hc25) hf rfl rfl (e_load1 hf rfl Tryz.isAgg9 (hM.boxCell (k := 0) rfl rfl)) fun a hf => ?_
  obtain ⟨y27, hz28, h12⟩ := bind_some h12
  refine pl_gl (wanted_t hf rfl rfl rfl rfl hc25) hf rfl rfl (w_call hf Tryz.call99 rfl (r_impl_isMain ⟨_, Sh C _ _, none_, hM.sh_lt, none_not, C.G, hM.g_lt, g_none, hM.tabs⟩ p1.Word hp4 _ hz28) ?_)
  rintro _ w29 ⟨rfl, hM2⟩
  obtain ⟨hM, hx30, hup31⟩ := hM.back hM2
  dsimp only [List.cons_append, List.nil_append] at hM hup31
  clear hM2
  refine ⟨_, rfl, fun a hf => ?_⟩
  refine gq (wanted_t hf rfl rfl rfl rfl hc25) hf rfl rfl (e_not hf rfl) fun a hf => ?_
  refine q_ hf rfl rfl rfl (e_pick_f hf rfl hc25 rfl) fun a hf => ?_
  refine pl_nil ?_
  obtain rfl := some_inj h12
  refine then_n ?_
  exact ⟨(!y27), rfl, hf.keep ⟨rfl, rfl, trivial⟩, hM.pick [] rfl⟩
 rintro a w33 ⟨t9, rfl, hf, hM⟩
 try dsimp only at h
 rcases cond_some h with ⟨hc34, h⟩ | ⟨hc34, h⟩
 ·refine cond_t hf rfl hc34 ?_
  refine wp_seq ?_
  refine region_pl ?_
  refine q_ hf rfl rfl rfl (e_assign hf rfl) fun a hf => ?_
  refine pl_nil ?_
  refine then_n ?_
  refine wp_ret ?_
  refine then_r ?_
  obtain rfl := some_inj h
  have hM := hM.outs (own' := []) 0 rfl
  exact leave1 hf rfl rfl ⟨rfl, hM.fin, (lit_len rfl)⟩
 refine cond_f hf rfl hc34 ?_
 refine wp_skip ?_
 refine then_n ?_
 refine wp_seq ?_
 obtain ⟨w35, hw⟩ : ∃ x, x = w33.drew := ⟨_, rfl⟩
 refine region_pi (.q 0 (.q 1 (.q 2 (.q 4 (.q 5 (.q 6 (.q 7 (.q 8 (.l 3 (.q 9 (.q 10 (.nil)))))))))))) (Ext w35) rfl (by kernel_rfl) ?_
 have hM := hM.drew
 rw [← hw] at hM ⊢
 clear hw
 refine pi_q hf rfl rfl rfl rfl (Ext.refl _) (e_field hf rfl Tryz.underlying41 rfl Tryz.sizeOf2 (o' := 0) rfl) fun a hf => ?_
 refine pi_q hf rfl rfl rfl rfl (Ext.refl _) (e_load1 hf rfl Tryz.isAgg2 (hM.boxCell (k := 0) rfl rfl)) fun a hf => ?_
 obtain ⟨z36, hz37, h⟩ := bind_some h
 refine pi_q hf rfl rfl rfl rfl (Ext.refl _) (e_add hf rfl rfl hz37) fun a hf => ?_
 refine pi_q hf rfl rfl rfl rfl (Ext.refl _) (e_field hf rfl Tryz.underlying41 rfl Tryz.sizeOf2 (o' := 1) rfl) fun a hf => ?_
 refine pi_q hf rfl rfl rfl rfl (Ext.refl _) (e_load1 hf rfl Tryz.isAgg2 (hM.boxCell (k := 0) rfl rfl)) fun a hf => ?_
 obtain ⟨z38, hz39, h⟩ := bind_some h
 refine pi_q hf rfl rfl rfl rfl (Ext.refl _) (e_add hf rfl rfl hz39) fun a hf => ?_
 obtain ⟨z40, hz41, h⟩ := bind_some h
 refine pi_q hf rfl rfl rfl rfl (Ext.refl _) (e_convIR hf rfl Tryz.underlying2 Tryz.underlying21 hz41) fun a hf => ?_
 obtain ⟨s42, hz43, h⟩ := bind_some h
 refine pi_q hf rfl rfl rfl rfl (Ext.refl _) (e_convRS hf rfl Tryz.underlying21 Tryz.underlying9 hz43) fun a hf => ?_
 refine pi_one ?_
 obtain ⟨y44, hz45, h⟩ := bind_some h
 refine pi_l hf rfl rfl rfl rfl (w_call hf Tryz.call125 rfl (r_impl_Decimal ⟨_, Sh C _ _, none_, hM.sh_lt, none_not, C.G, hM.g_lt, g_none, hM.tabs⟩ z36 (chk_R hz37) _ hz45) ?_)
 rintro _ w47 ⟨rfl, hM2, hv46⟩
 obtain ⟨hM, hx48, hup49⟩ := hM.back hM2
 dsimp only [List.cons_append, List.nil_append] at hM hup49
 clear hM2
 refine ⟨_, rfl, Ext w47, fun _ h => Ext.trans hx48 h, Ext.refl _, fun a hf => ?_⟩
 iterate 2 refine pi_q hf rfl rfl rfl rfl (Ext.refl _) (e_assign hf rfl) fun a hf => ?_
 refine pi_nil ?_
 refine then_n ?_
 iterate 2 refine wp_seq ?_
 refine region_pl ?_
 refine q_ hf rfl rfl rfl (e_field hf rfl Tryz.underlying41 rfl Tryz.sizeOf4 (o' := 2) rfl) fun a hf => ?_
 refine q_ hf rfl rfl rfl (e_load1 hf rfl Tryz.isAgg4 (hM.boxCell (k := 0) rfl rfl)) fun a hf => ?_
 refine pl_nil ?_
 refine then_n ?_
 rcases cond_some h with ⟨hc50, h⟩ | ⟨hc50, h⟩
 ·refine cond_t hf rfl hc50 ?_
  refine wp_seq ?_
  refine region_pl ?_
  iterate 2 refine q_ hf rfl rfl rfl (e_move hf rfl) fun a hf => ?_
  obtain ⟨s51, hz52, h⟩ := bind_some h
  refine q_ hf rfl rfl rfl (e_cat hf (x := s42) (y := y44) rfl rfl hz52) fun a hf => ?_
  obtain ⟨s53, hz54, h⟩ := bind_some h
  refine q_ hf rfl rfl rfl (e_cat hf (x := s51) (y := ([32] : Str)) rfl rfl hz54) fun a hf => ?_
  refine q_ hf rfl rfl rfl (e_field hf rfl Tryz.underlying41 rfl Tryz.sizeOf9 (o' := 3) rfl) fun a hf => ?_
  refine q_ hf rfl rfl rfl (e_load1 hf rfl Tryz.isAgg9 (hM.boxCell (k := 0) rfl rfl)) fun a hf => ?_
  obtain ⟨s55, hz56, h⟩ := bind_some h
  refine q_ hf rfl rfl rfl (e_cat hf (x := s53) (y := p1.Word) rfl rfl hz56) fun a hf => ?_
  refine q_ hf rfl rfl rfl (e_assign hf rfl) fun a hf => ?_
  refine pl_nil ?_
  refine then_n ?_
  refine wp_ret ?_
  refine then_r ?_
  obtain rfl := some_inj h
  have hM := hM.outs (own' := []) 0 rfl
  exact leave1 hf rfl rfl ⟨rfl, hM.fin, (cat_len hz56)⟩
 refine cond_f hf rfl hc50 ?_
 refine wp_skip ?_
 refine then_n ?_
 refine wp_seq ?_
 refine region_pl ?_
 iterate 2 refine q_ hf rfl rfl rfl (e_move hf rfl) fun a hf => ?_
 obtain ⟨s57, hz58, h⟩ := bind_some h
 refine q_ hf rfl rfl rfl (e_cat hf (x := y44) (y := s42) rfl rfl hz58) fun a hf => ?_
 obtain ⟨s59, hz60, h⟩ := bind_some h
 refine q_ hf rfl rfl rfl (e_cat hf (x := s57) (y := ([32] : Str)) rfl rfl hz60) fun a hf => ?_
 refine q_ hf rfl rfl rfl (e_field hf rfl Tryz.underlying41 rfl Tryz.sizeOf9 (o' := 3) rfl) fun a hf => ?_
 refine q_ hf rfl rfl rfl (e_load1 hf rfl Tryz.isAgg9 (hM.boxCell (k := 0) rfl rfl)) fun a hf => ?_
 obtain ⟨s61, hz62, h⟩ := bind_some h
 refine q_ hf rfl rfl rfl (e_cat hf (x := s59) (y := p1.Word) rfl rfl hz62) fun a hf => ?_
 refine q_ hf rfl rfl rfl (e_assign hf rfl) fun a hf => ?_
 refine pl_nil ?_
 refine then_n ?_
 refine wp_ret ?_
 obtain rfl := some_inj h
 have hM := hM.outs (own' := []) 0 rfl
 exact leave1 hf rfl rfl ⟨rfl, hM.fin, (cat_len hz62)⟩

end Go.Proofs.YtbekokenomhgeaaGreatDoor
