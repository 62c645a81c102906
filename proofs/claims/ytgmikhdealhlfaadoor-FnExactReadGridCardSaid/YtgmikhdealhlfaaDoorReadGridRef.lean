/- The functions that this law reaches do what their models say. Printed by gen.py. -/
import Derived.Test.YtgmikhdealhlfaaDoorMod
import Derived.Test.YtgmikhdealhlfaaDoorLib
namespace Go.Proofs.YtgmikhdealhlfaaDoor
open Go Go.RowKit
set_option linter.unusedSimpArgs false
set_option linter.unusedVariables false

def FnC_UInt8_to_Bool (fk : FuncId) (fc : List Value) (f : UInt8 → Option Bool) (C : Cx) : Prop := ∀ (x0 : UInt8) (r : Bool) (h : f x0 = some r),
    Calls Tryd.prog fk (([vB (x0)] : List Value) ++ fc).toArray C.w0 fun e w => e = .returned (.bool (r)) ∧ Mem C w [] []

theorem ei_9 : ElemInfo Tryd.prog 9 1 := elemInfo (by kernel_rfl)

theorem bp_23 : ∀ (fs : Array Field), some (TypeDesc.struct fs) = Tryd.prog.underlying 23 → ∀ w, (fs.mapM fun (f : Field) => do pure (f.offset, ← sizeOf f.type)).run Tryd.prog w = .ok #[(0, 1), (1, 1), (2, 1)] w := by
  intro fs h w
  rw [Tryd.underlying23] at h
  cases h
  simp

set_option maxRecDepth 100000 in
set_option maxHeartbeats 4000000 in
theorem r_spec_l01Split (C : Cx) (s1 : Str) (hp2 : s1.length ≤ maxLen) (by_3 : UInt8) (r : (List Str)) (h : m_spec_l01Split s1 by_3 = some r) :
    Calls Tryd.prog 7 #[vS (s1), vB (by_3)] C.w0 fun e w => ∃ (A_1 : Option Addr), ∃ (c_1 : Nat), e = .returned (vL A_1 (r) c_1) ∧ Mem C w [.row strRep A_1 c_1 9 r true] [] := by
  have hM := Mem.begin C [] trivial
  refine enter Tryd.func7 rfl Tryd.ntmps7 rfl fun a hf => ?_
  unfold m_spec_l01Split at h
  refine wp_seq ?_
  refine region_pl ?_
  refine q_ hf rfl rfl rfl (e_assign hf rfl) fun a hf => ?_
  refine pl_nil ?_
  refine then_n ?_
  refine wp_seq ?_
  refine region_pl ?_
  refine pl_l hf rfl rfl rfl (w_slice0 (K := strRep) hM Tryd.underlying28 ei_9 fun b4 w5 hx6 hM a hf => ?_)
  refine q_ hf rfl rfl rfl (e_assign hf rfl) fun a hf => ?_
  refine pl_nil ?_
  refine then_n ?_
  refine wp_seq ?_
  refine region_pl ?_
  refine q_ hf rfl rfl rfl (e_assign hf rfl) fun a hf => ?_
  refine pl_nil ?_
  refine then_n ?_
  obtain ⟨x12, h13, h⟩ := bind_some h
  refine seq_join (fun a w => ∃ (xs7 : (List Str)) (n10 : Int) (A8 : Option Addr) (c9 : Nat), (xs7, n10) = x12 ∧ Has 35 a [(0, vS (s1)), (5, vL A8 (xs7) c9), (6, vI (n10))] ∧ Mem C w [.row strRep A8 c9 9 xs7 true] [] ∧ R64 n10) ?_ ?_
  · refine wp_seq ?_
    refine region_pl ?_
    refine q_ hf rfl rfl rfl (e_assign hf rfl) fun a hf => ?_
    refine pl_nil ?_
    refine then_n ?_
    refine wp_block ?_
    obtain ⟨x27, h28, h13⟩ := bind_some h13
    refine wp_loopM h28 (fun s a w => ∃ (xs14 : (List Str)) (n17 : Int) (n19 : Int) (A15 : Option Addr) (c16 : Nat), (xs14, n17, n19) = s ∧ Has 35 a [(0, vS (s1)), (1, vB (by_3)), (5, vL A15 (xs14) c16), (6, vI (n17)), (7, vI (n19))] ∧ Mem C w [.row strRep A15 c16 9 xs14 true] [] ∧ R64 n17 ∧ R64 n19) ?_ ?_
    · exact ⟨([] : (List Str)), 0, 0, (some ⟨b4, 0, none⟩), 0, rfl, hf.keep ⟨rfl, rfl, rfl, rfl, rfl, trivial⟩, hM.pick [] rfl, (R64_lit rfl), (R64_lit rfl)⟩
    · rintro s o29 a w21 ⟨xs14, n17, n19, A15, c16, rfl, hf, hM, hv18, hv20⟩ h30 hd31
      replace h30 : m_spec_l01Split_l1 s1 by_3 xs14 n17 n19 = some o29 := h30
      unfold m_spec_l01Split_l1 at h30
      refine wp_seq ?_
      refine wp_seq ?_
      refine region_pl ?_
      refine q_ hf rfl rfl rfl (e_move hf rfl) fun a hf => ?_
      refine q_ hf rfl rfl rfl (e_move hf rfl) fun a hf => ?_
      refine q_ hf rfl rfl rfl (e_lenS hf (x := s1) rfl Tryd.underlying9) fun a hf => ?_
      refine q_ hf rfl rfl rfl (e_lt hf (x := n19) (y := (s1.length : Int)) rfl rfl) fun a hf => ?_
      refine pl_nil ?_
      refine then_n ?_
      rcases cond_some h30 with ⟨hc32, h30⟩ | ⟨hc32, h30⟩
      · refine cond_t hf rfl hc32 ?_
        refine wp_skip ?_
        refine then_n ?_
        obtain ⟨x38, h39, h30⟩ := bind_some h30
        refine seq_join (fun a w => ∃ (xs33 : (List Str)) (n36 : Int) (A34 : Option Addr) (c35 : Nat), (xs33, n36) = x38 ∧ Has 35 a [(0, vS (s1)), (1, vB (by_3)), (5, vL A34 (xs33) c35), (6, vI (n36)), (7, vI (n19))] ∧ Mem C w [.row strRep A34 c35 9 xs33 true] [] ∧ R64 n36) ?_ ?_
        · refine wp_block ?_
          refine wp_seq ?_
          refine region_pl ?_
          refine q_ hf rfl rfl rfl (e_move hf rfl) fun a hf => ?_
          refine q_ hf rfl rfl rfl (e_move hf rfl) fun a hf => ?_
          obtain ⟨c40, hz41, h39⟩ := bind_some h39
          refine q_ hf rfl rfl rfl (e_indexS hf (x := s1) rfl rfl Tryd.underlying9 hz41) fun a hf => ?_
          refine q_ hf rfl rfl rfl (e_move hf rfl) fun a hf => ?_
          refine q_ hf rfl rfl rfl (e_eqB hf (x := c40) (y := by_3) rfl rfl) fun a hf => ?_
          refine pl_nil ?_
          refine then_n ?_
          rcases cond_some h39 with ⟨hc42, h39⟩ | ⟨hc42, h39⟩
          · refine cond_t hf rfl hc42 ?_
            refine wp_seq ?_
            refine region_pl ?_
            refine q_ hf rfl rfl rfl (e_move hf rfl) fun a hf => ?_
            refine q_ hf rfl rfl rfl (e_move hf rfl) fun a hf => ?_
            refine q_ hf rfl rfl rfl (e_move hf rfl) fun a hf => ?_
            refine q_ hf rfl rfl rfl (e_move hf rfl) fun a hf => ?_
            obtain ⟨s43, hz44, h39⟩ := bind_some h39
            refine q_ hf rfl rfl rfl (e_subS hf (x := s1) rfl rfl rfl Tryd.underlying9 hz44) fun a hf => ?_
            refine pl_l hf rfl rfl rfl (w_slice hf hM (K := strRep) (xs := ([s43] : (List Str))) (os := [.tmp 24]) Tryd.underlying28 ei_9 rfl rfl rfl rfl rfl ⟨⟨[vS (s43)], rfl, ⟨rfl, (sub_len hz44 hp2)⟩⟩, trivial⟩ rfl fun b45 w46 hx47 hM a hf => ?_)
            obtain ⟨xs48, hz49, h39⟩ := bind_some h39
            refine pl_l hf rfl rfl rfl (w_append hf hM Tryd.underlying28 ei_9 rfl rfl rfl (k := 1) rfl (hM.srcRow (k := 0) rfl) hz49 fun A50 c51 w52 hM a hf => ?_)
            dsimp only [List.set] at hM
            refine q_ hf rfl rfl rfl (e_assign hf rfl) fun a hf => ?_
            refine pl_nil ?_
            refine then_n ?_
            refine region_pl ?_
            refine q_ hf rfl rfl rfl (e_move hf rfl) fun a hf => ?_
            obtain ⟨z55, hz56, h39⟩ := bind_some h39
            refine q_ hf rfl rfl rfl (e_add hf rfl rfl hz56) fun a hf => ?_
            refine q_ hf rfl rfl rfl (e_assign hf rfl) fun a hf => ?_
            refine pl_nil ?_
            refine blk_n ?_
            obtain rfl := some_inj h39
            refine then_n ?_
            exact ⟨xs48, z55, A50, c51, rfl, hf.keep ⟨rfl, rfl, rfl, rfl, rfl, trivial⟩, (hM.drop (.cons _ (.cons_cons _ .slnil))).pick [] rfl, (chk_R hz56)⟩
          · refine cond_f hf rfl hc42 ?_
            refine wp_skip ?_
            refine blk_n ?_
            obtain rfl := some_inj h39
            refine then_n ?_
            exact ⟨xs14, n17, A15, c16, rfl, hf.keep ⟨rfl, rfl, rfl, rfl, rfl, trivial⟩, hM.pick [] rfl, hv18⟩
        · rintro a w59 ⟨xs33, n36, A34, c35, rfl, hf, hM, hv37⟩
          try dsimp only at h30
          refine region_pl ?_
          refine q_ hf rfl rfl rfl (e_move hf rfl) fun a hf => ?_
          obtain ⟨z60, hz61, h30⟩ := bind_some h30
          refine q_ hf rfl rfl rfl (e_add hf rfl rfl hz61) fun a hf => ?_
          refine q_ hf rfl rfl rfl (e_assign hf rfl) fun a hf => ?_
          refine pl_nil ?_
          obtain rfl := some_inj h30
          refine then_n ⟨_, rfl, ?_⟩
          exact ⟨xs33, n36, z60, A34, c35, rfl, hf.keep ⟨rfl, rfl, rfl, rfl, rfl, trivial⟩, hM.pick [] rfl, hv37, (chk_R hz61)⟩
      · refine cond_f hf rfl hc32 ?_
        refine wp_exit ?_
        refine then_x ?_
        obtain rfl := some_inj h30
        obtain rfl := hd31 _ rfl
        try dsimp only at h13
        refine then_x ?_
        refine exit_hit ?_
        obtain rfl := some_inj h13
        refine then_n ?_
        exact ⟨xs14, n17, A15, c16, rfl, hf.keep ⟨rfl, rfl, rfl, trivial⟩, hM.pick [] rfl, hv18⟩
  · rintro a w67 ⟨xs7, n10, A8, c9, rfl, hf, hM, hv11⟩
    try dsimp only at h
    refine wp_seq ?_
    refine region_pl ?_
    refine q_ hf rfl rfl rfl (e_move hf rfl) fun a hf => ?_
    refine q_ hf rfl rfl rfl (e_move hf rfl) fun a hf => ?_
    refine q_ hf rfl rfl rfl (e_move hf rfl) fun a hf => ?_
    obtain ⟨s68, hz69, h⟩ := bind_some h
    refine q_ hf rfl rfl rfl (e_subSl hf (x := s1) rfl rfl Tryd.underlying9 hz69) fun a hf => ?_
    refine pl_l hf rfl rfl rfl (w_slice hf hM (K := strRep) (xs := ([s68] : (List Str))) (os := [.tmp 32]) Tryd.underlying28 ei_9 rfl rfl rfl rfl rfl ⟨⟨[vS (s68)], rfl, ⟨rfl, (sub_len hz69 hp2)⟩⟩, trivial⟩ rfl fun b70 w71 hx72 hM a hf => ?_)
    obtain ⟨xs73, hz74, h⟩ := bind_some h
    refine pl_l hf rfl rfl rfl (w_append hf hM Tryd.underlying28 ei_9 rfl rfl rfl (k := 1) rfl (hM.srcRow (k := 0) rfl) hz74 fun A75 c76 w77 hM a hf => ?_)
    dsimp only [List.set] at hM
    refine q_ hf rfl rfl rfl (e_assign hf rfl) fun a hf => ?_
    refine pl_nil ?_
    refine then_n ?_
    refine wp_ret ?_
    obtain rfl := some_inj h
    have hM := hM.front (k := 1) rfl
    dsimp only [List.eraseIdx] at hM
    have hM := hM.outs (own' := [.row strRep A75 c76 9 xs73 true]) 1 rfl
    exact leave1 hf rfl rfl ⟨A75, c76, rfl, hM.fin⟩

set_option maxRecDepth 100000 in
set_option maxHeartbeats 4000000 in
theorem r_spec_l00In (C : Cx) (n1 : Int) (hp2 : R64 n1) (low3 : Int) (hp4 : R64 low3) (high5 : Int) (hp6 : R64 high5) (r : Bool) (h : m_spec_l00In n1 low3 high5 = some r) :
    Calls Tryd.prog 13 #[vI (n1), vI (low3), vI (high5)] C.w0 fun e w => e = .returned (.bool (r)) ∧ Mem C w [] [] := by
  have hM := Mem.begin C [] trivial
  refine enter Tryd.func13 rfl Tryd.ntmps13 rfl fun a hf => ?_
  unfold m_spec_l00In at h
  refine wp_seq ?_
  refine region_pl ?_
  refine q_ hf rfl rfl rfl (e_assign hf rfl) fun a hf => ?_
  refine pl_nil ?_
  refine then_n ?_
  obtain ⟨x9, h10, h⟩ := bind_some h
  refine seq_join (fun a w => ∃ (t7 : Bool), t7 = x9 ∧ Has 15 a [(6, .bool (t7))] ∧ Mem C w [] []) ?_ ?_
  · refine region_pl ?_
    refine q_ hf rfl rfl rfl (e_move hf rfl) fun a hf => ?_
    refine q_ hf rfl rfl rfl (e_move hf rfl) fun a hf => ?_
    refine q_ hf rfl rfl rfl (e_ge hf (x := n1) (y := low3) rfl rfl) fun a hf => ?_
    refine q_ hf rfl rfl rfl (e_move hf rfl) fun a hf => ?_
    rcases cond_some h10 with ⟨hc11, h10⟩ | ⟨hc11, h10⟩
    · refine gq (wanted_t hf rfl rfl rfl rfl hc11) hf rfl rfl (e_move hf rfl) fun a hf => ?_
      refine gq (wanted_t hf rfl rfl rfl rfl hc11) hf rfl rfl (e_move hf rfl) fun a hf => ?_
      refine gq (wanted_t hf rfl rfl rfl rfl hc11) hf rfl rfl (e_le hf (x := n1) (y := high5) rfl rfl) fun a hf => ?_
      refine q_ hf rfl rfl rfl (e_pick_t hf rfl hc11 rfl) fun a hf => ?_
      refine q_ hf rfl rfl rfl (e_assign hf rfl) fun a hf => ?_
      refine pl_nil ?_
      obtain rfl := some_inj h10
      refine then_n ?_
      exact ⟨(decide (n1 ≤ high5)), rfl, hf.keep ⟨rfl, trivial⟩, hM.pick [] rfl⟩
    · refine pl_gs (wanted_f hf rfl rfl rfl rfl hc11) hf rfl rfl fun a hf => ?_
      refine pl_gs (wanted_f hf rfl rfl rfl rfl hc11) hf rfl rfl fun a hf => ?_
      refine pl_gs (wanted_f hf rfl rfl rfl rfl hc11) hf rfl rfl fun a hf => ?_
      refine q_ hf rfl rfl rfl (e_pick_f hf rfl hc11 rfl) fun a hf => ?_
      refine q_ hf rfl rfl rfl (e_assign hf rfl) fun a hf => ?_
      refine pl_nil ?_
      obtain rfl := some_inj h10
      refine then_n ?_
      exact ⟨false, rfl, hf.keep ⟨rfl, trivial⟩, hM.pick [] rfl⟩
  · rintro a w14 ⟨t7, rfl, hf, hM⟩
    try dsimp only at h
    refine wp_ret ?_
    obtain rfl := some_inj h
    exact leave1 hf rfl rfl ⟨rfl, hM.fin⟩

set_option maxRecDepth 100000 in
set_option maxHeartbeats 4000000 in
theorem r_spec_l01Small (C : Cx) (c1 : UInt8) (r : Bool) (h : m_spec_l01Small c1 = some r) :
    Calls Tryd.prog 14 #[vB (c1)] C.w0 fun e w => e = .returned (.bool (r)) ∧ Mem C w [] [] := by
  have hM := Mem.begin C [] trivial
  refine enter Tryd.func14 rfl Tryd.ntmps14 rfl fun a hf => ?_
  unfold m_spec_l01Small at h
  refine wp_seq ?_
  refine region_pl ?_
  refine q_ hf rfl rfl rfl (e_assign hf rfl) fun a hf => ?_
  refine pl_nil ?_
  refine then_n ?_
  obtain ⟨x4, h5, h⟩ := bind_some h
  refine seq_join (fun a w => ∃ (t2 : Bool), t2 = x4 ∧ Has 9 a [(2, .bool (t2))] ∧ Mem C w [] []) ?_ ?_
  · refine region_pl ?_
    refine q_ hf rfl rfl rfl (e_move hf rfl) fun a hf => ?_
    refine q_ hf rfl rfl rfl (e_geB hf (x := c1) (y := 97) rfl rfl) fun a hf => ?_
    refine q_ hf rfl rfl rfl (e_move hf rfl) fun a hf => ?_
    rcases cond_some h5 with ⟨hc6, h5⟩ | ⟨hc6, h5⟩
    · refine gq (wanted_t hf rfl rfl rfl rfl hc6) hf rfl rfl (e_move hf rfl) fun a hf => ?_
      refine gq (wanted_t hf rfl rfl rfl rfl hc6) hf rfl rfl (e_leB hf (x := c1) (y := 122) rfl rfl) fun a hf => ?_
      refine q_ hf rfl rfl rfl (e_pick_t hf rfl hc6 rfl) fun a hf => ?_
      refine q_ hf rfl rfl rfl (e_assign hf rfl) fun a hf => ?_
      refine pl_nil ?_
      obtain rfl := some_inj h5
      refine then_n ?_
      exact ⟨(decide (c1 ≤ 122)), rfl, hf.keep ⟨rfl, trivial⟩, hM.pick [] rfl⟩
    · refine pl_gs (wanted_f hf rfl rfl rfl rfl hc6) hf rfl rfl fun a hf => ?_
      refine pl_gs (wanted_f hf rfl rfl rfl rfl hc6) hf rfl rfl fun a hf => ?_
      refine q_ hf rfl rfl rfl (e_pick_f hf rfl hc6 rfl) fun a hf => ?_
      refine q_ hf rfl rfl rfl (e_assign hf rfl) fun a hf => ?_
      refine pl_nil ?_
      obtain rfl := some_inj h5
      refine then_n ?_
      exact ⟨false, rfl, hf.keep ⟨rfl, trivial⟩, hM.pick [] rfl⟩
  · rintro a w9 ⟨t2, rfl, hf, hM⟩
    try dsimp only at h
    refine wp_ret ?_
    obtain rfl := some_inj h
    exact leave1 hf rfl rfl ⟨rfl, hM.fin⟩

set_option maxRecDepth 100000 in
set_option maxHeartbeats 4000000 in
theorem r_spec_l25Ok (C : Cx) (g1 : Grid) (b2 : Nat) (o3 : Nat) (hp4 : (ptrRep GridRep).R C.w0 C.S0 g1 [vP b2 o3]) (r : Bool) (h : m_spec_l25Ok g1 = some r) :
    Calls Tryd.prog 8 #[vP b2 (o3)] C.w0 fun e w => e = .returned (.bool (r)) ∧ Mem C w [] [] := by
  have hM := Mem.begin C [.dat (ptrRep GridRep) g1 [vP b2 o3]] ⟨hp4, trivial⟩
  refine enter Tryd.func8 rfl Tryd.ntmps8 rfl fun a hf => ?_
  unfold m_spec_l25Ok at h
  refine wp_seq ?_
  refine region_pl ?_
  refine q_ hf rfl rfl rfl (e_assign hf rfl) fun a hf => ?_
  refine pl_nil ?_
  refine then_n ?_
  refine wp_seq ?_
  obtain ⟨x7, h8, h⟩ := bind_some h
  refine seq_join (fun a w => ∃ (t5 : Bool), t5 = x7 ∧ Has 70 a [(0, vP b2 (o3)), (34, .bool (t5))] ∧ Mem C w [] [.dat (ptrRep GridRep) g1 [vP b2 o3]]) ?_ ?_
  · obtain ⟨w9, hw⟩ : ∃ x, x = C.w0.drew := ⟨_, rfl⟩
    refine region_pi (.q 0 (.q 1 (.q 2 (.q 3 (.l 4 (.q 5 (.q 6 (.q 7 (.q 8 (.q 9 (.q 10 (.l 11 (.q 12 (.q 13 (.q 14 (.q 15 (.q 16 (.q 17 (.q 18 (.q 19 (.q 20 (.q 21 (.q 22 (.q 23 (.q 24 (.q 25 (.q 26 (.q 27 (.q 28 (.q 29 (.q 30 (.nil)))))))))))))))))))))))))))))))) (Ext w9) rfl (by kernel_rfl) ?_
    have hM := hM.drew
    rw [← hw] at hM ⊢
    clear hw
    refine pi_q hf rfl rfl rfl rfl (Ext.refl _) (e_move hf rfl) fun a hf => ?_
    refine pi_q hf rfl rfl rfl rfl (Ext.refl _) (e_nil hf rfl) fun a hf => ?_
    obtain ⟨_, hr10, hM⟩ := hM.deref (hM.dat (k := 0) rfl)
    obtain ⟨rfl, hv11, hv12, hv13⟩ := GridRep_open hr10
    refine pi_q hf rfl rfl rfl rfl (Ext.refl _) (e_field hf rfl Tryd.underlying23 rfl Tryd.sizeOf2 (o' := o3 + 0) rfl) fun a hf => ?_
    refine pi_q hf rfl rfl rfl rfl (Ext.refl _) (e_load1 hf rfl Tryd.isAgg2 (hM.litCell (k := 0) (j := 0) rfl rfl rfl)) fun a hf => ?_
    refine pi_one ?_
    obtain ⟨y14, hz15, h8⟩ := bind_some h8
    refine pi_l hf rfl rfl rfl rfl (w_call hf Tryd.call13 rfl (r_spec_l00In ⟨_, Sh C _ _, none_, hM.sh_lt, none_not, C.G, hM.g_lt, g_none, hM.tabs⟩ g1.Rows hv11 1 (R64_lit rfl) 5 (R64_lit rfl) _ hz15) ?_)
    rintro _ w16 ⟨rfl, hM2⟩
    obtain ⟨hM, hx17, hup18⟩ := hM.back hM2
    dsimp only [List.cons_append, List.nil_append] at hM hup18
    clear hM2
    refine ⟨_, rfl, Ext w16, fun _ h => Ext.trans hx17 h, Ext.refl _, fun a hf => ?_⟩
    refine pi_q hf rfl rfl rfl rfl (Ext.refl _) (e_not hf rfl) fun a hf => ?_
    refine pi_q hf rfl rfl rfl rfl (Ext.refl _) (e_move hf rfl) fun a hf => ?_
    rcases cond_some h8 with ⟨hc19, h8⟩ | ⟨hc19, h8⟩
    · refine pi_gs hf rfl (wanted_f hf rfl rfl rfl rfl hc19) rfl rfl (Ext.refl _) fun a hf => ?_
      refine pi_gs hf rfl (wanted_f hf rfl rfl rfl rfl hc19) rfl rfl (Ext.refl _) fun a hf => ?_
      refine pi_gs hf rfl (wanted_f hf rfl rfl rfl rfl hc19) rfl rfl (Ext.refl _) fun a hf => ?_
      refine pi_gs hf rfl (wanted_f hf rfl rfl rfl rfl hc19) rfl rfl (Ext.refl _) fun a hf => ?_
      refine pi_one ?_
      refine pi_ls hf rfl (wanted_f hf rfl rfl rfl rfl hc19) rfl rfl (Ext.refl _) fun a hf => ?_
      refine pi_gs hf rfl (wanted_f hf rfl rfl rfl rfl hc19) rfl rfl (Ext.refl _) fun a hf => ?_
      refine pi_q hf rfl rfl rfl rfl (Ext.refl _) (e_pick_t hf rfl hc19 rfl) fun a hf => ?_
      refine pi_q hf rfl rfl rfl rfl (Ext.refl _) (e_move hf rfl) fun a hf => ?_
      refine pi_gs hf rfl (wanted_f hf rfl rfl rfl rfl rfl) rfl rfl (Ext.refl _) fun a hf => ?_
      refine pi_gs hf rfl (wanted_f hf rfl rfl rfl rfl rfl) rfl rfl (Ext.refl _) fun a hf => ?_
      refine pi_gs hf rfl (wanted_f hf rfl rfl rfl rfl rfl) rfl rfl (Ext.refl _) fun a hf => ?_
      refine pi_gs hf rfl (wanted_f hf rfl rfl rfl rfl rfl) rfl rfl (Ext.refl _) fun a hf => ?_
      refine pi_gs hf rfl (wanted_f hf rfl rfl rfl rfl rfl) rfl rfl (Ext.refl _) fun a hf => ?_
      refine pi_gs hf rfl (wanted_f hf rfl rfl rfl rfl rfl) rfl rfl (Ext.refl _) fun a hf => ?_
      refine pi_gs hf rfl (wanted_f hf rfl rfl rfl rfl rfl) rfl rfl (Ext.refl _) fun a hf => ?_
      refine pi_gs hf rfl (wanted_f hf rfl rfl rfl rfl rfl) rfl rfl (Ext.refl _) fun a hf => ?_
      refine pi_gs hf rfl (wanted_f hf rfl rfl rfl rfl rfl) rfl rfl (Ext.refl _) fun a hf => ?_
      refine pi_gs hf rfl (wanted_f hf rfl rfl rfl rfl rfl) rfl rfl (Ext.refl _) fun a hf => ?_
      refine pi_gs hf rfl (wanted_f hf rfl rfl rfl rfl rfl) rfl rfl (Ext.refl _) fun a hf => ?_
      refine pi_gs hf rfl (wanted_f hf rfl rfl rfl rfl rfl) rfl rfl (Ext.refl _) fun a hf => ?_
      refine pi_gs hf rfl (wanted_f hf rfl rfl rfl rfl rfl) rfl rfl (Ext.refl _) fun a hf => ?_
      refine pi_gs hf rfl (wanted_f hf rfl rfl rfl rfl rfl) rfl rfl (Ext.refl _) fun a hf => ?_
      refine pi_gs hf rfl (wanted_f hf rfl rfl rfl rfl rfl) rfl rfl (Ext.refl _) fun a hf => ?_
      refine pi_q hf rfl rfl rfl rfl (Ext.refl _) (e_pick_t hf rfl rfl rfl) fun a hf => ?_
      refine pi_nil ?_
      obtain rfl := some_inj h8
      refine then_n ?_
      exact ⟨true, rfl, hf.keep ⟨rfl, rfl, trivial⟩, hM.pick [1] rfl⟩
    · refine pi_gq hf rfl (wanted_t hf rfl rfl rfl rfl hc19) rfl rfl (Ext.refl _) (e_move hf rfl) fun a hf => ?_
      refine pi_gq hf rfl (wanted_t hf rfl rfl rfl rfl hc19) rfl rfl (Ext.refl _) (e_nil hf rfl) fun a hf => ?_
      refine pi_gq hf rfl (wanted_t hf rfl rfl rfl rfl hc19) rfl rfl (Ext.refl _) (e_field hf rfl Tryd.underlying23 rfl Tryd.sizeOf2 (o' := o3 + 1) rfl) fun a hf => ?_
      refine pi_gq hf rfl (wanted_t hf rfl rfl rfl rfl hc19) rfl rfl (Ext.refl _) (e_load1 hf rfl Tryd.isAgg2 (hM.litCell (k := 0) (j := 1) rfl rfl rfl)) fun a hf => ?_
      refine pi_one ?_
      obtain ⟨y21, hz22, h8⟩ := bind_some h8
      refine pi_gl hf rfl (wanted_t hf rfl rfl rfl rfl hc19) rfl rfl (w_call hf Tryd.call13 rfl (r_spec_l00In ⟨_, Sh C _ _, none_, hM.sh_lt, none_not, C.G, hM.g_lt, g_none, hM.tabs⟩ g1.Cols hv12 1 (R64_lit rfl) 5 (R64_lit rfl) _ hz22) ?_)
      rintro _ w23 ⟨rfl, hM2⟩
      obtain ⟨hM, hx24, hup25⟩ := hM.back hM2
      dsimp only [List.cons_append, List.nil_append] at hM hup25
      clear hM2
      refine ⟨_, rfl, Ext w23, fun _ h => Ext.trans hx24 h, Ext.refl _, fun a hf => ?_⟩
      refine pi_gq hf rfl (wanted_t hf rfl rfl rfl rfl hc19) rfl rfl (Ext.refl _) (e_not hf rfl) fun a hf => ?_
      refine pi_q hf rfl rfl rfl rfl (Ext.refl _) (e_pick_f hf rfl hc19 rfl) fun a hf => ?_
      refine pi_q hf rfl rfl rfl rfl (Ext.refl _) (e_move hf rfl) fun a hf => ?_
      rcases cond_some h8 with ⟨hc26, h8⟩ | ⟨hc26, h8⟩
      · refine pi_gs hf rfl (wanted_f hf rfl rfl rfl rfl hc26) rfl rfl (Ext.refl _) fun a hf => ?_
        refine pi_gs hf rfl (wanted_f hf rfl rfl rfl rfl hc26) rfl rfl (Ext.refl _) fun a hf => ?_
        refine pi_gs hf rfl (wanted_f hf rfl rfl rfl rfl hc26) rfl rfl (Ext.refl _) fun a hf => ?_
        refine pi_gs hf rfl (wanted_f hf rfl rfl rfl rfl hc26) rfl rfl (Ext.refl _) fun a hf => ?_
        refine pi_gs hf rfl (wanted_f hf rfl rfl rfl rfl hc26) rfl rfl (Ext.refl _) fun a hf => ?_
        refine pi_gs hf rfl (wanted_f hf rfl rfl rfl rfl hc26) rfl rfl (Ext.refl _) fun a hf => ?_
        refine pi_gs hf rfl (wanted_f hf rfl rfl rfl rfl hc26) rfl rfl (Ext.refl _) fun a hf => ?_
        refine pi_gs hf rfl (wanted_f hf rfl rfl rfl rfl hc26) rfl rfl (Ext.refl _) fun a hf => ?_
        refine pi_gs hf rfl (wanted_f hf rfl rfl rfl rfl hc26) rfl rfl (Ext.refl _) fun a hf => ?_
        refine pi_gs hf rfl (wanted_f hf rfl rfl rfl rfl hc26) rfl rfl (Ext.refl _) fun a hf => ?_
        refine pi_gs hf rfl (wanted_f hf rfl rfl rfl rfl hc26) rfl rfl (Ext.refl _) fun a hf => ?_
        refine pi_gs hf rfl (wanted_f hf rfl rfl rfl rfl hc26) rfl rfl (Ext.refl _) fun a hf => ?_
        refine pi_gs hf rfl (wanted_f hf rfl rfl rfl rfl hc26) rfl rfl (Ext.refl _) fun a hf => ?_
        refine pi_gs hf rfl (wanted_f hf rfl rfl rfl rfl hc26) rfl rfl (Ext.refl _) fun a hf => ?_
        refine pi_gs hf rfl (wanted_f hf rfl rfl rfl rfl hc26) rfl rfl (Ext.refl _) fun a hf => ?_
        refine pi_q hf rfl rfl rfl rfl (Ext.refl _) (e_pick_t hf rfl hc26 rfl) fun a hf => ?_
        refine pi_nil ?_
        obtain rfl := some_inj h8
        refine then_n ?_
        exact ⟨true, rfl, hf.keep ⟨rfl, rfl, trivial⟩, hM.pick [1] rfl⟩
      · refine pi_gq hf rfl (wanted_t hf rfl rfl rfl rfl hc26) rfl rfl (Ext.refl _) (e_move hf rfl) fun a hf => ?_
        refine pi_gq hf rfl (wanted_t hf rfl rfl rfl rfl hc26) rfl rfl (Ext.refl _) (e_nil hf rfl) fun a hf => ?_
        refine pi_gq hf rfl (wanted_t hf rfl rfl rfl rfl hc26) rfl rfl (Ext.refl _) (e_field hf rfl Tryd.underlying23 rfl Tryd.sizeOf9 (o' := o3 + 2) rfl) fun a hf => ?_
        refine pi_gq hf rfl (wanted_t hf rfl rfl rfl rfl hc26) rfl rfl (Ext.refl _) (e_load1 hf rfl Tryd.isAgg9 (hM.litCell (k := 0) (j := 2) rfl rfl rfl)) fun a hf => ?_
        refine pi_gq hf rfl (wanted_t hf rfl rfl rfl rfl hc26) rfl rfl (Ext.refl _) (e_lenS hf (x := g1.Cells) rfl Tryd.underlying9) fun a hf => ?_
        refine pi_gq hf rfl (wanted_t hf rfl rfl rfl rfl hc26) rfl rfl (Ext.refl _) (e_move hf rfl) fun a hf => ?_
        refine pi_gq hf rfl (wanted_t hf rfl rfl rfl rfl hc26) rfl rfl (Ext.refl _) (e_nil hf rfl) fun a hf => ?_
        refine pi_gq hf rfl (wanted_t hf rfl rfl rfl rfl hc26) rfl rfl (Ext.refl _) (e_field hf rfl Tryd.underlying23 rfl Tryd.sizeOf2 (o' := o3 + 0) rfl) fun a hf => ?_
        refine pi_gq hf rfl (wanted_t hf rfl rfl rfl rfl hc26) rfl rfl (Ext.refl _) (e_load1 hf rfl Tryd.isAgg2 (hM.litCell (k := 0) (j := 0) rfl rfl rfl)) fun a hf => ?_
        refine pi_gq hf rfl (wanted_t hf rfl rfl rfl rfl hc26) rfl rfl (Ext.refl _) (e_move hf rfl) fun a hf => ?_
        refine pi_gq hf rfl (wanted_t hf rfl rfl rfl rfl hc26) rfl rfl (Ext.refl _) (e_nil hf rfl) fun a hf => ?_
        refine pi_gq hf rfl (wanted_t hf rfl rfl rfl rfl hc26) rfl rfl (Ext.refl _) (e_field hf rfl Tryd.underlying23 rfl Tryd.sizeOf2 (o' := o3 + 1) rfl) fun a hf => ?_
        refine pi_gq hf rfl (wanted_t hf rfl rfl rfl rfl hc26) rfl rfl (Ext.refl _) (e_load1 hf rfl Tryd.isAgg2 (hM.litCell (k := 0) (j := 1) rfl rfl rfl)) fun a hf => ?_
        obtain ⟨z28, hz29, h8⟩ := bind_some h8
        refine pi_gq hf rfl (wanted_t hf rfl rfl rfl rfl hc26) rfl rfl (Ext.refl _) (e_mul hf rfl rfl hz29) fun a hf => ?_
        refine pi_gq hf rfl (wanted_t hf rfl rfl rfl rfl hc26) rfl rfl (Ext.refl _) (e_ne hf (x := (g1.Cells.length : Int)) (y := z28) rfl rfl) fun a hf => ?_
        refine pi_q hf rfl rfl rfl rfl (Ext.refl _) (e_pick_f hf rfl hc26 rfl) fun a hf => ?_
        refine pi_nil ?_
        obtain rfl := some_inj h8
        refine then_n ?_
        exact ⟨((g1.Cells.length : Int) != z28), rfl, hf.keep ⟨rfl, rfl, trivial⟩, hM.pick [1] rfl⟩
  · rintro a w31 ⟨t5, rfl, hf, hM⟩
    try dsimp only at h
    rcases cond_some h with ⟨hc32, h⟩ | ⟨hc32, h⟩
    · refine cond_t hf rfl hc32 ?_
      refine wp_seq ?_
      refine region_pl ?_
      refine q_ hf rfl rfl rfl (e_assign hf rfl) fun a hf => ?_
      refine pl_nil ?_
      refine then_n ?_
      refine wp_ret ?_
      refine then_r ?_
      obtain rfl := some_inj h
      exact leave1 hf rfl rfl ⟨rfl, hM.fin⟩
    · refine cond_f hf rfl hc32 ?_
      refine wp_skip ?_
      refine then_n ?_
      obtain ⟨x33, h34, h⟩ := bind_some h
      refine seq_join (fun a w => (.inl ()) = x33 ∧ Has 70 a [] ∧ Mem C w [] [.dat (ptrRep GridRep) g1 [vP b2 o3]]) ?_ ?_
      · refine wp_seq ?_
        refine region_pl ?_
        refine q_ hf rfl rfl rfl (e_assign hf rfl) fun a hf => ?_
        refine pl_nil ?_
        refine then_n ?_
        refine wp_block ?_
        obtain ⟨x38, h39, h34⟩ := bind_some h34
        refine wp_loopM h39 (fun s a w => ∃ (n35 : Int), n35 = s ∧ Has 70 a [(0, vP b2 (o3)), (3, vI (n35))] ∧ Mem C w [] [.dat (ptrRep GridRep) g1 [vP b2 o3]] ∧ R64 n35) ?_ ?_
        · exact ⟨0, rfl, hf.keep ⟨rfl, rfl, trivial⟩, hM.pick [0] rfl, (R64_lit rfl)⟩
        · rintro s o40 a w37 ⟨n35, rfl, hf, hM, hv36⟩ h41 hd42
          replace h41 : m_spec_l25Ok_l1 g1 n35 = some o40 := h41
          unfold m_spec_l25Ok_l1 at h41
          refine wp_seq ?_
          refine wp_seq ?_
          refine region_pl ?_
          refine q_ hf rfl rfl rfl (e_move hf rfl) fun a hf => ?_
          refine q_ hf rfl rfl rfl (e_move hf rfl) fun a hf => ?_
          refine q_ hf rfl rfl rfl (e_nil hf rfl) fun a hf => ?_
          obtain ⟨_, hr43, hM⟩ := hM.deref (hM.dat (k := 0) rfl)
          obtain ⟨rfl, hv44, hv45, hv46⟩ := GridRep_open hr43
          refine q_ hf rfl rfl rfl (e_field hf rfl Tryd.underlying23 rfl Tryd.sizeOf9 (o' := o3 + 2) rfl) fun a hf => ?_
          refine q_ hf rfl rfl rfl (e_load1 hf rfl Tryd.isAgg9 (hM.litCell (k := 0) (j := 2) rfl rfl rfl)) fun a hf => ?_
          refine q_ hf rfl rfl rfl (e_lenS hf (x := g1.Cells) rfl Tryd.underlying9) fun a hf => ?_
          refine q_ hf rfl rfl rfl (e_lt hf (x := n35) (y := (g1.Cells.length : Int)) rfl rfl) fun a hf => ?_
          refine pl_nil ?_
          refine then_n ?_
          rcases cond_some h41 with ⟨hc47, h41⟩ | ⟨hc47, h41⟩
          · refine cond_t hf rfl hc47 ?_
            refine wp_skip ?_
            refine then_n ?_
            refine wp_seq ?_
            refine wp_block ?_
            obtain ⟨x50, h51, h41⟩ := bind_some h41
            refine seq_join (fun a w => ∃ (t48 : Bool), t48 = x50 ∧ Has 70 a [(0, vP b2 (o3)), (3, vI (n35)), (69, .bool (t48))] ∧ Mem C w [] [.lit b2 (o3) [vI (g1.Rows), vI (g1.Cols), vS (g1.Cells)], .dat (ptrRep GridRep) g1 [vP b2 o3]]) ?_ ?_
            · refine region_pl ?_
              refine q_ hf rfl rfl rfl (e_move hf rfl) fun a hf => ?_
              refine q_ hf rfl rfl rfl (e_nil hf rfl) fun a hf => ?_
              refine q_ hf rfl rfl rfl (e_field hf rfl Tryd.underlying23 rfl Tryd.sizeOf9 (o' := o3 + 2) rfl) fun a hf => ?_
              refine q_ hf rfl rfl rfl (e_load1 hf rfl Tryd.isAgg9 (hM.litCell (k := 0) (j := 2) rfl rfl rfl)) fun a hf => ?_
              refine q_ hf rfl rfl rfl (e_move hf rfl) fun a hf => ?_
              obtain ⟨c52, hz53, h51⟩ := bind_some h51
              refine q_ hf rfl rfl rfl (e_indexS hf (x := g1.Cells) rfl rfl Tryd.underlying9 hz53) fun a hf => ?_
              refine q_ hf rfl rfl rfl (e_neB hf (x := c52) (y := 35) rfl rfl) fun a hf => ?_
              refine q_ hf rfl rfl rfl (e_move hf rfl) fun a hf => ?_
              rcases cond_some h51 with ⟨hc54, h51⟩ | ⟨hc54, h51⟩
              · refine gq (wanted_t hf rfl rfl rfl rfl hc54) hf rfl rfl (e_move hf rfl) fun a hf => ?_
                refine gq (wanted_t hf rfl rfl rfl rfl hc54) hf rfl rfl (e_nil hf rfl) fun a hf => ?_
                refine gq (wanted_t hf rfl rfl rfl rfl hc54) hf rfl rfl (e_field hf rfl Tryd.underlying23 rfl Tryd.sizeOf9 (o' := o3 + 2) rfl) fun a hf => ?_
                refine gq (wanted_t hf rfl rfl rfl rfl hc54) hf rfl rfl (e_load1 hf rfl Tryd.isAgg9 (hM.litCell (k := 0) (j := 2) rfl rfl rfl)) fun a hf => ?_
                refine gq (wanted_t hf rfl rfl rfl rfl hc54) hf rfl rfl (e_move hf rfl) fun a hf => ?_
                obtain ⟨c55, hz56, h51⟩ := bind_some h51
                refine gq (wanted_t hf rfl rfl rfl rfl hc54) hf rfl rfl (e_indexS hf (x := g1.Cells) rfl rfl Tryd.underlying9 hz56) fun a hf => ?_
                refine gq (wanted_t hf rfl rfl rfl rfl hc54) hf rfl rfl (e_neB hf (x := c55) (y := 46) rfl rfl) fun a hf => ?_
                refine q_ hf rfl rfl rfl (e_pick_t hf rfl hc54 rfl) fun a hf => ?_
                refine q_ hf rfl rfl rfl (e_move hf rfl) fun a hf => ?_
                rcases cond_some h51 with ⟨hc57, h51⟩ | ⟨hc57, h51⟩
                · refine gq (wanted_t hf rfl rfl rfl rfl hc57) hf rfl rfl (e_move hf rfl) fun a hf => ?_
                  refine gq (wanted_t hf rfl rfl rfl rfl hc57) hf rfl rfl (e_nil hf rfl) fun a hf => ?_
                  refine gq (wanted_t hf rfl rfl rfl rfl hc57) hf rfl rfl (e_field hf rfl Tryd.underlying23 rfl Tryd.sizeOf9 (o' := o3 + 2) rfl) fun a hf => ?_
                  refine gq (wanted_t hf rfl rfl rfl rfl hc57) hf rfl rfl (e_load1 hf rfl Tryd.isAgg9 (hM.litCell (k := 0) (j := 2) rfl rfl rfl)) fun a hf => ?_
                  refine gq (wanted_t hf rfl rfl rfl rfl hc57) hf rfl rfl (e_move hf rfl) fun a hf => ?_
                  obtain ⟨c58, hz59, h51⟩ := bind_some h51
                  refine gq (wanted_t hf rfl rfl rfl rfl hc57) hf rfl rfl (e_indexS hf (x := g1.Cells) rfl rfl Tryd.underlying9 hz59) fun a hf => ?_
                  obtain ⟨y60, hz61, h51⟩ := bind_some h51
                  refine pl_gl (wanted_t hf rfl rfl rfl rfl hc57) hf rfl rfl (w_call hf Tryd.call14 rfl (r_spec_l01Small ⟨_, Sh C _ _, none_, hM.sh_lt, none_not, C.G, hM.g_lt, g_none, hM.tabs⟩ c58 _ hz61) ?_)
                  rintro _ w62 ⟨rfl, hM2⟩
                  obtain ⟨hM, hx63, hup64⟩ := hM.back hM2
                  dsimp only [List.cons_append, List.nil_append] at hM hup64
                  clear hM2
                  refine ⟨_, rfl, fun a hf => ?_⟩
                  refine gq (wanted_t hf rfl rfl rfl rfl hc57) hf rfl rfl (e_not hf rfl) fun a hf => ?_
                  refine q_ hf rfl rfl rfl (e_pick_t hf rfl hc57 rfl) fun a hf => ?_
                  refine pl_nil ?_
                  obtain rfl := some_inj h51
                  refine then_n ?_
                  exact ⟨(!y60), rfl, hf.keep ⟨rfl, rfl, rfl, trivial⟩, hM.pick [0, 1] rfl⟩
                · refine pl_gs (wanted_f hf rfl rfl rfl rfl hc57) hf rfl rfl fun a hf => ?_
                  refine pl_gs (wanted_f hf rfl rfl rfl rfl hc57) hf rfl rfl fun a hf => ?_
                  refine pl_gs (wanted_f hf rfl rfl rfl rfl hc57) hf rfl rfl fun a hf => ?_
                  refine pl_gs (wanted_f hf rfl rfl rfl rfl hc57) hf rfl rfl fun a hf => ?_
                  refine pl_gs (wanted_f hf rfl rfl rfl rfl hc57) hf rfl rfl fun a hf => ?_
                  refine pl_gs (wanted_f hf rfl rfl rfl rfl hc57) hf rfl rfl fun a hf => ?_
                  refine pl_gs (wanted_f hf rfl rfl rfl rfl hc57) hf rfl rfl fun a hf => ?_
                  refine pl_gs (wanted_f hf rfl rfl rfl rfl hc57) hf rfl rfl fun a hf => ?_
                  refine q_ hf rfl rfl rfl (e_pick_f hf rfl hc57 rfl) fun a hf => ?_
                  refine pl_nil ?_
                  obtain rfl := some_inj h51
                  refine then_n ?_
                  exact ⟨false, rfl, hf.keep ⟨rfl, rfl, rfl, trivial⟩, hM.pick [0, 1] rfl⟩
              · refine pl_gs (wanted_f hf rfl rfl rfl rfl hc54) hf rfl rfl fun a hf => ?_
                refine pl_gs (wanted_f hf rfl rfl rfl rfl hc54) hf rfl rfl fun a hf => ?_
                refine pl_gs (wanted_f hf rfl rfl rfl rfl hc54) hf rfl rfl fun a hf => ?_
                refine pl_gs (wanted_f hf rfl rfl rfl rfl hc54) hf rfl rfl fun a hf => ?_
                refine pl_gs (wanted_f hf rfl rfl rfl rfl hc54) hf rfl rfl fun a hf => ?_
                refine pl_gs (wanted_f hf rfl rfl rfl rfl hc54) hf rfl rfl fun a hf => ?_
                refine pl_gs (wanted_f hf rfl rfl rfl rfl hc54) hf rfl rfl fun a hf => ?_
                refine q_ hf rfl rfl rfl (e_pick_f hf rfl hc54 rfl) fun a hf => ?_
                refine q_ hf rfl rfl rfl (e_move hf rfl) fun a hf => ?_
                refine pl_gs (wanted_f hf rfl rfl rfl rfl rfl) hf rfl rfl fun a hf => ?_
                refine pl_gs (wanted_f hf rfl rfl rfl rfl rfl) hf rfl rfl fun a hf => ?_
                refine pl_gs (wanted_f hf rfl rfl rfl rfl rfl) hf rfl rfl fun a hf => ?_
                refine pl_gs (wanted_f hf rfl rfl rfl rfl rfl) hf rfl rfl fun a hf => ?_
                refine pl_gs (wanted_f hf rfl rfl rfl rfl rfl) hf rfl rfl fun a hf => ?_
                refine pl_gs (wanted_f hf rfl rfl rfl rfl rfl) hf rfl rfl fun a hf => ?_
                refine pl_gs (wanted_f hf rfl rfl rfl rfl rfl) hf rfl rfl fun a hf => ?_
                refine pl_gs (wanted_f hf rfl rfl rfl rfl rfl) hf rfl rfl fun a hf => ?_
                refine q_ hf rfl rfl rfl (e_pick_f hf rfl rfl rfl) fun a hf => ?_
                refine pl_nil ?_
                obtain rfl := some_inj h51
                refine then_n ?_
                exact ⟨false, rfl, hf.keep ⟨rfl, rfl, rfl, trivial⟩, hM.pick [0, 1] rfl⟩
            · rintro a w68 ⟨t48, rfl, hf, hM⟩
              try dsimp only at h41
              rcases cond_some h41 with ⟨hc69, h41⟩ | ⟨hc69, h41⟩
              · refine cond_t hf rfl hc69 ?_
                refine wp_seq ?_
                refine region_pl ?_
                refine q_ hf rfl rfl rfl (e_assign hf rfl) fun a hf => ?_
                refine pl_nil ?_
                refine then_n ?_
                refine wp_ret ?_
                refine blk_r ?_
                refine then_r ?_
                obtain rfl := some_inj h41
                obtain rfl := hd42 _ rfl
                try dsimp only at h34
                refine then_r ?_
                refine blk_r ?_
                obtain rfl := some_inj h34
                try dsimp only at h
                refine then_r ?_
                obtain rfl := some_inj h
                exact leave1 hf rfl rfl ⟨rfl, hM.fin⟩
              · refine cond_f hf rfl hc69 ?_
                refine wp_skip ?_
                refine blk_n ?_
                refine then_n ?_
                refine region_pl ?_
                refine q_ hf rfl rfl rfl (e_move hf rfl) fun a hf => ?_
                obtain ⟨z70, hz71, h41⟩ := bind_some h41
                refine q_ hf rfl rfl rfl (e_add hf rfl rfl hz71) fun a hf => ?_
                refine q_ hf rfl rfl rfl (e_assign hf rfl) fun a hf => ?_
                refine pl_nil ?_
                obtain rfl := some_inj h41
                refine then_n ⟨_, rfl, ?_⟩
                exact ⟨z70, rfl, hf.keep ⟨rfl, rfl, trivial⟩, hM.pick [1] rfl, (chk_R hz71)⟩
          · refine cond_f hf rfl hc47 ?_
            refine wp_exit ?_
            refine then_x ?_
            obtain rfl := some_inj h41
            obtain rfl := hd42 _ rfl
            try dsimp only at h34
            refine then_x ?_
            refine exit_hit ?_
            obtain rfl := some_inj h34
            refine then_n ?_
            exact ⟨rfl, hf.keep trivial, hM.pick [1] rfl⟩
      · rintro a w78 ⟨rfl, hf, hM⟩
        try dsimp only at h
        refine wp_seq ?_
        refine region_pl ?_
        refine q_ hf rfl rfl rfl (e_assign hf rfl) fun a hf => ?_
        refine pl_nil ?_
        refine then_n ?_
        refine wp_ret ?_
        obtain rfl := some_inj h
        exact leave1 hf rfl rfl ⟨rfl, hM.fin⟩

set_option maxRecDepth 100000 in
set_option maxHeartbeats 4000000 in
theorem r_spec_ReadGrid (C : Cx) (s1 : Str) (hp2 : s1.length ≤ maxLen) (r : (Grid × Bool)) (h : m_spec_ReadGrid s1 = some r) :
    Calls Tryd.prog 4 #[vS (s1)] C.w0 fun e w => e = .returned (.tuple #[.agg #[vI (r.1.Rows), vI (r.1.Cols), vS (r.1.Cells)], .bool (r.2)]) ∧ Mem C w [] [] ∧ R64 r.1.Rows ∧ R64 r.1.Cols ∧ r.1.Cells.length ≤ maxLen := by
  have hM := Mem.begin C [] trivial
  refine enter Tryd.func4 rfl Tryd.ntmps4 rfl fun a hf => ?_
  unfold m_spec_ReadGrid at h
  refine wp_seq ?_
  refine region_pl ?_
  refine pl_l hf rfl rfl rfl (w_alloc hM (cs := [vI (0), vI (0), vS (([] : Str))]) Tryd.zeroValue23 rfl fun b3 w4 hx5 hM a hf => ?_)
  refine q_ hf rfl rfl rfl (e_assign hf rfl) fun a hf => ?_
  refine pl_nil ?_
  refine then_n ?_
  refine wp_seq ?_
  refine region_pl ?_
  refine q_ hf rfl rfl rfl (e_move hf rfl) fun a hf => ?_
  obtain ⟨y7, hz8, h⟩ := bind_some h
  refine pl_l hf rfl rfl rfl (w_call hf Tryd.call7 rfl (r_spec_l01Split ⟨_, Sh C _ _, none_, hM.sh_lt, none_not, C.G, hM.g_lt, g_none, hM.tabs⟩ s1 hp2 47 _ hz8) ?_)
  rintro _ w11 ⟨A9, c10, rfl, hM2⟩
  obtain ⟨hM, hx12, hup13⟩ := hM.back hM2
  dsimp only [List.cons_append, List.nil_append] at hM hup13
  clear hM2
  refine ⟨_, rfl, fun a hf => ?_⟩
  refine q_ hf rfl rfl rfl (e_assign hf rfl) fun a hf => ?_
  refine pl_nil ?_
  refine then_n ?_
  refine wp_seq ?_
  refine region_pl ?_
  refine q_ hf rfl rfl rfl (e_move hf rfl) fun a hf => ?_
  have hl14 := row_len (hM.ownAt (k := 0) rfl)
  refine q_ hf rfl rfl rfl (e_lenL hf (x := y7) rfl Tryd.underlying28) fun a hf => ?_
  refine q_ hf rfl rfl rfl (e_move hf rfl) fun a hf => ?_
  obtain ⟨e15, hz16, h⟩ := bind_some h
  obtain ⟨b21, _, hA22, h17, h18, hr19, hcell20⟩ := hM.rowElemN (k := 0) rfl (n := 1) rfl hz16
  obtain ⟨rfl, hv23⟩ := hr19
  refine q_ hf rfl rfl rfl (e_indexAddr (A := A9) (b := b21) (o := 0) (xs := y7) (i := 0) hf hA22 rfl rfl Tryd.underlying28 Tryd.sizeOf9 h17 h18) fun a hf => ?_
  refine q_ hf rfl rfl rfl (e_load1 hf rfl Tryd.isAgg9 (hcell20 0 _ rfl)) fun a hf => ?_
  refine q_ hf rfl rfl rfl (e_lenS hf (x := e15) rfl Tryd.underlying9) fun a hf => ?_
  refine q_ hf rfl rfl rfl (e_build hf Tryd.zeroValue23 Tryd.underlying23 (bp_23 _ Tryd.underlying23.symm) rfl (cs := #[vI ((y7.length : Int)), vI ((e15.length : Int)), vS (([] : Str))]) (by kernel_rfl)) fun a hf => ?_
  refine pl_l hf rfl rfl rfl (w_alloc hM (cs := [vI (0), vI (0), vS (([] : Str))]) Tryd.zeroValue23 rfl fun b24 w25 hx26 hM a hf => ?_)
  refine pl_0 hf rfl rfl (w_store hf hM (us := [vI ((y7.length : Int)), vI ((e15.length : Int)), vS (([] : Str))]) (cs' := [vI ((y7.length : Int)), vI ((e15.length : Int)), vS (([] : Str))]) rfl rfl (k := 0) rfl rfl Tryd.sizeOf23 rfl rfl rfl fun w28 hM => ?_)
  dsimp only [List.set] at hM
  refine pl_nil ?_
  refine then_n ?_
  obtain ⟨x33, h34, h⟩ := bind_some h
  refine seq_join (fun a w => ∃ (s31 : Str), (.inl s31) = x33 ∧ Has 45 a [(2, vP b3 (0)), (5, vP b24 (0))] ∧ Mem C w [.box b24 [vI ((y7.length : Int)), vI ((e15.length : Int)), vS (s31)] 23, .row strRep A9 c10 9 y7 true, .box b3 [vI (0), vI (0), vS (([] : Str))] 23] [] ∧ s31.length ≤ maxLen) ?_ ?_
  · refine wp_seq ?_
    refine region_pl ?_
    refine q_ hf rfl rfl rfl (e_assign hf rfl) fun a hf => ?_
    refine pl_nil ?_
    refine then_n ?_
    refine wp_block ?_
    obtain ⟨x42, h43, h34⟩ := bind_some h34
    refine wp_loopM h43 (fun s a w => ∃ (s35 : Str) (n37 : Int), (s35, n37) = s ∧ Has 45 a [(2, vP b3 (0)), (4, vL A9 (y7) c10), (5, vP b24 (0)), (6, vI (n37))] ∧ Mem C w [.box b24 [vI ((y7.length : Int)), vI ((e15.length : Int)), vS (s35)] 23, .row strRep A9 c10 9 y7 true, .box b3 [vI (0), vI (0), vS (([] : Str))] 23] [] ∧ s35.length ≤ maxLen ∧ R64 n37) ?_ ?_
    · exact ⟨([] : Str), 0, rfl, hf.keep ⟨rfl, rfl, rfl, rfl, trivial⟩, hM.pick [] rfl, (lit_len rfl), (R64_lit rfl)⟩
    · rintro s o44 a w39 ⟨s35, n37, rfl, hf, hM, hv36, hv38⟩ h45 hd46
      replace h45 : m_spec_ReadGrid_l1 y7 s35 n37 = some o44 := h45
      unfold m_spec_ReadGrid_l1 at h45
      refine wp_seq ?_
      refine wp_seq ?_
      refine region_pl ?_
      refine q_ hf rfl rfl rfl (e_move hf rfl) fun a hf => ?_
      refine q_ hf rfl rfl rfl (e_move hf rfl) fun a hf => ?_
      have hl47 := row_len (hM.ownAt (k := 1) rfl)
      refine q_ hf rfl rfl rfl (e_lenL hf (x := y7) rfl Tryd.underlying28) fun a hf => ?_
      refine q_ hf rfl rfl rfl (e_lt hf (x := n37) (y := (y7.length : Int)) rfl rfl) fun a hf => ?_
      refine pl_nil ?_
      refine then_n ?_
      rcases cond_some h45 with ⟨hc48, h45⟩ | ⟨hc48, h45⟩
      · refine cond_t hf rfl hc48 ?_
        refine wp_skip ?_
        refine then_n ?_
        refine wp_seq ?_
        refine wp_block ?_
        refine wp_seq ?_
        refine wp_seq ?_
        obtain ⟨w49, hw⟩ : ∃ x, x = w39.drew := ⟨_, rfl⟩
        refine region_pi (.q 0 (.q 1 (.q 2 (.q 3 (.q 4 (.q 5 (.q 6 (.q 7 (.q 8 (.q 9 (.nil))))))))))) (Ext w49) rfl (by kernel_rfl) ?_
        have hM := hM.drew
        rw [← hw] at hM ⊢
        clear hw
        refine pi_q hf rfl rfl rfl rfl (Ext.refl _) (e_move hf rfl) fun a hf => ?_
        refine pi_q hf rfl rfl rfl rfl (Ext.refl _) (e_move hf rfl) fun a hf => ?_
        obtain ⟨e50, hz51, h45⟩ := bind_some h45
        obtain ⟨b56, _, hA57, h52, h53, hr54, hcell55⟩ := hM.rowElemN (k := 1) rfl (n := 1) rfl hz51
        obtain ⟨rfl, hv58⟩ := hr54
        refine pi_q hf rfl rfl rfl rfl (Ext.refl _) (e_indexAddr (A := A9) (b := b56) (o := 0) (xs := y7) (i := n37) hf hA57 rfl rfl Tryd.underlying28 Tryd.sizeOf9 h52 h53) fun a hf => ?_
        refine pi_q hf rfl rfl rfl rfl (Ext.refl _) (e_load1 hf rfl Tryd.isAgg9 (hcell55 0 _ rfl)) fun a hf => ?_
        refine pi_q hf rfl rfl rfl rfl (Ext.refl _) (e_lenS hf (x := e50) rfl Tryd.underlying9) fun a hf => ?_
        refine pi_q hf rfl rfl rfl rfl (Ext.refl _) (e_move hf rfl) fun a hf => ?_
        obtain ⟨e59, hz60, h45⟩ := bind_some h45
        obtain ⟨b65, _, hA66, h61, h62, hr63, hcell64⟩ := hM.rowElemN (k := 1) rfl (n := 1) rfl hz60
        obtain ⟨rfl, hv67⟩ := hr63
        refine pi_q hf rfl rfl rfl rfl (Ext.refl _) (e_indexAddr (A := A9) (b := b65) (o := 0) (xs := y7) (i := 0) hf hA66 rfl rfl Tryd.underlying28 Tryd.sizeOf9 h61 h62) fun a hf => ?_
        refine pi_q hf rfl rfl rfl rfl (Ext.refl _) (e_load1 hf rfl Tryd.isAgg9 (hcell64 0 _ rfl)) fun a hf => ?_
        refine pi_q hf rfl rfl rfl rfl (Ext.refl _) (e_lenS hf (x := e59) rfl Tryd.underlying9) fun a hf => ?_
        refine pi_q hf rfl rfl rfl rfl (Ext.refl _) (e_ne hf (x := (e50.length : Int)) (y := (e59.length : Int)) rfl rfl) fun a hf => ?_
        refine pi_nil ?_
        refine then_n ?_
        rcases cond_some h45 with ⟨hc68, h45⟩ | ⟨hc68, h45⟩
        · refine cond_t hf rfl hc68 ?_
          refine wp_seq ?_
          refine region_pl ?_
          refine q_ hf rfl rfl rfl (e_build hf Tryd.zeroValue23 Tryd.underlying23 (bp_23 _ Tryd.underlying23.symm) rfl (cs := #[vI (0), vI (0), vS (([] : Str))]) (by kernel_rfl)) fun a hf => ?_
          refine pl_0 hf rfl rfl (w_store hf hM (us := [vI (0), vI (0), vS (([] : Str))]) (cs' := [vI (0), vI (0), vS (([] : Str))]) rfl rfl (k := 2) rfl rfl Tryd.sizeOf23 rfl rfl rfl fun w69 hM => ?_)
          dsimp only [List.set] at hM
          refine q_ hf rfl rfl rfl (e_assign hf rfl) fun a hf => ?_
          refine pl_nil ?_
          refine then_n ?_
          refine wp_ret ?_
          refine then_r ?_
          refine blk_r ?_
          refine then_r ?_
          obtain rfl := some_inj h45
          obtain rfl := hd46 _ rfl
          try dsimp only at h34
          refine then_r ?_
          refine blk_r ?_
          obtain rfl := some_inj h34
          try dsimp only at h
          refine then_r ?_
          obtain rfl := some_inj h
          have hres74 := leaveV2 (P := Tryd.prog) Tryd.results4 (res_agg hf rfl ⟨Tryd.isAgg23, Tryd.sizeOf23⟩ (us := [vI (0), vI (0), vS (([] : Str))]) rfl (hM.boxSub (k := 2) (o := 0) rfl rfl)) (res_tmp hf rfl)
          have hM := hM.outs (own' := []) 0 rfl
          exact bodyPost_ret hres74 hf.defers ⟨rfl, hM.fin, (R64_lit rfl), (R64_lit rfl), (lit_len rfl)⟩
        · refine cond_f hf rfl hc68 ?_
          refine wp_skip ?_
          refine then_n ?_
          obtain ⟨w75, hw⟩ : ∃ x, x = w49.drew := ⟨_, rfl⟩
          refine region_pi (.q 0 (.q 1 (.q 2 (.q 3 (.q 4 (.q 5 (.q 6 (.q 7 (.l 8 (.nil)))))))))) (Ext w75) rfl (by kernel_rfl) ?_
          have hM := hM.drew
          rw [← hw] at hM ⊢
          clear hw
          refine pi_q hf rfl rfl rfl rfl (Ext.refl _) (e_field hf rfl Tryd.underlying23 rfl Tryd.sizeOf9 (o' := 2) rfl) fun a hf => ?_
          refine pi_q hf rfl rfl rfl rfl (Ext.refl _) (e_load1 hf rfl Tryd.isAgg9 (hM.boxCell (k := 0) rfl rfl)) fun a hf => ?_
          refine pi_q hf rfl rfl rfl rfl (Ext.refl _) (e_move hf rfl) fun a hf => ?_
          refine pi_q hf rfl rfl rfl rfl (Ext.refl _) (e_move hf rfl) fun a hf => ?_
          obtain ⟨e76, hz77, h45⟩ := bind_some h45
          obtain ⟨b82, _, hA83, h78, h79, hr80, hcell81⟩ := hM.rowElemN (k := 1) rfl (n := 1) rfl hz77
          obtain ⟨rfl, hv84⟩ := hr80
          refine pi_q hf rfl rfl rfl rfl (Ext.refl _) (e_indexAddr (A := A9) (b := b82) (o := 0) (xs := y7) (i := n37) hf hA83 rfl rfl Tryd.underlying28 Tryd.sizeOf9 h78 h79) fun a hf => ?_
          refine pi_q hf rfl rfl rfl rfl (Ext.refl _) (e_load1 hf rfl Tryd.isAgg9 (hcell81 0 _ rfl)) fun a hf => ?_
          obtain ⟨s85, hz86, h45⟩ := bind_some h45
          refine pi_q hf rfl rfl rfl rfl (Ext.refl _) (e_cat hf (x := s35) (y := e76) rfl rfl hz86) fun a hf => ?_
          refine pi_q hf rfl rfl rfl rfl (Ext.refl _) (e_field hf rfl Tryd.underlying23 rfl Tryd.sizeOf9 (o' := 2) rfl) fun a hf => ?_
          refine pi_one ?_
          refine pi_z0 hf rfl rfl rfl (by kernel_rfl) (w_store hf hM (us := [vS (s85)]) (cs' := [vI ((y7.length : Int)), vI ((e15.length : Int)), vS (s85)]) rfl rfl (k := 0) rfl rfl Tryd.sizeOf9 rfl rfl rfl fun w87 hM => ?_)
          dsimp only [List.set] at hM
          refine pi_nil ?_
          refine blk_n ?_
          refine then_n ?_
          refine region_pl ?_
          refine q_ hf rfl rfl rfl (e_move hf rfl) fun a hf => ?_
          obtain ⟨z90, hz91, h45⟩ := bind_some h45
          refine q_ hf rfl rfl rfl (e_add hf rfl rfl hz91) fun a hf => ?_
          refine q_ hf rfl rfl rfl (e_assign hf rfl) fun a hf => ?_
          refine pl_nil ?_
          obtain rfl := some_inj h45
          refine then_n ⟨_, rfl, ?_⟩
          exact ⟨s85, z90, rfl, hf.keep ⟨rfl, rfl, rfl, rfl, trivial⟩, hM.pick [] rfl, (cat_len hz86), (chk_R hz91)⟩
      · refine cond_f hf rfl hc48 ?_
        refine wp_exit ?_
        refine then_x ?_
        obtain rfl := some_inj h45
        obtain rfl := hd46 _ rfl
        try dsimp only at h34
        refine then_x ?_
        refine exit_hit ?_
        obtain rfl := some_inj h34
        refine then_n ?_
        exact ⟨s35, rfl, hf.keep ⟨rfl, rfl, trivial⟩, hM.pick [] rfl, hv36⟩
  · rintro a w98 ⟨s31, rfl, hf, hM, hv32⟩
    try dsimp only at h
    refine wp_seq ?_
    refine wp_seq ?_
    refine region_pl ?_
    obtain ⟨y99, hz100, h⟩ := bind_some h
    refine pl_l hf rfl rfl rfl (w_call hf Tryd.call8 rfl (r_spec_l25Ok ⟨_, All C _ _, none_, hM.all_lt, none_not, C.G, hM.g_lt, g_none, hM.tabs⟩ (⟨(y7.length : Int), (e15.length : Int), s31⟩ : Grid) _ _ (hM.lendBox (k := 0) rfl (GridRep_mk (x := (⟨(y7.length : Int), (e15.length : Int), s31⟩ : Grid)) (R64_len hl14) (R64_len hv23) hv32)) _ hz100) ?_)
    rintro _ w101 ⟨rfl, hM2⟩
    obtain ⟨hM, hx102⟩ := hM.backA hM2
    clear hM2
    refine ⟨_, rfl, fun a hf => ?_⟩
    refine q_ hf rfl rfl rfl (e_not hf rfl) fun a hf => ?_
    refine pl_nil ?_
    refine then_n ?_
    rcases cond_some h with ⟨hc104, h⟩ | ⟨hc104, h⟩
    · refine cond_t hf rfl hc104 ?_
      refine wp_seq ?_
      refine region_pl ?_
      refine q_ hf rfl rfl rfl (e_build hf Tryd.zeroValue23 Tryd.underlying23 (bp_23 _ Tryd.underlying23.symm) rfl (cs := #[vI (0), vI (0), vS (([] : Str))]) (by kernel_rfl)) fun a hf => ?_
      refine pl_0 hf rfl rfl (w_store hf hM (us := [vI (0), vI (0), vS (([] : Str))]) (cs' := [vI (0), vI (0), vS (([] : Str))]) rfl rfl (k := 2) rfl rfl Tryd.sizeOf23 rfl rfl rfl fun w105 hM => ?_)
      dsimp only [List.set] at hM
      refine q_ hf rfl rfl rfl (e_assign hf rfl) fun a hf => ?_
      refine pl_nil ?_
      refine then_n ?_
      refine wp_ret ?_
      refine then_r ?_
      obtain rfl := some_inj h
      have hres108 := leaveV2 (P := Tryd.prog) Tryd.results4 (res_agg hf rfl ⟨Tryd.isAgg23, Tryd.sizeOf23⟩ (us := [vI (0), vI (0), vS (([] : Str))]) rfl (hM.boxSub (k := 2) (o := 0) rfl rfl)) (res_tmp hf rfl)
      have hM := hM.outs (own' := []) 0 rfl
      exact bodyPost_ret hres108 hf.defers ⟨rfl, hM.fin, (R64_lit rfl), (R64_lit rfl), (lit_len rfl)⟩
    · refine cond_f hf rfl hc104 ?_
      refine wp_skip ?_
      refine then_n ?_
      refine wp_seq ?_
      refine region_pl ?_
      refine q_ hf rfl rfl rfl (e_loadA hf (us := [vI ((y7.length : Int)), vI ((e15.length : Int)), vS (s31)]) rfl ⟨Tryd.isAgg23, Tryd.sizeOf23⟩ rfl (hM.boxSub (k := 0) (us := [vI ((y7.length : Int)), vI ((e15.length : Int)), vS (s31)]) (o := 0) rfl rfl)) fun a hf => ?_
      refine pl_0 hf rfl rfl (w_store hf hM (us := [vI ((y7.length : Int)), vI ((e15.length : Int)), vS (s31)]) (cs' := [vI ((y7.length : Int)), vI ((e15.length : Int)), vS (s31)]) rfl rfl (k := 2) rfl rfl Tryd.sizeOf23 rfl rfl rfl fun w109 hM => ?_)
      dsimp only [List.set] at hM
      refine q_ hf rfl rfl rfl (e_assign hf rfl) fun a hf => ?_
      refine pl_nil ?_
      refine then_n ?_
      refine wp_ret ?_
      obtain rfl := some_inj h
      have hres112 := leaveV2 (P := Tryd.prog) Tryd.results4 (res_agg hf rfl ⟨Tryd.isAgg23, Tryd.sizeOf23⟩ (us := [vI ((y7.length : Int)), vI ((e15.length : Int)), vS (s31)]) rfl (hM.boxSub (k := 2) (o := 0) rfl rfl)) (res_tmp hf rfl)
      have hM := hM.outs (own' := []) 0 rfl
      exact bodyPost_ret hres112 hf.defers ⟨rfl, hM.fin, (R64_len hl14), (R64_len hv23), hv32⟩

set_option maxRecDepth 100000 in
set_option maxHeartbeats 4000000 in
theorem r_impl_within (C : Cx) (x1 : Int) (hp2 : R64 x1) (low3 : Int) (hp4 : R64 low3) (high5 : Int) (hp6 : R64 high5) (r : Bool) (h : m_impl_within x1 low3 high5 = some r) :
    Calls Tryd.prog 19 #[vI (x1), vI (low3), vI (high5)] C.w0 fun e w => e = .returned (.bool (r)) ∧ Mem C w [] [] := by
  have hM := Mem.begin C [] trivial
  refine enter Tryd.func19 rfl Tryd.ntmps19 rfl fun a hf => ?_
  unfold m_impl_within at h
  refine wp_seq ?_
  refine region_pl ?_
  refine q_ hf rfl rfl rfl (e_assign hf rfl) fun a hf => ?_
  refine pl_nil ?_
  refine then_n ?_
  obtain ⟨x9, h10, h⟩ := bind_some h
  refine seq_join (fun a w => ∃ (t7 : Bool), t7 = x9 ∧ Has 15 a [(6, .bool (t7))] ∧ Mem C w [] []) ?_ ?_
  · refine region_pl ?_
    refine q_ hf rfl rfl rfl (e_move hf rfl) fun a hf => ?_
    refine q_ hf rfl rfl rfl (e_move hf rfl) fun a hf => ?_
    refine q_ hf rfl rfl rfl (e_le hf (x := low3) (y := x1) rfl rfl) fun a hf => ?_
    refine q_ hf rfl rfl rfl (e_move hf rfl) fun a hf => ?_
    rcases cond_some h10 with ⟨hc11, h10⟩ | ⟨hc11, h10⟩
    · refine gq (wanted_t hf rfl rfl rfl rfl hc11) hf rfl rfl (e_move hf rfl) fun a hf => ?_
      refine gq (wanted_t hf rfl rfl rfl rfl hc11) hf rfl rfl (e_move hf rfl) fun a hf => ?_
      refine gq (wanted_t hf rfl rfl rfl rfl hc11) hf rfl rfl (e_le hf (x := x1) (y := high5) rfl rfl) fun a hf => ?_
      refine q_ hf rfl rfl rfl (e_pick_t hf rfl hc11 rfl) fun a hf => ?_
      refine q_ hf rfl rfl rfl (e_assign hf rfl) fun a hf => ?_
      refine pl_nil ?_
      obtain rfl := some_inj h10
      refine then_n ?_
      exact ⟨(decide (x1 ≤ high5)), rfl, hf.keep ⟨rfl, trivial⟩, hM.pick [] rfl⟩
    · refine pl_gs (wanted_f hf rfl rfl rfl rfl hc11) hf rfl rfl fun a hf => ?_
      refine pl_gs (wanted_f hf rfl rfl rfl rfl hc11) hf rfl rfl fun a hf => ?_
      refine pl_gs (wanted_f hf rfl rfl rfl rfl hc11) hf rfl rfl fun a hf => ?_
      refine q_ hf rfl rfl rfl (e_pick_f hf rfl hc11 rfl) fun a hf => ?_
      refine q_ hf rfl rfl rfl (e_assign hf rfl) fun a hf => ?_
      refine pl_nil ?_
      obtain rfl := some_inj h10
      refine then_n ?_
      exact ⟨false, rfl, hf.keep ⟨rfl, trivial⟩, hM.pick [] rfl⟩
  · rintro a w14 ⟨t7, rfl, hf, hM⟩
    try dsimp only at h
    refine wp_ret ?_
    obtain rfl := some_inj h
    exact leave1 hf rfl rfl ⟨rfl, hM.fin⟩

set_option maxRecDepth 100000 in
set_option maxHeartbeats 4000000 in
theorem r_impl_allBytes (C : Cx) (s1 : Str) (hp2 : s1.length ≤ maxLen) (is3 : (UInt8 → Option Bool)) (fk4 : FuncId) (fc5 : List Value) (hfn6 : FnOk Tryd.prog C fk4 (FnC_UInt8_to_Bool fk4 fc5 is3)) (r : Bool) (h : m_impl_allBytes s1 is3 = some r) :
    Calls Tryd.prog 20 #[vS (s1), .func (.func fk4) #[] fc5.toArray] C.w0 fun e w => e = .returned (.bool (r)) ∧ Mem C w [] [] := by
  have hM := Mem.begin C [] trivial
  refine enter Tryd.func20 rfl Tryd.ntmps20 rfl fun a hf => ?_
  unfold m_impl_allBytes at h
  refine wp_seq ?_
  refine region_pl ?_
  refine q_ hf rfl rfl rfl (e_assign hf rfl) fun a hf => ?_
  refine pl_nil ?_
  refine then_n ?_
  obtain ⟨x7, h8, h⟩ := bind_some h
  refine seq_join (fun a w => (.inl ()) = x7 ∧ Has 18 a [] ∧ Mem C w [] []) ?_ ?_
  · refine wp_seq ?_
    refine region_pl ?_
    refine q_ hf rfl rfl rfl (e_assign hf rfl) fun a hf => ?_
    refine pl_nil ?_
    refine then_n ?_
    refine wp_block ?_
    obtain ⟨x12, h13, h8⟩ := bind_some h8
    refine wp_loopM h13 (fun s a w => ∃ (n9 : Int), n9 = s ∧ Has 18 a [(0, vS (s1)), (1, .func (.func fk4) #[] fc5.toArray), (5, vI (n9))] ∧ Mem C w [] [] ∧ R64 n9) ?_ ?_
    · exact ⟨0, rfl, hf.keep ⟨rfl, rfl, rfl, trivial⟩, hM.pick [] rfl, (R64_lit rfl)⟩
    · rintro s o14 a w11 ⟨n9, rfl, hf, hM, hv10⟩ h15 hd16
      replace h15 : m_impl_allBytes_l1 s1 is3 n9 = some o14 := h15
      unfold m_impl_allBytes_l1 at h15
      refine wp_seq ?_
      refine wp_seq ?_
      refine region_pl ?_
      refine q_ hf rfl rfl rfl (e_move hf rfl) fun a hf => ?_
      refine q_ hf rfl rfl rfl (e_move hf rfl) fun a hf => ?_
      refine q_ hf rfl rfl rfl (e_lenS hf (x := s1) rfl Tryd.underlying9) fun a hf => ?_
      refine q_ hf rfl rfl rfl (e_lt hf (x := n9) (y := (s1.length : Int)) rfl rfl) fun a hf => ?_
      refine pl_nil ?_
      refine then_n ?_
      rcases cond_some h15 with ⟨hc17, h15⟩ | ⟨hc17, h15⟩
      · refine cond_t hf rfl hc17 ?_
        refine wp_skip ?_
        refine then_n ?_
        refine wp_seq ?_
        refine wp_block ?_
        refine wp_seq ?_
        refine region_pl ?_
        refine q_ hf rfl rfl rfl (e_move hf rfl) fun a hf => ?_
        refine q_ hf rfl rfl rfl (e_move hf rfl) fun a hf => ?_
        refine q_ hf rfl rfl rfl (e_move hf rfl) fun a hf => ?_
        obtain ⟨c18, hz19, h15⟩ := bind_some h15
        refine q_ hf rfl rfl rfl (e_indexS hf (x := s1) rfl rfl Tryd.underlying9 hz19) fun a hf => ?_
        obtain ⟨y20, hz21, h15⟩ := bind_some h15
        refine pl_l hf rfl rfl rfl (w_callV hf rfl hfn6.1 rfl (hfn6.2 ⟨_, Sh C _ _, none_, hM.sh_lt, none_not, C.G, hM.g_lt, g_none, hM.tabs⟩ hM.sameS hM.s0sh c18 _ hz21) ?_)
        rintro _ w22 ⟨rfl, hM2⟩
        obtain ⟨hM, hx23, hup24⟩ := hM.back hM2
        dsimp only [List.cons_append, List.nil_append] at hM hup24
        clear hM2
        refine ⟨_, rfl, fun a hf => ?_⟩
        refine q_ hf rfl rfl rfl (e_not hf rfl) fun a hf => ?_
        refine pl_nil ?_
        refine then_n ?_
        rcases cond_some h15 with ⟨hc25, h15⟩ | ⟨hc25, h15⟩
        · refine cond_t hf rfl hc25 ?_
          refine wp_seq ?_
          refine region_pl ?_
          refine q_ hf rfl rfl rfl (e_assign hf rfl) fun a hf => ?_
          refine pl_nil ?_
          refine then_n ?_
          refine wp_ret ?_
          refine blk_r ?_
          refine then_r ?_
          obtain rfl := some_inj h15
          obtain rfl := hd16 _ rfl
          try dsimp only at h8
          refine then_r ?_
          refine blk_r ?_
          obtain rfl := some_inj h8
          try dsimp only at h
          refine then_r ?_
          obtain rfl := some_inj h
          exact leave1 hf rfl rfl ⟨rfl, hM.fin⟩
        · refine cond_f hf rfl hc25 ?_
          refine wp_skip ?_
          refine blk_n ?_
          refine then_n ?_
          refine region_pl ?_
          refine q_ hf rfl rfl rfl (e_move hf rfl) fun a hf => ?_
          obtain ⟨z26, hz27, h15⟩ := bind_some h15
          refine q_ hf rfl rfl rfl (e_add hf rfl rfl hz27) fun a hf => ?_
          refine q_ hf rfl rfl rfl (e_assign hf rfl) fun a hf => ?_
          refine pl_nil ?_
          obtain rfl := some_inj h15
          refine then_n ⟨_, rfl, ?_⟩
          exact ⟨z26, rfl, hf.keep ⟨rfl, rfl, rfl, trivial⟩, hM.pick [] rfl, (chk_R hz27)⟩
      · refine cond_f hf rfl hc17 ?_
        refine wp_exit ?_
        refine then_x ?_
        obtain rfl := some_inj h15
        obtain rfl := hd16 _ rfl
        try dsimp only at h8
        refine then_x ?_
        refine exit_hit ?_
        obtain rfl := some_inj h8
        refine then_n ?_
        exact ⟨rfl, hf.keep trivial, hM.pick [] rfl⟩
  · rintro a w34 ⟨rfl, hf, hM⟩
    try dsimp only at h
    refine wp_seq ?_
    refine region_pl ?_
    refine q_ hf rfl rfl rfl (e_assign hf rfl) fun a hf => ?_
    refine pl_nil ?_
    refine then_n ?_
    refine wp_ret ?_
    obtain rfl := some_inj h
    exact leave1 hf rfl rfl ⟨rfl, hM.fin⟩

set_option maxRecDepth 100000 in
set_option maxHeartbeats 4000000 in
theorem r_impl_small (C : Cx) (c1 : UInt8) (r : Bool) (h : m_impl_small c1 = some r) :
    Calls Tryd.prog 27 #[vB (c1)] C.w0 fun e w => e = .returned (.bool (r)) ∧ Mem C w [] [] := by
  have hM := Mem.begin C [] trivial
  refine enter Tryd.func27 rfl Tryd.ntmps27 rfl fun a hf => ?_
  unfold m_impl_small at h
  refine wp_seq ?_
  refine region_pl ?_
  refine q_ hf rfl rfl rfl (e_assign hf rfl) fun a hf => ?_
  refine pl_nil ?_
  refine then_n ?_
  obtain ⟨x4, h5, h⟩ := bind_some h
  refine seq_join (fun a w => ∃ (t2 : Bool), t2 = x4 ∧ Has 9 a [(2, .bool (t2))] ∧ Mem C w [] []) ?_ ?_
  · refine region_pl ?_
    refine q_ hf rfl rfl rfl (e_move hf rfl) fun a hf => ?_
    refine q_ hf rfl rfl rfl (e_leB hf (x := 97) (y := c1) rfl rfl) fun a hf => ?_
    refine q_ hf rfl rfl rfl (e_move hf rfl) fun a hf => ?_
    rcases cond_some h5 with ⟨hc6, h5⟩ | ⟨hc6, h5⟩
    · refine gq (wanted_t hf rfl rfl rfl rfl hc6) hf rfl rfl (e_move hf rfl) fun a hf => ?_
      refine gq (wanted_t hf rfl rfl rfl rfl hc6) hf rfl rfl (e_leB hf (x := c1) (y := 122) rfl rfl) fun a hf => ?_
      refine q_ hf rfl rfl rfl (e_pick_t hf rfl hc6 rfl) fun a hf => ?_
      refine q_ hf rfl rfl rfl (e_assign hf rfl) fun a hf => ?_
      refine pl_nil ?_
      obtain rfl := some_inj h5
      refine then_n ?_
      exact ⟨(decide (c1 ≤ 122)), rfl, hf.keep ⟨rfl, trivial⟩, hM.pick [] rfl⟩
    · refine pl_gs (wanted_f hf rfl rfl rfl rfl hc6) hf rfl rfl fun a hf => ?_
      refine pl_gs (wanted_f hf rfl rfl rfl rfl hc6) hf rfl rfl fun a hf => ?_
      refine q_ hf rfl rfl rfl (e_pick_f hf rfl hc6 rfl) fun a hf => ?_
      refine q_ hf rfl rfl rfl (e_assign hf rfl) fun a hf => ?_
      refine pl_nil ?_
      obtain rfl := some_inj h5
      refine then_n ?_
      exact ⟨false, rfl, hf.keep ⟨rfl, trivial⟩, hM.pick [] rfl⟩
  · rintro a w9 ⟨t2, rfl, hf, hM⟩
    try dsimp only at h
    refine wp_ret ?_
    obtain rfl := some_inj h
    exact leave1 hf rfl rfl ⟨rfl, hM.fin⟩

set_option maxRecDepth 100000 in
set_option maxHeartbeats 4000000 in
theorem r_impl_gridByte (C : Cx) (c1 : UInt8) (r : Bool) (h : m_impl_gridByte c1 = some r) :
    Calls Tryd.prog 21 #[vB (c1)] C.w0 fun e w => e = .returned (.bool (r)) ∧ Mem C w [] [] := by
  have hM := Mem.begin C [] trivial
  refine enter Tryd.func21 rfl Tryd.ntmps21 rfl fun a hf => ?_
  unfold m_impl_gridByte at h
  refine wp_seq ?_
  refine region_pl ?_
  refine q_ hf rfl rfl rfl (e_assign hf rfl) fun a hf => ?_
  refine pl_nil ?_
  refine then_n ?_
  obtain ⟨x4, h5, h⟩ := bind_some h
  refine seq_join (fun a w => ∃ (t2 : Bool), t2 = x4 ∧ Has 13 a [(2, .bool (t2))] ∧ Mem C w [] []) ?_ ?_
  · refine region_pl ?_
    refine q_ hf rfl rfl rfl (e_move hf rfl) fun a hf => ?_
    refine q_ hf rfl rfl rfl (e_eqB hf (x := c1) (y := 35) rfl rfl) fun a hf => ?_
    refine q_ hf rfl rfl rfl (e_move hf rfl) fun a hf => ?_
    rcases cond_some h5 with ⟨hc6, h5⟩ | ⟨hc6, h5⟩
    · refine pl_gs (wanted_f hf rfl rfl rfl rfl hc6) hf rfl rfl fun a hf => ?_
      refine pl_gs (wanted_f hf rfl rfl rfl rfl hc6) hf rfl rfl fun a hf => ?_
      refine q_ hf rfl rfl rfl (e_pick_t hf rfl hc6 rfl) fun a hf => ?_
      refine q_ hf rfl rfl rfl (e_move hf rfl) fun a hf => ?_
      refine pl_gs (wanted_f hf rfl rfl rfl rfl rfl) hf rfl rfl fun a hf => ?_
      refine pl_gs (wanted_f hf rfl rfl rfl rfl rfl) hf rfl rfl fun a hf => ?_
      refine q_ hf rfl rfl rfl (e_pick_t hf rfl rfl rfl) fun a hf => ?_
      refine q_ hf rfl rfl rfl (e_assign hf rfl) fun a hf => ?_
      refine pl_nil ?_
      obtain rfl := some_inj h5
      refine then_n ?_
      exact ⟨true, rfl, hf.keep ⟨rfl, trivial⟩, hM.pick [] rfl⟩
    · refine gq (wanted_t hf rfl rfl rfl rfl hc6) hf rfl rfl (e_move hf rfl) fun a hf => ?_
      refine gq (wanted_t hf rfl rfl rfl rfl hc6) hf rfl rfl (e_eqB hf (x := c1) (y := 46) rfl rfl) fun a hf => ?_
      refine q_ hf rfl rfl rfl (e_pick_f hf rfl hc6 rfl) fun a hf => ?_
      refine q_ hf rfl rfl rfl (e_move hf rfl) fun a hf => ?_
      rcases cond_some h5 with ⟨hc8, h5⟩ | ⟨hc8, h5⟩
      · refine pl_gs (wanted_f hf rfl rfl rfl rfl hc8) hf rfl rfl fun a hf => ?_
        refine pl_gs (wanted_f hf rfl rfl rfl rfl hc8) hf rfl rfl fun a hf => ?_
        refine q_ hf rfl rfl rfl (e_pick_t hf rfl hc8 rfl) fun a hf => ?_
        refine q_ hf rfl rfl rfl (e_assign hf rfl) fun a hf => ?_
        refine pl_nil ?_
        obtain rfl := some_inj h5
        refine then_n ?_
        exact ⟨true, rfl, hf.keep ⟨rfl, trivial⟩, hM.pick [] rfl⟩
      · refine gq (wanted_t hf rfl rfl rfl rfl hc8) hf rfl rfl (e_move hf rfl) fun a hf => ?_
        obtain ⟨y10, hz11, h5⟩ := bind_some h5
        refine pl_gl (wanted_t hf rfl rfl rfl rfl hc8) hf rfl rfl (w_call hf Tryd.call27 rfl (r_impl_small ⟨_, Sh C _ _, none_, hM.sh_lt, none_not, C.G, hM.g_lt, g_none, hM.tabs⟩ c1 _ hz11) ?_)
        rintro _ w12 ⟨rfl, hM2⟩
        obtain ⟨hM, hx13, hup14⟩ := hM.back hM2
        dsimp only [List.cons_append, List.nil_append] at hM hup14
        clear hM2
        refine ⟨_, rfl, fun a hf => ?_⟩
        refine q_ hf rfl rfl rfl (e_pick_f hf rfl hc8 rfl) fun a hf => ?_
        refine q_ hf rfl rfl rfl (e_assign hf rfl) fun a hf => ?_
        refine pl_nil ?_
        obtain rfl := some_inj h5
        refine then_n ?_
        exact ⟨y10, rfl, hf.keep ⟨rfl, trivial⟩, hM.pick [] rfl⟩
  · rintro a w16 ⟨t2, rfl, hf, hM⟩
    try dsimp only at h
    refine wp_ret ?_
    obtain rfl := some_inj h
    exact leave1 hf rfl rfl ⟨rfl, hM.fin⟩

set_option maxRecDepth 100000 in
set_option maxHeartbeats 4000000 in
theorem r_impl_ValidGrid (C : Cx) (g1 : Grid) (hp2 : R64 g1.Rows) (hp3 : R64 g1.Cols) (hp4 : g1.Cells.length ≤ maxLen) (r : Bool) (h : m_impl_ValidGrid g1 = some r) :
    Calls Tryd.prog 11 #[.agg #[vI (g1.Rows), vI (g1.Cols), vS (g1.Cells)]] C.w0 fun e w => e = .returned (.bool (r)) ∧ Mem C w [] [] := by
  have hM := Mem.begin C [] trivial
  refine enter Tryd.func11 rfl Tryd.ntmps11 rfl fun a hf => ?_
  unfold m_impl_ValidGrid at h
  refine wp_seq ?_
  refine region_pl ?_
  refine pl_l hf rfl rfl rfl (w_box hf hM (cs := [vI (g1.Rows), vI (g1.Cols), vS (g1.Cells)]) rfl rfl fun b5 w6 hx7 hM a hf => ?_)
  refine q_ hf rfl rfl rfl (e_assign hf rfl) fun a hf => ?_
  refine pl_nil ?_
  refine then_n ?_
  obtain ⟨x11, h12, h⟩ := bind_some h
  refine seq_join (fun a w => ∃ (t9 : Bool), t9 = x11 ∧ Has 27 a [(2, .bool (t9))] ∧ Mem C w [.box b5 [vI (g1.Rows), vI (g1.Cols), vS (g1.Cells)] 23] []) ?_ ?_
  · refine region_pl ?_
    refine q_ hf rfl rfl rfl (e_field hf rfl Tryd.underlying23 rfl Tryd.sizeOf2 (o' := 0) rfl) fun a hf => ?_
    refine q_ hf rfl rfl rfl (e_load1 hf rfl Tryd.isAgg2 (hM.boxCell (k := 0) rfl rfl)) fun a hf => ?_
    obtain ⟨y13, hz14, h12⟩ := bind_some h12
    refine pl_l hf rfl rfl rfl (w_call hf Tryd.call19 rfl (r_impl_within ⟨_, Sh C _ _, none_, hM.sh_lt, none_not, C.G, hM.g_lt, g_none, hM.tabs⟩ g1.Rows hp2 1 (R64_lit rfl) 5 (R64_lit rfl) _ hz14) ?_)
    rintro _ w15 ⟨rfl, hM2⟩
    obtain ⟨hM, hx16, hup17⟩ := hM.back hM2
    dsimp only [List.cons_append, List.nil_append] at hM hup17
    clear hM2
    refine ⟨_, rfl, fun a hf => ?_⟩
    refine q_ hf rfl rfl rfl (e_move hf rfl) fun a hf => ?_
    rcases cond_some h12 with ⟨hc18, h12⟩ | ⟨hc18, h12⟩
    · refine gq (wanted_t hf rfl rfl rfl rfl hc18) hf rfl rfl (e_field hf rfl Tryd.underlying23 rfl Tryd.sizeOf2 (o' := 1) rfl) fun a hf => ?_
      refine gq (wanted_t hf rfl rfl rfl rfl hc18) hf rfl rfl (e_load1 hf rfl Tryd.isAgg2 (hM.boxCell (k := 0) rfl rfl)) fun a hf => ?_
      obtain ⟨y19, hz20, h12⟩ := bind_some h12
      refine pl_gl (wanted_t hf rfl rfl rfl rfl hc18) hf rfl rfl (w_call hf Tryd.call19 rfl (r_impl_within ⟨_, Sh C _ _, none_, hM.sh_lt, none_not, C.G, hM.g_lt, g_none, hM.tabs⟩ g1.Cols hp3 1 (R64_lit rfl) 5 (R64_lit rfl) _ hz20) ?_)
      rintro _ w21 ⟨rfl, hM2⟩
      obtain ⟨hM, hx22, hup23⟩ := hM.back hM2
      dsimp only [List.cons_append, List.nil_append] at hM hup23
      clear hM2
      refine ⟨_, rfl, fun a hf => ?_⟩
      refine q_ hf rfl rfl rfl (e_pick_t hf rfl hc18 rfl) fun a hf => ?_
      refine q_ hf rfl rfl rfl (e_move hf rfl) fun a hf => ?_
      rcases cond_some h12 with ⟨hc24, h12⟩ | ⟨hc24, h12⟩
      · refine gq (wanted_t hf rfl rfl rfl rfl hc24) hf rfl rfl (e_field hf rfl Tryd.underlying23 rfl Tryd.sizeOf9 (o' := 2) rfl) fun a hf => ?_
        refine gq (wanted_t hf rfl rfl rfl rfl hc24) hf rfl rfl (e_load1 hf rfl Tryd.isAgg9 (hM.boxCell (k := 0) rfl rfl)) fun a hf => ?_
        refine gq (wanted_t hf rfl rfl rfl rfl hc24) hf rfl rfl (e_lenS hf (x := g1.Cells) rfl Tryd.underlying9) fun a hf => ?_
        refine gq (wanted_t hf rfl rfl rfl rfl hc24) hf rfl rfl (e_field hf rfl Tryd.underlying23 rfl Tryd.sizeOf2 (o' := 0) rfl) fun a hf => ?_
        refine gq (wanted_t hf rfl rfl rfl rfl hc24) hf rfl rfl (e_load1 hf rfl Tryd.isAgg2 (hM.boxCell (k := 0) rfl rfl)) fun a hf => ?_
        refine gq (wanted_t hf rfl rfl rfl rfl hc24) hf rfl rfl (e_field hf rfl Tryd.underlying23 rfl Tryd.sizeOf2 (o' := 1) rfl) fun a hf => ?_
        refine gq (wanted_t hf rfl rfl rfl rfl hc24) hf rfl rfl (e_load1 hf rfl Tryd.isAgg2 (hM.boxCell (k := 0) rfl rfl)) fun a hf => ?_
        obtain ⟨z25, hz26, h12⟩ := bind_some h12
        refine gq (wanted_t hf rfl rfl rfl rfl hc24) hf rfl rfl (e_mul hf rfl rfl hz26) fun a hf => ?_
        refine gq (wanted_t hf rfl rfl rfl rfl hc24) hf rfl rfl (e_eq hf (x := (g1.Cells.length : Int)) (y := z25) rfl rfl) fun a hf => ?_
        refine q_ hf rfl rfl rfl (e_pick_t hf rfl hc24 rfl) fun a hf => ?_
        refine q_ hf rfl rfl rfl (e_move hf rfl) fun a hf => ?_
        rcases cond_some h12 with ⟨hc27, h12⟩ | ⟨hc27, h12⟩
        · refine gq (wanted_t hf rfl rfl rfl rfl hc27) hf rfl rfl (e_field hf rfl Tryd.underlying23 rfl Tryd.sizeOf9 (o' := 2) rfl) fun a hf => ?_
          refine gq (wanted_t hf rfl rfl rfl rfl hc27) hf rfl rfl (e_load1 hf rfl Tryd.isAgg9 (hM.boxCell (k := 0) rfl rfl)) fun a hf => ?_
          obtain ⟨y28, hz29, h12⟩ := bind_some h12
          refine pl_gl (wanted_t hf rfl rfl rfl rfl hc27) hf rfl rfl (w_call hf Tryd.call20 rfl (r_impl_allBytes ⟨_, Sh C _ _, none_, hM.sh_lt, none_not, C.G, hM.g_lt, g_none, hM.tabs⟩ g1.Cells hp4 m_impl_gridByte 21 [] ⟨Tryd.call21, fun C1 _ _ => r_impl_gridByte C1⟩ _ hz29) ?_)
          rintro _ w30 ⟨rfl, hM2⟩
          obtain ⟨hM, hx31, hup32⟩ := hM.back hM2
          dsimp only [List.cons_append, List.nil_append] at hM hup32
          clear hM2
          refine ⟨_, rfl, fun a hf => ?_⟩
          refine q_ hf rfl rfl rfl (e_pick_t hf rfl hc27 rfl) fun a hf => ?_
          refine q_ hf rfl rfl rfl (e_assign hf rfl) fun a hf => ?_
          refine pl_nil ?_
          obtain rfl := some_inj h12
          refine then_n ?_
          exact ⟨y28, rfl, hf.keep ⟨rfl, trivial⟩, hM.pick [] rfl⟩
        · refine pl_gs (wanted_f hf rfl rfl rfl rfl hc27) hf rfl rfl fun a hf => ?_
          refine pl_gs (wanted_f hf rfl rfl rfl rfl hc27) hf rfl rfl fun a hf => ?_
          refine pl_gs (wanted_f hf rfl rfl rfl rfl hc27) hf rfl rfl fun a hf => ?_
          refine q_ hf rfl rfl rfl (e_pick_f hf rfl hc27 rfl) fun a hf => ?_
          refine q_ hf rfl rfl rfl (e_assign hf rfl) fun a hf => ?_
          refine pl_nil ?_
          obtain rfl := some_inj h12
          refine then_n ?_
          exact ⟨false, rfl, hf.keep ⟨rfl, trivial⟩, hM.pick [] rfl⟩
      · refine pl_gs (wanted_f hf rfl rfl rfl rfl hc24) hf rfl rfl fun a hf => ?_
        refine pl_gs (wanted_f hf rfl rfl rfl rfl hc24) hf rfl rfl fun a hf => ?_
        refine pl_gs (wanted_f hf rfl rfl rfl rfl hc24) hf rfl rfl fun a hf => ?_
        refine pl_gs (wanted_f hf rfl rfl rfl rfl hc24) hf rfl rfl fun a hf => ?_
        refine pl_gs (wanted_f hf rfl rfl rfl rfl hc24) hf rfl rfl fun a hf => ?_
        refine pl_gs (wanted_f hf rfl rfl rfl rfl hc24) hf rfl rfl fun a hf => ?_
        refine pl_gs (wanted_f hf rfl rfl rfl rfl hc24) hf rfl rfl fun a hf => ?_
        refine pl_gs (wanted_f hf rfl rfl rfl rfl hc24) hf rfl rfl fun a hf => ?_
        refine pl_gs (wanted_f hf rfl rfl rfl rfl hc24) hf rfl rfl fun a hf => ?_
        refine q_ hf rfl rfl rfl (e_pick_f hf rfl hc24 rfl) fun a hf => ?_
        refine q_ hf rfl rfl rfl (e_move hf rfl) fun a hf => ?_
        refine pl_gs (wanted_f hf rfl rfl rfl rfl rfl) hf rfl rfl fun a hf => ?_
        refine pl_gs (wanted_f hf rfl rfl rfl rfl rfl) hf rfl rfl fun a hf => ?_
        refine pl_gs (wanted_f hf rfl rfl rfl rfl rfl) hf rfl rfl fun a hf => ?_
        refine q_ hf rfl rfl rfl (e_pick_f hf rfl rfl rfl) fun a hf => ?_
        refine q_ hf rfl rfl rfl (e_assign hf rfl) fun a hf => ?_
        refine pl_nil ?_
        obtain rfl := some_inj h12
        refine then_n ?_
        exact ⟨false, rfl, hf.keep ⟨rfl, trivial⟩, hM.pick [] rfl⟩
    · refine pl_gs (wanted_f hf rfl rfl rfl rfl hc18) hf rfl rfl fun a hf => ?_
      refine pl_gs (wanted_f hf rfl rfl rfl rfl hc18) hf rfl rfl fun a hf => ?_
      refine pl_gs (wanted_f hf rfl rfl rfl rfl hc18) hf rfl rfl fun a hf => ?_
      refine q_ hf rfl rfl rfl (e_pick_f hf rfl hc18 rfl) fun a hf => ?_
      refine q_ hf rfl rfl rfl (e_move hf rfl) fun a hf => ?_
      refine pl_gs (wanted_f hf rfl rfl rfl rfl rfl) hf rfl rfl fun a hf => ?_
      refine pl_gs (wanted_f hf rfl rfl rfl rfl rfl) hf rfl rfl fun a hf => ?_
      refine pl_gs (wanted_f hf rfl rfl rfl rfl rfl) hf rfl rfl fun a hf => ?_
      refine pl_gs (wanted_f hf rfl rfl rfl rfl rfl) hf rfl rfl fun a hf => ?_
      refine pl_gs (wanted_f hf rfl rfl rfl rfl rfl) hf rfl rfl fun a hf => ?_
      refine pl_gs (wanted_f hf rfl rfl rfl rfl rfl) hf rfl rfl fun a hf => ?_
      refine pl_gs (wanted_f hf rfl rfl rfl rfl rfl) hf rfl rfl fun a hf => ?_
      refine pl_gs (wanted_f hf rfl rfl rfl rfl rfl) hf rfl rfl fun a hf => ?_
      refine pl_gs (wanted_f hf rfl rfl rfl rfl rfl) hf rfl rfl fun a hf => ?_
      refine q_ hf rfl rfl rfl (e_pick_f hf rfl rfl rfl) fun a hf => ?_
      refine q_ hf rfl rfl rfl (e_move hf rfl) fun a hf => ?_
      refine pl_gs (wanted_f hf rfl rfl rfl rfl rfl) hf rfl rfl fun a hf => ?_
      refine pl_gs (wanted_f hf rfl rfl rfl rfl rfl) hf rfl rfl fun a hf => ?_
      refine pl_gs (wanted_f hf rfl rfl rfl rfl rfl) hf rfl rfl fun a hf => ?_
      refine q_ hf rfl rfl rfl (e_pick_f hf rfl rfl rfl) fun a hf => ?_
      refine q_ hf rfl rfl rfl (e_assign hf rfl) fun a hf => ?_
      refine pl_nil ?_
      obtain rfl := some_inj h12
      refine then_n ?_
      exact ⟨false, rfl, hf.keep ⟨rfl, trivial⟩, hM.pick [] rfl⟩
  · rintro a w37 ⟨t9, rfl, hf, hM⟩
    try dsimp only at h
    refine wp_ret ?_
    obtain rfl := some_inj h
    have hM := hM.outs (own' := []) 0 rfl
    exact leave1 hf rfl rfl ⟨rfl, hM.fin⟩

set_option maxRecDepth 100000 in
set_option maxHeartbeats 4000000 in
theorem r_impl_GridText (C : Cx) (g1 : Grid) (hp2 : R64 g1.Rows) (hp3 : R64 g1.Cols) (hp4 : g1.Cells.length ≤ maxLen) (r : Str) (h : m_impl_GridText g1 = some r) :
    Calls Tryd.prog 12 #[.agg #[vI (g1.Rows), vI (g1.Cols), vS (g1.Cells)]] C.w0 fun e w => e = .returned (vS (r)) ∧ Mem C w [] [] ∧ r.length ≤ maxLen := by
  have hM := Mem.begin C [] trivial
  refine enter Tryd.func12 rfl Tryd.ntmps12 rfl fun a hf => ?_
  unfold m_impl_GridText at h
  refine wp_seq ?_
  refine region_pl ?_
  refine pl_l hf rfl rfl rfl (w_box hf hM (cs := [vI (g1.Rows), vI (g1.Cols), vS (g1.Cells)]) rfl rfl fun b5 w6 hx7 hM a hf => ?_)
  refine q_ hf rfl rfl rfl (e_assign hf rfl) fun a hf => ?_
  refine pl_nil ?_
  refine then_n ?_
  refine wp_seq ?_
  refine wp_seq ?_
  refine region_pl ?_
  refine q_ hf rfl rfl rfl (e_loadA hf (us := [vI (g1.Rows), vI (g1.Cols), vS (g1.Cells)]) rfl ⟨Tryd.isAgg23, Tryd.sizeOf23⟩ rfl (hM.boxSub (k := 0) (us := [vI (g1.Rows), vI (g1.Cols), vS (g1.Cells)]) (o := 0) rfl rfl)) fun a hf => ?_
  obtain ⟨y9, hz10, h⟩ := bind_some h
  refine pl_l hf rfl rfl rfl (w_call hf Tryd.call11 rfl (r_impl_ValidGrid ⟨_, Sh C _ _, none_, hM.sh_lt, none_not, C.G, hM.g_lt, g_none, hM.tabs⟩ g1 hp2 hp3 hp4 _ hz10) ?_)
  rintro _ w11 ⟨rfl, hM2⟩
  obtain ⟨hM, hx12, hup13⟩ := hM.back hM2
  dsimp only [List.cons_append, List.nil_append] at hM hup13
  clear hM2
  refine ⟨_, rfl, fun a hf => ?_⟩
  refine q_ hf rfl rfl rfl (e_not hf rfl) fun a hf => ?_
  refine pl_nil ?_
  refine then_n ?_
  rcases cond_some h with ⟨hc14, h⟩ | ⟨hc14, h⟩
  · refine cond_t hf rfl hc14 ?_
    refine wp_seq ?_
    refine region_pl ?_
    refine q_ hf rfl rfl rfl (e_assign hf rfl) fun a hf => ?_
    refine pl_nil ?_
    refine then_n ?_
    refine wp_ret ?_
    refine then_r ?_
    obtain rfl := some_inj h
    have hM := hM.outs (own' := []) 0 rfl
    exact leave1 hf rfl rfl ⟨rfl, hM.fin, (lit_len rfl)⟩
  · refine cond_f hf rfl hc14 ?_
    refine wp_skip ?_
    refine then_n ?_
    refine wp_seq ?_
    refine region_pl ?_
    refine pl_l hf rfl rfl rfl (w_slice0 (K := strRep) hM Tryd.underlying28 ei_9 fun b15 w16 hx17 hM a hf => ?_)
    refine q_ hf rfl rfl rfl (e_assign hf rfl) fun a hf => ?_
    refine pl_nil ?_
    refine then_n ?_
    obtain ⟨x21, h22, h⟩ := bind_some h
    refine seq_join (fun a w => ∃ (xs18 : (List Str)) (A19 : Option Addr) (c20 : Nat), xs18 = x21 ∧ Has 32 a [(3, vL A19 (xs18) c20)] ∧ Mem C w [.row strRep A19 c20 9 xs18 true, .box b5 [vI (g1.Rows), vI (g1.Cols), vS (g1.Cells)] 23] []) ?_ ?_
    · refine wp_seq ?_
      refine region_pl ?_
      refine q_ hf rfl rfl rfl (e_assign hf rfl) fun a hf => ?_
      refine pl_nil ?_
      refine then_n ?_
      refine wp_block ?_
      obtain ⟨x32, h33, h22⟩ := bind_some h22
      refine wp_loopM h33 (fun s a w => ∃ (xs23 : (List Str)) (n26 : Int) (A24 : Option Addr) (c25 : Nat), (xs23, n26) = s ∧ Has 32 a [(1, vP b5 (0)), (3, vL A24 (xs23) c25), (4, vI (n26))] ∧ Mem C w [.row strRep A24 c25 9 xs23 true, .box b5 [vI (g1.Rows), vI (g1.Cols), vS (g1.Cells)] 23] [] ∧ R64 n26) ?_ ?_
      · exact ⟨([] : (List Str)), 0, (some ⟨b15, 0, none⟩), 0, rfl, hf.keep ⟨rfl, rfl, rfl, trivial⟩, hM.pick [] rfl, (R64_lit rfl)⟩
      · rintro s o34 a w28 ⟨xs23, n26, A24, c25, rfl, hf, hM, hv27⟩ h35 hd36
        replace h35 : m_impl_GridText_l1 g1 xs23 n26 = some o34 := h35
        unfold m_impl_GridText_l1 at h35
        refine wp_seq ?_
        refine wp_seq ?_
        refine region_pl ?_
        refine q_ hf rfl rfl rfl (e_move hf rfl) fun a hf => ?_
        refine q_ hf rfl rfl rfl (e_field hf rfl Tryd.underlying23 rfl Tryd.sizeOf2 (o' := 0) rfl) fun a hf => ?_
        refine q_ hf rfl rfl rfl (e_load1 hf rfl Tryd.isAgg2 (hM.boxCell (k := 1) rfl rfl)) fun a hf => ?_
        refine q_ hf rfl rfl rfl (e_lt hf (x := n26) (y := g1.Rows) rfl rfl) fun a hf => ?_
        refine pl_nil ?_
        refine then_n ?_
        rcases cond_some h35 with ⟨hc37, h35⟩ | ⟨hc37, h35⟩
        · refine cond_t hf rfl hc37 ?_
          refine wp_skip ?_
          refine then_n ?_
          refine wp_seq ?_
          refine wp_block ?_
          refine region_pl ?_
          refine q_ hf rfl rfl rfl (e_move hf rfl) fun a hf => ?_
          refine q_ hf rfl rfl rfl (e_field hf rfl Tryd.underlying23 rfl Tryd.sizeOf9 (o' := 2) rfl) fun a hf => ?_
          refine q_ hf rfl rfl rfl (e_load1 hf rfl Tryd.isAgg9 (hM.boxCell (k := 1) rfl rfl)) fun a hf => ?_
          refine q_ hf rfl rfl rfl (e_move hf rfl) fun a hf => ?_
          refine q_ hf rfl rfl rfl (e_field hf rfl Tryd.underlying23 rfl Tryd.sizeOf2 (o' := 1) rfl) fun a hf => ?_
          refine q_ hf rfl rfl rfl (e_load1 hf rfl Tryd.isAgg2 (hM.boxCell (k := 1) rfl rfl)) fun a hf => ?_
          obtain ⟨z38, hz39, h35⟩ := bind_some h35
          refine q_ hf rfl rfl rfl (e_mul hf rfl rfl hz39) fun a hf => ?_
          refine q_ hf rfl rfl rfl (e_move hf rfl) fun a hf => ?_
          obtain ⟨z40, hz41, h35⟩ := bind_some h35
          refine q_ hf rfl rfl rfl (e_add hf rfl rfl hz41) fun a hf => ?_
          refine q_ hf rfl rfl rfl (e_field hf rfl Tryd.underlying23 rfl Tryd.sizeOf2 (o' := 1) rfl) fun a hf => ?_
          refine q_ hf rfl rfl rfl (e_load1 hf rfl Tryd.isAgg2 (hM.boxCell (k := 1) rfl rfl)) fun a hf => ?_
          obtain ⟨z42, hz43, h35⟩ := bind_some h35
          refine q_ hf rfl rfl rfl (e_mul hf rfl rfl hz43) fun a hf => ?_
          obtain ⟨s44, hz45, h35⟩ := bind_some h35
          refine q_ hf rfl rfl rfl (e_subS hf (x := g1.Cells) rfl rfl rfl Tryd.underlying9 hz45) fun a hf => ?_
          refine pl_l hf rfl rfl rfl (w_slice hf hM (K := strRep) (xs := ([s44] : (List Str))) (os := [.tmp 27]) Tryd.underlying28 ei_9 rfl rfl rfl rfl rfl ⟨⟨[vS (s44)], rfl, ⟨rfl, (sub_len hz45 hp4)⟩⟩, trivial⟩ rfl fun b46 w47 hx48 hM a hf => ?_)
          obtain ⟨xs49, hz50, h35⟩ := bind_some h35
          refine pl_l hf rfl rfl rfl (w_append hf hM Tryd.underlying28 ei_9 rfl rfl rfl (k := 1) rfl (hM.srcRow (k := 0) rfl) hz50 fun A51 c52 w53 hM a hf => ?_)
          dsimp only [List.set] at hM
          refine q_ hf rfl rfl rfl (e_assign hf rfl) fun a hf => ?_
          refine pl_nil ?_
          refine blk_n ?_
          refine then_n ?_
          refine region_pl ?_
          refine q_ hf rfl rfl rfl (e_move hf rfl) fun a hf => ?_
          obtain ⟨z56, hz57, h35⟩ := bind_some h35
          refine q_ hf rfl rfl rfl (e_add hf rfl rfl hz57) fun a hf => ?_
          refine q_ hf rfl rfl rfl (e_assign hf rfl) fun a hf => ?_
          refine pl_nil ?_
          obtain rfl := some_inj h35
          refine then_n ⟨_, rfl, ?_⟩
          exact ⟨xs49, z56, A51, c52, rfl, hf.keep ⟨rfl, rfl, rfl, trivial⟩, (hM.drop (.cons _ (.cons_cons _ (.cons_cons _ .slnil)))).pick [] rfl, (chk_R hz57)⟩
        · refine cond_f hf rfl hc37 ?_
          refine wp_exit ?_
          refine then_x ?_
          obtain rfl := some_inj h35
          obtain rfl := hd36 _ rfl
          try dsimp only at h22
          refine then_x ?_
          refine exit_hit ?_
          obtain rfl := some_inj h22
          refine then_n ?_
          exact ⟨xs23, A24, c25, rfl, hf.keep ⟨rfl, trivial⟩, hM.pick [] rfl⟩
    · rintro a w63 ⟨xs18, A19, c20, rfl, hf, hM⟩
      try dsimp only at h
      refine wp_seq ?_
      refine region_pl ?_
      refine q_ hf rfl rfl rfl (e_move hf rfl) fun a hf => ?_
      obtain ⟨y64, hz65, h⟩ := bind_some h
      refine pl_l hf rfl rfl rfl (w_call hf Tryd.call10 rfl (r_strings_Join ⟨_, All C _ _, none_, hM.all_lt, none_not, C.G, hM.g_lt, g_none, hM.tabs⟩ xs18 _ _ (hM.lendRow (k := 0) rfl) ([47] : Str) (lit_len rfl) _ hz65) ?_)
      rintro _ w67 ⟨rfl, hM2, hv66⟩
      obtain ⟨hM, hx68⟩ := hM.backA hM2
      clear hM2
      refine ⟨_, rfl, fun a hf => ?_⟩
      refine q_ hf rfl rfl rfl (e_assign hf rfl) fun a hf => ?_
      refine pl_nil ?_
      refine then_n ?_
      refine wp_ret ?_
      obtain rfl := some_inj h
      have hM := hM.outs (own' := []) 0 rfl
      exact leave1 hf rfl rfl ⟨rfl, hM.fin, hv66⟩

set_option maxRecDepth 100000 in
set_option maxHeartbeats 4000000 in
theorem r_impl_ReadGrid (C : Cx) (s1 : Str) (hp2 : s1.length ≤ maxLen) (r : (Grid × Bool)) (h : m_impl_ReadGrid s1 = some r) :
    Calls Tryd.prog 5 #[vS (s1)] C.w0 fun e w => e = .returned (.tuple #[.agg #[vI (r.1.Rows), vI (r.1.Cols), vS (r.1.Cells)], .bool (r.2)]) ∧ Mem C w [] [] ∧ R64 r.1.Rows ∧ R64 r.1.Cols ∧ r.1.Cells.length ≤ maxLen := by
  have hM := Mem.begin C [] trivial
  refine enter Tryd.func5 rfl Tryd.ntmps5 rfl fun a hf => ?_
  unfold m_impl_ReadGrid at h
  refine wp_seq ?_
  refine region_pl ?_
  refine pl_l hf rfl rfl rfl (w_alloc hM (cs := [vI (0), vI (0), vS (([] : Str))]) Tryd.zeroValue23 rfl fun b3 w4 hx5 hM a hf => ?_)
  refine q_ hf rfl rfl rfl (e_assign hf rfl) fun a hf => ?_
  refine pl_nil ?_
  refine then_n ?_
  refine wp_seq ?_
  refine region_pl ?_
  refine q_ hf rfl rfl rfl (e_move hf rfl) fun a hf => ?_
  obtain ⟨y7, hz8, h⟩ := bind_some h
  refine pl_l hf rfl rfl rfl (w_call hf Tryd.call9 rfl (r_strings_Split ⟨_, Sh C _ _, none_, hM.sh_lt, none_not, C.G, hM.g_lt, g_none, hM.tabs⟩ s1 hp2 ([47] : Str) (lit_len rfl) _ hz8) ?_)
  rintro _ w12 ⟨A9, c10, rfl, hM2, hv11⟩
  obtain ⟨hM, hx13, hup14⟩ := hM.back hM2
  dsimp only [List.cons_append, List.nil_append] at hM hup14
  clear hM2
  have hM := hM.add (y := .dat (sliceRep strRep) y7 [vL A9 y7 c10]) (hup14 hv11)
  refine ⟨_, rfl, fun a hf => ?_⟩
  refine q_ hf rfl rfl rfl (e_assign hf rfl) fun a hf => ?_
  refine pl_nil ?_
  refine then_n ?_
  refine wp_seq ?_
  obtain ⟨w15, hw⟩ : ∃ x, x = w12.drew := ⟨_, rfl⟩
  refine region_pi (.q 0 (.q 1 (.q 2 (.q 3 (.q 4 (.q 5 (.q 6 (.b 7 9 (.q 8 (.l 9 (.l 10 (.nil)))) (.l 7 (.q 8 (.l 10 (.nil)))))))))))) (Ext w15) rfl (by kernel_rfl) ?_
  have hM := hM.drew
  rw [← hw] at hM ⊢
  clear hw
  refine pi_q hf rfl rfl rfl rfl (Ext.refl _) (e_move hf rfl) fun a hf => ?_
  have hl16 := slice_len (hM.dat (k := 0) rfl)
  refine pi_q hf rfl rfl rfl rfl (Ext.refl _) (e_lenL hf (x := y7) rfl Tryd.underlying28) fun a hf => ?_
  refine pi_q hf rfl rfl rfl rfl (Ext.refl _) (e_move hf rfl) fun a hf => ?_
  obtain ⟨e17, hz18, h⟩ := bind_some h
  obtain ⟨b22, o23, _, hA24, h19, h20, hr21, hM⟩ := hM.elem (hM.dat (k := 0) rfl) (n := 1) rfl hz18
  obtain ⟨rfl, hv25⟩ := hr21
  refine pi_q hf rfl rfl rfl rfl (Ext.refl _) (e_indexAddr (A := A9) (b := b22) (o := o23) (xs := y7) (i := 0) hf hA24 rfl rfl Tryd.underlying28 Tryd.sizeOf9 h19 h20) fun a hf => ?_
  refine pi_q hf rfl rfl rfl rfl (Ext.refl _) (e_load1 hf rfl Tryd.isAgg9 (hM.litCell (k := 0) (j := 0) rfl rfl rfl)) fun a hf => ?_
  refine pi_q hf rfl rfl rfl rfl (Ext.refl _) (e_lenS hf (x := e17) rfl Tryd.underlying9) fun a hf => ?_
  refine pi_q hf rfl rfl rfl rfl (Ext.refl _) (e_move hf rfl) fun a hf => ?_
  obtain ⟨y26, hz27, h⟩ := bind_some h
  refine pi_two ?_ ?_
  · refine pi_l hf rfl rfl rfl rfl (w_call hf Tryd.call10 rfl (r_strings_Join ⟨_, Sh C _ _, none_, hM.sh_lt, none_not, C.G, hM.g_lt, g_none, hM.tabs⟩ y7 _ _ (hM.dat (k := 1) rfl) ([] : Str) (lit_len rfl) _ hz27) ?_)
    rintro _ w37 ⟨rfl, hM2, hv36⟩
    obtain ⟨hM, hx38, hup39⟩ := hM.back hM2
    dsimp only [List.cons_append, List.nil_append] at hM hup39
    clear hM2
    refine ⟨_, rfl, Ext w37, fun _ h => Ext.trans hx38 h, Ext.refl _, fun a hf => ?_⟩
    refine pi_q hf rfl rfl rfl rfl (Ext.refl _) (e_build hf Tryd.zeroValue23 Tryd.underlying23 (bp_23 _ Tryd.underlying23.symm) rfl (cs := #[vI ((y7.length : Int)), vI ((e17.length : Int)), vS (y26)]) (by kernel_rfl)) fun a hf => ?_
    refine pi_one ?_
    refine pi_l hf rfl rfl rfl rfl (w_alloc hM (cs := [vI (0), vI (0), vS (([] : Str))]) Tryd.zeroValue23 rfl fun b40 w41 hx42 hM => ⟨Ext w41, fun _ h => Ext.trans hx42 h, Ext.refl _, fun a hf => ?_⟩)
    refine pi_one ?_
    refine pi_z0 hf rfl rfl rfl (by kernel_rfl) (w_store hf hM (us := [vI ((y7.length : Int)), vI ((e17.length : Int)), vS (y26)]) (cs' := [vI ((y7.length : Int)), vI ((e17.length : Int)), vS (y26)]) rfl rfl (k := 0) rfl rfl Tryd.sizeOf23 rfl rfl rfl fun w44 hM => ?_)
    dsimp only [List.set] at hM
    refine pi_nil ?_
    refine then_n ?_
    refine wp_seq ?_
    obtain ⟨x49, h50, h⟩ := bind_some h
    refine seq_join (fun a w => ∃ (t47 : Bool), t47 = x49 ∧ Has 28 a [(2, vP b3 (0)), (5, vP b40 (0)), (25, .bool (t47))] ∧ Mem C w [.box b40 [vI ((y7.length : Int)), vI ((e17.length : Int)), vS (y26)] 23, .box b3 [vI (0), vI (0), vS (([] : Str))] 23] [.lit b22 (o23 + (0 : Int).toNat * 1) [vS (e17)], .dat (sliceRep strRep) y7 [vL A9 y7 c10]]) ?_ ?_
    · refine region_pl ?_
      refine q_ hf rfl rfl rfl (e_loadA hf (us := [vI ((y7.length : Int)), vI ((e17.length : Int)), vS (y26)]) rfl ⟨Tryd.isAgg23, Tryd.sizeOf23⟩ rfl (hM.boxSub (k := 0) (us := [vI ((y7.length : Int)), vI ((e17.length : Int)), vS (y26)]) (o := 0) rfl rfl)) fun a hf => ?_
      obtain ⟨y51, hz52, h50⟩ := bind_some h50
      refine pl_l hf rfl rfl rfl (w_call hf Tryd.call11 rfl (r_impl_ValidGrid ⟨_, Sh C _ _, none_, hM.sh_lt, none_not, C.G, hM.g_lt, g_none, hM.tabs⟩ (⟨(y7.length : Int), (e17.length : Int), y26⟩ : Grid) (R64_len hl16) (R64_len hv25) hv36 _ hz52) ?_)
      rintro _ w53 ⟨rfl, hM2⟩
      obtain ⟨hM, hx54, hup55⟩ := hM.back hM2
      dsimp only [List.cons_append, List.nil_append] at hM hup55
      clear hM2
      refine ⟨_, rfl, fun a hf => ?_⟩
      refine q_ hf rfl rfl rfl (e_not hf rfl) fun a hf => ?_
      refine q_ hf rfl rfl rfl (e_move hf rfl) fun a hf => ?_
      rcases cond_some h50 with ⟨hc56, h50⟩ | ⟨hc56, h50⟩
      · refine pl_gs (wanted_f hf rfl rfl rfl rfl hc56) hf rfl rfl fun a hf => ?_
        refine pl_gs (wanted_f hf rfl rfl rfl rfl hc56) hf rfl rfl fun a hf => ?_
        refine pl_gs (wanted_f hf rfl rfl rfl rfl hc56) hf rfl rfl fun a hf => ?_
        refine pl_gs (wanted_f hf rfl rfl rfl rfl hc56) hf rfl rfl fun a hf => ?_
        refine q_ hf rfl rfl rfl (e_pick_t hf rfl hc56 rfl) fun a hf => ?_
        refine pl_nil ?_
        obtain rfl := some_inj h50
        refine then_n ?_
        exact ⟨true, rfl, hf.keep ⟨rfl, rfl, rfl, trivial⟩, hM.pick [0, 1] rfl⟩
      · refine gq (wanted_t hf rfl rfl rfl rfl hc56) hf rfl rfl (e_loadA hf (us := [vI ((y7.length : Int)), vI ((e17.length : Int)), vS (y26)]) rfl ⟨Tryd.isAgg23, Tryd.sizeOf23⟩ rfl (hM.boxSub (k := 0) (us := [vI ((y7.length : Int)), vI ((e17.length : Int)), vS (y26)]) (o := 0) rfl rfl)) fun a hf => ?_
        obtain ⟨y58, hz59, h50⟩ := bind_some h50
        refine pl_gl (wanted_t hf rfl rfl rfl rfl hc56) hf rfl rfl (w_call hf Tryd.call12 rfl (r_impl_GridText ⟨_, Sh C _ _, none_, hM.sh_lt, none_not, C.G, hM.g_lt, g_none, hM.tabs⟩ (⟨(y7.length : Int), (e17.length : Int), y26⟩ : Grid) (R64_len hl16) (R64_len hv25) hv36 _ hz59) ?_)
        rintro _ w61 ⟨rfl, hM2, hv60⟩
        obtain ⟨hM, hx62, hup63⟩ := hM.back hM2
        dsimp only [List.cons_append, List.nil_append] at hM hup63
        clear hM2
        refine ⟨_, rfl, fun a hf => ?_⟩
        refine gq (wanted_t hf rfl rfl rfl rfl hc56) hf rfl rfl (e_move hf rfl) fun a hf => ?_
        refine gq (wanted_t hf rfl rfl rfl rfl hc56) hf rfl rfl (e_neS hf (x := y58) (y := s1) rfl rfl) fun a hf => ?_
        refine q_ hf rfl rfl rfl (e_pick_f hf rfl hc56 rfl) fun a hf => ?_
        refine pl_nil ?_
        obtain rfl := some_inj h50
        refine then_n ?_
        exact ⟨(y58 != s1), rfl, hf.keep ⟨rfl, rfl, rfl, trivial⟩, hM.pick [0, 1] rfl⟩
    · rintro a w65 ⟨t47, rfl, hf, hM⟩
      try dsimp only at h
      rcases cond_some h with ⟨hc66, h⟩ | ⟨hc66, h⟩
      · refine cond_t hf rfl hc66 ?_
        refine wp_seq ?_
        refine region_pl ?_
        refine q_ hf rfl rfl rfl (e_build hf Tryd.zeroValue23 Tryd.underlying23 (bp_23 _ Tryd.underlying23.symm) rfl (cs := #[vI (0), vI (0), vS (([] : Str))]) (by kernel_rfl)) fun a hf => ?_
        refine pl_0 hf rfl rfl (w_store hf hM (us := [vI (0), vI (0), vS (([] : Str))]) (cs' := [vI (0), vI (0), vS (([] : Str))]) rfl rfl (k := 1) rfl rfl Tryd.sizeOf23 rfl rfl rfl fun w67 hM => ?_)
        dsimp only [List.set] at hM
        refine q_ hf rfl rfl rfl (e_assign hf rfl) fun a hf => ?_
        refine pl_nil ?_
        refine then_n ?_
        refine wp_ret ?_
        refine then_r ?_
        obtain rfl := some_inj h
        have hres70 := leaveV2 (P := Tryd.prog) Tryd.results5 (res_agg hf rfl ⟨Tryd.isAgg23, Tryd.sizeOf23⟩ (us := [vI (0), vI (0), vS (([] : Str))]) rfl (hM.boxSub (k := 1) (o := 0) rfl rfl)) (res_tmp hf rfl)
        have hM := hM.outs (own' := []) 0 rfl
        exact bodyPost_ret hres70 hf.defers ⟨rfl, hM.fin, (R64_lit rfl), (R64_lit rfl), (lit_len rfl)⟩
      · refine cond_f hf rfl hc66 ?_
        refine wp_skip ?_
        refine then_n ?_
        refine wp_seq ?_
        refine region_pl ?_
        refine q_ hf rfl rfl rfl (e_loadA hf (us := [vI ((y7.length : Int)), vI ((e17.length : Int)), vS (y26)]) rfl ⟨Tryd.isAgg23, Tryd.sizeOf23⟩ rfl (hM.boxSub (k := 0) (us := [vI ((y7.length : Int)), vI ((e17.length : Int)), vS (y26)]) (o := 0) rfl rfl)) fun a hf => ?_
        refine pl_0 hf rfl rfl (w_store hf hM (us := [vI ((y7.length : Int)), vI ((e17.length : Int)), vS (y26)]) (cs' := [vI ((y7.length : Int)), vI ((e17.length : Int)), vS (y26)]) rfl rfl (k := 1) rfl rfl Tryd.sizeOf23 rfl rfl rfl fun w71 hM => ?_)
        dsimp only [List.set] at hM
        refine q_ hf rfl rfl rfl (e_assign hf rfl) fun a hf => ?_
        refine pl_nil ?_
        refine then_n ?_
        refine wp_ret ?_
        obtain rfl := some_inj h
        have hres74 := leaveV2 (P := Tryd.prog) Tryd.results5 (res_agg hf rfl ⟨Tryd.isAgg23, Tryd.sizeOf23⟩ (us := [vI ((y7.length : Int)), vI ((e17.length : Int)), vS (y26)]) rfl (hM.boxSub (k := 1) (o := 0) rfl rfl)) (res_tmp hf rfl)
        have hM := hM.outs (own' := []) 0 rfl
        exact bodyPost_ret hres74 hf.defers ⟨rfl, hM.fin, (R64_len hl16), (R64_len hv25), hv36⟩
  · refine pi_l hf rfl rfl rfl rfl (w_alloc hM (cs := [vI (0), vI (0), vS (([] : Str))]) Tryd.zeroValue23 rfl fun b75 w76 hx77 hM => ⟨Ext w76, fun _ h => Ext.trans hx77 h, Ext.refl _, fun a hf => ?_⟩)
    refine pi_one ?_
    refine pi_l hf rfl rfl rfl rfl (w_call hf Tryd.call10 rfl (r_strings_Join ⟨_, Sh C _ _, none_, hM.sh_lt, none_not, C.G, hM.g_lt, g_none, hM.tabs⟩ y7 _ _ (hM.dat (k := 1) rfl) ([] : Str) (lit_len rfl) _ hz27) ?_)
    rintro _ w80 ⟨rfl, hM2, hv79⟩
    obtain ⟨hM, hx81, hup82⟩ := hM.back hM2
    dsimp only [List.cons_append, List.nil_append] at hM hup82
    clear hM2
    refine ⟨_, rfl, Ext w80, fun _ h => Ext.trans hx81 h, Ext.refl _, fun a hf => ?_⟩
    refine pi_q hf rfl rfl rfl rfl (Ext.refl _) (e_build hf Tryd.zeroValue23 Tryd.underlying23 (bp_23 _ Tryd.underlying23.symm) rfl (cs := #[vI ((y7.length : Int)), vI ((e17.length : Int)), vS (y26)]) (by kernel_rfl)) fun a hf => ?_
    refine pi_one ?_
    refine pi_z0 hf rfl rfl rfl (by kernel_rfl) (w_store hf hM (us := [vI ((y7.length : Int)), vI ((e17.length : Int)), vS (y26)]) (cs' := [vI ((y7.length : Int)), vI ((e17.length : Int)), vS (y26)]) rfl rfl (k := 0) rfl rfl Tryd.sizeOf23 rfl rfl rfl fun w83 hM => ?_)
    dsimp only [List.set] at hM
    refine pi_nil ?_
    refine then_n ?_
    refine wp_seq ?_
    obtain ⟨x88, h89, h⟩ := bind_some h
    refine seq_join (fun a w => ∃ (t86 : Bool), t86 = x88 ∧ Has 28 a [(2, vP b3 (0)), (5, vP b75 (0)), (25, .bool (t86))] ∧ Mem C w [.box b75 [vI ((y7.length : Int)), vI ((e17.length : Int)), vS (y26)] 23, .box b3 [vI (0), vI (0), vS (([] : Str))] 23] [.lit b22 (o23 + (0 : Int).toNat * 1) [vS (e17)], .dat (sliceRep strRep) y7 [vL A9 y7 c10]]) ?_ ?_
    · refine region_pl ?_
      refine q_ hf rfl rfl rfl (e_loadA hf (us := [vI ((y7.length : Int)), vI ((e17.length : Int)), vS (y26)]) rfl ⟨Tryd.isAgg23, Tryd.sizeOf23⟩ rfl (hM.boxSub (k := 0) (us := [vI ((y7.length : Int)), vI ((e17.length : Int)), vS (y26)]) (o := 0) rfl rfl)) fun a hf => ?_
      obtain ⟨y90, hz91, h89⟩ := bind_some h89
      refine pl_l hf rfl rfl rfl (w_call hf Tryd.call11 rfl (r_impl_ValidGrid ⟨_, Sh C _ _, none_, hM.sh_lt, none_not, C.G, hM.g_lt, g_none, hM.tabs⟩ (⟨(y7.length : Int), (e17.length : Int), y26⟩ : Grid) (R64_len hl16) (R64_len hv25) hv79 _ hz91) ?_)
      rintro _ w92 ⟨rfl, hM2⟩
      obtain ⟨hM, hx93, hup94⟩ := hM.back hM2
      dsimp only [List.cons_append, List.nil_append] at hM hup94
      clear hM2
      refine ⟨_, rfl, fun a hf => ?_⟩
      refine q_ hf rfl rfl rfl (e_not hf rfl) fun a hf => ?_
      refine q_ hf rfl rfl rfl (e_move hf rfl) fun a hf => ?_
      rcases cond_some h89 with ⟨hc95, h89⟩ | ⟨hc95, h89⟩
      · refine pl_gs (wanted_f hf rfl rfl rfl rfl hc95) hf rfl rfl fun a hf => ?_
        refine pl_gs (wanted_f hf rfl rfl rfl rfl hc95) hf rfl rfl fun a hf => ?_
        refine pl_gs (wanted_f hf rfl rfl rfl rfl hc95) hf rfl rfl fun a hf => ?_
        refine pl_gs (wanted_f hf rfl rfl rfl rfl hc95) hf rfl rfl fun a hf => ?_
        refine q_ hf rfl rfl rfl (e_pick_t hf rfl hc95 rfl) fun a hf => ?_
        refine pl_nil ?_
        obtain rfl := some_inj h89
        refine then_n ?_
        exact ⟨true, rfl, hf.keep ⟨rfl, rfl, rfl, trivial⟩, hM.pick [0, 1] rfl⟩
      · refine gq (wanted_t hf rfl rfl rfl rfl hc95) hf rfl rfl (e_loadA hf (us := [vI ((y7.length : Int)), vI ((e17.length : Int)), vS (y26)]) rfl ⟨Tryd.isAgg23, Tryd.sizeOf23⟩ rfl (hM.boxSub (k := 0) (us := [vI ((y7.length : Int)), vI ((e17.length : Int)), vS (y26)]) (o := 0) rfl rfl)) fun a hf => ?_
        obtain ⟨y97, hz98, h89⟩ := bind_some h89
        refine pl_gl (wanted_t hf rfl rfl rfl rfl hc95) hf rfl rfl (w_call hf Tryd.call12 rfl (r_impl_GridText ⟨_, Sh C _ _, none_, hM.sh_lt, none_not, C.G, hM.g_lt, g_none, hM.tabs⟩ (⟨(y7.length : Int), (e17.length : Int), y26⟩ : Grid) (R64_len hl16) (R64_len hv25) hv79 _ hz98) ?_)
        rintro _ w100 ⟨rfl, hM2, hv99⟩
        obtain ⟨hM, hx101, hup102⟩ := hM.back hM2
        dsimp only [List.cons_append, List.nil_append] at hM hup102
        clear hM2
        refine ⟨_, rfl, fun a hf => ?_⟩
        refine gq (wanted_t hf rfl rfl rfl rfl hc95) hf rfl rfl (e_move hf rfl) fun a hf => ?_
        refine gq (wanted_t hf rfl rfl rfl rfl hc95) hf rfl rfl (e_neS hf (x := y97) (y := s1) rfl rfl) fun a hf => ?_
        refine q_ hf rfl rfl rfl (e_pick_f hf rfl hc95 rfl) fun a hf => ?_
        refine pl_nil ?_
        obtain rfl := some_inj h89
        refine then_n ?_
        exact ⟨(y97 != s1), rfl, hf.keep ⟨rfl, rfl, rfl, trivial⟩, hM.pick [0, 1] rfl⟩
    · rintro a w104 ⟨t86, rfl, hf, hM⟩
      try dsimp only at h
      rcases cond_some h with ⟨hc105, h⟩ | ⟨hc105, h⟩
      · refine cond_t hf rfl hc105 ?_
        refine wp_seq ?_
        refine region_pl ?_
        refine q_ hf rfl rfl rfl (e_build hf Tryd.zeroValue23 Tryd.underlying23 (bp_23 _ Tryd.underlying23.symm) rfl (cs := #[vI (0), vI (0), vS (([] : Str))]) (by kernel_rfl)) fun a hf => ?_
        refine pl_0 hf rfl rfl (w_store hf hM (us := [vI (0), vI (0), vS (([] : Str))]) (cs' := [vI (0), vI (0), vS (([] : Str))]) rfl rfl (k := 1) rfl rfl Tryd.sizeOf23 rfl rfl rfl fun w106 hM => ?_)
        dsimp only [List.set] at hM
        refine q_ hf rfl rfl rfl (e_assign hf rfl) fun a hf => ?_
        refine pl_nil ?_
        refine then_n ?_
        refine wp_ret ?_
        refine then_r ?_
        obtain rfl := some_inj h
        have hres109 := leaveV2 (P := Tryd.prog) Tryd.results5 (res_agg hf rfl ⟨Tryd.isAgg23, Tryd.sizeOf23⟩ (us := [vI (0), vI (0), vS (([] : Str))]) rfl (hM.boxSub (k := 1) (o := 0) rfl rfl)) (res_tmp hf rfl)
        have hM := hM.outs (own' := []) 0 rfl
        exact bodyPost_ret hres109 hf.defers ⟨rfl, hM.fin, (R64_lit rfl), (R64_lit rfl), (lit_len rfl)⟩
      · refine cond_f hf rfl hc105 ?_
        refine wp_skip ?_
        refine then_n ?_
        refine wp_seq ?_
        refine region_pl ?_
        refine q_ hf rfl rfl rfl (e_loadA hf (us := [vI ((y7.length : Int)), vI ((e17.length : Int)), vS (y26)]) rfl ⟨Tryd.isAgg23, Tryd.sizeOf23⟩ rfl (hM.boxSub (k := 0) (us := [vI ((y7.length : Int)), vI ((e17.length : Int)), vS (y26)]) (o := 0) rfl rfl)) fun a hf => ?_
        refine pl_0 hf rfl rfl (w_store hf hM (us := [vI ((y7.length : Int)), vI ((e17.length : Int)), vS (y26)]) (cs' := [vI ((y7.length : Int)), vI ((e17.length : Int)), vS (y26)]) rfl rfl (k := 1) rfl rfl Tryd.sizeOf23 rfl rfl rfl fun w110 hM => ?_)
        dsimp only [List.set] at hM
        refine q_ hf rfl rfl rfl (e_assign hf rfl) fun a hf => ?_
        refine pl_nil ?_
        refine then_n ?_
        refine wp_ret ?_
        obtain rfl := some_inj h
        have hres113 := leaveV2 (P := Tryd.prog) Tryd.results5 (res_agg hf rfl ⟨Tryd.isAgg23, Tryd.sizeOf23⟩ (us := [vI ((y7.length : Int)), vI ((e17.length : Int)), vS (y26)]) rfl (hM.boxSub (k := 1) (o := 0) rfl rfl)) (res_tmp hf rfl)
        have hM := hM.outs (own' := []) 0 rfl
        exact bodyPost_ret hres113 hf.defers ⟨rfl, hM.fin, (R64_len hl16), (R64_len hv25), hv79⟩

set_option maxRecDepth 100000 in
set_option maxHeartbeats 4000000 in
theorem r_laws_eqGrid (C : Cx) (a1 : Grid) (hp2 : R64 a1.Rows) (hp3 : R64 a1.Cols) (hp4 : a1.Cells.length ≤ maxLen) (b5 : Grid) (hp6 : R64 b5.Rows) (hp7 : R64 b5.Cols) (hp8 : b5.Cells.length ≤ maxLen) (r : Bool) (h : m_laws_eqGrid a1 b5 = some r) :
    Calls Tryd.prog 6 #[.agg #[vI (a1.Rows), vI (a1.Cols), vS (a1.Cells)], .agg #[vI (b5.Rows), vI (b5.Cols), vS (b5.Cells)]] C.w0 fun e w => e = .returned (.bool (r)) ∧ Mem C w [] [] := by
  have hM := Mem.begin C [] trivial
  refine enter Tryd.func6 rfl Tryd.ntmps6 rfl fun a hf => ?_
  unfold m_laws_eqGrid at h
  refine wp_seq ?_
  refine region_pl ?_
  refine pl_l hf rfl rfl rfl (w_box hf hM (cs := [vI (a1.Rows), vI (a1.Cols), vS (a1.Cells)]) rfl rfl fun b9 w10 hx11 hM a hf => ?_)
  refine pl_l hf rfl rfl rfl (w_box hf hM (cs := [vI (b5.Rows), vI (b5.Cols), vS (b5.Cells)]) rfl rfl fun b13 w14 hx15 hM a hf => ?_)
  refine q_ hf rfl rfl rfl (e_assign hf rfl) fun a hf => ?_
  refine pl_nil ?_
  refine then_n ?_
  refine wp_seq ?_
  refine wp_seq ?_
  refine region_pl ?_
  refine q_ hf rfl rfl rfl (e_field hf rfl Tryd.underlying23 rfl Tryd.sizeOf2 (o' := 0) rfl) fun a hf => ?_
  refine q_ hf rfl rfl rfl (e_load1 hf rfl Tryd.isAgg2 (hM.boxCell (k := 1) rfl rfl)) fun a hf => ?_
  refine q_ hf rfl rfl rfl (e_field hf rfl Tryd.underlying23 rfl Tryd.sizeOf2 (o' := 0) rfl) fun a hf => ?_
  refine q_ hf rfl rfl rfl (e_load1 hf rfl Tryd.isAgg2 (hM.boxCell (k := 0) rfl rfl)) fun a hf => ?_
  refine q_ hf rfl rfl rfl (e_ne hf (x := a1.Rows) (y := b5.Rows) rfl rfl) fun a hf => ?_
  refine pl_nil ?_
  refine then_n ?_
  rcases cond_some h with ⟨hc17, h⟩ | ⟨hc17, h⟩
  · refine cond_t hf rfl hc17 ?_
    refine wp_seq ?_
    refine region_pl ?_
    refine q_ hf rfl rfl rfl (e_assign hf rfl) fun a hf => ?_
    refine pl_nil ?_
    refine then_n ?_
    refine wp_ret ?_
    refine then_r ?_
    obtain rfl := some_inj h
    have hM := hM.outs (own' := []) 0 rfl
    exact leave1 hf rfl rfl ⟨rfl, hM.fin⟩
  · refine cond_f hf rfl hc17 ?_
    refine wp_skip ?_
    refine then_n ?_
    refine wp_seq ?_
    refine wp_seq ?_
    refine region_pl ?_
    refine q_ hf rfl rfl rfl (e_field hf rfl Tryd.underlying23 rfl Tryd.sizeOf2 (o' := 1) rfl) fun a hf => ?_
    refine q_ hf rfl rfl rfl (e_load1 hf rfl Tryd.isAgg2 (hM.boxCell (k := 1) rfl rfl)) fun a hf => ?_
    refine q_ hf rfl rfl rfl (e_field hf rfl Tryd.underlying23 rfl Tryd.sizeOf2 (o' := 1) rfl) fun a hf => ?_
    refine q_ hf rfl rfl rfl (e_load1 hf rfl Tryd.isAgg2 (hM.boxCell (k := 0) rfl rfl)) fun a hf => ?_
    refine q_ hf rfl rfl rfl (e_ne hf (x := a1.Cols) (y := b5.Cols) rfl rfl) fun a hf => ?_
    refine pl_nil ?_
    refine then_n ?_
    rcases cond_some h with ⟨hc18, h⟩ | ⟨hc18, h⟩
    · refine cond_t hf rfl hc18 ?_
      refine wp_seq ?_
      refine region_pl ?_
      refine q_ hf rfl rfl rfl (e_assign hf rfl) fun a hf => ?_
      refine pl_nil ?_
      refine then_n ?_
      refine wp_ret ?_
      refine then_r ?_
      obtain rfl := some_inj h
      have hM := hM.outs (own' := []) 0 rfl
      exact leave1 hf rfl rfl ⟨rfl, hM.fin⟩
    · refine cond_f hf rfl hc18 ?_
      refine wp_skip ?_
      refine then_n ?_
      refine wp_seq ?_
      refine wp_seq ?_
      refine region_pl ?_
      refine q_ hf rfl rfl rfl (e_field hf rfl Tryd.underlying23 rfl Tryd.sizeOf9 (o' := 2) rfl) fun a hf => ?_
      refine q_ hf rfl rfl rfl (e_load1 hf rfl Tryd.isAgg9 (hM.boxCell (k := 1) rfl rfl)) fun a hf => ?_
      refine q_ hf rfl rfl rfl (e_field hf rfl Tryd.underlying23 rfl Tryd.sizeOf9 (o' := 2) rfl) fun a hf => ?_
      refine q_ hf rfl rfl rfl (e_load1 hf rfl Tryd.isAgg9 (hM.boxCell (k := 0) rfl rfl)) fun a hf => ?_
      refine q_ hf rfl rfl rfl (e_neS hf (x := a1.Cells) (y := b5.Cells) rfl rfl) fun a hf => ?_
      refine pl_nil ?_
      refine then_n ?_
      rcases cond_some h with ⟨hc19, h⟩ | ⟨hc19, h⟩
      · refine cond_t hf rfl hc19 ?_
        refine wp_seq ?_
        refine region_pl ?_
        refine q_ hf rfl rfl rfl (e_assign hf rfl) fun a hf => ?_
        refine pl_nil ?_
        refine then_n ?_
        refine wp_ret ?_
        refine then_r ?_
        obtain rfl := some_inj h
        have hM := hM.outs (own' := []) 0 rfl
        exact leave1 hf rfl rfl ⟨rfl, hM.fin⟩
      · refine cond_f hf rfl hc19 ?_
        refine wp_skip ?_
        refine then_n ?_
        refine wp_seq ?_
        refine region_pl ?_
        refine q_ hf rfl rfl rfl (e_assign hf rfl) fun a hf => ?_
        refine pl_nil ?_
        refine then_n ?_
        refine wp_ret ?_
        obtain rfl := some_inj h
        have hM := hM.outs (own' := []) 0 rfl
        exact leave1 hf rfl rfl ⟨rfl, hM.fin⟩

set_option maxRecDepth 100000 in
set_option maxHeartbeats 4000000 in
theorem r_laws_FnExactReadGrid (C : Cx) (aS1 : Str) (hp2 : aS1.length ≤ maxLen) (r : Bool) (h : m_laws_FnExactReadGrid aS1 = some r) :
    Calls Tryd.prog 3 #[vS (aS1)] C.w0 fun e w => e = .returned (.bool (r)) ∧ Mem C w [] [] := by
  have hM := Mem.begin C [] trivial
  refine enter Tryd.func3 rfl Tryd.ntmps3 rfl fun a hf => ?_
  unfold m_laws_FnExactReadGrid at h
  refine wp_seq ?_
  refine region_pl ?_
  refine q_ hf rfl rfl rfl (e_assign hf rfl) fun a hf => ?_
  refine pl_nil ?_
  refine then_n ?_
  refine wp_seq ?_
  refine wp_seq ?_
  refine region_pl ?_
  refine q_ hf rfl rfl rfl (e_move hf rfl) fun a hf => ?_
  refine q_ hf rfl rfl rfl (e_lenS hf (x := aS1) rfl Tryd.underlying9) fun a hf => ?_
  refine q_ hf rfl rfl rfl (e_gt hf (x := (aS1.length : Int)) (y := 1048576) rfl rfl) fun a hf => ?_
  refine pl_nil ?_
  refine then_n ?_
  rcases cond_some h with ⟨hc3, h⟩ | ⟨hc3, h⟩
  · refine cond_t hf rfl hc3 ?_
    refine wp_seq ?_
    refine region_pl ?_
    refine q_ hf rfl rfl rfl (e_assign hf rfl) fun a hf => ?_
    refine pl_nil ?_
    refine then_n ?_
    refine wp_ret ?_
    refine then_r ?_
    obtain rfl := some_inj h
    exact leave1 hf rfl rfl ⟨rfl, hM.fin⟩
  · refine cond_f hf rfl hc3 ?_
    refine wp_skip ?_
    refine then_n ?_
    refine wp_seq ?_
    refine region_pl ?_
    refine q_ hf rfl rfl rfl (e_move hf rfl) fun a hf => ?_
    obtain ⟨y4, hz5, h⟩ := bind_some h
    refine pl_l hf rfl rfl rfl (w_call hf Tryd.call4 rfl (r_spec_ReadGrid ⟨_, Sh C _ _, none_, hM.sh_lt, none_not, C.G, hM.g_lt, g_none, hM.tabs⟩ aS1 hp2 _ hz5) ?_)
    rintro _ w9 ⟨rfl, hM2, hv6, hv7, hv8⟩
    obtain ⟨hM, hx10, hup11⟩ := hM.back hM2
    dsimp only [List.cons_append, List.nil_append] at hM hup11
    clear hM2
    refine ⟨_, rfl, fun a hf => ?_⟩
    refine q_ hf rfl rfl rfl (e_move hf rfl) fun a hf => ?_
    refine q_ hf rfl rfl rfl (e_extract hf rfl rfl) fun a hf => ?_
    refine q_ hf rfl rfl rfl (e_extract hf rfl rfl) fun a hf => ?_
    refine pl_l hf rfl rfl rfl (w_alloc hM (cs := [vI (0), vI (0), vS (([] : Str))]) Tryd.zeroValue23 rfl fun b12 w13 hx14 hM a hf => ?_)
    refine pl_0 hf rfl rfl (w_store hf hM (us := [vI (y4.1.Rows), vI (y4.1.Cols), vS (y4.1.Cells)]) (cs' := [vI (y4.1.Rows), vI (y4.1.Cols), vS (y4.1.Cells)]) rfl rfl (k := 0) rfl rfl Tryd.sizeOf23 rfl rfl rfl fun w16 hM => ?_)
    dsimp only [List.set] at hM
    refine q_ hf rfl rfl rfl (e_assign hf rfl) fun a hf => ?_
    refine pl_nil ?_
    refine then_n ?_
    refine wp_seq ?_
    refine region_pl ?_
    refine q_ hf rfl rfl rfl (e_move hf rfl) fun a hf => ?_
    obtain ⟨y19, hz20, h⟩ := bind_some h
    refine pl_l hf rfl rfl rfl (w_call hf Tryd.call5 rfl (r_impl_ReadGrid ⟨_, Sh C _ _, none_, hM.sh_lt, none_not, C.G, hM.g_lt, g_none, hM.tabs⟩ aS1 hp2 _ hz20) ?_)
    rintro _ w24 ⟨rfl, hM2, hv21, hv22, hv23⟩
    obtain ⟨hM, hx25, hup26⟩ := hM.back hM2
    dsimp only [List.cons_append, List.nil_append] at hM hup26
    clear hM2
    refine ⟨_, rfl, fun a hf => ?_⟩
    refine q_ hf rfl rfl rfl (e_move hf rfl) fun a hf => ?_
    refine q_ hf rfl rfl rfl (e_extract hf rfl rfl) fun a hf => ?_
    refine q_ hf rfl rfl rfl (e_extract hf rfl rfl) fun a hf => ?_
    refine pl_l hf rfl rfl rfl (w_alloc hM (cs := [vI (0), vI (0), vS (([] : Str))]) Tryd.zeroValue23 rfl fun b27 w28 hx29 hM a hf => ?_)
    refine pl_0 hf rfl rfl (w_store hf hM (us := [vI (y19.1.Rows), vI (y19.1.Cols), vS (y19.1.Cells)]) (cs' := [vI (y19.1.Rows), vI (y19.1.Cols), vS (y19.1.Cells)]) rfl rfl (k := 0) rfl rfl Tryd.sizeOf23 rfl rfl rfl fun w31 hM => ?_)
    dsimp only [List.set] at hM
    refine q_ hf rfl rfl rfl (e_assign hf rfl) fun a hf => ?_
    refine pl_nil ?_
    refine then_n ?_
    refine wp_seq ?_
    obtain ⟨x36, h37, h⟩ := bind_some h
    refine seq_join (fun a w => ∃ (t34 : Bool), t34 = x36 ∧ Has 29 a [(28, .bool (t34))] ∧ Mem C w [.box b27 [vI (y19.1.Rows), vI (y19.1.Cols), vS (y19.1.Cells)] 23, .box b12 [vI (y4.1.Rows), vI (y4.1.Cols), vS (y4.1.Cells)] 23] []) ?_ ?_
    · refine region_pl ?_
      refine q_ hf rfl rfl rfl (e_loadA hf (us := [vI (y19.1.Rows), vI (y19.1.Cols), vS (y19.1.Cells)]) rfl ⟨Tryd.isAgg23, Tryd.sizeOf23⟩ rfl (hM.boxSub (k := 0) (us := [vI (y19.1.Rows), vI (y19.1.Cols), vS (y19.1.Cells)]) (o := 0) rfl rfl)) fun a hf => ?_
      refine q_ hf rfl rfl rfl (e_loadA hf (us := [vI (y4.1.Rows), vI (y4.1.Cols), vS (y4.1.Cells)]) rfl ⟨Tryd.isAgg23, Tryd.sizeOf23⟩ rfl (hM.boxSub (k := 1) (us := [vI (y4.1.Rows), vI (y4.1.Cols), vS (y4.1.Cells)]) (o := 0) rfl rfl)) fun a hf => ?_
      obtain ⟨y38, hz39, h37⟩ := bind_some h37
      refine pl_l hf rfl rfl rfl (w_call hf Tryd.call6 rfl (r_laws_eqGrid ⟨_, Sh C _ _, none_, hM.sh_lt, none_not, C.G, hM.g_lt, g_none, hM.tabs⟩ y19.1 hv21 hv22 hv23 y4.1 hv6 hv7 hv8 _ hz39) ?_)
      rintro _ w40 ⟨rfl, hM2⟩
      obtain ⟨hM, hx41, hup42⟩ := hM.back hM2
      dsimp only [List.cons_append, List.nil_append] at hM hup42
      clear hM2
      refine ⟨_, rfl, fun a hf => ?_⟩
      refine q_ hf rfl rfl rfl (e_not hf rfl) fun a hf => ?_
      refine q_ hf rfl rfl rfl (e_move hf rfl) fun a hf => ?_
      rcases cond_some h37 with ⟨hc43, h37⟩ | ⟨hc43, h37⟩
      · refine pl_gs (wanted_f hf rfl rfl rfl rfl hc43) hf rfl rfl fun a hf => ?_
        refine pl_gs (wanted_f hf rfl rfl rfl rfl hc43) hf rfl rfl fun a hf => ?_
        refine pl_gs (wanted_f hf rfl rfl rfl rfl hc43) hf rfl rfl fun a hf => ?_
        refine q_ hf rfl rfl rfl (e_pick_t hf rfl hc43 rfl) fun a hf => ?_
        refine pl_nil ?_
        obtain rfl := some_inj h37
        refine then_n ?_
        exact ⟨true, rfl, hf.keep ⟨rfl, trivial⟩, hM.pick [] rfl⟩
      · refine gq (wanted_t hf rfl rfl rfl rfl hc43) hf rfl rfl (e_move hf rfl) fun a hf => ?_
        refine gq (wanted_t hf rfl rfl rfl rfl hc43) hf rfl rfl (e_move hf rfl) fun a hf => ?_
        refine gq (wanted_t hf rfl rfl rfl rfl hc43) hf rfl rfl (e_neT hf rfl rfl Tryd.underlying4) fun a hf => ?_
        refine q_ hf rfl rfl rfl (e_pick_f hf rfl hc43 rfl) fun a hf => ?_
        refine pl_nil ?_
        obtain rfl := some_inj h37
        refine then_n ?_
        exact ⟨(y19.2 != y4.2), rfl, hf.keep ⟨rfl, trivial⟩, hM.pick [] rfl⟩
    · rintro a w46 ⟨t34, rfl, hf, hM⟩
      try dsimp only at h
      rcases cond_some h with ⟨hc47, h⟩ | ⟨hc47, h⟩
      · refine cond_t hf rfl hc47 ?_
        refine wp_seq ?_
        refine region_pl ?_
        refine q_ hf rfl rfl rfl (e_assign hf rfl) fun a hf => ?_
        refine pl_nil ?_
        refine then_n ?_
        refine wp_ret ?_
        refine then_r ?_
        obtain rfl := some_inj h
        have hM := hM.outs (own' := []) 0 rfl
        exact leave1 hf rfl rfl ⟨rfl, hM.fin⟩
      · refine cond_f hf rfl hc47 ?_
        refine wp_skip ?_
        refine then_n ?_
        refine wp_seq ?_
        refine region_pl ?_
        refine q_ hf rfl rfl rfl (e_assign hf rfl) fun a hf => ?_
        refine pl_nil ?_
        refine then_n ?_
        refine wp_ret ?_
        obtain rfl := some_inj h
        have hM := hM.outs (own' := []) 0 rfl
        exact leave1 hf rfl rfl ⟨rfl, hM.fin⟩

end Go.Proofs.YtgmikhdealhlfaaDoor
