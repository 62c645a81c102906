/- The functions that this law reaches do what their models say. Printed by gen.py. -/
import Derived.Test.YtgmbcolpchckbaaMod
namespace Go.Proofs.Ytgmbcolpchckbaa
open Go Go.RowKit
set_option linter.unusedSimpArgs false
set_option linter.unusedVariables false

def FnC_Int_Drawn_to_Int (fk : FuncId) (fc : List Value) (f : Int → Drawn → Option Int) (C : Cx) : Prop := ∀ (x0 : Int) (hp1 : R64 x0) (x1 : Drawn) (hp2 : x1.Tiles.length ≤ maxLen) (hp3 : R64 x1.Ways) (r : Int) (h : f x0 x1 = some r),
    Calls Try.prog fk (([vI (x0), .agg #[vS (x1.Tiles), vI (x1.Ways)]] : List Value) ++ fc).toArray C.w0 fun e w => e = .returned (vI (r)) ∧ Mem C w [] [] ∧ R64 r

theorem ei_5 : ElemInfo Try.prog 5 1 := elemInfo (by kernel_rfl)

theorem ei_9 : ElemInfo Try.prog 9 1 := elemInfo (by kernel_rfl)

theorem ei_47 : ElemInfo Try.prog 47 2 := elemInfo (by kernel_rfl)

theorem bp_47 : ∀ (fs : Array Field), some (TypeDesc.struct fs) = Try.prog.underlying 47 → ∀ w, (fs.mapM fun (f : Field) => do pure (f.offset, ← sizeOf f.type)).run Try.prog w = .ok #[(0, 1), (1, 1)] w := by
  intro fs h w
  rw [Try.underlying47] at h
  cases h
  simp

set_option maxRecDepth 100000 in
set_option maxHeartbeats 4000000 in
theorem r_spec_l01Small (C : Cx) (c1 : UInt8) (r : Bool) (h : m_spec_l01Small c1 = some r) :
    Calls Try.prog 57 #[vB (c1)] C.w0 fun e w => e = .returned (.bool (r)) ∧ Mem C w [] [] := by
  have hM := Mem.begin C [] trivial
  refine enter Try.func57 rfl Try.ntmps57 rfl fun a hf => ?_
  unfold m_spec_l01Small at h
  refine wp_seq ?_
  refine region_pl ?_
  refine q_ hf rfl rfl rfl (e_assign hf rfl) fun a hf => ?_
  refine pl_nil ?_
  refine then_n ?_
  obtain ⟨x4, h5, h⟩ := bind_some h
  refine seq_join (fun a w => ∃ (t2 : Bool), t2 = x4 ∧ Has 9 a [(2, .bool (t2))] ∧ Mem C w [] []) ?_ ?_
  · refine region_pl ?_
    refine q_ hf rfl rfl rfl (e_move hf rfl) fun a hf => ?_
    refine q_ hf rfl rfl rfl (e_geB hf (x := c1) (y := 97) rfl rfl) fun a hf => ?_
    refine q_ hf rfl rfl rfl (e_move hf rfl) fun a hf => ?_
    rcases cond_some h5 with ⟨hc6, h5⟩ | ⟨hc6, h5⟩
    · refine gq (wanted_t hf rfl rfl rfl rfl hc6) hf rfl rfl (e_move hf rfl) fun a hf => ?_
      refine gq (wanted_t hf rfl rfl rfl rfl hc6) hf rfl rfl (e_leB hf (x := c1) (y := 122) rfl rfl) fun a hf => ?_
      refine q_ hf rfl rfl rfl (e_pick_t hf rfl hc6 rfl) fun a hf => ?_
      refine q_ hf rfl rfl rfl (e_assign hf rfl) fun a hf => ?_
      refine pl_nil ?_
      obtain rfl := some_inj h5
      refine then_n ?_
      exact ⟨(decide (c1 ≤ 122)), rfl, hf.keep ⟨rfl, trivial⟩, hM.pick [] rfl⟩
    · refine pl_gs (wanted_f hf rfl rfl rfl rfl hc6) hf rfl rfl fun a hf => ?_
      refine pl_gs (wanted_f hf rfl rfl rfl rfl hc6) hf rfl rfl fun a hf => ?_
      refine q_ hf rfl rfl rfl (e_pick_f hf rfl hc6 rfl) fun a hf => ?_
      refine q_ hf rfl rfl rfl (e_assign hf rfl) fun a hf => ?_
      refine pl_nil ?_
      obtain rfl := some_inj h5
      refine then_n ?_
      exact ⟨false, rfl, hf.keep ⟨rfl, trivial⟩, hM.pick [] rfl⟩
  · rintro a w9 ⟨t2, rfl, hf, hM⟩
    try dsimp only at h
    refine wp_ret ?_
    obtain rfl := some_inj h
    exact leave1 hf rfl rfl ⟨rfl, hM.fin⟩

set_option maxRecDepth 100000 in
set_option maxHeartbeats 4000000 in
theorem r_spec_l03Tile (C : Cx) (c1 : UInt8) (r : Bool) (h : m_spec_l03Tile c1 = some r) :
    Calls Try.prog 73 #[vB (c1)] C.w0 fun e w => e = .returned (.bool (r)) ∧ Mem C w [] [] := by
  have hM := Mem.begin C [] trivial
  refine enter Try.func73 rfl Try.ntmps73 rfl fun a hf => ?_
  unfold m_spec_l03Tile at h
  refine wp_seq ?_
  refine region_pl ?_
  refine q_ hf rfl rfl rfl (e_assign hf rfl) fun a hf => ?_
  refine pl_nil ?_
  refine then_n ?_
  obtain ⟨x4, h5, h⟩ := bind_some h
  refine seq_join (fun a w => ∃ (t2 : Bool), t2 = x4 ∧ Has 9 a [(2, .bool (t2))] ∧ Mem C w [] []) ?_ ?_
  · refine region_pl ?_
    refine q_ hf rfl rfl rfl (e_move hf rfl) fun a hf => ?_
    refine q_ hf rfl rfl rfl (e_eqB hf (x := c1) (y := 63) rfl rfl) fun a hf => ?_
    refine q_ hf rfl rfl rfl (e_move hf rfl) fun a hf => ?_
    rcases cond_some h5 with ⟨hc6, h5⟩ | ⟨hc6, h5⟩
    · refine pl_gs (wanted_f hf rfl rfl rfl rfl hc6) hf rfl rfl fun a hf => ?_
      refine pl_gs (wanted_f hf rfl rfl rfl rfl hc6) hf rfl rfl fun a hf => ?_
      refine q_ hf rfl rfl rfl (e_pick_t hf rfl hc6 rfl) fun a hf => ?_
      refine q_ hf rfl rfl rfl (e_assign hf rfl) fun a hf => ?_
      refine pl_nil ?_
      obtain rfl := some_inj h5
      refine then_n ?_
      exact ⟨true, rfl, hf.keep ⟨rfl, trivial⟩, hM.pick [] rfl⟩
    · refine gq (wanted_t hf rfl rfl rfl rfl hc6) hf rfl rfl (e_move hf rfl) fun a hf => ?_
      obtain ⟨y8, hz9, h5⟩ := bind_some h5
      refine pl_gl (wanted_t hf rfl rfl rfl rfl hc6) hf rfl rfl (w_call hf Try.call57 rfl (r_spec_l01Small ⟨_, Sh C _ _, none_, hM.sh_lt, none_not, C.G, hM.g_lt, g_none, hM.tabs⟩ c1 _ hz9) ?_)
      rintro _ w10 ⟨rfl, hM2⟩
      obtain ⟨hM, hx11, hup12⟩ := hM.back hM2
      dsimp only [List.cons_append, List.nil_append] at hM hup12
      clear hM2
      refine ⟨_, rfl, fun a hf => ?_⟩
      refine q_ hf rfl rfl rfl (e_pick_f hf rfl hc6 rfl) fun a hf => ?_
      refine q_ hf rfl rfl rfl (e_assign hf rfl) fun a hf => ?_
      refine pl_nil ?_
      obtain rfl := some_inj h5
      refine then_n ?_
      exact ⟨y8, rfl, hf.keep ⟨rfl, trivial⟩, hM.pick [] rfl⟩
  · rintro a w14 ⟨t2, rfl, hf, hM⟩
    try dsimp only at h
    refine wp_ret ?_
    obtain rfl := some_inj h
    exact leave1 hf rfl rfl ⟨rfl, hM.fin⟩

set_option maxRecDepth 100000 in
set_option maxHeartbeats 4000000 in
theorem r_spec_l03Pile (C : Cx) (s1 : Str) (hp2 : s1.length ≤ maxLen) (r : Bool) (h : m_spec_l03Pile s1 = some r) :
    Calls Try.prog 52 #[vS (s1)] C.w0 fun e w => e = .returned (.bool (r)) ∧ Mem C w [] [] := by
  have hM := Mem.begin C [] trivial
  refine enter Try.func52 rfl Try.ntmps52 rfl fun a hf => ?_
  unfold m_spec_l03Pile at h
  refine wp_seq ?_
  refine region_pl ?_
  refine q_ hf rfl rfl rfl (e_assign hf rfl) fun a hf => ?_
  refine pl_nil ?_
  refine then_n ?_
  obtain ⟨x3, h4, h⟩ := bind_some h
  refine seq_join (fun a w => (.inl ()) = x3 ∧ Has 32 a [(0, vS (s1))] ∧ Mem C w [] []) ?_ ?_
  · refine wp_seq ?_
    refine region_pl ?_
    refine q_ hf rfl rfl rfl (e_assign hf rfl) fun a hf => ?_
    refine pl_nil ?_
    refine then_n ?_
    refine wp_block ?_
    obtain ⟨x8, h9, h4⟩ := bind_some h4
    refine wp_loopM h9 (fun s a w => ∃ (n5 : Int), n5 = s ∧ Has 32 a [(0, vS (s1)), (3, vI (n5))] ∧ Mem C w [] [] ∧ R64 n5) ?_ ?_
    · exact ⟨0, rfl, hf.keep ⟨rfl, rfl, trivial⟩, hM.pick [] rfl, (R64_lit rfl)⟩
    · rintro s o10 a w7 ⟨n5, rfl, hf, hM, hv6⟩ h11 hd12
      replace h11 : m_spec_l03Pile_l1 s1 n5 = some o10 := h11
      unfold m_spec_l03Pile_l1 at h11
      refine wp_seq ?_
      refine wp_seq ?_
      refine region_pl ?_
      refine q_ hf rfl rfl rfl (e_move hf rfl) fun a hf => ?_
      refine q_ hf rfl rfl rfl (e_move hf rfl) fun a hf => ?_
      refine q_ hf rfl rfl rfl (e_lenS hf (x := s1) rfl Try.underlying9) fun a hf => ?_
      refine q_ hf rfl rfl rfl (e_lt hf (x := n5) (y := (s1.length : Int)) rfl rfl) fun a hf => ?_
      refine pl_nil ?_
      refine then_n ?_
      rcases cond_some h11 with ⟨hc13, h11⟩ | ⟨hc13, h11⟩
      · refine cond_t hf rfl hc13 ?_
        refine wp_skip ?_
        refine then_n ?_
        refine wp_seq ?_
        refine wp_block ?_
        obtain ⟨x16, h17, h11⟩ := bind_some h11
        refine seq_join (fun a w => ∃ (t14 : Bool), t14 = x16 ∧ Has 32 a [(0, vS (s1)), (3, vI (n5)), (28, .bool (t14))] ∧ Mem C w [] []) ?_ ?_
        · obtain ⟨w18, hw⟩ : ∃ x, x = w7.drew := ⟨_, rfl⟩
          refine region_pi (.q 0 (.q 1 (.q 2 (.l 3 (.q 4 (.q 5 (.q 6 (.q 7 (.q 8 (.q 9 (.q 10 (.q 11 (.q 12 (.q 13 (.q 14 (.q 15 (.q 16 (.q 17 (.q 18 (.nil)))))))))))))))))))) (Ext w18) rfl (by kernel_rfl) ?_
          have hM := hM.drew
          rw [← hw] at hM ⊢
          clear hw
          refine pi_q hf rfl rfl rfl rfl (Ext.refl _) (e_move hf rfl) fun a hf => ?_
          refine pi_q hf rfl rfl rfl rfl (Ext.refl _) (e_move hf rfl) fun a hf => ?_
          obtain ⟨c19, hz20, h17⟩ := bind_some h17
          refine pi_q hf rfl rfl rfl rfl (Ext.refl _) (e_indexS hf (x := s1) rfl rfl Try.underlying9 hz20) fun a hf => ?_
          refine pi_one ?_
          obtain ⟨y21, hz22, h17⟩ := bind_some h17
          refine pi_l hf rfl rfl rfl rfl (w_call hf Try.call73 rfl (r_spec_l03Tile ⟨_, Sh C _ _, none_, hM.sh_lt, none_not, C.G, hM.g_lt, g_none, hM.tabs⟩ c19 _ hz22) ?_)
          rintro _ w23 ⟨rfl, hM2⟩
          obtain ⟨hM, hx24, hup25⟩ := hM.back hM2
          dsimp only [List.cons_append, List.nil_append] at hM hup25
          clear hM2
          refine ⟨_, rfl, Ext w23, fun _ h => Ext.trans hx24 h, Ext.refl _, fun a hf => ?_⟩
          refine pi_q hf rfl rfl rfl rfl (Ext.refl _) (e_not hf rfl) fun a hf => ?_
          refine pi_q hf rfl rfl rfl rfl (Ext.refl _) (e_move hf rfl) fun a hf => ?_
          rcases cond_some h17 with ⟨hc26, h17⟩ | ⟨hc26, h17⟩
          · refine pi_gs hf rfl (wanted_f hf rfl rfl rfl rfl hc26) rfl rfl (Ext.refl _) fun a hf => ?_
            refine pi_gs hf rfl (wanted_f hf rfl rfl rfl rfl hc26) rfl rfl (Ext.refl _) fun a hf => ?_
            refine pi_gs hf rfl (wanted_f hf rfl rfl rfl rfl hc26) rfl rfl (Ext.refl _) fun a hf => ?_
            refine pi_gs hf rfl (wanted_u hf rfl rfl rfl rfl) rfl rfl (Ext.refl _) fun a hf => ?_
            refine pi_gs hf rfl (wanted_u hf rfl rfl rfl rfl) rfl rfl (Ext.refl _) fun a hf => ?_
            refine pi_gs hf rfl (wanted_u hf rfl rfl rfl rfl) rfl rfl (Ext.refl _) fun a hf => ?_
            refine pi_gs hf rfl (wanted_u hf rfl rfl rfl rfl) rfl rfl (Ext.refl _) fun a hf => ?_
            refine pi_gs hf rfl (wanted_u hf rfl rfl rfl rfl) rfl rfl (Ext.refl _) fun a hf => ?_
            refine pi_gs hf rfl (wanted_u hf rfl rfl rfl rfl) rfl rfl (Ext.refl _) fun a hf => ?_
            refine pi_gs hf rfl (wanted_u hf rfl rfl rfl rfl) rfl rfl (Ext.refl _) fun a hf => ?_
            refine pi_gs hf rfl (wanted_u hf rfl rfl rfl rfl) rfl rfl (Ext.refl _) fun a hf => ?_
            refine pi_gs hf rfl (wanted_f hf rfl rfl rfl rfl hc26) rfl rfl (Ext.refl _) fun a hf => ?_
            refine pi_q hf rfl rfl rfl rfl (Ext.refl _) (e_pick_t hf rfl hc26 rfl) fun a hf => ?_
            refine pi_nil ?_
            obtain rfl := some_inj h17
            refine then_n ?_
            exact ⟨true, rfl, hf.keep ⟨rfl, rfl, rfl, trivial⟩, hM.pick [] rfl⟩
          · refine pi_gq hf rfl (wanted_t hf rfl rfl rfl rfl hc26) rfl rfl (Ext.refl _) (e_move hf rfl) fun a hf => ?_
            refine pi_gq hf rfl (wanted_t hf rfl rfl rfl rfl hc26) rfl rfl (Ext.refl _) (e_gt hf (x := n5) (y := 0) rfl rfl) fun a hf => ?_
            refine pi_gq hf rfl (wanted_t hf rfl rfl rfl rfl hc26) rfl rfl (Ext.refl _) (e_move hf rfl) fun a hf => ?_
            rcases cond_some h17 with ⟨hc28, h17⟩ | ⟨hc28, h17⟩
            · refine pi_gq hf rfl (wanted_t hf rfl rfl rfl rfl hc28) rfl rfl (Ext.refl _) (e_move hf rfl) fun a hf => ?_
              refine pi_gq hf rfl (wanted_t hf rfl rfl rfl rfl hc28) rfl rfl (Ext.refl _) (e_move hf rfl) fun a hf => ?_
              obtain ⟨c29, hz30, h17⟩ := bind_some h17
              refine pi_gq hf rfl (wanted_t hf rfl rfl rfl rfl hc28) rfl rfl (Ext.refl _) (e_indexS hf (x := s1) rfl rfl Try.underlying9 hz30) fun a hf => ?_
              refine pi_gq hf rfl (wanted_t hf rfl rfl rfl rfl hc28) rfl rfl (Ext.refl _) (e_move hf rfl) fun a hf => ?_
              refine pi_gq hf rfl (wanted_t hf rfl rfl rfl rfl hc28) rfl rfl (Ext.refl _) (e_move hf rfl) fun a hf => ?_
              obtain ⟨z31, hz32, h17⟩ := bind_some h17
              refine pi_gq hf rfl (wanted_t hf rfl rfl rfl rfl hc28) rfl rfl (Ext.refl _) (e_sub hf rfl rfl hz32) fun a hf => ?_
              obtain ⟨c33, hz34, h17⟩ := bind_some h17
              refine pi_gq hf rfl (wanted_t hf rfl rfl rfl rfl hc28) rfl rfl (Ext.refl _) (e_indexS hf (x := s1) rfl rfl Try.underlying9 hz34) fun a hf => ?_
              refine pi_gq hf rfl (wanted_t hf rfl rfl rfl rfl hc28) rfl rfl (Ext.refl _) (e_ltB hf (x := c29) (y := c33) rfl rfl) fun a hf => ?_
              refine pi_gq hf rfl (wanted_t hf rfl rfl rfl rfl hc26) rfl rfl (Ext.refl _) (e_pick_t hf rfl hc28 rfl) fun a hf => ?_
              refine pi_q hf rfl rfl rfl rfl (Ext.refl _) (e_pick_f hf rfl hc26 rfl) fun a hf => ?_
              refine pi_nil ?_
              obtain rfl := some_inj h17
              refine then_n ?_
              exact ⟨(decide (c29 < c33)), rfl, hf.keep ⟨rfl, rfl, rfl, trivial⟩, hM.pick [] rfl⟩
            · refine pi_gs hf rfl (wanted_f hf rfl rfl rfl rfl hc28) rfl rfl (Ext.refl _) fun a hf => ?_
              refine pi_gs hf rfl (wanted_f hf rfl rfl rfl rfl hc28) rfl rfl (Ext.refl _) fun a hf => ?_
              refine pi_gs hf rfl (wanted_f hf rfl rfl rfl rfl hc28) rfl rfl (Ext.refl _) fun a hf => ?_
              refine pi_gs hf rfl (wanted_f hf rfl rfl rfl rfl hc28) rfl rfl (Ext.refl _) fun a hf => ?_
              refine pi_gs hf rfl (wanted_f hf rfl rfl rfl rfl hc28) rfl rfl (Ext.refl _) fun a hf => ?_
              refine pi_gs hf rfl (wanted_f hf rfl rfl rfl rfl hc28) rfl rfl (Ext.refl _) fun a hf => ?_
              refine pi_gs hf rfl (wanted_f hf rfl rfl rfl rfl hc28) rfl rfl (Ext.refl _) fun a hf => ?_
              refine pi_gs hf rfl (wanted_f hf rfl rfl rfl rfl hc28) rfl rfl (Ext.refl _) fun a hf => ?_
              refine pi_gq hf rfl (wanted_t hf rfl rfl rfl rfl hc26) rfl rfl (Ext.refl _) (e_pick_f hf rfl hc28 rfl) fun a hf => ?_
              refine pi_q hf rfl rfl rfl rfl (Ext.refl _) (e_pick_f hf rfl hc26 rfl) fun a hf => ?_
              refine pi_nil ?_
              obtain rfl := some_inj h17
              refine then_n ?_
              exact ⟨false, rfl, hf.keep ⟨rfl, rfl, rfl, trivial⟩, hM.pick [] rfl⟩
        · rintro a w37 ⟨t14, rfl, hf, hM⟩
          try dsimp only at h11
          rcases cond_some h11 with ⟨hc38, h11⟩ | ⟨hc38, h11⟩
          · refine cond_t hf rfl hc38 ?_
            refine wp_seq ?_
            refine region_pl ?_
            refine q_ hf rfl rfl rfl (e_assign hf rfl) fun a hf => ?_
            refine pl_nil ?_
            refine then_n ?_
            refine wp_ret ?_
            refine blk_r ?_
            refine then_r ?_
            obtain rfl := some_inj h11
            obtain rfl := hd12 _ rfl
            try dsimp only at h4
            refine then_r ?_
            refine blk_r ?_
            obtain rfl := some_inj h4
            try dsimp only at h
            refine then_r ?_
            obtain rfl := some_inj h
            exact leave1 hf rfl rfl ⟨rfl, hM.fin⟩
          · refine cond_f hf rfl hc38 ?_
            refine wp_skip ?_
            refine blk_n ?_
            refine then_n ?_
            refine region_pl ?_
            refine q_ hf rfl rfl rfl (e_move hf rfl) fun a hf => ?_
            obtain ⟨z39, hz40, h11⟩ := bind_some h11
            refine q_ hf rfl rfl rfl (e_add hf rfl rfl hz40) fun a hf => ?_
            refine q_ hf rfl rfl rfl (e_assign hf rfl) fun a hf => ?_
            refine pl_nil ?_
            obtain rfl := some_inj h11
            refine then_n ⟨_, rfl, ?_⟩
            exact ⟨z39, rfl, hf.keep ⟨rfl, rfl, trivial⟩, hM.pick [] rfl, (chk_R hz40)⟩
      · refine cond_f hf rfl hc13 ?_
        refine wp_exit ?_
        refine then_x ?_
        obtain rfl := some_inj h11
        obtain rfl := hd12 _ rfl
        try dsimp only at h4
        refine then_x ?_
        refine exit_hit ?_
        obtain rfl := some_inj h4
        refine then_n ?_
        exact ⟨rfl, hf.keep ⟨rfl, trivial⟩, hM.pick [] rfl⟩
  · rintro a w47 ⟨rfl, hf, hM⟩
    try dsimp only at h
    refine wp_seq ?_
    refine region_pl ?_
    refine q_ hf rfl rfl rfl (e_move hf rfl) fun a hf => ?_
    refine q_ hf rfl rfl rfl (e_lenS hf (x := s1) rfl Try.underlying9) fun a hf => ?_
    refine q_ hf rfl rfl rfl (e_le hf (x := (s1.length : Int)) (y := 120) rfl rfl) fun a hf => ?_
    refine q_ hf rfl rfl rfl (e_assign hf rfl) fun a hf => ?_
    refine pl_nil ?_
    refine then_n ?_
    refine wp_ret ?_
    obtain rfl := some_inj h
    exact leave1 hf rfl rfl ⟨rfl, hM.fin⟩

set_option maxRecDepth 100000 in
set_option maxHeartbeats 4000000 in
theorem r_spec_l21Pool (C : Cx) (s1 : Str) (hp2 : s1.length ≤ maxLen) (r : Bool) (h : m_spec_l21Pool s1 = some r) :
    Calls Try.prog 54 #[vS (s1)] C.w0 fun e w => e = .returned (.bool (r)) ∧ Mem C w [] [] := by
  have hM := Mem.begin C [] trivial
  refine enter Try.func54 rfl Try.ntmps54 rfl fun a hf => ?_
  unfold m_spec_l21Pool at h
  refine wp_seq ?_
  refine region_pl ?_
  refine q_ hf rfl rfl rfl (e_assign hf rfl) fun a hf => ?_
  refine pl_nil ?_
  refine then_n ?_
  obtain ⟨x5, h6, h⟩ := bind_some h
  refine seq_join (fun a w => ∃ (t3 : Bool), t3 = x5 ∧ Has 10 a [(2, .bool (t3))] ∧ Mem C w [] []) ?_ ?_
  · refine region_pl ?_
    refine q_ hf rfl rfl rfl (e_move hf rfl) fun a hf => ?_
    obtain ⟨y7, hz8, h6⟩ := bind_some h6
    refine pl_l hf rfl rfl rfl (w_call hf Try.call52 rfl (r_spec_l03Pile ⟨_, Sh C _ _, none_, hM.sh_lt, none_not, C.G, hM.g_lt, g_none, hM.tabs⟩ s1 hp2 _ hz8) ?_)
    rintro _ w9 ⟨rfl, hM2⟩
    obtain ⟨hM, hx10, hup11⟩ := hM.back hM2
    dsimp only [List.cons_append, List.nil_append] at hM hup11
    clear hM2
    refine ⟨_, rfl, fun a hf => ?_⟩
    refine q_ hf rfl rfl rfl (e_move hf rfl) fun a hf => ?_
    rcases cond_some h6 with ⟨hc12, h6⟩ | ⟨hc12, h6⟩
    · refine gq (wanted_t hf rfl rfl rfl rfl hc12) hf rfl rfl (e_move hf rfl) fun a hf => ?_
      refine gq (wanted_t hf rfl rfl rfl rfl hc12) hf rfl rfl (e_lenS hf (x := s1) rfl Try.underlying9) fun a hf => ?_
      refine gq (wanted_t hf rfl rfl rfl rfl hc12) hf rfl rfl (e_le hf (x := (s1.length : Int)) (y := 12) rfl rfl) fun a hf => ?_
      refine q_ hf rfl rfl rfl (e_pick_t hf rfl hc12 rfl) fun a hf => ?_
      refine q_ hf rfl rfl rfl (e_assign hf rfl) fun a hf => ?_
      refine pl_nil ?_
      obtain rfl := some_inj h6
      refine then_n ?_
      exact ⟨(decide ((s1.length : Int) ≤ 12)), rfl, hf.keep ⟨rfl, trivial⟩, hM.pick [] rfl⟩
    · refine pl_gs (wanted_f hf rfl rfl rfl rfl hc12) hf rfl rfl fun a hf => ?_
      refine pl_gs (wanted_f hf rfl rfl rfl rfl hc12) hf rfl rfl fun a hf => ?_
      refine pl_gs (wanted_f hf rfl rfl rfl rfl hc12) hf rfl rfl fun a hf => ?_
      refine q_ hf rfl rfl rfl (e_pick_f hf rfl hc12 rfl) fun a hf => ?_
      refine q_ hf rfl rfl rfl (e_assign hf rfl) fun a hf => ?_
      refine pl_nil ?_
      obtain rfl := some_inj h6
      refine then_n ?_
      exact ⟨false, rfl, hf.keep ⟨rfl, trivial⟩, hM.pick [] rfl⟩
  · rintro a w15 ⟨t3, rfl, hf, hM⟩
    try dsimp only at h
    refine wp_ret ?_
    obtain rfl := some_inj h
    exact leave1 hf rfl rfl ⟨rfl, hM.fin⟩

set_option maxRecDepth 100000 in
set_option maxHeartbeats 4000000 in
theorem r_spec_l00Min (C : Cx) (a1 : Int) (hp2 : R64 a1) (b3 : Int) (hp4 : R64 b3) (r : Int) (h : m_spec_l00Min a1 b3 = some r) :
    Calls Try.prog 74 #[vI (a1), vI (b3)] C.w0 fun e w => e = .returned (vI (r)) ∧ Mem C w [] [] ∧ R64 r := by
  have hM := Mem.begin C [] trivial
  refine enter Try.func74 rfl Try.ntmps74 rfl fun a hf => ?_
  unfold m_spec_l00Min at h
  refine wp_seq ?_
  refine region_pl ?_
  refine q_ hf rfl rfl rfl (e_assign hf rfl) fun a hf => ?_
  refine pl_nil ?_
  refine then_n ?_
  refine wp_seq ?_
  refine wp_seq ?_
  refine region_pl ?_
  refine q_ hf rfl rfl rfl (e_move hf rfl) fun a hf => ?_
  refine q_ hf rfl rfl rfl (e_move hf rfl) fun a hf => ?_
  refine q_ hf rfl rfl rfl (e_lt hf (x := a1) (y := b3) rfl rfl) fun a hf => ?_
  refine pl_nil ?_
  refine then_n ?_
  rcases cond_some h with ⟨hc5, h⟩ | ⟨hc5, h⟩
  · refine cond_t hf rfl hc5 ?_
    refine wp_seq ?_
    refine region_pl ?_
    refine q_ hf rfl rfl rfl (e_move hf rfl) fun a hf => ?_
    refine q_ hf rfl rfl rfl (e_assign hf rfl) fun a hf => ?_
    refine pl_nil ?_
    refine then_n ?_
    refine wp_ret ?_
    refine then_r ?_
    obtain rfl := some_inj h
    exact leave1 hf rfl rfl ⟨rfl, hM.fin, hp2⟩
  · refine cond_f hf rfl hc5 ?_
    refine wp_skip ?_
    refine then_n ?_
    refine wp_seq ?_
    refine region_pl ?_
    refine q_ hf rfl rfl rfl (e_move hf rfl) fun a hf => ?_
    refine q_ hf rfl rfl rfl (e_assign hf rfl) fun a hf => ?_
    refine pl_nil ?_
    refine then_n ?_
    refine wp_ret ?_
    obtain rfl := some_inj h
    exact leave1 hf rfl rfl ⟨rfl, hM.fin, hp4⟩

set_option maxRecDepth 100000 in
set_option maxHeartbeats 4000000 in
theorem r_spec_l00In (C : Cx) (n1 : Int) (hp2 : R64 n1) (low3 : Int) (hp4 : R64 low3) (high5 : Int) (hp6 : R64 high5) (r : Bool) (h : m_spec_l00In n1 low3 high5 = some r) :
    Calls Try.prog 56 #[vI (n1), vI (low3), vI (high5)] C.w0 fun e w => e = .returned (.bool (r)) ∧ Mem C w [] [] := by
  have hM := Mem.begin C [] trivial
  refine enter Try.func56 rfl Try.ntmps56 rfl fun a hf => ?_
  unfold m_spec_l00In at h
  refine wp_seq ?_
  refine region_pl ?_
  refine q_ hf rfl rfl rfl (e_assign hf rfl) fun a hf => ?_
  refine pl_nil ?_
  refine then_n ?_
  obtain ⟨x9, h10, h⟩ := bind_some h
  refine seq_join (fun a w => ∃ (t7 : Bool), t7 = x9 ∧ Has 15 a [(6, .bool (t7))] ∧ Mem C w [] []) ?_ ?_
  · refine region_pl ?_
    refine q_ hf rfl rfl rfl (e_move hf rfl) fun a hf => ?_
    refine q_ hf rfl rfl rfl (e_move hf rfl) fun a hf => ?_
    refine q_ hf rfl rfl rfl (e_ge hf (x := n1) (y := low3) rfl rfl) fun a hf => ?_
    refine q_ hf rfl rfl rfl (e_move hf rfl) fun a hf => ?_
    rcases cond_some h10 with ⟨hc11, h10⟩ | ⟨hc11, h10⟩
    · refine gq (wanted_t hf rfl rfl rfl rfl hc11) hf rfl rfl (e_move hf rfl) fun a hf => ?_
      refine gq (wanted_t hf rfl rfl rfl rfl hc11) hf rfl rfl (e_move hf rfl) fun a hf => ?_
      refine gq (wanted_t hf rfl rfl rfl rfl hc11) hf rfl rfl (e_le hf (x := n1) (y := high5) rfl rfl) fun a hf => ?_
      refine q_ hf rfl rfl rfl (e_pick_t hf rfl hc11 rfl) fun a hf => ?_
      refine q_ hf rfl rfl rfl (e_assign hf rfl) fun a hf => ?_
      refine pl_nil ?_
      obtain rfl := some_inj h10
      refine then_n ?_
      exact ⟨(decide (n1 ≤ high5)), rfl, hf.keep ⟨rfl, trivial⟩, hM.pick [] rfl⟩
    · refine pl_gs (wanted_f hf rfl rfl rfl rfl hc11) hf rfl rfl fun a hf => ?_
      refine pl_gs (wanted_f hf rfl rfl rfl rfl hc11) hf rfl rfl fun a hf => ?_
      refine pl_gs (wanted_f hf rfl rfl rfl rfl hc11) hf rfl rfl fun a hf => ?_
      refine q_ hf rfl rfl rfl (e_pick_f hf rfl hc11 rfl) fun a hf => ?_
      refine q_ hf rfl rfl rfl (e_assign hf rfl) fun a hf => ?_
      refine pl_nil ?_
      obtain rfl := some_inj h10
      refine then_n ?_
      exact ⟨false, rfl, hf.keep ⟨rfl, trivial⟩, hM.pick [] rfl⟩
  · rintro a w14 ⟨t7, rfl, hf, hM⟩
    try dsimp only at h
    refine wp_ret ?_
    obtain rfl := some_inj h
    exact leave1 hf rfl rfl ⟨rfl, hM.fin⟩

set_option maxRecDepth 100000 in
set_option maxHeartbeats 4000000 in
theorem r_spec_l21Code (C : Cx) (pile1 : Str) (hp2 : pile1.length ≤ maxLen) (n3 : Int) (hp4 : R64 n3) (r : Int) (h : m_spec_l21Code pile1 n3 = some r) :
    Calls Try.prog 55 #[vS (pile1), vI (n3)] C.w0 fun e w => e = .returned (vI (r)) ∧ Mem C w [] [] ∧ R64 r := by
  have hM := Mem.begin C [] trivial
  refine enter Try.func55 rfl Try.ntmps55 rfl fun a hf => ?_
  unfold m_spec_l21Code at h
  refine wp_seq ?_
  refine region_pl ?_
  refine q_ hf rfl rfl rfl (e_assign hf rfl) fun a hf => ?_
  refine pl_nil ?_
  refine then_n ?_
  refine wp_seq ?_
  refine wp_seq ?_
  refine region_pl ?_
  refine q_ hf rfl rfl rfl (e_move hf rfl) fun a hf => ?_
  obtain ⟨y5, hz6, h⟩ := bind_some h
  refine pl_l hf rfl rfl rfl (w_call hf Try.call54 rfl (r_spec_l21Pool ⟨_, Sh C _ _, none_, hM.sh_lt, none_not, C.G, hM.g_lt, g_none, hM.tabs⟩ pile1 hp2 _ hz6) ?_)
  rintro _ w7 ⟨rfl, hM2⟩
  obtain ⟨hM, hx8, hup9⟩ := hM.back hM2
  dsimp only [List.cons_append, List.nil_append] at hM hup9
  clear hM2
  refine ⟨_, rfl, fun a hf => ?_⟩
  refine q_ hf rfl rfl rfl (e_not hf rfl) fun a hf => ?_
  refine pl_nil ?_
  refine then_n ?_
  rcases cond_some h with ⟨hc10, h⟩ | ⟨hc10, h⟩
  · refine cond_t hf rfl hc10 ?_
    refine wp_seq ?_
    refine region_pl ?_
    refine q_ hf rfl rfl rfl (e_assign hf rfl) fun a hf => ?_
    refine pl_nil ?_
    refine then_n ?_
    refine wp_ret ?_
    refine then_r ?_
    obtain rfl := some_inj h
    exact leave1 hf rfl rfl ⟨rfl, hM.fin, (R64_lit rfl)⟩
  · refine cond_f hf rfl hc10 ?_
    refine wp_skip ?_
    refine then_n ?_
    refine wp_seq ?_
    refine wp_seq ?_
    refine region_pl ?_
    refine q_ hf rfl rfl rfl (e_move hf rfl) fun a hf => ?_
    refine q_ hf rfl rfl rfl (e_move hf rfl) fun a hf => ?_
    refine q_ hf rfl rfl rfl (e_lenS hf (x := pile1) rfl Try.underlying9) fun a hf => ?_
    obtain ⟨y11, hz12, h⟩ := bind_some h
    refine pl_l hf rfl rfl rfl (w_call hf Try.call74 rfl (r_spec_l00Min ⟨_, Sh C _ _, none_, hM.sh_lt, none_not, C.G, hM.g_lt, g_none, hM.tabs⟩ 7 (R64_lit rfl) (pile1.length : Int) (R64_len hp2) _ hz12) ?_)
    rintro _ w14 ⟨rfl, hM2, hv13⟩
    obtain ⟨hM, hx15, hup16⟩ := hM.back hM2
    dsimp only [List.cons_append, List.nil_append] at hM hup16
    clear hM2
    refine ⟨_, rfl, fun a hf => ?_⟩
    obtain ⟨y17, hz18, h⟩ := bind_some h
    refine pl_l hf rfl rfl rfl (w_call hf Try.call56 rfl (r_spec_l00In ⟨_, Sh C _ _, none_, hM.sh_lt, none_not, C.G, hM.g_lt, g_none, hM.tabs⟩ n3 hp4 0 (R64_lit rfl) y11 hv13 _ hz18) ?_)
    rintro _ w19 ⟨rfl, hM2⟩
    obtain ⟨hM, hx20, hup21⟩ := hM.back hM2
    dsimp only [List.cons_append, List.nil_append] at hM hup21
    clear hM2
    refine ⟨_, rfl, fun a hf => ?_⟩
    refine q_ hf rfl rfl rfl (e_not hf rfl) fun a hf => ?_
    refine pl_nil ?_
    refine then_n ?_
    rcases cond_some h with ⟨hc22, h⟩ | ⟨hc22, h⟩
    · refine cond_t hf rfl hc22 ?_
      refine wp_seq ?_
      refine region_pl ?_
      refine q_ hf rfl rfl rfl (e_assign hf rfl) fun a hf => ?_
      refine pl_nil ?_
      refine then_n ?_
      refine wp_ret ?_
      refine then_r ?_
      obtain rfl := some_inj h
      exact leave1 hf rfl rfl ⟨rfl, hM.fin, (R64_lit rfl)⟩
    · refine cond_f hf rfl hc22 ?_
      refine wp_skip ?_
      refine then_n ?_
      refine wp_seq ?_
      refine region_pl ?_
      refine q_ hf rfl rfl rfl (e_assign hf rfl) fun a hf => ?_
      refine pl_nil ?_
      refine then_n ?_
      refine wp_ret ?_
      obtain rfl := some_inj h
      exact leave1 hf rfl rfl ⟨rfl, hM.fin, (R64_lit rfl)⟩

set_option maxRecDepth 100000 in
set_option maxHeartbeats 4000000 in
theorem r_spec_l03Insert (C : Cx) (list1 : (List Str)) (A2 : Option Addr) (c3 : Nat) (t4 : Str) (hp5 : t4.length ≤ maxLen) (hO : Mem C C.w0 [.row strRep A2 c3 9 list1 true] []) (hd : ∀ b, C.S0 b → ¬ ownB [.row strRep A2 c3 9 list1 true] b) (r : (List Str)) (h : m_spec_l03Insert list1 t4 = some r) :
    Calls Try.prog 78 #[vL A2 (list1) c3, vS (t4)] C.w0 fun e w => ∃ (A_1 : Option Addr), ∃ (c_1 : Nat), e = .returned (vL A_1 (r) c_1) ∧ Mem C w [.row strRep A_1 c_1 9 r true] [] := by
  have hM := hO
  refine enter Try.func78 rfl Try.ntmps78 rfl fun a hf => ?_
  unfold m_spec_l03Insert at h
  refine wp_seq ?_
  refine region_pl ?_
  refine q_ hf rfl rfl rfl (e_assign hf rfl) fun a hf => ?_
  refine pl_nil ?_
  refine then_n ?_
  refine wp_seq ?_
  refine region_pl ?_
  refine q_ hf rfl rfl rfl (e_move hf rfl) fun a hf => ?_
  have hl6 := row_len (hM.ownAt (k := 0) rfl)
  refine q_ hf rfl rfl rfl (e_lenL hf (x := list1) rfl Try.underlying76) fun a hf => ?_
  refine q_ hf rfl rfl rfl (e_assign hf rfl) fun a hf => ?_
  refine pl_nil ?_
  refine then_n ?_
  obtain ⟨x9, h10, h⟩ := bind_some h
  refine seq_join (fun a w => ∃ (n7 : Int), n7 = x9 ∧ Has 48 a [(0, vL A2 (list1) c3), (1, vS (t4)), (5, vI (n7))] ∧ Mem C w [.row strRep A2 c3 9 list1 true] [] ∧ R64 n7) ?_ ?_
  · refine wp_block ?_
    obtain ⟨x16, h17, h10⟩ := bind_some h10
    refine wp_loopM h17 (fun s a w => ∃ (n11 : Int), n11 = s ∧ Has 48 a [(0, vL A2 (list1) c3), (1, vS (t4)), (5, vI (n11))] ∧ Mem C w [.row strRep A2 c3 9 list1 true] [] ∧ R64 n11) ?_ ?_
    · exact ⟨(list1.length : Int), rfl, hf.keep ⟨rfl, rfl, rfl, trivial⟩, hM.pick [] rfl, (R64_len hl6)⟩
    · rintro s o18 a w13 ⟨n11, rfl, hf, hM, hv12⟩ h19 hd20
      replace h19 : m_spec_l03Insert_l1 list1 t4 n11 = some o18 := h19
      unfold m_spec_l03Insert_l1 at h19
      refine wp_seq ?_
      obtain ⟨x23, h24, h19⟩ := bind_some h19
      refine seq_join (fun a w => ∃ (t21 : Bool), t21 = x23 ∧ Has 48 a [(0, vL A2 (list1) c3), (1, vS (t4)), (5, vI (n11)), (19, .bool (t21))] ∧ Mem C w [.row strRep A2 c3 9 list1 true] []) ?_ ?_
      · refine region_pl ?_
        refine q_ hf rfl rfl rfl (e_move hf rfl) fun a hf => ?_
        refine q_ hf rfl rfl rfl (e_gt hf (x := n11) (y := 0) rfl rfl) fun a hf => ?_
        refine q_ hf rfl rfl rfl (e_move hf rfl) fun a hf => ?_
        rcases cond_some h24 with ⟨hc25, h24⟩ | ⟨hc25, h24⟩
        · refine gq (wanted_t hf rfl rfl rfl rfl hc25) hf rfl rfl (e_move hf rfl) fun a hf => ?_
          refine gq (wanted_t hf rfl rfl rfl rfl hc25) hf rfl rfl (e_move hf rfl) fun a hf => ?_
          obtain ⟨z26, hz27, h24⟩ := bind_some h24
          refine gq (wanted_t hf rfl rfl rfl rfl hc25) hf rfl rfl (e_sub hf rfl rfl hz27) fun a hf => ?_
          obtain ⟨e28, hz29, h24⟩ := bind_some h24
          obtain ⟨b34, _, hA35, h30, h31, hr32, hcell33⟩ := hM.rowElemN (k := 0) rfl (n := 1) rfl hz29
          obtain ⟨rfl, hv36⟩ := hr32
          refine gq (wanted_t hf rfl rfl rfl rfl hc25) hf rfl rfl (e_indexAddr (A := A2) (b := b34) (o := 0) (xs := list1) (i := z26) hf hA35 rfl rfl Try.underlying76 Try.sizeOf9 h30 h31) fun a hf => ?_
          refine gq (wanted_t hf rfl rfl rfl rfl hc25) hf rfl rfl (e_load1 hf rfl Try.isAgg9 (hcell33 0 _ rfl)) fun a hf => ?_
          refine gq (wanted_t hf rfl rfl rfl rfl hc25) hf rfl rfl (e_move hf rfl) fun a hf => ?_
          refine gq (wanted_t hf rfl rfl rfl rfl hc25) hf rfl rfl (e_gtS hf (x := e28) (y := t4) rfl rfl) fun a hf => ?_
          refine q_ hf rfl rfl rfl (e_pick_t hf rfl hc25 rfl) fun a hf => ?_
          refine pl_nil ?_
          obtain rfl := some_inj h24
          refine then_n ?_
          exact ⟨(!(ltS e28 t4 || e28 == t4)), rfl, hf.keep ⟨rfl, rfl, rfl, rfl, trivial⟩, hM.pick [] rfl⟩
        · refine pl_gs (wanted_f hf rfl rfl rfl rfl hc25) hf rfl rfl fun a hf => ?_
          refine pl_gs (wanted_f hf rfl rfl rfl rfl hc25) hf rfl rfl fun a hf => ?_
          refine pl_gs (wanted_f hf rfl rfl rfl rfl hc25) hf rfl rfl fun a hf => ?_
          refine pl_gs (wanted_f hf rfl rfl rfl rfl hc25) hf rfl rfl fun a hf => ?_
          refine pl_gs (wanted_f hf rfl rfl rfl rfl hc25) hf rfl rfl fun a hf => ?_
          refine pl_gs (wanted_f hf rfl rfl rfl rfl hc25) hf rfl rfl fun a hf => ?_
          refine pl_gs (wanted_f hf rfl rfl rfl rfl hc25) hf rfl rfl fun a hf => ?_
          refine q_ hf rfl rfl rfl (e_pick_f hf rfl hc25 rfl) fun a hf => ?_
          refine pl_nil ?_
          obtain rfl := some_inj h24
          refine then_n ?_
          exact ⟨false, rfl, hf.keep ⟨rfl, rfl, rfl, rfl, trivial⟩, hM.pick [] rfl⟩
      · rintro a w39 ⟨t21, rfl, hf, hM⟩
        try dsimp only at h19
        rcases cond_some h19 with ⟨hc40, h19⟩ | ⟨hc40, h19⟩
        · refine cond_t hf rfl hc40 ?_
          refine wp_skip ?_
          refine then_n ?_
          refine wp_block ?_
          refine region_pl ?_
          refine q_ hf rfl rfl rfl (e_move hf rfl) fun a hf => ?_
          obtain ⟨z41, hz42, h19⟩ := bind_some h19
          refine q_ hf rfl rfl rfl (e_sub hf rfl rfl hz42) fun a hf => ?_
          refine q_ hf rfl rfl rfl (e_assign hf rfl) fun a hf => ?_
          refine pl_nil ?_
          refine blk_n ?_
          obtain rfl := some_inj h19
          refine then_n ⟨_, rfl, ?_⟩
          exact ⟨z41, rfl, hf.keep ⟨rfl, rfl, rfl, trivial⟩, hM.pick [] rfl, (chk_R hz42)⟩
        · refine cond_f hf rfl hc40 ?_
          refine wp_exit ?_
          refine then_x ?_
          obtain rfl := some_inj h19
          obtain rfl := hd20 _ rfl
          try dsimp only at h10
          refine then_x ?_
          refine exit_hit ?_
          obtain rfl := some_inj h10
          refine then_n ?_
          exact ⟨n11, rfl, hf.keep ⟨rfl, rfl, rfl, trivial⟩, hM.pick [] rfl, hv12⟩
  · rintro a w48 ⟨n7, rfl, hf, hM, hv8⟩
    try dsimp only at h
    refine wp_seq ?_
    obtain ⟨x51, h52, h⟩ := bind_some h
    refine seq_join (fun a w => ∃ (t49 : Bool), t49 = x51 ∧ Has 48 a [(0, vL A2 (list1) c3), (1, vS (t4)), (5, vI (n7)), (32, .bool (t49))] ∧ Mem C w [.row strRep A2 c3 9 list1 true] []) ?_ ?_
    · refine region_pl ?_
      refine q_ hf rfl rfl rfl (e_move hf rfl) fun a hf => ?_
      refine q_ hf rfl rfl rfl (e_gt hf (x := n7) (y := 0) rfl rfl) fun a hf => ?_
      refine q_ hf rfl rfl rfl (e_move hf rfl) fun a hf => ?_
      rcases cond_some h52 with ⟨hc53, h52⟩ | ⟨hc53, h52⟩
      · refine gq (wanted_t hf rfl rfl rfl rfl hc53) hf rfl rfl (e_move hf rfl) fun a hf => ?_
        refine gq (wanted_t hf rfl rfl rfl rfl hc53) hf rfl rfl (e_move hf rfl) fun a hf => ?_
        obtain ⟨z54, hz55, h52⟩ := bind_some h52
        refine gq (wanted_t hf rfl rfl rfl rfl hc53) hf rfl rfl (e_sub hf rfl rfl hz55) fun a hf => ?_
        obtain ⟨e56, hz57, h52⟩ := bind_some h52
        obtain ⟨b62, _, hA63, h58, h59, hr60, hcell61⟩ := hM.rowElemN (k := 0) rfl (n := 1) rfl hz57
        obtain ⟨rfl, hv64⟩ := hr60
        refine gq (wanted_t hf rfl rfl rfl rfl hc53) hf rfl rfl (e_indexAddr (A := A2) (b := b62) (o := 0) (xs := list1) (i := z54) hf hA63 rfl rfl Try.underlying76 Try.sizeOf9 h58 h59) fun a hf => ?_
        refine gq (wanted_t hf rfl rfl rfl rfl hc53) hf rfl rfl (e_load1 hf rfl Try.isAgg9 (hcell61 0 _ rfl)) fun a hf => ?_
        refine gq (wanted_t hf rfl rfl rfl rfl hc53) hf rfl rfl (e_move hf rfl) fun a hf => ?_
        refine gq (wanted_t hf rfl rfl rfl rfl hc53) hf rfl rfl (e_eqS hf (x := e56) (y := t4) rfl rfl) fun a hf => ?_
        refine q_ hf rfl rfl rfl (e_pick_t hf rfl hc53 rfl) fun a hf => ?_
        refine pl_nil ?_
        obtain rfl := some_inj h52
        refine then_n ?_
        exact ⟨(e56 == t4), rfl, hf.keep ⟨rfl, rfl, rfl, rfl, trivial⟩, hM.pick [] rfl⟩
      · refine pl_gs (wanted_f hf rfl rfl rfl rfl hc53) hf rfl rfl fun a hf => ?_
        refine pl_gs (wanted_f hf rfl rfl rfl rfl hc53) hf rfl rfl fun a hf => ?_
        refine pl_gs (wanted_f hf rfl rfl rfl rfl hc53) hf rfl rfl fun a hf => ?_
        refine pl_gs (wanted_f hf rfl rfl rfl rfl hc53) hf rfl rfl fun a hf => ?_
        refine pl_gs (wanted_f hf rfl rfl rfl rfl hc53) hf rfl rfl fun a hf => ?_
        refine pl_gs (wanted_f hf rfl rfl rfl rfl hc53) hf rfl rfl fun a hf => ?_
        refine pl_gs (wanted_f hf rfl rfl rfl rfl hc53) hf rfl rfl fun a hf => ?_
        refine q_ hf rfl rfl rfl (e_pick_f hf rfl hc53 rfl) fun a hf => ?_
        refine pl_nil ?_
        obtain rfl := some_inj h52
        refine then_n ?_
        exact ⟨false, rfl, hf.keep ⟨rfl, rfl, rfl, rfl, trivial⟩, hM.pick [] rfl⟩
    · rintro a w67 ⟨t49, rfl, hf, hM⟩
      try dsimp only at h
      rcases cond_some h with ⟨hc68, h⟩ | ⟨hc68, h⟩
      · refine cond_t hf rfl hc68 ?_
        refine wp_seq ?_
        refine region_pl ?_
        refine q_ hf rfl rfl rfl (e_move hf rfl) fun a hf => ?_
        refine q_ hf rfl rfl rfl (e_assign hf rfl) fun a hf => ?_
        refine pl_nil ?_
        refine then_n ?_
        refine wp_ret ?_
        refine then_r ?_
        obtain rfl := some_inj h
        exact leave1 hf rfl rfl ⟨A2, c3, rfl, hM.fin⟩
      · refine cond_f hf rfl hc68 ?_
        refine wp_skip ?_
        refine then_n ?_
        refine wp_seq ?_
        refine region_pl ?_
        refine pl_l hf rfl rfl rfl (w_slice0 (K := strRep) hM Try.underlying76 ei_9 fun b69 w70 hx71 hM a hf => ?_)
        refine q_ hf rfl rfl rfl (e_move hf rfl) fun a hf => ?_
        refine q_ hf rfl rfl rfl (e_move hf rfl) fun a hf => ?_
        have hM := hM.freezeRow (k := 1) rfl rfl
        dsimp only [List.eraseIdx] at hM
        obtain ⟨l72, hz73, h⟩ := bind_some h
        obtain ⟨A74, hd75, hA76⟩ := sub_rep (hM.dat (k := 0) rfl) hz73
        have hM := hM.add (y := .dat (sliceRep strRep) l72 [vL A74 l72 (c3 - (0 : Int).toNat)]) hd75
        refine q_ hf rfl rfl rfl (e_subLh hf (xs := list1) rfl rfl Try.underlying76 Try.sizeOf9 (slice_cap (hM.dat (k := 1) rfl)) hz73 hA76) fun a hf => ?_
        obtain ⟨xs77, hz78, h⟩ := bind_some h
        refine pl_l hf rfl rfl rfl (w_appendD hf hM Try.underlying76 ei_9 rfl rfl rfl (k := 0) rfl (hM.dat (k := 0) rfl) hz78 fun A79 c80 w81 hM a hf => ?_)
        dsimp only [List.set] at hM
        refine q_ hf rfl rfl rfl (e_assign hf rfl) fun a hf => ?_
        refine pl_nil ?_
        refine then_n ?_
        refine wp_seq ?_
        refine region_pl ?_
        refine q_ hf rfl rfl rfl (e_move hf rfl) fun a hf => ?_
        refine q_ hf rfl rfl rfl (e_move hf rfl) fun a hf => ?_
        refine pl_l hf rfl rfl rfl (w_slice hf hM (K := strRep) (xs := ([t4] : (List Str))) (os := [.tmp 40]) Try.underlying76 ei_9 rfl rfl rfl rfl rfl ⟨⟨[vS (t4)], rfl, ⟨rfl, hp5⟩⟩, trivial⟩ rfl fun b84 w85 hx86 hM a hf => ?_)
        obtain ⟨xs87, hz88, h⟩ := bind_some h
        refine pl_l hf rfl rfl rfl (w_append hf hM Try.underlying76 ei_9 rfl rfl rfl (k := 1) rfl (hM.srcRow (k := 0) rfl) hz88 fun A89 c90 w91 hM a hf => ?_)
        dsimp only [List.set] at hM
        refine q_ hf rfl rfl rfl (e_assign hf rfl) fun a hf => ?_
        refine pl_nil ?_
        refine then_n ?_
        refine wp_seq ?_
        refine region_pl ?_
        refine q_ hf rfl rfl rfl (e_move hf rfl) fun a hf => ?_
        refine q_ hf rfl rfl rfl (e_move hf rfl) fun a hf => ?_
        refine q_ hf rfl rfl rfl (e_move hf rfl) fun a hf => ?_
        obtain ⟨l94, hz95, h⟩ := bind_some h
        obtain ⟨A96, hd97, hA98⟩ := sub_rep (hM.dat (k := 1) rfl) hz95
        have hM := hM.add (y := .dat (sliceRep strRep) l94 [vL A96 l94 (c3 - (n7 : Int).toNat)]) hd97
        refine q_ hf rfl rfl rfl (e_subLl hf (xs := list1) rfl rfl Try.underlying76 Try.sizeOf9 (slice_cap (hM.dat (k := 2) rfl)) hz95 hA98) fun a hf => ?_
        obtain ⟨xs99, hz100, h⟩ := bind_some h
        refine pl_l hf rfl rfl rfl (w_appendD hf hM Try.underlying76 ei_9 rfl rfl rfl (k := 1) rfl (hM.dat (k := 0) rfl) hz100 fun A101 c102 w103 hM a hf => ?_)
        dsimp only [List.set] at hM
        refine q_ hf rfl rfl rfl (e_assign hf rfl) fun a hf => ?_
        refine pl_nil ?_
        refine then_n ?_
        refine wp_ret ?_
        obtain rfl := some_inj h
        have hM := hM.front (k := 1) rfl
        dsimp only [List.eraseIdx] at hM
        have hM := hM.outs (own' := [.row strRep A101 c102 9 xs99 true]) 1 rfl
        exact leave1 hf rfl rfl ⟨A101, c102, rfl, hM.fin⟩

def Ct_spec_l03Subs (rc : Str → Int → Option (List Str)) : Prop := ∀ (C : Cx) (rack1 : Str) (hp2 : rack1.length ≤ maxLen) (n3 : Int) (hp4 : R64 n3) (r : (List Str)) (h : rc rack1 n3 = some r),
    Calls Try.prog 62 #[vS (rack1), vI (n3)] C.w0 fun e w => ∃ (A_1 : Option Addr), ∃ (c_1 : Nat), e = .returned (vL A_1 (r) c_1) ∧ Mem C w [.row strRep A_1 c_1 9 r true] []

set_option maxRecDepth 100000 in
set_option maxHeartbeats 4000000 in
theorem r_spec_l03Subs_b (rc : Str → Int → Option (List Str)) (ih : Ct_spec_l03Subs rc) : Ct_spec_l03Subs (m_spec_l03Subs_b rc) := by
  intro C rack1 hp2 n3 hp4 r h
  have hM := Mem.begin C [] trivial
  refine enter Try.func62 rfl Try.ntmps62 rfl fun a hf => ?_
  unfold m_spec_l03Subs_b at h
  refine wp_seq ?_
  refine region_pl ?_
  refine q_ hf rfl rfl rfl (e_assign hf rfl) fun a hf => ?_
  refine pl_nil ?_
  refine then_n ?_
  refine wp_seq ?_
  refine wp_seq ?_
  refine region_pl ?_
  refine q_ hf rfl rfl rfl (e_move hf rfl) fun a hf => ?_
  refine q_ hf rfl rfl rfl (e_eq hf (x := n3) (y := 0) rfl rfl) fun a hf => ?_
  refine pl_nil ?_
  refine then_n ?_
  rcases cond_some h with ⟨hc5, h⟩ | ⟨hc5, h⟩
  · refine cond_t hf rfl hc5 ?_
    refine wp_seq ?_
    refine region_pl ?_
    refine pl_l hf rfl rfl rfl (w_slice hf hM (K := strRep) (xs := ([([] : Str)] : (List Str))) (os := [.const (.string ⟨#[]⟩)]) Try.underlying76 ei_9 rfl rfl rfl rfl rfl ⟨⟨[vS (([] : Str))], rfl, ⟨rfl, (lit_len rfl)⟩⟩, trivial⟩ rfl fun b6 w7 hx8 hM a hf => ?_)
    refine q_ hf rfl rfl rfl (e_assign hf rfl) fun a hf => ?_
    refine pl_nil ?_
    refine then_n ?_
    refine wp_ret ?_
    refine then_r ?_
    obtain rfl := some_inj h
    exact leave1 hf rfl rfl ⟨(some ⟨b6, 0, none⟩), 1, rfl, hM.fin⟩
  · refine cond_f hf rfl hc5 ?_
    refine wp_skip ?_
    refine then_n ?_
    refine wp_seq ?_
    refine region_pl ?_
    refine pl_l hf rfl rfl rfl (w_slice0 (K := strRep) hM Try.underlying76 ei_9 fun b9 w10 hx11 hM a hf => ?_)
    refine q_ hf rfl rfl rfl (e_assign hf rfl) fun a hf => ?_
    refine pl_nil ?_
    refine then_n ?_
    obtain ⟨x15, h16, h⟩ := bind_some h
    refine seq_join (fun a w => ∃ (xs12 : (List Str)) (A13 : Option Addr) (c14 : Nat), xs12 = x15 ∧ Has 59 a [(5, vL A13 (xs12) c14)] ∧ Mem C w [.row strRep A13 c14 9 xs12 true] []) ?_ ?_
    · refine wp_seq ?_
      refine region_pl ?_
      refine q_ hf rfl rfl rfl (e_assign hf rfl) fun a hf => ?_
      refine pl_nil ?_
      refine then_n ?_
      refine wp_block ?_
      obtain ⟨x26, h27, h16⟩ := bind_some h16
      refine wp_loopM h27 (fun s a w => ∃ (xs17 : (List Str)) (k20 : Int) (A18 : Option Addr) (c19 : Nat), (xs17, k20) = s ∧ Has 59 a [(0, vS (rack1)), (1, vI (n3)), (5, vL A18 (xs17) c19), (6, vI (k20))] ∧ Mem C w [.row strRep A18 c19 9 xs17 true] [] ∧ R64 k20) ?_ ?_
      · exact ⟨([] : (List Str)), 0, (some ⟨b9, 0, none⟩), 0, rfl, hf.keep ⟨rfl, rfl, rfl, rfl, trivial⟩, hM.pick [] rfl, (R64_lit rfl)⟩
      · rintro s o28 a w22 ⟨xs17, k20, A18, c19, rfl, hf, hM, hv21⟩ h29 hd30
        replace h29 : m_spec_l03Subs_l1 n3 rack1 rc xs17 k20 = some o28 := h29
        unfold m_spec_l03Subs_l1 at h29
        refine wp_seq ?_
        refine wp_seq ?_
        refine region_pl ?_
        refine q_ hf rfl rfl rfl (e_move hf rfl) fun a hf => ?_
        refine q_ hf rfl rfl rfl (e_move hf rfl) fun a hf => ?_
        obtain ⟨z31, hz32, h29⟩ := bind_some h29
        refine q_ hf rfl rfl rfl (e_add hf rfl rfl hz32) fun a hf => ?_
        refine q_ hf rfl rfl rfl (e_move hf rfl) fun a hf => ?_
        refine q_ hf rfl rfl rfl (e_lenS hf (x := rack1) rfl Try.underlying9) fun a hf => ?_
        refine q_ hf rfl rfl rfl (e_le hf (x := z31) (y := (rack1.length : Int)) rfl rfl) fun a hf => ?_
        refine pl_nil ?_
        refine then_n ?_
        rcases cond_some h29 with ⟨hc33, h29⟩ | ⟨hc33, h29⟩
        · refine cond_t hf rfl hc33 ?_
          refine wp_skip ?_
          refine then_n ?_
          obtain ⟨x37, h38, h29⟩ := bind_some h29
          refine seq_join (fun a w => ∃ (xs34 : (List Str)) (A35 : Option Addr) (c36 : Nat), xs34 = x37 ∧ Has 59 a [(0, vS (rack1)), (1, vI (n3)), (5, vL A35 (xs34) c36), (6, vI (k20))] ∧ Mem C w [.row strRep A35 c36 9 xs34 true] []) ?_ ?_
          · refine wp_block ?_
            refine wp_seq ?_
            obtain ⟨x41, h42, h38⟩ := bind_some h38
            refine seq_join (fun a w => ∃ (t39 : Bool), t39 = x41 ∧ Has 59 a [(0, vS (rack1)), (1, vI (n3)), (5, vL A18 (xs17) c19), (6, vI (k20)), (32, .bool (t39))] ∧ Mem C w [.row strRep A18 c19 9 xs17 true] []) ?_ ?_
            · obtain ⟨w43, hw⟩ : ∃ x, x = w22.drew := ⟨_, rfl⟩
              refine region_pi (.q 0 (.q 1 (.q 2 (.q 3 (.q 4 (.q 5 (.q 6 (.q 7 (.q 8 (.q 9 (.q 10 (.q 11 (.nil))))))))))))) (Ext w43) rfl (by kernel_rfl) ?_
              have hM := hM.drew
              rw [← hw] at hM ⊢
              clear hw
              refine pi_q hf rfl rfl rfl rfl (Ext.refl _) (e_move hf rfl) fun a hf => ?_
              refine pi_q hf rfl rfl rfl rfl (Ext.refl _) (e_gt hf (x := k20) (y := 0) rfl rfl) fun a hf => ?_
              refine pi_q hf rfl rfl rfl rfl (Ext.refl _) (e_move hf rfl) fun a hf => ?_
              rcases cond_some h42 with ⟨hc44, h42⟩ | ⟨hc44, h42⟩
              · refine pi_gq hf rfl (wanted_t hf rfl rfl rfl rfl hc44) rfl rfl (Ext.refl _) (e_move hf rfl) fun a hf => ?_
                refine pi_gq hf rfl (wanted_t hf rfl rfl rfl rfl hc44) rfl rfl (Ext.refl _) (e_move hf rfl) fun a hf => ?_
                obtain ⟨c45, hz46, h42⟩ := bind_some h42
                refine pi_gq hf rfl (wanted_t hf rfl rfl rfl rfl hc44) rfl rfl (Ext.refl _) (e_indexS hf (x := rack1) rfl rfl Try.underlying9 hz46) fun a hf => ?_
                refine pi_gq hf rfl (wanted_t hf rfl rfl rfl rfl hc44) rfl rfl (Ext.refl _) (e_move hf rfl) fun a hf => ?_
                refine pi_gq hf rfl (wanted_t hf rfl rfl rfl rfl hc44) rfl rfl (Ext.refl _) (e_move hf rfl) fun a hf => ?_
                obtain ⟨z47, hz48, h42⟩ := bind_some h42
                refine pi_gq hf rfl (wanted_t hf rfl rfl rfl rfl hc44) rfl rfl (Ext.refl _) (e_sub hf rfl rfl hz48) fun a hf => ?_
                obtain ⟨c49, hz50, h42⟩ := bind_some h42
                refine pi_gq hf rfl (wanted_t hf rfl rfl rfl rfl hc44) rfl rfl (Ext.refl _) (e_indexS hf (x := rack1) rfl rfl Try.underlying9 hz50) fun a hf => ?_
                refine pi_gq hf rfl (wanted_t hf rfl rfl rfl rfl hc44) rfl rfl (Ext.refl _) (e_eqB hf (x := c45) (y := c49) rfl rfl) fun a hf => ?_
                refine pi_q hf rfl rfl rfl rfl (Ext.refl _) (e_pick_t hf rfl hc44 rfl) fun a hf => ?_
                refine pi_nil ?_
                obtain rfl := some_inj h42
                refine then_n ?_
                exact ⟨(c45 == c49), rfl, hf.keep ⟨rfl, rfl, rfl, rfl, rfl, trivial⟩, hM.pick [] rfl⟩
              · refine pi_gs hf rfl (wanted_f hf rfl rfl rfl rfl hc44) rfl rfl (Ext.refl _) fun a hf => ?_
                refine pi_gs hf rfl (wanted_f hf rfl rfl rfl rfl hc44) rfl rfl (Ext.refl _) fun a hf => ?_
                refine pi_gs hf rfl (wanted_f hf rfl rfl rfl rfl hc44) rfl rfl (Ext.refl _) fun a hf => ?_
                refine pi_gs hf rfl (wanted_f hf rfl rfl rfl rfl hc44) rfl rfl (Ext.refl _) fun a hf => ?_
                refine pi_gs hf rfl (wanted_f hf rfl rfl rfl rfl hc44) rfl rfl (Ext.refl _) fun a hf => ?_
                refine pi_gs hf rfl (wanted_f hf rfl rfl rfl rfl hc44) rfl rfl (Ext.refl _) fun a hf => ?_
                refine pi_gs hf rfl (wanted_f hf rfl rfl rfl rfl hc44) rfl rfl (Ext.refl _) fun a hf => ?_
                refine pi_gs hf rfl (wanted_f hf rfl rfl rfl rfl hc44) rfl rfl (Ext.refl _) fun a hf => ?_
                refine pi_q hf rfl rfl rfl rfl (Ext.refl _) (e_pick_f hf rfl hc44 rfl) fun a hf => ?_
                refine pi_nil ?_
                obtain rfl := some_inj h42
                refine then_n ?_
                exact ⟨false, rfl, hf.keep ⟨rfl, rfl, rfl, rfl, rfl, trivial⟩, hM.pick [] rfl⟩
            · rintro a w53 ⟨t39, rfl, hf, hM⟩
              try dsimp only at h38
              rcases cond_some h38 with ⟨hc54, h38⟩ | ⟨hc54, h38⟩
              · refine cond_t hf rfl hc54 ?_
                refine wp_exit ?_
                refine then_x ?_
                refine exit_hit ?_
                obtain rfl := some_inj h38
                refine then_n ?_
                exact ⟨xs17, A18, c19, rfl, hf.keep ⟨rfl, rfl, rfl, rfl, trivial⟩, hM.pick [] rfl⟩
              · refine cond_f hf rfl hc54 ?_
                refine wp_skip ?_
                refine then_n ?_
                refine wp_seq ?_
                refine region_pl ?_
                refine q_ hf rfl rfl rfl (e_move hf rfl) fun a hf => ?_
                refine q_ hf rfl rfl rfl (e_move hf rfl) fun a hf => ?_
                obtain ⟨z56, hz57, h38⟩ := bind_some h38
                refine q_ hf rfl rfl rfl (e_add hf rfl rfl hz57) fun a hf => ?_
                obtain ⟨s58, hz59, h38⟩ := bind_some h38
                refine q_ hf rfl rfl rfl (e_subSl hf (x := rack1) rfl rfl Try.underlying9 hz59) fun a hf => ?_
                refine q_ hf rfl rfl rfl (e_move hf rfl) fun a hf => ?_
                obtain ⟨z60, hz61, h38⟩ := bind_some h38
                refine q_ hf rfl rfl rfl (e_sub hf rfl rfl hz61) fun a hf => ?_
                obtain ⟨y62, hz63, h38⟩ := bind_some h38
                refine pl_l hf rfl rfl rfl (w_call hf Try.call62 rfl (ih ⟨_, Sh C _ _, none_, hM.sh_lt, none_not, C.G, hM.g_lt, g_none, hM.tabs⟩ s58 (sub_len hz59 hp2) z60 (chk_R hz61) _ hz63) ?_)
                rintro _ w66 ⟨A64, c65, rfl, hM2⟩
                obtain ⟨hM, hx67, hup68⟩ := hM.back hM2
                dsimp only [List.cons_append, List.nil_append] at hM hup68
                clear hM2
                refine ⟨_, rfl, fun a hf => ?_⟩
                refine q_ hf rfl rfl rfl (e_assign hf rfl) fun a hf => ?_
                refine pl_nil ?_
                refine then_n ?_
                refine wp_seq ?_
                refine region_pl ?_
                refine q_ hf rfl rfl rfl (e_assign hf rfl) fun a hf => ?_
                refine pl_nil ?_
                refine then_n ?_
                refine wp_block ?_
                obtain ⟨x78, h79, h38⟩ := bind_some h38
                refine wp_loopM h79 (fun s a w => ∃ (xs69 : (List Str)) (n72 : Int) (A70 : Option Addr) (c71 : Nat), (xs69, n72) = s ∧ Has 59 a [(0, vS (rack1)), (1, vI (n3)), (5, vL A70 (xs69) c71), (6, vI (k20)), (7, vL A64 (y62) c65), (8, vI (n72))] ∧ Mem C w [.row strRep A70 c71 9 xs69 true, .row strRep A64 c65 9 y62 true] [] ∧ R64 n72) ?_ ?_
                · have hM := hM.front (k := 0) rfl
                  dsimp only [List.eraseIdx] at hM
                  have hM := hM.front (k := 1) rfl
                  dsimp only [List.eraseIdx] at hM
                  exact ⟨xs17, 0, A18, c19, rfl, hf.keep ⟨rfl, rfl, rfl, rfl, rfl, rfl, trivial⟩, hM.pick [] rfl, (R64_lit rfl)⟩
                · rintro s o80 a w74 ⟨xs69, n72, A70, c71, rfl, hf, hM, hv73⟩ h81 hd82
                  replace h81 : m_spec_l03Subs_l2 y62 k20 rack1 xs69 n72 = some o80 := h81
                  unfold m_spec_l03Subs_l2 at h81
                  refine wp_seq ?_
                  refine wp_seq ?_
                  refine region_pl ?_
                  refine q_ hf rfl rfl rfl (e_move hf rfl) fun a hf => ?_
                  refine q_ hf rfl rfl rfl (e_move hf rfl) fun a hf => ?_
                  have hl83 := row_len (hM.ownAt (k := 1) rfl)
                  refine q_ hf rfl rfl rfl (e_lenL hf (x := y62) rfl Try.underlying76) fun a hf => ?_
                  refine q_ hf rfl rfl rfl (e_lt hf (x := n72) (y := (y62.length : Int)) rfl rfl) fun a hf => ?_
                  refine pl_nil ?_
                  refine then_n ?_
                  rcases cond_some h81 with ⟨hc84, h81⟩ | ⟨hc84, h81⟩
                  · refine cond_t hf rfl hc84 ?_
                    refine wp_skip ?_
                    refine then_n ?_
                    refine wp_seq ?_
                    refine wp_block ?_
                    obtain ⟨w85, hw⟩ : ∃ x, x = w74.drew := ⟨_, rfl⟩
                    refine region_pi (.q 0 (.q 1 (.q 2 (.q 3 (.q 4 (.q 5 (.q 6 (.q 7 (.q 8 (.q 9 (.q 10 (.l 11 (.q 12 (.nil)))))))))))))) (Ext w85) rfl (by kernel_rfl) ?_
                    have hM := hM.drew
                    rw [← hw] at hM ⊢
                    clear hw
                    refine pi_q hf rfl rfl rfl rfl (Ext.refl _) (e_move hf rfl) fun a hf => ?_
                    refine pi_q hf rfl rfl rfl rfl (Ext.refl _) (e_move hf rfl) fun a hf => ?_
                    refine pi_q hf rfl rfl rfl rfl (Ext.refl _) (e_move hf rfl) fun a hf => ?_
                    refine pi_q hf rfl rfl rfl rfl (Ext.refl _) (e_move hf rfl) fun a hf => ?_
                    obtain ⟨z86, hz87, h81⟩ := bind_some h81
                    refine pi_q hf rfl rfl rfl rfl (Ext.refl _) (e_add hf rfl rfl hz87) fun a hf => ?_
                    obtain ⟨s88, hz89, h81⟩ := bind_some h81
                    refine pi_q hf rfl rfl rfl rfl (Ext.refl _) (e_subS hf (x := rack1) rfl rfl rfl Try.underlying9 hz89) fun a hf => ?_
                    refine pi_q hf rfl rfl rfl rfl (Ext.refl _) (e_move hf rfl) fun a hf => ?_
                    refine pi_q hf rfl rfl rfl rfl (Ext.refl _) (e_move hf rfl) fun a hf => ?_
                    obtain ⟨e90, hz91, h81⟩ := bind_some h81
                    obtain ⟨b96, _, hA97, h92, h93, hr94, hcell95⟩ := hM.rowElemN (k := 1) rfl (n := 1) rfl hz91
                    obtain ⟨rfl, hv98⟩ := hr94
                    refine pi_q hf rfl rfl rfl rfl (Ext.refl _) (e_indexAddr (A := A64) (b := b96) (o := 0) (xs := y62) (i := n72) hf hA97 rfl rfl Try.underlying76 Try.sizeOf9 h92 h93) fun a hf => ?_
                    refine pi_q hf rfl rfl rfl rfl (Ext.refl _) (e_load1 hf rfl Try.isAgg9 (hcell95 0 _ rfl)) fun a hf => ?_
                    obtain ⟨s99, hz100, h81⟩ := bind_some h81
                    refine pi_q hf rfl rfl rfl rfl (Ext.refl _) (e_cat hf (x := s88) (y := e90) rfl rfl hz100) fun a hf => ?_
                    refine pi_one ?_
                    have hM : Mem C _ ([.row strRep A70 c71 9 xs69 true] ++ [.row strRep A64 c65 9 y62 true]) _ := hM
                    obtain ⟨y101, hz102, h81⟩ := bind_some h81
                    refine pi_z hf rfl rfl rfl rfl (by kernel_rfl) (w_call hf Try.call78 rfl (r_spec_l03Insert ⟨_, Sh C _ _, ownB _, hM.sh_lt, sub_dis, C.G, hM.g_lt, hM.g_own, hM.tabs⟩ xs69 _ _ s99 (cat_len hz100) hM.sub sub_dis _ hz102) ?_)
                    rintro _ w105 ⟨A103, c104, rfl, hM2⟩
                    obtain ⟨hM, hup107⟩ := hM.backG hM2
                    dsimp only [List.cons_append, List.nil_append] at hM hup107
                    clear hM2
                    refine ⟨_, rfl, fun a hf => ?_⟩
                    refine pi_q hf rfl rfl rfl rfl (Ext.refl _) (e_assign hf rfl) fun a hf => ?_
                    refine pi_nil ?_
                    refine blk_n ?_
                    refine then_n ?_
                    refine region_pl ?_
                    refine q_ hf rfl rfl rfl (e_move hf rfl) fun a hf => ?_
                    obtain ⟨z108, hz109, h81⟩ := bind_some h81
                    refine q_ hf rfl rfl rfl (e_add hf rfl rfl hz109) fun a hf => ?_
                    refine q_ hf rfl rfl rfl (e_assign hf rfl) fun a hf => ?_
                    refine pl_nil ?_
                    obtain rfl := some_inj h81
                    refine then_n ⟨_, rfl, ?_⟩
                    exact ⟨y101, z108, A103, c104, rfl, hf.keep ⟨rfl, rfl, rfl, rfl, rfl, rfl, trivial⟩, hM.pick [] rfl, (chk_R hz109)⟩
                  · refine cond_f hf rfl hc84 ?_
                    refine wp_exit ?_
                    refine then_x ?_
                    obtain rfl := some_inj h81
                    obtain rfl := hd82 _ rfl
                    try dsimp only at h38
                    refine then_x ?_
                    refine exit_hit ?_
                    refine blk_n ?_
                    obtain rfl := some_inj h38
                    refine then_n ?_
                    exact ⟨xs69, A70, c71, rfl, hf.keep ⟨rfl, rfl, rfl, rfl, trivial⟩, (hM.drop (.cons_cons _ (.cons _ .slnil))).pick [] rfl⟩
          · rintro a w115 ⟨xs34, A35, c36, rfl, hf, hM⟩
            try dsimp only at h29
            refine region_pl ?_
            refine q_ hf rfl rfl rfl (e_move hf rfl) fun a hf => ?_
            obtain ⟨z116, hz117, h29⟩ := bind_some h29
            refine q_ hf rfl rfl rfl (e_add hf rfl rfl hz117) fun a hf => ?_
            refine q_ hf rfl rfl rfl (e_assign hf rfl) fun a hf => ?_
            refine pl_nil ?_
            obtain rfl := some_inj h29
            refine then_n ⟨_, rfl, ?_⟩
            exact ⟨xs34, z116, A35, c36, rfl, hf.keep ⟨rfl, rfl, rfl, rfl, trivial⟩, hM.pick [] rfl, (chk_R hz117)⟩
        · refine cond_f hf rfl hc33 ?_
          refine wp_exit ?_
          refine then_x ?_
          obtain rfl := some_inj h29
          obtain rfl := hd30 _ rfl
          try dsimp only at h16
          refine then_x ?_
          refine exit_hit ?_
          obtain rfl := some_inj h16
          refine then_n ?_
          exact ⟨xs17, A18, c19, rfl, hf.keep ⟨rfl, trivial⟩, hM.pick [] rfl⟩
    · rintro a w123 ⟨xs12, A13, c14, rfl, hf, hM⟩
      try dsimp only at h
      refine wp_seq ?_
      refine region_pl ?_
      refine q_ hf rfl rfl rfl (e_move hf rfl) fun a hf => ?_
      refine q_ hf rfl rfl rfl (e_assign hf rfl) fun a hf => ?_
      refine pl_nil ?_
      refine then_n ?_
      refine wp_ret ?_
      obtain rfl := some_inj h
      exact leave1 hf rfl rfl ⟨A13, c14, rfl, hM.fin⟩

theorem r_spec_l03Subs_n : ∀ n, Ct_spec_l03Subs (m_spec_l03Subs_n n)
  | 0 => fun C rack1 hp2 n3 hp4 r h => by cases h
  | n + 1 => r_spec_l03Subs_b _ (r_spec_l03Subs_n n)

theorem r_spec_l03Subs : Ct_spec_l03Subs m_spec_l03Subs := r_spec_l03Subs_n fuelN

set_option maxRecDepth 100000 in
set_option maxHeartbeats 4000000 in
theorem r_spec_l21Count (C : Cx) (s1 : Str) (hp2 : s1.length ≤ maxLen) (c3 : UInt8) (r : Int) (h : m_spec_l21Count s1 c3 = some r) :
    Calls Try.prog 80 #[vS (s1), vB (c3)] C.w0 fun e w => e = .returned (vI (r)) ∧ Mem C w [] [] ∧ R64 r := by
  have hM := Mem.begin C [] trivial
  refine enter Try.func80 rfl Try.ntmps80 rfl fun a hf => ?_
  unfold m_spec_l21Count at h
  refine wp_seq ?_
  refine region_pl ?_
  refine q_ hf rfl rfl rfl (e_assign hf rfl) fun a hf => ?_
  refine pl_nil ?_
  refine then_n ?_
  refine wp_seq ?_
  refine region_pl ?_
  refine q_ hf rfl rfl rfl (e_assign hf rfl) fun a hf => ?_
  refine pl_nil ?_
  refine then_n ?_
  obtain ⟨x6, h7, h⟩ := bind_some h
  refine seq_join (fun a w => ∃ (n4 : Int), n4 = x6 ∧ Has 21 a [(5, vI (n4))] ∧ Mem C w [] [] ∧ R64 n4) ?_ ?_
  · refine wp_seq ?_
    refine region_pl ?_
    refine q_ hf rfl rfl rfl (e_assign hf rfl) fun a hf => ?_
    refine pl_nil ?_
    refine then_n ?_
    refine wp_block ?_
    obtain ⟨x15, h16, h7⟩ := bind_some h7
    refine wp_loopM h16 (fun s a w => ∃ (n8 : Int) (n10 : Int), (n8, n10) = s ∧ Has 21 a [(0, vS (s1)), (1, vB (c3)), (5, vI (n8)), (6, vI (n10))] ∧ Mem C w [] [] ∧ R64 n8 ∧ R64 n10) ?_ ?_
    · exact ⟨0, 0, rfl, hf.keep ⟨rfl, rfl, rfl, rfl, trivial⟩, hM.pick [] rfl, (R64_lit rfl), (R64_lit rfl)⟩
    · rintro s o17 a w12 ⟨n8, n10, rfl, hf, hM, hv9, hv11⟩ h18 hd19
      replace h18 : m_spec_l21Count_l1 s1 c3 n8 n10 = some o17 := h18
      unfold m_spec_l21Count_l1 at h18
      refine wp_seq ?_
      refine wp_seq ?_
      refine region_pl ?_
      refine q_ hf rfl rfl rfl (e_move hf rfl) fun a hf => ?_
      refine q_ hf rfl rfl rfl (e_move hf rfl) fun a hf => ?_
      refine q_ hf rfl rfl rfl (e_lenS hf (x := s1) rfl Try.underlying9) fun a hf => ?_
      refine q_ hf rfl rfl rfl (e_lt hf (x := n10) (y := (s1.length : Int)) rfl rfl) fun a hf => ?_
      refine pl_nil ?_
      refine then_n ?_
      rcases cond_some h18 with ⟨hc20, h18⟩ | ⟨hc20, h18⟩
      · refine cond_t hf rfl hc20 ?_
        refine wp_skip ?_
        refine then_n ?_
        obtain ⟨x23, h24, h18⟩ := bind_some h18
        refine seq_join (fun a w => ∃ (n21 : Int), n21 = x23 ∧ Has 21 a [(0, vS (s1)), (1, vB (c3)), (5, vI (n21)), (6, vI (n10))] ∧ Mem C w [] [] ∧ R64 n21) ?_ ?_
        · refine wp_block ?_
          refine wp_seq ?_
          refine region_pl ?_
          refine q_ hf rfl rfl rfl (e_move hf rfl) fun a hf => ?_
          refine q_ hf rfl rfl rfl (e_move hf rfl) fun a hf => ?_
          obtain ⟨c25, hz26, h24⟩ := bind_some h24
          refine q_ hf rfl rfl rfl (e_indexS hf (x := s1) rfl rfl Try.underlying9 hz26) fun a hf => ?_
          refine q_ hf rfl rfl rfl (e_move hf rfl) fun a hf => ?_
          refine q_ hf rfl rfl rfl (e_eqB hf (x := c25) (y := c3) rfl rfl) fun a hf => ?_
          refine pl_nil ?_
          refine then_n ?_
          rcases cond_some h24 with ⟨hc27, h24⟩ | ⟨hc27, h24⟩
          · refine cond_t hf rfl hc27 ?_
            refine region_pl ?_
            refine q_ hf rfl rfl rfl (e_move hf rfl) fun a hf => ?_
            obtain ⟨z28, hz29, h24⟩ := bind_some h24
            refine q_ hf rfl rfl rfl (e_add hf rfl rfl hz29) fun a hf => ?_
            refine q_ hf rfl rfl rfl (e_assign hf rfl) fun a hf => ?_
            refine pl_nil ?_
            refine blk_n ?_
            obtain rfl := some_inj h24
            refine then_n ?_
            exact ⟨z28, rfl, hf.keep ⟨rfl, rfl, rfl, rfl, trivial⟩, hM.pick [] rfl, (chk_R hz29)⟩
          · refine cond_f hf rfl hc27 ?_
            refine wp_skip ?_
            refine blk_n ?_
            obtain rfl := some_inj h24
            refine then_n ?_
            exact ⟨n8, rfl, hf.keep ⟨rfl, rfl, rfl, rfl, trivial⟩, hM.pick [] rfl, hv9⟩
        · rintro a w32 ⟨n21, rfl, hf, hM, hv22⟩
          try dsimp only at h18
          refine region_pl ?_
          refine q_ hf rfl rfl rfl (e_move hf rfl) fun a hf => ?_
          obtain ⟨z33, hz34, h18⟩ := bind_some h18
          refine q_ hf rfl rfl rfl (e_add hf rfl rfl hz34) fun a hf => ?_
          refine q_ hf rfl rfl rfl (e_assign hf rfl) fun a hf => ?_
          refine pl_nil ?_
          obtain rfl := some_inj h18
          refine then_n ⟨_, rfl, ?_⟩
          exact ⟨n21, z33, rfl, hf.keep ⟨rfl, rfl, rfl, rfl, trivial⟩, hM.pick [] rfl, hv22, (chk_R hz34)⟩
      · refine cond_f hf rfl hc20 ?_
        refine wp_exit ?_
        refine then_x ?_
        obtain rfl := some_inj h18
        obtain rfl := hd19 _ rfl
        try dsimp only at h7
        refine then_x ?_
        refine exit_hit ?_
        obtain rfl := some_inj h7
        refine then_n ?_
        exact ⟨n8, rfl, hf.keep ⟨rfl, trivial⟩, hM.pick [] rfl, hv9⟩
  · rintro a w40 ⟨n4, rfl, hf, hM, hv5⟩
    try dsimp only at h
    refine wp_seq ?_
    refine region_pl ?_
    refine q_ hf rfl rfl rfl (e_move hf rfl) fun a hf => ?_
    refine q_ hf rfl rfl rfl (e_assign hf rfl) fun a hf => ?_
    refine pl_nil ?_
    refine then_n ?_
    refine wp_ret ?_
    obtain rfl := some_inj h
    exact leave1 hf rfl rfl ⟨rfl, hM.fin, hv5⟩

set_option maxRecDepth 100000 in
set_option maxHeartbeats 4000000 in
theorem r_spec_l21Choose (C : Cx) (n1 : Int) (hp2 : R64 n1) (k3 : Int) (hp4 : R64 k3) (r : Int) (h : m_spec_l21Choose n1 k3 = some r) :
    Calls Try.prog 79 #[vI (n1), vI (k3)] C.w0 fun e w => e = .returned (vI (r)) ∧ Mem C w [] [] ∧ R64 r := by
  have hM := Mem.begin C [] trivial
  refine enter Try.func79 rfl Try.ntmps79 rfl fun a hf => ?_
  unfold m_spec_l21Choose at h
  refine wp_seq ?_
  refine region_pl ?_
  refine q_ hf rfl rfl rfl (e_assign hf rfl) fun a hf => ?_
  refine pl_nil ?_
  refine then_n ?_
  refine wp_seq ?_
  refine wp_seq ?_
  refine region_pl ?_
  refine q_ hf rfl rfl rfl (e_move hf rfl) fun a hf => ?_
  refine q_ hf rfl rfl rfl (e_move hf rfl) fun a hf => ?_
  obtain ⟨y5, hz6, h⟩ := bind_some h
  refine pl_l hf rfl rfl rfl (w_call hf Try.call56 rfl (r_spec_l00In ⟨_, Sh C _ _, none_, hM.sh_lt, none_not, C.G, hM.g_lt, g_none, hM.tabs⟩ k3 hp4 0 (R64_lit rfl) n1 hp2 _ hz6) ?_)
  rintro _ w7 ⟨rfl, hM2⟩
  obtain ⟨hM, hx8, hup9⟩ := hM.back hM2
  dsimp only [List.cons_append, List.nil_append] at hM hup9
  clear hM2
  refine ⟨_, rfl, fun a hf => ?_⟩
  refine q_ hf rfl rfl rfl (e_not hf rfl) fun a hf => ?_
  refine pl_nil ?_
  refine then_n ?_
  rcases cond_some h with ⟨hc10, h⟩ | ⟨hc10, h⟩
  · refine cond_t hf rfl hc10 ?_
    refine wp_seq ?_
    refine region_pl ?_
    refine q_ hf rfl rfl rfl (e_assign hf rfl) fun a hf => ?_
    refine pl_nil ?_
    refine then_n ?_
    refine wp_ret ?_
    refine then_r ?_
    obtain rfl := some_inj h
    exact leave1 hf rfl rfl ⟨rfl, hM.fin, (R64_lit rfl)⟩
  · refine cond_f hf rfl hc10 ?_
    refine wp_skip ?_
    refine then_n ?_
    refine wp_seq ?_
    refine region_pl ?_
    refine q_ hf rfl rfl rfl (e_assign hf rfl) fun a hf => ?_
    refine pl_nil ?_
    refine then_n ?_
    obtain ⟨x13, h14, h⟩ := bind_some h
    refine seq_join (fun a w => ∃ (n11 : Int), n11 = x13 ∧ Has 26 a [(5, vI (n11))] ∧ Mem C w [] [] ∧ R64 n11) ?_ ?_
    · refine wp_seq ?_
      refine region_pl ?_
      refine q_ hf rfl rfl rfl (e_assign hf rfl) fun a hf => ?_
      refine pl_nil ?_
      refine then_n ?_
      refine wp_block ?_
      obtain ⟨x22, h23, h14⟩ := bind_some h14
      refine wp_loopM h23 (fun s a w => ∃ (n15 : Int) (n17 : Int), (n15, n17) = s ∧ Has 26 a [(0, vI (n1)), (1, vI (k3)), (5, vI (n15)), (6, vI (n17))] ∧ Mem C w [] [] ∧ R64 n15 ∧ R64 n17) ?_ ?_
      · exact ⟨1, 1, rfl, hf.keep ⟨rfl, rfl, rfl, rfl, trivial⟩, hM.pick [] rfl, (R64_lit rfl), (R64_lit rfl)⟩
      · rintro s o24 a w19 ⟨n15, n17, rfl, hf, hM, hv16, hv18⟩ h25 hd26
        replace h25 : m_spec_l21Choose_l1 k3 n1 n15 n17 = some o24 := h25
        unfold m_spec_l21Choose_l1 at h25
        refine wp_seq ?_
        refine wp_seq ?_
        refine region_pl ?_
        refine q_ hf rfl rfl rfl (e_move hf rfl) fun a hf => ?_
        refine q_ hf rfl rfl rfl (e_move hf rfl) fun a hf => ?_
        refine q_ hf rfl rfl rfl (e_le hf (x := n17) (y := k3) rfl rfl) fun a hf => ?_
        refine pl_nil ?_
        refine then_n ?_
        rcases cond_some h25 with ⟨hc27, h25⟩ | ⟨hc27, h25⟩
        · refine cond_t hf rfl hc27 ?_
          refine wp_skip ?_
          refine then_n ?_
          refine wp_seq ?_
          refine wp_block ?_
          refine region_pl ?_
          refine q_ hf rfl rfl rfl (e_move hf rfl) fun a hf => ?_
          refine q_ hf rfl rfl rfl (e_move hf rfl) fun a hf => ?_
          refine q_ hf rfl rfl rfl (e_move hf rfl) fun a hf => ?_
          obtain ⟨z28, hz29, h25⟩ := bind_some h25
          refine q_ hf rfl rfl rfl (e_sub hf rfl rfl hz29) fun a hf => ?_
          refine q_ hf rfl rfl rfl (e_move hf rfl) fun a hf => ?_
          obtain ⟨z30, hz31, h25⟩ := bind_some h25
          refine q_ hf rfl rfl rfl (e_add hf rfl rfl hz31) fun a hf => ?_
          obtain ⟨z32, hz33, h25⟩ := bind_some h25
          refine q_ hf rfl rfl rfl (e_mul hf rfl rfl hz33) fun a hf => ?_
          refine q_ hf rfl rfl rfl (e_move hf rfl) fun a hf => ?_
          obtain ⟨z34, hz35, h25⟩ := bind_some h25
          refine q_ hf rfl rfl rfl (e_quo hf rfl rfl hz35) fun a hf => ?_
          refine q_ hf rfl rfl rfl (e_assign hf rfl) fun a hf => ?_
          refine pl_nil ?_
          refine blk_n ?_
          refine then_n ?_
          refine region_pl ?_
          refine q_ hf rfl rfl rfl (e_move hf rfl) fun a hf => ?_
          obtain ⟨z36, hz37, h25⟩ := bind_some h25
          refine q_ hf rfl rfl rfl (e_add hf rfl rfl hz37) fun a hf => ?_
          refine q_ hf rfl rfl rfl (e_assign hf rfl) fun a hf => ?_
          refine pl_nil ?_
          obtain rfl := some_inj h25
          refine then_n ⟨_, rfl, ?_⟩
          exact ⟨z34, z36, rfl, hf.keep ⟨rfl, rfl, rfl, rfl, trivial⟩, hM.pick [] rfl, (quoI_R hz35), (chk_R hz37)⟩
        · refine cond_f hf rfl hc27 ?_
          refine wp_exit ?_
          refine then_x ?_
          obtain rfl := some_inj h25
          obtain rfl := hd26 _ rfl
          try dsimp only at h14
          refine then_x ?_
          refine exit_hit ?_
          obtain rfl := some_inj h14
          refine then_n ?_
          exact ⟨n15, rfl, hf.keep ⟨rfl, trivial⟩, hM.pick [] rfl, hv16⟩
    · rintro a w43 ⟨n11, rfl, hf, hM, hv12⟩
      try dsimp only at h
      refine wp_seq ?_
      refine region_pl ?_
      refine q_ hf rfl rfl rfl (e_move hf rfl) fun a hf => ?_
      refine q_ hf rfl rfl rfl (e_assign hf rfl) fun a hf => ?_
      refine pl_nil ?_
      refine then_n ?_
      refine wp_ret ?_
      obtain rfl := some_inj h
      exact leave1 hf rfl rfl ⟨rfl, hM.fin, hv12⟩

set_option maxRecDepth 100000 in
set_option maxHeartbeats 4000000 in
theorem r_spec_l21Ways (C : Cx) (pile1 : Str) (hp2 : pile1.length ≤ maxLen) (tiles3 : Str) (hp4 : tiles3.length ≤ maxLen) (r : Int) (h : m_spec_l21Ways pile1 tiles3 = some r) :
    Calls Try.prog 63 #[vS (pile1), vS (tiles3)] C.w0 fun e w => e = .returned (vI (r)) ∧ Mem C w [] [] ∧ R64 r := by
  have hM := Mem.begin C [] trivial
  refine enter Try.func63 rfl Try.ntmps63 rfl fun a hf => ?_
  unfold m_spec_l21Ways at h
  refine wp_seq ?_
  refine region_pl ?_
  refine q_ hf rfl rfl rfl (e_assign hf rfl) fun a hf => ?_
  refine pl_nil ?_
  refine then_n ?_
  refine wp_seq ?_
  refine region_pl ?_
  refine q_ hf rfl rfl rfl (e_assign hf rfl) fun a hf => ?_
  refine pl_nil ?_
  refine then_n ?_
  obtain ⟨x7, h8, h⟩ := bind_some h
  refine seq_join (fun a w => ∃ (n5 : Int), n5 = x7 ∧ Has 39 a [(5, vI (n5))] ∧ Mem C w [] [] ∧ R64 n5) ?_ ?_
  · refine wp_seq ?_
    refine region_pl ?_
    refine q_ hf rfl rfl rfl (e_assign hf rfl) fun a hf => ?_
    refine pl_nil ?_
    refine then_n ?_
    refine wp_block ?_
    obtain ⟨x16, h17, h8⟩ := bind_some h8
    refine wp_loopM h17 (fun s a w => ∃ (n9 : Int) (n11 : Int), (n9, n11) = s ∧ Has 39 a [(0, vS (pile1)), (1, vS (tiles3)), (5, vI (n9)), (6, vI (n11))] ∧ Mem C w [] [] ∧ R64 n9 ∧ R64 n11) ?_ ?_
    · exact ⟨1, 0, rfl, hf.keep ⟨rfl, rfl, rfl, rfl, trivial⟩, hM.pick [] rfl, (R64_lit rfl), (R64_lit rfl)⟩
    · rintro s o18 a w13 ⟨n9, n11, rfl, hf, hM, hv10, hv12⟩ h19 hd20
      replace h19 : m_spec_l21Ways_l1 tiles3 pile1 n9 n11 = some o18 := h19
      unfold m_spec_l21Ways_l1 at h19
      refine wp_seq ?_
      refine wp_seq ?_
      refine region_pl ?_
      refine q_ hf rfl rfl rfl (e_move hf rfl) fun a hf => ?_
      refine q_ hf rfl rfl rfl (e_move hf rfl) fun a hf => ?_
      refine q_ hf rfl rfl rfl (e_lenS hf (x := tiles3) rfl Try.underlying9) fun a hf => ?_
      refine q_ hf rfl rfl rfl (e_lt hf (x := n11) (y := (tiles3.length : Int)) rfl rfl) fun a hf => ?_
      refine pl_nil ?_
      refine then_n ?_
      rcases cond_some h19 with ⟨hc21, h19⟩ | ⟨hc21, h19⟩
      · refine cond_t hf rfl hc21 ?_
        refine wp_skip ?_
        refine then_n ?_
        obtain ⟨x24, h25, h19⟩ := bind_some h19
        refine seq_join (fun a w => ∃ (n22 : Int), n22 = x24 ∧ Has 39 a [(0, vS (pile1)), (1, vS (tiles3)), (5, vI (n22)), (6, vI (n11))] ∧ Mem C w [] [] ∧ R64 n22) ?_ ?_
        · refine wp_block ?_
          obtain ⟨x28, h29, h25⟩ := bind_some h25
          refine seq_join (fun a w => ∃ (t26 : Bool), t26 = x28 ∧ Has 39 a [(0, vS (pile1)), (1, vS (tiles3)), (5, vI (n9)), (6, vI (n11)), (24, .bool (t26))] ∧ Mem C w [] []) ?_ ?_
          · obtain ⟨w30, hw⟩ : ∃ x, x = w13.drew := ⟨_, rfl⟩
            refine region_pi (.q 0 (.q 1 (.q 2 (.q 3 (.q 4 (.q 5 (.q 6 (.q 7 (.q 8 (.q 9 (.q 10 (.q 11 (.nil))))))))))))) (Ext w30) rfl (by kernel_rfl) ?_
            have hM := hM.drew
            rw [← hw] at hM ⊢
            clear hw
            refine pi_q hf rfl rfl rfl rfl (Ext.refl _) (e_move hf rfl) fun a hf => ?_
            refine pi_q hf rfl rfl rfl rfl (Ext.refl _) (e_eq hf (x := n11) (y := 0) rfl rfl) fun a hf => ?_
            refine pi_q hf rfl rfl rfl rfl (Ext.refl _) (e_move hf rfl) fun a hf => ?_
            rcases cond_some h29 with ⟨hc31, h29⟩ | ⟨hc31, h29⟩
            · refine pi_gs hf rfl (wanted_f hf rfl rfl rfl rfl hc31) rfl rfl (Ext.refl _) fun a hf => ?_
              refine pi_gs hf rfl (wanted_f hf rfl rfl rfl rfl hc31) rfl rfl (Ext.refl _) fun a hf => ?_
              refine pi_gs hf rfl (wanted_f hf rfl rfl rfl rfl hc31) rfl rfl (Ext.refl _) fun a hf => ?_
              refine pi_gs hf rfl (wanted_f hf rfl rfl rfl rfl hc31) rfl rfl (Ext.refl _) fun a hf => ?_
              refine pi_gs hf rfl (wanted_f hf rfl rfl rfl rfl hc31) rfl rfl (Ext.refl _) fun a hf => ?_
              refine pi_gs hf rfl (wanted_f hf rfl rfl rfl rfl hc31) rfl rfl (Ext.refl _) fun a hf => ?_
              refine pi_gs hf rfl (wanted_f hf rfl rfl rfl rfl hc31) rfl rfl (Ext.refl _) fun a hf => ?_
              refine pi_gs hf rfl (wanted_f hf rfl rfl rfl rfl hc31) rfl rfl (Ext.refl _) fun a hf => ?_
              refine pi_q hf rfl rfl rfl rfl (Ext.refl _) (e_pick_t hf rfl hc31 rfl) fun a hf => ?_
              refine pi_nil ?_
              obtain rfl := some_inj h29
              refine then_n ?_
              exact ⟨true, rfl, hf.keep ⟨rfl, rfl, rfl, rfl, rfl, trivial⟩, hM.pick [] rfl⟩
            · refine pi_gq hf rfl (wanted_t hf rfl rfl rfl rfl hc31) rfl rfl (Ext.refl _) (e_move hf rfl) fun a hf => ?_
              refine pi_gq hf rfl (wanted_t hf rfl rfl rfl rfl hc31) rfl rfl (Ext.refl _) (e_move hf rfl) fun a hf => ?_
              obtain ⟨c33, hz34, h29⟩ := bind_some h29
              refine pi_gq hf rfl (wanted_t hf rfl rfl rfl rfl hc31) rfl rfl (Ext.refl _) (e_indexS hf (x := tiles3) rfl rfl Try.underlying9 hz34) fun a hf => ?_
              refine pi_gq hf rfl (wanted_t hf rfl rfl rfl rfl hc31) rfl rfl (Ext.refl _) (e_move hf rfl) fun a hf => ?_
              refine pi_gq hf rfl (wanted_t hf rfl rfl rfl rfl hc31) rfl rfl (Ext.refl _) (e_move hf rfl) fun a hf => ?_
              obtain ⟨z35, hz36, h29⟩ := bind_some h29
              refine pi_gq hf rfl (wanted_t hf rfl rfl rfl rfl hc31) rfl rfl (Ext.refl _) (e_sub hf rfl rfl hz36) fun a hf => ?_
              obtain ⟨c37, hz38, h29⟩ := bind_some h29
              refine pi_gq hf rfl (wanted_t hf rfl rfl rfl rfl hc31) rfl rfl (Ext.refl _) (e_indexS hf (x := tiles3) rfl rfl Try.underlying9 hz38) fun a hf => ?_
              refine pi_gq hf rfl (wanted_t hf rfl rfl rfl rfl hc31) rfl rfl (Ext.refl _) (e_neB hf (x := c33) (y := c37) rfl rfl) fun a hf => ?_
              refine pi_q hf rfl rfl rfl rfl (Ext.refl _) (e_pick_f hf rfl hc31 rfl) fun a hf => ?_
              refine pi_nil ?_
              obtain rfl := some_inj h29
              refine then_n ?_
              exact ⟨(c33 != c37), rfl, hf.keep ⟨rfl, rfl, rfl, rfl, rfl, trivial⟩, hM.pick [] rfl⟩
          · rintro a w40 ⟨t26, rfl, hf, hM⟩
            try dsimp only at h25
            rcases cond_some h25 with ⟨hc41, h25⟩ | ⟨hc41, h25⟩
            · refine cond_t hf rfl hc41 ?_
              obtain ⟨w42, hw⟩ : ∃ x, x = w40.drew := ⟨_, rfl⟩
              refine region_pi (.q 0 (.q 1 (.q 2 (.q 3 (.q 4 (.q 6 (.q 7 (.q 8 (.q 9 (.l 5 (.l 10 (.l 11 (.q 12 (.q 13 (.nil))))))))))))))) (Ext w42) rfl (by kernel_rfl) ?_
              have hM := hM.drew
              rw [← hw] at hM ⊢
              clear hw
              refine pi_q hf rfl rfl rfl rfl (Ext.refl _) (e_move hf rfl) fun a hf => ?_
              refine pi_q hf rfl rfl rfl rfl (Ext.refl _) (e_move hf rfl) fun a hf => ?_
              refine pi_q hf rfl rfl rfl rfl (Ext.refl _) (e_move hf rfl) fun a hf => ?_
              refine pi_q hf rfl rfl rfl rfl (Ext.refl _) (e_move hf rfl) fun a hf => ?_
              obtain ⟨c43, hz44, h25⟩ := bind_some h25
              refine pi_q hf rfl rfl rfl rfl (Ext.refl _) (e_indexS hf (x := tiles3) rfl rfl Try.underlying9 hz44) fun a hf => ?_
              refine pi_q hf rfl rfl rfl rfl (Ext.refl _) (e_move hf rfl) fun a hf => ?_
              refine pi_q hf rfl rfl rfl rfl (Ext.refl _) (e_move hf rfl) fun a hf => ?_
              refine pi_q hf rfl rfl rfl rfl (Ext.refl _) (e_move hf rfl) fun a hf => ?_
              obtain ⟨c45, hz46, h25⟩ := bind_some h25
              refine pi_q hf rfl rfl rfl rfl (Ext.refl _) (e_indexS hf (x := tiles3) rfl rfl Try.underlying9 hz46) fun a hf => ?_
              refine pi_one ?_
              obtain ⟨y47, hz48, h25⟩ := bind_some h25
              refine pi_l hf rfl rfl rfl rfl (w_call hf Try.call80 rfl (r_spec_l21Count ⟨_, Sh C _ _, none_, hM.sh_lt, none_not, C.G, hM.g_lt, g_none, hM.tabs⟩ pile1 hp2 c43 _ hz48) ?_)
              rintro _ w50 ⟨rfl, hM2, hv49⟩
              obtain ⟨hM, hx51, hup52⟩ := hM.back hM2
              dsimp only [List.cons_append, List.nil_append] at hM hup52
              clear hM2
              refine ⟨_, rfl, Ext w50, fun _ h => Ext.trans hx51 h, Ext.refl _, fun a hf => ?_⟩
              refine pi_one ?_
              obtain ⟨y53, hz54, h25⟩ := bind_some h25
              refine pi_l hf rfl rfl rfl rfl (w_call hf Try.call80 rfl (r_spec_l21Count ⟨_, Sh C _ _, none_, hM.sh_lt, none_not, C.G, hM.g_lt, g_none, hM.tabs⟩ tiles3 hp4 c45 _ hz54) ?_)
              rintro _ w56 ⟨rfl, hM2, hv55⟩
              obtain ⟨hM, hx57, hup58⟩ := hM.back hM2
              dsimp only [List.cons_append, List.nil_append] at hM hup58
              clear hM2
              refine ⟨_, rfl, Ext w56, fun _ h => Ext.trans hx57 h, Ext.refl _, fun a hf => ?_⟩
              refine pi_one ?_
              obtain ⟨y59, hz60, h25⟩ := bind_some h25
              refine pi_l hf rfl rfl rfl rfl (w_call hf Try.call79 rfl (r_spec_l21Choose ⟨_, Sh C _ _, none_, hM.sh_lt, none_not, C.G, hM.g_lt, g_none, hM.tabs⟩ y47 hv49 y53 hv55 _ hz60) ?_)
              rintro _ w62 ⟨rfl, hM2, hv61⟩
              obtain ⟨hM, hx63, hup64⟩ := hM.back hM2
              dsimp only [List.cons_append, List.nil_append] at hM hup64
              clear hM2
              refine ⟨_, rfl, Ext w62, fun _ h => Ext.trans hx63 h, Ext.refl _, fun a hf => ?_⟩
              obtain ⟨z65, hz66, h25⟩ := bind_some h25
              refine pi_q hf rfl rfl rfl rfl (Ext.refl _) (e_mul hf rfl rfl hz66) fun a hf => ?_
              refine pi_q hf rfl rfl rfl rfl (Ext.refl _) (e_assign hf rfl) fun a hf => ?_
              refine pi_nil ?_
              refine blk_n ?_
              obtain rfl := some_inj h25
              refine then_n ?_
              exact ⟨z65, rfl, hf.keep ⟨rfl, rfl, rfl, rfl, trivial⟩, hM.pick [] rfl, (chk_R hz66)⟩
            · refine cond_f hf rfl hc41 ?_
              refine wp_skip ?_
              refine blk_n ?_
              obtain rfl := some_inj h25
              refine then_n ?_
              exact ⟨n9, rfl, hf.keep ⟨rfl, rfl, rfl, rfl, trivial⟩, hM.pick [] rfl, hv10⟩
        · rintro a w69 ⟨n22, rfl, hf, hM, hv23⟩
          try dsimp only at h19
          refine region_pl ?_
          refine q_ hf rfl rfl rfl (e_move hf rfl) fun a hf => ?_
          obtain ⟨z70, hz71, h19⟩ := bind_some h19
          refine q_ hf rfl rfl rfl (e_add hf rfl rfl hz71) fun a hf => ?_
          refine q_ hf rfl rfl rfl (e_assign hf rfl) fun a hf => ?_
          refine pl_nil ?_
          obtain rfl := some_inj h19
          refine then_n ⟨_, rfl, ?_⟩
          exact ⟨n22, z70, rfl, hf.keep ⟨rfl, rfl, rfl, rfl, trivial⟩, hM.pick [] rfl, hv23, (chk_R hz71)⟩
      · refine cond_f hf rfl hc21 ?_
        refine wp_exit ?_
        refine then_x ?_
        obtain rfl := some_inj h19
        obtain rfl := hd20 _ rfl
        try dsimp only at h8
        refine then_x ?_
        refine exit_hit ?_
        obtain rfl := some_inj h8
        refine then_n ?_
        exact ⟨n9, rfl, hf.keep ⟨rfl, trivial⟩, hM.pick [] rfl, hv10⟩
  · rintro a w77 ⟨n5, rfl, hf, hM, hv6⟩
    try dsimp only at h
    refine wp_seq ?_
    refine region_pl ?_
    refine q_ hf rfl rfl rfl (e_move hf rfl) fun a hf => ?_
    refine q_ hf rfl rfl rfl (e_assign hf rfl) fun a hf => ?_
    refine pl_nil ?_
    refine then_n ?_
    refine wp_ret ?_
    obtain rfl := some_inj h
    exact leave1 hf rfl rfl ⟨rfl, hM.fin, hv6⟩

set_option maxRecDepth 100000 in
set_option maxHeartbeats 4000000 in
theorem r_spec_l21Draws (C : Cx) (pile1 : Str) (hp2 : pile1.length ≤ maxLen) (n3 : Int) (hp4 : R64 n3) (r : (List Drawn)) (h : m_spec_l21Draws pile1 n3 = some r) :
    Calls Try.prog 37 #[vS (pile1), vI (n3)] C.w0 fun e w => ∃ (A_1 : Option Addr), ∃ (c_1 : Nat), e = .returned (vL A_1 (r) c_1) ∧ Mem C w [.row DrawnRep A_1 c_1 47 r true] [] := by
  have hM := Mem.begin C [] trivial
  refine enter Try.func37 rfl Try.ntmps37 rfl fun a hf => ?_
  unfold m_spec_l21Draws at h
  refine wp_seq ?_
  refine region_pl ?_
  refine q_ hf rfl rfl rfl (e_assign hf rfl) fun a hf => ?_
  refine pl_nil ?_
  refine then_n ?_
  refine wp_seq ?_
  refine region_pl ?_
  refine q_ hf rfl rfl rfl (e_move hf rfl) fun a hf => ?_
  refine q_ hf rfl rfl rfl (e_move hf rfl) fun a hf => ?_
  obtain ⟨y5, hz6, h⟩ := bind_some h
  refine pl_l hf rfl rfl rfl (w_call hf Try.call62 rfl (r_spec_l03Subs ⟨_, Sh C _ _, none_, hM.sh_lt, none_not, C.G, hM.g_lt, g_none, hM.tabs⟩ pile1 hp2 n3 hp4 _ hz6) ?_)
  rintro _ w9 ⟨A7, c8, rfl, hM2⟩
  obtain ⟨hM, hx10, hup11⟩ := hM.back hM2
  dsimp only [List.cons_append, List.nil_append] at hM hup11
  clear hM2
  refine ⟨_, rfl, fun a hf => ?_⟩
  refine q_ hf rfl rfl rfl (e_assign hf rfl) fun a hf => ?_
  refine pl_nil ?_
  refine then_n ?_
  refine wp_seq ?_
  refine region_pl ?_
  refine pl_l hf rfl rfl rfl (w_slice0 (K := DrawnRep) hM Try.underlying32 ei_47 fun b12 w13 hx14 hM a hf => ?_)
  refine q_ hf rfl rfl rfl (e_assign hf rfl) fun a hf => ?_
  refine pl_nil ?_
  refine then_n ?_
  obtain ⟨x18, h19, h⟩ := bind_some h
  refine seq_join (fun a w => ∃ (xs15 : (List Drawn)) (A16 : Option Addr) (c17 : Nat), xs15 = x18 ∧ Has 33 a [(6, vL A16 (xs15) c17)] ∧ Mem C w [.row DrawnRep A16 c17 47 xs15 true, .row strRep A7 c8 9 y5 true] []) ?_ ?_
  · refine wp_seq ?_
    refine region_pl ?_
    refine q_ hf rfl rfl rfl (e_assign hf rfl) fun a hf => ?_
    refine pl_nil ?_
    refine then_n ?_
    refine wp_block ?_
    obtain ⟨x29, h30, h19⟩ := bind_some h19
    refine wp_loopM h30 (fun s a w => ∃ (xs20 : (List Drawn)) (n23 : Int) (A21 : Option Addr) (c22 : Nat), (xs20, n23) = s ∧ Has 33 a [(0, vS (pile1)), (5, vL A7 (y5) c8), (6, vL A21 (xs20) c22), (7, vI (n23))] ∧ Mem C w [.row DrawnRep A21 c22 47 xs20 true, .row strRep A7 c8 9 y5 true] [] ∧ R64 n23) ?_ ?_
    · exact ⟨([] : (List Drawn)), 0, (some ⟨b12, 0, none⟩), 0, rfl, hf.keep ⟨rfl, rfl, rfl, rfl, trivial⟩, hM.pick [] rfl, (R64_lit rfl)⟩
    · rintro s o31 a w25 ⟨xs20, n23, A21, c22, rfl, hf, hM, hv24⟩ h32 hd33
      replace h32 : m_spec_l21Draws_l1 y5 pile1 xs20 n23 = some o31 := h32
      unfold m_spec_l21Draws_l1 at h32
      refine wp_seq ?_
      refine wp_seq ?_
      refine region_pl ?_
      refine q_ hf rfl rfl rfl (e_move hf rfl) fun a hf => ?_
      refine q_ hf rfl rfl rfl (e_move hf rfl) fun a hf => ?_
      have hl34 := row_len (hM.ownAt (k := 1) rfl)
      refine q_ hf rfl rfl rfl (e_lenL hf (x := y5) rfl Try.underlying76) fun a hf => ?_
      refine q_ hf rfl rfl rfl (e_lt hf (x := n23) (y := (y5.length : Int)) rfl rfl) fun a hf => ?_
      refine pl_nil ?_
      refine then_n ?_
      rcases cond_some h32 with ⟨hc35, h32⟩ | ⟨hc35, h32⟩
      · refine cond_t hf rfl hc35 ?_
        refine wp_skip ?_
        refine then_n ?_
        refine wp_seq ?_
        refine wp_block ?_
        obtain ⟨w36, hw⟩ : ∃ x, x = w25.drew := ⟨_, rfl⟩
        refine region_pi (.q 0 (.q 1 (.q 2 (.q 3 (.q 4 (.q 5 (.q 6 (.q 7 (.q 8 (.q 9 (.l 10 (.q 11 (.l 12 (.l 13 (.q 14 (.nil)))))))))))))))) (Ext w36) rfl (by kernel_rfl) ?_
        have hM := hM.drew
        rw [← hw] at hM ⊢
        clear hw
        refine pi_q hf rfl rfl rfl rfl (Ext.refl _) (e_move hf rfl) fun a hf => ?_
        refine pi_q hf rfl rfl rfl rfl (Ext.refl _) (e_move hf rfl) fun a hf => ?_
        refine pi_q hf rfl rfl rfl rfl (Ext.refl _) (e_move hf rfl) fun a hf => ?_
        obtain ⟨e37, hz38, h32⟩ := bind_some h32
        obtain ⟨b43, _, hA44, h39, h40, hr41, hcell42⟩ := hM.rowElemN (k := 1) rfl (n := 1) rfl hz38
        obtain ⟨rfl, hv45⟩ := hr41
        refine pi_q hf rfl rfl rfl rfl (Ext.refl _) (e_indexAddr (A := A7) (b := b43) (o := 0) (xs := y5) (i := n23) hf hA44 rfl rfl Try.underlying76 Try.sizeOf9 h39 h40) fun a hf => ?_
        refine pi_q hf rfl rfl rfl rfl (Ext.refl _) (e_load1 hf rfl Try.isAgg9 (hcell42 0 _ rfl)) fun a hf => ?_
        refine pi_q hf rfl rfl rfl rfl (Ext.refl _) (e_move hf rfl) fun a hf => ?_
        refine pi_q hf rfl rfl rfl rfl (Ext.refl _) (e_move hf rfl) fun a hf => ?_
        refine pi_q hf rfl rfl rfl rfl (Ext.refl _) (e_move hf rfl) fun a hf => ?_
        obtain ⟨e46, hz47, h32⟩ := bind_some h32
        obtain ⟨b52, _, hA53, h48, h49, hr50, hcell51⟩ := hM.rowElemN (k := 1) rfl (n := 1) rfl hz47
        obtain ⟨rfl, hv54⟩ := hr50
        refine pi_q hf rfl rfl rfl rfl (Ext.refl _) (e_indexAddr (A := A7) (b := b52) (o := 0) (xs := y5) (i := n23) hf hA53 rfl rfl Try.underlying76 Try.sizeOf9 h48 h49) fun a hf => ?_
        refine pi_q hf rfl rfl rfl rfl (Ext.refl _) (e_load1 hf rfl Try.isAgg9 (hcell51 0 _ rfl)) fun a hf => ?_
        refine pi_one ?_
        obtain ⟨y55, hz56, h32⟩ := bind_some h32
        refine pi_l hf rfl rfl rfl rfl (w_call hf Try.call63 rfl (r_spec_l21Ways ⟨_, Sh C _ _, none_, hM.sh_lt, none_not, C.G, hM.g_lt, g_none, hM.tabs⟩ pile1 hp2 e46 hv54 _ hz56) ?_)
        rintro _ w58 ⟨rfl, hM2, hv57⟩
        obtain ⟨hM, hx59, hup60⟩ := hM.back hM2
        dsimp only [List.cons_append, List.nil_append] at hM hup60
        clear hM2
        refine ⟨_, rfl, Ext w58, fun _ h => Ext.trans hx59 h, Ext.refl _, fun a hf => ?_⟩
        refine pi_q hf rfl rfl rfl rfl (Ext.refl _) (e_build hf Try.zeroValue47 Try.underlying47 (bp_47 _ Try.underlying47.symm) rfl (cs := #[vS (e37), vI (y55)]) (by kernel_rfl)) fun a hf => ?_
        refine pi_one ?_
        refine pi_l hf rfl rfl rfl rfl (w_slice hf hM (K := DrawnRep) (xs := ([(⟨e37, y55⟩ : Drawn)] : (List Drawn))) (os := [.tmp 29]) Try.underlying32 ei_47 rfl rfl rfl rfl rfl ⟨⟨[vS (e37), vI (y55)], rfl, (DrawnRep_mk (x := (⟨e37, y55⟩ : Drawn)) hv45 hv57)⟩, trivial⟩ rfl fun b61 w62 hx63 hM => ⟨Ext w62, fun _ h => Ext.trans hx63 h, Ext.refl _, fun a hf => ?_⟩)
        refine pi_one ?_
        obtain ⟨xs64, hz65, h32⟩ := bind_some h32
        refine pi_z hf rfl rfl rfl rfl (by kernel_rfl) (w_append hf hM Try.underlying32 ei_47 rfl rfl rfl (k := 1) rfl (hM.srcRow (k := 0) rfl) hz65 fun A66 c67 w68 hM a hf => ?_)
        dsimp only [List.set] at hM
        refine pi_q hf rfl rfl rfl rfl (Ext.refl _) (e_assign hf rfl) fun a hf => ?_
        refine pi_nil ?_
        refine blk_n ?_
        refine then_n ?_
        refine region_pl ?_
        refine q_ hf rfl rfl rfl (e_move hf rfl) fun a hf => ?_
        obtain ⟨z71, hz72, h32⟩ := bind_some h32
        refine q_ hf rfl rfl rfl (e_add hf rfl rfl hz72) fun a hf => ?_
        refine q_ hf rfl rfl rfl (e_assign hf rfl) fun a hf => ?_
        refine pl_nil ?_
        obtain rfl := some_inj h32
        refine then_n ⟨_, rfl, ?_⟩
        exact ⟨xs64, z71, A66, c67, rfl, hf.keep ⟨rfl, rfl, rfl, rfl, trivial⟩, (hM.drop (.cons _ (.cons_cons _ (.cons_cons _ .slnil)))).pick [] rfl, (chk_R hz72)⟩
      · refine cond_f hf rfl hc35 ?_
        refine wp_exit ?_
        refine then_x ?_
        obtain rfl := some_inj h32
        obtain rfl := hd33 _ rfl
        try dsimp only at h19
        refine then_x ?_
        refine exit_hit ?_
        obtain rfl := some_inj h19
        refine then_n ?_
        exact ⟨xs20, A21, c22, rfl, hf.keep ⟨rfl, trivial⟩, hM.pick [] rfl⟩
  · rintro a w78 ⟨xs15, A16, c17, rfl, hf, hM⟩
    try dsimp only at h
    refine wp_seq ?_
    refine region_pl ?_
    refine q_ hf rfl rfl rfl (e_move hf rfl) fun a hf => ?_
    refine q_ hf rfl rfl rfl (e_assign hf rfl) fun a hf => ?_
    refine pl_nil ?_
    refine then_n ?_
    refine wp_ret ?_
    obtain rfl := some_inj h
    have hM := hM.outs (own' := [.row DrawnRep A16 c17 47 xs15 true]) 1 rfl
    exact leave1 hf rfl rfl ⟨A16, c17, rfl, hM.fin⟩

set_option maxRecDepth 100000 in
set_option maxHeartbeats 4000000 in
theorem r_spec_l03Take (C : Cx) (a1 : Str) (hp2 : a1.length ≤ maxLen) (b3 : Str) (hp4 : b3.length ≤ maxLen) (r : (Str × Bool)) (h : m_spec_l03Take a1 b3 = some r) :
    Calls Try.prog 51 #[vS (a1), vS (b3)] C.w0 fun e w => e = .returned (.tuple #[vS (r.1), .bool (r.2)]) ∧ Mem C w [] [] ∧ r.1.length ≤ maxLen := by
  have hM := Mem.begin C [] trivial
  refine enter Try.func51 rfl Try.ntmps51 rfl fun a hf => ?_
  unfold m_spec_l03Take at h
  refine wp_seq ?_
  refine region_pl ?_
  refine q_ hf rfl rfl rfl (e_assign hf rfl) fun a hf => ?_
  refine q_ hf rfl rfl rfl (e_assign hf rfl) fun a hf => ?_
  refine pl_nil ?_
  refine then_n ?_
  refine wp_seq ?_
  refine region_pl ?_
  refine pl_l hf rfl rfl rfl (w_slice0 (K := byteRep) hM Try.underlying38 ei_5 fun b5 w6 hx7 hM a hf => ?_)
  refine q_ hf rfl rfl rfl (e_assign hf rfl) fun a hf => ?_
  refine pl_nil ?_
  refine then_n ?_
  refine wp_seq ?_
  refine region_pl ?_
  refine q_ hf rfl rfl rfl (e_assign hf rfl) fun a hf => ?_
  refine pl_nil ?_
  refine then_n ?_
  obtain ⟨x13, h14, h⟩ := bind_some h
  refine seq_join (fun a w => ∃ (xs8 : Str) (n11 : Int) (A9 : Option Addr) (c10 : Nat), (xs8, n11) = x13 ∧ Has 43 a [(1, vS (b3)), (6, vL A9 (xs8) c10), (7, vI (n11))] ∧ Mem C w [.row byteRep A9 c10 5 xs8 true] [] ∧ R64 n11) ?_ ?_
  · refine wp_seq ?_
    refine region_pl ?_
    refine q_ hf rfl rfl rfl (e_assign hf rfl) fun a hf => ?_
    refine pl_nil ?_
    refine then_n ?_
    refine wp_block ?_
    obtain ⟨x28, h29, h14⟩ := bind_some h14
    refine wp_loopM h29 (fun s a w => ∃ (xs15 : Str) (n18 : Int) (n20 : Int) (A16 : Option Addr) (c17 : Nat), (xs15, n18, n20) = s ∧ Has 43 a [(0, vS (a1)), (1, vS (b3)), (6, vL A16 (xs15) c17), (7, vI (n18)), (8, vI (n20))] ∧ Mem C w [.row byteRep A16 c17 5 xs15 true] [] ∧ R64 n18 ∧ R64 n20) ?_ ?_
    · exact ⟨([] : Str), 0, 0, (some ⟨b5, 0, none⟩), 0, rfl, hf.keep ⟨rfl, rfl, rfl, rfl, rfl, trivial⟩, hM.pick [] rfl, (R64_lit rfl), (R64_lit rfl)⟩
    · rintro s o30 a w22 ⟨xs15, n18, n20, A16, c17, rfl, hf, hM, hv19, hv21⟩ h31 hd32
      replace h31 : m_spec_l03Take_l1 a1 b3 xs15 n18 n20 = some o30 := h31
      unfold m_spec_l03Take_l1 at h31
      refine wp_seq ?_
      refine wp_seq ?_
      refine region_pl ?_
      refine q_ hf rfl rfl rfl (e_move hf rfl) fun a hf => ?_
      refine q_ hf rfl rfl rfl (e_move hf rfl) fun a hf => ?_
      refine q_ hf rfl rfl rfl (e_lenS hf (x := a1) rfl Try.underlying9) fun a hf => ?_
      refine q_ hf rfl rfl rfl (e_lt hf (x := n20) (y := (a1.length : Int)) rfl rfl) fun a hf => ?_
      refine pl_nil ?_
      refine then_n ?_
      rcases cond_some h31 with ⟨hc33, h31⟩ | ⟨hc33, h31⟩
      · refine cond_t hf rfl hc33 ?_
        refine wp_skip ?_
        refine then_n ?_
        obtain ⟨x39, h40, h31⟩ := bind_some h31
        refine seq_join (fun a w => ∃ (xs34 : Str) (n37 : Int) (A35 : Option Addr) (c36 : Nat), (xs34, n37) = x39 ∧ Has 43 a [(0, vS (a1)), (1, vS (b3)), (6, vL A35 (xs34) c36), (7, vI (n37)), (8, vI (n20))] ∧ Mem C w [.row byteRep A35 c36 5 xs34 true] [] ∧ R64 n37) ?_ ?_
        · refine wp_block ?_
          refine wp_seq ?_
          obtain ⟨x43, h44, h40⟩ := bind_some h40
          refine seq_join (fun a w => ∃ (t41 : Bool), t41 = x43 ∧ Has 43 a [(0, vS (a1)), (1, vS (b3)), (6, vL A16 (xs15) c17), (7, vI (n18)), (8, vI (n20)), (28, .bool (t41))] ∧ Mem C w [.row byteRep A16 c17 5 xs15 true] []) ?_ ?_
          · obtain ⟨w45, hw⟩ : ∃ x, x = w22.drew := ⟨_, rfl⟩
            refine region_pi (.q 0 (.q 1 (.q 2 (.q 3 (.q 4 (.q 5 (.q 6 (.q 7 (.q 8 (.q 9 (.q 10 (.q 11 (.q 12 (.nil)))))))))))))) (Ext w45) rfl (by kernel_rfl) ?_
            have hM := hM.drew
            rw [← hw] at hM ⊢
            clear hw
            refine pi_q hf rfl rfl rfl rfl (Ext.refl _) (e_move hf rfl) fun a hf => ?_
            refine pi_q hf rfl rfl rfl rfl (Ext.refl _) (e_move hf rfl) fun a hf => ?_
            refine pi_q hf rfl rfl rfl rfl (Ext.refl _) (e_lenS hf (x := b3) rfl Try.underlying9) fun a hf => ?_
            refine pi_q hf rfl rfl rfl rfl (Ext.refl _) (e_lt hf (x := n18) (y := (b3.length : Int)) rfl rfl) fun a hf => ?_
            refine pi_q hf rfl rfl rfl rfl (Ext.refl _) (e_move hf rfl) fun a hf => ?_
            rcases cond_some h44 with ⟨hc46, h44⟩ | ⟨hc46, h44⟩
            · refine pi_gq hf rfl (wanted_t hf rfl rfl rfl rfl hc46) rfl rfl (Ext.refl _) (e_move hf rfl) fun a hf => ?_
              refine pi_gq hf rfl (wanted_t hf rfl rfl rfl rfl hc46) rfl rfl (Ext.refl _) (e_move hf rfl) fun a hf => ?_
              obtain ⟨c47, hz48, h44⟩ := bind_some h44
              refine pi_gq hf rfl (wanted_t hf rfl rfl rfl rfl hc46) rfl rfl (Ext.refl _) (e_indexS hf (x := b3) rfl rfl Try.underlying9 hz48) fun a hf => ?_
              refine pi_gq hf rfl (wanted_t hf rfl rfl rfl rfl hc46) rfl rfl (Ext.refl _) (e_move hf rfl) fun a hf => ?_
              refine pi_gq hf rfl (wanted_t hf rfl rfl rfl rfl hc46) rfl rfl (Ext.refl _) (e_move hf rfl) fun a hf => ?_
              obtain ⟨c49, hz50, h44⟩ := bind_some h44
              refine pi_gq hf rfl (wanted_t hf rfl rfl rfl rfl hc46) rfl rfl (Ext.refl _) (e_indexS hf (x := a1) rfl rfl Try.underlying9 hz50) fun a hf => ?_
              refine pi_gq hf rfl (wanted_t hf rfl rfl rfl rfl hc46) rfl rfl (Ext.refl _) (e_eqB hf (x := c47) (y := c49) rfl rfl) fun a hf => ?_
              refine pi_q hf rfl rfl rfl rfl (Ext.refl _) (e_pick_t hf rfl hc46 rfl) fun a hf => ?_
              refine pi_nil ?_
              obtain rfl := some_inj h44
              refine then_n ?_
              exact ⟨(c47 == c49), rfl, hf.keep ⟨rfl, rfl, rfl, rfl, rfl, rfl, trivial⟩, hM.pick [] rfl⟩
            · refine pi_gs hf rfl (wanted_f hf rfl rfl rfl rfl hc46) rfl rfl (Ext.refl _) fun a hf => ?_
              refine pi_gs hf rfl (wanted_f hf rfl rfl rfl rfl hc46) rfl rfl (Ext.refl _) fun a hf => ?_
              refine pi_gs hf rfl (wanted_f hf rfl rfl rfl rfl hc46) rfl rfl (Ext.refl _) fun a hf => ?_
              refine pi_gs hf rfl (wanted_f hf rfl rfl rfl rfl hc46) rfl rfl (Ext.refl _) fun a hf => ?_
              refine pi_gs hf rfl (wanted_f hf rfl rfl rfl rfl hc46) rfl rfl (Ext.refl _) fun a hf => ?_
              refine pi_gs hf rfl (wanted_f hf rfl rfl rfl rfl hc46) rfl rfl (Ext.refl _) fun a hf => ?_
              refine pi_gs hf rfl (wanted_f hf rfl rfl rfl rfl hc46) rfl rfl (Ext.refl _) fun a hf => ?_
              refine pi_q hf rfl rfl rfl rfl (Ext.refl _) (e_pick_f hf rfl hc46 rfl) fun a hf => ?_
              refine pi_nil ?_
              obtain rfl := some_inj h44
              refine then_n ?_
              exact ⟨false, rfl, hf.keep ⟨rfl, rfl, rfl, rfl, rfl, rfl, trivial⟩, hM.pick [] rfl⟩
          · rintro a w53 ⟨t41, rfl, hf, hM⟩
            try dsimp only at h40
            rcases cond_some h40 with ⟨hc54, h40⟩ | ⟨hc54, h40⟩
            · refine cond_t hf rfl hc54 ?_
              refine wp_seq ?_
              refine region_pl ?_
              refine q_ hf rfl rfl rfl (e_move hf rfl) fun a hf => ?_
              obtain ⟨z55, hz56, h40⟩ := bind_some h40
              refine q_ hf rfl rfl rfl (e_add hf rfl rfl hz56) fun a hf => ?_
              refine q_ hf rfl rfl rfl (e_assign hf rfl) fun a hf => ?_
              refine pl_nil ?_
              refine then_n ?_
              refine wp_exit ?_
              refine then_x ?_
              refine exit_hit ?_
              obtain rfl := some_inj h40
              refine then_n ?_
              exact ⟨xs15, z55, A16, c17, rfl, hf.keep ⟨rfl, rfl, rfl, rfl, rfl, trivial⟩, hM.pick [] rfl, (chk_R hz56)⟩
            · refine cond_f hf rfl hc54 ?_
              refine wp_skip ?_
              refine then_n ?_
              refine region_pl ?_
              refine q_ hf rfl rfl rfl (e_move hf rfl) fun a hf => ?_
              refine q_ hf rfl rfl rfl (e_move hf rfl) fun a hf => ?_
              refine q_ hf rfl rfl rfl (e_move hf rfl) fun a hf => ?_
              obtain ⟨c58, hz59, h40⟩ := bind_some h40
              refine q_ hf rfl rfl rfl (e_indexS hf (x := a1) rfl rfl Try.underlying9 hz59) fun a hf => ?_
              refine pl_l hf rfl rfl rfl (w_slice hf hM (K := byteRep) (xs := ([c58] : Str)) (os := [.tmp 34]) Try.underlying38 ei_5 rfl rfl rfl rfl rfl ⟨⟨[vB (c58)], rfl, rfl⟩, trivial⟩ rfl fun b60 w61 hx62 hM a hf => ?_)
              obtain ⟨xs63, hz64, h40⟩ := bind_some h40
              refine pl_l hf rfl rfl rfl (w_append hf hM Try.underlying38 ei_5 rfl rfl rfl (k := 1) rfl (hM.srcRow (k := 0) rfl) hz64 fun A65 c66 w67 hM a hf => ?_)
              dsimp only [List.set] at hM
              refine q_ hf rfl rfl rfl (e_assign hf rfl) fun a hf => ?_
              refine pl_nil ?_
              refine blk_n ?_
              obtain rfl := some_inj h40
              refine then_n ?_
              exact ⟨xs63, n18, A65, c66, rfl, hf.keep ⟨rfl, rfl, rfl, rfl, rfl, trivial⟩, (hM.drop (.cons _ (.cons_cons _ .slnil))).pick [] rfl, hv19⟩
        · rintro a w71 ⟨xs34, n37, A35, c36, rfl, hf, hM, hv38⟩
          try dsimp only at h31
          refine region_pl ?_
          refine q_ hf rfl rfl rfl (e_move hf rfl) fun a hf => ?_
          obtain ⟨z72, hz73, h31⟩ := bind_some h31
          refine q_ hf rfl rfl rfl (e_add hf rfl rfl hz73) fun a hf => ?_
          refine q_ hf rfl rfl rfl (e_assign hf rfl) fun a hf => ?_
          refine pl_nil ?_
          obtain rfl := some_inj h31
          refine then_n ⟨_, rfl, ?_⟩
          exact ⟨xs34, n37, z72, A35, c36, rfl, hf.keep ⟨rfl, rfl, rfl, rfl, rfl, trivial⟩, hM.pick [] rfl, hv38, (chk_R hz73)⟩
      · refine cond_f hf rfl hc33 ?_
        refine wp_exit ?_
        refine then_x ?_
        obtain rfl := some_inj h31
        obtain rfl := hd32 _ rfl
        try dsimp only at h14
        refine then_x ?_
        refine exit_hit ?_
        obtain rfl := some_inj h14
        refine then_n ?_
        exact ⟨xs15, n18, A16, c17, rfl, hf.keep ⟨rfl, rfl, rfl, trivial⟩, hM.pick [] rfl, hv19⟩
  · rintro a w79 ⟨xs8, n11, A9, c10, rfl, hf, hM, hv12⟩
    try dsimp only at h
    refine wp_seq ?_
    refine region_pl ?_
    refine q_ hf rfl rfl rfl (e_move hf rfl) fun a hf => ?_
    have hl80 := row_len (hM.ownAt (k := 0) rfl)
    refine q_ hf rfl rfl rfl (e_bytesStr hf (xs := xs8) rfl Try.underlying38 Try.underlying5 Try.underlying9 (hM.lendRow (k := 0) rfl)) fun a hf => ?_
    refine q_ hf rfl rfl rfl (e_move hf rfl) fun a hf => ?_
    refine q_ hf rfl rfl rfl (e_move hf rfl) fun a hf => ?_
    refine q_ hf rfl rfl rfl (e_lenS hf (x := b3) rfl Try.underlying9) fun a hf => ?_
    refine q_ hf rfl rfl rfl (e_eq hf (x := n11) (y := (b3.length : Int)) rfl rfl) fun a hf => ?_
    refine q_ hf rfl rfl rfl (e_assign hf rfl) fun a hf => ?_
    refine q_ hf rfl rfl rfl (e_assign hf rfl) fun a hf => ?_
    refine pl_nil ?_
    refine then_n ?_
    refine wp_ret ?_
    obtain rfl := some_inj h
    have hM := hM.outs (own' := []) 0 rfl
    exact leave2 hf rfl rfl rfl ⟨rfl, hM.fin, hl80⟩

set_option maxRecDepth 100000 in
set_option maxHeartbeats 4000000 in
theorem r_spec_ContainsTiles (C : Cx) (a1 : Str) (hp2 : a1.length ≤ maxLen) (b3 : Str) (hp4 : b3.length ≤ maxLen) (r : Bool) (h : m_spec_ContainsTiles a1 b3 = some r) :
    Calls Try.prog 24 #[vS (a1), vS (b3)] C.w0 fun e w => e = .returned (.bool (r)) ∧ Mem C w [] [] := by
  have hM := Mem.begin C [] trivial
  refine enter Try.func24 rfl Try.ntmps24 rfl fun a hf => ?_
  unfold m_spec_ContainsTiles at h
  refine wp_seq ?_
  refine region_pl ?_
  refine q_ hf rfl rfl rfl (e_assign hf rfl) fun a hf => ?_
  refine pl_nil ?_
  refine then_n ?_
  refine wp_seq ?_
  refine region_pl ?_
  refine q_ hf rfl rfl rfl (e_move hf rfl) fun a hf => ?_
  refine q_ hf rfl rfl rfl (e_move hf rfl) fun a hf => ?_
  obtain ⟨y5, hz6, h⟩ := bind_some h
  refine pl_l hf rfl rfl rfl (w_call hf Try.call51 rfl (r_spec_l03Take ⟨_, Sh C _ _, none_, hM.sh_lt, none_not, C.G, hM.g_lt, g_none, hM.tabs⟩ a1 hp2 b3 hp4 _ hz6) ?_)
  rintro _ w8 ⟨rfl, hM2, hv7⟩
  obtain ⟨hM, hx9, hup10⟩ := hM.back hM2
  dsimp only [List.cons_append, List.nil_append] at hM hup10
  clear hM2
  refine ⟨_, rfl, fun a hf => ?_⟩
  refine q_ hf rfl rfl rfl (e_move hf rfl) fun a hf => ?_
  refine q_ hf rfl rfl rfl (e_extract hf rfl rfl) fun a hf => ?_
  refine q_ hf rfl rfl rfl (e_extract hf rfl rfl) fun a hf => ?_
  refine q_ hf rfl rfl rfl (e_assign hf rfl) fun a hf => ?_
  refine q_ hf rfl rfl rfl (e_assign hf rfl) fun a hf => ?_
  refine pl_nil ?_
  refine then_n ?_
  obtain ⟨x13, h14, h⟩ := bind_some h
  refine seq_join (fun a w => ∃ (ok11 : Bool), ok11 = x13 ∧ Has 22 a [(4, .bool (ok11))] ∧ Mem C w [] []) ?_ ?_
  · refine region_pl ?_
    refine q_ hf rfl rfl rfl (e_move hf rfl) fun a hf => ?_
    obtain ⟨y15, hz16, h14⟩ := bind_some h14
    refine pl_l hf rfl rfl rfl (w_call hf Try.call52 rfl (r_spec_l03Pile ⟨_, Sh C _ _, none_, hM.sh_lt, none_not, C.G, hM.g_lt, g_none, hM.tabs⟩ a1 hp2 _ hz16) ?_)
    rintro _ w17 ⟨rfl, hM2⟩
    obtain ⟨hM, hx18, hup19⟩ := hM.back hM2
    dsimp only [List.cons_append, List.nil_append] at hM hup19
    clear hM2
    refine ⟨_, rfl, fun a hf => ?_⟩
    refine q_ hf rfl rfl rfl (e_move hf rfl) fun a hf => ?_
    rcases cond_some h14 with ⟨hc20, h14⟩ | ⟨hc20, h14⟩
    · refine gq (wanted_t hf rfl rfl rfl rfl hc20) hf rfl rfl (e_move hf rfl) fun a hf => ?_
      obtain ⟨y21, hz22, h14⟩ := bind_some h14
      refine pl_gl (wanted_t hf rfl rfl rfl rfl hc20) hf rfl rfl (w_call hf Try.call52 rfl (r_spec_l03Pile ⟨_, Sh C _ _, none_, hM.sh_lt, none_not, C.G, hM.g_lt, g_none, hM.tabs⟩ b3 hp4 _ hz22) ?_)
      rintro _ w23 ⟨rfl, hM2⟩
      obtain ⟨hM, hx24, hup25⟩ := hM.back hM2
      dsimp only [List.cons_append, List.nil_append] at hM hup25
      clear hM2
      refine ⟨_, rfl, fun a hf => ?_⟩
      refine q_ hf rfl rfl rfl (e_pick_t hf rfl hc20 rfl) fun a hf => ?_
      refine q_ hf rfl rfl rfl (e_move hf rfl) fun a hf => ?_
      rcases cond_some h14 with ⟨hc26, h14⟩ | ⟨hc26, h14⟩
      · refine gq (wanted_t hf rfl rfl rfl rfl hc26) hf rfl rfl (e_move hf rfl) fun a hf => ?_
        refine q_ hf rfl rfl rfl (e_pick_t hf rfl hc26 rfl) fun a hf => ?_
        refine q_ hf rfl rfl rfl (e_assign hf rfl) fun a hf => ?_
        refine pl_nil ?_
        obtain rfl := some_inj h14
        refine then_n ?_
        exact ⟨y5.2, rfl, hf.keep ⟨rfl, trivial⟩, hM.pick [] rfl⟩
      · refine pl_gs (wanted_f hf rfl rfl rfl rfl hc26) hf rfl rfl fun a hf => ?_
        refine q_ hf rfl rfl rfl (e_pick_f hf rfl hc26 rfl) fun a hf => ?_
        refine q_ hf rfl rfl rfl (e_assign hf rfl) fun a hf => ?_
        refine pl_nil ?_
        obtain rfl := some_inj h14
        refine then_n ?_
        exact ⟨false, rfl, hf.keep ⟨rfl, trivial⟩, hM.pick [] rfl⟩
    · refine pl_gs (wanted_f hf rfl rfl rfl rfl hc20) hf rfl rfl fun a hf => ?_
      refine pl_gs (wanted_f hf rfl rfl rfl rfl hc20) hf rfl rfl fun a hf => ?_
      refine q_ hf rfl rfl rfl (e_pick_f hf rfl hc20 rfl) fun a hf => ?_
      refine q_ hf rfl rfl rfl (e_move hf rfl) fun a hf => ?_
      refine pl_gs (wanted_f hf rfl rfl rfl rfl rfl) hf rfl rfl fun a hf => ?_
      refine q_ hf rfl rfl rfl (e_pick_f hf rfl rfl rfl) fun a hf => ?_
      refine q_ hf rfl rfl rfl (e_assign hf rfl) fun a hf => ?_
      refine pl_nil ?_
      obtain rfl := some_inj h14
      refine then_n ?_
      exact ⟨false, rfl, hf.keep ⟨rfl, trivial⟩, hM.pick [] rfl⟩
  · rintro a w30 ⟨ok11, rfl, hf, hM⟩
    try dsimp only at h
    refine wp_ret ?_
    obtain rfl := some_inj h
    exact leave1 hf rfl rfl ⟨rfl, hM.fin⟩

set_option maxRecDepth 100000 in
set_option maxHeartbeats 4000000 in
theorem r_spec_ChanceOf (C : Cx) (pile1 : Str) (hp2 : pile1.length ≤ maxLen) (n3 : Int) (hp4 : R64 n3) (tiles5 : Str) (hp6 : tiles5.length ≤ maxLen) (r : (Int × Int)) (h : m_spec_ChanceOf pile1 n3 tiles5 = some r) :
    Calls Try.prog 26 #[vS (pile1), vI (n3), vS (tiles5)] C.w0 fun e w => e = .returned (.tuple #[vI (r.1), vI (r.2)]) ∧ Mem C w [] [] ∧ R64 r.1 ∧ R64 r.2 := by
  have hM := Mem.begin C [] trivial
  refine enter Try.func26 rfl Try.ntmps26 rfl fun a hf => ?_
  unfold m_spec_ChanceOf at h
  refine wp_seq ?_
  refine region_pl ?_
  refine q_ hf rfl rfl rfl (e_assign hf rfl) fun a hf => ?_
  refine q_ hf rfl rfl rfl (e_assign hf rfl) fun a hf => ?_
  refine pl_nil ?_
  refine then_n ?_
  refine wp_seq ?_
  obtain ⟨x9, h10, h⟩ := bind_some h
  refine seq_join (fun a w => ∃ (t7 : Bool), t7 = x9 ∧ Has 50 a [(0, vS (pile1)), (1, vI (n3)), (2, vS (tiles5)), (19, .bool (t7))] ∧ Mem C w [] []) ?_ ?_
  · refine region_pl ?_
    refine q_ hf rfl rfl rfl (e_move hf rfl) fun a hf => ?_
    obtain ⟨y11, hz12, h10⟩ := bind_some h10
    refine pl_l hf rfl rfl rfl (w_call hf Try.call54 rfl (r_spec_l21Pool ⟨_, Sh C _ _, none_, hM.sh_lt, none_not, C.G, hM.g_lt, g_none, hM.tabs⟩ pile1 hp2 _ hz12) ?_)
    rintro _ w13 ⟨rfl, hM2⟩
    obtain ⟨hM, hx14, hup15⟩ := hM.back hM2
    dsimp only [List.cons_append, List.nil_append] at hM hup15
    clear hM2
    refine ⟨_, rfl, fun a hf => ?_⟩
    refine q_ hf rfl rfl rfl (e_not hf rfl) fun a hf => ?_
    refine q_ hf rfl rfl rfl (e_move hf rfl) fun a hf => ?_
    rcases cond_some h10 with ⟨hc16, h10⟩ | ⟨hc16, h10⟩
    · refine pl_gs (wanted_f hf rfl rfl rfl rfl hc16) hf rfl rfl fun a hf => ?_
      refine pl_gs (wanted_f hf rfl rfl rfl rfl hc16) hf rfl rfl fun a hf => ?_
      refine pl_gs (wanted_f hf rfl rfl rfl rfl hc16) hf rfl rfl fun a hf => ?_
      refine q_ hf rfl rfl rfl (e_pick_t hf rfl hc16 rfl) fun a hf => ?_
      refine pl_nil ?_
      obtain rfl := some_inj h10
      refine then_n ?_
      exact ⟨true, rfl, hf.keep ⟨rfl, rfl, rfl, rfl, trivial⟩, hM.pick [] rfl⟩
    · refine gq (wanted_t hf rfl rfl rfl rfl hc16) hf rfl rfl (e_move hf rfl) fun a hf => ?_
      obtain ⟨y18, hz19, h10⟩ := bind_some h10
      refine pl_gl (wanted_t hf rfl rfl rfl rfl hc16) hf rfl rfl (w_call hf Try.call52 rfl (r_spec_l03Pile ⟨_, Sh C _ _, none_, hM.sh_lt, none_not, C.G, hM.g_lt, g_none, hM.tabs⟩ tiles5 hp6 _ hz19) ?_)
      rintro _ w20 ⟨rfl, hM2⟩
      obtain ⟨hM, hx21, hup22⟩ := hM.back hM2
      dsimp only [List.cons_append, List.nil_append] at hM hup22
      clear hM2
      refine ⟨_, rfl, fun a hf => ?_⟩
      refine gq (wanted_t hf rfl rfl rfl rfl hc16) hf rfl rfl (e_not hf rfl) fun a hf => ?_
      refine q_ hf rfl rfl rfl (e_pick_f hf rfl hc16 rfl) fun a hf => ?_
      refine pl_nil ?_
      obtain rfl := some_inj h10
      refine then_n ?_
      exact ⟨(!y18), rfl, hf.keep ⟨rfl, rfl, rfl, rfl, trivial⟩, hM.pick [] rfl⟩
  · rintro a w24 ⟨t7, rfl, hf, hM⟩
    try dsimp only at h
    rcases cond_some h with ⟨hc25, h⟩ | ⟨hc25, h⟩
    · refine cond_t hf rfl hc25 ?_
      refine wp_seq ?_
      refine region_pl ?_
      refine q_ hf rfl rfl rfl (e_assign hf rfl) fun a hf => ?_
      refine q_ hf rfl rfl rfl (e_assign hf rfl) fun a hf => ?_
      refine pl_nil ?_
      refine then_n ?_
      refine wp_ret ?_
      refine then_r ?_
      obtain rfl := some_inj h
      exact leave2 hf rfl rfl rfl ⟨rfl, hM.fin, (R64_lit rfl), (R64_lit rfl)⟩
    · refine cond_f hf rfl hc25 ?_
      refine wp_skip ?_
      refine then_n ?_
      refine wp_seq ?_
      refine region_pl ?_
      refine q_ hf rfl rfl rfl (e_move hf rfl) fun a hf => ?_
      refine q_ hf rfl rfl rfl (e_move hf rfl) fun a hf => ?_
      obtain ⟨y26, hz27, h⟩ := bind_some h
      refine pl_l hf rfl rfl rfl (w_call hf Try.call55 rfl (r_spec_l21Code ⟨_, Sh C _ _, none_, hM.sh_lt, none_not, C.G, hM.g_lt, g_none, hM.tabs⟩ pile1 hp2 n3 hp4 _ hz27) ?_)
      rintro _ w29 ⟨rfl, hM2, hv28⟩
      obtain ⟨hM, hx30, hup31⟩ := hM.back hM2
      dsimp only [List.cons_append, List.nil_append] at hM hup31
      clear hM2
      refine ⟨_, rfl, fun a hf => ?_⟩
      refine q_ hf rfl rfl rfl (e_assign hf rfl) fun a hf => ?_
      refine pl_nil ?_
      refine then_n ?_
      refine wp_seq ?_
      refine wp_seq ?_
      refine region_pl ?_
      refine q_ hf rfl rfl rfl (e_move hf rfl) fun a hf => ?_
      refine q_ hf rfl rfl rfl (e_ne hf (x := y26) (y := 0) rfl rfl) fun a hf => ?_
      refine pl_nil ?_
      refine then_n ?_
      rcases cond_some h with ⟨hc32, h⟩ | ⟨hc32, h⟩
      · refine cond_t hf rfl hc32 ?_
        refine wp_seq ?_
        refine region_pl ?_
        refine q_ hf rfl rfl rfl (e_move hf rfl) fun a hf => ?_
        refine q_ hf rfl rfl rfl (e_assign hf rfl) fun a hf => ?_
        refine q_ hf rfl rfl rfl (e_assign hf rfl) fun a hf => ?_
        refine pl_nil ?_
        refine then_n ?_
        refine wp_ret ?_
        refine then_r ?_
        obtain rfl := some_inj h
        exact leave2 hf rfl rfl rfl ⟨rfl, hM.fin, (R64_lit rfl), hv28⟩
      · refine cond_f hf rfl hc32 ?_
        refine wp_skip ?_
        refine then_n ?_
        refine wp_seq ?_
        refine region_pl ?_
        refine q_ hf rfl rfl rfl (e_move hf rfl) fun a hf => ?_
        refine q_ hf rfl rfl rfl (e_move hf rfl) fun a hf => ?_
        obtain ⟨y33, hz34, h⟩ := bind_some h
        refine pl_l hf rfl rfl rfl (w_call hf Try.call37 rfl (r_spec_l21Draws ⟨_, Sh C _ _, none_, hM.sh_lt, none_not, C.G, hM.g_lt, g_none, hM.tabs⟩ pile1 hp2 n3 hp4 _ hz34) ?_)
        rintro _ w37 ⟨A35, c36, rfl, hM2⟩
        obtain ⟨hM, hx38, hup39⟩ := hM.back hM2
        dsimp only [List.cons_append, List.nil_append] at hM hup39
        clear hM2
        refine ⟨_, rfl, fun a hf => ?_⟩
        refine q_ hf rfl rfl rfl (e_assign hf rfl) fun a hf => ?_
        refine pl_nil ?_
        refine then_n ?_
        refine wp_seq ?_
        refine region_pl ?_
        refine q_ hf rfl rfl rfl (e_assign hf rfl) fun a hf => ?_
        refine pl_nil ?_
        refine then_n ?_
        obtain ⟨x42, h43, h⟩ := bind_some h
        refine seq_join (fun a w => ∃ (n40 : Int), n40 = x42 ∧ Has 50 a [(10, vI (n40))] ∧ Mem C w [.row DrawnRep A35 c36 47 y33 true] [] ∧ R64 n40) ?_ ?_
        · refine wp_seq ?_
          refine region_pl ?_
          refine q_ hf rfl rfl rfl (e_assign hf rfl) fun a hf => ?_
          refine pl_nil ?_
          refine then_n ?_
          refine wp_block ?_
          obtain ⟨x51, h52, h43⟩ := bind_some h43
          refine wp_loopM h52 (fun s a w => ∃ (n44 : Int) (n46 : Int), (n44, n46) = s ∧ Has 50 a [(2, vS (tiles5)), (9, vL A35 (y33) c36), (10, vI (n44)), (11, vI (n46))] ∧ Mem C w [.row DrawnRep A35 c36 47 y33 true] [] ∧ R64 n44 ∧ R64 n46) ?_ ?_
          · exact ⟨0, 0, rfl, hf.keep ⟨rfl, rfl, rfl, rfl, trivial⟩, hM.pick [] rfl, (R64_lit rfl), (R64_lit rfl)⟩
          · rintro s o53 a w48 ⟨n44, n46, rfl, hf, hM, hv45, hv47⟩ h54 hd55
            replace h54 : m_spec_ChanceOf_l1 y33 tiles5 n44 n46 = some o53 := h54
            unfold m_spec_ChanceOf_l1 at h54
            refine wp_seq ?_
            refine wp_seq ?_
            refine region_pl ?_
            refine q_ hf rfl rfl rfl (e_move hf rfl) fun a hf => ?_
            refine q_ hf rfl rfl rfl (e_move hf rfl) fun a hf => ?_
            have hl56 := row_len (hM.ownAt (k := 0) rfl)
            refine q_ hf rfl rfl rfl (e_lenL hf (x := y33) rfl Try.underlying32) fun a hf => ?_
            refine q_ hf rfl rfl rfl (e_lt hf (x := n46) (y := (y33.length : Int)) rfl rfl) fun a hf => ?_
            refine pl_nil ?_
            refine then_n ?_
            rcases cond_some h54 with ⟨hc57, h54⟩ | ⟨hc57, h54⟩
            · refine cond_t hf rfl hc57 ?_
              refine wp_skip ?_
              refine then_n ?_
              obtain ⟨x60, h61, h54⟩ := bind_some h54
              refine seq_join (fun a w => ∃ (n58 : Int), n58 = x60 ∧ Has 50 a [(2, vS (tiles5)), (9, vL A35 (y33) c36), (10, vI (n58)), (11, vI (n46))] ∧ Mem C w [.row DrawnRep A35 c36 47 y33 true] [] ∧ R64 n58) ?_ ?_
              · refine wp_block ?_
                refine wp_seq ?_
                refine region_pl ?_
                refine q_ hf rfl rfl rfl (e_move hf rfl) fun a hf => ?_
                refine q_ hf rfl rfl rfl (e_move hf rfl) fun a hf => ?_
                obtain ⟨e62, hz63, h61⟩ := bind_some h61
                obtain ⟨b68, _, hA69, h64, h65, hr66, hcell67⟩ := hM.rowElemN (k := 0) rfl (n := 2) rfl hz63
                obtain ⟨rfl, hv70, hv71⟩ := DrawnRep_open hr66
                refine q_ hf rfl rfl rfl (e_indexAddr (A := A35) (b := b68) (o := 0) (xs := y33) (i := n46) hf hA69 rfl rfl Try.underlying32 Try.sizeOf47 h64 h65) fun a hf => ?_
                refine q_ hf rfl rfl rfl (e_field hf rfl Try.underlying47 rfl Try.sizeOf9 (o' := (0 + (n46 : Int).toNat * 2) + 0) rfl) fun a hf => ?_
                refine q_ hf rfl rfl rfl (e_load1 hf rfl Try.isAgg9 (hcell67 0 _ rfl)) fun a hf => ?_
                refine q_ hf rfl rfl rfl (e_move hf rfl) fun a hf => ?_
                obtain ⟨y72, hz73, h61⟩ := bind_some h61
                refine pl_l hf rfl rfl rfl (w_call hf Try.call24 rfl (r_spec_ContainsTiles ⟨_, Sh C _ _, none_, hM.sh_lt, none_not, C.G, hM.g_lt, g_none, hM.tabs⟩ e62.Tiles hv70 tiles5 hp6 _ hz73) ?_)
                rintro _ w74 ⟨rfl, hM2⟩
                obtain ⟨hM, hx75, hup76⟩ := hM.back hM2
                dsimp only [List.cons_append, List.nil_append] at hM hup76
                clear hM2
                refine ⟨_, rfl, fun a hf => ?_⟩
                refine pl_nil ?_
                refine then_n ?_
                rcases cond_some h61 with ⟨hc77, h61⟩ | ⟨hc77, h61⟩
                · refine cond_t hf rfl hc77 ?_
                  refine region_pl ?_
                  refine q_ hf rfl rfl rfl (e_move hf rfl) fun a hf => ?_
                  refine q_ hf rfl rfl rfl (e_move hf rfl) fun a hf => ?_
                  refine q_ hf rfl rfl rfl (e_move hf rfl) fun a hf => ?_
                  obtain ⟨e78, hz79, h61⟩ := bind_some h61
                  obtain ⟨b84, _, hA85, h80, h81, hr82, hcell83⟩ := hM.rowElemN (k := 0) rfl (n := 2) rfl hz79
                  obtain ⟨rfl, hv86, hv87⟩ := DrawnRep_open hr82
                  refine q_ hf rfl rfl rfl (e_indexAddr (A := A35) (b := b84) (o := 0) (xs := y33) (i := n46) hf hA85 rfl rfl Try.underlying32 Try.sizeOf47 h80 h81) fun a hf => ?_
                  refine q_ hf rfl rfl rfl (e_field hf rfl Try.underlying47 rfl Try.sizeOf2 (o' := (0 + (n46 : Int).toNat * 2) + 1) rfl) fun a hf => ?_
                  refine q_ hf rfl rfl rfl (e_load1 hf rfl Try.isAgg2 (hcell83 1 _ rfl)) fun a hf => ?_
                  obtain ⟨z88, hz89, h61⟩ := bind_some h61
                  refine q_ hf rfl rfl rfl (e_add hf rfl rfl hz89) fun a hf => ?_
                  refine q_ hf rfl rfl rfl (e_assign hf rfl) fun a hf => ?_
                  refine pl_nil ?_
                  refine blk_n ?_
                  obtain rfl := some_inj h61
                  refine then_n ?_
                  exact ⟨z88, rfl, hf.keep ⟨rfl, rfl, rfl, rfl, trivial⟩, hM.pick [] rfl, (chk_R hz89)⟩
                · refine cond_f hf rfl hc77 ?_
                  refine wp_skip ?_
                  refine blk_n ?_
                  obtain rfl := some_inj h61
                  refine then_n ?_
                  exact ⟨n44, rfl, hf.keep ⟨rfl, rfl, rfl, rfl, trivial⟩, hM.pick [] rfl, hv45⟩
              · rintro a w92 ⟨n58, rfl, hf, hM, hv59⟩
                try dsimp only at h54
                refine region_pl ?_
                refine q_ hf rfl rfl rfl (e_move hf rfl) fun a hf => ?_
                obtain ⟨z93, hz94, h54⟩ := bind_some h54
                refine q_ hf rfl rfl rfl (e_add hf rfl rfl hz94) fun a hf => ?_
                refine q_ hf rfl rfl rfl (e_assign hf rfl) fun a hf => ?_
                refine pl_nil ?_
                obtain rfl := some_inj h54
                refine then_n ⟨_, rfl, ?_⟩
                exact ⟨n58, z93, rfl, hf.keep ⟨rfl, rfl, rfl, rfl, trivial⟩, hM.pick [] rfl, hv59, (chk_R hz94)⟩
            · refine cond_f hf rfl hc57 ?_
              refine wp_exit ?_
              refine then_x ?_
              obtain rfl := some_inj h54
              obtain rfl := hd55 _ rfl
              try dsimp only at h43
              refine then_x ?_
              refine exit_hit ?_
              obtain rfl := some_inj h43
              refine then_n ?_
              exact ⟨n44, rfl, hf.keep ⟨rfl, trivial⟩, hM.pick [] rfl, hv45⟩
        · rintro a w100 ⟨n40, rfl, hf, hM, hv41⟩
          try dsimp only at h
          refine wp_seq ?_
          refine region_pl ?_
          refine q_ hf rfl rfl rfl (e_move hf rfl) fun a hf => ?_
          refine q_ hf rfl rfl rfl (e_assign hf rfl) fun a hf => ?_
          refine q_ hf rfl rfl rfl (e_assign hf rfl) fun a hf => ?_
          refine pl_nil ?_
          refine then_n ?_
          refine wp_ret ?_
          obtain rfl := some_inj h
          have hM := hM.outs (own' := []) 0 rfl
          exact leave2 hf rfl rfl rfl ⟨rfl, hM.fin, hv41, (R64_lit rfl)⟩

set_option maxRecDepth 100000 in
set_option maxHeartbeats 4000000 in
theorem r_impl_small (C : Cx) (c1 : UInt8) (r : Bool) (h : m_impl_small c1 = some r) :
    Calls Try.prog 89 #[vB (c1)] C.w0 fun e w => e = .returned (.bool (r)) ∧ Mem C w [] [] := by
  have hM := Mem.begin C [] trivial
  refine enter Try.func89 rfl Try.ntmps89 rfl fun a hf => ?_
  unfold m_impl_small at h
  refine wp_seq ?_
  refine region_pl ?_
  refine q_ hf rfl rfl rfl (e_assign hf rfl) fun a hf => ?_
  refine pl_nil ?_
  refine then_n ?_
  obtain ⟨x4, h5, h⟩ := bind_some h
  refine seq_join (fun a w => ∃ (t2 : Bool), t2 = x4 ∧ Has 9 a [(2, .bool (t2))] ∧ Mem C w [] []) ?_ ?_
  · refine region_pl ?_
    refine q_ hf rfl rfl rfl (e_move hf rfl) fun a hf => ?_
    refine q_ hf rfl rfl rfl (e_leB hf (x := 97) (y := c1) rfl rfl) fun a hf => ?_
    refine q_ hf rfl rfl rfl (e_move hf rfl) fun a hf => ?_
    rcases cond_some h5 with ⟨hc6, h5⟩ | ⟨hc6, h5⟩
    · refine gq (wanted_t hf rfl rfl rfl rfl hc6) hf rfl rfl (e_move hf rfl) fun a hf => ?_
      refine gq (wanted_t hf rfl rfl rfl rfl hc6) hf rfl rfl (e_leB hf (x := c1) (y := 122) rfl rfl) fun a hf => ?_
      refine q_ hf rfl rfl rfl (e_pick_t hf rfl hc6 rfl) fun a hf => ?_
      refine q_ hf rfl rfl rfl (e_assign hf rfl) fun a hf => ?_
      refine pl_nil ?_
      obtain rfl := some_inj h5
      refine then_n ?_
      exact ⟨(decide (c1 ≤ 122)), rfl, hf.keep ⟨rfl, trivial⟩, hM.pick [] rfl⟩
    · refine pl_gs (wanted_f hf rfl rfl rfl rfl hc6) hf rfl rfl fun a hf => ?_
      refine pl_gs (wanted_f hf rfl rfl rfl rfl hc6) hf rfl rfl fun a hf => ?_
      refine q_ hf rfl rfl rfl (e_pick_f hf rfl hc6 rfl) fun a hf => ?_
      refine q_ hf rfl rfl rfl (e_assign hf rfl) fun a hf => ?_
      refine pl_nil ?_
      obtain rfl := some_inj h5
      refine then_n ?_
      exact ⟨false, rfl, hf.keep ⟨rfl, trivial⟩, hM.pick [] rfl⟩
  · rintro a w9 ⟨t2, rfl, hf, hM⟩
    try dsimp only at h
    refine wp_ret ?_
    obtain rfl := some_inj h
    exact leave1 hf rfl rfl ⟨rfl, hM.fin⟩

set_option maxRecDepth 100000 in
set_option maxHeartbeats 4000000 in
theorem r_impl_place (C : Cx) (tile1 : UInt8) (r : Int) (h : m_impl_place tile1 = some r) :
    Calls Try.prog 81 #[vB (tile1)] C.w0 fun e w => e = .returned (vI (r)) ∧ Mem C w [] [] ∧ R64 r := by
  have hM := Mem.begin C [] trivial
  refine enter Try.func81 rfl Try.ntmps81 rfl fun a hf => ?_
  unfold m_impl_place at h
  refine wp_seq ?_
  refine region_pl ?_
  refine q_ hf rfl rfl rfl (e_assign hf rfl) fun a hf => ?_
  refine pl_nil ?_
  refine then_n ?_
  refine wp_seq ?_
  refine wp_block ?_
  refine wp_seq ?_
  refine region_pl ?_
  refine q_ hf rfl rfl rfl (e_move hf rfl) fun a hf => ?_
  refine q_ hf rfl rfl rfl (e_eqB hf (x := tile1) (y := 63) rfl rfl) fun a hf => ?_
  refine q_ hf rfl rfl rfl (e_assign hf rfl) fun a hf => ?_
  refine pl_nil ?_
  refine then_n ?_
  rcases cond_some h with ⟨hc2, h⟩ | ⟨hc2, h⟩
  · refine cond_t hf rfl hc2 ?_
    refine wp_seq ?_
    refine region_pl ?_
    refine q_ hf rfl rfl rfl (e_assign hf rfl) fun a hf => ?_
    refine pl_nil ?_
    refine then_n ?_
    refine wp_ret ?_
    refine blk_r ?_
    refine then_r ?_
    obtain rfl := some_inj h
    exact leave1 hf rfl rfl ⟨rfl, hM.fin, (R64_lit rfl)⟩
  · refine cond_f hf rfl hc2 ?_
    refine wp_seq ?_
    refine region_pl ?_
    refine q_ hf rfl rfl rfl (e_move hf rfl) fun a hf => ?_
    obtain ⟨y3, hz4, h⟩ := bind_some h
    refine pl_l hf rfl rfl rfl (w_call hf Try.call89 rfl (r_impl_small ⟨_, Sh C _ _, none_, hM.sh_lt, none_not, C.G, hM.g_lt, g_none, hM.tabs⟩ tile1 _ hz4) ?_)
    rintro _ w5 ⟨rfl, hM2⟩
    obtain ⟨hM, hx6, hup7⟩ := hM.back hM2
    dsimp only [List.cons_append, List.nil_append] at hM hup7
    clear hM2
    refine ⟨_, rfl, fun a hf => ?_⟩
    refine q_ hf rfl rfl rfl (e_assign hf rfl) fun a hf => ?_
    refine pl_nil ?_
    refine then_n ?_
    rcases cond_some h with ⟨hc8, h⟩ | ⟨hc8, h⟩
    · refine cond_t hf rfl hc8 ?_
      refine wp_seq ?_
      refine region_pl ?_
      refine q_ hf rfl rfl rfl (e_move hf rfl) fun a hf => ?_
      refine q_ hf rfl rfl rfl (e_subB hf (x := tile1) (y := 97) rfl rfl) fun a hf => ?_
      refine q_ hf rfl rfl rfl (e_convBI hf (x := tile1 - 97) rfl Try.underlying5 Try.underlying3) fun a hf => ?_
      obtain ⟨z9, hz10, h⟩ := bind_some h
      refine q_ hf rfl rfl rfl (e_add hf rfl rfl hz10) fun a hf => ?_
      refine q_ hf rfl rfl rfl (e_assign hf rfl) fun a hf => ?_
      refine pl_nil ?_
      refine then_n ?_
      refine wp_ret ?_
      refine blk_r ?_
      refine then_r ?_
      obtain rfl := some_inj h
      exact leave1 hf rfl rfl ⟨rfl, hM.fin, (chk_R hz10)⟩
    · refine cond_f hf rfl hc8 ?_
      refine wp_skip ?_
      refine blk_n ?_
      refine then_n ?_
      refine wp_seq ?_
      refine region_pl ?_
      refine q_ hf rfl rfl rfl (e_assign hf rfl) fun a hf => ?_
      refine pl_nil ?_
      refine then_n ?_
      refine wp_ret ?_
      obtain rfl := some_inj h
      exact leave1 hf rfl rfl ⟨rfl, hM.fin, (R64_lit rfl)⟩

set_option maxRecDepth 100000 in
set_option maxHeartbeats 4000000 in
theorem r_impl_onlyTiles (C : Cx) (s1 : Str) (hp2 : s1.length ≤ maxLen) (r : Bool) (h : m_impl_onlyTiles s1 = some r) :
    Calls Try.prog 70 #[vS (s1)] C.w0 fun e w => e = .returned (.bool (r)) ∧ Mem C w [] [] := by
  have hM := Mem.begin C [] trivial
  refine enter Try.func70 rfl Try.ntmps70 rfl fun a hf => ?_
  unfold m_impl_onlyTiles at h
  refine wp_seq ?_
  refine region_pl ?_
  refine q_ hf rfl rfl rfl (e_assign hf rfl) fun a hf => ?_
  refine pl_nil ?_
  refine then_n ?_
  obtain ⟨x3, h4, h⟩ := bind_some h
  refine seq_join (fun a w => (.inl ()) = x3 ∧ Has 15 a [] ∧ Mem C w [] []) ?_ ?_
  · refine wp_seq ?_
    refine region_pl ?_
    refine q_ hf rfl rfl rfl (e_assign hf rfl) fun a hf => ?_
    refine pl_nil ?_
    refine then_n ?_
    refine wp_block ?_
    obtain ⟨x8, h9, h4⟩ := bind_some h4
    refine wp_loopM h9 (fun s a w => ∃ (n5 : Int), n5 = s ∧ Has 15 a [(0, vS (s1)), (3, vI (n5))] ∧ Mem C w [] [] ∧ R64 n5) ?_ ?_
    · exact ⟨0, rfl, hf.keep ⟨rfl, rfl, trivial⟩, hM.pick [] rfl, (R64_lit rfl)⟩
    · rintro s o10 a w7 ⟨n5, rfl, hf, hM, hv6⟩ h11 hd12
      replace h11 : m_impl_onlyTiles_l1 s1 n5 = some o10 := h11
      unfold m_impl_onlyTiles_l1 at h11
      refine wp_seq ?_
      refine wp_seq ?_
      refine region_pl ?_
      refine q_ hf rfl rfl rfl (e_move hf rfl) fun a hf => ?_
      refine q_ hf rfl rfl rfl (e_move hf rfl) fun a hf => ?_
      refine q_ hf rfl rfl rfl (e_lenS hf (x := s1) rfl Try.underlying9) fun a hf => ?_
      refine q_ hf rfl rfl rfl (e_lt hf (x := n5) (y := (s1.length : Int)) rfl rfl) fun a hf => ?_
      refine pl_nil ?_
      refine then_n ?_
      rcases cond_some h11 with ⟨hc13, h11⟩ | ⟨hc13, h11⟩
      · refine cond_t hf rfl hc13 ?_
        refine wp_skip ?_
        refine then_n ?_
        refine wp_seq ?_
        refine wp_block ?_
        refine wp_seq ?_
        refine region_pl ?_
        refine q_ hf rfl rfl rfl (e_move hf rfl) fun a hf => ?_
        refine q_ hf rfl rfl rfl (e_move hf rfl) fun a hf => ?_
        obtain ⟨c14, hz15, h11⟩ := bind_some h11
        refine q_ hf rfl rfl rfl (e_indexS hf (x := s1) rfl rfl Try.underlying9 hz15) fun a hf => ?_
        obtain ⟨y16, hz17, h11⟩ := bind_some h11
        refine pl_l hf rfl rfl rfl (w_call hf Try.call81 rfl (r_impl_place ⟨_, Sh C _ _, none_, hM.sh_lt, none_not, C.G, hM.g_lt, g_none, hM.tabs⟩ c14 _ hz17) ?_)
        rintro _ w19 ⟨rfl, hM2, hv18⟩
        obtain ⟨hM, hx20, hup21⟩ := hM.back hM2
        dsimp only [List.cons_append, List.nil_append] at hM hup21
        clear hM2
        refine ⟨_, rfl, fun a hf => ?_⟩
        refine q_ hf rfl rfl rfl (e_lt hf (x := y16) (y := 0) rfl rfl) fun a hf => ?_
        refine pl_nil ?_
        refine then_n ?_
        rcases cond_some h11 with ⟨hc22, h11⟩ | ⟨hc22, h11⟩
        · refine cond_t hf rfl hc22 ?_
          refine wp_seq ?_
          refine region_pl ?_
          refine q_ hf rfl rfl rfl (e_assign hf rfl) fun a hf => ?_
          refine pl_nil ?_
          refine then_n ?_
          refine wp_ret ?_
          refine blk_r ?_
          refine then_r ?_
          obtain rfl := some_inj h11
          obtain rfl := hd12 _ rfl
          try dsimp only at h4
          refine then_r ?_
          refine blk_r ?_
          obtain rfl := some_inj h4
          try dsimp only at h
          refine then_r ?_
          obtain rfl := some_inj h
          exact leave1 hf rfl rfl ⟨rfl, hM.fin⟩
        · refine cond_f hf rfl hc22 ?_
          refine wp_skip ?_
          refine blk_n ?_
          refine then_n ?_
          refine region_pl ?_
          refine q_ hf rfl rfl rfl (e_move hf rfl) fun a hf => ?_
          obtain ⟨z23, hz24, h11⟩ := bind_some h11
          refine q_ hf rfl rfl rfl (e_add hf rfl rfl hz24) fun a hf => ?_
          refine q_ hf rfl rfl rfl (e_assign hf rfl) fun a hf => ?_
          refine pl_nil ?_
          obtain rfl := some_inj h11
          refine then_n ⟨_, rfl, ?_⟩
          exact ⟨z23, rfl, hf.keep ⟨rfl, rfl, trivial⟩, hM.pick [] rfl, (chk_R hz24)⟩
      · refine cond_f hf rfl hc13 ?_
        refine wp_exit ?_
        refine then_x ?_
        obtain rfl := some_inj h11
        obtain rfl := hd12 _ rfl
        try dsimp only at h4
        refine then_x ?_
        refine exit_hit ?_
        obtain rfl := some_inj h4
        refine then_n ?_
        exact ⟨rfl, hf.keep trivial, hM.pick [] rfl⟩
  · rintro a w31 ⟨rfl, hf, hM⟩
    try dsimp only at h
    refine wp_seq ?_
    refine region_pl ?_
    refine q_ hf rfl rfl rfl (e_assign hf rfl) fun a hf => ?_
    refine pl_nil ?_
    refine then_n ?_
    refine wp_ret ?_
    obtain rfl := some_inj h
    exact leave1 hf rfl rfl ⟨rfl, hM.fin⟩

set_option maxRecDepth 100000 in
set_option maxHeartbeats 4000000 in
theorem r_impl_ValidPile (C : Cx) (s1 : Str) (hp2 : s1.length ≤ maxLen) (r : Bool) (h : m_impl_ValidPile s1 = some r) :
    Calls Try.prog 47 #[vS (s1)] C.w0 fun e w => e = .returned (.bool (r)) ∧ Mem C w [] [] := by
  have hM := Mem.begin C [] trivial
  refine enter Try.func47 rfl Try.ntmps47 rfl fun a hf => ?_
  unfold m_impl_ValidPile at h
  refine wp_seq ?_
  refine region_pl ?_
  refine q_ hf rfl rfl rfl (e_assign hf rfl) fun a hf => ?_
  refine pl_nil ?_
  refine then_n ?_
  refine wp_seq ?_
  obtain ⟨x5, h6, h⟩ := bind_some h
  refine seq_join (fun a w => ∃ (t3 : Bool), t3 = x5 ∧ Has 26 a [(0, vS (s1)), (11, .bool (t3))] ∧ Mem C w [] []) ?_ ?_
  · refine region_pl ?_
    refine q_ hf rfl rfl rfl (e_move hf rfl) fun a hf => ?_
    refine q_ hf rfl rfl rfl (e_lenS hf (x := s1) rfl Try.underlying9) fun a hf => ?_
    refine q_ hf rfl rfl rfl (e_gt hf (x := (s1.length : Int)) (y := 120) rfl rfl) fun a hf => ?_
    refine q_ hf rfl rfl rfl (e_move hf rfl) fun a hf => ?_
    rcases cond_some h6 with ⟨hc7, h6⟩ | ⟨hc7, h6⟩
    · refine pl_gs (wanted_f hf rfl rfl rfl rfl hc7) hf rfl rfl fun a hf => ?_
      refine pl_gs (wanted_f hf rfl rfl rfl rfl hc7) hf rfl rfl fun a hf => ?_
      refine pl_gs (wanted_f hf rfl rfl rfl rfl hc7) hf rfl rfl fun a hf => ?_
      refine q_ hf rfl rfl rfl (e_pick_t hf rfl hc7 rfl) fun a hf => ?_
      refine pl_nil ?_
      obtain rfl := some_inj h6
      refine then_n ?_
      exact ⟨true, rfl, hf.keep ⟨rfl, rfl, trivial⟩, hM.pick [] rfl⟩
    · refine gq (wanted_t hf rfl rfl rfl rfl hc7) hf rfl rfl (e_move hf rfl) fun a hf => ?_
      obtain ⟨y9, hz10, h6⟩ := bind_some h6
      refine pl_gl (wanted_t hf rfl rfl rfl rfl hc7) hf rfl rfl (w_call hf Try.call70 rfl (r_impl_onlyTiles ⟨_, Sh C _ _, none_, hM.sh_lt, none_not, C.G, hM.g_lt, g_none, hM.tabs⟩ s1 hp2 _ hz10) ?_)
      rintro _ w11 ⟨rfl, hM2⟩
      obtain ⟨hM, hx12, hup13⟩ := hM.back hM2
      dsimp only [List.cons_append, List.nil_append] at hM hup13
      clear hM2
      refine ⟨_, rfl, fun a hf => ?_⟩
      refine gq (wanted_t hf rfl rfl rfl rfl hc7) hf rfl rfl (e_not hf rfl) fun a hf => ?_
      refine q_ hf rfl rfl rfl (e_pick_f hf rfl hc7 rfl) fun a hf => ?_
      refine pl_nil ?_
      obtain rfl := some_inj h6
      refine then_n ?_
      exact ⟨(!y9), rfl, hf.keep ⟨rfl, rfl, trivial⟩, hM.pick [] rfl⟩
  · rintro a w15 ⟨t3, rfl, hf, hM⟩
    try dsimp only at h
    rcases cond_some h with ⟨hc16, h⟩ | ⟨hc16, h⟩
    · refine cond_t hf rfl hc16 ?_
      refine wp_seq ?_
      refine region_pl ?_
      refine q_ hf rfl rfl rfl (e_assign hf rfl) fun a hf => ?_
      refine pl_nil ?_
      refine then_n ?_
      refine wp_ret ?_
      refine then_r ?_
      obtain rfl := some_inj h
      exact leave1 hf rfl rfl ⟨rfl, hM.fin⟩
    · refine cond_f hf rfl hc16 ?_
      refine wp_skip ?_
      refine then_n ?_
      obtain ⟨x17, h18, h⟩ := bind_some h
      refine seq_join (fun a w => (.inl ()) = x17 ∧ Has 26 a [] ∧ Mem C w [] []) ?_ ?_
      · refine wp_seq ?_
        refine region_pl ?_
        refine q_ hf rfl rfl rfl (e_assign hf rfl) fun a hf => ?_
        refine pl_nil ?_
        refine then_n ?_
        refine wp_block ?_
        obtain ⟨x22, h23, h18⟩ := bind_some h18
        refine wp_loopM h23 (fun s a w => ∃ (n19 : Int), n19 = s ∧ Has 26 a [(0, vS (s1)), (3, vI (n19))] ∧ Mem C w [] [] ∧ R64 n19) ?_ ?_
        · exact ⟨1, rfl, hf.keep ⟨rfl, rfl, trivial⟩, hM.pick [] rfl, (R64_lit rfl)⟩
        · rintro s o24 a w21 ⟨n19, rfl, hf, hM, hv20⟩ h25 hd26
          replace h25 : m_impl_ValidPile_l1 s1 n19 = some o24 := h25
          unfold m_impl_ValidPile_l1 at h25
          refine wp_seq ?_
          refine wp_seq ?_
          refine region_pl ?_
          refine q_ hf rfl rfl rfl (e_move hf rfl) fun a hf => ?_
          refine q_ hf rfl rfl rfl (e_move hf rfl) fun a hf => ?_
          refine q_ hf rfl rfl rfl (e_lenS hf (x := s1) rfl Try.underlying9) fun a hf => ?_
          refine q_ hf rfl rfl rfl (e_lt hf (x := n19) (y := (s1.length : Int)) rfl rfl) fun a hf => ?_
          refine pl_nil ?_
          refine then_n ?_
          rcases cond_some h25 with ⟨hc27, h25⟩ | ⟨hc27, h25⟩
          · refine cond_t hf rfl hc27 ?_
            refine wp_skip ?_
            refine then_n ?_
            refine wp_seq ?_
            refine wp_block ?_
            refine wp_seq ?_
            obtain ⟨w28, hw⟩ : ∃ x, x = w21.drew := ⟨_, rfl⟩
            refine region_pi (.q 0 (.q 1 (.q 2 (.q 3 (.q 4 (.q 5 (.q 6 (.q 7 (.nil))))))))) (Ext w28) rfl (by kernel_rfl) ?_
            have hM := hM.drew
            rw [← hw] at hM ⊢
            clear hw
            refine pi_q hf rfl rfl rfl rfl (Ext.refl _) (e_move hf rfl) fun a hf => ?_
            refine pi_q hf rfl rfl rfl rfl (Ext.refl _) (e_move hf rfl) fun a hf => ?_
            obtain ⟨z29, hz30, h25⟩ := bind_some h25
            refine pi_q hf rfl rfl rfl rfl (Ext.refl _) (e_sub hf rfl rfl hz30) fun a hf => ?_
            obtain ⟨c31, hz32, h25⟩ := bind_some h25
            refine pi_q hf rfl rfl rfl rfl (Ext.refl _) (e_indexS hf (x := s1) rfl rfl Try.underlying9 hz32) fun a hf => ?_
            refine pi_q hf rfl rfl rfl rfl (Ext.refl _) (e_move hf rfl) fun a hf => ?_
            refine pi_q hf rfl rfl rfl rfl (Ext.refl _) (e_move hf rfl) fun a hf => ?_
            obtain ⟨c33, hz34, h25⟩ := bind_some h25
            refine pi_q hf rfl rfl rfl rfl (Ext.refl _) (e_indexS hf (x := s1) rfl rfl Try.underlying9 hz34) fun a hf => ?_
            refine pi_q hf rfl rfl rfl rfl (Ext.refl _) (e_gtB hf (x := c31) (y := c33) rfl rfl) fun a hf => ?_
            refine pi_nil ?_
            refine then_n ?_
            rcases cond_some h25 with ⟨hc35, h25⟩ | ⟨hc35, h25⟩
            · refine cond_t hf rfl hc35 ?_
              refine wp_seq ?_
              refine region_pl ?_
              refine q_ hf rfl rfl rfl (e_assign hf rfl) fun a hf => ?_
              refine pl_nil ?_
              refine then_n ?_
              refine wp_ret ?_
              refine blk_r ?_
              refine then_r ?_
              obtain rfl := some_inj h25
              obtain rfl := hd26 _ rfl
              try dsimp only at h18
              refine then_r ?_
              refine blk_r ?_
              obtain rfl := some_inj h18
              try dsimp only at h
              refine then_r ?_
              obtain rfl := some_inj h
              exact leave1 hf rfl rfl ⟨rfl, hM.fin⟩
            · refine cond_f hf rfl hc35 ?_
              refine wp_skip ?_
              refine blk_n ?_
              refine then_n ?_
              refine region_pl ?_
              refine q_ hf rfl rfl rfl (e_move hf rfl) fun a hf => ?_
              obtain ⟨z36, hz37, h25⟩ := bind_some h25
              refine q_ hf rfl rfl rfl (e_add hf rfl rfl hz37) fun a hf => ?_
              refine q_ hf rfl rfl rfl (e_assign hf rfl) fun a hf => ?_
              refine pl_nil ?_
              obtain rfl := some_inj h25
              refine then_n ⟨_, rfl, ?_⟩
              exact ⟨z36, rfl, hf.keep ⟨rfl, rfl, trivial⟩, hM.pick [] rfl, (chk_R hz37)⟩
          · refine cond_f hf rfl hc27 ?_
            refine wp_exit ?_
            refine then_x ?_
            obtain rfl := some_inj h25
            obtain rfl := hd26 _ rfl
            try dsimp only at h18
            refine then_x ?_
            refine exit_hit ?_
            obtain rfl := some_inj h18
            refine then_n ?_
            exact ⟨rfl, hf.keep trivial, hM.pick [] rfl⟩
      · rintro a w44 ⟨rfl, hf, hM⟩
        try dsimp only at h
        refine wp_seq ?_
        refine region_pl ?_
        refine q_ hf rfl rfl rfl (e_assign hf rfl) fun a hf => ?_
        refine pl_nil ?_
        refine then_n ?_
        refine wp_ret ?_
        obtain rfl := some_inj h
        exact leave1 hf rfl rfl ⟨rfl, hM.fin⟩

set_option maxRecDepth 100000 in
set_option maxHeartbeats 4000000 in
theorem r_impl_isPool (C : Cx) (s1 : Str) (hp2 : s1.length ≤ maxLen) (r : Bool) (h : m_impl_isPool s1 = some r) :
    Calls Try.prog 46 #[vS (s1)] C.w0 fun e w => e = .returned (.bool (r)) ∧ Mem C w [] [] := by
  have hM := Mem.begin C [] trivial
  refine enter Try.func46 rfl Try.ntmps46 rfl fun a hf => ?_
  unfold m_impl_isPool at h
  refine wp_seq ?_
  refine region_pl ?_
  refine q_ hf rfl rfl rfl (e_assign hf rfl) fun a hf => ?_
  refine pl_nil ?_
  refine then_n ?_
  obtain ⟨x5, h6, h⟩ := bind_some h
  refine seq_join (fun a w => ∃ (t3 : Bool), t3 = x5 ∧ Has 10 a [(2, .bool (t3))] ∧ Mem C w [] []) ?_ ?_
  · refine region_pl ?_
    refine q_ hf rfl rfl rfl (e_move hf rfl) fun a hf => ?_
    refine q_ hf rfl rfl rfl (e_lenS hf (x := s1) rfl Try.underlying9) fun a hf => ?_
    refine q_ hf rfl rfl rfl (e_le hf (x := (s1.length : Int)) (y := 12) rfl rfl) fun a hf => ?_
    refine q_ hf rfl rfl rfl (e_move hf rfl) fun a hf => ?_
    rcases cond_some h6 with ⟨hc7, h6⟩ | ⟨hc7, h6⟩
    · refine gq (wanted_t hf rfl rfl rfl rfl hc7) hf rfl rfl (e_move hf rfl) fun a hf => ?_
      obtain ⟨y8, hz9, h6⟩ := bind_some h6
      refine pl_gl (wanted_t hf rfl rfl rfl rfl hc7) hf rfl rfl (w_call hf Try.call47 rfl (r_impl_ValidPile ⟨_, Sh C _ _, none_, hM.sh_lt, none_not, C.G, hM.g_lt, g_none, hM.tabs⟩ s1 hp2 _ hz9) ?_)
      rintro _ w10 ⟨rfl, hM2⟩
      obtain ⟨hM, hx11, hup12⟩ := hM.back hM2
      dsimp only [List.cons_append, List.nil_append] at hM hup12
      clear hM2
      refine ⟨_, rfl, fun a hf => ?_⟩
      refine q_ hf rfl rfl rfl (e_pick_t hf rfl hc7 rfl) fun a hf => ?_
      refine q_ hf rfl rfl rfl (e_assign hf rfl) fun a hf => ?_
      refine pl_nil ?_
      obtain rfl := some_inj h6
      refine then_n ?_
      exact ⟨y8, rfl, hf.keep ⟨rfl, trivial⟩, hM.pick [] rfl⟩
    · refine pl_gs (wanted_f hf rfl rfl rfl rfl hc7) hf rfl rfl fun a hf => ?_
      refine pl_gs (wanted_f hf rfl rfl rfl rfl hc7) hf rfl rfl fun a hf => ?_
      refine q_ hf rfl rfl rfl (e_pick_f hf rfl hc7 rfl) fun a hf => ?_
      refine q_ hf rfl rfl rfl (e_assign hf rfl) fun a hf => ?_
      refine pl_nil ?_
      obtain rfl := some_inj h6
      refine then_n ?_
      exact ⟨false, rfl, hf.keep ⟨rfl, trivial⟩, hM.pick [] rfl⟩
  · rintro a w15 ⟨t3, rfl, hf, hM⟩
    try dsimp only at h
    refine wp_ret ?_
    obtain rfl := some_inj h
    exact leave1 hf rfl rfl ⟨rfl, hM.fin⟩

set_option maxRecDepth 100000 in
set_option maxHeartbeats 4000000 in
theorem r_impl_within (C : Cx) (x1 : Int) (hp2 : R64 x1) (low3 : Int) (hp4 : R64 low3) (high5 : Int) (hp6 : R64 high5) (r : Bool) (h : m_impl_within x1 low3 high5 = some r) :
    Calls Try.prog 60 #[vI (x1), vI (low3), vI (high5)] C.w0 fun e w => e = .returned (.bool (r)) ∧ Mem C w [] [] := by
  have hM := Mem.begin C [] trivial
  refine enter Try.func60 rfl Try.ntmps60 rfl fun a hf => ?_
  unfold m_impl_within at h
  refine wp_seq ?_
  refine region_pl ?_
  refine q_ hf rfl rfl rfl (e_assign hf rfl) fun a hf => ?_
  refine pl_nil ?_
  refine then_n ?_
  obtain ⟨x9, h10, h⟩ := bind_some h
  refine seq_join (fun a w => ∃ (t7 : Bool), t7 = x9 ∧ Has 15 a [(6, .bool (t7))] ∧ Mem C w [] []) ?_ ?_
  · refine region_pl ?_
    refine q_ hf rfl rfl rfl (e_move hf rfl) fun a hf => ?_
    refine q_ hf rfl rfl rfl (e_move hf rfl) fun a hf => ?_
    refine q_ hf rfl rfl rfl (e_le hf (x := low3) (y := x1) rfl rfl) fun a hf => ?_
    refine q_ hf rfl rfl rfl (e_move hf rfl) fun a hf => ?_
    rcases cond_some h10 with ⟨hc11, h10⟩ | ⟨hc11, h10⟩
    · refine gq (wanted_t hf rfl rfl rfl rfl hc11) hf rfl rfl (e_move hf rfl) fun a hf => ?_
      refine gq (wanted_t hf rfl rfl rfl rfl hc11) hf rfl rfl (e_move hf rfl) fun a hf => ?_
      refine gq (wanted_t hf rfl rfl rfl rfl hc11) hf rfl rfl (e_le hf (x := x1) (y := high5) rfl rfl) fun a hf => ?_
      refine q_ hf rfl rfl rfl (e_pick_t hf rfl hc11 rfl) fun a hf => ?_
      refine q_ hf rfl rfl rfl (e_assign hf rfl) fun a hf => ?_
      refine pl_nil ?_
      obtain rfl := some_inj h10
      refine then_n ?_
      exact ⟨(decide (x1 ≤ high5)), rfl, hf.keep ⟨rfl, trivial⟩, hM.pick [] rfl⟩
    · refine pl_gs (wanted_f hf rfl rfl rfl rfl hc11) hf rfl rfl fun a hf => ?_
      refine pl_gs (wanted_f hf rfl rfl rfl rfl hc11) hf rfl rfl fun a hf => ?_
      refine pl_gs (wanted_f hf rfl rfl rfl rfl hc11) hf rfl rfl fun a hf => ?_
      refine q_ hf rfl rfl rfl (e_pick_f hf rfl hc11 rfl) fun a hf => ?_
      refine q_ hf rfl rfl rfl (e_assign hf rfl) fun a hf => ?_
      refine pl_nil ?_
      obtain rfl := some_inj h10
      refine then_n ?_
      exact ⟨false, rfl, hf.keep ⟨rfl, trivial⟩, hM.pick [] rfl⟩
  · rintro a w14 ⟨t7, rfl, hf, hM⟩
    try dsimp only at h
    refine wp_ret ?_
    obtain rfl := some_inj h
    exact leave1 hf rfl rfl ⟨rfl, hM.fin⟩

set_option maxRecDepth 100000 in
set_option maxHeartbeats 4000000 in
theorem r_impl_drawCode (C : Cx) (pile1 : Str) (hp2 : pile1.length ≤ maxLen) (n3 : Int) (hp4 : R64 n3) (r : Int) (h : m_impl_drawCode pile1 n3 = some r) :
    Calls Try.prog 44 #[vS (pile1), vI (n3)] C.w0 fun e w => e = .returned (vI (r)) ∧ Mem C w [] [] ∧ R64 r := by
  have hM := Mem.begin C [] trivial
  refine enter Try.func44 rfl Try.ntmps44 rfl fun a hf => ?_
  unfold m_impl_drawCode at h
  refine wp_seq ?_
  refine region_pl ?_
  refine q_ hf rfl rfl rfl (e_assign hf rfl) fun a hf => ?_
  refine pl_nil ?_
  refine then_n ?_
  refine wp_seq ?_
  refine wp_seq ?_
  refine region_pl ?_
  refine q_ hf rfl rfl rfl (e_move hf rfl) fun a hf => ?_
  obtain ⟨y5, hz6, h⟩ := bind_some h
  refine pl_l hf rfl rfl rfl (w_call hf Try.call46 rfl (r_impl_isPool ⟨_, Sh C _ _, none_, hM.sh_lt, none_not, C.G, hM.g_lt, g_none, hM.tabs⟩ pile1 hp2 _ hz6) ?_)
  rintro _ w7 ⟨rfl, hM2⟩
  obtain ⟨hM, hx8, hup9⟩ := hM.back hM2
  dsimp only [List.cons_append, List.nil_append] at hM hup9
  clear hM2
  refine ⟨_, rfl, fun a hf => ?_⟩
  refine q_ hf rfl rfl rfl (e_not hf rfl) fun a hf => ?_
  refine pl_nil ?_
  refine then_n ?_
  rcases cond_some h with ⟨hc10, h⟩ | ⟨hc10, h⟩
  · refine cond_t hf rfl hc10 ?_
    refine wp_seq ?_
    refine region_pl ?_
    refine q_ hf rfl rfl rfl (e_assign hf rfl) fun a hf => ?_
    refine pl_nil ?_
    refine then_n ?_
    refine wp_ret ?_
    refine then_r ?_
    obtain rfl := some_inj h
    exact leave1 hf rfl rfl ⟨rfl, hM.fin, (R64_lit rfl)⟩
  · refine cond_f hf rfl hc10 ?_
    refine wp_skip ?_
    refine then_n ?_
    refine wp_seq ?_
    obtain ⟨x13, h14, h⟩ := bind_some h
    refine seq_join (fun a w => ∃ (t11 : Bool), t11 = x13 ∧ Has 17 a [(16, .bool (t11))] ∧ Mem C w [] []) ?_ ?_
    · refine region_pl ?_
      refine q_ hf rfl rfl rfl (e_move hf rfl) fun a hf => ?_
      obtain ⟨y15, hz16, h14⟩ := bind_some h14
      refine pl_l hf rfl rfl rfl (w_call hf Try.call60 rfl (r_impl_within ⟨_, Sh C _ _, none_, hM.sh_lt, none_not, C.G, hM.g_lt, g_none, hM.tabs⟩ n3 hp4 0 (R64_lit rfl) 7 (R64_lit rfl) _ hz16) ?_)
      rintro _ w17 ⟨rfl, hM2⟩
      obtain ⟨hM, hx18, hup19⟩ := hM.back hM2
      dsimp only [List.cons_append, List.nil_append] at hM hup19
      clear hM2
      refine ⟨_, rfl, fun a hf => ?_⟩
      refine q_ hf rfl rfl rfl (e_not hf rfl) fun a hf => ?_
      refine q_ hf rfl rfl rfl (e_move hf rfl) fun a hf => ?_
      rcases cond_some h14 with ⟨hc20, h14⟩ | ⟨hc20, h14⟩
      · refine pl_gs (wanted_f hf rfl rfl rfl rfl hc20) hf rfl rfl fun a hf => ?_
        refine pl_gs (wanted_f hf rfl rfl rfl rfl hc20) hf rfl rfl fun a hf => ?_
        refine pl_gs (wanted_f hf rfl rfl rfl rfl hc20) hf rfl rfl fun a hf => ?_
        refine pl_gs (wanted_f hf rfl rfl rfl rfl hc20) hf rfl rfl fun a hf => ?_
        refine q_ hf rfl rfl rfl (e_pick_t hf rfl hc20 rfl) fun a hf => ?_
        refine pl_nil ?_
        obtain rfl := some_inj h14
        refine then_n ?_
        exact ⟨true, rfl, hf.keep ⟨rfl, trivial⟩, hM.pick [] rfl⟩
      · refine gq (wanted_t hf rfl rfl rfl rfl hc20) hf rfl rfl (e_move hf rfl) fun a hf => ?_
        refine gq (wanted_t hf rfl rfl rfl rfl hc20) hf rfl rfl (e_move hf rfl) fun a hf => ?_
        refine gq (wanted_t hf rfl rfl rfl rfl hc20) hf rfl rfl (e_lenS hf (x := pile1) rfl Try.underlying9) fun a hf => ?_
        refine gq (wanted_t hf rfl rfl rfl rfl hc20) hf rfl rfl (e_gt hf (x := n3) (y := (pile1.length : Int)) rfl rfl) fun a hf => ?_
        refine q_ hf rfl rfl rfl (e_pick_f hf rfl hc20 rfl) fun a hf => ?_
        refine pl_nil ?_
        obtain rfl := some_inj h14
        refine then_n ?_
        exact ⟨(decide ((pile1.length : Int) < n3)), rfl, hf.keep ⟨rfl, trivial⟩, hM.pick [] rfl⟩
    · rintro a w23 ⟨t11, rfl, hf, hM⟩
      try dsimp only at h
      rcases cond_some h with ⟨hc24, h⟩ | ⟨hc24, h⟩
      · refine cond_t hf rfl hc24 ?_
        refine wp_seq ?_
        refine region_pl ?_
        refine q_ hf rfl rfl rfl (e_assign hf rfl) fun a hf => ?_
        refine pl_nil ?_
        refine then_n ?_
        refine wp_ret ?_
        refine then_r ?_
        obtain rfl := some_inj h
        exact leave1 hf rfl rfl ⟨rfl, hM.fin, (R64_lit rfl)⟩
      · refine cond_f hf rfl hc24 ?_
        refine wp_skip ?_
        refine then_n ?_
        refine wp_seq ?_
        refine region_pl ?_
        refine q_ hf rfl rfl rfl (e_assign hf rfl) fun a hf => ?_
        refine pl_nil ?_
        refine then_n ?_
        refine wp_ret ?_
        obtain rfl := some_inj h
        exact leave1 hf rfl rfl ⟨rfl, hM.fin, (R64_lit rfl)⟩

set_option maxRecDepth 100000 in
set_option maxHeartbeats 4000000 in
theorem r_impl_countsOf (C : Cx) (s1 : Str) (hp2 : s1.length ≤ maxLen) (r : (List Int)) (h : m_impl_countsOf s1 = some r) :
    Calls Try.prog 64 #[vS (s1)] C.w0 fun e w => e = .returned (.agg (arrV r).toArray) ∧ Mem C w [] [] ∧ ArrOk 27 r := by
  have hM := Mem.begin C [] trivial
  refine enter Try.func64 rfl Try.ntmps64 rfl fun a hf => ?_
  unfold m_impl_countsOf at h
  refine wp_seq ?_
  refine region_pl ?_
  refine pl_l hf rfl rfl rfl (w_alloc hM (cs := arrV (List.replicate 27 (0 : Int))) Try.zeroValue80 rfl fun b3 w4 hx5 hM a hf => ?_)
  refine pl_nil ?_
  refine then_n ?_
  refine wp_seq ?_
  refine region_pl ?_
  refine pl_l hf rfl rfl rfl (w_alloc hM (cs := arrV (List.replicate 27 (0 : Int))) Try.zeroValue80 rfl fun b7 w8 hx9 hM a hf => ?_)
  refine pl_nil ?_
  refine then_n ?_
  obtain ⟨x13, h14, h⟩ := bind_some h
  refine seq_join (fun a w => ∃ (xs11 : (List Int)), xs11 = x13 ∧ Has 20 a [(2, vP b3 (0)), (3, vP b7 (0))] ∧ Mem C w [.box b7 (arrV xs11) 80, .box b3 (arrV (List.replicate 27 (0 : Int))) 80] [] ∧ ArrOk 27 xs11) ?_ ?_
  · refine wp_seq ?_
    refine region_pl ?_
    refine q_ hf rfl rfl rfl (e_assign hf rfl) fun a hf => ?_
    refine pl_nil ?_
    refine then_n ?_
    refine wp_block ?_
    obtain ⟨x22, h23, h14⟩ := bind_some h14
    refine wp_loopM h23 (fun s a w => ∃ (xs15 : (List Int)) (n17 : Int), (xs15, n17) = s ∧ Has 20 a [(0, vS (s1)), (2, vP b3 (0)), (3, vP b7 (0)), (4, vI (n17))] ∧ Mem C w [.box b7 (arrV xs15) 80, .box b3 (arrV (List.replicate 27 (0 : Int))) 80] [] ∧ ArrOk 27 xs15 ∧ R64 n17) ?_ ?_
    · exact ⟨(List.replicate 27 (0 : Int)), 0, rfl, hf.keep ⟨rfl, rfl, rfl, rfl, trivial⟩, hM.pick [] rfl, (arr_zero 27), (R64_lit rfl)⟩
    · rintro s o24 a w19 ⟨xs15, n17, rfl, hf, hM, hv16, hv18⟩ h25 hd26
      replace h25 : m_impl_countsOf_l1 s1 xs15 n17 = some o24 := h25
      unfold m_impl_countsOf_l1 at h25
      refine wp_seq ?_
      refine wp_seq ?_
      refine region_pl ?_
      refine q_ hf rfl rfl rfl (e_move hf rfl) fun a hf => ?_
      refine q_ hf rfl rfl rfl (e_move hf rfl) fun a hf => ?_
      refine q_ hf rfl rfl rfl (e_lenS hf (x := s1) rfl Try.underlying9) fun a hf => ?_
      refine q_ hf rfl rfl rfl (e_lt hf (x := n17) (y := (s1.length : Int)) rfl rfl) fun a hf => ?_
      refine pl_nil ?_
      refine then_n ?_
      rcases cond_some h25 with ⟨hc27, h25⟩ | ⟨hc27, h25⟩
      · refine cond_t hf rfl hc27 ?_
        refine wp_skip ?_
        refine then_n ?_
        refine wp_seq ?_
        refine wp_block ?_
        refine region_pl ?_
        refine q_ hf rfl rfl rfl (e_move hf rfl) fun a hf => ?_
        refine q_ hf rfl rfl rfl (e_move hf rfl) fun a hf => ?_
        obtain ⟨c28, hz29, h25⟩ := bind_some h25
        refine q_ hf rfl rfl rfl (e_indexS hf (x := s1) rfl rfl Try.underlying9 hz29) fun a hf => ?_
        obtain ⟨y30, hz31, h25⟩ := bind_some h25
        refine pl_l hf rfl rfl rfl (w_call hf Try.call81 rfl (r_impl_place ⟨_, Sh C _ _, none_, hM.sh_lt, none_not, C.G, hM.g_lt, g_none, hM.tabs⟩ c28 _ hz31) ?_)
        rintro _ w33 ⟨rfl, hM2, hv32⟩
        obtain ⟨hM, hx34, hup35⟩ := hM.back hM2
        dsimp only [List.cons_append, List.nil_append] at hM hup35
        clear hM2
        refine ⟨_, rfl, fun a hf => ?_⟩
        obtain ⟨n36, hz37, h25⟩ := bind_some h25
        refine q_ hf rfl rfl rfl (e_indexAddrArr hf (i := y30) rfl rfl Try.underlying80 Try.sizeOf3 (arr_in hv16 hz37).1 (arr_in hv16 hz37).2) fun a hf => ?_
        refine q_ hf rfl rfl rfl (e_load1 hf rfl Try.isAgg3 (hM.boxCell (k := 0) rfl (arr_at hz37))) fun a hf => ?_
        obtain ⟨z38, hz39, h25⟩ := bind_some h25
        refine q_ hf rfl rfl rfl (e_add hf rfl rfl hz39) fun a hf => ?_
        obtain ⟨n40, hz41, h25⟩ := bind_some h25
        refine q_ hf rfl rfl rfl (e_indexAddrArr hf (i := y30) rfl rfl Try.underlying80 Try.sizeOf3 (arr_in hv16 hz41).1 (arr_in hv16 hz41).2) fun a hf => ?_
        obtain ⟨xs43, hz44, h25⟩ := bind_some h25
        refine pl_0 hf rfl rfl (w_storeAt hf hM (i := y30) rfl rfl (k := 0) rfl Try.sizeOf3 hz44 fun w42 hM => ?_)
        dsimp only [List.set] at hM
        refine pl_nil ?_
        refine blk_n ?_
        refine then_n ?_
        refine region_pl ?_
        refine q_ hf rfl rfl rfl (e_move hf rfl) fun a hf => ?_
        obtain ⟨z45, hz46, h25⟩ := bind_some h25
        refine q_ hf rfl rfl rfl (e_add hf rfl rfl hz46) fun a hf => ?_
        refine q_ hf rfl rfl rfl (e_assign hf rfl) fun a hf => ?_
        refine pl_nil ?_
        obtain rfl := some_inj h25
        refine then_n ⟨_, rfl, ?_⟩
        exact ⟨xs43, z45, rfl, hf.keep ⟨rfl, rfl, rfl, rfl, trivial⟩, hM.pick [] rfl, (arr_set hv16 (chk_R hz39) hz44), (chk_R hz46)⟩
      · refine cond_f hf rfl hc27 ?_
        refine wp_exit ?_
        refine then_x ?_
        obtain rfl := some_inj h25
        obtain rfl := hd26 _ rfl
        try dsimp only at h14
        refine then_x ?_
        refine exit_hit ?_
        obtain rfl := some_inj h14
        refine then_n ?_
        exact ⟨xs15, rfl, hf.keep ⟨rfl, rfl, trivial⟩, hM.pick [] rfl, hv16⟩
  · rintro a w52 ⟨xs11, rfl, hf, hM, hv12⟩
    try dsimp only at h
    refine wp_seq ?_
    refine region_pl ?_
    refine q_ hf rfl rfl rfl (e_loadA hf (us := arrV xs11) rfl ⟨Try.isAgg80, Try.sizeOf80⟩ (arr_len hv12) (hM.boxSub (k := 0) (us := arrV xs11) (o := 0) rfl (arr_all _))) fun a hf => ?_
    refine pl_0 hf rfl rfl (w_storeArr hf hM rfl rfl (k := 1) rfl (arr_zero 27) hv12 Try.sizeOf80 fun w53 hM => ?_)
    dsimp only [List.set] at hM
    refine pl_nil ?_
    refine then_n ?_
    refine wp_ret ?_
    obtain rfl := some_inj h
    have hres54 := leaveV1 (P := Try.prog) Try.results64 (res_agg hf rfl ⟨Try.isAgg80, Try.sizeOf80⟩ (us := arrV xs11) (arr_len hv12) (hM.boxSub (k := 1) (o := 0) rfl (arr_all _)))
    have hM := hM.outs (own' := []) 0 rfl
    exact bodyPost_ret hres54 hf.defers ⟨rfl, hM.fin, hv12⟩

set_option maxRecDepth 100000 in
set_option maxHeartbeats 4000000 in
theorem r_impl_someDraws_1 (C : Cx) (x1 : Str) (hp2 : x1.length ≤ maxLen) (p3 : (List Str)) (b4 : Nat) (A5 : Option Addr) (c6 : Nat) (p7 : Int) (b8 : Nat) (o9 : Nat) (hp10 : (ptrRep intRep).R C.w0 C.S0 p7 [vP b8 o9]) (hO : Mem C C.w0 [.box b4 [vL A5 (p3) c6] 76, .row strRep A5 c6 9 p3 true] []) (hd : ∀ b, C.S0 b → ¬ ownB [.box b4 [vL A5 (p3) c6] 76, .row strRep A5 c6 9 p3 true] b) (r : (Bool × (List Str))) (h : m_impl_someDraws_1 x1 p3 p7 = some r) :
    Calls Try.prog 83 #[vS (x1), vP b4 (0), vP b8 (o9)] C.w0 fun e w => ∃ (A_1 : Option Addr), ∃ (c_1 : Nat), e = .returned (.bool (r.1)) ∧ Mem C w [.box b4 [vL A_1 (r.2) c_1] 76, .row strRep A_1 c_1 9 r.2 true] [] := by
  have hM := hO
  have hM := hM.addIn hd (y := .dat (ptrRep intRep) p7 [vP b8 o9]) hp10
  refine enter Try.func83 rfl Try.ntmps83 rfl fun a hf => ?_
  unfold m_impl_someDraws_1 at h
  refine wp_seq ?_
  refine region_pl ?_
  refine q_ hf rfl rfl rfl (e_assign hf rfl) fun a hf => ?_
  refine pl_nil ?_
  refine then_n ?_
  refine wp_seq ?_
  refine region_pl ?_
  refine q_ hf rfl rfl rfl (e_load1 hf rfl Try.isAgg76 (hM.boxCell (k := 0) rfl rfl)) fun a hf => ?_
  refine q_ hf rfl rfl rfl (e_move hf rfl) fun a hf => ?_
  refine pl_l hf rfl rfl rfl (w_slice hf hM (K := strRep) (xs := ([x1] : (List Str))) (os := [.tmp 6]) Try.underlying76 ei_9 rfl rfl rfl rfl rfl ⟨⟨[vS (x1)], rfl, ⟨rfl, hp2⟩⟩, trivial⟩ rfl fun b11 w12 hx13 hM a hf => ?_)
  obtain ⟨xs14, hz15, h⟩ := bind_some h
  refine pl_l hf rfl rfl rfl (w_append hf hM Try.underlying76 ei_9 rfl rfl rfl (k := 2) rfl (hM.srcRow (k := 0) rfl) hz15 fun A16 c17 w18 hM a hf => ?_)
  dsimp only [List.set] at hM
  refine pl_0 hf rfl rfl (w_store hf hM (us := [vL A16 (xs14) c17]) (cs' := [vL A16 (xs14) c17]) rfl rfl (k := 1) rfl rfl Try.sizeOf76 rfl rfl rfl fun w21 hM => ?_)
  dsimp only [List.set] at hM
  refine pl_nil ?_
  refine then_n ?_
  refine wp_seq ?_
  refine region_pl ?_
  refine q_ hf rfl rfl rfl (e_load1 hf rfl Try.isAgg76 (hM.boxCell (k := 1) rfl rfl)) fun a hf => ?_
  have hl24 := row_len (hM.ownAt (k := 2) rfl)
  refine q_ hf rfl rfl rfl (e_lenL hf (x := xs14) rfl Try.underlying76) fun a hf => ?_
  obtain ⟨_, hr25, hM⟩ := hM.deref (hM.dat (k := 0) rfl)
  obtain ⟨rfl, hv26⟩ := hr25
  refine q_ hf rfl rfl rfl (e_load1 hf rfl Try.isAgg3 (hM.litCell (k := 0) (j := 0) rfl rfl rfl)) fun a hf => ?_
  refine q_ hf rfl rfl rfl (e_le hf (x := (xs14.length : Int)) (y := p7) rfl rfl) fun a hf => ?_
  refine q_ hf rfl rfl rfl (e_assign hf rfl) fun a hf => ?_
  refine pl_nil ?_
  refine then_n ?_
  refine wp_ret ?_
  obtain rfl := some_inj h
  have hM := hM.front (k := 2) rfl
  dsimp only [List.eraseIdx] at hM
  have hM := hM.front (k := 2) rfl
  dsimp only [List.eraseIdx] at hM
  have hM := hM.outs (own' := [.box b4 [vL A16 (xs14) c17] 76, .row strRep A16 c17 9 xs14 true]) 2 rfl
  exact leave1 hf rfl rfl ⟨A16, c17, rfl, hM.fin⟩

set_option maxRecDepth 100000 in
set_option maxHeartbeats 4000000 in
theorem r_impl_tileAt (C : Cx) (k1 : Int) (hp2 : R64 k1) (r : UInt8) (h : m_impl_tileAt k1 = some r) :
    Calls Try.prog 86 #[vI (k1)] C.w0 fun e w => e = .returned (vB (r)) ∧ Mem C w [] [] := by
  have hM := Mem.begin C [] trivial
  refine enter Try.func86 rfl Try.ntmps86 rfl fun a hf => ?_
  unfold m_impl_tileAt at h
  refine wp_seq ?_
  refine region_pl ?_
  refine q_ hf rfl rfl rfl (e_assign hf rfl) fun a hf => ?_
  refine pl_nil ?_
  refine then_n ?_
  refine wp_seq ?_
  refine wp_seq ?_
  refine region_pl ?_
  refine q_ hf rfl rfl rfl (e_move hf rfl) fun a hf => ?_
  refine q_ hf rfl rfl rfl (e_eq hf (x := k1) (y := 0) rfl rfl) fun a hf => ?_
  refine pl_nil ?_
  refine then_n ?_
  rcases cond_some h with ⟨hc3, h⟩ | ⟨hc3, h⟩
  · refine cond_t hf rfl hc3 ?_
    refine wp_seq ?_
    refine region_pl ?_
    refine q_ hf rfl rfl rfl (e_assign hf rfl) fun a hf => ?_
    refine pl_nil ?_
    refine then_n ?_
    refine wp_ret ?_
    refine then_r ?_
    obtain rfl := some_inj h
    exact leave1 hf rfl rfl ⟨rfl, hM.fin⟩
  · refine cond_f hf rfl hc3 ?_
    refine wp_skip ?_
    refine then_n ?_
    refine wp_seq ?_
    refine region_pl ?_
    refine q_ hf rfl rfl rfl (e_move hf rfl) fun a hf => ?_
    obtain ⟨z4, hz5, h⟩ := bind_some h
    refine q_ hf rfl rfl rfl (e_add hf rfl rfl hz5) fun a hf => ?_
    obtain ⟨z6, hz7, h⟩ := bind_some h
    refine q_ hf rfl rfl rfl (e_sub hf rfl rfl hz7) fun a hf => ?_
    refine q_ hf rfl rfl rfl (e_convIB hf rfl Try.underlying3 Try.underlying5) fun a hf => ?_
    refine q_ hf rfl rfl rfl (e_assign hf rfl) fun a hf => ?_
    refine pl_nil ?_
    refine then_n ?_
    refine wp_ret ?_
    obtain rfl := some_inj h
    exact leave1 hf rfl rfl ⟨rfl, hM.fin⟩

def Ct_impl_subsets_1 (rc : Int → Str → Int → (List Int) → (List Str) → Int → Option (Bool × Str × (List Int) × (List Str))) : Prop := ∀ (C : Cx) (k1 : Int) (hp2 : R64 k1) (p3 : Str) (b4 : Nat) (A5 : Option Addr) (c6 : Nat) (p7 : Int) (b8 : Nat) (o9 : Nat) (hp10 : (ptrRep intRep).R C.w0 C.S0 p7 [vP b8 o9]) (b12 : Nat) (o13 : Nat) (p14 : (List Int)) (b15 : Nat) (hp16 : ArrOk 27 p14) (b18 : Nat) (o19 : Nat) (p20 : (List Str)) (b21 : Nat) (A22 : Option Addr) (c23 : Nat) (p24 : Int) (b25 : Nat) (o26 : Nat) (hp27 : (ptrRep intRep).R C.w0 C.S0 p24 [vP b25 o26]) (hp28 : Shr.good C.w0 C.S0 (.lit b12 (o13) [.func (.func 83) #[] #[vP b21 (0), vP b25 (o26)]])) (hp29 : Shr.good C.w0 C.S0 (.lit b18 (o19) [.func (.func 91) #[] #[vP b4 (0), vP b8 (o9), vP b12 (o13), vP b15 (0), vP b18 (o19)]])) (hO : Mem C C.w0 [.box b4 [vL A5 (p3) c6] 38, .row byteRep A5 c6 5 p3 true, .box b15 (arrV p14) 80, .box b21 [vL A22 (p20) c23] 76, .row strRep A22 c23 9 p20 true] []) (hd : ∀ b, C.S0 b → ¬ ownB [.box b4 [vL A5 (p3) c6] 38, .row byteRep A5 c6 5 p3 true, .box b15 (arrV p14) 80, .box b21 [vL A22 (p20) c23] 76, .row strRep A22 c23 9 p20 true] b) (r : (Bool × Str × (List Int) × (List Str))) (h : rc k1 p3 p7 p14 p20 p24 = some r),
    Calls Try.prog 91 #[vI (k1), vP b4 (0), vP b8 (o9), vP b12 (o13), vP b15 (0), vP b18 (o19)] C.w0 fun e w => ∃ (A_1 : Option Addr), ∃ (c_1 : Nat), ∃ (A_2 : Option Addr), ∃ (c_2 : Nat), e = .returned (.bool (r.1)) ∧ Mem C w [.box b4 [vL A_1 (r.2.1) c_1] 38, .row byteRep A_1 c_1 5 r.2.1 true, .box b15 (arrV r.2.2.1) 80, .box b21 [vL A_2 (r.2.2.2) c_2] 76, .row strRep A_2 c_2 9 r.2.2.2 true] [] ∧ ArrOk 27 r.2.2.1

set_option maxRecDepth 100000 in
set_option maxHeartbeats 4000000 in
theorem r_impl_subsets_1_b (rc : Int → Str → Int → (List Int) → (List Str) → Int → Option (Bool × Str × (List Int) × (List Str))) (ih : Ct_impl_subsets_1 rc) : Ct_impl_subsets_1 (m_impl_subsets_1_b rc) := by
  intro C k1 hp2 p3 b4 A5 c6 p7 b8 o9 hp10 b12 o13 p14 b15 hp16 b18 o19 p20 b21 A22 c23 p24 b25 o26 hp27 hp28 hp29 hO hd r h
  have hM := hO
  have hM := hM.addIn hd (y := .dat (ptrRep intRep) p7 [vP b8 o9]) hp10
  have hM := hM.addIn hd (y := .dat (ptrRep intRep) p24 [vP b25 o26]) hp27
  have hM := hM.addIn hd (y := .lit b12 (o13) [.func (.func 83) #[] #[vP b21 (0), vP b25 (o26)]]) hp28
  have hM := hM.addIn hd (y := .lit b18 (o19) [.func (.func 91) #[] #[vP b4 (0), vP b8 (o9), vP b12 (o13), vP b15 (0), vP b18 (o19)]]) hp29
  refine enter Try.func91 rfl Try.ntmps91 rfl fun a hf => ?_
  unfold m_impl_subsets_1_b at h
  refine wp_seq ?_
  refine region_pl ?_
  refine q_ hf rfl rfl rfl (e_assign hf rfl) fun a hf => ?_
  refine pl_nil ?_
  refine then_n ?_
  refine wp_seq ?_
  refine wp_seq ?_
  refine region_pl ?_
  refine q_ hf rfl rfl rfl (e_load1 hf rfl Try.isAgg38 (hM.boxCell (k := 0) rfl rfl)) fun a hf => ?_
  have hl30 := row_len (hM.ownAt (k := 1) rfl)
  refine q_ hf rfl rfl rfl (e_lenL hf (x := p3) rfl Try.underlying38) fun a hf => ?_
  obtain ⟨_, hr31, hM⟩ := hM.deref (hM.dat (k := 3) rfl)
  obtain ⟨rfl, hv32⟩ := hr31
  refine q_ hf rfl rfl rfl (e_load1 hf rfl Try.isAgg3 (hM.litCell (k := 0) (j := 0) rfl rfl rfl)) fun a hf => ?_
  refine q_ hf rfl rfl rfl (e_eq hf (x := (p3.length : Int)) (y := p7) rfl rfl) fun a hf => ?_
  refine pl_nil ?_
  refine then_n ?_
  rcases cond_some h with ⟨hc33, h⟩ | ⟨hc33, h⟩
  · refine cond_t hf rfl hc33 ?_
    refine wp_seq ?_
    refine region_pl ?_
    refine q_ hf rfl rfl rfl (e_load1 hf rfl Try.isAgg37 (hM.litCell (k := 2) (j := 0) rfl rfl rfl)) fun a hf => ?_
    refine q_ hf rfl rfl rfl (e_load1 hf rfl Try.isAgg38 (hM.boxCell (k := 0) rfl rfl)) fun a hf => ?_
    have hl34 := row_len (hM.ownAt (k := 1) rfl)
    refine q_ hf rfl rfl rfl (e_bytesStr hf (xs := p3) rfl Try.underlying38 Try.underlying5 Try.underlying9 (hM.lendRow (k := 1) rfl)) fun a hf => ?_
    have hM := hM.front (k := 4) rfl
    dsimp only [List.eraseIdx] at hM
    have hM := hM.front (k := 4) rfl
    dsimp only [List.eraseIdx] at hM
    have hM : Mem C _ ([.box b21 [vL A22 (p20) c23] 76, .row strRep A22 c23 9 p20 true] ++ [.box b4 [vL A5 (p3) c6] 38, .row byteRep A5 c6 5 p3 true, .box b15 (arrV p14) 80]) _ := hM
    obtain ⟨y35, hz36, h⟩ := bind_some h
    refine pl_l hf rfl rfl rfl (w_callV hf (fk := 83) (fc := [vP b21 (0), vP b25 (o26)]) rfl Try.call83 rfl (r_impl_someDraws_1 ⟨_, Sh C _ _, ownB _, hM.sh_lt, sub_dis, C.G, hM.g_lt, hM.g_own, hM.tabs⟩ p3 hl34 p20 _ _ _ p24 _ _ (hM.dat (k := 3) rfl) hM.sub sub_dis _ hz36) ?_)
    rintro _ w39 ⟨A37, c38, rfl, hM2⟩
    obtain ⟨hM, hup41⟩ := hM.backG hM2
    dsimp only [List.cons_append, List.nil_append] at hM hup41
    clear hM2
    refine ⟨_, rfl, fun a hf => ?_⟩
    refine q_ hf rfl rfl rfl (e_assign hf rfl) fun a hf => ?_
    refine pl_nil ?_
    refine then_n ?_
    refine wp_ret ?_
    refine then_r ?_
    obtain rfl := some_inj h
    have hM := hM.front (k := 1) rfl
    dsimp only [List.eraseIdx] at hM
    have hM := hM.front (k := 1) rfl
    dsimp only [List.eraseIdx] at hM
    have hM := hM.front (k := 4) rfl
    dsimp only [List.eraseIdx] at hM
    have hM := hM.front (k := 4) rfl
    dsimp only [List.eraseIdx] at hM
    have hM := hM.front (k := 4) rfl
    dsimp only [List.eraseIdx] at hM
    exact leave1 hf rfl rfl ⟨A5, c6, A37, c38, rfl, hM.fin, hp16⟩
  · refine cond_f hf rfl hc33 ?_
    refine wp_skip ?_
    refine then_n ?_
    obtain ⟨x50, h51, h⟩ := bind_some h
    refine seq_join (fun a w => ∃ (xs42 : (List Int)) (xs44 : Str) (xs47 : (List Str)) (A45 : Option Addr) (c46 : Nat) (A48 : Option Addr) (c49 : Nat), (.inl (xs42, xs44, xs47)) = x50 ∧ Has 50 a [] ∧ Mem C w [.box b4 [vL A45 (xs44) c46] 38, .row byteRep A45 c46 5 xs44 true, .box b15 (arrV xs42) 80, .box b21 [vL A48 (xs47) c49] 76, .row strRep A48 c49 9 xs47 true] [.lit b8 (o9) [vI (p7)], .lit b18 (o19) [.func (.func 91) #[] #[vP b4 (0), vP b8 (o9), vP b12 (o13), vP b15 (0), vP b18 (o19)]], .lit b12 (o13) [.func (.func 83) #[] #[vP b21 (0), vP b25 (o26)]], .dat (ptrRep intRep) p24 [vP b25 o26], .dat (ptrRep intRep) p7 [vP b8 o9]] ∧ ArrOk 27 xs42) ?_ ?_
    · refine wp_block ?_
      obtain ⟨x71, h72, h51⟩ := bind_some h51
      refine wp_loopM h72 (fun s a w => ∃ (xs52 : (List Int)) (xs54 : Str) (xs57 : (List Str)) (k60 : Int) (A55 : Option Addr) (c56 : Nat) (A58 : Option Addr) (c59 : Nat), (xs52, xs54, xs57, k60) = s ∧ Has 50 a [(0, vI (k60)), (1, vP b4 (0)), (4, vP b15 (0)), (5, vP b18 (o19))] ∧ Mem C w [.box b4 [vL A55 (xs54) c56] 38, .row byteRep A55 c56 5 xs54 true, .box b15 (arrV xs52) 80, .box b21 [vL A58 (xs57) c59] 76, .row strRep A58 c59 9 xs57 true] [.lit b8 (o9) [vI (p7)], .lit b18 (o19) [.func (.func 91) #[] #[vP b4 (0), vP b8 (o9), vP b12 (o13), vP b15 (0), vP b18 (o19)]], .lit b12 (o13) [.func (.func 83) #[] #[vP b21 (0), vP b25 (o26)]], .dat (ptrRep intRep) p24 [vP b25 o26], .dat (ptrRep intRep) p7 [vP b8 o9]] ∧ ArrOk 27 xs52 ∧ R64 k60) ?_ ?_
      · exact ⟨p14, p3, p20, k1, A5, c6, A22, c23, rfl, hf.keep ⟨rfl, rfl, rfl, rfl, trivial⟩, hM.pick [0, 1, 2, 3, 4] rfl, hp16, hp2⟩
      · rintro s o73 a w62 ⟨xs52, xs54, xs57, k60, A55, c56, A58, c59, rfl, hf, hM, hv53, hv61⟩ h74 hd75
        replace h74 : m_impl_subsets_1_l1 rc p7 p24 xs52 xs54 xs57 k60 = some o73 := h74
        unfold m_impl_subsets_1_l1 at h74
        refine wp_seq ?_
        refine wp_seq ?_
        refine region_pl ?_
        refine q_ hf rfl rfl rfl (e_move hf rfl) fun a hf => ?_
        refine q_ hf rfl rfl rfl (e_lt hf (x := k60) (y := 27) rfl rfl) fun a hf => ?_
        refine pl_nil ?_
        refine then_n ?_
        rcases cond_some h74 with ⟨hc76, h74⟩ | ⟨hc76, h74⟩
        · refine cond_t hf rfl hc76 ?_
          refine wp_skip ?_
          refine then_n ?_
          obtain ⟨x85, h86, h74⟩ := bind_some h74
          refine seq_join (fun a w => ∃ (xs77 : (List Int)) (xs79 : Str) (xs82 : (List Str)) (A80 : Option Addr) (c81 : Nat) (A83 : Option Addr) (c84 : Nat), (.inl (xs77, xs79, xs82)) = x85 ∧ Has 50 a [(0, vI (k60)), (1, vP b4 (0)), (4, vP b15 (0)), (5, vP b18 (o19))] ∧ Mem C w [.box b4 [vL A80 (xs79) c81] 38, .row byteRep A80 c81 5 xs79 true, .box b15 (arrV xs77) 80, .box b21 [vL A83 (xs82) c84] 76, .row strRep A83 c84 9 xs82 true] [.lit b8 (o9) [vI (p7)], .lit b18 (o19) [.func (.func 91) #[] #[vP b4 (0), vP b8 (o9), vP b12 (o13), vP b15 (0), vP b18 (o19)]], .lit b12 (o13) [.func (.func 83) #[] #[vP b21 (0), vP b25 (o26)]], .dat (ptrRep intRep) p24 [vP b25 o26], .dat (ptrRep intRep) p7 [vP b8 o9]] ∧ ArrOk 27 xs77) ?_ ?_
          · refine wp_block ?_
            refine wp_seq ?_
            refine wp_seq ?_
            refine region_pl ?_
            refine q_ hf rfl rfl rfl (e_move hf rfl) fun a hf => ?_
            obtain ⟨n87, hz88, h86⟩ := bind_some h86
            refine q_ hf rfl rfl rfl (e_indexAddrArr hf (i := k60) rfl rfl Try.underlying80 Try.sizeOf3 (arr_in hv53 hz88).1 (arr_in hv53 hz88).2) fun a hf => ?_
            refine q_ hf rfl rfl rfl (e_load1 hf rfl Try.isAgg3 (hM.boxCell (k := 2) rfl (arr_at hz88))) fun a hf => ?_
            refine q_ hf rfl rfl rfl (e_eq hf (x := n87) (y := 0) rfl rfl) fun a hf => ?_
            refine pl_nil ?_
            refine then_n ?_
            rcases cond_some h86 with ⟨hc89, h86⟩ | ⟨hc89, h86⟩
            · refine cond_t hf rfl hc89 ?_
              refine wp_exit ?_
              refine then_x ?_
              refine exit_hit ?_
              obtain rfl := some_inj h86
              refine then_n ?_
              exact ⟨xs52, xs54, xs57, A55, c56, A58, c59, rfl, hf.keep ⟨rfl, rfl, rfl, rfl, trivial⟩, hM.pick [0, 1, 2, 3, 4] rfl, hv53⟩
            · refine cond_f hf rfl hc89 ?_
              refine wp_skip ?_
              refine then_n ?_
              refine wp_seq ?_
              refine region_pl ?_
              refine q_ hf rfl rfl rfl (e_move hf rfl) fun a hf => ?_
              obtain ⟨n91, hz92, h86⟩ := bind_some h86
              refine q_ hf rfl rfl rfl (e_indexAddrArr hf (i := k60) rfl rfl Try.underlying80 Try.sizeOf3 (arr_in hv53 hz92).1 (arr_in hv53 hz92).2) fun a hf => ?_
              refine q_ hf rfl rfl rfl (e_load1 hf rfl Try.isAgg3 (hM.boxCell (k := 2) rfl (arr_at hz92))) fun a hf => ?_
              obtain ⟨z93, hz94, h86⟩ := bind_some h86
              refine q_ hf rfl rfl rfl (e_sub hf rfl rfl hz94) fun a hf => ?_
              obtain ⟨n95, hz96, h86⟩ := bind_some h86
              refine q_ hf rfl rfl rfl (e_indexAddrArr hf (i := k60) rfl rfl Try.underlying80 Try.sizeOf3 (arr_in hv53 hz96).1 (arr_in hv53 hz96).2) fun a hf => ?_
              obtain ⟨xs98, hz99, h86⟩ := bind_some h86
              refine pl_0 hf rfl rfl (w_storeAt hf hM (i := k60) rfl rfl (k := 2) rfl Try.sizeOf3 hz99 fun w97 hM => ?_)
              dsimp only [List.set] at hM
              refine pl_nil ?_
              refine then_n ?_
              refine wp_seq ?_
              obtain ⟨w100, hw⟩ : ∃ x, x = w97.drew := ⟨_, rfl⟩
              refine region_pi (.q 0 (.q 1 (.l 2 (.l 3 (.l 4 (.l 5 (.nil))))))) (Ext w100) rfl (by kernel_rfl) ?_
              have hM := hM.drew
              rw [← hw] at hM ⊢
              clear hw
              refine pi_q hf rfl rfl rfl rfl (Ext.refl _) (e_load1 hf rfl Try.isAgg38 (hM.boxCell (k := 0) rfl rfl)) fun a hf => ?_
              refine pi_q hf rfl rfl rfl rfl (Ext.refl _) (e_move hf rfl) fun a hf => ?_
              refine pi_one ?_
              obtain ⟨y101, hz102, h86⟩ := bind_some h86
              refine pi_l hf rfl rfl rfl rfl (w_call hf Try.call86 rfl (r_impl_tileAt ⟨_, Sh C _ _, none_, hM.sh_lt, none_not, C.G, hM.g_lt, g_none, hM.tabs⟩ k60 hv61 _ hz102) ?_)
              rintro _ w103 ⟨rfl, hM2⟩
              obtain ⟨hM, hx104, hup105⟩ := hM.back hM2
              dsimp only [List.cons_append, List.nil_append] at hM hup105
              clear hM2
              refine ⟨_, rfl, Ext w103, fun _ h => Ext.trans hx104 h, Ext.refl _, fun a hf => ?_⟩
              refine pi_one ?_
              refine pi_l hf rfl rfl rfl rfl (w_slice hf hM (K := byteRep) (xs := ([y101] : Str)) (os := [.tmp 32]) Try.underlying38 ei_5 rfl rfl rfl rfl rfl ⟨⟨[vB (y101)], rfl, rfl⟩, trivial⟩ rfl fun b106 w107 hx108 hM => ⟨Ext w107, fun _ h => Ext.trans hx108 h, Ext.refl _, fun a hf => ?_⟩)
              refine pi_one ?_
              obtain ⟨xs109, hz110, h86⟩ := bind_some h86
              refine pi_z hf rfl rfl rfl rfl (by kernel_rfl) (w_append hf hM Try.underlying38 ei_5 rfl rfl rfl (k := 2) rfl (hM.srcRow (k := 0) rfl) hz110 fun A111 c112 w113 hM a hf => ?_)
              dsimp only [List.set] at hM
              refine pi_one ?_
              refine pi_z0 hf rfl rfl rfl (by kernel_rfl) (w_store hf hM (us := [vL A111 (xs109) c112]) (cs' := [vL A111 (xs109) c112]) rfl rfl (k := 1) rfl rfl Try.sizeOf38 rfl rfl rfl fun w116 hM => ?_)
              dsimp only [List.set] at hM
              refine pi_nil ?_
              refine then_n ?_
              refine wp_seq ?_
              refine region_pl ?_
              refine q_ hf rfl rfl rfl (e_load1 hf rfl Try.isAgg108 (hM.litCell (k := 1) (j := 0) rfl rfl rfl)) fun a hf => ?_
              refine q_ hf rfl rfl rfl (e_move hf rfl) fun a hf => ?_
              have hM := hM.front (k := 5) rfl
              dsimp only [List.eraseIdx] at hM
              have hM := hM.front (k := 5) rfl
              dsimp only [List.eraseIdx] at hM
              have hM := hM.front (k := 5) rfl
              dsimp only [List.eraseIdx] at hM
              have hM := hM.front (k := 5) rfl
              dsimp only [List.eraseIdx] at hM
              have hM := hM.front (k := 5) rfl
              dsimp only [List.eraseIdx] at hM
              have hM : Mem C _ ([.box b4 [vL A111 (xs109) c112] 38, .row byteRep A111 c112 5 xs109 true, .box b15 (arrV xs98) 80, .box b21 [vL A58 (xs57) c59] 76, .row strRep A58 c59 9 xs57 true] ++ [.row byteRep (some ⟨b106, 0, none⟩) 1 5 ([y101] : Str) true]) _ := hM
              obtain ⟨y119, hz120, h86⟩ := bind_some h86
              refine pl_l hf rfl rfl rfl (w_callV hf (fk := 91) (fc := [vP b4 (0), vP b8 (o9), vP b12 (o13), vP b15 (0), vP b18 (o19)]) rfl Try.call91 rfl (ih ⟨_, Sh C _ _, ownB _, hM.sh_lt, sub_dis, C.G, hM.g_lt, hM.g_own, hM.tabs⟩ k60 hv61 xs109 _ _ _ p7 _ _ (hM.dat (k := 4) rfl) _ _ xs98 _ (arr_set hv53 (chk_R hz94) hz99) _ _ xs57 _ _ _ p24 _ _ (hM.dat (k := 3) rfl) (hM.at_ (k := 2) rfl) (hM.at_ (k := 1) rfl) hM.sub sub_dis _ hz120) ?_)
              rintro _ w126 ⟨A121, c122, A124, c125, rfl, hM2, hv123⟩
              obtain ⟨hM, hup128⟩ := hM.backG hM2
              dsimp only [List.cons_append, List.nil_append] at hM hup128
              clear hM2
              refine ⟨_, rfl, fun a hf => ?_⟩
              refine q_ hf rfl rfl rfl (e_assign hf rfl) fun a hf => ?_
              refine pl_nil ?_
              refine then_n ?_
              refine wp_seq ?_
              refine region_pl ?_
              refine q_ hf rfl rfl rfl (e_load1 hf rfl Try.isAgg38 (hM.boxCell (k := 0) rfl rfl)) fun a hf => ?_
              refine q_ hf rfl rfl rfl (e_load1 hf rfl Try.isAgg38 (hM.boxCell (k := 0) rfl rfl)) fun a hf => ?_
              have hl129 := row_len (hM.ownAt (k := 1) rfl)
              refine q_ hf rfl rfl rfl (e_lenL hf (x := y119.2.1) rfl Try.underlying38) fun a hf => ?_
              obtain ⟨z130, hz131, h86⟩ := bind_some h86
              refine q_ hf rfl rfl rfl (e_sub hf rfl rfl hz131) fun a hf => ?_
              obtain ⟨l132, hz133, h86⟩ := bind_some h86
              have hr134 := hM.rowForm (k := 1) rfl
              have hM := hM.truncRow (k := 1) rfl hz133
              dsimp only [List.set] at hM
              refine q_ hf rfl rfl rfl (e_trunc hf (xs := y119.2.1) rfl rfl Try.underlying38 Try.sizeOf5 hr134 hz133) fun a hf => ?_
              refine pl_0 hf rfl rfl (w_store hf hM (us := [vL A121 (l132) c122]) (cs' := [vL A121 (l132) c122]) rfl rfl (k := 0) rfl rfl Try.sizeOf38 rfl rfl rfl fun w135 hM => ?_)
              dsimp only [List.set] at hM
              refine pl_nil ?_
              refine then_n ?_
              refine wp_seq ?_
              refine region_pl ?_
              refine q_ hf rfl rfl rfl (e_move hf rfl) fun a hf => ?_
              obtain ⟨n138, hz139, h86⟩ := bind_some h86
              refine q_ hf rfl rfl rfl (e_indexAddrArr hf (i := k60) rfl rfl Try.underlying80 Try.sizeOf3 (arr_in hv123 hz139).1 (arr_in hv123 hz139).2) fun a hf => ?_
              refine q_ hf rfl rfl rfl (e_load1 hf rfl Try.isAgg3 (hM.boxCell (k := 2) rfl (arr_at hz139))) fun a hf => ?_
              obtain ⟨z140, hz141, h86⟩ := bind_some h86
              refine q_ hf rfl rfl rfl (e_add hf rfl rfl hz141) fun a hf => ?_
              obtain ⟨n142, hz143, h86⟩ := bind_some h86
              refine q_ hf rfl rfl rfl (e_indexAddrArr hf (i := k60) rfl rfl Try.underlying80 Try.sizeOf3 (arr_in hv123 hz143).1 (arr_in hv123 hz143).2) fun a hf => ?_
              obtain ⟨xs145, hz146, h86⟩ := bind_some h86
              refine pl_0 hf rfl rfl (w_storeAt hf hM (i := k60) rfl rfl (k := 2) rfl Try.sizeOf3 hz146 fun w144 hM => ?_)
              dsimp only [List.set] at hM
              refine pl_nil ?_
              refine then_n ?_
              refine wp_seq ?_
              refine region_pl ?_
              refine q_ hf rfl rfl rfl (e_move hf rfl) fun a hf => ?_
              refine q_ hf rfl rfl rfl (e_not hf rfl) fun a hf => ?_
              refine pl_nil ?_
              refine then_n ?_
              rcases cond_some h86 with ⟨hc147, h86⟩ | ⟨hc147, h86⟩
              · refine cond_t hf rfl hc147 ?_
                refine wp_seq ?_
                refine region_pl ?_
                refine q_ hf rfl rfl rfl (e_assign hf rfl) fun a hf => ?_
                refine pl_nil ?_
                refine then_n ?_
                refine wp_ret ?_
                refine blk_r ?_
                obtain rfl := some_inj h86
                try dsimp only at h74
                refine then_r ?_
                obtain rfl := some_inj h74
                obtain rfl := hd75 _ rfl
                try dsimp only at h51
                refine then_r ?_
                refine blk_r ?_
                obtain rfl := some_inj h51
                try dsimp only at h
                refine then_r ?_
                obtain rfl := some_inj h
                have hM := hM.outs (own' := [.box b4 [vL A121 (l132) c122] 38, .row byteRep A121 c122 5 l132 true, .box b15 (arrV xs145) 80, .box b21 [vL A124 (y119.2.2.2) c125] 76, .row strRep A124 c125 9 y119.2.2.2 true]) 5 rfl
                exact leave1 hf rfl rfl ⟨A121, c122, A124, c125, rfl, hM.fin, (arr_set hv123 (chk_R hz141) hz146)⟩
              · refine cond_f hf rfl hc147 ?_
                refine wp_skip ?_
                refine blk_n ?_
                obtain rfl := some_inj h86
                refine then_n ?_
                exact ⟨xs145, l132, y119.2.2.2, A121, c122, A124, c125, rfl, hf.keep ⟨rfl, rfl, rfl, rfl, trivial⟩, (hM.drop (.cons_cons _ (.cons_cons _ (.cons_cons _ (.cons_cons _ (.cons_cons _ (.cons _ .slnil))))))).pick [0, 1, 2, 3, 4] rfl, (arr_set hv123 (chk_R hz141) hz146)⟩
          · rintro a w149 ⟨xs77, xs79, xs82, A80, c81, A83, c84, rfl, hf, hM, hv78⟩
            try dsimp only at h74
            refine region_pl ?_
            refine q_ hf rfl rfl rfl (e_move hf rfl) fun a hf => ?_
            obtain ⟨z150, hz151, h74⟩ := bind_some h74
            refine q_ hf rfl rfl rfl (e_add hf rfl rfl hz151) fun a hf => ?_
            refine q_ hf rfl rfl rfl (e_assign hf rfl) fun a hf => ?_
            refine pl_nil ?_
            obtain rfl := some_inj h74
            refine then_n ⟨_, rfl, ?_⟩
            exact ⟨xs77, xs79, xs82, z150, A80, c81, A83, c84, rfl, hf.keep ⟨rfl, rfl, rfl, rfl, trivial⟩, hM.pick [0, 1, 2, 3, 4] rfl, hv78, (chk_R hz151)⟩
        · refine cond_f hf rfl hc76 ?_
          refine wp_exit ?_
          refine then_x ?_
          obtain rfl := some_inj h74
          obtain rfl := hd75 _ rfl
          try dsimp only at h51
          refine then_x ?_
          refine exit_hit ?_
          obtain rfl := some_inj h51
          refine then_n ?_
          exact ⟨xs52, xs54, xs57, A55, c56, A58, c59, rfl, hf.keep trivial, hM.pick [0, 1, 2, 3, 4] rfl, hv53⟩
    · rintro a w159 ⟨xs42, xs44, xs47, A45, c46, A48, c49, rfl, hf, hM, hv43⟩
      try dsimp only at h
      refine wp_seq ?_
      refine region_pl ?_
      refine q_ hf rfl rfl rfl (e_assign hf rfl) fun a hf => ?_
      refine pl_nil ?_
      refine then_n ?_
      refine wp_ret ?_
      obtain rfl := some_inj h
      exact leave1 hf rfl rfl ⟨A45, c46, A48, c49, rfl, hM.fin, hv43⟩

theorem r_impl_subsets_1_n : ∀ n, Ct_impl_subsets_1 (m_impl_subsets_1_n n)
  | 0 => fun C k1 hp2 p3 b4 A5 c6 p7 b8 o9 hp10 b12 o13 p14 b15 hp16 b18 o19 p20 b21 A22 c23 p24 b25 o26 hp27 hp28 hp29 hO hd r h => by cases h
  | n + 1 => r_impl_subsets_1_b _ (r_impl_subsets_1_n n)

theorem r_impl_subsets_1 : Ct_impl_subsets_1 m_impl_subsets_1 := r_impl_subsets_1_n fuelN

set_option maxRecDepth 100000 in
set_option maxHeartbeats 4000000 in
theorem r_impl_subsets (C : Cx) (c1 : (List Int)) (hp2 : ArrOk 27 c1) (n3 : Int) (hp4 : R64 n3) (p6 : (List Str)) (b7 : Nat) (A8 : Option Addr) (c9 : Nat) (p10 : Int) (b11 : Nat) (o12 : Nat) (hp13 : (ptrRep intRep).R C.w0 C.S0 p10 [vP b11 o12]) (hO : Mem C C.w0 [.box b7 [vL A8 (p6) c9] 76, .row strRep A8 c9 9 p6 true] []) (hd : ∀ b, C.S0 b → ¬ ownB [.box b7 [vL A8 (p6) c9] 76, .row strRep A8 c9 9 p6 true] b) (r : (List Str)) (h : m_impl_subsets c1 n3 p6 p10 = some r) :
    Calls Try.prog 82 #[.agg (arrV c1).toArray, vI (n3), .func (.func 83) #[] #[vP b7 (0), vP b11 (o12)]] C.w0 fun e w => ∃ (A_1 : Option Addr), ∃ (c_1 : Nat), e = .returned (.tuple #[]) ∧ Mem C w [.box b7 [vL A_1 (r) c_1] 76, .row strRep A_1 c_1 9 r true] [] := by
  have hM := hO
  have hM := hM.addIn hd (y := .dat (ptrRep intRep) p10 [vP b11 o12]) hp13
  refine enter Try.func82 rfl Try.ntmps82 rfl fun a hf => ?_
  unfold m_impl_subsets at h
  refine wp_seq ?_
  refine region_pl ?_
  refine pl_l hf rfl rfl rfl (w_box hf hM (cs := arrV c1) rfl rfl fun b14 w15 hx16 hM a hf => ?_)
  refine pl_l hf rfl rfl rfl (w_box hf hM (cs := [vI (n3)]) rfl rfl fun b18 w19 hx20 hM a hf => ?_)
  refine pl_l hf rfl rfl rfl (w_box hf hM (cs := [.func (.func 83) #[] #[vP b7 (0), vP b11 (o12)]]) rfl rfl fun b22 w23 hx24 hM a hf => ?_)
  refine pl_nil ?_
  refine then_n ?_
  refine wp_seq ?_
  refine region_pl ?_
  refine q_ hf rfl rfl rfl (e_load1 hf rfl Try.isAgg3 (hM.boxCell (k := 1) rfl rfl)) fun a hf => ?_
  obtain ⟨u26, hz27, h⟩ := bind_some h
  refine pl_l hf rfl rfl rfl (w_makeCap hf hM (K := byteRep) Try.underlying38 ei_5 Try.zeroValue5 rfl rfl hz27 fun b28 w29 hx30 hM a hf => ?_)
  refine pl_l hf rfl rfl rfl (w_alloc hM (cs := [vL none (([] : Str)) 0]) Try.zeroValue38 rfl fun b31 w32 hx33 hM a hf => ?_)
  refine pl_0 hf rfl rfl (w_store hf hM (us := [vL (some ⟨b28, 0, none⟩) (([] : Str)) ((n3 : Int).toNat)]) (cs' := [vL (some ⟨b28, 0, none⟩) (([] : Str)) ((n3 : Int).toNat)]) rfl rfl (k := 0) rfl rfl Try.sizeOf38 rfl rfl rfl fun w35 hM => ?_)
  dsimp only [List.set] at hM
  refine pl_nil ?_
  refine then_n ?_
  refine wp_seq ?_
  refine region_pl ?_
  refine pl_l hf rfl rfl rfl (w_alloc hM (cs := [.nilFunc]) Try.zeroValue108 rfl fun b38 w39 hx40 hM a hf => ?_)
  refine pl_nil ?_
  refine then_n ?_
  refine wp_seq ?_
  refine region_pl ?_
  refine q_ hf rfl rfl rfl (w_makeFunc hf rfl) fun a hf => ?_
  refine pl_0 hf rfl rfl (w_store hf hM (us := [.func (.func 91) #[] #[vP b31 (0), vP b18 (0), vP b22 (0), vP b14 (0), vP b38 (0)]]) (cs' := [.func (.func 91) #[] #[vP b31 (0), vP b18 (0), vP b22 (0), vP b14 (0), vP b38 (0)]]) rfl rfl (k := 0) rfl rfl Try.sizeOf108 rfl rfl rfl fun w42 hM => ?_)
  dsimp only [List.set] at hM
  refine pl_nil ?_
  refine then_n ?_
  refine region_pl ?_
  refine q_ hf rfl rfl rfl (e_load1 hf rfl Try.isAgg108 (hM.boxCell (k := 0) rfl rfl)) fun a hf => ?_
  have hM := hM.freezeBox (k := 3) rfl rfl
  dsimp only [List.eraseIdx] at hM
  have hM := hM.freezeBox (k := 0) rfl rfl
  dsimp only [List.eraseIdx] at hM
  have hM := hM.freezeBox (k := 2) rfl rfl
  dsimp only [List.eraseIdx] at hM
  have hM : Mem C _ ([.box b31 [vL (some ⟨b28, 0, none⟩) (([] : Str)) ((n3 : Int).toNat)] 38, .row byteRep (some ⟨b28, 0, none⟩) ((n3 : Int).toNat) 5 ([] : Str) true, .box b14 (arrV c1) 80, .box b7 [vL A8 (p6) c9] 76, .row strRep A8 c9 9 p6 true] ++ []) _ := hM
  obtain ⟨y45, hz46, h⟩ := bind_some h
  refine pl_l hf rfl rfl rfl (w_callV hf (fk := 91) (fc := [vP b31 (0), vP b18 (0), vP b22 (0), vP b14 (0), vP b38 (0)]) rfl Try.call91 rfl (r_impl_subsets_1 ⟨_, Sh C _ _, ownB _, hM.sh_lt, sub_dis, C.G, hM.g_lt, hM.g_own, hM.tabs⟩ 0 (R64_lit rfl) ([] : Str) _ _ _ n3 _ _ (hM.litPtr (k := 0) (d := 0) (us := [vI (n3)]) rfl rfl rfl ⟨rfl, hp4⟩) _ _ c1 _ hp2 _ _ p6 _ _ _ p10 _ _ (hM.dat (k := 3) rfl) (hM.at_ (k := 2) rfl) (hM.at_ (k := 1) rfl) hM.sub sub_dis _ hz46) ?_)
  rintro _ w52 ⟨A47, c48, A50, c51, rfl, hM2, hv49⟩
  obtain ⟨hM, hup54⟩ := hM.backG hM2
  dsimp only [List.cons_append, List.nil_append] at hM hup54
  clear hM2
  refine ⟨_, rfl, fun a hf => ?_⟩
  refine pl_nil ?_
  obtain rfl := some_inj h
  have hM := hM.front (k := 4) rfl
  dsimp only [List.eraseIdx] at hM
  have hM := hM.front (k := 4) rfl
  dsimp only [List.eraseIdx] at hM
  have hM := hM.outs (own' := [.box b7 [vL A50 (y45.2.2.2) c51] 76, .row strRep A50 c51 9 y45.2.2.2 true]) 2 rfl
  exact leave0n hf rfl ⟨A50, c51, rfl, hM.fin⟩

set_option maxRecDepth 100000 in
set_option maxHeartbeats 4000000 in
theorem r_impl_someDraws (C : Cx) (pile1 : Str) (hp2 : pile1.length ≤ maxLen) (n3 : Int) (hp4 : R64 n3) (most5 : Int) (hp6 : R64 most5) (r : (List Str)) (h : m_impl_someDraws pile1 n3 most5 = some r) :
    Calls Try.prog 65 #[vS (pile1), vI (n3), vI (most5)] C.w0 fun e w => ∃ (A_1 : Option Addr), ∃ (c_1 : Nat), e = .returned (vL A_1 (r) c_1) ∧ Mem C w [.row strRep A_1 c_1 9 r true] [] := by
  have hM := Mem.begin C [] trivial
  refine enter Try.func65 rfl Try.ntmps65 rfl fun a hf => ?_
  unfold m_impl_someDraws at h
  refine wp_seq ?_
  refine region_pl ?_
  refine pl_l hf rfl rfl rfl (w_box hf hM (cs := [vI (most5)]) rfl rfl fun b7 w8 hx9 hM a hf => ?_)
  refine q_ hf rfl rfl rfl (e_assign hf rfl) fun a hf => ?_
  refine pl_nil ?_
  refine then_n ?_
  refine wp_seq ?_
  refine region_pl ?_
  refine pl_l hf rfl rfl rfl (w_slice0 (K := strRep) hM Try.underlying76 ei_9 fun b11 w12 hx13 hM a hf => ?_)
  refine pl_l hf rfl rfl rfl (w_alloc hM (cs := [vL none (([] : (List Str))) 0]) Try.zeroValue76 rfl fun b14 w15 hx16 hM a hf => ?_)
  refine pl_0 hf rfl rfl (w_store hf hM (us := [vL (some ⟨b11, 0, none⟩) (([] : (List Str))) 0]) (cs' := [vL (some ⟨b11, 0, none⟩) (([] : (List Str))) 0]) rfl rfl (k := 0) rfl rfl Try.sizeOf76 rfl rfl rfl fun w18 hM => ?_)
  dsimp only [List.set] at hM
  refine pl_nil ?_
  refine then_n ?_
  refine wp_seq ?_
  refine region_pl ?_
  refine q_ hf rfl rfl rfl (e_move hf rfl) fun a hf => ?_
  obtain ⟨y21, hz22, h⟩ := bind_some h
  refine pl_l hf rfl rfl rfl (w_call hf Try.call64 rfl (r_impl_countsOf ⟨_, Sh C _ _, none_, hM.sh_lt, none_not, C.G, hM.g_lt, g_none, hM.tabs⟩ pile1 hp2 _ hz22) ?_)
  rintro _ w24 ⟨rfl, hM2, hv23⟩
  obtain ⟨hM, hx25, hup26⟩ := hM.back hM2
  dsimp only [List.cons_append, List.nil_append] at hM hup26
  clear hM2
  refine ⟨_, rfl, fun a hf => ?_⟩
  refine q_ hf rfl rfl rfl (e_move hf rfl) fun a hf => ?_
  refine q_ hf rfl rfl rfl (w_makeFunc hf rfl) fun a hf => ?_
  have hM := hM.freezeBox (k := 2) rfl rfl
  dsimp only [List.eraseIdx] at hM
  have hM : Mem C _ ([.box b14 [vL (some ⟨b11, 0, none⟩) (([] : (List Str))) 0] 76, .row strRep (some ⟨b11, 0, none⟩) 0 9 ([] : (List Str)) true] ++ []) _ := hM
  obtain ⟨y27, hz28, h⟩ := bind_some h
  refine pl_l hf rfl rfl rfl (w_call hf Try.call82 rfl (r_impl_subsets ⟨_, Sh C _ _, ownB _, hM.sh_lt, sub_dis, C.G, hM.g_lt, hM.g_own, hM.tabs⟩ y21 hv23 n3 hp4 ([] : (List Str)) _ _ _ most5 _ _ (hM.litPtr (k := 0) (d := 0) (us := [vI (most5)]) rfl rfl rfl ⟨rfl, hp6⟩) hM.sub sub_dis _ hz28) ?_)
  rintro _ w31 ⟨A29, c30, rfl, hM2⟩
  obtain ⟨hM, hup33⟩ := hM.backG hM2
  dsimp only [List.cons_append, List.nil_append] at hM hup33
  clear hM2
  refine ⟨_, rfl, fun a hf => ?_⟩
  refine pl_nil ?_
  refine then_n ?_
  refine wp_seq ?_
  refine region_pl ?_
  refine q_ hf rfl rfl rfl (e_load1 hf rfl Try.isAgg76 (hM.boxCell (k := 0) rfl rfl)) fun a hf => ?_
  refine q_ hf rfl rfl rfl (e_assign hf rfl) fun a hf => ?_
  refine pl_nil ?_
  refine then_n ?_
  refine wp_ret ?_
  obtain rfl := some_inj h
  have hM := hM.front (k := 1) rfl
  dsimp only [List.eraseIdx] at hM
  have hM := hM.outs (own' := [.row strRep A29 c30 9 y27 true]) 1 rfl
  exact leave1 hf rfl rfl ⟨A29, c30, rfl, hM.fin⟩

set_option maxRecDepth 100000 in
set_option maxHeartbeats 4000000 in
theorem r_impl_choose (C : Cx) (n1 : Int) (hp2 : R64 n1) (k3 : Int) (hp4 : R64 k3) (r : Int) (h : m_impl_choose n1 k3 = some r) :
    Calls Try.prog 45 #[vI (n1), vI (k3)] C.w0 fun e w => e = .returned (vI (r)) ∧ Mem C w [] [] ∧ R64 r := by
  have hM := Mem.begin C [] trivial
  refine enter Try.func45 rfl Try.ntmps45 rfl fun a hf => ?_
  unfold m_impl_choose at h
  refine wp_seq ?_
  refine region_pl ?_
  refine q_ hf rfl rfl rfl (e_assign hf rfl) fun a hf => ?_
  refine pl_nil ?_
  refine then_n ?_
  refine wp_seq ?_
  refine wp_seq ?_
  refine region_pl ?_
  refine q_ hf rfl rfl rfl (e_move hf rfl) fun a hf => ?_
  refine q_ hf rfl rfl rfl (e_move hf rfl) fun a hf => ?_
  refine q_ hf rfl rfl rfl (e_gt hf (x := k3) (y := n1) rfl rfl) fun a hf => ?_
  refine pl_nil ?_
  refine then_n ?_
  rcases cond_some h with ⟨hc5, h⟩ | ⟨hc5, h⟩
  · refine cond_t hf rfl hc5 ?_
    refine wp_seq ?_
    refine region_pl ?_
    refine q_ hf rfl rfl rfl (e_assign hf rfl) fun a hf => ?_
    refine pl_nil ?_
    refine then_n ?_
    refine wp_ret ?_
    refine then_r ?_
    obtain rfl := some_inj h
    exact leave1 hf rfl rfl ⟨rfl, hM.fin, (R64_lit rfl)⟩
  · refine cond_f hf rfl hc5 ?_
    refine wp_skip ?_
    refine then_n ?_
    refine wp_seq ?_
    refine region_pl ?_
    refine q_ hf rfl rfl rfl (e_assign hf rfl) fun a hf => ?_
    refine pl_nil ?_
    refine then_n ?_
    obtain ⟨x8, h9, h⟩ := bind_some h
    refine seq_join (fun a w => ∃ (n6 : Int), n6 = x8 ∧ Has 25 a [(5, vI (n6))] ∧ Mem C w [] [] ∧ R64 n6) ?_ ?_
    · refine wp_seq ?_
      refine region_pl ?_
      refine q_ hf rfl rfl rfl (e_assign hf rfl) fun a hf => ?_
      refine pl_nil ?_
      refine then_n ?_
      refine wp_block ?_
      obtain ⟨x17, h18, h9⟩ := bind_some h9
      refine wp_loopM h18 (fun s a w => ∃ (n10 : Int) (n12 : Int), (n10, n12) = s ∧ Has 25 a [(0, vI (n1)), (1, vI (k3)), (5, vI (n10)), (6, vI (n12))] ∧ Mem C w [] [] ∧ R64 n10 ∧ R64 n12) ?_ ?_
      · exact ⟨1, 1, rfl, hf.keep ⟨rfl, rfl, rfl, rfl, trivial⟩, hM.pick [] rfl, (R64_lit rfl), (R64_lit rfl)⟩
      · rintro s o19 a w14 ⟨n10, n12, rfl, hf, hM, hv11, hv13⟩ h20 hd21
        replace h20 : m_impl_choose_l1 k3 n1 n10 n12 = some o19 := h20
        unfold m_impl_choose_l1 at h20
        refine wp_seq ?_
        refine wp_seq ?_
        refine region_pl ?_
        refine q_ hf rfl rfl rfl (e_move hf rfl) fun a hf => ?_
        refine q_ hf rfl rfl rfl (e_move hf rfl) fun a hf => ?_
        refine q_ hf rfl rfl rfl (e_le hf (x := n12) (y := k3) rfl rfl) fun a hf => ?_
        refine pl_nil ?_
        refine then_n ?_
        rcases cond_some h20 with ⟨hc22, h20⟩ | ⟨hc22, h20⟩
        · refine cond_t hf rfl hc22 ?_
          refine wp_skip ?_
          refine then_n ?_
          refine wp_seq ?_
          refine wp_block ?_
          refine region_pl ?_
          refine q_ hf rfl rfl rfl (e_move hf rfl) fun a hf => ?_
          refine q_ hf rfl rfl rfl (e_move hf rfl) fun a hf => ?_
          refine q_ hf rfl rfl rfl (e_move hf rfl) fun a hf => ?_
          obtain ⟨z23, hz24, h20⟩ := bind_some h20
          refine q_ hf rfl rfl rfl (e_sub hf rfl rfl hz24) fun a hf => ?_
          refine q_ hf rfl rfl rfl (e_move hf rfl) fun a hf => ?_
          obtain ⟨z25, hz26, h20⟩ := bind_some h20
          refine q_ hf rfl rfl rfl (e_add hf rfl rfl hz26) fun a hf => ?_
          obtain ⟨z27, hz28, h20⟩ := bind_some h20
          refine q_ hf rfl rfl rfl (e_mul hf rfl rfl hz28) fun a hf => ?_
          refine q_ hf rfl rfl rfl (e_move hf rfl) fun a hf => ?_
          obtain ⟨z29, hz30, h20⟩ := bind_some h20
          refine q_ hf rfl rfl rfl (e_quo hf rfl rfl hz30) fun a hf => ?_
          refine q_ hf rfl rfl rfl (e_assign hf rfl) fun a hf => ?_
          refine pl_nil ?_
          refine blk_n ?_
          refine then_n ?_
          refine region_pl ?_
          refine q_ hf rfl rfl rfl (e_move hf rfl) fun a hf => ?_
          obtain ⟨z31, hz32, h20⟩ := bind_some h20
          refine q_ hf rfl rfl rfl (e_add hf rfl rfl hz32) fun a hf => ?_
          refine q_ hf rfl rfl rfl (e_assign hf rfl) fun a hf => ?_
          refine pl_nil ?_
          obtain rfl := some_inj h20
          refine then_n ⟨_, rfl, ?_⟩
          exact ⟨z29, z31, rfl, hf.keep ⟨rfl, rfl, rfl, rfl, trivial⟩, hM.pick [] rfl, (quoI_R hz30), (chk_R hz32)⟩
        · refine cond_f hf rfl hc22 ?_
          refine wp_exit ?_
          refine then_x ?_
          obtain rfl := some_inj h20
          obtain rfl := hd21 _ rfl
          try dsimp only at h9
          refine then_x ?_
          refine exit_hit ?_
          obtain rfl := some_inj h9
          refine then_n ?_
          exact ⟨n10, rfl, hf.keep ⟨rfl, trivial⟩, hM.pick [] rfl, hv11⟩
    · rintro a w38 ⟨n6, rfl, hf, hM, hv7⟩
      try dsimp only at h
      refine wp_seq ?_
      refine region_pl ?_
      refine q_ hf rfl rfl rfl (e_move hf rfl) fun a hf => ?_
      refine q_ hf rfl rfl rfl (e_assign hf rfl) fun a hf => ?_
      refine pl_nil ?_
      refine then_n ?_
      refine wp_ret ?_
      obtain rfl := some_inj h
      exact leave1 hf rfl rfl ⟨rfl, hM.fin, hv7⟩

set_option maxRecDepth 100000 in
set_option maxHeartbeats 4000000 in
theorem r_impl_waysToDraw (C : Cx) (c1 : (List Int)) (hp2 : ArrOk 27 c1) (drawn3 : Str) (hp4 : drawn3.length ≤ maxLen) (r : Int) (h : m_impl_waysToDraw c1 drawn3 = some r) :
    Calls Try.prog 66 #[.agg (arrV c1).toArray, vS (drawn3)] C.w0 fun e w => e = .returned (vI (r)) ∧ Mem C w [] [] ∧ R64 r := by
  have hM := Mem.begin C [] trivial
  refine enter Try.func66 rfl Try.ntmps66 rfl fun a hf => ?_
  unfold m_impl_waysToDraw at h
  refine wp_seq ?_
  refine region_pl ?_
  refine pl_l hf rfl rfl rfl (w_box hf hM (cs := arrV c1) rfl rfl fun b5 w6 hx7 hM a hf => ?_)
  refine q_ hf rfl rfl rfl (e_assign hf rfl) fun a hf => ?_
  refine pl_nil ?_
  refine then_n ?_
  refine wp_seq ?_
  refine region_pl ?_
  refine q_ hf rfl rfl rfl (e_assign hf rfl) fun a hf => ?_
  refine pl_nil ?_
  refine then_n ?_
  obtain ⟨x11, h12, h⟩ := bind_some h
  refine seq_join (fun a w => ∃ (n9 : Int), n9 = x11 ∧ Has 23 a [(5, vI (n9))] ∧ Mem C w [.box b5 (arrV c1) 80] [] ∧ R64 n9) ?_ ?_
  · refine wp_seq ?_
    refine region_pl ?_
    refine q_ hf rfl rfl rfl (e_move hf rfl) fun a hf => ?_
    obtain ⟨y13, hz14, h12⟩ := bind_some h12
    refine pl_l hf rfl rfl rfl (w_call hf Try.call64 rfl (r_impl_countsOf ⟨_, Sh C _ _, none_, hM.sh_lt, none_not, C.G, hM.g_lt, g_none, hM.tabs⟩ drawn3 hp4 _ hz14) ?_)
    rintro _ w16 ⟨rfl, hM2, hv15⟩
    obtain ⟨hM, hx17, hup18⟩ := hM.back hM2
    dsimp only [List.cons_append, List.nil_append] at hM hup18
    clear hM2
    refine ⟨_, rfl, fun a hf => ?_⟩
    refine q_ hf rfl rfl rfl (e_move hf rfl) fun a hf => ?_
    refine pl_nil ?_
    refine then_n ?_
    refine wp_block ?_
    obtain ⟨x26, h27, h12⟩ := bind_some h12
    refine wp_loopM h27 (fun s a w => ∃ (n19 : Int) (n21 : Int), (n19, n21) = s ∧ Has 23 a [(2, vP b5 (0)), (5, vI (n21)), (9, .agg (arrV y13).toArray), (10, vI (n19))] ∧ Mem C w [.box b5 (arrV c1) 80] [] ∧ R64 n19 ∧ R64 n21) ?_ ?_
    · exact ⟨0, 1, rfl, hf.keep ⟨rfl, rfl, rfl, rfl, trivial⟩, hM.pick [] rfl, (R64_lit rfl), (R64_lit rfl)⟩
    · rintro s o28 a w23 ⟨n19, n21, rfl, hf, hM, hv20, hv22⟩ h29 hd30
      replace h29 : m_impl_waysToDraw_l1 y13 c1 n19 n21 = some o28 := h29
      unfold m_impl_waysToDraw_l1 at h29
      refine wp_seq ?_
      refine region_pl ?_
      refine q_ hf rfl rfl rfl (e_lt hf (x := n19) (y := 27) rfl rfl) fun a hf => ?_
      refine pl_nil ?_
      refine then_n ?_
      refine wp_seq ?_
      rcases cond_some h29 with ⟨hc31, h29⟩ | ⟨hc31, h29⟩
      · refine cond_t hf rfl hc31 ?_
        refine wp_skip ?_
        refine then_n ?_
        refine wp_seq ?_
        refine wp_block ?_
        refine wp_seq ?_
        refine region_pl ?_
        refine q_ hf rfl rfl rfl (e_move hf rfl) fun a hf => ?_
        obtain ⟨n32, hz33, h29⟩ := bind_some h29
        refine q_ hf rfl rfl rfl (e_indexArr hf hv15 rfl rfl Try.underlying80 Try.isAgg3 Try.sizeOf3 hz33) fun a hf => ?_
        refine q_ hf rfl rfl rfl (e_assign hf rfl) fun a hf => ?_
        refine q_ hf rfl rfl rfl (e_assign hf rfl) fun a hf => ?_
        refine pl_nil ?_
        refine then_n ?_
        refine region_pl ?_
        refine q_ hf rfl rfl rfl (e_move hf rfl) fun a hf => ?_
        refine q_ hf rfl rfl rfl (e_move hf rfl) fun a hf => ?_
        obtain ⟨n34, hz35, h29⟩ := bind_some h29
        refine q_ hf rfl rfl rfl (e_indexAddrArr hf (i := n19) rfl rfl Try.underlying80 Try.sizeOf3 (arr_in hp2 hz35).1 (arr_in hp2 hz35).2) fun a hf => ?_
        refine q_ hf rfl rfl rfl (e_load1 hf rfl Try.isAgg3 (hM.boxCell (k := 0) rfl (arr_at hz35))) fun a hf => ?_
        refine q_ hf rfl rfl rfl (e_move hf rfl) fun a hf => ?_
        obtain ⟨y36, hz37, h29⟩ := bind_some h29
        refine pl_l hf rfl rfl rfl (w_call hf Try.call45 rfl (r_impl_choose ⟨_, Sh C _ _, none_, hM.sh_lt, none_not, C.G, hM.g_lt, g_none, hM.tabs⟩ n34 (arr_R hp2 hz35) n32 (arr_R hv15 hz33) _ hz37) ?_)
        rintro _ w39 ⟨rfl, hM2, hv38⟩
        obtain ⟨hM, hx40, hup41⟩ := hM.back hM2
        dsimp only [List.cons_append, List.nil_append] at hM hup41
        clear hM2
        refine ⟨_, rfl, fun a hf => ?_⟩
        obtain ⟨z42, hz43, h29⟩ := bind_some h29
        refine q_ hf rfl rfl rfl (e_mul hf rfl rfl hz43) fun a hf => ?_
        refine q_ hf rfl rfl rfl (e_assign hf rfl) fun a hf => ?_
        refine pl_nil ?_
        refine blk_n ?_
        refine then_n ?_
        refine region_pl ?_
        obtain ⟨z44, hz45, h29⟩ := bind_some h29
        refine q_ hf rfl rfl rfl (e_add hf rfl rfl hz45) fun a hf => ?_
        refine q_ hf rfl rfl rfl (e_move hf rfl) fun a hf => ?_
        refine pl_nil ?_
        obtain rfl := some_inj h29
        refine then_n ⟨_, rfl, ?_⟩
        exact ⟨z44, z42, rfl, hf.keep ⟨rfl, rfl, rfl, rfl, trivial⟩, hM.pick [] rfl, (chk_R hz45), (chk_R hz43)⟩
      · refine cond_f hf rfl hc31 ?_
        refine wp_exit ?_
        refine then_x ?_
        obtain rfl := some_inj h29
        obtain rfl := hd30 _ rfl
        try dsimp only at h12
        refine then_x ?_
        refine exit_hit ?_
        obtain rfl := some_inj h12
        refine then_n ?_
        exact ⟨n21, rfl, hf.keep ⟨rfl, trivial⟩, hM.pick [] rfl, hv22⟩
  · rintro a w51 ⟨n9, rfl, hf, hM, hv10⟩
    try dsimp only at h
    refine wp_seq ?_
    refine region_pl ?_
    refine q_ hf rfl rfl rfl (e_move hf rfl) fun a hf => ?_
    refine q_ hf rfl rfl rfl (e_assign hf rfl) fun a hf => ?_
    refine pl_nil ?_
    refine then_n ?_
    refine wp_ret ?_
    obtain rfl := some_inj h
    have hM := hM.outs (own' := []) 0 rfl
    exact leave1 hf rfl rfl ⟨rfl, hM.fin, hv10⟩

set_option maxRecDepth 100000 in
set_option maxHeartbeats 4000000 in
theorem r_impl_draws (C : Cx) (pile1 : Str) (hp2 : pile1.length ≤ maxLen) (n3 : Int) (hp4 : R64 n3) (r : (List Drawn)) (h : m_impl_draws pile1 n3 = some r) :
    Calls Try.prog 39 #[vS (pile1), vI (n3)] C.w0 fun e w => ∃ (A_1 : Option Addr), ∃ (c_1 : Nat), e = .returned (vL A_1 (r) c_1) ∧ Mem C w [.row DrawnRep A_1 c_1 47 r true] [] := by
  have hM := Mem.begin C [] trivial
  refine enter Try.func39 rfl Try.ntmps39 rfl fun a hf => ?_
  unfold m_impl_draws at h
  refine wp_seq ?_
  refine region_pl ?_
  refine q_ hf rfl rfl rfl (e_assign hf rfl) fun a hf => ?_
  refine pl_nil ?_
  refine then_n ?_
  refine wp_seq ?_
  refine region_pl ?_
  refine pl_l hf rfl rfl rfl (w_slice0 (K := DrawnRep) hM Try.underlying32 ei_47 fun b5 w6 hx7 hM a hf => ?_)
  refine q_ hf rfl rfl rfl (e_move hf rfl) fun a hf => ?_
  obtain ⟨y8, hz9, h⟩ := bind_some h
  refine pl_l hf rfl rfl rfl (w_call hf Try.call64 rfl (r_impl_countsOf ⟨_, Sh C _ _, none_, hM.sh_lt, none_not, C.G, hM.g_lt, g_none, hM.tabs⟩ pile1 hp2 _ hz9) ?_)
  rintro _ w11 ⟨rfl, hM2, hv10⟩
  obtain ⟨hM, hx12, hup13⟩ := hM.back hM2
  dsimp only [List.cons_append, List.nil_append] at hM hup13
  clear hM2
  refine ⟨_, rfl, fun a hf => ?_⟩
  refine pl_l hf rfl rfl rfl (w_alloc hM (cs := arrV (List.replicate 27 (0 : Int))) Try.zeroValue80 rfl fun b14 w15 hx16 hM a hf => ?_)
  refine q_ hf rfl rfl rfl (e_assign hf rfl) fun a hf => ?_
  refine pl_0 hf rfl rfl (w_storeArr hf hM rfl rfl (k := 0) rfl (arr_zero 27) hv10 Try.sizeOf80 fun w18 hM => ?_)
  dsimp only [List.set] at hM
  refine pl_nil ?_
  refine then_n ?_
  obtain ⟨x22, h23, h⟩ := bind_some h
  refine seq_join (fun a w => ∃ (xs19 : (List Drawn)) (A20 : Option Addr) (c21 : Nat), xs19 = x22 ∧ Has 33 a [(5, vL A20 (xs19) c21)] ∧ Mem C w [.box b14 (arrV y8) 80, .row DrawnRep A20 c21 47 xs19 true] []) ?_ ?_
  · refine wp_seq ?_
    refine region_pl ?_
    refine q_ hf rfl rfl rfl (e_move hf rfl) fun a hf => ?_
    refine q_ hf rfl rfl rfl (e_move hf rfl) fun a hf => ?_
    refine q_ hf rfl rfl rfl (e_move hf rfl) fun a hf => ?_
    refine q_ hf rfl rfl rfl (e_lenS hf (x := pile1) rfl Try.underlying9) fun a hf => ?_
    obtain ⟨z24, hz25, h23⟩ := bind_some h23
    refine q_ hf rfl rfl rfl (e_mul hf rfl rfl hz25) fun a hf => ?_
    obtain ⟨y26, hz27, h23⟩ := bind_some h23
    refine pl_l hf rfl rfl rfl (w_call hf Try.call65 rfl (r_impl_someDraws ⟨_, Sh C _ _, none_, hM.sh_lt, none_not, C.G, hM.g_lt, g_none, hM.tabs⟩ pile1 hp2 n3 hp4 z24 (chk_R hz25) _ hz27) ?_)
    rintro _ w30 ⟨A28, c29, rfl, hM2⟩
    obtain ⟨hM, hx31, hup32⟩ := hM.back hM2
    dsimp only [List.cons_append, List.nil_append] at hM hup32
    clear hM2
    refine ⟨_, rfl, fun a hf => ?_⟩
    have hl33 := row_len (hM.ownAt (k := 0) rfl)
    refine q_ hf rfl rfl rfl (e_lenL hf (x := y26) rfl Try.underlying76) fun a hf => ?_
    refine q_ hf rfl rfl rfl (e_move hf rfl) fun a hf => ?_
    refine pl_nil ?_
    refine then_n ?_
    refine wp_block ?_
    obtain ⟨x43, h44, h23⟩ := bind_some h23
    refine wp_loopM h44 (fun s a w => ∃ (xs34 : (List Drawn)) (n37 : Int) (A35 : Option Addr) (c36 : Nat), (xs34, n37) = s ∧ Has 33 a [(5, vL A35 (xs34) c36), (6, vP b14 (0)), (17, vL A28 (y26) c29), (18, vI ((y26.length : Int))), (19, vI (n37))] ∧ Mem C w [.row strRep A28 c29 9 y26 true, .box b14 (arrV y8) 80, .row DrawnRep A35 c36 47 xs34 true] [] ∧ R64 n37) ?_ ?_
    · exact ⟨([] : (List Drawn)), 0, (some ⟨b5, 0, none⟩), 0, rfl, hf.keep ⟨rfl, rfl, rfl, rfl, rfl, trivial⟩, hM.pick [] rfl, (R64_lit rfl)⟩
    · rintro s o45 a w39 ⟨xs34, n37, A35, c36, rfl, hf, hM, hv38⟩ h46 hd47
      replace h46 : m_impl_draws_l1 y26 y8 xs34 n37 = some o45 := h46
      unfold m_impl_draws_l1 at h46
      refine wp_seq ?_
      refine region_pl ?_
      refine q_ hf rfl rfl rfl (e_lt hf (x := n37) (y := (y26.length : Int)) rfl rfl) fun a hf => ?_
      refine pl_nil ?_
      refine then_n ?_
      refine wp_seq ?_
      rcases cond_some h46 with ⟨hc48, h46⟩ | ⟨hc48, h46⟩
      · refine cond_t hf rfl hc48 ?_
        refine wp_skip ?_
        refine then_n ?_
        refine wp_seq ?_
        refine wp_block ?_
        refine wp_seq ?_
        refine region_pl ?_
        obtain ⟨e49, hz50, h46⟩ := bind_some h46
        obtain ⟨b55, _, hA56, h51, h52, hr53, hcell54⟩ := hM.rowElemN (k := 0) rfl (n := 1) rfl hz50
        obtain ⟨rfl, hv57⟩ := hr53
        refine q_ hf rfl rfl rfl (e_indexAddr (A := A28) (b := b55) (o := 0) (xs := y26) (i := n37) hf hA56 rfl rfl Try.underlying76 Try.sizeOf9 h51 h52) fun a hf => ?_
        refine q_ hf rfl rfl rfl (e_load1 hf rfl Try.isAgg9 (hcell54 0 _ rfl)) fun a hf => ?_
        refine q_ hf rfl rfl rfl (e_assign hf rfl) fun a hf => ?_
        refine pl_nil ?_
        refine then_n ?_
        refine region_pl ?_
        refine q_ hf rfl rfl rfl (e_move hf rfl) fun a hf => ?_
        refine q_ hf rfl rfl rfl (e_move hf rfl) fun a hf => ?_
        refine q_ hf rfl rfl rfl (e_loadA hf (us := arrV y8) rfl ⟨Try.isAgg80, Try.sizeOf80⟩ (arr_len hv10) (hM.boxSub (k := 1) (us := arrV y8) (o := 0) rfl (arr_all _))) fun a hf => ?_
        refine q_ hf rfl rfl rfl (e_move hf rfl) fun a hf => ?_
        obtain ⟨y58, hz59, h46⟩ := bind_some h46
        refine pl_l hf rfl rfl rfl (w_call hf Try.call66 rfl (r_impl_waysToDraw ⟨_, Sh C _ _, none_, hM.sh_lt, none_not, C.G, hM.g_lt, g_none, hM.tabs⟩ y8 hv10 e49 hv57 _ hz59) ?_)
        rintro _ w61 ⟨rfl, hM2, hv60⟩
        obtain ⟨hM, hx62, hup63⟩ := hM.back hM2
        dsimp only [List.cons_append, List.nil_append] at hM hup63
        clear hM2
        refine ⟨_, rfl, fun a hf => ?_⟩
        refine q_ hf rfl rfl rfl (e_build hf Try.zeroValue47 Try.underlying47 (bp_47 _ Try.underlying47.symm) rfl (cs := #[vS (e49), vI (y58)]) (by kernel_rfl)) fun a hf => ?_
        refine pl_l hf rfl rfl rfl (w_slice hf hM (K := DrawnRep) (xs := ([(⟨e49, y58⟩ : Drawn)] : (List Drawn))) (os := [.tmp 28]) Try.underlying32 ei_47 rfl rfl rfl rfl rfl ⟨⟨[vS (e49), vI (y58)], rfl, (DrawnRep_mk (x := (⟨e49, y58⟩ : Drawn)) hv57 hv60)⟩, trivial⟩ rfl fun b64 w65 hx66 hM a hf => ?_)
        obtain ⟨xs67, hz68, h46⟩ := bind_some h46
        refine pl_l hf rfl rfl rfl (w_append hf hM Try.underlying32 ei_47 rfl rfl rfl (k := 3) rfl (hM.srcRow (k := 0) rfl) hz68 fun A69 c70 w71 hM a hf => ?_)
        dsimp only [List.set] at hM
        refine q_ hf rfl rfl rfl (e_assign hf rfl) fun a hf => ?_
        refine pl_nil ?_
        refine blk_n ?_
        refine then_n ?_
        refine region_pl ?_
        obtain ⟨z74, hz75, h46⟩ := bind_some h46
        refine q_ hf rfl rfl rfl (e_add hf rfl rfl hz75) fun a hf => ?_
        refine q_ hf rfl rfl rfl (e_move hf rfl) fun a hf => ?_
        refine pl_nil ?_
        obtain rfl := some_inj h46
        refine then_n ⟨_, rfl, ?_⟩
        exact ⟨xs67, z74, A69, c70, rfl, hf.keep ⟨rfl, rfl, rfl, rfl, rfl, trivial⟩, (hM.drop (.cons _ (.cons_cons _ (.cons_cons _ (.cons_cons _ .slnil))))).pick [] rfl, (chk_R hz75)⟩
      · refine cond_f hf rfl hc48 ?_
        refine wp_exit ?_
        refine then_x ?_
        obtain rfl := some_inj h46
        obtain rfl := hd47 _ rfl
        try dsimp only at h23
        refine then_x ?_
        refine exit_hit ?_
        obtain rfl := some_inj h23
        refine then_n ?_
        exact ⟨xs34, A35, c36, rfl, hf.keep ⟨rfl, trivial⟩, (hM.drop (.cons _ (.cons_cons _ (.cons_cons _ .slnil)))).pick [] rfl⟩
  · rintro a w81 ⟨xs19, A20, c21, rfl, hf, hM⟩
    try dsimp only at h
    refine wp_seq ?_
    refine region_pl ?_
    refine q_ hf rfl rfl rfl (e_move hf rfl) fun a hf => ?_
    refine q_ hf rfl rfl rfl (e_assign hf rfl) fun a hf => ?_
    refine pl_nil ?_
    refine then_n ?_
    refine wp_ret ?_
    obtain rfl := some_inj h
    have hM := hM.front (k := 1) rfl
    dsimp only [List.eraseIdx] at hM
    have hM := hM.outs (own' := [.row DrawnRep A20 c21 47 xs19 true]) 1 rfl
    exact leave1 hf rfl rfl ⟨A20, c21, rfl, hM.fin⟩

set_option maxRecDepth 100000 in
set_option maxHeartbeats 4000000 in
theorem r_impl_counts_less (C : Cx) (c1 : (List Int)) (hp2 : ArrOk 27 c1) (d3 : (List Int)) (hp4 : ArrOk 27 d3) (r : ((List Int) × Bool)) (h : m_impl_counts_less c1 d3 = some r) :
    Calls Try.prog 71 #[.agg (arrV c1).toArray, .agg (arrV d3).toArray] C.w0 fun e w => e = .returned (.tuple #[.agg (arrV r.1).toArray, .bool (r.2)]) ∧ Mem C w [] [] ∧ ArrOk 27 r.1 := by
  have hM := Mem.begin C [] trivial
  refine enter Try.func71 rfl Try.ntmps71 rfl fun a hf => ?_
  unfold m_impl_counts_less at h
  refine wp_seq ?_
  refine region_pl ?_
  refine pl_l hf rfl rfl rfl (w_box hf hM (cs := arrV c1) rfl rfl fun b5 w6 hx7 hM a hf => ?_)
  refine pl_l hf rfl rfl rfl (w_box hf hM (cs := arrV d3) rfl rfl fun b9 w10 hx11 hM a hf => ?_)
  refine pl_l hf rfl rfl rfl (w_alloc hM (cs := arrV (List.replicate 27 (0 : Int))) Try.zeroValue80 rfl fun b13 w14 hx15 hM a hf => ?_)
  refine q_ hf rfl rfl rfl (e_assign hf rfl) fun a hf => ?_
  refine pl_nil ?_
  refine then_n ?_
  obtain ⟨x19, h20, h⟩ := bind_some h
  refine seq_join (fun a w => ∃ (xs17 : (List Int)), (.inl xs17) = x19 ∧ Has 26 a [(2, vP b5 (0)), (4, vP b13 (0))] ∧ Mem C w [.box b13 (arrV (List.replicate 27 (0 : Int))) 80, .box b9 (arrV d3) 80, .box b5 (arrV xs17) 80] [] ∧ ArrOk 27 xs17) ?_ ?_
  · refine wp_seq ?_
    refine region_pl ?_
    refine q_ hf rfl rfl rfl (e_loadA hf (us := arrV d3) rfl ⟨Try.isAgg80, Try.sizeOf80⟩ (arr_len hp4) (hM.boxSub (k := 1) (us := arrV d3) (o := 0) rfl (arr_all _))) fun a hf => ?_
    refine q_ hf rfl rfl rfl (e_move hf rfl) fun a hf => ?_
    refine pl_nil ?_
    refine then_n ?_
    refine wp_block ?_
    obtain ⟨x28, h29, h20⟩ := bind_some h20
    refine wp_loopM h29 (fun s a w => ∃ (xs21 : (List Int)) (n23 : Int), (xs21, n23) = s ∧ Has 26 a [(2, vP b5 (0)), (4, vP b13 (0)), (8, .agg (arrV d3).toArray), (9, vI (n23))] ∧ Mem C w [.box b13 (arrV (List.replicate 27 (0 : Int))) 80, .box b9 (arrV d3) 80, .box b5 (arrV xs21) 80] [] ∧ ArrOk 27 xs21 ∧ R64 n23) ?_ ?_
    · exact ⟨c1, 0, rfl, hf.keep ⟨rfl, rfl, rfl, rfl, trivial⟩, hM.pick [] rfl, hp2, (R64_lit rfl)⟩
    · rintro s o30 a w25 ⟨xs21, n23, rfl, hf, hM, hv22, hv24⟩ h31 hd32
      replace h31 : m_impl_counts_less_l1 d3 xs21 n23 = some o30 := h31
      unfold m_impl_counts_less_l1 at h31
      refine wp_seq ?_
      refine region_pl ?_
      refine q_ hf rfl rfl rfl (e_lt hf (x := n23) (y := 27) rfl rfl) fun a hf => ?_
      refine pl_nil ?_
      refine then_n ?_
      refine wp_seq ?_
      rcases cond_some h31 with ⟨hc33, h31⟩ | ⟨hc33, h31⟩
      · refine cond_t hf rfl hc33 ?_
        refine wp_skip ?_
        refine then_n ?_
        refine wp_seq ?_
        refine wp_block ?_
        refine wp_seq ?_
        refine region_pl ?_
        refine q_ hf rfl rfl rfl (e_move hf rfl) fun a hf => ?_
        obtain ⟨n34, hz35, h31⟩ := bind_some h31
        refine q_ hf rfl rfl rfl (e_indexArr hf hp4 rfl rfl Try.underlying80 Try.isAgg3 Try.sizeOf3 hz35) fun a hf => ?_
        refine q_ hf rfl rfl rfl (e_assign hf rfl) fun a hf => ?_
        refine q_ hf rfl rfl rfl (e_assign hf rfl) fun a hf => ?_
        refine pl_nil ?_
        refine then_n ?_
        refine wp_seq ?_
        refine region_pl ?_
        refine q_ hf rfl rfl rfl (e_move hf rfl) fun a hf => ?_
        obtain ⟨n36, hz37, h31⟩ := bind_some h31
        refine q_ hf rfl rfl rfl (e_indexAddrArr hf (i := n23) rfl rfl Try.underlying80 Try.sizeOf3 (arr_in hv22 hz37).1 (arr_in hv22 hz37).2) fun a hf => ?_
        refine q_ hf rfl rfl rfl (e_load1 hf rfl Try.isAgg3 (hM.boxCell (k := 2) rfl (arr_at hz37))) fun a hf => ?_
        refine q_ hf rfl rfl rfl (e_move hf rfl) fun a hf => ?_
        obtain ⟨z38, hz39, h31⟩ := bind_some h31
        refine q_ hf rfl rfl rfl (e_sub hf rfl rfl hz39) fun a hf => ?_
        obtain ⟨n40, hz41, h31⟩ := bind_some h31
        refine q_ hf rfl rfl rfl (e_indexAddrArr hf (i := n23) rfl rfl Try.underlying80 Try.sizeOf3 (arr_in hv22 hz41).1 (arr_in hv22 hz41).2) fun a hf => ?_
        obtain ⟨xs43, hz44, h31⟩ := bind_some h31
        refine pl_0 hf rfl rfl (w_storeAt hf hM (i := n23) rfl rfl (k := 2) rfl Try.sizeOf3 hz44 fun w42 hM => ?_)
        dsimp only [List.set] at hM
        refine pl_nil ?_
        refine then_n ?_
        refine wp_seq ?_
        refine region_pl ?_
        refine q_ hf rfl rfl rfl (e_move hf rfl) fun a hf => ?_
        obtain ⟨n45, hz46, h31⟩ := bind_some h31
        refine q_ hf rfl rfl rfl (e_indexAddrArr hf (i := n23) rfl rfl Try.underlying80 Try.sizeOf3 (arr_in (arr_set hv22 (chk_R hz39) hz44) hz46).1 (arr_in (arr_set hv22 (chk_R hz39) hz44) hz46).2) fun a hf => ?_
        refine q_ hf rfl rfl rfl (e_load1 hf rfl Try.isAgg3 (hM.boxCell (k := 2) rfl (arr_at hz46))) fun a hf => ?_
        refine q_ hf rfl rfl rfl (e_lt hf (x := n45) (y := 0) rfl rfl) fun a hf => ?_
        refine pl_nil ?_
        refine then_n ?_
        rcases cond_some h31 with ⟨hc47, h31⟩ | ⟨hc47, h31⟩
        · refine cond_t hf rfl hc47 ?_
          refine wp_seq ?_
          refine region_pl ?_
          refine q_ hf rfl rfl rfl (e_buildArr hf (cs := arrV (List.replicate 27 (0 : Int))) Try.zeroValue80 Try.underlying80 Try.sizeOf3 rfl) fun a hf => ?_
          refine pl_0 hf rfl rfl (w_storeArr hf hM rfl rfl (k := 0) rfl (arr_zero 27) (arr_zero 27) Try.sizeOf80 fun w48 hM => ?_)
          dsimp only [List.set] at hM
          refine q_ hf rfl rfl rfl (e_assign hf rfl) fun a hf => ?_
          refine pl_nil ?_
          refine then_n ?_
          refine wp_ret ?_
          refine blk_r ?_
          refine then_r ?_
          obtain rfl := some_inj h31
          obtain rfl := hd32 _ rfl
          try dsimp only at h20
          refine then_r ?_
          refine blk_r ?_
          obtain rfl := some_inj h20
          try dsimp only at h
          refine then_r ?_
          obtain rfl := some_inj h
          have hres51 := leaveV2 (P := Try.prog) Try.results71 (res_agg hf rfl ⟨Try.isAgg80, Try.sizeOf80⟩ (us := arrV (List.replicate 27 (0 : Int))) (arr_len (arr_zero 27)) (hM.boxSub (k := 0) (o := 0) rfl (arr_all _))) (res_tmp hf rfl)
          have hM := hM.outs (own' := []) 0 rfl
          exact bodyPost_ret hres51 hf.defers ⟨rfl, hM.fin, (arr_zero 27)⟩
        · refine cond_f hf rfl hc47 ?_
          refine wp_skip ?_
          refine blk_n ?_
          refine then_n ?_
          refine region_pl ?_
          obtain ⟨z52, hz53, h31⟩ := bind_some h31
          refine q_ hf rfl rfl rfl (e_add hf rfl rfl hz53) fun a hf => ?_
          refine q_ hf rfl rfl rfl (e_move hf rfl) fun a hf => ?_
          refine pl_nil ?_
          obtain rfl := some_inj h31
          refine then_n ⟨_, rfl, ?_⟩
          exact ⟨xs43, z52, rfl, hf.keep ⟨rfl, rfl, rfl, rfl, trivial⟩, hM.pick [] rfl, (arr_set hv22 (chk_R hz39) hz44), (chk_R hz53)⟩
      · refine cond_f hf rfl hc33 ?_
        refine wp_exit ?_
        refine then_x ?_
        obtain rfl := some_inj h31
        obtain rfl := hd32 _ rfl
        try dsimp only at h20
        refine then_x ?_
        refine exit_hit ?_
        obtain rfl := some_inj h20
        refine then_n ?_
        exact ⟨xs21, rfl, hf.keep ⟨rfl, rfl, trivial⟩, hM.pick [] rfl, hv22⟩
  · rintro a w60 ⟨xs17, rfl, hf, hM, hv18⟩
    try dsimp only at h
    refine wp_seq ?_
    refine region_pl ?_
    refine q_ hf rfl rfl rfl (e_loadA hf (us := arrV xs17) rfl ⟨Try.isAgg80, Try.sizeOf80⟩ (arr_len hv18) (hM.boxSub (k := 2) (us := arrV xs17) (o := 0) rfl (arr_all _))) fun a hf => ?_
    refine pl_0 hf rfl rfl (w_storeArr hf hM rfl rfl (k := 0) rfl (arr_zero 27) hv18 Try.sizeOf80 fun w61 hM => ?_)
    dsimp only [List.set] at hM
    refine q_ hf rfl rfl rfl (e_assign hf rfl) fun a hf => ?_
    refine pl_nil ?_
    refine then_n ?_
    refine wp_ret ?_
    obtain rfl := some_inj h
    have hres62 := leaveV2 (P := Try.prog) Try.results71 (res_agg hf rfl ⟨Try.isAgg80, Try.sizeOf80⟩ (us := arrV xs17) (arr_len hv18) (hM.boxSub (k := 0) (o := 0) rfl (arr_all _))) (res_tmp hf rfl)
    have hM := hM.outs (own' := []) 0 rfl
    exact bodyPost_ret hres62 hf.defers ⟨rfl, hM.fin, hv18⟩

set_option maxRecDepth 100000 in
set_option maxHeartbeats 4000000 in
theorem r_strings_Builder_copyCheck (C : Cx) (b1 : Str) (b2 : Nat) (p3 : Value) (hp4 : AddrOk b2 p3) (A5 : Option Addr) (c6 : Nat) (hO : Mem C C.w0 [.box b2 [p3, vL A5 (b1) c6] 102, .row byteRep A5 c6 5 b1 true] []) (hd : ∀ b, C.S0 b → ¬ ownB [.box b2 [p3, vL A5 (b1) c6] 102, .row byteRep A5 c6 5 b1 true] b) (r : Str) (h : m_strings_Builder_copyCheck b1 = some r) :
    Calls Try.prog 92 #[vP b2 (0)] C.w0 fun e w => ∃ (p_1 : Value), ∃ (A_1 : Option Addr), ∃ (c_1 : Nat), e = .returned (.tuple #[]) ∧ Mem C w [.box b2 [p_1, vL A_1 (r) c_1] 102, .row byteRep A_1 c_1 5 r true] [] ∧ AddrOk b2 p_1 := by
  have hM := hO
  refine enter Try.func92 rfl Try.ntmps92 rfl fun a hf => ?_
  unfold m_strings_Builder_copyCheck at h
  rcases hp4 with rfl | rfl
  · refine wp_seq ?_
    refine region_pl ?_
    refine q_ hf rfl rfl rfl (e_move hf rfl) fun a hf => ?_
    refine q_ hf rfl rfl rfl (e_nil hf rfl) fun a hf => ?_
    refine q_ hf rfl rfl rfl (e_field hf rfl Try.underlying102 rfl Try.sizeOf100 (o' := 0) rfl) fun a hf => ?_
    refine q_ hf rfl rfl rfl (e_load1 hf rfl Try.isAgg100 (hM.boxCell (k := 0) rfl rfl)) fun a hf => ?_
    refine q_ hf rfl rfl rfl (e_eqPN hf rfl rfl Try.underlying100) fun a hf => ?_
    refine pl_nil ?_
    refine then_n ?_
    refine cond_t hf rfl rfl ?_
    refine region_pl ?_
    refine q_ hf rfl rfl rfl (e_move hf rfl) fun a hf => ?_
    refine q_ hf rfl rfl rfl (e_move hf rfl) fun a hf => ?_
    refine q_ hf rfl rfl rfl (e_toUnsafe hf hM (k := 0) (n := 2) rfl rfl Try.underlying100 Try.underlying111 (by kernel_rfl) rfl rfl) fun a hf => ?_
    refine q_ hf rfl rfl rfl (e_noEscape hf (f := 94) rfl Try.func94 rfl rfl (by kernel_rfl) (by kernel_rfl)) fun a hf => ?_
    refine q_ hf rfl rfl rfl (e_fromUnsafe hf hM (k := 0) (n := 2) rfl rfl Try.underlying111 Try.underlying100 (by kernel_rfl) (by kernel_rfl)) fun a hf => ?_
    refine q_ hf rfl rfl rfl (e_nil hf rfl) fun a hf => ?_
    refine q_ hf rfl rfl rfl (e_field hf rfl Try.underlying102 rfl Try.sizeOf100 (o' := 0) rfl) fun a hf => ?_
    refine pl_0 hf rfl rfl (w_store hf hM (us := [vP b2 0]) (cs' := [vP b2 0, vL A5 (b1) c6]) rfl rfl (k := 0) rfl rfl Try.sizeOf100 rfl rfl rfl fun w7 hM => ?_)
    dsimp only [List.set] at hM
    refine pl_nil ?_
    obtain rfl := some_inj h
    exact leave0n hf rfl ⟨(vP b2 0), A5, c6, rfl, hM.fin, (AddrOk.self _)⟩
  · refine wp_seq ?_
    refine region_pl ?_
    refine q_ hf rfl rfl rfl (e_move hf rfl) fun a hf => ?_
    refine q_ hf rfl rfl rfl (e_nil hf rfl) fun a hf => ?_
    refine q_ hf rfl rfl rfl (e_field hf rfl Try.underlying102 rfl Try.sizeOf100 (o' := 0) rfl) fun a hf => ?_
    refine q_ hf rfl rfl rfl (e_load1 hf rfl Try.isAgg100 (hM.boxCell (k := 0) rfl rfl)) fun a hf => ?_
    refine q_ hf rfl rfl rfl (e_eqPS hf rfl rfl Try.underlying100) fun a hf => ?_
    refine pl_nil ?_
    refine then_n ?_
    refine cond_f hf rfl rfl ?_
    refine wp_seq ?_
    refine region_pl ?_
    refine q_ hf rfl rfl rfl (e_move hf rfl) fun a hf => ?_
    refine q_ hf rfl rfl rfl (e_nil hf rfl) fun a hf => ?_
    refine q_ hf rfl rfl rfl (e_field hf rfl Try.underlying102 rfl Try.sizeOf100 (o' := 0) rfl) fun a hf => ?_
    refine q_ hf rfl rfl rfl (e_load1 hf rfl Try.isAgg100 (hM.boxCell (k := 0) rfl rfl)) fun a hf => ?_
    refine q_ hf rfl rfl rfl (e_move hf rfl) fun a hf => ?_
    refine q_ hf rfl rfl rfl (e_nePS hf (n := 2) rfl rfl Try.underlying100 (by kernel_rfl)) fun a hf => ?_
    refine pl_nil ?_
    refine then_n ?_
    refine cond_f hf rfl rfl ?_
    refine wp_skip ?_
    obtain rfl := some_inj h
    exact leave0n hf rfl ⟨(vP b2 0), A5, c6, rfl, hM.fin, (AddrOk.self _)⟩

set_option maxRecDepth 100000 in
set_option maxHeartbeats 4000000 in
theorem r_strings_Builder_WriteByte (C : Cx) (b1 : Str) (b2 : Nat) (p3 : Value) (hp4 : AddrOk b2 p3) (A5 : Option Addr) (c6 : Nat) (c7 : UInt8) (hO : Mem C C.w0 [.box b2 [p3, vL A5 (b1) c6] 102, .row byteRep A5 c6 5 b1 true] []) (hd : ∀ b, C.S0 b → ¬ ownB [.box b2 [p3, vL A5 (b1) c6] 102, .row byteRep A5 c6 5 b1 true] b) (r : (Unit × Str)) (h : m_strings_Builder_WriteByte b1 c7 = some r) :
    Calls Try.prog 85 #[vP b2 (0), vB (c7)] C.w0 fun e w => ∃ (p_1 : Value), ∃ (A_1 : Option Addr), ∃ (c_1 : Nat), e = .returned (.nilIface) ∧ Mem C w [.box b2 [p_1, vL A_1 (r.2) c_1] 102, .row byteRep A_1 c_1 5 r.2 true] [] ∧ AddrOk b2 p_1 := by
  have hM := hO
  refine enter Try.func85 rfl Try.ntmps85 rfl fun a hf => ?_
  unfold m_strings_Builder_WriteByte at h
  refine wp_seq ?_
  refine region_pl ?_
  refine q_ hf rfl rfl rfl (e_assign hf rfl) fun a hf => ?_
  refine pl_nil ?_
  refine then_n ?_
  refine wp_seq ?_
  refine region_pl ?_
  refine q_ hf rfl rfl rfl (e_move hf rfl) fun a hf => ?_
  have hM : Mem C _ ([.box b2 [p3, vL A5 (b1) c6] 102, .row byteRep A5 c6 5 b1 true] ++ []) _ := hM
  obtain ⟨y8, hz9, h⟩ := bind_some h
  refine pl_l hf rfl rfl rfl (w_call hf Try.call92 rfl (r_strings_Builder_copyCheck ⟨_, Sh C _ _, ownB _, hM.sh_lt, sub_dis, C.G, hM.g_lt, hM.g_own, hM.tabs⟩ b1 _ _ hp4 _ _ hM.sub sub_dis _ hz9) ?_)
  rintro _ w14 ⟨p10, A12, c13, rfl, hM2, hv11⟩
  obtain ⟨hM, hup16⟩ := hM.backG hM2
  dsimp only [List.cons_append, List.nil_append] at hM hup16
  clear hM2
  refine ⟨_, rfl, fun a hf => ?_⟩
  refine pl_nil ?_
  refine then_n ?_
  refine wp_seq ?_
  refine region_pl ?_
  refine q_ hf rfl rfl rfl (e_move hf rfl) fun a hf => ?_
  refine q_ hf rfl rfl rfl (e_move hf rfl) fun a hf => ?_
  refine q_ hf rfl rfl rfl (e_nil hf rfl) fun a hf => ?_
  refine q_ hf rfl rfl rfl (e_field hf rfl Try.underlying102 rfl Try.sizeOf38 (o' := 1) rfl) fun a hf => ?_
  refine q_ hf rfl rfl rfl (e_load1 hf rfl Try.isAgg38 (hM.boxCell (k := 0) rfl rfl)) fun a hf => ?_
  refine q_ hf rfl rfl rfl (e_move hf rfl) fun a hf => ?_
  refine pl_l hf rfl rfl rfl (w_slice hf hM (K := byteRep) (xs := ([c7] : Str)) (os := [.tmp 12]) Try.underlying38 ei_5 rfl rfl rfl rfl rfl ⟨⟨[vB (c7)], rfl, rfl⟩, trivial⟩ rfl fun b17 w18 hx19 hM a hf => ?_)
  obtain ⟨xs20, hz21, h⟩ := bind_some h
  refine pl_l hf rfl rfl rfl (w_append hf hM Try.underlying38 ei_5 rfl rfl rfl (k := 2) rfl (hM.srcRow (k := 0) rfl) hz21 fun A22 c23 w24 hM a hf => ?_)
  dsimp only [List.set] at hM
  refine q_ hf rfl rfl rfl (e_nil hf rfl) fun a hf => ?_
  refine q_ hf rfl rfl rfl (e_field hf rfl Try.underlying102 rfl Try.sizeOf38 (o' := 1) rfl) fun a hf => ?_
  refine pl_0 hf rfl rfl (w_store hf hM (us := [vL A22 (xs20) c23]) (cs' := [p10, vL A22 (xs20) c23]) rfl rfl (k := 1) rfl rfl Try.sizeOf38 rfl rfl rfl fun w27 hM => ?_)
  dsimp only [List.set] at hM
  refine pl_nil ?_
  refine then_n ?_
  refine wp_seq ?_
  refine region_pl ?_
  refine q_ hf rfl rfl rfl (e_assign hf rfl) fun a hf => ?_
  refine pl_nil ?_
  refine then_n ?_
  refine wp_ret ?_
  obtain rfl := some_inj h
  have hM := hM.front (k := 2) rfl
  dsimp only [List.eraseIdx] at hM
  have hM := hM.front (k := 2) rfl
  dsimp only [List.eraseIdx] at hM
  have hM := hM.outs (own' := [.box b2 [p10, vL A22 (xs20) c23] 102, .row byteRep A22 c23 5 xs20 true]) 2 rfl
  exact leave1 hf rfl rfl ⟨p10, A22, c23, rfl, hM.fin, hv11⟩

set_option maxRecDepth 100000 in
set_option maxHeartbeats 4000000 in
theorem r_strings_Builder_String (C : Cx) (b1 : Str) (b2 : Nat) (p3 : Value) (hp4 : AddrOk b2 p3) (A5 : Option Addr) (c6 : Nat) (hO : Mem C C.w0 [.box b2 [p3, vL A5 (b1) c6] 102, .row byteRep A5 c6 5 b1 true] []) (hd : ∀ b, C.S0 b → ¬ ownB [.box b2 [p3, vL A5 (b1) c6] 102, .row byteRep A5 c6 5 b1 true] b) (r : Str) (h : m_strings_Builder_String b1 = some r) :
    Calls Try.prog 87 #[vP b2 (0)] C.w0 fun e w => e = .returned (vS (r)) ∧ Mem C w [] [] ∧ r.length ≤ maxLen := by
  have hM := hO
  refine enter Try.func87 rfl Try.ntmps87 rfl fun a hf => ?_
  unfold m_strings_Builder_String at h
  refine wp_seq ?_
  refine region_pl ?_
  refine q_ hf rfl rfl rfl (e_assign hf rfl) fun a hf => ?_
  refine pl_nil ?_
  refine then_n ?_
  refine wp_seq ?_
  obtain ⟨w7, hw⟩ : ∃ x, x = C.w0.drew := ⟨_, rfl⟩
  refine region_pi (.q 0 (.q 1 (.q 2 (.q 3 (.q 5 (.q 6 (.q 7 (.q 8 (.q 9 (.l 4 (.l 10 (.q 11 (.nil))))))))))))) (Ext w7) rfl (by kernel_rfl) ?_
  have hM := hM.drew
  rw [← hw] at hM ⊢
  clear hw
  refine pi_q hf rfl rfl rfl rfl (Ext.refl _) (e_move hf rfl) fun a hf => ?_
  refine pi_q hf rfl rfl rfl rfl (Ext.refl _) (e_nil hf rfl) fun a hf => ?_
  refine pi_q hf rfl rfl rfl rfl (Ext.refl _) (e_field hf rfl Try.underlying102 rfl Try.sizeOf38 (o' := 1) rfl) fun a hf => ?_
  refine pi_q hf rfl rfl rfl rfl (Ext.refl _) (e_load1 hf rfl Try.isAgg38 (hM.boxCell (k := 0) rfl rfl)) fun a hf => ?_
  refine pi_q hf rfl rfl rfl rfl (Ext.refl _) (e_move hf rfl) fun a hf => ?_
  refine pi_q hf rfl rfl rfl rfl (Ext.refl _) (e_nil hf rfl) fun a hf => ?_
  refine pi_q hf rfl rfl rfl rfl (Ext.refl _) (e_field hf rfl Try.underlying102 rfl Try.sizeOf38 (o' := 1) rfl) fun a hf => ?_
  refine pi_q hf rfl rfl rfl rfl (Ext.refl _) (e_load1 hf rfl Try.isAgg38 (hM.boxCell (k := 0) rfl rfl)) fun a hf => ?_
  have hl8 := row_len (hM.ownAt (k := 1) rfl)
  refine pi_q hf rfl rfl rfl rfl (Ext.refl _) (e_lenL hf (x := b1) rfl Try.underlying38) fun a hf => ?_
  refine pi_one ?_
  refine pi_l hf rfl rfl rfl rfl (w_sliceData hf hM (k := 1) rfl rfl Try.underlying110 fun q9 w10 hx11 hM hq12 => ⟨Ext w10, fun _ h => Ext.trans hx11 h, Ext.refl _, fun a hf => ?_⟩)
  refine pi_one ?_
  have hl14 := row_len (hM.ownAt (k := 1) rfl)
  refine pi_z hf rfl rfl rfl rfl (by kernel_rfl) (w_unsafeString hf hM (k := 1) rfl hq12 rfl rfl Try.underlying110 (by kernel_rfl) fun w13 hM a hf => ?_)
  dsimp only [List.eraseIdx] at hM
  refine pi_q hf rfl rfl rfl rfl (Ext.refl _) (e_assign hf rfl) fun a hf => ?_
  refine pi_nil ?_
  refine then_n ?_
  refine wp_ret ?_
  obtain rfl := some_inj h
  have hM := hM.outs (own' := []) 0 rfl
  exact leave1 hf rfl rfl ⟨rfl, hM.fin, hl14⟩

set_option maxRecDepth 100000 in
set_option maxHeartbeats 4000000 in
theorem r_impl_counts_pile (C : Cx) (c1 : (List Int)) (hp2 : ArrOk 27 c1) (r : Str) (h : m_impl_counts_pile c1 = some r) :
    Calls Try.prog 72 #[.agg (arrV c1).toArray] C.w0 fun e w => e = .returned (vS (r)) ∧ Mem C w [] [] ∧ r.length ≤ maxLen := by
  have hM := Mem.begin C [] trivial
  refine enter Try.func72 rfl Try.ntmps72 rfl fun a hf => ?_
  unfold m_impl_counts_pile at h
  refine wp_seq ?_
  refine region_pl ?_
  refine pl_l hf rfl rfl rfl (w_box hf hM (cs := arrV c1) rfl rfl fun b3 w4 hx5 hM a hf => ?_)
  refine q_ hf rfl rfl rfl (e_assign hf rfl) fun a hf => ?_
  refine pl_nil ?_
  refine then_n ?_
  refine wp_seq ?_
  refine region_pl ?_
  refine pl_l hf rfl rfl rfl (w_alloc hM (cs := [.pointer none, vL none (([] : Str)) 0]) Try.zeroValue102 rfl fun b7 w8 hx9 hM a hf => ?_)
  have hM := hM.nilRow byteRep 5
  refine pl_nil ?_
  refine then_n ?_
  obtain ⟨x16, h17, h⟩ := bind_some h
  refine seq_join (fun a w => ∃ (xs13 : Str) (p11 : Value) (A14 : Option Addr) (c15 : Nat), xs13 = x16 ∧ Has 20 a [(3, vP b7 (0))] ∧ Mem C w [.row byteRep A14 c15 5 xs13 true, .box b7 [p11, vL A14 (xs13) c15] 102, .box b3 (arrV c1) 80] [] ∧ AddrOk b7 p11) ?_ ?_
  · refine wp_seq ?_
    refine region_pl ?_
    refine q_ hf rfl rfl rfl (e_loadA hf (us := arrV c1) rfl ⟨Try.isAgg80, Try.sizeOf80⟩ (arr_len hp2) (hM.boxSub (k := 2) (us := arrV c1) (o := 0) rfl (arr_all _))) fun a hf => ?_
    refine q_ hf rfl rfl rfl (e_move hf rfl) fun a hf => ?_
    refine pl_nil ?_
    refine then_n ?_
    refine wp_block ?_
    obtain ⟨x31, h32, h17⟩ := bind_some h17
    refine wp_loopM h32 (fun s a w => ∃ (xs20 : Str) (n23 : Int) (p18 : Value) (A21 : Option Addr) (c22 : Nat), (xs20, n23) = s ∧ Has 20 a [(3, vP b7 (0)), (6, .agg (arrV c1).toArray), (7, vI (n23))] ∧ Mem C w [.row byteRep A21 c22 5 xs20 true, .box b7 [p18, vL A21 (xs20) c22] 102, .box b3 (arrV c1) 80] [] ∧ AddrOk b7 p18 ∧ R64 n23) ?_ ?_
    · exact ⟨([] : Str), 0, (.pointer none), none, 0, rfl, hf.keep ⟨rfl, rfl, rfl, trivial⟩, hM.pick [] rfl, (AddrOk.nil _), (R64_lit rfl)⟩
    · rintro s o33 a w25 ⟨xs20, n23, p18, A21, c22, rfl, hf, hM, hv19, hv24⟩ h34 hd35
      replace h34 : m_impl_counts_pile_l1 c1 xs20 n23 = some o33 := h34
      unfold m_impl_counts_pile_l1 at h34
      refine wp_seq ?_
      refine region_pl ?_
      refine q_ hf rfl rfl rfl (e_lt hf (x := n23) (y := 27) rfl rfl) fun a hf => ?_
      refine pl_nil ?_
      refine then_n ?_
      refine wp_seq ?_
      rcases cond_some h34 with ⟨hc36, h34⟩ | ⟨hc36, h34⟩
      · refine cond_t hf rfl hc36 ?_
        refine wp_skip ?_
        refine then_n ?_
        obtain ⟨x42, h43, h34⟩ := bind_some h34
        refine seq_join (fun a w => ∃ (xs39 : Str) (p37 : Value) (A40 : Option Addr) (c41 : Nat), xs39 = x42 ∧ Has 20 a [(3, vP b7 (0)), (6, .agg (arrV c1).toArray), (7, vI (n23))] ∧ Mem C w [.row byteRep A40 c41 5 xs39 true, .box b7 [p37, vL A40 (xs39) c41] 102, .box b3 (arrV c1) 80] [] ∧ AddrOk b7 p37) ?_ ?_
        · refine wp_block ?_
          refine wp_seq ?_
          refine region_pl ?_
          refine q_ hf rfl rfl rfl (e_move hf rfl) fun a hf => ?_
          obtain ⟨n44, hz45, h43⟩ := bind_some h43
          refine q_ hf rfl rfl rfl (e_indexArr hf hp2 rfl rfl Try.underlying80 Try.isAgg3 Try.sizeOf3 hz45) fun a hf => ?_
          refine q_ hf rfl rfl rfl (e_assign hf rfl) fun a hf => ?_
          refine q_ hf rfl rfl rfl (e_assign hf rfl) fun a hf => ?_
          refine pl_nil ?_
          refine then_n ?_
          refine wp_block ?_
          obtain ⟨x59, h60, h43⟩ := bind_some h43
          refine wp_loopM h60 (fun s a w => ∃ (xs48 : Str) (n51 : Int) (p46 : Value) (A49 : Option Addr) (c50 : Nat), (xs48, n51) = s ∧ Has 20 a [(3, vP b7 (0)), (4, vI (n23)), (5, vI (n51)), (6, .agg (arrV c1).toArray), (7, vI (n23))] ∧ Mem C w [.row byteRep A49 c50 5 xs48 true, .box b7 [p46, vL A49 (xs48) c50] 102, .box b3 (arrV c1) 80] [] ∧ AddrOk b7 p46 ∧ R64 n51) ?_ ?_
          · exact ⟨xs20, n44, p18, A21, c22, rfl, hf.keep ⟨rfl, rfl, rfl, rfl, rfl, trivial⟩, hM.pick [] rfl, hv19, (arr_R hp2 hz45)⟩
          · rintro s o61 a w53 ⟨xs48, n51, p46, A49, c50, rfl, hf, hM, hv47, hv52⟩ h62 hd63
            replace h62 : m_impl_counts_pile_l2 n23 xs48 n51 = some o61 := h62
            unfold m_impl_counts_pile_l2 at h62
            refine wp_seq ?_
            refine wp_seq ?_
            refine region_pl ?_
            refine q_ hf rfl rfl rfl (e_move hf rfl) fun a hf => ?_
            refine q_ hf rfl rfl rfl (e_gt hf (x := n51) (y := 0) rfl rfl) fun a hf => ?_
            refine pl_nil ?_
            refine then_n ?_
            rcases cond_some h62 with ⟨hc64, h62⟩ | ⟨hc64, h62⟩
            · refine cond_t hf rfl hc64 ?_
              refine wp_skip ?_
              refine then_n ?_
              refine wp_seq ?_
              refine wp_block ?_
              refine region_pl ?_
              refine q_ hf rfl rfl rfl (e_move hf rfl) fun a hf => ?_
              obtain ⟨y65, hz66, h62⟩ := bind_some h62
              refine pl_l hf rfl rfl rfl (w_call hf Try.call86 rfl (r_impl_tileAt ⟨_, Sh C _ _, none_, hM.sh_lt, none_not, C.G, hM.g_lt, g_none, hM.tabs⟩ n23 hv24 _ hz66) ?_)
              rintro _ w67 ⟨rfl, hM2⟩
              obtain ⟨hM, hx68, hup69⟩ := hM.back hM2
              dsimp only [List.cons_append, List.nil_append] at hM hup69
              clear hM2
              refine ⟨_, rfl, fun a hf => ?_⟩
              have hM := hM.front (k := 0) rfl
              dsimp only [List.eraseIdx] at hM
              have hM := hM.front (k := 1) rfl
              dsimp only [List.eraseIdx] at hM
              have hM : Mem C _ ([.box b7 [p46, vL A49 (xs48) c50] 102, .row byteRep A49 c50 5 xs48 true] ++ [.box b3 (arrV c1) 80]) _ := hM
              obtain ⟨y70, hz71, h62⟩ := bind_some h62
              refine pl_l hf rfl rfl rfl (w_call hf Try.call85 rfl (r_strings_Builder_WriteByte ⟨_, Sh C _ _, ownB _, hM.sh_lt, sub_dis, C.G, hM.g_lt, hM.g_own, hM.tabs⟩ xs48 _ _ hv47 _ _ y65 hM.sub sub_dis _ hz71) ?_)
              rintro _ w76 ⟨p72, A74, c75, rfl, hM2, hv73⟩
              obtain ⟨hM, hup78⟩ := hM.backG hM2
              dsimp only [List.cons_append, List.nil_append] at hM hup78
              clear hM2
              refine ⟨_, rfl, fun a hf => ?_⟩
              refine pl_nil ?_
              refine blk_n ?_
              refine then_n ?_
              refine region_pl ?_
              refine q_ hf rfl rfl rfl (e_move hf rfl) fun a hf => ?_
              obtain ⟨z79, hz80, h62⟩ := bind_some h62
              refine q_ hf rfl rfl rfl (e_sub hf rfl rfl hz80) fun a hf => ?_
              refine q_ hf rfl rfl rfl (e_assign hf rfl) fun a hf => ?_
              refine pl_nil ?_
              obtain rfl := some_inj h62
              refine then_n ⟨_, rfl, ?_⟩
              have hM := hM.front (k := 2) rfl
              dsimp only [List.eraseIdx] at hM
              have hM := hM.front (k := 1) rfl
              dsimp only [List.eraseIdx] at hM
              have hM := hM.front (k := 2) rfl
              dsimp only [List.eraseIdx] at hM
              exact ⟨y70.2, z79, p72, A74, c75, rfl, hf.keep ⟨rfl, rfl, rfl, rfl, rfl, trivial⟩, hM.pick [] rfl, hv73, (chk_R hz80)⟩
            · refine cond_f hf rfl hc64 ?_
              refine wp_exit ?_
              refine then_x ?_
              obtain rfl := some_inj h62
              obtain rfl := hd63 _ rfl
              try dsimp only at h43
              refine then_x ?_
              refine exit_hit ?_
              refine blk_n ?_
              obtain rfl := some_inj h43
              refine then_n ?_
              exact ⟨xs48, p46, A49, c50, rfl, hf.keep ⟨rfl, rfl, rfl, trivial⟩, hM.pick [] rfl, hv47⟩
        · rintro a w86 ⟨xs39, p37, A40, c41, rfl, hf, hM, hv38⟩
          try dsimp only at h34
          refine region_pl ?_
          obtain ⟨z87, hz88, h34⟩ := bind_some h34
          refine q_ hf rfl rfl rfl (e_add hf rfl rfl hz88) fun a hf => ?_
          refine q_ hf rfl rfl rfl (e_move hf rfl) fun a hf => ?_
          refine pl_nil ?_
          obtain rfl := some_inj h34
          refine then_n ⟨_, rfl, ?_⟩
          exact ⟨xs39, z87, p37, A40, c41, rfl, hf.keep ⟨rfl, rfl, rfl, trivial⟩, hM.pick [] rfl, hv38, (chk_R hz88)⟩
      · refine cond_f hf rfl hc36 ?_
        refine wp_exit ?_
        refine then_x ?_
        obtain rfl := some_inj h34
        obtain rfl := hd35 _ rfl
        try dsimp only at h17
        refine then_x ?_
        refine exit_hit ?_
        obtain rfl := some_inj h17
        refine then_n ?_
        exact ⟨xs20, p18, A21, c22, rfl, hf.keep ⟨rfl, trivial⟩, hM.pick [] rfl, hv19⟩
  · rintro a w94 ⟨xs13, p11, A14, c15, rfl, hf, hM, hv12⟩
    try dsimp only at h
    refine wp_seq ?_
    refine region_pl ?_
    have hM := hM.front (k := 0) rfl
    dsimp only [List.eraseIdx] at hM
    have hM := hM.front (k := 1) rfl
    dsimp only [List.eraseIdx] at hM
    have hM : Mem C _ ([.box b7 [p11, vL A14 (xs13) c15] 102, .row byteRep A14 c15 5 xs13 true] ++ [.box b3 (arrV c1) 80]) _ := hM
    obtain ⟨y95, hz96, h⟩ := bind_some h
    refine pl_l hf rfl rfl rfl (w_call hf Try.call87 rfl (r_strings_Builder_String ⟨_, Sh C _ _, ownB _, hM.sh_lt, sub_dis, C.G, hM.g_lt, hM.g_own, hM.tabs⟩ xs13 _ _ hv12 _ _ hM.sub sub_dis _ hz96) ?_)
    rintro _ w98 ⟨rfl, hM2, hv97⟩
    obtain ⟨hM, hup100⟩ := hM.backG hM2
    dsimp only [List.cons_append, List.nil_append] at hM hup100
    clear hM2
    refine ⟨_, rfl, fun a hf => ?_⟩
    refine q_ hf rfl rfl rfl (e_assign hf rfl) fun a hf => ?_
    refine pl_nil ?_
    refine then_n ?_
    refine wp_ret ?_
    obtain rfl := some_inj h
    have hM := hM.outs (own' := []) 0 rfl
    exact leave1 hf rfl rfl ⟨rfl, hM.fin, hv97⟩

set_option maxRecDepth 100000 in
set_option maxHeartbeats 4000000 in
theorem r_impl_without (C : Cx) (a1 : Str) (hp2 : a1.length ≤ maxLen) (b3 : Str) (hp4 : b3.length ≤ maxLen) (r : (Str × Bool)) (h : m_impl_without a1 b3 = some r) :
    Calls Try.prog 50 #[vS (a1), vS (b3)] C.w0 fun e w => e = .returned (.tuple #[vS (r.1), .bool (r.2)]) ∧ Mem C w [] [] ∧ r.1.length ≤ maxLen := by
  have hM := Mem.begin C [] trivial
  refine enter Try.func50 rfl Try.ntmps50 rfl fun a hf => ?_
  unfold m_impl_without at h
  refine wp_seq ?_
  refine region_pl ?_
  refine q_ hf rfl rfl rfl (e_assign hf rfl) fun a hf => ?_
  refine q_ hf rfl rfl rfl (e_assign hf rfl) fun a hf => ?_
  refine pl_nil ?_
  refine then_n ?_
  refine wp_seq ?_
  refine region_pl ?_
  refine q_ hf rfl rfl rfl (e_move hf rfl) fun a hf => ?_
  obtain ⟨y5, hz6, h⟩ := bind_some h
  refine pl_l hf rfl rfl rfl (w_call hf Try.call64 rfl (r_impl_countsOf ⟨_, Sh C _ _, none_, hM.sh_lt, none_not, C.G, hM.g_lt, g_none, hM.tabs⟩ a1 hp2 _ hz6) ?_)
  rintro _ w8 ⟨rfl, hM2, hv7⟩
  obtain ⟨hM, hx9, hup10⟩ := hM.back hM2
  dsimp only [List.cons_append, List.nil_append] at hM hup10
  clear hM2
  refine ⟨_, rfl, fun a hf => ?_⟩
  refine q_ hf rfl rfl rfl (e_move hf rfl) fun a hf => ?_
  obtain ⟨y11, hz12, h⟩ := bind_some h
  refine pl_l hf rfl rfl rfl (w_call hf Try.call64 rfl (r_impl_countsOf ⟨_, Sh C _ _, none_, hM.sh_lt, none_not, C.G, hM.g_lt, g_none, hM.tabs⟩ b3 hp4 _ hz12) ?_)
  rintro _ w14 ⟨rfl, hM2, hv13⟩
  obtain ⟨hM, hx15, hup16⟩ := hM.back hM2
  dsimp only [List.cons_append, List.nil_append] at hM hup16
  clear hM2
  refine ⟨_, rfl, fun a hf => ?_⟩
  obtain ⟨y17, hz18, h⟩ := bind_some h
  refine pl_l hf rfl rfl rfl (w_call hf Try.call71 rfl (r_impl_counts_less ⟨_, Sh C _ _, none_, hM.sh_lt, none_not, C.G, hM.g_lt, g_none, hM.tabs⟩ y5 hv7 y11 hv13 _ hz18) ?_)
  rintro _ w20 ⟨rfl, hM2, hv19⟩
  obtain ⟨hM, hx21, hup22⟩ := hM.back hM2
  dsimp only [List.cons_append, List.nil_append] at hM hup22
  clear hM2
  refine ⟨_, rfl, fun a hf => ?_⟩
  refine q_ hf rfl rfl rfl (e_move hf rfl) fun a hf => ?_
  refine q_ hf rfl rfl rfl (e_extract hf rfl rfl) fun a hf => ?_
  refine q_ hf rfl rfl rfl (e_extract hf rfl rfl) fun a hf => ?_
  refine pl_l hf rfl rfl rfl (w_alloc hM (cs := arrV (List.replicate 27 (0 : Int))) Try.zeroValue80 rfl fun b23 w24 hx25 hM a hf => ?_)
  refine pl_0 hf rfl rfl (w_storeArr hf hM rfl rfl (k := 0) rfl (arr_zero 27) hv19 Try.sizeOf80 fun w27 hM => ?_)
  dsimp only [List.set] at hM
  refine q_ hf rfl rfl rfl (e_assign hf rfl) fun a hf => ?_
  refine pl_nil ?_
  refine then_n ?_
  refine wp_seq ?_
  refine region_pl ?_
  refine q_ hf rfl rfl rfl (e_loadA hf (us := arrV y17.1) rfl ⟨Try.isAgg80, Try.sizeOf80⟩ (arr_len hv19) (hM.boxSub (k := 0) (us := arrV y17.1) (o := 0) rfl (arr_all _))) fun a hf => ?_
  obtain ⟨y28, hz29, h⟩ := bind_some h
  refine pl_l hf rfl rfl rfl (w_call hf Try.call72 rfl (r_impl_counts_pile ⟨_, Sh C _ _, none_, hM.sh_lt, none_not, C.G, hM.g_lt, g_none, hM.tabs⟩ y17.1 hv19 _ hz29) ?_)
  rintro _ w31 ⟨rfl, hM2, hv30⟩
  obtain ⟨hM, hx32, hup33⟩ := hM.back hM2
  dsimp only [List.cons_append, List.nil_append] at hM hup33
  clear hM2
  refine ⟨_, rfl, fun a hf => ?_⟩
  refine q_ hf rfl rfl rfl (e_move hf rfl) fun a hf => ?_
  refine q_ hf rfl rfl rfl (e_assign hf rfl) fun a hf => ?_
  refine q_ hf rfl rfl rfl (e_assign hf rfl) fun a hf => ?_
  refine pl_nil ?_
  refine then_n ?_
  refine wp_ret ?_
  obtain rfl := some_inj h
  have hM := hM.outs (own' := []) 0 rfl
  exact leave2 hf rfl rfl rfl ⟨rfl, hM.fin, hv30⟩

end Go.Proofs.Ytgmbcolpchckbaa
