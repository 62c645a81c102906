/- The functions that this law reaches do what their models say. Printed by gen.py. -/
import Derived.Test.YtgmbcolpchckbaaMod
namespace Go.Proofs.Ytgmbcolpchckbaa
open Go Go.RowKit
set_option linter.unusedSimpArgs false
set_option linter.unusedVariables false

def FnC_Int_Drawn_to_Int (fk : FuncId) (fc : List Value) (f : Int → Drawn → Option Int) (C : Cx) : Prop := ∀ (x0 : Int) (hp1 : R64 x0) (x1 : Drawn) (hp2 : x1.Tiles.length ≤ maxLen) (hp3 : R64 x1.Ways) (r : Int) (h : f x0 x1 = some r),
    Calls Try.prog fk (([vI (x0), .agg #[vS (x1.Tiles), vI (x1.Ways)]] : List Value) ++ fc).toArray C.w0 fun e w => e = .returned (vI (r)) ∧ Mem C w [] [] ∧ R64 r

theorem ei_5 : ElemInfo Try.prog 5 1 := elemInfo (by kernel_rfl)

theorem ei_9 : ElemInfo Try.prog 9 1 := elemInfo (by kernel_rfl)

theorem ei_47 : ElemInfo Try.prog 47 2 := elemInfo (by kernel_rfl)

theorem bp_47 : ∀ (fs : Array Field), some (TypeDesc.struct fs) = Try.prog.underlying 47 → ∀ w, (fs.mapM fun (f : Field) => do pure (f.offset, ← sizeOf f.type)).run Try.prog w = .ok #[(0, 1), (1, 1)] w := by
  intro fs h w
  rw [Try.underlying47] at h
  cases h
  simp

theorem bp_86 : ∀ (fs : Array Field), some (TypeDesc.struct fs) = Try.prog.underlying 86 → ∀ w, (fs.mapM fun (f : Field) => do pure (f.offset, ← sizeOf f.type)).run Try.prog w = .ok #[(0, 1), (1, 1), (2, 1)] w := by
  intro fs h w
  rw [Try.underlying86] at h
  cases h
  simp

set_option maxRecDepth 100000 in
set_option maxHeartbeats 4000000 in
theorem r_laws_a2Long (C : Cx) (code1 : Str) (A2 : Option Addr) (c3 : Nat) (hp4 : (sliceRep byteRep).R C.w0 C.S0 code1 [vL A2 code1 c3]) (more5 : Str) (A6 : Option Addr) (c7 : Nat) (hp8 : (sliceRep byteRep).R C.w0 C.S0 more5 [vL A6 more5 c7]) (r : Bool) (h : m_laws_a2Long code1 more5 = some r) :
    Calls Try.prog 18 #[vL A2 (code1) c3, vL A6 (more5) c7] C.w0 fun e w => e = .returned (.bool (r)) ∧ Mem C w [] [] := by
  have hM := Mem.begin C [.dat (sliceRep byteRep) more5 [vL A6 more5 c7], .dat (sliceRep byteRep) code1 [vL A2 code1 c3]] ⟨hp8, hp4, trivial⟩
  refine enter Try.func18 rfl Try.ntmps18 rfl fun a hf => ?_
  unfold m_laws_a2Long at h
  refine wp_seq ?_
  refine region_pl ?_
  refine q_ hf rfl rfl rfl (e_assign hf rfl) fun a hf => ?_
  refine pl_nil ?_
  refine then_n ?_
  obtain ⟨x11, h12, h⟩ := bind_some h
  refine seq_join (fun a w => ∃ (t9 : Bool), t9 = x11 ∧ Has 13 a [(4, .bool (t9))] ∧ Mem C w [] [.dat (sliceRep byteRep) more5 [vL A6 more5 c7], .dat (sliceRep byteRep) code1 [vL A2 code1 c3]]) ?_ ?_
  · refine region_pl ?_
    refine q_ hf rfl rfl rfl (e_move hf rfl) fun a hf => ?_
    have hl13 := slice_len (hM.dat (k := 1) rfl)
    refine q_ hf rfl rfl rfl (e_lenL hf (x := code1) rfl Try.underlying38) fun a hf => ?_
    refine q_ hf rfl rfl rfl (e_gt hf (x := (code1.length : Int)) (y := 3000) rfl rfl) fun a hf => ?_
    refine q_ hf rfl rfl rfl (e_move hf rfl) fun a hf => ?_
    rcases cond_some h12 with ⟨hc14, h12⟩ | ⟨hc14, h12⟩
    · refine pl_gs (wanted_f hf rfl rfl rfl rfl hc14) hf rfl rfl fun a hf => ?_
      refine pl_gs (wanted_f hf rfl rfl rfl rfl hc14) hf rfl rfl fun a hf => ?_
      refine pl_gs (wanted_f hf rfl rfl rfl rfl hc14) hf rfl rfl fun a hf => ?_
      refine q_ hf rfl rfl rfl (e_pick_t hf rfl hc14 rfl) fun a hf => ?_
      refine q_ hf rfl rfl rfl (e_assign hf rfl) fun a hf => ?_
      refine pl_nil ?_
      obtain rfl := some_inj h12
      refine then_n ?_
      exact ⟨true, rfl, hf.keep ⟨rfl, trivial⟩, hM.pick [0, 1] rfl⟩
    · refine gq (wanted_t hf rfl rfl rfl rfl hc14) hf rfl rfl (e_move hf rfl) fun a hf => ?_
      have hl16 := slice_len (hM.dat (k := 0) rfl)
      refine gq (wanted_t hf rfl rfl rfl rfl hc14) hf rfl rfl (e_lenL hf (x := more5) rfl Try.underlying38) fun a hf => ?_
      refine gq (wanted_t hf rfl rfl rfl rfl hc14) hf rfl rfl (e_gt hf (x := (more5.length : Int)) (y := 3000) rfl rfl) fun a hf => ?_
      refine q_ hf rfl rfl rfl (e_pick_f hf rfl hc14 rfl) fun a hf => ?_
      refine q_ hf rfl rfl rfl (e_assign hf rfl) fun a hf => ?_
      refine pl_nil ?_
      obtain rfl := some_inj h12
      refine then_n ?_
      exact ⟨(decide (3000 < (more5.length : Int))), rfl, hf.keep ⟨rfl, trivial⟩, hM.pick [0, 1] rfl⟩
  · rintro a w18 ⟨t9, rfl, hf, hM⟩
    try dsimp only at h
    refine wp_ret ?_
    obtain rfl := some_inj h
    exact leave1 hf rfl rfl ⟨rfl, hM.fin⟩

set_option maxRecDepth 100000 in
set_option maxHeartbeats 4000000 in
theorem r_spec_l00From (C : Cx) (code1 : Str) (A2 : Option Addr) (c3 : Nat) (hp4 : (sliceRep byteRep).R C.w0 C.S0 code1 [vL A2 code1 c3]) (r : l00Src) (h : m_spec_l00From code1 = some r) :
    Calls Try.prog 42 #[vL A2 (code1) c3] C.w0 fun e w => ∃ (b_1 : Nat), ∃ (A_1 : Option Addr), ∃ (c_1 : Nat), e = .returned (vP b_1 (0)) ∧ Mem C w [.box b_1 [vL A_1 (r.code) c_1, vI (r.at_), vW (r.seed)] 86] [] ∧ (sliceRep byteRep).R w (Sh C [.box b_1 [vL A_1 (r.code) c_1, vI (r.at_), vW (r.seed)] 86] w) r.code [vL A_1 r.code c_1] ∧ R64 r.at_ ∧ U64 r.seed := by
  have hM := Mem.begin C [.dat (sliceRep byteRep) code1 [vL A2 code1 c3]] ⟨hp4, trivial⟩
  refine enter Try.func42 rfl Try.ntmps42 rfl fun a hf => ?_
  unfold m_spec_l00From at h
  refine wp_seq ?_
  refine region_pl ?_
  refine q_ hf rfl rfl rfl (e_assign hf rfl) fun a hf => ?_
  refine pl_nil ?_
  refine then_n ?_
  refine wp_seq ?_
  refine region_pl ?_
  refine q_ hf rfl rfl rfl (e_move hf rfl) fun a hf => ?_
  refine q_ hf rfl rfl rfl (e_build hf Try.zeroValue86 Try.underlying86 (bp_86 _ Try.underlying86.symm) rfl (cs := #[vL A2 (code1) c3, vI (0), vW (0)]) (by kernel_rfl)) fun a hf => ?_
  refine pl_l hf rfl rfl rfl (w_box hf hM (cs := [vL A2 (code1) c3, vI (0), vW (0)]) rfl rfl fun b5 w6 hx7 hM a hf => ?_)
  refine q_ hf rfl rfl rfl (e_assign hf rfl) fun a hf => ?_
  refine pl_nil ?_
  refine then_n ?_
  refine wp_ret ?_
  obtain rfl := some_inj h
  exact leave1 hf rfl rfl ⟨b5, A2, c3, rfl, hM.fin, (hM.dat (k := 0) rfl), (R64_lit rfl), (U64_lit rfl)⟩

set_option maxRecDepth 100000 in
set_option maxHeartbeats 4000000 in
theorem r_spec_l00Src_next (C : Cx) (s1 : l00Src) (b2 : Nat) (A3 : Option Addr) (c4 : Nat) (hp5 : (sliceRep byteRep).R C.w0 C.S0 s1.code [vL A3 s1.code c4]) (hp6 : R64 s1.at_) (hp7 : U64 s1.seed) (hO : Mem C C.w0 [.box b2 [vL A3 (s1.code) c4, vI (s1.at_), vW (s1.seed)] 86] []) (hd : ∀ b, C.S0 b → ¬ ownB [.box b2 [vL A3 (s1.code) c4, vI (s1.at_), vW (s1.seed)] 86] b) (r : (Int × l00Src)) (h : m_spec_l00Src_next s1 = some r) :
    Calls Try.prog 84 #[vP b2 (0)] C.w0 fun e w => ∃ (A_1 : Option Addr), ∃ (c_1 : Nat), e = .returned (vI (r.1)) ∧ Mem C w [.box b2 [vL A_1 (r.2.code) c_1, vI (r.2.at_), vW (r.2.seed)] 86] [] ∧ (sliceRep byteRep).R w (Sh C [.box b2 [vL A_1 (r.2.code) c_1, vI (r.2.at_), vW (r.2.seed)] 86] w) r.2.code [vL A_1 r.2.code c_1] ∧ R64 r.2.at_ ∧ U64 r.2.seed ∧ R64 r.1 := by
  have hM := hO
  have hM := hM.addIn hd (y := .dat (sliceRep byteRep) s1.code [vL A3 s1.code c4]) hp5
  refine enter Try.func84 rfl Try.ntmps84 rfl fun a hf => ?_
  unfold m_spec_l00Src_next at h
  refine wp_seq ?_
  refine region_pl ?_
  refine q_ hf rfl rfl rfl (e_assign hf rfl) fun a hf => ?_
  refine pl_nil ?_
  refine then_n ?_
  refine wp_seq ?_
  refine region_pl ?_
  refine q_ hf rfl rfl rfl (e_assign hf rfl) fun a hf => ?_
  refine pl_nil ?_
  refine then_n ?_
  obtain ⟨x10, h11, h⟩ := bind_some h
  refine seq_join (fun a w => ∃ (n8 : Int), n8 = x10 ∧ Has 62 a [(0, vP b2 (0)), (3, vI (n8))] ∧ Mem C w [.box b2 [vL A3 (s1.code) c4, vI (s1.at_), vW (s1.seed)] 86] [.dat (sliceRep byteRep) s1.code [vL A3 s1.code c4]] ∧ R64 n8) ?_ ?_
  · refine wp_seq ?_
    obtain ⟨w12, hw⟩ : ∃ x, x = C.w0.drew := ⟨_, rfl⟩
    refine region_pi (.q 0 (.q 1 (.q 2 (.q 3 (.q 4 (.q 5 (.q 6 (.q 7 (.q 8 (.q 9 (.nil))))))))))) (Ext w12) rfl (by kernel_rfl) ?_
    have hM := hM.drew
    rw [← hw] at hM ⊢
    clear hw
    refine pi_q hf rfl rfl rfl rfl (Ext.refl _) (e_move hf rfl) fun a hf => ?_
    refine pi_q hf rfl rfl rfl rfl (Ext.refl _) (e_nil hf rfl) fun a hf => ?_
    refine pi_q hf rfl rfl rfl rfl (Ext.refl _) (e_field hf rfl Try.underlying86 rfl Try.sizeOf3 (o' := 1) rfl) fun a hf => ?_
    refine pi_q hf rfl rfl rfl rfl (Ext.refl _) (e_load1 hf rfl Try.isAgg3 (hM.boxCell (k := 0) rfl rfl)) fun a hf => ?_
    refine pi_q hf rfl rfl rfl rfl (Ext.refl _) (e_move hf rfl) fun a hf => ?_
    refine pi_q hf rfl rfl rfl rfl (Ext.refl _) (e_nil hf rfl) fun a hf => ?_
    refine pi_q hf rfl rfl rfl rfl (Ext.refl _) (e_field hf rfl Try.underlying86 rfl Try.sizeOf38 (o' := 0) rfl) fun a hf => ?_
    refine pi_q hf rfl rfl rfl rfl (Ext.refl _) (e_load1 hf rfl Try.isAgg38 (hM.boxCell (k := 0) rfl rfl)) fun a hf => ?_
    have hl13 := slice_len (hM.dat (k := 0) rfl)
    refine pi_q hf rfl rfl rfl rfl (Ext.refl _) (e_lenL hf (x := s1.code) rfl Try.underlying38) fun a hf => ?_
    refine pi_q hf rfl rfl rfl rfl (Ext.refl _) (e_lt hf (x := s1.at_) (y := (s1.code.length : Int)) rfl rfl) fun a hf => ?_
    refine pi_nil ?_
    refine then_n ?_
    rcases cond_some h11 with ⟨hc14, h11⟩ | ⟨hc14, h11⟩
    · refine cond_t hf rfl hc14 ?_
      obtain ⟨w15, hw⟩ : ∃ x, x = w12.drew := ⟨_, rfl⟩
      refine region_pi (.q 0 (.q 1 (.q 2 (.q 3 (.q 4 (.q 5 (.q 6 (.q 7 (.q 8 (.q 9 (.q 10 (.q 11 (.nil))))))))))))) (Ext w15) rfl (by kernel_rfl) ?_
      have hM := hM.drew
      rw [← hw] at hM ⊢
      clear hw
      refine pi_q hf rfl rfl rfl rfl (Ext.refl _) (e_move hf rfl) fun a hf => ?_
      refine pi_q hf rfl rfl rfl rfl (Ext.refl _) (e_nil hf rfl) fun a hf => ?_
      refine pi_q hf rfl rfl rfl rfl (Ext.refl _) (e_field hf rfl Try.underlying86 rfl Try.sizeOf38 (o' := 0) rfl) fun a hf => ?_
      refine pi_q hf rfl rfl rfl rfl (Ext.refl _) (e_load1 hf rfl Try.isAgg38 (hM.boxCell (k := 0) rfl rfl)) fun a hf => ?_
      refine pi_q hf rfl rfl rfl rfl (Ext.refl _) (e_move hf rfl) fun a hf => ?_
      refine pi_q hf rfl rfl rfl rfl (Ext.refl _) (e_nil hf rfl) fun a hf => ?_
      refine pi_q hf rfl rfl rfl rfl (Ext.refl _) (e_field hf rfl Try.underlying86 rfl Try.sizeOf3 (o' := 1) rfl) fun a hf => ?_
      refine pi_q hf rfl rfl rfl rfl (Ext.refl _) (e_load1 hf rfl Try.isAgg3 (hM.boxCell (k := 0) rfl rfl)) fun a hf => ?_
      obtain ⟨e16, hz17, h11⟩ := bind_some h11
      obtain ⟨b21, o22, _, hA23, h18, h19, hr20, hM⟩ := hM.elem (hM.dat (k := 0) rfl) (n := 1) rfl hz17
      obtain rfl : _ = _ := hr20
      refine pi_q hf rfl rfl rfl rfl (Ext.refl _) (e_indexAddr (A := A3) (b := b21) (o := o22) (xs := s1.code) (i := s1.at_) hf hA23 rfl rfl Try.underlying38 Try.sizeOf5 h18 h19) fun a hf => ?_
      refine pi_q hf rfl rfl rfl rfl (Ext.refl _) (e_load1 hf rfl Try.isAgg5 (hM.litCell (k := 0) (j := 0) rfl rfl rfl)) fun a hf => ?_
      refine pi_q hf rfl rfl rfl rfl (Ext.refl _) (e_convBI hf (x := e16) rfl Try.underlying5 Try.underlying3) fun a hf => ?_
      refine pi_q hf rfl rfl rfl rfl (Ext.refl _) (e_assign hf rfl) fun a hf => ?_
      refine pi_nil ?_
      obtain rfl := some_inj h11
      refine then_n ?_
      exact ⟨(e16.toNat : Int), rfl, hf.keep ⟨rfl, rfl, trivial⟩, hM.pick [1] rfl, (R64_byte _)⟩
    · refine cond_f hf rfl hc14 ?_
      refine wp_skip ?_
      obtain rfl := some_inj h11
      refine then_n ?_
      exact ⟨0, rfl, hf.keep ⟨rfl, rfl, trivial⟩, hM.pick [0] rfl, (R64_lit rfl)⟩
  · rintro a w26 ⟨n8, rfl, hf, hM, hv9⟩
    try dsimp only at h
    refine wp_seq ?_
    refine region_pl ?_
    refine q_ hf rfl rfl rfl (e_move hf rfl) fun a hf => ?_
    refine q_ hf rfl rfl rfl (e_nil hf rfl) fun a hf => ?_
    refine q_ hf rfl rfl rfl (e_field hf rfl Try.underlying86 rfl Try.sizeOf3 (o' := 1) rfl) fun a hf => ?_
    refine q_ hf rfl rfl rfl (e_load1 hf rfl Try.isAgg3 (hM.boxCell (k := 0) rfl rfl)) fun a hf => ?_
    obtain ⟨z27, hz28, h⟩ := bind_some h
    refine q_ hf rfl rfl rfl (e_add hf rfl rfl hz28) fun a hf => ?_
    refine q_ hf rfl rfl rfl (e_nil hf rfl) fun a hf => ?_
    refine q_ hf rfl rfl rfl (e_field hf rfl Try.underlying86 rfl Try.sizeOf3 (o' := 1) rfl) fun a hf => ?_
    refine pl_0 hf rfl rfl (w_store hf hM (us := [vI (z27)]) (cs' := [vL A3 (s1.code) c4, vI (z27), vW (s1.seed)]) rfl rfl (k := 0) rfl rfl Try.sizeOf3 rfl rfl rfl fun w29 hM => ?_)
    dsimp only [List.set] at hM
    refine pl_nil ?_
    refine then_n ?_
    refine wp_seq ?_
    refine region_pl ?_
    refine q_ hf rfl rfl rfl (e_move hf rfl) fun a hf => ?_
    refine q_ hf rfl rfl rfl (e_move hf rfl) fun a hf => ?_
    refine q_ hf rfl rfl rfl (e_nil hf rfl) fun a hf => ?_
    refine q_ hf rfl rfl rfl (e_field hf rfl Try.underlying86 rfl Try.sizeOf84 (o' := 2) rfl) fun a hf => ?_
    refine q_ hf rfl rfl rfl (e_load1 hf rfl Try.isAgg84 (hM.boxCell (k := 0) rfl rfl)) fun a hf => ?_
    refine q_ hf rfl rfl rfl (e_mulW hf rfl rfl) fun a hf => ?_
    refine q_ hf rfl rfl rfl (e_move hf rfl) fun a hf => ?_
    refine q_ hf rfl rfl rfl (e_convIW hf rfl Try.underlying3 Try.underlying84) fun a hf => ?_
    refine q_ hf rfl rfl rfl (e_addW hf rfl rfl) fun a hf => ?_
    refine q_ hf rfl rfl rfl (e_addW hf rfl rfl) fun a hf => ?_
    refine q_ hf rfl rfl rfl (e_nil hf rfl) fun a hf => ?_
    refine q_ hf rfl rfl rfl (e_field hf rfl Try.underlying86 rfl Try.sizeOf84 (o' := 2) rfl) fun a hf => ?_
    refine pl_0 hf rfl rfl (w_store hf hM (us := [vW ((((((s1.seed * 6364136223846793005) % 18446744073709551616) + (n8 % 18446744073709551616)) % 18446744073709551616) + 1442695040888963407) % 18446744073709551616)]) (cs' := [vL A3 (s1.code) c4, vI (z27), vW ((((((s1.seed * 6364136223846793005) % 18446744073709551616) + (n8 % 18446744073709551616)) % 18446744073709551616) + 1442695040888963407) % 18446744073709551616)]) rfl rfl (k := 0) rfl rfl Try.sizeOf84 rfl rfl rfl fun w32 hM => ?_)
    dsimp only [List.set] at hM
    refine pl_nil ?_
    refine then_n ?_
    refine wp_seq ?_
    refine wp_seq ?_
    obtain ⟨w35, hw⟩ : ∃ x, x = w32.drew := ⟨_, rfl⟩
    refine region_pi (.q 0 (.q 1 (.q 2 (.q 3 (.q 4 (.q 5 (.q 6 (.q 7 (.q 8 (.q 9 (.nil))))))))))) (Ext w35) rfl (by kernel_rfl) ?_
    have hM := hM.drew
    rw [← hw] at hM ⊢
    clear hw
    refine pi_q hf rfl rfl rfl rfl (Ext.refl _) (e_move hf rfl) fun a hf => ?_
    refine pi_q hf rfl rfl rfl rfl (Ext.refl _) (e_nil hf rfl) fun a hf => ?_
    refine pi_q hf rfl rfl rfl rfl (Ext.refl _) (e_field hf rfl Try.underlying86 rfl Try.sizeOf3 (o' := 1) rfl) fun a hf => ?_
    refine pi_q hf rfl rfl rfl rfl (Ext.refl _) (e_load1 hf rfl Try.isAgg3 (hM.boxCell (k := 0) rfl rfl)) fun a hf => ?_
    refine pi_q hf rfl rfl rfl rfl (Ext.refl _) (e_move hf rfl) fun a hf => ?_
    refine pi_q hf rfl rfl rfl rfl (Ext.refl _) (e_nil hf rfl) fun a hf => ?_
    refine pi_q hf rfl rfl rfl rfl (Ext.refl _) (e_field hf rfl Try.underlying86 rfl Try.sizeOf38 (o' := 0) rfl) fun a hf => ?_
    refine pi_q hf rfl rfl rfl rfl (Ext.refl _) (e_load1 hf rfl Try.isAgg38 (hM.boxCell (k := 0) rfl rfl)) fun a hf => ?_
    have hl36 := slice_len (hM.dat (k := 0) rfl)
    refine pi_q hf rfl rfl rfl rfl (Ext.refl _) (e_lenL hf (x := s1.code) rfl Try.underlying38) fun a hf => ?_
    refine pi_q hf rfl rfl rfl rfl (Ext.refl _) (e_le hf (x := z27) (y := (s1.code.length : Int)) rfl rfl) fun a hf => ?_
    refine pi_nil ?_
    refine then_n ?_
    rcases cond_some h with ⟨hc37, h⟩ | ⟨hc37, h⟩
    · refine cond_t hf rfl hc37 ?_
      refine wp_seq ?_
      refine region_pl ?_
      refine q_ hf rfl rfl rfl (e_move hf rfl) fun a hf => ?_
      refine q_ hf rfl rfl rfl (e_assign hf rfl) fun a hf => ?_
      refine pl_nil ?_
      refine then_n ?_
      refine wp_ret ?_
      refine then_r ?_
      obtain rfl := some_inj h
      exact leave1 hf rfl rfl ⟨A3, c4, rfl, hM.fin, (hM.dat (k := 0) rfl), (chk_R hz28), (U64_mod _), hv9⟩
    · refine cond_f hf rfl hc37 ?_
      refine wp_skip ?_
      refine then_n ?_
      refine wp_seq ?_
      refine region_pl ?_
      refine q_ hf rfl rfl rfl (e_move hf rfl) fun a hf => ?_
      refine q_ hf rfl rfl rfl (e_nil hf rfl) fun a hf => ?_
      refine q_ hf rfl rfl rfl (e_field hf rfl Try.underlying86 rfl Try.sizeOf84 (o' := 2) rfl) fun a hf => ?_
      refine q_ hf rfl rfl rfl (e_load1 hf rfl Try.isAgg84 (hM.boxCell (k := 0) rfl rfl)) fun a hf => ?_
      refine q_ hf rfl rfl rfl (e_shrW hf (k := 40) rfl rfl rfl rfl (m := 1099511627776) rfl (U64_mod _)) fun a hf => ?_
      refine q_ hf rfl rfl rfl (e_andW hf (k := 8) rfl rfl rfl rfl (m := 256) rfl (U64_div (U64_mod _) (by decide))) fun a hf => ?_
      obtain ⟨z38, hz39, h⟩ := bind_some h
      refine q_ hf rfl rfl rfl (e_convWI hf rfl Try.underlying84 Try.underlying2 hz39) fun a hf => ?_
      refine q_ hf rfl rfl rfl (e_assign hf rfl) fun a hf => ?_
      refine pl_nil ?_
      refine then_n ?_
      refine wp_ret ?_
      obtain rfl := some_inj h
      exact leave1 hf rfl rfl ⟨A3, c4, rfl, hM.fin, (hM.dat (k := 0) rfl), (chk_R hz28), (U64_mod _), (chk_R hz39)⟩

set_option maxRecDepth 100000 in
set_option maxHeartbeats 4000000 in
theorem r_spec_l00Src_pick (C : Cx) (s1 : l00Src) (b2 : Nat) (A3 : Option Addr) (c4 : Nat) (hp5 : (sliceRep byteRep).R C.w0 C.S0 s1.code [vL A3 s1.code c4]) (hp6 : R64 s1.at_) (hp7 : U64 s1.seed) (n8 : Int) (hp9 : R64 n8) (hO : Mem C C.w0 [.box b2 [vL A3 (s1.code) c4, vI (s1.at_), vW (s1.seed)] 86] []) (hd : ∀ b, C.S0 b → ¬ ownB [.box b2 [vL A3 (s1.code) c4, vI (s1.at_), vW (s1.seed)] 86] b) (r : (Int × l00Src)) (h : m_spec_l00Src_pick s1 n8 = some r) :
    Calls Try.prog 67 #[vP b2 (0), vI (n8)] C.w0 fun e w => ∃ (A_1 : Option Addr), ∃ (c_1 : Nat), e = .returned (vI (r.1)) ∧ Mem C w [.box b2 [vL A_1 (r.2.code) c_1, vI (r.2.at_), vW (r.2.seed)] 86] [] ∧ (sliceRep byteRep).R w (Sh C [.box b2 [vL A_1 (r.2.code) c_1, vI (r.2.at_), vW (r.2.seed)] 86] w) r.2.code [vL A_1 r.2.code c_1] ∧ R64 r.2.at_ ∧ U64 r.2.seed ∧ R64 r.1 := by
  have hM := hO
  have hM := hM.addIn hd (y := .dat (sliceRep byteRep) s1.code [vL A3 s1.code c4]) hp5
  refine enter Try.func67 rfl Try.ntmps67 rfl fun a hf => ?_
  unfold m_spec_l00Src_pick at h
  refine wp_seq ?_
  refine region_pl ?_
  refine q_ hf rfl rfl rfl (e_assign hf rfl) fun a hf => ?_
  refine pl_nil ?_
  refine then_n ?_
  refine wp_seq ?_
  refine wp_seq ?_
  refine region_pl ?_
  refine q_ hf rfl rfl rfl (e_move hf rfl) fun a hf => ?_
  refine q_ hf rfl rfl rfl (e_le hf (x := n8) (y := 1) rfl rfl) fun a hf => ?_
  refine pl_nil ?_
  refine then_n ?_
  rcases cond_some h with ⟨hc10, h⟩ | ⟨hc10, h⟩
  · refine cond_t hf rfl hc10 ?_
    refine wp_seq ?_
    refine region_pl ?_
    refine q_ hf rfl rfl rfl (e_assign hf rfl) fun a hf => ?_
    refine pl_nil ?_
    refine then_n ?_
    refine wp_ret ?_
    refine then_r ?_
    obtain rfl := some_inj h
    exact leave1 hf rfl rfl ⟨A3, c4, rfl, hM.fin, (hM.dat (k := 0) rfl), hp6, hp7, (R64_lit rfl)⟩
  · refine cond_f hf rfl hc10 ?_
    refine wp_skip ?_
    refine then_n ?_
    refine wp_seq ?_
    refine region_pl ?_
    refine q_ hf rfl rfl rfl (e_move hf rfl) fun a hf => ?_
    have hM : Mem C _ ([.box b2 [vL A3 (s1.code) c4, vI (s1.at_), vW (s1.seed)] 86] ++ []) _ := hM
    obtain ⟨y11, hz12, h⟩ := bind_some h
    refine pl_l hf rfl rfl rfl (w_call hf Try.call84 rfl (r_spec_l00Src_next ⟨_, Sh C _ _, ownB _, hM.sh_lt, sub_dis, C.G, hM.g_lt, hM.g_own, hM.tabs⟩ s1 _ _ _ (hM.dat (k := 0) rfl) hp6 hp7 hM.sub sub_dis _ hz12) ?_)
    rintro _ w19 ⟨A13, c14, rfl, hM2, hv15, hv16, hv17, hv18⟩
    obtain ⟨hM, hup21⟩ := hM.backG hM2
    dsimp only [List.cons_append, List.nil_append] at hM hup21
    clear hM2
    have hM := hM.add (y := .dat (sliceRep byteRep) y11.2.code [vL A13 y11.2.code c14]) (hup21 hv15)
    refine ⟨_, rfl, fun a hf => ?_⟩
    refine q_ hf rfl rfl rfl (e_assign hf rfl) fun a hf => ?_
    refine pl_nil ?_
    refine then_n ?_
    obtain ⟨x31, h32, h⟩ := bind_some h
    refine seq_join (fun a w => ∃ (l22 : Str) (n25 : Int) (n27 : Int) (n29 : Int) (A23 : Option Addr) (c24 : Nat), (l22, n25, n27, n29) = x31 ∧ Has 20 a [(1, vI (n8)), (5, vI (n29))] ∧ Mem C w [.box b2 [vL A23 (l22) c24, vI (n25), vW (n27)] 86] [.dat (sliceRep byteRep) l22 [vL A23 l22 c24], .dat (sliceRep byteRep) y11.2.code [vL A13 y11.2.code c14], .dat (sliceRep byteRep) s1.code [vL A3 s1.code c4]] ∧ R64 n25 ∧ U64 n27 ∧ R64 n29) ?_ ?_
    · refine wp_seq ?_
      refine region_pl ?_
      refine q_ hf rfl rfl rfl (e_move hf rfl) fun a hf => ?_
      refine q_ hf rfl rfl rfl (e_gt hf (x := n8) (y := 200) rfl rfl) fun a hf => ?_
      refine pl_nil ?_
      refine then_n ?_
      rcases cond_some h32 with ⟨hc33, h32⟩ | ⟨hc33, h32⟩
      · refine cond_t hf rfl hc33 ?_
        refine region_pl ?_
        refine q_ hf rfl rfl rfl (e_move hf rfl) fun a hf => ?_
        obtain ⟨z34, hz35, h32⟩ := bind_some h32
        refine q_ hf rfl rfl rfl (e_mul hf rfl rfl hz35) fun a hf => ?_
        refine q_ hf rfl rfl rfl (e_move hf rfl) fun a hf => ?_
        have hM : Mem C _ ([.box b2 [vL A13 (y11.2.code) c14, vI (y11.2.at_), vW (y11.2.seed)] 86] ++ []) _ := hM
        obtain ⟨y36, hz37, h32⟩ := bind_some h32
        refine pl_l hf rfl rfl rfl (w_call hf Try.call84 rfl (r_spec_l00Src_next ⟨_, Sh C _ _, ownB _, hM.sh_lt, sub_dis, C.G, hM.g_lt, hM.g_own, hM.tabs⟩ y11.2 _ _ _ (hM.dat (k := 0) rfl) hv16 hv17 hM.sub sub_dis _ hz37) ?_)
        rintro _ w44 ⟨A38, c39, rfl, hM2, hv40, hv41, hv42, hv43⟩
        obtain ⟨hM, hup46⟩ := hM.backG hM2
        dsimp only [List.cons_append, List.nil_append] at hM hup46
        clear hM2
        have hM := hM.add (y := .dat (sliceRep byteRep) y36.2.code [vL A38 y36.2.code c39]) (hup46 hv40)
        refine ⟨_, rfl, fun a hf => ?_⟩
        obtain ⟨z47, hz48, h32⟩ := bind_some h32
        refine q_ hf rfl rfl rfl (e_add hf rfl rfl hz48) fun a hf => ?_
        refine q_ hf rfl rfl rfl (e_assign hf rfl) fun a hf => ?_
        refine pl_nil ?_
        obtain rfl := some_inj h32
        refine then_n ?_
        exact ⟨y36.2.code, y36.2.at_, y36.2.seed, z47, A38, c39, rfl, hf.keep ⟨rfl, rfl, trivial⟩, hM.pick [0, 1, 2] rfl, hv41, hv42, (chk_R hz48)⟩
      · refine cond_f hf rfl hc33 ?_
        refine wp_skip ?_
        obtain rfl := some_inj h32
        refine then_n ?_
        exact ⟨y11.2.code, y11.2.at_, y11.2.seed, y11.1, A13, c14, rfl, hf.keep ⟨rfl, rfl, trivial⟩, hM.pick [0, 0, 1] rfl, hv16, hv17, hv18⟩
    · rintro a w51 ⟨l22, n25, n27, n29, A23, c24, rfl, hf, hM, hv26, hv28, hv30⟩
      try dsimp only at h
      refine wp_seq ?_
      refine region_pl ?_
      refine q_ hf rfl rfl rfl (e_move hf rfl) fun a hf => ?_
      refine q_ hf rfl rfl rfl (e_move hf rfl) fun a hf => ?_
      obtain ⟨z52, hz53, h⟩ := bind_some h
      refine q_ hf rfl rfl rfl (e_rem hf rfl rfl hz53) fun a hf => ?_
      refine q_ hf rfl rfl rfl (e_assign hf rfl) fun a hf => ?_
      refine pl_nil ?_
      refine then_n ?_
      refine wp_ret ?_
      obtain rfl := some_inj h
      exact leave1 hf rfl rfl ⟨A23, c24, rfl, hM.fin, (hM.dat (k := 0) rfl), hv26, hv28, (remI_R hz53 hv30)⟩

set_option maxRecDepth 100000 in
set_option maxHeartbeats 4000000 in
theorem r_spec_l00Src_text (C : Cx) (s1 : l00Src) (b2 : Nat) (A3 : Option Addr) (c4 : Nat) (hp5 : (sliceRep byteRep).R C.w0 C.S0 s1.code [vL A3 s1.code c4]) (hp6 : R64 s1.at_) (hp7 : U64 s1.seed) (list8 : (List Str)) (A9 : Option Addr) (c10 : Nat) (hp11 : (sliceRep strRep).R C.w0 C.S0 list8 [vL A9 list8 c10]) (hO : Mem C C.w0 [.box b2 [vL A3 (s1.code) c4, vI (s1.at_), vW (s1.seed)] 86] []) (hd : ∀ b, C.S0 b → ¬ ownB [.box b2 [vL A3 (s1.code) c4, vI (s1.at_), vW (s1.seed)] 86] b) (r : (Str × l00Src)) (h : m_spec_l00Src_text s1 list8 = some r) :
    Calls Try.prog 68 #[vP b2 (0), vL A9 (list8) c10] C.w0 fun e w => ∃ (A_1 : Option Addr), ∃ (c_1 : Nat), e = .returned (vS (r.1)) ∧ Mem C w [.box b2 [vL A_1 (r.2.code) c_1, vI (r.2.at_), vW (r.2.seed)] 86] [] ∧ (sliceRep byteRep).R w (Sh C [.box b2 [vL A_1 (r.2.code) c_1, vI (r.2.at_), vW (r.2.seed)] 86] w) r.2.code [vL A_1 r.2.code c_1] ∧ R64 r.2.at_ ∧ U64 r.2.seed ∧ r.1.length ≤ maxLen := by
  have hM := hO
  have hM := hM.addIn hd (y := .dat (sliceRep byteRep) s1.code [vL A3 s1.code c4]) hp5
  have hM := hM.addIn hd (y := .dat (sliceRep strRep) list8 [vL A9 list8 c10]) hp11
  refine enter Try.func68 rfl Try.ntmps68 rfl fun a hf => ?_
  unfold m_spec_l00Src_text at h
  refine wp_seq ?_
  refine region_pl ?_
  refine q_ hf rfl rfl rfl (e_assign hf rfl) fun a hf => ?_
  refine pl_nil ?_
  refine then_n ?_
  refine wp_seq ?_
  refine region_pl ?_
  refine q_ hf rfl rfl rfl (e_move hf rfl) fun a hf => ?_
  refine q_ hf rfl rfl rfl (e_move hf rfl) fun a hf => ?_
  refine q_ hf rfl rfl rfl (e_move hf rfl) fun a hf => ?_
  have hl12 := slice_len (hM.dat (k := 0) rfl)
  refine q_ hf rfl rfl rfl (e_lenL hf (x := list8) rfl Try.underlying76) fun a hf => ?_
  have hM : Mem C _ ([.box b2 [vL A3 (s1.code) c4, vI (s1.at_), vW (s1.seed)] 86] ++ []) _ := hM
  obtain ⟨y13, hz14, h⟩ := bind_some h
  refine pl_l hf rfl rfl rfl (w_call hf Try.call67 rfl (r_spec_l00Src_pick ⟨_, Sh C _ _, ownB _, hM.sh_lt, sub_dis, C.G, hM.g_lt, hM.g_own, hM.tabs⟩ s1 _ _ _ (hM.dat (k := 1) rfl) hp6 hp7 (list8.length : Int) (R64_len hl12) hM.sub sub_dis _ hz14) ?_)
  rintro _ w21 ⟨A15, c16, rfl, hM2, hv17, hv18, hv19, hv20⟩
  obtain ⟨hM, hup23⟩ := hM.backG hM2
  dsimp only [List.cons_append, List.nil_append] at hM hup23
  clear hM2
  have hM := hM.add (y := .dat (sliceRep byteRep) y13.2.code [vL A15 y13.2.code c16]) (hup23 hv17)
  refine ⟨_, rfl, fun a hf => ?_⟩
  obtain ⟨e24, hz25, h⟩ := bind_some h
  obtain ⟨b29, o30, _, hA31, h26, h27, hr28, hM⟩ := hM.elem (hM.dat (k := 1) rfl) (n := 1) rfl hz25
  obtain ⟨rfl, hv32⟩ := hr28
  refine q_ hf rfl rfl rfl (e_indexAddr (A := A9) (b := b29) (o := o30) (xs := list8) (i := y13.1) hf hA31 rfl rfl Try.underlying76 Try.sizeOf9 h26 h27) fun a hf => ?_
  refine q_ hf rfl rfl rfl (e_load1 hf rfl Try.isAgg9 (hM.litCell (k := 0) (j := 0) rfl rfl rfl)) fun a hf => ?_
  refine q_ hf rfl rfl rfl (e_assign hf rfl) fun a hf => ?_
  refine pl_nil ?_
  refine then_n ?_
  refine wp_ret ?_
  obtain rfl := some_inj h
  exact leave1 hf rfl rfl ⟨A15, c16, rfl, hM.fin, (hM.dat (k := 1) rfl), hv18, hv19, hv32⟩

set_option maxRecDepth 100000 in
set_option maxHeartbeats 4000000 in
theorem r_spec_l03Sort (C : Cx) (s1 : Str) (hp2 : s1.length ≤ maxLen) (r : Str) (h : m_spec_l03Sort s1 = some r) :
    Calls Try.prog 69 #[vS (s1)] C.w0 fun e w => e = .returned (vS (r)) ∧ Mem C w [] [] ∧ r.length ≤ maxLen := by
  have hM := Mem.begin C [] trivial
  refine enter Try.func69 rfl Try.ntmps69 rfl fun a hf => ?_
  unfold m_spec_l03Sort at h
  refine wp_seq ?_
  refine region_pl ?_
  refine q_ hf rfl rfl rfl (e_assign hf rfl) fun a hf => ?_
  refine pl_nil ?_
  refine then_n ?_
  refine wp_seq ?_
  refine region_pl ?_
  refine pl_l hf rfl rfl rfl (w_slice0 (K := byteRep) hM Try.underlying38 ei_5 fun b3 w4 hx5 hM a hf => ?_)
  refine q_ hf rfl rfl rfl (e_assign hf rfl) fun a hf => ?_
  refine pl_nil ?_
  refine then_n ?_
  obtain ⟨x9, h10, h⟩ := bind_some h
  refine seq_join (fun a w => ∃ (xs6 : Str) (A7 : Option Addr) (c8 : Nat), xs6 = x9 ∧ Has 52 a [(3, vL A7 (xs6) c8)] ∧ Mem C w [.row byteRep A7 c8 5 xs6 true] []) ?_ ?_
  · refine wp_seq ?_
    refine region_pl ?_
    refine q_ hf rfl rfl rfl (e_assign hf rfl) fun a hf => ?_
    refine pl_nil ?_
    refine then_n ?_
    refine wp_block ?_
    obtain ⟨x20, h21, h10⟩ := bind_some h10
    refine wp_loopM h21 (fun s a w => ∃ (xs11 : Str) (k14 : Int) (A12 : Option Addr) (c13 : Nat), (xs11, k14) = s ∧ Has 52 a [(0, vS (s1)), (3, vL A12 (xs11) c13), (4, vI (k14))] ∧ Mem C w [.row byteRep A12 c13 5 xs11 true] [] ∧ R64 k14) ?_ ?_
    · exact ⟨([] : Str), 0, (some ⟨b3, 0, none⟩), 0, rfl, hf.keep ⟨rfl, rfl, rfl, trivial⟩, hM.pick [] rfl, (R64_lit rfl)⟩
    · rintro s o22 a w16 ⟨xs11, k14, A12, c13, rfl, hf, hM, hv15⟩ h23 hd24
      replace h23 : m_spec_l03Sort_l1 s1 xs11 k14 = some o22 := h23
      unfold m_spec_l03Sort_l1 at h23
      refine wp_seq ?_
      refine wp_seq ?_
      refine region_pl ?_
      refine q_ hf rfl rfl rfl (e_move hf rfl) fun a hf => ?_
      refine q_ hf rfl rfl rfl (e_move hf rfl) fun a hf => ?_
      refine q_ hf rfl rfl rfl (e_lenS hf (x := s1) rfl Try.underlying9) fun a hf => ?_
      refine q_ hf rfl rfl rfl (e_lt hf (x := k14) (y := (s1.length : Int)) rfl rfl) fun a hf => ?_
      refine pl_nil ?_
      refine then_n ?_
      rcases cond_some h23 with ⟨hc25, h23⟩ | ⟨hc25, h23⟩
      · refine cond_t hf rfl hc25 ?_
        refine wp_skip ?_
        refine then_n ?_
        obtain ⟨x29, h30, h23⟩ := bind_some h23
        refine seq_join (fun a w => ∃ (xs26 : Str) (A27 : Option Addr) (c28 : Nat), xs26 = x29 ∧ Has 52 a [(0, vS (s1)), (3, vL A27 (xs26) c28), (4, vI (k14))] ∧ Mem C w [.row byteRep A27 c28 5 xs26 true] []) ?_ ?_
        · refine wp_block ?_
          refine wp_seq ?_
          refine region_pl ?_
          refine q_ hf rfl rfl rfl (e_move hf rfl) fun a hf => ?_
          have hl31 := row_len (hM.ownAt (k := 0) rfl)
          refine q_ hf rfl rfl rfl (e_lenL hf (x := xs11) rfl Try.underlying38) fun a hf => ?_
          refine q_ hf rfl rfl rfl (e_assign hf rfl) fun a hf => ?_
          refine pl_nil ?_
          refine then_n ?_
          refine wp_seq ?_
          refine region_pl ?_
          refine q_ hf rfl rfl rfl (e_move hf rfl) fun a hf => ?_
          refine q_ hf rfl rfl rfl (e_move hf rfl) fun a hf => ?_
          refine q_ hf rfl rfl rfl (e_move hf rfl) fun a hf => ?_
          obtain ⟨c32, hz33, h30⟩ := bind_some h30
          refine q_ hf rfl rfl rfl (e_indexS hf (x := s1) rfl rfl Try.underlying9 hz33) fun a hf => ?_
          refine pl_l hf rfl rfl rfl (w_slice hf hM (K := byteRep) (xs := ([c32] : Str)) (os := [.tmp 18]) Try.underlying38 ei_5 rfl rfl rfl rfl rfl ⟨⟨[vB (c32)], rfl, rfl⟩, trivial⟩ rfl fun b34 w35 hx36 hM a hf => ?_)
          obtain ⟨xs37, hz38, h30⟩ := bind_some h30
          refine pl_l hf rfl rfl rfl (w_append hf hM Try.underlying38 ei_5 rfl rfl rfl (k := 1) rfl (hM.srcRow (k := 0) rfl) hz38 fun A39 c40 w41 hM a hf => ?_)
          dsimp only [List.set] at hM
          refine q_ hf rfl rfl rfl (e_assign hf rfl) fun a hf => ?_
          refine pl_nil ?_
          refine then_n ?_
          obtain ⟨x47, h48, h30⟩ := bind_some h30
          refine seq_join (fun a w => ∃ (xs44 : Str) (n45 : Int), (xs44, n45) = x47 ∧ Has 52 a [(0, vS (s1)), (3, vL A39 (xs44) c40), (4, vI (k14)), (5, vI (n45))] ∧ Mem C w [.row byteRep (some ⟨b34, 0, none⟩) 1 5 ([c32] : Str) true, .row byteRep A39 c40 5 xs44 true] [] ∧ R64 n45) ?_ ?_
          · refine wp_block ?_
            obtain ⟨x56, h57, h48⟩ := bind_some h48
            refine wp_loopM h57 (fun s a w => ∃ (xs49 : Str) (n50 : Int), (xs49, n50) = s ∧ Has 52 a [(0, vS (s1)), (3, vL A39 (xs49) c40), (4, vI (k14)), (5, vI (n50))] ∧ Mem C w [.row byteRep (some ⟨b34, 0, none⟩) 1 5 ([c32] : Str) true, .row byteRep A39 c40 5 xs49 true] [] ∧ R64 n50) ?_ ?_
            · exact ⟨xs37, (xs11.length : Int), rfl, hf.keep ⟨rfl, rfl, rfl, rfl, trivial⟩, hM.pick [] rfl, (R64_len hl31)⟩
            · rintro s o58 a w52 ⟨xs49, n50, rfl, hf, hM, hv51⟩ h59 hd60
              replace h59 : m_spec_l03Sort_l2 s1 k14 xs49 n50 = some o58 := h59
              unfold m_spec_l03Sort_l2 at h59
              refine wp_seq ?_
              obtain ⟨x63, h64, h59⟩ := bind_some h59
              refine seq_join (fun a w => ∃ (t61 : Bool), t61 = x63 ∧ Has 52 a [(0, vS (s1)), (3, vL A39 (xs49) c40), (4, vI (k14)), (5, vI (n50)), (33, .bool (t61))] ∧ Mem C w [.row byteRep (some ⟨b34, 0, none⟩) 1 5 ([c32] : Str) true, .row byteRep A39 c40 5 xs49 true] []) ?_ ?_
              · obtain ⟨w65, hw⟩ : ∃ x, x = w52.drew := ⟨_, rfl⟩
                refine region_pi (.q 0 (.q 1 (.q 2 (.q 3 (.q 4 (.q 5 (.q 6 (.q 7 (.q 8 (.q 9 (.q 10 (.q 11 (.q 12 (.nil)))))))))))))) (Ext w65) rfl (by kernel_rfl) ?_
                have hM := hM.drew
                rw [← hw] at hM ⊢
                clear hw
                refine pi_q hf rfl rfl rfl rfl (Ext.refl _) (e_move hf rfl) fun a hf => ?_
                refine pi_q hf rfl rfl rfl rfl (Ext.refl _) (e_gt hf (x := n50) (y := 0) rfl rfl) fun a hf => ?_
                refine pi_q hf rfl rfl rfl rfl (Ext.refl _) (e_move hf rfl) fun a hf => ?_
                rcases cond_some h64 with ⟨hc66, h64⟩ | ⟨hc66, h64⟩
                · refine pi_gq hf rfl (wanted_t hf rfl rfl rfl rfl hc66) rfl rfl (Ext.refl _) (e_move hf rfl) fun a hf => ?_
                  refine pi_gq hf rfl (wanted_t hf rfl rfl rfl rfl hc66) rfl rfl (Ext.refl _) (e_move hf rfl) fun a hf => ?_
                  obtain ⟨z67, hz68, h64⟩ := bind_some h64
                  refine pi_gq hf rfl (wanted_t hf rfl rfl rfl rfl hc66) rfl rfl (Ext.refl _) (e_sub hf rfl rfl hz68) fun a hf => ?_
                  obtain ⟨e69, hz70, h64⟩ := bind_some h64
                  obtain ⟨b75, _, hA76, h71, h72, hr73, hcell74⟩ := hM.rowElemN (k := 1) rfl (n := 1) rfl hz70
                  obtain rfl : _ = _ := hr73
                  refine pi_gq hf rfl (wanted_t hf rfl rfl rfl rfl hc66) rfl rfl (Ext.refl _) (e_indexAddr (A := A39) (b := b75) (o := 0) (xs := xs49) (i := z67) hf hA76 rfl rfl Try.underlying38 Try.sizeOf5 h71 h72) fun a hf => ?_
                  refine pi_gq hf rfl (wanted_t hf rfl rfl rfl rfl hc66) rfl rfl (Ext.refl _) (e_load1 hf rfl Try.isAgg5 (hcell74 0 _ rfl)) fun a hf => ?_
                  refine pi_gq hf rfl (wanted_t hf rfl rfl rfl rfl hc66) rfl rfl (Ext.refl _) (e_move hf rfl) fun a hf => ?_
                  refine pi_gq hf rfl (wanted_t hf rfl rfl rfl rfl hc66) rfl rfl (Ext.refl _) (e_move hf rfl) fun a hf => ?_
                  obtain ⟨c77, hz78, h64⟩ := bind_some h64
                  refine pi_gq hf rfl (wanted_t hf rfl rfl rfl rfl hc66) rfl rfl (Ext.refl _) (e_indexS hf (x := s1) rfl rfl Try.underlying9 hz78) fun a hf => ?_
                  refine pi_gq hf rfl (wanted_t hf rfl rfl rfl rfl hc66) rfl rfl (Ext.refl _) (e_gtB hf (x := e69) (y := c77) rfl rfl) fun a hf => ?_
                  refine pi_q hf rfl rfl rfl rfl (Ext.refl _) (e_pick_t hf rfl hc66 rfl) fun a hf => ?_
                  refine pi_nil ?_
                  obtain rfl := some_inj h64
                  refine then_n ?_
                  exact ⟨(decide (c77 < e69)), rfl, hf.keep ⟨rfl, rfl, rfl, rfl, rfl, trivial⟩, hM.pick [] rfl⟩
                · refine pi_gs hf rfl (wanted_f hf rfl rfl rfl rfl hc66) rfl rfl (Ext.refl _) fun a hf => ?_
                  refine pi_gs hf rfl (wanted_f hf rfl rfl rfl rfl hc66) rfl rfl (Ext.refl _) fun a hf => ?_
                  refine pi_gs hf rfl (wanted_f hf rfl rfl rfl rfl hc66) rfl rfl (Ext.refl _) fun a hf => ?_
                  refine pi_gs hf rfl (wanted_f hf rfl rfl rfl rfl hc66) rfl rfl (Ext.refl _) fun a hf => ?_
                  refine pi_gs hf rfl (wanted_f hf rfl rfl rfl rfl hc66) rfl rfl (Ext.refl _) fun a hf => ?_
                  refine pi_gs hf rfl (wanted_f hf rfl rfl rfl rfl hc66) rfl rfl (Ext.refl _) fun a hf => ?_
                  refine pi_gs hf rfl (wanted_f hf rfl rfl rfl rfl hc66) rfl rfl (Ext.refl _) fun a hf => ?_
                  refine pi_gs hf rfl (wanted_f hf rfl rfl rfl rfl hc66) rfl rfl (Ext.refl _) fun a hf => ?_
                  refine pi_gs hf rfl (wanted_f hf rfl rfl rfl rfl hc66) rfl rfl (Ext.refl _) fun a hf => ?_
                  refine pi_q hf rfl rfl rfl rfl (Ext.refl _) (e_pick_f hf rfl hc66 rfl) fun a hf => ?_
                  refine pi_nil ?_
                  obtain rfl := some_inj h64
                  refine then_n ?_
                  exact ⟨false, rfl, hf.keep ⟨rfl, rfl, rfl, rfl, rfl, trivial⟩, hM.pick [] rfl⟩
              · rintro a w81 ⟨t61, rfl, hf, hM⟩
                try dsimp only at h59
                rcases cond_some h59 with ⟨hc82, h59⟩ | ⟨hc82, h59⟩
                · refine cond_t hf rfl hc82 ?_
                  refine wp_skip ?_
                  refine then_n ?_
                  refine wp_block ?_
                  refine wp_seq ?_
                  refine region_pl ?_
                  refine q_ hf rfl rfl rfl (e_move hf rfl) fun a hf => ?_
                  refine q_ hf rfl rfl rfl (e_move hf rfl) fun a hf => ?_
                  refine q_ hf rfl rfl rfl (e_move hf rfl) fun a hf => ?_
                  refine q_ hf rfl rfl rfl (e_move hf rfl) fun a hf => ?_
                  obtain ⟨z83, hz84, h59⟩ := bind_some h59
                  refine q_ hf rfl rfl rfl (e_sub hf rfl rfl hz84) fun a hf => ?_
                  obtain ⟨e85, hz86, h59⟩ := bind_some h59
                  obtain ⟨b91, _, hA92, h87, h88, hr89, hcell90⟩ := hM.rowElemN (k := 1) rfl (n := 1) rfl hz86
                  obtain rfl : _ = _ := hr89
                  refine q_ hf rfl rfl rfl (e_indexAddr (A := A39) (b := b91) (o := 0) (xs := xs49) (i := z83) hf hA92 rfl rfl Try.underlying38 Try.sizeOf5 h87 h88) fun a hf => ?_
                  refine q_ hf rfl rfl rfl (e_load1 hf rfl Try.isAgg5 (hcell90 0 _ rfl)) fun a hf => ?_
                  obtain ⟨e93, hz94, h59⟩ := bind_some h59
                  obtain ⟨b99, _, hA100, h95, h96, hr97, hcell98⟩ := hM.rowElemN (k := 1) rfl (n := 1) rfl hz94
                  obtain rfl : _ = _ := hr97
                  refine q_ hf rfl rfl rfl (e_indexAddr (A := A39) (b := b99) (o := 0) (xs := xs49) (i := n50) hf hA100 rfl rfl Try.underlying38 Try.sizeOf5 h95 h96) fun a hf => ?_
                  obtain ⟨xs102, hz103, h59⟩ := bind_some h59
                  refine pl_0 hf rfl rfl (w_storeElem hf hM (x := e85) (row := [vB (e85)]) (i := n50) rfl rfl rfl hA100 (k := 1) rfl rfl Try.sizeOf5 rfl hz103 fun w101 hM => ?_)
                  dsimp only [List.set] at hM
                  have hf := hf.alter (d := 3) (v := vL A39 (xs102) c40) rfl (vL_len (setL_len hz103))
                  have hf := hf.alter (d := 34) (v := vL A39 (xs102) c40) rfl (vL_len (setL_len hz103))
                  have hf := hf.alter (d := 36) (v := vL A39 (xs102) c40) rfl (vL_len (setL_len hz103))
                  refine pl_nil ?_
                  refine then_n ?_
                  refine region_pl ?_
                  refine q_ hf rfl rfl rfl (e_move hf rfl) fun a hf => ?_
                  obtain ⟨z104, hz105, h59⟩ := bind_some h59
                  refine q_ hf rfl rfl rfl (e_sub hf rfl rfl hz105) fun a hf => ?_
                  refine q_ hf rfl rfl rfl (e_assign hf rfl) fun a hf => ?_
                  refine pl_nil ?_
                  refine blk_n ?_
                  obtain rfl := some_inj h59
                  refine then_n ⟨_, rfl, ?_⟩
                  exact ⟨xs102, z104, rfl, hf.keep ⟨rfl, rfl, rfl, rfl, trivial⟩, hM.pick [] rfl, (chk_R hz105)⟩
                · refine cond_f hf rfl hc82 ?_
                  refine wp_exit ?_
                  refine then_x ?_
                  obtain rfl := some_inj h59
                  obtain rfl := hd60 _ rfl
                  try dsimp only at h48
                  refine then_x ?_
                  refine exit_hit ?_
                  obtain rfl := some_inj h48
                  refine then_n ?_
                  exact ⟨xs49, n50, rfl, hf.keep ⟨rfl, rfl, rfl, rfl, trivial⟩, hM.pick [] rfl, hv51⟩
          · rintro a w111 ⟨xs44, n45, rfl, hf, hM, hv46⟩
            try dsimp only at h30
            refine region_pl ?_
            refine q_ hf rfl rfl rfl (e_move hf rfl) fun a hf => ?_
            refine q_ hf rfl rfl rfl (e_move hf rfl) fun a hf => ?_
            refine q_ hf rfl rfl rfl (e_move hf rfl) fun a hf => ?_
            refine q_ hf rfl rfl rfl (e_move hf rfl) fun a hf => ?_
            obtain ⟨c112, hz113, h30⟩ := bind_some h30
            refine q_ hf rfl rfl rfl (e_indexS hf (x := s1) rfl rfl Try.underlying9 hz113) fun a hf => ?_
            obtain ⟨e114, hz115, h30⟩ := bind_some h30
            obtain ⟨b120, _, hA121, h116, h117, hr118, hcell119⟩ := hM.rowElemN (k := 1) rfl (n := 1) rfl hz115
            obtain rfl : _ = _ := hr118
            refine q_ hf rfl rfl rfl (e_indexAddr (A := A39) (b := b120) (o := 0) (xs := xs44) (i := n45) hf hA121 rfl rfl Try.underlying38 Try.sizeOf5 h116 h117) fun a hf => ?_
            obtain ⟨xs123, hz124, h30⟩ := bind_some h30
            refine pl_0 hf rfl rfl (w_storeElem hf hM (x := c112) (row := [vB (c112)]) (i := n45) rfl rfl rfl hA121 (k := 1) rfl rfl Try.sizeOf5 rfl hz124 fun w122 hM => ?_)
            dsimp only [List.set] at hM
            have hf := hf.alter (d := 3) (v := vL A39 (xs123) c40) rfl (vL_len (setL_len hz124))
            have hf := hf.alter (d := 44) (v := vL A39 (xs123) c40) rfl (vL_len (setL_len hz124))
            refine pl_nil ?_
            refine blk_n ?_
            obtain rfl := some_inj h30
            refine then_n ?_
            exact ⟨xs123, A39, c40, rfl, hf.keep ⟨rfl, rfl, rfl, trivial⟩, (hM.drop (.cons _ (.cons_cons _ .slnil))).pick [] rfl⟩
        · rintro a w126 ⟨xs26, A27, c28, rfl, hf, hM⟩
          try dsimp only at h23
          refine region_pl ?_
          refine q_ hf rfl rfl rfl (e_move hf rfl) fun a hf => ?_
          obtain ⟨z127, hz128, h23⟩ := bind_some h23
          refine q_ hf rfl rfl rfl (e_add hf rfl rfl hz128) fun a hf => ?_
          refine q_ hf rfl rfl rfl (e_assign hf rfl) fun a hf => ?_
          refine pl_nil ?_
          obtain rfl := some_inj h23
          refine then_n ⟨_, rfl, ?_⟩
          exact ⟨xs26, z127, A27, c28, rfl, hf.keep ⟨rfl, rfl, rfl, trivial⟩, hM.pick [] rfl, (chk_R hz128)⟩
      · refine cond_f hf rfl hc25 ?_
        refine wp_exit ?_
        refine then_x ?_
        obtain rfl := some_inj h23
        obtain rfl := hd24 _ rfl
        try dsimp only at h10
        refine then_x ?_
        refine exit_hit ?_
        obtain rfl := some_inj h10
        refine then_n ?_
        exact ⟨xs11, A12, c13, rfl, hf.keep ⟨rfl, trivial⟩, hM.pick [] rfl⟩
  · rintro a w134 ⟨xs6, A7, c8, rfl, hf, hM⟩
    try dsimp only at h
    refine wp_seq ?_
    refine region_pl ?_
    refine q_ hf rfl rfl rfl (e_move hf rfl) fun a hf => ?_
    have hl135 := row_len (hM.ownAt (k := 0) rfl)
    refine q_ hf rfl rfl rfl (e_bytesStr hf (xs := xs6) rfl Try.underlying38 Try.underlying5 Try.underlying9 (hM.lendRow (k := 0) rfl)) fun a hf => ?_
    refine q_ hf rfl rfl rfl (e_assign hf rfl) fun a hf => ?_
    refine pl_nil ?_
    refine then_n ?_
    refine wp_ret ?_
    obtain rfl := some_inj h
    have hM := hM.outs (own' := []) 0 rfl
    exact leave1 hf rfl rfl ⟨rfl, hM.fin, hl135⟩

set_option maxRecDepth 100000 in
set_option maxHeartbeats 4000000 in
theorem r_spec_l03Draw (C : Cx) (s1 : l00Src) (b2 : Nat) (A3 : Option Addr) (c4 : Nat) (hp5 : (sliceRep byteRep).R C.w0 C.S0 s1.code [vL A3 s1.code c4]) (hp6 : R64 s1.at_) (hp7 : U64 s1.seed) (most8 : Int) (hp9 : R64 most8) (hO : Mem C C.w0 [.box b2 [vL A3 (s1.code) c4, vI (s1.at_), vW (s1.seed)] 86] []) (hd : ∀ b, C.S0 b → ¬ ownB [.box b2 [vL A3 (s1.code) c4, vI (s1.at_), vW (s1.seed)] 86] b) (r : (Str × l00Src)) (h : m_spec_l03Draw s1 most8 = some r) :
    Calls Try.prog 43 #[vP b2 (0), vI (most8)] C.w0 fun e w => ∃ (A_1 : Option Addr), ∃ (c_1 : Nat), e = .returned (vS (r.1)) ∧ Mem C w [.box b2 [vL A_1 (r.2.code) c_1, vI (r.2.at_), vW (r.2.seed)] 86] [] ∧ (sliceRep byteRep).R w (Sh C [.box b2 [vL A_1 (r.2.code) c_1, vI (r.2.at_), vW (r.2.seed)] 86] w) r.2.code [vL A_1 r.2.code c_1] ∧ R64 r.2.at_ ∧ U64 r.2.seed ∧ r.1.length ≤ maxLen := by
  have hM := hO
  have hM := hM.addIn hd (y := .dat (sliceRep byteRep) s1.code [vL A3 s1.code c4]) hp5
  refine enter Try.func43 rfl Try.ntmps43 rfl fun a hf => ?_
  unfold m_spec_l03Draw at h
  refine wp_seq ?_
  refine region_pl ?_
  refine q_ hf rfl rfl rfl (e_assign hf rfl) fun a hf => ?_
  refine pl_nil ?_
  refine then_n ?_
  refine wp_seq ?_
  refine region_pl ?_
  refine q_ hf rfl rfl rfl (e_assign hf rfl) fun a hf => ?_
  refine pl_nil ?_
  refine then_n ?_
  obtain ⟨x19, h20, h⟩ := bind_some h
  refine seq_join (fun a w => ∃ (l10 : Str) (n13 : Int) (n15 : Int) (s17 : Str) (A11 : Option Addr) (c12 : Nat), (l10, n13, n15, s17) = x19 ∧ Has 22 a [(5, vS (s17))] ∧ Mem C w [.box b2 [vL A11 (l10) c12, vI (n13), vW (n15)] 86] [.dat (sliceRep byteRep) l10 [vL A11 l10 c12], .dat (sliceRep byteRep) s1.code [vL A3 s1.code c4]] ∧ R64 n13 ∧ U64 n15 ∧ s17.length ≤ maxLen) ?_ ?_
  · refine wp_seq ?_
    refine region_pl ?_
    refine q_ hf rfl rfl rfl (e_move hf rfl) fun a hf => ?_
    refine q_ hf rfl rfl rfl (e_move hf rfl) fun a hf => ?_
    obtain ⟨z21, hz22, h20⟩ := bind_some h20
    refine q_ hf rfl rfl rfl (e_add hf rfl rfl hz22) fun a hf => ?_
    have hM : Mem C _ ([.box b2 [vL A3 (s1.code) c4, vI (s1.at_), vW (s1.seed)] 86] ++ []) _ := hM
    obtain ⟨y23, hz24, h20⟩ := bind_some h20
    refine pl_l hf rfl rfl rfl (w_call hf Try.call67 rfl (r_spec_l00Src_pick ⟨_, Sh C _ _, ownB _, hM.sh_lt, sub_dis, C.G, hM.g_lt, hM.g_own, hM.tabs⟩ s1 _ _ _ (hM.dat (k := 0) rfl) hp6 hp7 z21 (chk_R hz22) hM.sub sub_dis _ hz24) ?_)
    rintro _ w31 ⟨A25, c26, rfl, hM2, hv27, hv28, hv29, hv30⟩
    obtain ⟨hM, hup33⟩ := hM.backG hM2
    dsimp only [List.cons_append, List.nil_append] at hM hup33
    clear hM2
    have hM := hM.add (y := .dat (sliceRep byteRep) y23.2.code [vL A25 y23.2.code c26]) (hup33 hv27)
    refine ⟨_, rfl, fun a hf => ?_⟩
    refine q_ hf rfl rfl rfl (e_assign hf rfl) fun a hf => ?_
    refine pl_nil ?_
    refine then_n ?_
    refine wp_block ?_
    obtain ⟨x55, h56, h20⟩ := bind_some h20
    refine wp_loopM h56 (fun s a w => ∃ (l34 : Str) (n37 : Int) (n39 : Int) (s41 : Str) (n43 : Int) (A35 : Option Addr) (c36 : Nat), (l34, n37, n39, s41, n43) = s ∧ Has 22 a [(0, vP b2 (0)), (5, vS (s41)), (6, vI (n43))] ∧ Mem C w [.box b2 [vL A35 (l34) c36, vI (n37), vW (n39)] 86] [.dat (sliceRep byteRep) l34 [vL A35 l34 c36], .dat (sliceRep byteRep) y23.2.code [vL A25 y23.2.code c26], .dat (sliceRep byteRep) s1.code [vL A3 s1.code c4]] ∧ R64 n37 ∧ U64 n39 ∧ s41.length ≤ maxLen ∧ R64 n43) ?_ ?_
    · exact ⟨y23.2.code, y23.2.at_, y23.2.seed, ([] : Str), y23.1, A25, c26, rfl, hf.keep ⟨rfl, rfl, rfl, trivial⟩, hM.pick [0, 0, 1] rfl, hv28, hv29, (lit_len rfl), hv30⟩
    · rintro s o57 a w45 ⟨l34, n37, n39, s41, n43, A35, c36, rfl, hf, hM, hv38, hv40, hv42, hv44⟩ h58 hd59
      replace h58 : m_spec_l03Draw_l1 l34 n37 n39 s41 n43 = some o57 := h58
      unfold m_spec_l03Draw_l1 at h58
      refine wp_seq ?_
      refine wp_seq ?_
      refine region_pl ?_
      refine q_ hf rfl rfl rfl (e_move hf rfl) fun a hf => ?_
      refine q_ hf rfl rfl rfl (e_gt hf (x := n43) (y := 0) rfl rfl) fun a hf => ?_
      refine pl_nil ?_
      refine then_n ?_
      rcases cond_some h58 with ⟨hc60, h58⟩ | ⟨hc60, h58⟩
      · refine cond_t hf rfl hc60 ?_
        refine wp_skip ?_
        refine then_n ?_
        refine wp_seq ?_
        refine wp_block ?_
        refine region_pl ?_
        refine q_ hf rfl rfl rfl (e_move hf rfl) fun a hf => ?_
        refine q_ hf rfl rfl rfl (e_move hf rfl) fun a hf => ?_
        refine pl_l hf rfl rfl rfl (w_slice hf hM (K := strRep) (xs := ([([97] : Str), ([101] : Str), ([101] : Str), ([110] : Str), ([114] : Str), ([115] : Str), ([116] : Str), ([98] : Str), ([63] : Str)] : (List Str))) (os := [.const (.string ⟨#[97]⟩), .const (.string ⟨#[101]⟩), .const (.string ⟨#[101]⟩), .const (.string ⟨#[110]⟩), .const (.string ⟨#[114]⟩), .const (.string ⟨#[115]⟩), .const (.string ⟨#[116]⟩), .const (.string ⟨#[98]⟩), .const (.string ⟨#[63]⟩)]) Try.underlying76 ei_9 rfl rfl rfl rfl rfl ⟨⟨[vS (([97] : Str))], rfl, ⟨rfl, (lit_len rfl)⟩⟩, ⟨[vS (([101] : Str))], rfl, ⟨rfl, (lit_len rfl)⟩⟩, ⟨[vS (([101] : Str))], rfl, ⟨rfl, (lit_len rfl)⟩⟩, ⟨[vS (([110] : Str))], rfl, ⟨rfl, (lit_len rfl)⟩⟩, ⟨[vS (([114] : Str))], rfl, ⟨rfl, (lit_len rfl)⟩⟩, ⟨[vS (([115] : Str))], rfl, ⟨rfl, (lit_len rfl)⟩⟩, ⟨[vS (([116] : Str))], rfl, ⟨rfl, (lit_len rfl)⟩⟩, ⟨[vS (([98] : Str))], rfl, ⟨rfl, (lit_len rfl)⟩⟩, ⟨[vS (([63] : Str))], rfl, ⟨rfl, (lit_len rfl)⟩⟩, trivial⟩ rfl fun b61 w62 hx63 hM a hf => ?_)
        have hM := hM.freezeRow (k := 0) rfl rfl
        dsimp only [List.eraseIdx] at hM
        have hM : Mem C _ ([.box b2 [vL A35 (l34) c36, vI (n37), vW (n39)] 86] ++ []) _ := hM
        obtain ⟨y64, hz65, h58⟩ := bind_some h58
        refine pl_l hf rfl rfl rfl (w_call hf Try.call68 rfl (r_spec_l00Src_text ⟨_, Sh C _ _, ownB _, hM.sh_lt, sub_dis, C.G, hM.g_lt, hM.g_own, hM.tabs⟩ (⟨l34, n37, n39⟩ : l00Src) _ _ _ (hM.dat (k := 1) rfl) hv38 hv40 ([([97] : Str), ([101] : Str), ([101] : Str), ([110] : Str), ([114] : Str), ([115] : Str), ([116] : Str), ([98] : Str), ([63] : Str)] : (List Str)) _ _ (hM.dat (k := 0) rfl) hM.sub sub_dis _ hz65) ?_)
        rintro _ w72 ⟨A66, c67, rfl, hM2, hv68, hv69, hv70, hv71⟩
        obtain ⟨hM, hup74⟩ := hM.backG hM2
        dsimp only [List.cons_append, List.nil_append] at hM hup74
        clear hM2
        have hM := hM.add (y := .dat (sliceRep byteRep) y64.2.code [vL A66 y64.2.code c67]) (hup74 hv68)
        refine ⟨_, rfl, fun a hf => ?_⟩
        obtain ⟨s75, hz76, h58⟩ := bind_some h58
        refine q_ hf rfl rfl rfl (e_cat hf (x := s41) (y := y64.1) rfl rfl hz76) fun a hf => ?_
        refine q_ hf rfl rfl rfl (e_assign hf rfl) fun a hf => ?_
        refine pl_nil ?_
        refine blk_n ?_
        refine then_n ?_
        refine region_pl ?_
        refine q_ hf rfl rfl rfl (e_move hf rfl) fun a hf => ?_
        obtain ⟨z77, hz78, h58⟩ := bind_some h58
        refine q_ hf rfl rfl rfl (e_sub hf rfl rfl hz78) fun a hf => ?_
        refine q_ hf rfl rfl rfl (e_assign hf rfl) fun a hf => ?_
        refine pl_nil ?_
        obtain rfl := some_inj h58
        refine then_n ⟨_, rfl, ?_⟩
        exact ⟨y64.2.code, y64.2.at_, y64.2.seed, s75, z77, A66, c67, rfl, hf.keep ⟨rfl, rfl, rfl, trivial⟩, hM.pick [0, 3, 4] rfl, hv69, hv70, (cat_len hz76), (chk_R hz78)⟩
      · refine cond_f hf rfl hc60 ?_
        refine wp_exit ?_
        refine then_x ?_
        obtain rfl := some_inj h58
        obtain rfl := hd59 _ rfl
        try dsimp only at h20
        refine then_x ?_
        refine exit_hit ?_
        obtain rfl := some_inj h20
        refine then_n ?_
        exact ⟨l34, n37, n39, s41, A35, c36, rfl, hf.keep ⟨rfl, trivial⟩, hM.pick [0, 2] rfl, hv38, hv40, hv42⟩
  · rintro a w84 ⟨l10, n13, n15, s17, A11, c12, rfl, hf, hM, hv14, hv16, hv18⟩
    try dsimp only at h
    refine wp_seq ?_
    refine region_pl ?_
    refine q_ hf rfl rfl rfl (e_move hf rfl) fun a hf => ?_
    obtain ⟨y85, hz86, h⟩ := bind_some h
    refine pl_l hf rfl rfl rfl (w_call hf Try.call69 rfl (r_spec_l03Sort ⟨_, Sh C _ _, none_, hM.sh_lt, none_not, C.G, hM.g_lt, g_none, hM.tabs⟩ s17 hv18 _ hz86) ?_)
    rintro _ w88 ⟨rfl, hM2, hv87⟩
    obtain ⟨hM, hx89, hup90⟩ := hM.back hM2
    dsimp only [List.cons_append, List.nil_append] at hM hup90
    clear hM2
    refine ⟨_, rfl, fun a hf => ?_⟩
    refine q_ hf rfl rfl rfl (e_assign hf rfl) fun a hf => ?_
    refine pl_nil ?_
    refine then_n ?_
    refine wp_ret ?_
    obtain rfl := some_inj h
    exact leave1 hf rfl rfl ⟨A11, c12, rfl, hM.fin, (hM.dat (k := 0) rfl), hv14, hv16, hv87⟩

set_option maxRecDepth 100000 in
set_option maxHeartbeats 4000000 in
theorem r_spec_A2Piles (C : Cx) (code1 : Str) (A2 : Option Addr) (c3 : Nat) (hp4 : (sliceRep byteRep).R C.w0 C.S0 code1 [vL A2 code1 c3]) (r : (Str × Str)) (h : m_spec_A2Piles code1 = some r) :
    Calls Try.prog 19 #[vL A2 (code1) c3] C.w0 fun e w => e = .returned (.tuple #[vS (r.1), vS (r.2)]) ∧ Mem C w [] [] ∧ r.1.length ≤ maxLen ∧ r.2.length ≤ maxLen := by
  have hM := Mem.begin C [.dat (sliceRep byteRep) code1 [vL A2 code1 c3]] ⟨hp4, trivial⟩
  refine enter Try.func19 rfl Try.ntmps19 rfl fun a hf => ?_
  unfold m_spec_A2Piles at h
  refine wp_seq ?_
  refine region_pl ?_
  refine q_ hf rfl rfl rfl (e_assign hf rfl) fun a hf => ?_
  refine q_ hf rfl rfl rfl (e_assign hf rfl) fun a hf => ?_
  refine pl_nil ?_
  refine then_n ?_
  refine wp_seq ?_
  refine region_pl ?_
  refine q_ hf rfl rfl rfl (e_move hf rfl) fun a hf => ?_
  obtain ⟨y5, hz6, h⟩ := bind_some h
  refine pl_l hf rfl rfl rfl (w_call hf Try.call42 rfl (r_spec_l00From ⟨_, Sh C _ _, none_, hM.sh_lt, none_not, C.G, hM.g_lt, g_none, hM.tabs⟩ code1 _ _ (hM.dat (k := 0) rfl) _ hz6) ?_)
  rintro _ w13 ⟨b7, A8, c9, rfl, hM2, hv10, hv11, hv12⟩
  obtain ⟨hM, hx14, hup15⟩ := hM.back hM2
  dsimp only [List.cons_append, List.nil_append] at hM hup15
  clear hM2
  have hM := hM.add (y := .dat (sliceRep byteRep) y5.code [vL A8 y5.code c9]) (hup15 hv10)
  refine ⟨_, rfl, fun a hf => ?_⟩
  refine q_ hf rfl rfl rfl (e_assign hf rfl) fun a hf => ?_
  refine pl_nil ?_
  refine then_n ?_
  refine wp_seq ?_
  refine region_pl ?_
  refine q_ hf rfl rfl rfl (e_move hf rfl) fun a hf => ?_
  have hM : Mem C _ ([.box b7 [vL A8 (y5.code) c9, vI (y5.at_), vW (y5.seed)] 86] ++ []) _ := hM
  obtain ⟨y16, hz17, h⟩ := bind_some h
  refine pl_l hf rfl rfl rfl (w_call hf Try.call43 rfl (r_spec_l03Draw ⟨_, Sh C _ _, ownB _, hM.sh_lt, sub_dis, C.G, hM.g_lt, hM.g_own, hM.tabs⟩ y5 _ _ _ (hM.dat (k := 0) rfl) hv11 hv12 9 (R64_lit rfl) hM.sub sub_dis _ hz17) ?_)
  rintro _ w24 ⟨A18, c19, rfl, hM2, hv20, hv21, hv22, hv23⟩
  obtain ⟨hM, hup26⟩ := hM.backG hM2
  dsimp only [List.cons_append, List.nil_append] at hM hup26
  clear hM2
  have hM := hM.add (y := .dat (sliceRep byteRep) y16.2.code [vL A18 y16.2.code c19]) (hup26 hv20)
  refine ⟨_, rfl, fun a hf => ?_⟩
  refine q_ hf rfl rfl rfl (e_assign hf rfl) fun a hf => ?_
  refine pl_nil ?_
  refine then_n ?_
  refine wp_seq ?_
  refine region_pl ?_
  refine q_ hf rfl rfl rfl (e_move hf rfl) fun a hf => ?_
  refine q_ hf rfl rfl rfl (e_move hf rfl) fun a hf => ?_
  have hM : Mem C _ ([.box b7 [vL A18 (y16.2.code) c19, vI (y16.2.at_), vW (y16.2.seed)] 86] ++ []) _ := hM
  obtain ⟨y27, hz28, h⟩ := bind_some h
  refine pl_l hf rfl rfl rfl (w_call hf Try.call43 rfl (r_spec_l03Draw ⟨_, Sh C _ _, ownB _, hM.sh_lt, sub_dis, C.G, hM.g_lt, hM.g_own, hM.tabs⟩ y16.2 _ _ _ (hM.dat (k := 0) rfl) hv21 hv22 5 (R64_lit rfl) hM.sub sub_dis _ hz28) ?_)
  rintro _ w35 ⟨A29, c30, rfl, hM2, hv31, hv32, hv33, hv34⟩
  obtain ⟨hM, hup37⟩ := hM.backG hM2
  dsimp only [List.cons_append, List.nil_append] at hM hup37
  clear hM2
  have hM := hM.add (y := .dat (sliceRep byteRep) y27.2.code [vL A29 y27.2.code c30]) (hup37 hv31)
  refine ⟨_, rfl, fun a hf => ?_⟩
  refine q_ hf rfl rfl rfl (e_assign hf rfl) fun a hf => ?_
  refine q_ hf rfl rfl rfl (e_assign hf rfl) fun a hf => ?_
  refine pl_nil ?_
  refine then_n ?_
  refine wp_ret ?_
  obtain rfl := some_inj h
  have hM := hM.outs (own' := []) 0 rfl
  exact leave2 hf rfl rfl rfl ⟨rfl, hM.fin, hv23, hv34⟩

set_option maxRecDepth 100000 in
set_option maxHeartbeats 4000000 in
theorem r_laws_a2At (C : Cx) (code1 : Str) (A2 : Option Addr) (c3 : Nat) (hp4 : (sliceRep byteRep).R C.w0 C.S0 code1 [vL A2 code1 c3]) (at_5 : Int) (hp6 : R64 at_5) (n7 : Int) (hp8 : R64 n7) (r : Int) (h : m_laws_a2At code1 at_5 n7 = some r) :
    Calls Try.prog 20 #[vL A2 (code1) c3, vI (at_5), vI (n7)] C.w0 fun e w => e = .returned (vI (r)) ∧ Mem C w [] [] ∧ R64 r := by
  have hM := Mem.begin C [.dat (sliceRep byteRep) code1 [vL A2 code1 c3]] ⟨hp4, trivial⟩
  refine enter Try.func20 rfl Try.ntmps20 rfl fun a hf => ?_
  unfold m_laws_a2At at h
  refine wp_seq ?_
  refine region_pl ?_
  refine q_ hf rfl rfl rfl (e_assign hf rfl) fun a hf => ?_
  refine pl_nil ?_
  refine then_n ?_
  refine wp_seq ?_
  obtain ⟨x11, h12, h⟩ := bind_some h
  refine seq_join (fun a w => ∃ (t9 : Bool), t9 = x11 ∧ Has 22 a [(0, vL A2 (code1) c3), (1, vI (at_5)), (2, vI (n7)), (14, .bool (t9))] ∧ Mem C w [] [.dat (sliceRep byteRep) code1 [vL A2 code1 c3]]) ?_ ?_
  · refine region_pl ?_
    refine q_ hf rfl rfl rfl (e_move hf rfl) fun a hf => ?_
    refine q_ hf rfl rfl rfl (e_move hf rfl) fun a hf => ?_
    have hl13 := slice_len (hM.dat (k := 0) rfl)
    refine q_ hf rfl rfl rfl (e_lenL hf (x := code1) rfl Try.underlying38) fun a hf => ?_
    refine q_ hf rfl rfl rfl (e_ge hf (x := at_5) (y := (code1.length : Int)) rfl rfl) fun a hf => ?_
    refine q_ hf rfl rfl rfl (e_move hf rfl) fun a hf => ?_
    rcases cond_some h12 with ⟨hc14, h12⟩ | ⟨hc14, h12⟩
    · refine pl_gs (wanted_f hf rfl rfl rfl rfl hc14) hf rfl rfl fun a hf => ?_
      refine pl_gs (wanted_f hf rfl rfl rfl rfl hc14) hf rfl rfl fun a hf => ?_
      refine q_ hf rfl rfl rfl (e_pick_t hf rfl hc14 rfl) fun a hf => ?_
      refine pl_nil ?_
      obtain rfl := some_inj h12
      refine then_n ?_
      exact ⟨true, rfl, hf.keep ⟨rfl, rfl, rfl, rfl, trivial⟩, hM.pick [0] rfl⟩
    · refine gq (wanted_t hf rfl rfl rfl rfl hc14) hf rfl rfl (e_move hf rfl) fun a hf => ?_
      refine gq (wanted_t hf rfl rfl rfl rfl hc14) hf rfl rfl (e_lt hf (x := n7) (y := 1) rfl rfl) fun a hf => ?_
      refine q_ hf rfl rfl rfl (e_pick_f hf rfl hc14 rfl) fun a hf => ?_
      refine pl_nil ?_
      obtain rfl := some_inj h12
      refine then_n ?_
      exact ⟨(decide (n7 < 1)), rfl, hf.keep ⟨rfl, rfl, rfl, rfl, trivial⟩, hM.pick [0] rfl⟩
  · rintro a w17 ⟨t9, rfl, hf, hM⟩
    try dsimp only at h
    rcases cond_some h with ⟨hc18, h⟩ | ⟨hc18, h⟩
    · refine cond_t hf rfl hc18 ?_
      refine wp_seq ?_
      refine region_pl ?_
      refine q_ hf rfl rfl rfl (e_assign hf rfl) fun a hf => ?_
      refine pl_nil ?_
      refine then_n ?_
      refine wp_ret ?_
      refine then_r ?_
      obtain rfl := some_inj h
      exact leave1 hf rfl rfl ⟨rfl, hM.fin, (R64_lit rfl)⟩
    · refine cond_f hf rfl hc18 ?_
      refine wp_skip ?_
      refine then_n ?_
      refine wp_seq ?_
      refine region_pl ?_
      refine q_ hf rfl rfl rfl (e_move hf rfl) fun a hf => ?_
      refine q_ hf rfl rfl rfl (e_move hf rfl) fun a hf => ?_
      obtain ⟨e19, hz20, h⟩ := bind_some h
      obtain ⟨b24, o25, _, hA26, h21, h22, hr23, hM⟩ := hM.elem (hM.dat (k := 0) rfl) (n := 1) rfl hz20
      obtain rfl : _ = _ := hr23
      refine q_ hf rfl rfl rfl (e_indexAddr (A := A2) (b := b24) (o := o25) (xs := code1) (i := at_5) hf hA26 rfl rfl Try.underlying38 Try.sizeOf5 h21 h22) fun a hf => ?_
      refine q_ hf rfl rfl rfl (e_load1 hf rfl Try.isAgg5 (hM.litCell (k := 0) (j := 0) rfl rfl rfl)) fun a hf => ?_
      refine q_ hf rfl rfl rfl (e_convBI hf (x := e19) rfl Try.underlying5 Try.underlying2) fun a hf => ?_
      refine q_ hf rfl rfl rfl (e_move hf rfl) fun a hf => ?_
      obtain ⟨z27, hz28, h⟩ := bind_some h
      refine q_ hf rfl rfl rfl (e_rem hf rfl rfl hz28) fun a hf => ?_
      refine q_ hf rfl rfl rfl (e_assign hf rfl) fun a hf => ?_
      refine pl_nil ?_
      refine then_n ?_
      refine wp_ret ?_
      obtain rfl := some_inj h
      exact leave1 hf rfl rfl ⟨rfl, hM.fin, (remI_R hz28 (R64_byte _))⟩

set_option maxRecDepth 100000 in
set_option maxHeartbeats 4000000 in
theorem r_impl_small (C : Cx) (c1 : UInt8) (r : Bool) (h : m_impl_small c1 = some r) :
    Calls Try.prog 89 #[vB (c1)] C.w0 fun e w => e = .returned (.bool (r)) ∧ Mem C w [] [] := by
  have hM := Mem.begin C [] trivial
  refine enter Try.func89 rfl Try.ntmps89 rfl fun a hf => ?_
  unfold m_impl_small at h
  refine wp_seq ?_
  refine region_pl ?_
  refine q_ hf rfl rfl rfl (e_assign hf rfl) fun a hf => ?_
  refine pl_nil ?_
  refine then_n ?_
  obtain ⟨x4, h5, h⟩ := bind_some h
  refine seq_join (fun a w => ∃ (t2 : Bool), t2 = x4 ∧ Has 9 a [(2, .bool (t2))] ∧ Mem C w [] []) ?_ ?_
  · refine region_pl ?_
    refine q_ hf rfl rfl rfl (e_move hf rfl) fun a hf => ?_
    refine q_ hf rfl rfl rfl (e_leB hf (x := 97) (y := c1) rfl rfl) fun a hf => ?_
    refine q_ hf rfl rfl rfl (e_move hf rfl) fun a hf => ?_
    rcases cond_some h5 with ⟨hc6, h5⟩ | ⟨hc6, h5⟩
    · refine gq (wanted_t hf rfl rfl rfl rfl hc6) hf rfl rfl (e_move hf rfl) fun a hf => ?_
      refine gq (wanted_t hf rfl rfl rfl rfl hc6) hf rfl rfl (e_leB hf (x := c1) (y := 122) rfl rfl) fun a hf => ?_
      refine q_ hf rfl rfl rfl (e_pick_t hf rfl hc6 rfl) fun a hf => ?_
      refine q_ hf rfl rfl rfl (e_assign hf rfl) fun a hf => ?_
      refine pl_nil ?_
      obtain rfl := some_inj h5
      refine then_n ?_
      exact ⟨(decide (c1 ≤ 122)), rfl, hf.keep ⟨rfl, trivial⟩, hM.pick [] rfl⟩
    · refine pl_gs (wanted_f hf rfl rfl rfl rfl hc6) hf rfl rfl fun a hf => ?_
      refine pl_gs (wanted_f hf rfl rfl rfl rfl hc6) hf rfl rfl fun a hf => ?_
      refine q_ hf rfl rfl rfl (e_pick_f hf rfl hc6 rfl) fun a hf => ?_
      refine q_ hf rfl rfl rfl (e_assign hf rfl) fun a hf => ?_
      refine pl_nil ?_
      obtain rfl := some_inj h5
      refine then_n ?_
      exact ⟨false, rfl, hf.keep ⟨rfl, trivial⟩, hM.pick [] rfl⟩
  · rintro a w9 ⟨t2, rfl, hf, hM⟩
    try dsimp only at h
    refine wp_ret ?_
    obtain rfl := some_inj h
    exact leave1 hf rfl rfl ⟨rfl, hM.fin⟩

set_option maxRecDepth 100000 in
set_option maxHeartbeats 4000000 in
theorem r_impl_place (C : Cx) (tile1 : UInt8) (r : Int) (h : m_impl_place tile1 = some r) :
    Calls Try.prog 81 #[vB (tile1)] C.w0 fun e w => e = .returned (vI (r)) ∧ Mem C w [] [] ∧ R64 r := by
  have hM := Mem.begin C [] trivial
  refine enter Try.func81 rfl Try.ntmps81 rfl fun a hf => ?_
  unfold m_impl_place at h
  refine wp_seq ?_
  refine region_pl ?_
  refine q_ hf rfl rfl rfl (e_assign hf rfl) fun a hf => ?_
  refine pl_nil ?_
  refine then_n ?_
  refine wp_seq ?_
  refine wp_block ?_
  refine wp_seq ?_
  refine region_pl ?_
  refine q_ hf rfl rfl rfl (e_move hf rfl) fun a hf => ?_
  refine q_ hf rfl rfl rfl (e_eqB hf (x := tile1) (y := 63) rfl rfl) fun a hf => ?_
  refine q_ hf rfl rfl rfl (e_assign hf rfl) fun a hf => ?_
  refine pl_nil ?_
  refine then_n ?_
  rcases cond_some h with ⟨hc2, h⟩ | ⟨hc2, h⟩
  · refine cond_t hf rfl hc2 ?_
    refine wp_seq ?_
    refine region_pl ?_
    refine q_ hf rfl rfl rfl (e_assign hf rfl) fun a hf => ?_
    refine pl_nil ?_
    refine then_n ?_
    refine wp_ret ?_
    refine blk_r ?_
    refine then_r ?_
    obtain rfl := some_inj h
    exact leave1 hf rfl rfl ⟨rfl, hM.fin, (R64_lit rfl)⟩
  · refine cond_f hf rfl hc2 ?_
    refine wp_seq ?_
    refine region_pl ?_
    refine q_ hf rfl rfl rfl (e_move hf rfl) fun a hf => ?_
    obtain ⟨y3, hz4, h⟩ := bind_some h
    refine pl_l hf rfl rfl rfl (w_call hf Try.call89 rfl (r_impl_small ⟨_, Sh C _ _, none_, hM.sh_lt, none_not, C.G, hM.g_lt, g_none, hM.tabs⟩ tile1 _ hz4) ?_)
    rintro _ w5 ⟨rfl, hM2⟩
    obtain ⟨hM, hx6, hup7⟩ := hM.back hM2
    dsimp only [List.cons_append, List.nil_append] at hM hup7
    clear hM2
    refine ⟨_, rfl, fun a hf => ?_⟩
    refine q_ hf rfl rfl rfl (e_assign hf rfl) fun a hf => ?_
    refine pl_nil ?_
    refine then_n ?_
    rcases cond_some h with ⟨hc8, h⟩ | ⟨hc8, h⟩
    · refine cond_t hf rfl hc8 ?_
      refine wp_seq ?_
      refine region_pl ?_
      refine q_ hf rfl rfl rfl (e_move hf rfl) fun a hf => ?_
      refine q_ hf rfl rfl rfl (e_subB hf (x := tile1) (y := 97) rfl rfl) fun a hf => ?_
      refine q_ hf rfl rfl rfl (e_convBI hf (x := tile1 - 97) rfl Try.underlying5 Try.underlying3) fun a hf => ?_
      obtain ⟨z9, hz10, h⟩ := bind_some h
      refine q_ hf rfl rfl rfl (e_add hf rfl rfl hz10) fun a hf => ?_
      refine q_ hf rfl rfl rfl (e_assign hf rfl) fun a hf => ?_
      refine pl_nil ?_
      refine then_n ?_
      refine wp_ret ?_
      refine blk_r ?_
      refine then_r ?_
      obtain rfl := some_inj h
      exact leave1 hf rfl rfl ⟨rfl, hM.fin, (chk_R hz10)⟩
    · refine cond_f hf rfl hc8 ?_
      refine wp_skip ?_
      refine blk_n ?_
      refine then_n ?_
      refine wp_seq ?_
      refine region_pl ?_
      refine q_ hf rfl rfl rfl (e_assign hf rfl) fun a hf => ?_
      refine pl_nil ?_
      refine then_n ?_
      refine wp_ret ?_
      obtain rfl := some_inj h
      exact leave1 hf rfl rfl ⟨rfl, hM.fin, (R64_lit rfl)⟩

set_option maxRecDepth 100000 in
set_option maxHeartbeats 4000000 in
theorem r_impl_onlyTiles (C : Cx) (s1 : Str) (hp2 : s1.length ≤ maxLen) (r : Bool) (h : m_impl_onlyTiles s1 = some r) :
    Calls Try.prog 70 #[vS (s1)] C.w0 fun e w => e = .returned (.bool (r)) ∧ Mem C w [] [] := by
  have hM := Mem.begin C [] trivial
  refine enter Try.func70 rfl Try.ntmps70 rfl fun a hf => ?_
  unfold m_impl_onlyTiles at h
  refine wp_seq ?_
  refine region_pl ?_
  refine q_ hf rfl rfl rfl (e_assign hf rfl) fun a hf => ?_
  refine pl_nil ?_
  refine then_n ?_
  obtain ⟨x3, h4, h⟩ := bind_some h
  refine seq_join (fun a w => (.inl ()) = x3 ∧ Has 15 a [] ∧ Mem C w [] []) ?_ ?_
  · refine wp_seq ?_
    refine region_pl ?_
    refine q_ hf rfl rfl rfl (e_assign hf rfl) fun a hf => ?_
    refine pl_nil ?_
    refine then_n ?_
    refine wp_block ?_
    obtain ⟨x8, h9, h4⟩ := bind_some h4
    refine wp_loopM h9 (fun s a w => ∃ (n5 : Int), n5 = s ∧ Has 15 a [(0, vS (s1)), (3, vI (n5))] ∧ Mem C w [] [] ∧ R64 n5) ?_ ?_
    · exact ⟨0, rfl, hf.keep ⟨rfl, rfl, trivial⟩, hM.pick [] rfl, (R64_lit rfl)⟩
    · rintro s o10 a w7 ⟨n5, rfl, hf, hM, hv6⟩ h11 hd12
      replace h11 : m_impl_onlyTiles_l1 s1 n5 = some o10 := h11
      unfold m_impl_onlyTiles_l1 at h11
      refine wp_seq ?_
      refine wp_seq ?_
      refine region_pl ?_
      refine q_ hf rfl rfl rfl (e_move hf rfl) fun a hf => ?_
      refine q_ hf rfl rfl rfl (e_move hf rfl) fun a hf => ?_
      refine q_ hf rfl rfl rfl (e_lenS hf (x := s1) rfl Try.underlying9) fun a hf => ?_
      refine q_ hf rfl rfl rfl (e_lt hf (x := n5) (y := (s1.length : Int)) rfl rfl) fun a hf => ?_
      refine pl_nil ?_
      refine then_n ?_
      rcases cond_some h11 with ⟨hc13, h11⟩ | ⟨hc13, h11⟩
      · refine cond_t hf rfl hc13 ?_
        refine wp_skip ?_
        refine then_n ?_
        refine wp_seq ?_
        refine wp_block ?_
        refine wp_seq ?_
        refine region_pl ?_
        refine q_ hf rfl rfl rfl (e_move hf rfl) fun a hf => ?_
        refine q_ hf rfl rfl rfl (e_move hf rfl) fun a hf => ?_
        obtain ⟨c14, hz15, h11⟩ := bind_some h11
        refine q_ hf rfl rfl rfl (e_indexS hf (x := s1) rfl rfl Try.underlying9 hz15) fun a hf => ?_
        obtain ⟨y16, hz17, h11⟩ := bind_some h11
        refine pl_l hf rfl rfl rfl (w_call hf Try.call81 rfl (r_impl_place ⟨_, Sh C _ _, none_, hM.sh_lt, none_not, C.G, hM.g_lt, g_none, hM.tabs⟩ c14 _ hz17) ?_)
        rintro _ w19 ⟨rfl, hM2, hv18⟩
        obtain ⟨hM, hx20, hup21⟩ := hM.back hM2
        dsimp only [List.cons_append, List.nil_append] at hM hup21
        clear hM2
        refine ⟨_, rfl, fun a hf => ?_⟩
        refine q_ hf rfl rfl rfl (e_lt hf (x := y16) (y := 0) rfl rfl) fun a hf => ?_
        refine pl_nil ?_
        refine then_n ?_
        rcases cond_some h11 with ⟨hc22, h11⟩ | ⟨hc22, h11⟩
        · refine cond_t hf rfl hc22 ?_
          refine wp_seq ?_
          refine region_pl ?_
          refine q_ hf rfl rfl rfl (e_assign hf rfl) fun a hf => ?_
          refine pl_nil ?_
          refine then_n ?_
          refine wp_ret ?_
          refine blk_r ?_
          refine then_r ?_
          obtain rfl := some_inj h11
          obtain rfl := hd12 _ rfl
          try dsimp only at h4
          refine then_r ?_
          refine blk_r ?_
          obtain rfl := some_inj h4
          try dsimp only at h
          refine then_r ?_
          obtain rfl := some_inj h
          exact leave1 hf rfl rfl ⟨rfl, hM.fin⟩
        · refine cond_f hf rfl hc22 ?_
          refine wp_skip ?_
          refine blk_n ?_
          refine then_n ?_
          refine region_pl ?_
          refine q_ hf rfl rfl rfl (e_move hf rfl) fun a hf => ?_
          obtain ⟨z23, hz24, h11⟩ := bind_some h11
          refine q_ hf rfl rfl rfl (e_add hf rfl rfl hz24) fun a hf => ?_
          refine q_ hf rfl rfl rfl (e_assign hf rfl) fun a hf => ?_
          refine pl_nil ?_
          obtain rfl := some_inj h11
          refine then_n ⟨_, rfl, ?_⟩
          exact ⟨z23, rfl, hf.keep ⟨rfl, rfl, trivial⟩, hM.pick [] rfl, (chk_R hz24)⟩
      · refine cond_f hf rfl hc13 ?_
        refine wp_exit ?_
        refine then_x ?_
        obtain rfl := some_inj h11
        obtain rfl := hd12 _ rfl
        try dsimp only at h4
        refine then_x ?_
        refine exit_hit ?_
        obtain rfl := some_inj h4
        refine then_n ?_
        exact ⟨rfl, hf.keep trivial, hM.pick [] rfl⟩
  · rintro a w31 ⟨rfl, hf, hM⟩
    try dsimp only at h
    refine wp_seq ?_
    refine region_pl ?_
    refine q_ hf rfl rfl rfl (e_assign hf rfl) fun a hf => ?_
    refine pl_nil ?_
    refine then_n ?_
    refine wp_ret ?_
    obtain rfl := some_inj h
    exact leave1 hf rfl rfl ⟨rfl, hM.fin⟩

set_option maxRecDepth 100000 in
set_option maxHeartbeats 4000000 in
theorem r_impl_ValidPile (C : Cx) (s1 : Str) (hp2 : s1.length ≤ maxLen) (r : Bool) (h : m_impl_ValidPile s1 = some r) :
    Calls Try.prog 47 #[vS (s1)] C.w0 fun e w => e = .returned (.bool (r)) ∧ Mem C w [] [] := by
  have hM := Mem.begin C [] trivial
  refine enter Try.func47 rfl Try.ntmps47 rfl fun a hf => ?_
  unfold m_impl_ValidPile at h
  refine wp_seq ?_
  refine region_pl ?_
  refine q_ hf rfl rfl rfl (e_assign hf rfl) fun a hf => ?_
  refine pl_nil ?_
  refine then_n ?_
  refine wp_seq ?_
  obtain ⟨x5, h6, h⟩ := bind_some h
  refine seq_join (fun a w => ∃ (t3 : Bool), t3 = x5 ∧ Has 26 a [(0, vS (s1)), (11, .bool (t3))] ∧ Mem C w [] []) ?_ ?_
  · refine region_pl ?_
    refine q_ hf rfl rfl rfl (e_move hf rfl) fun a hf => ?_
    refine q_ hf rfl rfl rfl (e_lenS hf (x := s1) rfl Try.underlying9) fun a hf => ?_
    refine q_ hf rfl rfl rfl (e_gt hf (x := (s1.length : Int)) (y := 120) rfl rfl) fun a hf => ?_
    refine q_ hf rfl rfl rfl (e_move hf rfl) fun a hf => ?_
    rcases cond_some h6 with ⟨hc7, h6⟩ | ⟨hc7, h6⟩
    · refine pl_gs (wanted_f hf rfl rfl rfl rfl hc7) hf rfl rfl fun a hf => ?_
      refine pl_gs (wanted_f hf rfl rfl rfl rfl hc7) hf rfl rfl fun a hf => ?_
      refine pl_gs (wanted_f hf rfl rfl rfl rfl hc7) hf rfl rfl fun a hf => ?_
      refine q_ hf rfl rfl rfl (e_pick_t hf rfl hc7 rfl) fun a hf => ?_
      refine pl_nil ?_
      obtain rfl := some_inj h6
      refine then_n ?_
      exact ⟨true, rfl, hf.keep ⟨rfl, rfl, trivial⟩, hM.pick [] rfl⟩
    · refine gq (wanted_t hf rfl rfl rfl rfl hc7) hf rfl rfl (e_move hf rfl) fun a hf => ?_
      obtain ⟨y9, hz10, h6⟩ := bind_some h6
      refine pl_gl (wanted_t hf rfl rfl rfl rfl hc7) hf rfl rfl (w_call hf Try.call70 rfl (r_impl_onlyTiles ⟨_, Sh C _ _, none_, hM.sh_lt, none_not, C.G, hM.g_lt, g_none, hM.tabs⟩ s1 hp2 _ hz10) ?_)
      rintro _ w11 ⟨rfl, hM2⟩
      obtain ⟨hM, hx12, hup13⟩ := hM.back hM2
      dsimp only [List.cons_append, List.nil_append] at hM hup13
      clear hM2
      refine ⟨_, rfl, fun a hf => ?_⟩
      refine gq (wanted_t hf rfl rfl rfl rfl hc7) hf rfl rfl (e_not hf rfl) fun a hf => ?_
      refine q_ hf rfl rfl rfl (e_pick_f hf rfl hc7 rfl) fun a hf => ?_
      refine pl_nil ?_
      obtain rfl := some_inj h6
      refine then_n ?_
      exact ⟨(!y9), rfl, hf.keep ⟨rfl, rfl, trivial⟩, hM.pick [] rfl⟩
  · rintro a w15 ⟨t3, rfl, hf, hM⟩
    try dsimp only at h
    rcases cond_some h with ⟨hc16, h⟩ | ⟨hc16, h⟩
    · refine cond_t hf rfl hc16 ?_
      refine wp_seq ?_
      refine region_pl ?_
      refine q_ hf rfl rfl rfl (e_assign hf rfl) fun a hf => ?_
      refine pl_nil ?_
      refine then_n ?_
      refine wp_ret ?_
      refine then_r ?_
      obtain rfl := some_inj h
      exact leave1 hf rfl rfl ⟨rfl, hM.fin⟩
    · refine cond_f hf rfl hc16 ?_
      refine wp_skip ?_
      refine then_n ?_
      obtain ⟨x17, h18, h⟩ := bind_some h
      refine seq_join (fun a w => (.inl ()) = x17 ∧ Has 26 a [] ∧ Mem C w [] []) ?_ ?_
      · refine wp_seq ?_
        refine region_pl ?_
        refine q_ hf rfl rfl rfl (e_assign hf rfl) fun a hf => ?_
        refine pl_nil ?_
        refine then_n ?_
        refine wp_block ?_
        obtain ⟨x22, h23, h18⟩ := bind_some h18
        refine wp_loopM h23 (fun s a w => ∃ (n19 : Int), n19 = s ∧ Has 26 a [(0, vS (s1)), (3, vI (n19))] ∧ Mem C w [] [] ∧ R64 n19) ?_ ?_
        · exact ⟨1, rfl, hf.keep ⟨rfl, rfl, trivial⟩, hM.pick [] rfl, (R64_lit rfl)⟩
        · rintro s o24 a w21 ⟨n19, rfl, hf, hM, hv20⟩ h25 hd26
          replace h25 : m_impl_ValidPile_l1 s1 n19 = some o24 := h25
          unfold m_impl_ValidPile_l1 at h25
          refine wp_seq ?_
          refine wp_seq ?_
          refine region_pl ?_
          refine q_ hf rfl rfl rfl (e_move hf rfl) fun a hf => ?_
          refine q_ hf rfl rfl rfl (e_move hf rfl) fun a hf => ?_
          refine q_ hf rfl rfl rfl (e_lenS hf (x := s1) rfl Try.underlying9) fun a hf => ?_
          refine q_ hf rfl rfl rfl (e_lt hf (x := n19) (y := (s1.length : Int)) rfl rfl) fun a hf => ?_
          refine pl_nil ?_
          refine then_n ?_
          rcases cond_some h25 with ⟨hc27, h25⟩ | ⟨hc27, h25⟩
          · refine cond_t hf rfl hc27 ?_
            refine wp_skip ?_
            refine then_n ?_
            refine wp_seq ?_
            refine wp_block ?_
            refine wp_seq ?_
            obtain ⟨w28, hw⟩ : ∃ x, x = w21.drew := ⟨_, rfl⟩
            refine region_pi (.q 0 (.q 1 (.q 2 (.q 3 (.q 4 (.q 5 (.q 6 (.q 7 (.nil))))))))) (Ext w28) rfl (by kernel_rfl) ?_
            have hM := hM.drew
            rw [← hw] at hM ⊢
            clear hw
            refine pi_q hf rfl rfl rfl rfl (Ext.refl _) (e_move hf rfl) fun a hf => ?_
            refine pi_q hf rfl rfl rfl rfl (Ext.refl _) (e_move hf rfl) fun a hf => ?_
            obtain ⟨z29, hz30, h25⟩ := bind_some h25
            refine pi_q hf rfl rfl rfl rfl (Ext.refl _) (e_sub hf rfl rfl hz30) fun a hf => ?_
            obtain ⟨c31, hz32, h25⟩ := bind_some h25
            refine pi_q hf rfl rfl rfl rfl (Ext.refl _) (e_indexS hf (x := s1) rfl rfl Try.underlying9 hz32) fun a hf => ?_
            refine pi_q hf rfl rfl rfl rfl (Ext.refl _) (e_move hf rfl) fun a hf => ?_
            refine pi_q hf rfl rfl rfl rfl (Ext.refl _) (e_move hf rfl) fun a hf => ?_
            obtain ⟨c33, hz34, h25⟩ := bind_some h25
            refine pi_q hf rfl rfl rfl rfl (Ext.refl _) (e_indexS hf (x := s1) rfl rfl Try.underlying9 hz34) fun a hf => ?_
            refine pi_q hf rfl rfl rfl rfl (Ext.refl _) (e_gtB hf (x := c31) (y := c33) rfl rfl) fun a hf => ?_
            refine pi_nil ?_
            refine then_n ?_
            rcases cond_some h25 with ⟨hc35, h25⟩ | ⟨hc35, h25⟩
            · refine cond_t hf rfl hc35 ?_
              refine wp_seq ?_
              refine region_pl ?_
              refine q_ hf rfl rfl rfl (e_assign hf rfl) fun a hf => ?_
              refine pl_nil ?_
              refine then_n ?_
              refine wp_ret ?_
              refine blk_r ?_
              refine then_r ?_
              obtain rfl := some_inj h25
              obtain rfl := hd26 _ rfl
              try dsimp only at h18
              refine then_r ?_
              refine blk_r ?_
              obtain rfl := some_inj h18
              try dsimp only at h
              refine then_r ?_
              obtain rfl := some_inj h
              exact leave1 hf rfl rfl ⟨rfl, hM.fin⟩
            · refine cond_f hf rfl hc35 ?_
              refine wp_skip ?_
              refine blk_n ?_
              refine then_n ?_
              refine region_pl ?_
              refine q_ hf rfl rfl rfl (e_move hf rfl) fun a hf => ?_
              obtain ⟨z36, hz37, h25⟩ := bind_some h25
              refine q_ hf rfl rfl rfl (e_add hf rfl rfl hz37) fun a hf => ?_
              refine q_ hf rfl rfl rfl (e_assign hf rfl) fun a hf => ?_
              refine pl_nil ?_
              obtain rfl := some_inj h25
              refine then_n ⟨_, rfl, ?_⟩
              exact ⟨z36, rfl, hf.keep ⟨rfl, rfl, trivial⟩, hM.pick [] rfl, (chk_R hz37)⟩
          · refine cond_f hf rfl hc27 ?_
            refine wp_exit ?_
            refine then_x ?_
            obtain rfl := some_inj h25
            obtain rfl := hd26 _ rfl
            try dsimp only at h18
            refine then_x ?_
            refine exit_hit ?_
            obtain rfl := some_inj h18
            refine then_n ?_
            exact ⟨rfl, hf.keep trivial, hM.pick [] rfl⟩
      · rintro a w44 ⟨rfl, hf, hM⟩
        try dsimp only at h
        refine wp_seq ?_
        refine region_pl ?_
        refine q_ hf rfl rfl rfl (e_assign hf rfl) fun a hf => ?_
        refine pl_nil ?_
        refine then_n ?_
        refine wp_ret ?_
        obtain rfl := some_inj h
        exact leave1 hf rfl rfl ⟨rfl, hM.fin⟩

set_option maxRecDepth 100000 in
set_option maxHeartbeats 4000000 in
theorem r_impl_isPool (C : Cx) (s1 : Str) (hp2 : s1.length ≤ maxLen) (r : Bool) (h : m_impl_isPool s1 = some r) :
    Calls Try.prog 46 #[vS (s1)] C.w0 fun e w => e = .returned (.bool (r)) ∧ Mem C w [] [] := by
  have hM := Mem.begin C [] trivial
  refine enter Try.func46 rfl Try.ntmps46 rfl fun a hf => ?_
  unfold m_impl_isPool at h
  refine wp_seq ?_
  refine region_pl ?_
  refine q_ hf rfl rfl rfl (e_assign hf rfl) fun a hf => ?_
  refine pl_nil ?_
  refine then_n ?_
  obtain ⟨x5, h6, h⟩ := bind_some h
  refine seq_join (fun a w => ∃ (t3 : Bool), t3 = x5 ∧ Has 10 a [(2, .bool (t3))] ∧ Mem C w [] []) ?_ ?_
  · refine region_pl ?_
    refine q_ hf rfl rfl rfl (e_move hf rfl) fun a hf => ?_
    refine q_ hf rfl rfl rfl (e_lenS hf (x := s1) rfl Try.underlying9) fun a hf => ?_
    refine q_ hf rfl rfl rfl (e_le hf (x := (s1.length : Int)) (y := 12) rfl rfl) fun a hf => ?_
    refine q_ hf rfl rfl rfl (e_move hf rfl) fun a hf => ?_
    rcases cond_some h6 with ⟨hc7, h6⟩ | ⟨hc7, h6⟩
    · refine gq (wanted_t hf rfl rfl rfl rfl hc7) hf rfl rfl (e_move hf rfl) fun a hf => ?_
      obtain ⟨y8, hz9, h6⟩ := bind_some h6
      refine pl_gl (wanted_t hf rfl rfl rfl rfl hc7) hf rfl rfl (w_call hf Try.call47 rfl (r_impl_ValidPile ⟨_, Sh C _ _, none_, hM.sh_lt, none_not, C.G, hM.g_lt, g_none, hM.tabs⟩ s1 hp2 _ hz9) ?_)
      rintro _ w10 ⟨rfl, hM2⟩
      obtain ⟨hM, hx11, hup12⟩ := hM.back hM2
      dsimp only [List.cons_append, List.nil_append] at hM hup12
      clear hM2
      refine ⟨_, rfl, fun a hf => ?_⟩
      refine q_ hf rfl rfl rfl (e_pick_t hf rfl hc7 rfl) fun a hf => ?_
      refine q_ hf rfl rfl rfl (e_assign hf rfl) fun a hf => ?_
      refine pl_nil ?_
      obtain rfl := some_inj h6
      refine then_n ?_
      exact ⟨y8, rfl, hf.keep ⟨rfl, trivial⟩, hM.pick [] rfl⟩
    · refine pl_gs (wanted_f hf rfl rfl rfl rfl hc7) hf rfl rfl fun a hf => ?_
      refine pl_gs (wanted_f hf rfl rfl rfl rfl hc7) hf rfl rfl fun a hf => ?_
      refine q_ hf rfl rfl rfl (e_pick_f hf rfl hc7 rfl) fun a hf => ?_
      refine q_ hf rfl rfl rfl (e_assign hf rfl) fun a hf => ?_
      refine pl_nil ?_
      obtain rfl := some_inj h6
      refine then_n ?_
      exact ⟨false, rfl, hf.keep ⟨rfl, trivial⟩, hM.pick [] rfl⟩
  · rintro a w15 ⟨t3, rfl, hf, hM⟩
    try dsimp only at h
    refine wp_ret ?_
    obtain rfl := some_inj h
    exact leave1 hf rfl rfl ⟨rfl, hM.fin⟩

set_option maxRecDepth 100000 in
set_option maxHeartbeats 4000000 in
theorem r_impl_within (C : Cx) (x1 : Int) (hp2 : R64 x1) (low3 : Int) (hp4 : R64 low3) (high5 : Int) (hp6 : R64 high5) (r : Bool) (h : m_impl_within x1 low3 high5 = some r) :
    Calls Try.prog 60 #[vI (x1), vI (low3), vI (high5)] C.w0 fun e w => e = .returned (.bool (r)) ∧ Mem C w [] [] := by
  have hM := Mem.begin C [] trivial
  refine enter Try.func60 rfl Try.ntmps60 rfl fun a hf => ?_
  unfold m_impl_within at h
  refine wp_seq ?_
  refine region_pl ?_
  refine q_ hf rfl rfl rfl (e_assign hf rfl) fun a hf => ?_
  refine pl_nil ?_
  refine then_n ?_
  obtain ⟨x9, h10, h⟩ := bind_some h
  refine seq_join (fun a w => ∃ (t7 : Bool), t7 = x9 ∧ Has 15 a [(6, .bool (t7))] ∧ Mem C w [] []) ?_ ?_
  · refine region_pl ?_
    refine q_ hf rfl rfl rfl (e_move hf rfl) fun a hf => ?_
    refine q_ hf rfl rfl rfl (e_move hf rfl) fun a hf => ?_
    refine q_ hf rfl rfl rfl (e_le hf (x := low3) (y := x1) rfl rfl) fun a hf => ?_
    refine q_ hf rfl rfl rfl (e_move hf rfl) fun a hf => ?_
    rcases cond_some h10 with ⟨hc11, h10⟩ | ⟨hc11, h10⟩
    · refine gq (wanted_t hf rfl rfl rfl rfl hc11) hf rfl rfl (e_move hf rfl) fun a hf => ?_
      refine gq (wanted_t hf rfl rfl rfl rfl hc11) hf rfl rfl (e_move hf rfl) fun a hf => ?_
      refine gq (wanted_t hf rfl rfl rfl rfl hc11) hf rfl rfl (e_le hf (x := x1) (y := high5) rfl rfl) fun a hf => ?_
      refine q_ hf rfl rfl rfl (e_pick_t hf rfl hc11 rfl) fun a hf => ?_
      refine q_ hf rfl rfl rfl (e_assign hf rfl) fun a hf => ?_
      refine pl_nil ?_
      obtain rfl := some_inj h10
      refine then_n ?_
      exact ⟨(decide (x1 ≤ high5)), rfl, hf.keep ⟨rfl, trivial⟩, hM.pick [] rfl⟩
    · refine pl_gs (wanted_f hf rfl rfl rfl rfl hc11) hf rfl rfl fun a hf => ?_
      refine pl_gs (wanted_f hf rfl rfl rfl rfl hc11) hf rfl rfl fun a hf => ?_
      refine pl_gs (wanted_f hf rfl rfl rfl rfl hc11) hf rfl rfl fun a hf => ?_
      refine q_ hf rfl rfl rfl (e_pick_f hf rfl hc11 rfl) fun a hf => ?_
      refine q_ hf rfl rfl rfl (e_assign hf rfl) fun a hf => ?_
      refine pl_nil ?_
      obtain rfl := some_inj h10
      refine then_n ?_
      exact ⟨false, rfl, hf.keep ⟨rfl, trivial⟩, hM.pick [] rfl⟩
  · rintro a w14 ⟨t7, rfl, hf, hM⟩
    try dsimp only at h
    refine wp_ret ?_
    obtain rfl := some_inj h
    exact leave1 hf rfl rfl ⟨rfl, hM.fin⟩

set_option maxRecDepth 100000 in
set_option maxHeartbeats 4000000 in
theorem r_impl_drawCode (C : Cx) (pile1 : Str) (hp2 : pile1.length ≤ maxLen) (n3 : Int) (hp4 : R64 n3) (r : Int) (h : m_impl_drawCode pile1 n3 = some r) :
    Calls Try.prog 44 #[vS (pile1), vI (n3)] C.w0 fun e w => e = .returned (vI (r)) ∧ Mem C w [] [] ∧ R64 r := by
  have hM := Mem.begin C [] trivial
  refine enter Try.func44 rfl Try.ntmps44 rfl fun a hf => ?_
  unfold m_impl_drawCode at h
  refine wp_seq ?_
  refine region_pl ?_
  refine q_ hf rfl rfl rfl (e_assign hf rfl) fun a hf => ?_
  refine pl_nil ?_
  refine then_n ?_
  refine wp_seq ?_
  refine wp_seq ?_
  refine region_pl ?_
  refine q_ hf rfl rfl rfl (e_move hf rfl) fun a hf => ?_
  obtain ⟨y5, hz6, h⟩ := bind_some h
  refine pl_l hf rfl rfl rfl (w_call hf Try.call46 rfl (r_impl_isPool ⟨_, Sh C _ _, none_, hM.sh_lt, none_not, C.G, hM.g_lt, g_none, hM.tabs⟩ pile1 hp2 _ hz6) ?_)
  rintro _ w7 ⟨rfl, hM2⟩
  obtain ⟨hM, hx8, hup9⟩ := hM.back hM2
  dsimp only [List.cons_append, List.nil_append] at hM hup9
  clear hM2
  refine ⟨_, rfl, fun a hf => ?_⟩
  refine q_ hf rfl rfl rfl (e_not hf rfl) fun a hf => ?_
  refine pl_nil ?_
  refine then_n ?_
  rcases cond_some h with ⟨hc10, h⟩ | ⟨hc10, h⟩
  · refine cond_t hf rfl hc10 ?_
    refine wp_seq ?_
    refine region_pl ?_
    refine q_ hf rfl rfl rfl (e_assign hf rfl) fun a hf => ?_
    refine pl_nil ?_
    refine then_n ?_
    refine wp_ret ?_
    refine then_r ?_
    obtain rfl := some_inj h
    exact leave1 hf rfl rfl ⟨rfl, hM.fin, (R64_lit rfl)⟩
  · refine cond_f hf rfl hc10 ?_
    refine wp_skip ?_
    refine then_n ?_
    refine wp_seq ?_
    obtain ⟨x13, h14, h⟩ := bind_some h
    refine seq_join (fun a w => ∃ (t11 : Bool), t11 = x13 ∧ Has 17 a [(16, .bool (t11))] ∧ Mem C w [] []) ?_ ?_
    · refine region_pl ?_
      refine q_ hf rfl rfl rfl (e_move hf rfl) fun a hf => ?_
      obtain ⟨y15, hz16, h14⟩ := bind_some h14
      refine pl_l hf rfl rfl rfl (w_call hf Try.call60 rfl (r_impl_within ⟨_, Sh C _ _, none_, hM.sh_lt, none_not, C.G, hM.g_lt, g_none, hM.tabs⟩ n3 hp4 0 (R64_lit rfl) 7 (R64_lit rfl) _ hz16) ?_)
      rintro _ w17 ⟨rfl, hM2⟩
      obtain ⟨hM, hx18, hup19⟩ := hM.back hM2
      dsimp only [List.cons_append, List.nil_append] at hM hup19
      clear hM2
      refine ⟨_, rfl, fun a hf => ?_⟩
      refine q_ hf rfl rfl rfl (e_not hf rfl) fun a hf => ?_
      refine q_ hf rfl rfl rfl (e_move hf rfl) fun a hf => ?_
      rcases cond_some h14 with ⟨hc20, h14⟩ | ⟨hc20, h14⟩
      · refine pl_gs (wanted_f hf rfl rfl rfl rfl hc20) hf rfl rfl fun a hf => ?_
        refine pl_gs (wanted_f hf rfl rfl rfl rfl hc20) hf rfl rfl fun a hf => ?_
        refine pl_gs (wanted_f hf rfl rfl rfl rfl hc20) hf rfl rfl fun a hf => ?_
        refine pl_gs (wanted_f hf rfl rfl rfl rfl hc20) hf rfl rfl fun a hf => ?_
        refine q_ hf rfl rfl rfl (e_pick_t hf rfl hc20 rfl) fun a hf => ?_
        refine pl_nil ?_
        obtain rfl := some_inj h14
        refine then_n ?_
        exact ⟨true, rfl, hf.keep ⟨rfl, trivial⟩, hM.pick [] rfl⟩
      · refine gq (wanted_t hf rfl rfl rfl rfl hc20) hf rfl rfl (e_move hf rfl) fun a hf => ?_
        refine gq (wanted_t hf rfl rfl rfl rfl hc20) hf rfl rfl (e_move hf rfl) fun a hf => ?_
        refine gq (wanted_t hf rfl rfl rfl rfl hc20) hf rfl rfl (e_lenS hf (x := pile1) rfl Try.underlying9) fun a hf => ?_
        refine gq (wanted_t hf rfl rfl rfl rfl hc20) hf rfl rfl (e_gt hf (x := n3) (y := (pile1.length : Int)) rfl rfl) fun a hf => ?_
        refine q_ hf rfl rfl rfl (e_pick_f hf rfl hc20 rfl) fun a hf => ?_
        refine pl_nil ?_
        obtain rfl := some_inj h14
        refine then_n ?_
        exact ⟨(decide ((pile1.length : Int) < n3)), rfl, hf.keep ⟨rfl, trivial⟩, hM.pick [] rfl⟩
    · rintro a w23 ⟨t11, rfl, hf, hM⟩
      try dsimp only at h
      rcases cond_some h with ⟨hc24, h⟩ | ⟨hc24, h⟩
      · refine cond_t hf rfl hc24 ?_
        refine wp_seq ?_
        refine region_pl ?_
        refine q_ hf rfl rfl rfl (e_assign hf rfl) fun a hf => ?_
        refine pl_nil ?_
        refine then_n ?_
        refine wp_ret ?_
        refine then_r ?_
        obtain rfl := some_inj h
        exact leave1 hf rfl rfl ⟨rfl, hM.fin, (R64_lit rfl)⟩
      · refine cond_f hf rfl hc24 ?_
        refine wp_skip ?_
        refine then_n ?_
        refine wp_seq ?_
        refine region_pl ?_
        refine q_ hf rfl rfl rfl (e_assign hf rfl) fun a hf => ?_
        refine pl_nil ?_
        refine then_n ?_
        refine wp_ret ?_
        obtain rfl := some_inj h
        exact leave1 hf rfl rfl ⟨rfl, hM.fin, (R64_lit rfl)⟩

set_option maxRecDepth 100000 in
set_option maxHeartbeats 4000000 in
theorem r_impl_countsOf (C : Cx) (s1 : Str) (hp2 : s1.length ≤ maxLen) (r : (List Int)) (h : m_impl_countsOf s1 = some r) :
    Calls Try.prog 64 #[vS (s1)] C.w0 fun e w => e = .returned (.agg (arrV r).toArray) ∧ Mem C w [] [] ∧ ArrOk 27 r := by
  have hM := Mem.begin C [] trivial
  refine enter Try.func64 rfl Try.ntmps64 rfl fun a hf => ?_
  unfold m_impl_countsOf at h
  refine wp_seq ?_
  refine region_pl ?_
  refine pl_l hf rfl rfl rfl (w_alloc hM (cs := arrV (List.replicate 27 (0 : Int))) Try.zeroValue80 rfl fun b3 w4 hx5 hM a hf => ?_)
  refine pl_nil ?_
  refine then_n ?_
  refine wp_seq ?_
  refine region_pl ?_
  refine pl_l hf rfl rfl rfl (w_alloc hM (cs := arrV (List.replicate 27 (0 : Int))) Try.zeroValue80 rfl fun b7 w8 hx9 hM a hf => ?_)
  refine pl_nil ?_
  refine then_n ?_
  obtain ⟨x13, h14, h⟩ := bind_some h
  refine seq_join (fun a w => ∃ (xs11 : (List Int)), xs11 = x13 ∧ Has 20 a [(2, vP b3 (0)), (3, vP b7 (0))] ∧ Mem C w [.box b7 (arrV xs11) 80, .box b3 (arrV (List.replicate 27 (0 : Int))) 80] [] ∧ ArrOk 27 xs11) ?_ ?_
  · refine wp_seq ?_
    refine region_pl ?_
    refine q_ hf rfl rfl rfl (e_assign hf rfl) fun a hf => ?_
    refine pl_nil ?_
    refine then_n ?_
    refine wp_block ?_
    obtain ⟨x22, h23, h14⟩ := bind_some h14
    refine wp_loopM h23 (fun s a w => ∃ (xs15 : (List Int)) (n17 : Int), (xs15, n17) = s ∧ Has 20 a [(0, vS (s1)), (2, vP b3 (0)), (3, vP b7 (0)), (4, vI (n17))] ∧ Mem C w [.box b7 (arrV xs15) 80, .box b3 (arrV (List.replicate 27 (0 : Int))) 80] [] ∧ ArrOk 27 xs15 ∧ R64 n17) ?_ ?_
    · exact ⟨(List.replicate 27 (0 : Int)), 0, rfl, hf.keep ⟨rfl, rfl, rfl, rfl, trivial⟩, hM.pick [] rfl, (arr_zero 27), (R64_lit rfl)⟩
    · rintro s o24 a w19 ⟨xs15, n17, rfl, hf, hM, hv16, hv18⟩ h25 hd26
      replace h25 : m_impl_countsOf_l1 s1 xs15 n17 = some o24 := h25
      unfold m_impl_countsOf_l1 at h25
      refine wp_seq ?_
      refine wp_seq ?_
      refine region_pl ?_
      refine q_ hf rfl rfl rfl (e_move hf rfl) fun a hf => ?_
      refine q_ hf rfl rfl rfl (e_move hf rfl) fun a hf => ?_
      refine q_ hf rfl rfl rfl (e_lenS hf (x := s1) rfl Try.underlying9) fun a hf => ?_
      refine q_ hf rfl rfl rfl (e_lt hf (x := n17) (y := (s1.length : Int)) rfl rfl) fun a hf => ?_
      refine pl_nil ?_
      refine then_n ?_
      rcases cond_some h25 with ⟨hc27, h25⟩ | ⟨hc27, h25⟩
      · refine cond_t hf rfl hc27 ?_
        refine wp_skip ?_
        refine then_n ?_
        refine wp_seq ?_
        refine wp_block ?_
        refine region_pl ?_
        refine q_ hf rfl rfl rfl (e_move hf rfl) fun a hf => ?_
        refine q_ hf rfl rfl rfl (e_move hf rfl) fun a hf => ?_
        obtain ⟨c28, hz29, h25⟩ := bind_some h25
        refine q_ hf rfl rfl rfl (e_indexS hf (x := s1) rfl rfl Try.underlying9 hz29) fun a hf => ?_
        obtain ⟨y30, hz31, h25⟩ := bind_some h25
        refine pl_l hf rfl rfl rfl (w_call hf Try.call81 rfl (r_impl_place ⟨_, Sh C _ _, none_, hM.sh_lt, none_not, C.G, hM.g_lt, g_none, hM.tabs⟩ c28 _ hz31) ?_)
        rintro _ w33 ⟨rfl, hM2, hv32⟩
        obtain ⟨hM, hx34, hup35⟩ := hM.back hM2
        dsimp only [List.cons_append, List.nil_append] at hM hup35
        clear hM2
        refine ⟨_, rfl, fun a hf => ?_⟩
        obtain ⟨n36, hz37, h25⟩ := bind_some h25
        refine q_ hf rfl rfl rfl (e_indexAddrArr hf (i := y30) rfl rfl Try.underlying80 Try.sizeOf3 (arr_in hv16 hz37).1 (arr_in hv16 hz37).2) fun a hf => ?_
        refine q_ hf rfl rfl rfl (e_load1 hf rfl Try.isAgg3 (hM.boxCell (k := 0) rfl (arr_at hz37))) fun a hf => ?_
        obtain ⟨z38, hz39, h25⟩ := bind_some h25
        refine q_ hf rfl rfl rfl (e_add hf rfl rfl hz39) fun a hf => ?_
        obtain ⟨n40, hz41, h25⟩ := bind_some h25
        refine q_ hf rfl rfl rfl (e_indexAddrArr hf (i := y30) rfl rfl Try.underlying80 Try.sizeOf3 (arr_in hv16 hz41).1 (arr_in hv16 hz41).2) fun a hf => ?_
        obtain ⟨xs43, hz44, h25⟩ := bind_some h25
        refine pl_0 hf rfl rfl (w_storeAt hf hM (i := y30) rfl rfl (k := 0) rfl Try.sizeOf3 hz44 fun w42 hM => ?_)
        dsimp only [List.set] at hM
        refine pl_nil ?_
        refine blk_n ?_
        refine then_n ?_
        refine region_pl ?_
        refine q_ hf rfl rfl rfl (e_move hf rfl) fun a hf => ?_
        obtain ⟨z45, hz46, h25⟩ := bind_some h25
        refine q_ hf rfl rfl rfl (e_add hf rfl rfl hz46) fun a hf => ?_
        refine q_ hf rfl rfl rfl (e_assign hf rfl) fun a hf => ?_
        refine pl_nil ?_
        obtain rfl := some_inj h25
        refine then_n ⟨_, rfl, ?_⟩
        exact ⟨xs43, z45, rfl, hf.keep ⟨rfl, rfl, rfl, rfl, trivial⟩, hM.pick [] rfl, (arr_set hv16 (chk_R hz39) hz44), (chk_R hz46)⟩
      · refine cond_f hf rfl hc27 ?_
        refine wp_exit ?_
        refine then_x ?_
        obtain rfl := some_inj h25
        obtain rfl := hd26 _ rfl
        try dsimp only at h14
        refine then_x ?_
        refine exit_hit ?_
        obtain rfl := some_inj h14
        refine then_n ?_
        exact ⟨xs15, rfl, hf.keep ⟨rfl, rfl, trivial⟩, hM.pick [] rfl, hv16⟩
  · rintro a w52 ⟨xs11, rfl, hf, hM, hv12⟩
    try dsimp only at h
    refine wp_seq ?_
    refine region_pl ?_
    refine q_ hf rfl rfl rfl (e_loadA hf (us := arrV xs11) rfl ⟨Try.isAgg80, Try.sizeOf80⟩ (arr_len hv12) (hM.boxSub (k := 0) (us := arrV xs11) (o := 0) rfl (arr_all _))) fun a hf => ?_
    refine pl_0 hf rfl rfl (w_storeArr hf hM rfl rfl (k := 1) rfl (arr_zero 27) hv12 Try.sizeOf80 fun w53 hM => ?_)
    dsimp only [List.set] at hM
    refine pl_nil ?_
    refine then_n ?_
    refine wp_ret ?_
    obtain rfl := some_inj h
    have hres54 := leaveV1 (P := Try.prog) Try.results64 (res_agg hf rfl ⟨Try.isAgg80, Try.sizeOf80⟩ (us := arrV xs11) (arr_len hv12) (hM.boxSub (k := 1) (o := 0) rfl (arr_all _)))
    have hM := hM.outs (own' := []) 0 rfl
    exact bodyPost_ret hres54 hf.defers ⟨rfl, hM.fin, hv12⟩

set_option maxRecDepth 100000 in
set_option maxHeartbeats 4000000 in
theorem r_impl_someDraws_1 (C : Cx) (x1 : Str) (hp2 : x1.length ≤ maxLen) (p3 : (List Str)) (b4 : Nat) (A5 : Option Addr) (c6 : Nat) (p7 : Int) (b8 : Nat) (o9 : Nat) (hp10 : (ptrRep intRep).R C.w0 C.S0 p7 [vP b8 o9]) (hO : Mem C C.w0 [.box b4 [vL A5 (p3) c6] 76, .row strRep A5 c6 9 p3 true] []) (hd : ∀ b, C.S0 b → ¬ ownB [.box b4 [vL A5 (p3) c6] 76, .row strRep A5 c6 9 p3 true] b) (r : (Bool × (List Str))) (h : m_impl_someDraws_1 x1 p3 p7 = some r) :
    Calls Try.prog 83 #[vS (x1), vP b4 (0), vP b8 (o9)] C.w0 fun e w => ∃ (A_1 : Option Addr), ∃ (c_1 : Nat), e = .returned (.bool (r.1)) ∧ Mem C w [.box b4 [vL A_1 (r.2) c_1] 76, .row strRep A_1 c_1 9 r.2 true] [] := by
  have hM := hO
  have hM := hM.addIn hd (y := .dat (ptrRep intRep) p7 [vP b8 o9]) hp10
  refine enter Try.func83 rfl Try.ntmps83 rfl fun a hf => ?_
  unfold m_impl_someDraws_1 at h
  refine wp_seq ?_
  refine region_pl ?_
  refine q_ hf rfl rfl rfl (e_assign hf rfl) fun a hf => ?_
  refine pl_nil ?_
  refine then_n ?_
  refine wp_seq ?_
  refine region_pl ?_
  refine q_ hf rfl rfl rfl (e_load1 hf rfl Try.isAgg76 (hM.boxCell (k := 0) rfl rfl)) fun a hf => ?_
  refine q_ hf rfl rfl rfl (e_move hf rfl) fun a hf => ?_
  refine pl_l hf rfl rfl rfl (w_slice hf hM (K := strRep) (xs := ([x1] : (List Str))) (os := [.tmp 6]) Try.underlying76 ei_9 rfl rfl rfl rfl rfl ⟨⟨[vS (x1)], rfl, ⟨rfl, hp2⟩⟩, trivial⟩ rfl fun b11 w12 hx13 hM a hf => ?_)
  obtain ⟨xs14, hz15, h⟩ := bind_some h
  refine pl_l hf rfl rfl rfl (w_append hf hM Try.underlying76 ei_9 rfl rfl rfl (k := 2) rfl (hM.srcRow (k := 0) rfl) hz15 fun A16 c17 w18 hM a hf => ?_)
  dsimp only [List.set] at hM
  refine pl_0 hf rfl rfl (w_store hf hM (us := [vL A16 (xs14) c17]) (cs' := [vL A16 (xs14) c17]) rfl rfl (k := 1) rfl rfl Try.sizeOf76 rfl rfl rfl fun w21 hM => ?_)
  dsimp only [List.set] at hM
  refine pl_nil ?_
  refine then_n ?_
  refine wp_seq ?_
  refine region_pl ?_
  refine q_ hf rfl rfl rfl (e_load1 hf rfl Try.isAgg76 (hM.boxCell (k := 1) rfl rfl)) fun a hf => ?_
  have hl24 := row_len (hM.ownAt (k := 2) rfl)
  refine q_ hf rfl rfl rfl (e_lenL hf (x := xs14) rfl Try.underlying76) fun a hf => ?_
  obtain ⟨_, hr25, hM⟩ := hM.deref (hM.dat (k := 0) rfl)
  obtain ⟨rfl, hv26⟩ := hr25
  refine q_ hf rfl rfl rfl (e_load1 hf rfl Try.isAgg3 (hM.litCell (k := 0) (j := 0) rfl rfl rfl)) fun a hf => ?_
  refine q_ hf rfl rfl rfl (e_le hf (x := (xs14.length : Int)) (y := p7) rfl rfl) fun a hf => ?_
  refine q_ hf rfl rfl rfl (e_assign hf rfl) fun a hf => ?_
  refine pl_nil ?_
  refine then_n ?_
  refine wp_ret ?_
  obtain rfl := some_inj h
  have hM := hM.front (k := 2) rfl
  dsimp only [List.eraseIdx] at hM
  have hM := hM.front (k := 2) rfl
  dsimp only [List.eraseIdx] at hM
  have hM := hM.outs (own' := [.box b4 [vL A16 (xs14) c17] 76, .row strRep A16 c17 9 xs14 true]) 2 rfl
  exact leave1 hf rfl rfl ⟨A16, c17, rfl, hM.fin⟩

set_option maxRecDepth 100000 in
set_option maxHeartbeats 4000000 in
theorem r_impl_tileAt (C : Cx) (k1 : Int) (hp2 : R64 k1) (r : UInt8) (h : m_impl_tileAt k1 = some r) :
    Calls Try.prog 86 #[vI (k1)] C.w0 fun e w => e = .returned (vB (r)) ∧ Mem C w [] [] := by
  have hM := Mem.begin C [] trivial
  refine enter Try.func86 rfl Try.ntmps86 rfl fun a hf => ?_
  unfold m_impl_tileAt at h
  refine wp_seq ?_
  refine region_pl ?_
  refine q_ hf rfl rfl rfl (e_assign hf rfl) fun a hf => ?_
  refine pl_nil ?_
  refine then_n ?_
  refine wp_seq ?_
  refine wp_seq ?_
  refine region_pl ?_
  refine q_ hf rfl rfl rfl (e_move hf rfl) fun a hf => ?_
  refine q_ hf rfl rfl rfl (e_eq hf (x := k1) (y := 0) rfl rfl) fun a hf => ?_
  refine pl_nil ?_
  refine then_n ?_
  rcases cond_some h with ⟨hc3, h⟩ | ⟨hc3, h⟩
  · refine cond_t hf rfl hc3 ?_
    refine wp_seq ?_
    refine region_pl ?_
    refine q_ hf rfl rfl rfl (e_assign hf rfl) fun a hf => ?_
    refine pl_nil ?_
    refine then_n ?_
    refine wp_ret ?_
    refine then_r ?_
    obtain rfl := some_inj h
    exact leave1 hf rfl rfl ⟨rfl, hM.fin⟩
  · refine cond_f hf rfl hc3 ?_
    refine wp_skip ?_
    refine then_n ?_
    refine wp_seq ?_
    refine region_pl ?_
    refine q_ hf rfl rfl rfl (e_move hf rfl) fun a hf => ?_
    obtain ⟨z4, hz5, h⟩ := bind_some h
    refine q_ hf rfl rfl rfl (e_add hf rfl rfl hz5) fun a hf => ?_
    obtain ⟨z6, hz7, h⟩ := bind_some h
    refine q_ hf rfl rfl rfl (e_sub hf rfl rfl hz7) fun a hf => ?_
    refine q_ hf rfl rfl rfl (e_convIB hf rfl Try.underlying3 Try.underlying5) fun a hf => ?_
    refine q_ hf rfl rfl rfl (e_assign hf rfl) fun a hf => ?_
    refine pl_nil ?_
    refine then_n ?_
    refine wp_ret ?_
    obtain rfl := some_inj h
    exact leave1 hf rfl rfl ⟨rfl, hM.fin⟩

def Ct_impl_subsets_1 (rc : Int → Str → Int → (List Int) → (List Str) → Int → Option (Bool × Str × (List Int) × (List Str))) : Prop := ∀ (C : Cx) (k1 : Int) (hp2 : R64 k1) (p3 : Str) (b4 : Nat) (A5 : Option Addr) (c6 : Nat) (p7 : Int) (b8 : Nat) (o9 : Nat) (hp10 : (ptrRep intRep).R C.w0 C.S0 p7 [vP b8 o9]) (b12 : Nat) (o13 : Nat) (p14 : (List Int)) (b15 : Nat) (hp16 : ArrOk 27 p14) (b18 : Nat) (o19 : Nat) (p20 : (List Str)) (b21 : Nat) (A22 : Option Addr) (c23 : Nat) (p24 : Int) (b25 : Nat) (o26 : Nat) (hp27 : (ptrRep intRep).R C.w0 C.S0 p24 [vP b25 o26]) (hp28 : Shr.good C.w0 C.S0 (.lit b12 (o13) [.func (.func 83) #[] #[vP b21 (0), vP b25 (o26)]])) (hp29 : Shr.good C.w0 C.S0 (.lit b18 (o19) [.func (.func 91) #[] #[vP b4 (0), vP b8 (o9), vP b12 (o13), vP b15 (0), vP b18 (o19)]])) (hO : Mem C C.w0 [.box b4 [vL A5 (p3) c6] 38, .row byteRep A5 c6 5 p3 true, .box b15 (arrV p14) 80, .box b21 [vL A22 (p20) c23] 76, .row strRep A22 c23 9 p20 true] []) (hd : ∀ b, C.S0 b → ¬ ownB [.box b4 [vL A5 (p3) c6] 38, .row byteRep A5 c6 5 p3 true, .box b15 (arrV p14) 80, .box b21 [vL A22 (p20) c23] 76, .row strRep A22 c23 9 p20 true] b) (r : (Bool × Str × (List Int) × (List Str))) (h : rc k1 p3 p7 p14 p20 p24 = some r),
    Calls Try.prog 91 #[vI (k1), vP b4 (0), vP b8 (o9), vP b12 (o13), vP b15 (0), vP b18 (o19)] C.w0 fun e w => ∃ (A_1 : Option Addr), ∃ (c_1 : Nat), ∃ (A_2 : Option Addr), ∃ (c_2 : Nat), e = .returned (.bool (r.1)) ∧ Mem C w [.box b4 [vL A_1 (r.2.1) c_1] 38, .row byteRep A_1 c_1 5 r.2.1 true, .box b15 (arrV r.2.2.1) 80, .box b21 [vL A_2 (r.2.2.2) c_2] 76, .row strRep A_2 c_2 9 r.2.2.2 true] [] ∧ ArrOk 27 r.2.2.1

set_option maxRecDepth 100000 in
set_option maxHeartbeats 4000000 in
theorem r_impl_subsets_1_b (rc : Int → Str → Int → (List Int) → (List Str) → Int → Option (Bool × Str × (List Int) × (List Str))) (ih : Ct_impl_subsets_1 rc) : Ct_impl_subsets_1 (m_impl_subsets_1_b rc) := by
  intro C k1 hp2 p3 b4 A5 c6 p7 b8 o9 hp10 b12 o13 p14 b15 hp16 b18 o19 p20 b21 A22 c23 p24 b25 o26 hp27 hp28 hp29 hO hd r h
  have hM := hO
  have hM := hM.addIn hd (y := .dat (ptrRep intRep) p7 [vP b8 o9]) hp10
  have hM := hM.addIn hd (y := .dat (ptrRep intRep) p24 [vP b25 o26]) hp27
  have hM := hM.addIn hd (y := .lit b12 (o13) [.func (.func 83) #[] #[vP b21 (0), vP b25 (o26)]]) hp28
  have hM := hM.addIn hd (y := .lit b18 (o19) [.func (.func 91) #[] #[vP b4 (0), vP b8 (o9), vP b12 (o13), vP b15 (0), vP b18 (o19)]]) hp29
  refine enter Try.func91 rfl Try.ntmps91 rfl fun a hf => ?_
  unfold m_impl_subsets_1_b at h
  refine wp_seq ?_
  refine region_pl ?_
  refine q_ hf rfl rfl rfl (e_assign hf rfl) fun a hf => ?_
  refine pl_nil ?_
  refine then_n ?_
  refine wp_seq ?_
  refine wp_seq ?_
  refine region_pl ?_
  refine q_ hf rfl rfl rfl (e_load1 hf rfl Try.isAgg38 (hM.boxCell (k := 0) rfl rfl)) fun a hf => ?_
  have hl30 := row_len (hM.ownAt (k := 1) rfl)
  refine q_ hf rfl rfl rfl (e_lenL hf (x := p3) rfl Try.underlying38) fun a hf => ?_
  obtain ⟨_, hr31, hM⟩ := hM.deref (hM.dat (k := 3) rfl)
  obtain ⟨rfl, hv32⟩ := hr31
  refine q_ hf rfl rfl rfl (e_load1 hf rfl Try.isAgg3 (hM.litCell (k := 0) (j := 0) rfl rfl rfl)) fun a hf => ?_
  refine q_ hf rfl rfl rfl (e_eq hf (x := (p3.length : Int)) (y := p7) rfl rfl) fun a hf => ?_
  refine pl_nil ?_
  refine then_n ?_
  rcases cond_some h with ⟨hc33, h⟩ | ⟨hc33, h⟩
  · refine cond_t hf rfl hc33 ?_
    refine wp_seq ?_
    refine region_pl ?_
    refine q_ hf rfl rfl rfl (e_load1 hf rfl Try.isAgg37 (hM.litCell (k := 2) (j := 0) rfl rfl rfl)) fun a hf => ?_
    refine q_ hf rfl rfl rfl (e_load1 hf rfl Try.isAgg38 (hM.boxCell (k := 0) rfl rfl)) fun a hf => ?_
    have hl34 := row_len (hM.ownAt (k := 1) rfl)
    refine q_ hf rfl rfl rfl (e_bytesStr hf (xs := p3) rfl Try.underlying38 Try.underlying5 Try.underlying9 (hM.lendRow (k := 1) rfl)) fun a hf => ?_
    have hM := hM.front (k := 4) rfl
    dsimp only [List.eraseIdx] at hM
    have hM := hM.front (k := 4) rfl
    dsimp only [List.eraseIdx] at hM
    have hM : Mem C _ ([.box b21 [vL A22 (p20) c23] 76, .row strRep A22 c23 9 p20 true] ++ [.box b4 [vL A5 (p3) c6] 38, .row byteRep A5 c6 5 p3 true, .box b15 (arrV p14) 80]) _ := hM
    obtain ⟨y35, hz36, h⟩ := bind_some h
    refine pl_l hf rfl rfl rfl (w_callV hf (fk := 83) (fc := [vP b21 (0), vP b25 (o26)]) rfl Try.call83 rfl (r_impl_someDraws_1 ⟨_, Sh C _ _, ownB _, hM.sh_lt, sub_dis, C.G, hM.g_lt, hM.g_own, hM.tabs⟩ p3 hl34 p20 _ _ _ p24 _ _ (hM.dat (k := 3) rfl) hM.sub sub_dis _ hz36) ?_)
    rintro _ w39 ⟨A37, c38, rfl, hM2⟩
    obtain ⟨hM, hup41⟩ := hM.backG hM2
    dsimp only [List.cons_append, List.nil_append] at hM hup41
    clear hM2
    refine ⟨_, rfl, fun a hf => ?_⟩
    refine q_ hf rfl rfl rfl (e_assign hf rfl) fun a hf => ?_
    refine pl_nil ?_
    refine then_n ?_
    refine wp_ret ?_
    refine then_r ?_
    obtain rfl := some_inj h
    have hM := hM.front (k := 1) rfl
    dsimp only [List.eraseIdx] at hM
    have hM := hM.front (k := 1) rfl
    dsimp only [List.eraseIdx] at hM
    have hM := hM.front (k := 4) rfl
    dsimp only [List.eraseIdx] at hM
    have hM := hM.front (k := 4) rfl
    dsimp only [List.eraseIdx] at hM
    have hM := hM.front (k := 4) rfl
    dsimp only [List.eraseIdx] at hM
    exact leave1 hf rfl rfl ⟨A5, c6, A37, c38, rfl, hM.fin, hp16⟩
  · refine cond_f hf rfl hc33 ?_
    refine wp_skip ?_
    refine then_n ?_
    obtain ⟨x50, h51, h⟩ := bind_some h
    refine seq_join (fun a w => ∃ (xs42 : (List Int)) (xs44 : Str) (xs47 : (List Str)) (A45 : Option Addr) (c46 : Nat) (A48 : Option Addr) (c49 : Nat), (.inl (xs42, xs44, xs47)) = x50 ∧ Has 50 a [] ∧ Mem C w [.box b4 [vL A45 (xs44) c46] 38, .row byteRep A45 c46 5 xs44 true, .box b15 (arrV xs42) 80, .box b21 [vL A48 (xs47) c49] 76, .row strRep A48 c49 9 xs47 true] [.lit b8 (o9) [vI (p7)], .lit b18 (o19) [.func (.func 91) #[] #[vP b4 (0), vP b8 (o9), vP b12 (o13), vP b15 (0), vP b18 (o19)]], .lit b12 (o13) [.func (.func 83) #[] #[vP b21 (0), vP b25 (o26)]], .dat (ptrRep intRep) p24 [vP b25 o26], .dat (ptrRep intRep) p7 [vP b8 o9]] ∧ ArrOk 27 xs42) ?_ ?_
    · refine wp_block ?_
      obtain ⟨x71, h72, h51⟩ := bind_some h51
      refine wp_loopM h72 (fun s a w => ∃ (xs52 : (List Int)) (xs54 : Str) (xs57 : (List Str)) (k60 : Int) (A55 : Option Addr) (c56 : Nat) (A58 : Option Addr) (c59 : Nat), (xs52, xs54, xs57, k60) = s ∧ Has 50 a [(0, vI (k60)), (1, vP b4 (0)), (4, vP b15 (0)), (5, vP b18 (o19))] ∧ Mem C w [.box b4 [vL A55 (xs54) c56] 38, .row byteRep A55 c56 5 xs54 true, .box b15 (arrV xs52) 80, .box b21 [vL A58 (xs57) c59] 76, .row strRep A58 c59 9 xs57 true] [.lit b8 (o9) [vI (p7)], .lit b18 (o19) [.func (.func 91) #[] #[vP b4 (0), vP b8 (o9), vP b12 (o13), vP b15 (0), vP b18 (o19)]], .lit b12 (o13) [.func (.func 83) #[] #[vP b21 (0), vP b25 (o26)]], .dat (ptrRep intRep) p24 [vP b25 o26], .dat (ptrRep intRep) p7 [vP b8 o9]] ∧ ArrOk 27 xs52 ∧ R64 k60) ?_ ?_
      · exact ⟨p14, p3, p20, k1, A5, c6, A22, c23, rfl, hf.keep ⟨rfl, rfl, rfl, rfl, trivial⟩, hM.pick [0, 1, 2, 3, 4] rfl, hp16, hp2⟩
      · rintro s o73 a w62 ⟨xs52, xs54, xs57, k60, A55, c56, A58, c59, rfl, hf, hM, hv53, hv61⟩ h74 hd75
        replace h74 : m_impl_subsets_1_l1 rc p7 p24 xs52 xs54 xs57 k60 = some o73 := h74
        unfold m_impl_subsets_1_l1 at h74
        refine wp_seq ?_
        refine wp_seq ?_
        refine region_pl ?_
        refine q_ hf rfl rfl rfl (e_move hf rfl) fun a hf => ?_
        refine q_ hf rfl rfl rfl (e_lt hf (x := k60) (y := 27) rfl rfl) fun a hf => ?_
        refine pl_nil ?_
        refine then_n ?_
        rcases cond_some h74 with ⟨hc76, h74⟩ | ⟨hc76, h74⟩
        · refine cond_t hf rfl hc76 ?_
          refine wp_skip ?_
          refine then_n ?_
          obtain ⟨x85, h86, h74⟩ := bind_some h74
          refine seq_join (fun a w => ∃ (xs77 : (List Int)) (xs79 : Str) (xs82 : (List Str)) (A80 : Option Addr) (c81 : Nat) (A83 : Option Addr) (c84 : Nat), (.inl (xs77, xs79, xs82)) = x85 ∧ Has 50 a [(0, vI (k60)), (1, vP b4 (0)), (4, vP b15 (0)), (5, vP b18 (o19))] ∧ Mem C w [.box b4 [vL A80 (xs79) c81] 38, .row byteRep A80 c81 5 xs79 true, .box b15 (arrV xs77) 80, .box b21 [vL A83 (xs82) c84] 76, .row strRep A83 c84 9 xs82 true] [.lit b8 (o9) [vI (p7)], .lit b18 (o19) [.func (.func 91) #[] #[vP b4 (0), vP b8 (o9), vP b12 (o13), vP b15 (0), vP b18 (o19)]], .lit b12 (o13) [.func (.func 83) #[] #[vP b21 (0), vP b25 (o26)]], .dat (ptrRep intRep) p24 [vP b25 o26], .dat (ptrRep intRep) p7 [vP b8 o9]] ∧ ArrOk 27 xs77) ?_ ?_
          · refine wp_block ?_
            refine wp_seq ?_
            refine wp_seq ?_
            refine region_pl ?_
            refine q_ hf rfl rfl rfl (e_move hf rfl) fun a hf => ?_
            obtain ⟨n87, hz88, h86⟩ := bind_some h86
            refine q_ hf rfl rfl rfl (e_indexAddrArr hf (i := k60) rfl rfl Try.underlying80 Try.sizeOf3 (arr_in hv53 hz88).1 (arr_in hv53 hz88).2) fun a hf => ?_
            refine q_ hf rfl rfl rfl (e_load1 hf rfl Try.isAgg3 (hM.boxCell (k := 2) rfl (arr_at hz88))) fun a hf => ?_
            refine q_ hf rfl rfl rfl (e_eq hf (x := n87) (y := 0) rfl rfl) fun a hf => ?_
            refine pl_nil ?_
            refine then_n ?_
            rcases cond_some h86 with ⟨hc89, h86⟩ | ⟨hc89, h86⟩
            · refine cond_t hf rfl hc89 ?_
              refine wp_exit ?_
              refine then_x ?_
              refine exit_hit ?_
              obtain rfl := some_inj h86
              refine then_n ?_
              exact ⟨xs52, xs54, xs57, A55, c56, A58, c59, rfl, hf.keep ⟨rfl, rfl, rfl, rfl, trivial⟩, hM.pick [0, 1, 2, 3, 4] rfl, hv53⟩
            · refine cond_f hf rfl hc89 ?_
              refine wp_skip ?_
              refine then_n ?_
              refine wp_seq ?_
              refine region_pl ?_
              refine q_ hf rfl rfl rfl (e_move hf rfl) fun a hf => ?_
              obtain ⟨n91, hz92, h86⟩ := bind_some h86
              refine q_ hf rfl rfl rfl (e_indexAddrArr hf (i := k60) rfl rfl Try.underlying80 Try.sizeOf3 (arr_in hv53 hz92).1 (arr_in hv53 hz92).2) fun a hf => ?_
              refine q_ hf rfl rfl rfl (e_load1 hf rfl Try.isAgg3 (hM.boxCell (k := 2) rfl (arr_at hz92))) fun a hf => ?_
              obtain ⟨z93, hz94, h86⟩ := bind_some h86
              refine q_ hf rfl rfl rfl (e_sub hf rfl rfl hz94) fun a hf => ?_
              obtain ⟨n95, hz96, h86⟩ := bind_some h86
              refine q_ hf rfl rfl rfl (e_indexAddrArr hf (i := k60) rfl rfl Try.underlying80 Try.sizeOf3 (arr_in hv53 hz96).1 (arr_in hv53 hz96).2) fun a hf => ?_
              obtain ⟨xs98, hz99, h86⟩ := bind_some h86
              refine pl_0 hf rfl rfl (w_storeAt hf hM (i := k60) rfl rfl (k := 2) rfl Try.sizeOf3 hz99 fun w97 hM => ?_)
              dsimp only [List.set] at hM
              refine pl_nil ?_
              refine then_n ?_
              refine wp_seq ?_
              obtain ⟨w100, hw⟩ : ∃ x, x = w97.drew := ⟨_, rfl⟩
              refine region_pi (.q 0 (.q 1 (.l 2 (.l 3 (.l 4 (.l 5 (.nil))))))) (Ext w100) rfl (by kernel_rfl) ?_
              have hM := hM.drew
              rw [← hw] at hM ⊢
              clear hw
              refine pi_q hf rfl rfl rfl rfl (Ext.refl _) (e_load1 hf rfl Try.isAgg38 (hM.boxCell (k := 0) rfl rfl)) fun a hf => ?_
              refine pi_q hf rfl rfl rfl rfl (Ext.refl _) (e_move hf rfl) fun a hf => ?_
              refine pi_one ?_
              obtain ⟨y101, hz102, h86⟩ := bind_some h86
              refine pi_l hf rfl rfl rfl rfl (w_call hf Try.call86 rfl (r_impl_tileAt ⟨_, Sh C _ _, none_, hM.sh_lt, none_not, C.G, hM.g_lt, g_none, hM.tabs⟩ k60 hv61 _ hz102) ?_)
              rintro _ w103 ⟨rfl, hM2⟩
              obtain ⟨hM, hx104, hup105⟩ := hM.back hM2
              dsimp only [List.cons_append, List.nil_append] at hM hup105
              clear hM2
              refine ⟨_, rfl, Ext w103, fun _ h => Ext.trans hx104 h, Ext.refl _, fun a hf => ?_⟩
              refine pi_one ?_
              refine pi_l hf rfl rfl rfl rfl (w_slice hf hM (K := byteRep) (xs := ([y101] : Str)) (os := [.tmp 32]) Try.underlying38 ei_5 rfl rfl rfl rfl rfl ⟨⟨[vB (y101)], rfl, rfl⟩, trivial⟩ rfl fun b106 w107 hx108 hM => ⟨Ext w107, fun _ h => Ext.trans hx108 h, Ext.refl _, fun a hf => ?_⟩)
              refine pi_one ?_
              obtain ⟨xs109, hz110, h86⟩ := bind_some h86
              refine pi_z hf rfl rfl rfl rfl (by kernel_rfl) (w_append hf hM Try.underlying38 ei_5 rfl rfl rfl (k := 2) rfl (hM.srcRow (k := 0) rfl) hz110 fun A111 c112 w113 hM a hf => ?_)
              dsimp only [List.set] at hM
              refine pi_one ?_
              refine pi_z0 hf rfl rfl rfl (by kernel_rfl) (w_store hf hM (us := [vL A111 (xs109) c112]) (cs' := [vL A111 (xs109) c112]) rfl rfl (k := 1) rfl rfl Try.sizeOf38 rfl rfl rfl fun w116 hM => ?_)
              dsimp only [List.set] at hM
              refine pi_nil ?_
              refine then_n ?_
              refine wp_seq ?_
              refine region_pl ?_
              refine q_ hf rfl rfl rfl (e_load1 hf rfl Try.isAgg108 (hM.litCell (k := 1) (j := 0) rfl rfl rfl)) fun a hf => ?_
              refine q_ hf rfl rfl rfl (e_move hf rfl) fun a hf => ?_
              have hM := hM.front (k := 5) rfl
              dsimp only [List.eraseIdx] at hM
              have hM := hM.front (k := 5) rfl
              dsimp only [List.eraseIdx] at hM
              have hM := hM.front (k := 5) rfl
              dsimp only [List.eraseIdx] at hM
              have hM := hM.front (k := 5) rfl
              dsimp only [List.eraseIdx] at hM
              have hM := hM.front (k := 5) rfl
              dsimp only [List.eraseIdx] at hM
              have hM : Mem C _ ([.box b4 [vL A111 (xs109) c112] 38, .row byteRep A111 c112 5 xs109 true, .box b15 (arrV xs98) 80, .box b21 [vL A58 (xs57) c59] 76, .row strRep A58 c59 9 xs57 true] ++ [.row byteRep (some ⟨b106, 0, none⟩) 1 5 ([y101] : Str) true]) _ := hM
              obtain ⟨y119, hz120, h86⟩ := bind_some h86
              refine pl_l hf rfl rfl rfl (w_callV hf (fk := 91) (fc := [vP b4 (0), vP b8 (o9), vP b12 (o13), vP b15 (0), vP b18 (o19)]) rfl Try.call91 rfl (ih ⟨_, Sh C _ _, ownB _, hM.sh_lt, sub_dis, C.G, hM.g_lt, hM.g_own, hM.tabs⟩ k60 hv61 xs109 _ _ _ p7 _ _ (hM.dat (k := 4) rfl) _ _ xs98 _ (arr_set hv53 (chk_R hz94) hz99) _ _ xs57 _ _ _ p24 _ _ (hM.dat (k := 3) rfl) (hM.at_ (k := 2) rfl) (hM.at_ (k := 1) rfl) hM.sub sub_dis _ hz120) ?_)
              rintro _ w126 ⟨A121, c122, A124, c125, rfl, hM2, hv123⟩
              obtain ⟨hM, hup128⟩ := hM.backG hM2
              dsimp only [List.cons_append, List.nil_append] at hM hup128
              clear hM2
              refine ⟨_, rfl, fun a hf => ?_⟩
              refine q_ hf rfl rfl rfl (e_assign hf rfl) fun a hf => ?_
              refine pl_nil ?_
              refine then_n ?_
              refine wp_seq ?_
              refine region_pl ?_
              refine q_ hf rfl rfl rfl (e_load1 hf rfl Try.isAgg38 (hM.boxCell (k := 0) rfl rfl)) fun a hf => ?_
              refine q_ hf rfl rfl rfl (e_load1 hf rfl Try.isAgg38 (hM.boxCell (k := 0) rfl rfl)) fun a hf => ?_
              have hl129 := row_len (hM.ownAt (k := 1) rfl)
              refine q_ hf rfl rfl rfl (e_lenL hf (x := y119.2.1) rfl Try.underlying38) fun a hf => ?_
              obtain ⟨z130, hz131, h86⟩ := bind_some h86
              refine q_ hf rfl rfl rfl (e_sub hf rfl rfl hz131) fun a hf => ?_
              obtain ⟨l132, hz133, h86⟩ := bind_some h86
              have hr134 := hM.rowForm (k := 1) rfl
              have hM := hM.truncRow (k := 1) rfl hz133
              dsimp only [List.set] at hM
              refine q_ hf rfl rfl rfl (e_trunc hf (xs := y119.2.1) rfl rfl Try.underlying38 Try.sizeOf5 hr134 hz133) fun a hf => ?_
              refine pl_0 hf rfl rfl (w_store hf hM (us := [vL A121 (l132) c122]) (cs' := [vL A121 (l132) c122]) rfl rfl (k := 0) rfl rfl Try.sizeOf38 rfl rfl rfl fun w135 hM => ?_)
              dsimp only [List.set] at hM
              refine pl_nil ?_
              refine then_n ?_
              refine wp_seq ?_
              refine region_pl ?_
              refine q_ hf rfl rfl rfl (e_move hf rfl) fun a hf => ?_
              obtain ⟨n138, hz139, h86⟩ := bind_some h86
              refine q_ hf rfl rfl rfl (e_indexAddrArr hf (i := k60) rfl rfl Try.underlying80 Try.sizeOf3 (arr_in hv123 hz139).1 (arr_in hv123 hz139).2) fun a hf => ?_
              refine q_ hf rfl rfl rfl (e_load1 hf rfl Try.isAgg3 (hM.boxCell (k := 2) rfl (arr_at hz139))) fun a hf => ?_
              obtain ⟨z140, hz141, h86⟩ := bind_some h86
              refine q_ hf rfl rfl rfl (e_add hf rfl rfl hz141) fun a hf => ?_
              obtain ⟨n142, hz143, h86⟩ := bind_some h86
              refine q_ hf rfl rfl rfl (e_indexAddrArr hf (i := k60) rfl rfl Try.underlying80 Try.sizeOf3 (arr_in hv123 hz143).1 (arr_in hv123 hz143).2) fun a hf => ?_
              obtain ⟨xs145, hz146, h86⟩ := bind_some h86
              refine pl_0 hf rfl rfl (w_storeAt hf hM (i := k60) rfl rfl (k := 2) rfl Try.sizeOf3 hz146 fun w144 hM => ?_)
              dsimp only [List.set] at hM
              refine pl_nil ?_
              refine then_n ?_
              refine wp_seq ?_
              refine region_pl ?_
              refine q_ hf rfl rfl rfl (e_move hf rfl) fun a hf => ?_
              refine q_ hf rfl rfl rfl (e_not hf rfl) fun a hf => ?_
              refine pl_nil ?_
              refine then_n ?_
              rcases cond_some h86 with ⟨hc147, h86⟩ | ⟨hc147, h86⟩
              · refine cond_t hf rfl hc147 ?_
                refine wp_seq ?_
                refine region_pl ?_
                refine q_ hf rfl rfl rfl (e_assign hf rfl) fun a hf => ?_
                refine pl_nil ?_
                refine then_n ?_
                refine wp_ret ?_
                refine blk_r ?_
                obtain rfl := some_inj h86
                try dsimp only at h74
                refine then_r ?_
                obtain rfl := some_inj h74
                obtain rfl := hd75 _ rfl
                try dsimp only at h51
                refine then_r ?_
                refine blk_r ?_
                obtain rfl := some_inj h51
                try dsimp only at h
                refine then_r ?_
                obtain rfl := some_inj h
                have hM := hM.outs (own' := [.box b4 [vL A121 (l132) c122] 38, .row byteRep A121 c122 5 l132 true, .box b15 (arrV xs145) 80, .box b21 [vL A124 (y119.2.2.2) c125] 76, .row strRep A124 c125 9 y119.2.2.2 true]) 5 rfl
                exact leave1 hf rfl rfl ⟨A121, c122, A124, c125, rfl, hM.fin, (arr_set hv123 (chk_R hz141) hz146)⟩
              · refine cond_f hf rfl hc147 ?_
                refine wp_skip ?_
                refine blk_n ?_
                obtain rfl := some_inj h86
                refine then_n ?_
                exact ⟨xs145, l132, y119.2.2.2, A121, c122, A124, c125, rfl, hf.keep ⟨rfl, rfl, rfl, rfl, trivial⟩, (hM.drop (.cons_cons _ (.cons_cons _ (.cons_cons _ (.cons_cons _ (.cons_cons _ (.cons _ .slnil))))))).pick [0, 1, 2, 3, 4] rfl, (arr_set hv123 (chk_R hz141) hz146)⟩
          · rintro a w149 ⟨xs77, xs79, xs82, A80, c81, A83, c84, rfl, hf, hM, hv78⟩
            try dsimp only at h74
            refine region_pl ?_
            refine q_ hf rfl rfl rfl (e_move hf rfl) fun a hf => ?_
            obtain ⟨z150, hz151, h74⟩ := bind_some h74
            refine q_ hf rfl rfl rfl (e_add hf rfl rfl hz151) fun a hf => ?_
            refine q_ hf rfl rfl rfl (e_assign hf rfl) fun a hf => ?_
            refine pl_nil ?_
            obtain rfl := some_inj h74
            refine then_n ⟨_, rfl, ?_⟩
            exact ⟨xs77, xs79, xs82, z150, A80, c81, A83, c84, rfl, hf.keep ⟨rfl, rfl, rfl, rfl, trivial⟩, hM.pick [0, 1, 2, 3, 4] rfl, hv78, (chk_R hz151)⟩
        · refine cond_f hf rfl hc76 ?_
          refine wp_exit ?_
          refine then_x ?_
          obtain rfl := some_inj h74
          obtain rfl := hd75 _ rfl
          try dsimp only at h51
          refine then_x ?_
          refine exit_hit ?_
          obtain rfl := some_inj h51
          refine then_n ?_
          exact ⟨xs52, xs54, xs57, A55, c56, A58, c59, rfl, hf.keep trivial, hM.pick [0, 1, 2, 3, 4] rfl, hv53⟩
    · rintro a w159 ⟨xs42, xs44, xs47, A45, c46, A48, c49, rfl, hf, hM, hv43⟩
      try dsimp only at h
      refine wp_seq ?_
      refine region_pl ?_
      refine q_ hf rfl rfl rfl (e_assign hf rfl) fun a hf => ?_
      refine pl_nil ?_
      refine then_n ?_
      refine wp_ret ?_
      obtain rfl := some_inj h
      exact leave1 hf rfl rfl ⟨A45, c46, A48, c49, rfl, hM.fin, hv43⟩

theorem r_impl_subsets_1_n : ∀ n, Ct_impl_subsets_1 (m_impl_subsets_1_n n)
  | 0 => fun C k1 hp2 p3 b4 A5 c6 p7 b8 o9 hp10 b12 o13 p14 b15 hp16 b18 o19 p20 b21 A22 c23 p24 b25 o26 hp27 hp28 hp29 hO hd r h => by cases h
  | n + 1 => r_impl_subsets_1_b _ (r_impl_subsets_1_n n)

theorem r_impl_subsets_1 : Ct_impl_subsets_1 m_impl_subsets_1 := r_impl_subsets_1_n fuelN

set_option maxRecDepth 100000 in
set_option maxHeartbeats 4000000 in
theorem r_impl_subsets (C : Cx) (c1 : (List Int)) (hp2 : ArrOk 27 c1) (n3 : Int) (hp4 : R64 n3) (p6 : (List Str)) (b7 : Nat) (A8 : Option Addr) (c9 : Nat) (p10 : Int) (b11 : Nat) (o12 : Nat) (hp13 : (ptrRep intRep).R C.w0 C.S0 p10 [vP b11 o12]) (hO : Mem C C.w0 [.box b7 [vL A8 (p6) c9] 76, .row strRep A8 c9 9 p6 true] []) (hd : ∀ b, C.S0 b → ¬ ownB [.box b7 [vL A8 (p6) c9] 76, .row strRep A8 c9 9 p6 true] b) (r : (List Str)) (h : m_impl_subsets c1 n3 p6 p10 = some r) :
    Calls Try.prog 82 #[.agg (arrV c1).toArray, vI (n3), .func (.func 83) #[] #[vP b7 (0), vP b11 (o12)]] C.w0 fun e w => ∃ (A_1 : Option Addr), ∃ (c_1 : Nat), e = .returned (.tuple #[]) ∧ Mem C w [.box b7 [vL A_1 (r) c_1] 76, .row strRep A_1 c_1 9 r true] [] := by
  have hM := hO
  have hM := hM.addIn hd (y := .dat (ptrRep intRep) p10 [vP b11 o12]) hp13
  refine enter Try.func82 rfl Try.ntmps82 rfl fun a hf => ?_
  unfold m_impl_subsets at h
  refine wp_seq ?_
  refine region_pl ?_
  refine pl_l hf rfl rfl rfl (w_box hf hM (cs := arrV c1) rfl rfl fun b14 w15 hx16 hM a hf => ?_)
  refine pl_l hf rfl rfl rfl (w_box hf hM (cs := [vI (n3)]) rfl rfl fun b18 w19 hx20 hM a hf => ?_)
  refine pl_l hf rfl rfl rfl (w_box hf hM (cs := [.func (.func 83) #[] #[vP b7 (0), vP b11 (o12)]]) rfl rfl fun b22 w23 hx24 hM a hf => ?_)
  refine pl_nil ?_
  refine then_n ?_
  refine wp_seq ?_
  refine region_pl ?_
  refine q_ hf rfl rfl rfl (e_load1 hf rfl Try.isAgg3 (hM.boxCell (k := 1) rfl rfl)) fun a hf => ?_
  obtain ⟨u26, hz27, h⟩ := bind_some h
  refine pl_l hf rfl rfl rfl (w_makeCap hf hM (K := byteRep) Try.underlying38 ei_5 Try.zeroValue5 rfl rfl hz27 fun b28 w29 hx30 hM a hf => ?_)
  refine pl_l hf rfl rfl rfl (w_alloc hM (cs := [vL none (([] : Str)) 0]) Try.zeroValue38 rfl fun b31 w32 hx33 hM a hf => ?_)
  refine pl_0 hf rfl rfl (w_store hf hM (us := [vL (some ⟨b28, 0, none⟩) (([] : Str)) ((n3 : Int).toNat)]) (cs' := [vL (some ⟨b28, 0, none⟩) (([] : Str)) ((n3 : Int).toNat)]) rfl rfl (k := 0) rfl rfl Try.sizeOf38 rfl rfl rfl fun w35 hM => ?_)
  dsimp only [List.set] at hM
  refine pl_nil ?_
  refine then_n ?_
  refine wp_seq ?_
  refine region_pl ?_
  refine pl_l hf rfl rfl rfl (w_alloc hM (cs := [.nilFunc]) Try.zeroValue108 rfl fun b38 w39 hx40 hM a hf => ?_)
  refine pl_nil ?_
  refine then_n ?_
  refine wp_seq ?_
  refine region_pl ?_
  refine q_ hf rfl rfl rfl (w_makeFunc hf rfl) fun a hf => ?_
  refine pl_0 hf rfl rfl (w_store hf hM (us := [.func (.func 91) #[] #[vP b31 (0), vP b18 (0), vP b22 (0), vP b14 (0), vP b38 (0)]]) (cs' := [.func (.func 91) #[] #[vP b31 (0), vP b18 (0), vP b22 (0), vP b14 (0), vP b38 (0)]]) rfl rfl (k := 0) rfl rfl Try.sizeOf108 rfl rfl rfl fun w42 hM => ?_)
  dsimp only [List.set] at hM
  refine pl_nil ?_
  refine then_n ?_
  refine region_pl ?_
  refine q_ hf rfl rfl rfl (e_load1 hf rfl Try.isAgg108 (hM.boxCell (k := 0) rfl rfl)) fun a hf => ?_
  have hM := hM.freezeBox (k := 3) rfl rfl
  dsimp only [List.eraseIdx] at hM
  have hM := hM.freezeBox (k := 0) rfl rfl
  dsimp only [List.eraseIdx] at hM
  have hM := hM.freezeBox (k := 2) rfl rfl
  dsimp only [List.eraseIdx] at hM
  have hM : Mem C _ ([.box b31 [vL (some ⟨b28, 0, none⟩) (([] : Str)) ((n3 : Int).toNat)] 38, .row byteRep (some ⟨b28, 0, none⟩) ((n3 : Int).toNat) 5 ([] : Str) true, .box b14 (arrV c1) 80, .box b7 [vL A8 (p6) c9] 76, .row strRep A8 c9 9 p6 true] ++ []) _ := hM
  obtain ⟨y45, hz46, h⟩ := bind_some h
  refine pl_l hf rfl rfl rfl (w_callV hf (fk := 91) (fc := [vP b31 (0), vP b18 (0), vP b22 (0), vP b14 (0), vP b38 (0)]) rfl Try.call91 rfl (r_impl_subsets_1 ⟨_, Sh C _ _, ownB _, hM.sh_lt, sub_dis, C.G, hM.g_lt, hM.g_own, hM.tabs⟩ 0 (R64_lit rfl) ([] : Str) _ _ _ n3 _ _ (hM.litPtr (k := 0) (d := 0) (us := [vI (n3)]) rfl rfl rfl ⟨rfl, hp4⟩) _ _ c1 _ hp2 _ _ p6 _ _ _ p10 _ _ (hM.dat (k := 3) rfl) (hM.at_ (k := 2) rfl) (hM.at_ (k := 1) rfl) hM.sub sub_dis _ hz46) ?_)
  rintro _ w52 ⟨A47, c48, A50, c51, rfl, hM2, hv49⟩
  obtain ⟨hM, hup54⟩ := hM.backG hM2
  dsimp only [List.cons_append, List.nil_append] at hM hup54
  clear hM2
  refine ⟨_, rfl, fun a hf => ?_⟩
  refine pl_nil ?_
  obtain rfl := some_inj h
  have hM := hM.front (k := 4) rfl
  dsimp only [List.eraseIdx] at hM
  have hM := hM.front (k := 4) rfl
  dsimp only [List.eraseIdx] at hM
  have hM := hM.outs (own' := [.box b7 [vL A50 (y45.2.2.2) c51] 76, .row strRep A50 c51 9 y45.2.2.2 true]) 2 rfl
  exact leave0n hf rfl ⟨A50, c51, rfl, hM.fin⟩

set_option maxRecDepth 100000 in
set_option maxHeartbeats 4000000 in
theorem r_impl_someDraws (C : Cx) (pile1 : Str) (hp2 : pile1.length ≤ maxLen) (n3 : Int) (hp4 : R64 n3) (most5 : Int) (hp6 : R64 most5) (r : (List Str)) (h : m_impl_someDraws pile1 n3 most5 = some r) :
    Calls Try.prog 65 #[vS (pile1), vI (n3), vI (most5)] C.w0 fun e w => ∃ (A_1 : Option Addr), ∃ (c_1 : Nat), e = .returned (vL A_1 (r) c_1) ∧ Mem C w [.row strRep A_1 c_1 9 r true] [] := by
  have hM := Mem.begin C [] trivial
  refine enter Try.func65 rfl Try.ntmps65 rfl fun a hf => ?_
  unfold m_impl_someDraws at h
  refine wp_seq ?_
  refine region_pl ?_
  refine pl_l hf rfl rfl rfl (w_box hf hM (cs := [vI (most5)]) rfl rfl fun b7 w8 hx9 hM a hf => ?_)
  refine q_ hf rfl rfl rfl (e_assign hf rfl) fun a hf => ?_
  refine pl_nil ?_
  refine then_n ?_
  refine wp_seq ?_
  refine region_pl ?_
  refine pl_l hf rfl rfl rfl (w_slice0 (K := strRep) hM Try.underlying76 ei_9 fun b11 w12 hx13 hM a hf => ?_)
  refine pl_l hf rfl rfl rfl (w_alloc hM (cs := [vL none (([] : (List Str))) 0]) Try.zeroValue76 rfl fun b14 w15 hx16 hM a hf => ?_)
  refine pl_0 hf rfl rfl (w_store hf hM (us := [vL (some ⟨b11, 0, none⟩) (([] : (List Str))) 0]) (cs' := [vL (some ⟨b11, 0, none⟩) (([] : (List Str))) 0]) rfl rfl (k := 0) rfl rfl Try.sizeOf76 rfl rfl rfl fun w18 hM => ?_)
  dsimp only [List.set] at hM
  refine pl_nil ?_
  refine then_n ?_
  refine wp_seq ?_
  refine region_pl ?_
  refine q_ hf rfl rfl rfl (e_move hf rfl) fun a hf => ?_
  obtain ⟨y21, hz22, h⟩ := bind_some h
  refine pl_l hf rfl rfl rfl (w_call hf Try.call64 rfl (r_impl_countsOf ⟨_, Sh C _ _, none_, hM.sh_lt, none_not, C.G, hM.g_lt, g_none, hM.tabs⟩ pile1 hp2 _ hz22) ?_)
  rintro _ w24 ⟨rfl, hM2, hv23⟩
  obtain ⟨hM, hx25, hup26⟩ := hM.back hM2
  dsimp only [List.cons_append, List.nil_append] at hM hup26
  clear hM2
  refine ⟨_, rfl, fun a hf => ?_⟩
  refine q_ hf rfl rfl rfl (e_move hf rfl) fun a hf => ?_
  refine q_ hf rfl rfl rfl (w_makeFunc hf rfl) fun a hf => ?_
  have hM := hM.freezeBox (k := 2) rfl rfl
  dsimp only [List.eraseIdx] at hM
  have hM : Mem C _ ([.box b14 [vL (some ⟨b11, 0, none⟩) (([] : (List Str))) 0] 76, .row strRep (some ⟨b11, 0, none⟩) 0 9 ([] : (List Str)) true] ++ []) _ := hM
  obtain ⟨y27, hz28, h⟩ := bind_some h
  refine pl_l hf rfl rfl rfl (w_call hf Try.call82 rfl (r_impl_subsets ⟨_, Sh C _ _, ownB _, hM.sh_lt, sub_dis, C.G, hM.g_lt, hM.g_own, hM.tabs⟩ y21 hv23 n3 hp4 ([] : (List Str)) _ _ _ most5 _ _ (hM.litPtr (k := 0) (d := 0) (us := [vI (most5)]) rfl rfl rfl ⟨rfl, hp6⟩) hM.sub sub_dis _ hz28) ?_)
  rintro _ w31 ⟨A29, c30, rfl, hM2⟩
  obtain ⟨hM, hup33⟩ := hM.backG hM2
  dsimp only [List.cons_append, List.nil_append] at hM hup33
  clear hM2
  refine ⟨_, rfl, fun a hf => ?_⟩
  refine pl_nil ?_
  refine then_n ?_
  refine wp_seq ?_
  refine region_pl ?_
  refine q_ hf rfl rfl rfl (e_load1 hf rfl Try.isAgg76 (hM.boxCell (k := 0) rfl rfl)) fun a hf => ?_
  refine q_ hf rfl rfl rfl (e_assign hf rfl) fun a hf => ?_
  refine pl_nil ?_
  refine then_n ?_
  refine wp_ret ?_
  obtain rfl := some_inj h
  have hM := hM.front (k := 1) rfl
  dsimp only [List.eraseIdx] at hM
  have hM := hM.outs (own' := [.row strRep A29 c30 9 y27 true]) 1 rfl
  exact leave1 hf rfl rfl ⟨A29, c30, rfl, hM.fin⟩

set_option maxRecDepth 100000 in
set_option maxHeartbeats 4000000 in
theorem r_impl_choose (C : Cx) (n1 : Int) (hp2 : R64 n1) (k3 : Int) (hp4 : R64 k3) (r : Int) (h : m_impl_choose n1 k3 = some r) :
    Calls Try.prog 45 #[vI (n1), vI (k3)] C.w0 fun e w => e = .returned (vI (r)) ∧ Mem C w [] [] ∧ R64 r := by
  have hM := Mem.begin C [] trivial
  refine enter Try.func45 rfl Try.ntmps45 rfl fun a hf => ?_
  unfold m_impl_choose at h
  refine wp_seq ?_
  refine region_pl ?_
  refine q_ hf rfl rfl rfl (e_assign hf rfl) fun a hf => ?_
  refine pl_nil ?_
  refine then_n ?_
  refine wp_seq ?_
  refine wp_seq ?_
  refine region_pl ?_
  refine q_ hf rfl rfl rfl (e_move hf rfl) fun a hf => ?_
  refine q_ hf rfl rfl rfl (e_move hf rfl) fun a hf => ?_
  refine q_ hf rfl rfl rfl (e_gt hf (x := k3) (y := n1) rfl rfl) fun a hf => ?_
  refine pl_nil ?_
  refine then_n ?_
  rcases cond_some h with ⟨hc5, h⟩ | ⟨hc5, h⟩
  · refine cond_t hf rfl hc5 ?_
    refine wp_seq ?_
    refine region_pl ?_
    refine q_ hf rfl rfl rfl (e_assign hf rfl) fun a hf => ?_
    refine pl_nil ?_
    refine then_n ?_
    refine wp_ret ?_
    refine then_r ?_
    obtain rfl := some_inj h
    exact leave1 hf rfl rfl ⟨rfl, hM.fin, (R64_lit rfl)⟩
  · refine cond_f hf rfl hc5 ?_
    refine wp_skip ?_
    refine then_n ?_
    refine wp_seq ?_
    refine region_pl ?_
    refine q_ hf rfl rfl rfl (e_assign hf rfl) fun a hf => ?_
    refine pl_nil ?_
    refine then_n ?_
    obtain ⟨x8, h9, h⟩ := bind_some h
    refine seq_join (fun a w => ∃ (n6 : Int), n6 = x8 ∧ Has 25 a [(5, vI (n6))] ∧ Mem C w [] [] ∧ R64 n6) ?_ ?_
    · refine wp_seq ?_
      refine region_pl ?_
      refine q_ hf rfl rfl rfl (e_assign hf rfl) fun a hf => ?_
      refine pl_nil ?_
      refine then_n ?_
      refine wp_block ?_
      obtain ⟨x17, h18, h9⟩ := bind_some h9
      refine wp_loopM h18 (fun s a w => ∃ (n10 : Int) (n12 : Int), (n10, n12) = s ∧ Has 25 a [(0, vI (n1)), (1, vI (k3)), (5, vI (n10)), (6, vI (n12))] ∧ Mem C w [] [] ∧ R64 n10 ∧ R64 n12) ?_ ?_
      · exact ⟨1, 1, rfl, hf.keep ⟨rfl, rfl, rfl, rfl, trivial⟩, hM.pick [] rfl, (R64_lit rfl), (R64_lit rfl)⟩
      · rintro s o19 a w14 ⟨n10, n12, rfl, hf, hM, hv11, hv13⟩ h20 hd21
        replace h20 : m_impl_choose_l1 k3 n1 n10 n12 = some o19 := h20
        unfold m_impl_choose_l1 at h20
        refine wp_seq ?_
        refine wp_seq ?_
        refine region_pl ?_
        refine q_ hf rfl rfl rfl (e_move hf rfl) fun a hf => ?_
        refine q_ hf rfl rfl rfl (e_move hf rfl) fun a hf => ?_
        refine q_ hf rfl rfl rfl (e_le hf (x := n12) (y := k3) rfl rfl) fun a hf => ?_
        refine pl_nil ?_
        refine then_n ?_
        rcases cond_some h20 with ⟨hc22, h20⟩ | ⟨hc22, h20⟩
        · refine cond_t hf rfl hc22 ?_
          refine wp_skip ?_
          refine then_n ?_
          refine wp_seq ?_
          refine wp_block ?_
          refine region_pl ?_
          refine q_ hf rfl rfl rfl (e_move hf rfl) fun a hf => ?_
          refine q_ hf rfl rfl rfl (e_move hf rfl) fun a hf => ?_
          refine q_ hf rfl rfl rfl (e_move hf rfl) fun a hf => ?_
          obtain ⟨z23, hz24, h20⟩ := bind_some h20
          refine q_ hf rfl rfl rfl (e_sub hf rfl rfl hz24) fun a hf => ?_
          refine q_ hf rfl rfl rfl (e_move hf rfl) fun a hf => ?_
          obtain ⟨z25, hz26, h20⟩ := bind_some h20
          refine q_ hf rfl rfl rfl (e_add hf rfl rfl hz26) fun a hf => ?_
          obtain ⟨z27, hz28, h20⟩ := bind_some h20
          refine q_ hf rfl rfl rfl (e_mul hf rfl rfl hz28) fun a hf => ?_
          refine q_ hf rfl rfl rfl (e_move hf rfl) fun a hf => ?_
          obtain ⟨z29, hz30, h20⟩ := bind_some h20
          refine q_ hf rfl rfl rfl (e_quo hf rfl rfl hz30) fun a hf => ?_
          refine q_ hf rfl rfl rfl (e_assign hf rfl) fun a hf => ?_
          refine pl_nil ?_
          refine blk_n ?_
          refine then_n ?_
          refine region_pl ?_
          refine q_ hf rfl rfl rfl (e_move hf rfl) fun a hf => ?_
          obtain ⟨z31, hz32, h20⟩ := bind_some h20
          refine q_ hf rfl rfl rfl (e_add hf rfl rfl hz32) fun a hf => ?_
          refine q_ hf rfl rfl rfl (e_assign hf rfl) fun a hf => ?_
          refine pl_nil ?_
          obtain rfl := some_inj h20
          refine then_n ⟨_, rfl, ?_⟩
          exact ⟨z29, z31, rfl, hf.keep ⟨rfl, rfl, rfl, rfl, trivial⟩, hM.pick [] rfl, (quoI_R hz30), (chk_R hz32)⟩
        · refine cond_f hf rfl hc22 ?_
          refine wp_exit ?_
          refine then_x ?_
          obtain rfl := some_inj h20
          obtain rfl := hd21 _ rfl
          try dsimp only at h9
          refine then_x ?_
          refine exit_hit ?_
          obtain rfl := some_inj h9
          refine then_n ?_
          exact ⟨n10, rfl, hf.keep ⟨rfl, trivial⟩, hM.pick [] rfl, hv11⟩
    · rintro a w38 ⟨n6, rfl, hf, hM, hv7⟩
      try dsimp only at h
      refine wp_seq ?_
      refine region_pl ?_
      refine q_ hf rfl rfl rfl (e_move hf rfl) fun a hf => ?_
      refine q_ hf rfl rfl rfl (e_assign hf rfl) fun a hf => ?_
      refine pl_nil ?_
      refine then_n ?_
      refine wp_ret ?_
      obtain rfl := some_inj h
      exact leave1 hf rfl rfl ⟨rfl, hM.fin, hv7⟩

set_option maxRecDepth 100000 in
set_option maxHeartbeats 4000000 in
theorem r_impl_waysToDraw (C : Cx) (c1 : (List Int)) (hp2 : ArrOk 27 c1) (drawn3 : Str) (hp4 : drawn3.length ≤ maxLen) (r : Int) (h : m_impl_waysToDraw c1 drawn3 = some r) :
    Calls Try.prog 66 #[.agg (arrV c1).toArray, vS (drawn3)] C.w0 fun e w => e = .returned (vI (r)) ∧ Mem C w [] [] ∧ R64 r := by
  have hM := Mem.begin C [] trivial
  refine enter Try.func66 rfl Try.ntmps66 rfl fun a hf => ?_
  unfold m_impl_waysToDraw at h
  refine wp_seq ?_
  refine region_pl ?_
  refine pl_l hf rfl rfl rfl (w_box hf hM (cs := arrV c1) rfl rfl fun b5 w6 hx7 hM a hf => ?_)
  refine q_ hf rfl rfl rfl (e_assign hf rfl) fun a hf => ?_
  refine pl_nil ?_
  refine then_n ?_
  refine wp_seq ?_
  refine region_pl ?_
  refine q_ hf rfl rfl rfl (e_assign hf rfl) fun a hf => ?_
  refine pl_nil ?_
  refine then_n ?_
  obtain ⟨x11, h12, h⟩ := bind_some h
  refine seq_join (fun a w => ∃ (n9 : Int), n9 = x11 ∧ Has 23 a [(5, vI (n9))] ∧ Mem C w [.box b5 (arrV c1) 80] [] ∧ R64 n9) ?_ ?_
  · refine wp_seq ?_
    refine region_pl ?_
    refine q_ hf rfl rfl rfl (e_move hf rfl) fun a hf => ?_
    obtain ⟨y13, hz14, h12⟩ := bind_some h12
    refine pl_l hf rfl rfl rfl (w_call hf Try.call64 rfl (r_impl_countsOf ⟨_, Sh C _ _, none_, hM.sh_lt, none_not, C.G, hM.g_lt, g_none, hM.tabs⟩ drawn3 hp4 _ hz14) ?_)
    rintro _ w16 ⟨rfl, hM2, hv15⟩
    obtain ⟨hM, hx17, hup18⟩ := hM.back hM2
    dsimp only [List.cons_append, List.nil_append] at hM hup18
    clear hM2
    refine ⟨_, rfl, fun a hf => ?_⟩
    refine q_ hf rfl rfl rfl (e_move hf rfl) fun a hf => ?_
    refine pl_nil ?_
    refine then_n ?_
    refine wp_block ?_
    obtain ⟨x26, h27, h12⟩ := bind_some h12
    refine wp_loopM h27 (fun s a w => ∃ (n19 : Int) (n21 : Int), (n19, n21) = s ∧ Has 23 a [(2, vP b5 (0)), (5, vI (n21)), (9, .agg (arrV y13).toArray), (10, vI (n19))] ∧ Mem C w [.box b5 (arrV c1) 80] [] ∧ R64 n19 ∧ R64 n21) ?_ ?_
    · exact ⟨0, 1, rfl, hf.keep ⟨rfl, rfl, rfl, rfl, trivial⟩, hM.pick [] rfl, (R64_lit rfl), (R64_lit rfl)⟩
    · rintro s o28 a w23 ⟨n19, n21, rfl, hf, hM, hv20, hv22⟩ h29 hd30
      replace h29 : m_impl_waysToDraw_l1 y13 c1 n19 n21 = some o28 := h29
      unfold m_impl_waysToDraw_l1 at h29
      refine wp_seq ?_
      refine region_pl ?_
      refine q_ hf rfl rfl rfl (e_lt hf (x := n19) (y := 27) rfl rfl) fun a hf => ?_
      refine pl_nil ?_
      refine then_n ?_
      refine wp_seq ?_
      rcases cond_some h29 with ⟨hc31, h29⟩ | ⟨hc31, h29⟩
      · refine cond_t hf rfl hc31 ?_
        refine wp_skip ?_
        refine then_n ?_
        refine wp_seq ?_
        refine wp_block ?_
        refine wp_seq ?_
        refine region_pl ?_
        refine q_ hf rfl rfl rfl (e_move hf rfl) fun a hf => ?_
        obtain ⟨n32, hz33, h29⟩ := bind_some h29
        refine q_ hf rfl rfl rfl (e_indexArr hf hv15 rfl rfl Try.underlying80 Try.isAgg3 Try.sizeOf3 hz33) fun a hf => ?_
        refine q_ hf rfl rfl rfl (e_assign hf rfl) fun a hf => ?_
        refine q_ hf rfl rfl rfl (e_assign hf rfl) fun a hf => ?_
        refine pl_nil ?_
        refine then_n ?_
        refine region_pl ?_
        refine q_ hf rfl rfl rfl (e_move hf rfl) fun a hf => ?_
        refine q_ hf rfl rfl rfl (e_move hf rfl) fun a hf => ?_
        obtain ⟨n34, hz35, h29⟩ := bind_some h29
        refine q_ hf rfl rfl rfl (e_indexAddrArr hf (i := n19) rfl rfl Try.underlying80 Try.sizeOf3 (arr_in hp2 hz35).1 (arr_in hp2 hz35).2) fun a hf => ?_
        refine q_ hf rfl rfl rfl (e_load1 hf rfl Try.isAgg3 (hM.boxCell (k := 0) rfl (arr_at hz35))) fun a hf => ?_
        refine q_ hf rfl rfl rfl (e_move hf rfl) fun a hf => ?_
        obtain ⟨y36, hz37, h29⟩ := bind_some h29
        refine pl_l hf rfl rfl rfl (w_call hf Try.call45 rfl (r_impl_choose ⟨_, Sh C _ _, none_, hM.sh_lt, none_not, C.G, hM.g_lt, g_none, hM.tabs⟩ n34 (arr_R hp2 hz35) n32 (arr_R hv15 hz33) _ hz37) ?_)
        rintro _ w39 ⟨rfl, hM2, hv38⟩
        obtain ⟨hM, hx40, hup41⟩ := hM.back hM2
        dsimp only [List.cons_append, List.nil_append] at hM hup41
        clear hM2
        refine ⟨_, rfl, fun a hf => ?_⟩
        obtain ⟨z42, hz43, h29⟩ := bind_some h29
        refine q_ hf rfl rfl rfl (e_mul hf rfl rfl hz43) fun a hf => ?_
        refine q_ hf rfl rfl rfl (e_assign hf rfl) fun a hf => ?_
        refine pl_nil ?_
        refine blk_n ?_
        refine then_n ?_
        refine region_pl ?_
        obtain ⟨z44, hz45, h29⟩ := bind_some h29
        refine q_ hf rfl rfl rfl (e_add hf rfl rfl hz45) fun a hf => ?_
        refine q_ hf rfl rfl rfl (e_move hf rfl) fun a hf => ?_
        refine pl_nil ?_
        obtain rfl := some_inj h29
        refine then_n ⟨_, rfl, ?_⟩
        exact ⟨z44, z42, rfl, hf.keep ⟨rfl, rfl, rfl, rfl, trivial⟩, hM.pick [] rfl, (chk_R hz45), (chk_R hz43)⟩
      · refine cond_f hf rfl hc31 ?_
        refine wp_exit ?_
        refine then_x ?_
        obtain rfl := some_inj h29
        obtain rfl := hd30 _ rfl
        try dsimp only at h12
        refine then_x ?_
        refine exit_hit ?_
        obtain rfl := some_inj h12
        refine then_n ?_
        exact ⟨n21, rfl, hf.keep ⟨rfl, trivial⟩, hM.pick [] rfl, hv22⟩
  · rintro a w51 ⟨n9, rfl, hf, hM, hv10⟩
    try dsimp only at h
    refine wp_seq ?_
    refine region_pl ?_
    refine q_ hf rfl rfl rfl (e_move hf rfl) fun a hf => ?_
    refine q_ hf rfl rfl rfl (e_assign hf rfl) fun a hf => ?_
    refine pl_nil ?_
    refine then_n ?_
    refine wp_ret ?_
    obtain rfl := some_inj h
    have hM := hM.outs (own' := []) 0 rfl
    exact leave1 hf rfl rfl ⟨rfl, hM.fin, hv10⟩

set_option maxRecDepth 100000 in
set_option maxHeartbeats 4000000 in
theorem r_impl_draws (C : Cx) (pile1 : Str) (hp2 : pile1.length ≤ maxLen) (n3 : Int) (hp4 : R64 n3) (r : (List Drawn)) (h : m_impl_draws pile1 n3 = some r) :
    Calls Try.prog 39 #[vS (pile1), vI (n3)] C.w0 fun e w => ∃ (A_1 : Option Addr), ∃ (c_1 : Nat), e = .returned (vL A_1 (r) c_1) ∧ Mem C w [.row DrawnRep A_1 c_1 47 r true] [] := by
  have hM := Mem.begin C [] trivial
  refine enter Try.func39 rfl Try.ntmps39 rfl fun a hf => ?_
  unfold m_impl_draws at h
  refine wp_seq ?_
  refine region_pl ?_
  refine q_ hf rfl rfl rfl (e_assign hf rfl) fun a hf => ?_
  refine pl_nil ?_
  refine then_n ?_
  refine wp_seq ?_
  refine region_pl ?_
  refine pl_l hf rfl rfl rfl (w_slice0 (K := DrawnRep) hM Try.underlying32 ei_47 fun b5 w6 hx7 hM a hf => ?_)
  refine q_ hf rfl rfl rfl (e_move hf rfl) fun a hf => ?_
  obtain ⟨y8, hz9, h⟩ := bind_some h
  refine pl_l hf rfl rfl rfl (w_call hf Try.call64 rfl (r_impl_countsOf ⟨_, Sh C _ _, none_, hM.sh_lt, none_not, C.G, hM.g_lt, g_none, hM.tabs⟩ pile1 hp2 _ hz9) ?_)
  rintro _ w11 ⟨rfl, hM2, hv10⟩
  obtain ⟨hM, hx12, hup13⟩ := hM.back hM2
  dsimp only [List.cons_append, List.nil_append] at hM hup13
  clear hM2
  refine ⟨_, rfl, fun a hf => ?_⟩
  refine pl_l hf rfl rfl rfl (w_alloc hM (cs := arrV (List.replicate 27 (0 : Int))) Try.zeroValue80 rfl fun b14 w15 hx16 hM a hf => ?_)
  refine q_ hf rfl rfl rfl (e_assign hf rfl) fun a hf => ?_
  refine pl_0 hf rfl rfl (w_storeArr hf hM rfl rfl (k := 0) rfl (arr_zero 27) hv10 Try.sizeOf80 fun w18 hM => ?_)
  dsimp only [List.set] at hM
  refine pl_nil ?_
  refine then_n ?_
  obtain ⟨x22, h23, h⟩ := bind_some h
  refine seq_join (fun a w => ∃ (xs19 : (List Drawn)) (A20 : Option Addr) (c21 : Nat), xs19 = x22 ∧ Has 33 a [(5, vL A20 (xs19) c21)] ∧ Mem C w [.box b14 (arrV y8) 80, .row DrawnRep A20 c21 47 xs19 true] []) ?_ ?_
  · refine wp_seq ?_
    refine region_pl ?_
    refine q_ hf rfl rfl rfl (e_move hf rfl) fun a hf => ?_
    refine q_ hf rfl rfl rfl (e_move hf rfl) fun a hf => ?_
    refine q_ hf rfl rfl rfl (e_move hf rfl) fun a hf => ?_
    refine q_ hf rfl rfl rfl (e_lenS hf (x := pile1) rfl Try.underlying9) fun a hf => ?_
    obtain ⟨z24, hz25, h23⟩ := bind_some h23
    refine q_ hf rfl rfl rfl (e_mul hf rfl rfl hz25) fun a hf => ?_
    obtain ⟨y26, hz27, h23⟩ := bind_some h23
    refine pl_l hf rfl rfl rfl (w_call hf Try.call65 rfl (r_impl_someDraws ⟨_, Sh C _ _, none_, hM.sh_lt, none_not, C.G, hM.g_lt, g_none, hM.tabs⟩ pile1 hp2 n3 hp4 z24 (chk_R hz25) _ hz27) ?_)
    rintro _ w30 ⟨A28, c29, rfl, hM2⟩
    obtain ⟨hM, hx31, hup32⟩ := hM.back hM2
    dsimp only [List.cons_append, List.nil_append] at hM hup32
    clear hM2
    refine ⟨_, rfl, fun a hf => ?_⟩
    have hl33 := row_len (hM.ownAt (k := 0) rfl)
    refine q_ hf rfl rfl rfl (e_lenL hf (x := y26) rfl Try.underlying76) fun a hf => ?_
    refine q_ hf rfl rfl rfl (e_move hf rfl) fun a hf => ?_
    refine pl_nil ?_
    refine then_n ?_
    refine wp_block ?_
    obtain ⟨x43, h44, h23⟩ := bind_some h23
    refine wp_loopM h44 (fun s a w => ∃ (xs34 : (List Drawn)) (n37 : Int) (A35 : Option Addr) (c36 : Nat), (xs34, n37) = s ∧ Has 33 a [(5, vL A35 (xs34) c36), (6, vP b14 (0)), (17, vL A28 (y26) c29), (18, vI ((y26.length : Int))), (19, vI (n37))] ∧ Mem C w [.row strRep A28 c29 9 y26 true, .box b14 (arrV y8) 80, .row DrawnRep A35 c36 47 xs34 true] [] ∧ R64 n37) ?_ ?_
    · exact ⟨([] : (List Drawn)), 0, (some ⟨b5, 0, none⟩), 0, rfl, hf.keep ⟨rfl, rfl, rfl, rfl, rfl, trivial⟩, hM.pick [] rfl, (R64_lit rfl)⟩
    · rintro s o45 a w39 ⟨xs34, n37, A35, c36, rfl, hf, hM, hv38⟩ h46 hd47
      replace h46 : m_impl_draws_l1 y26 y8 xs34 n37 = some o45 := h46
      unfold m_impl_draws_l1 at h46
      refine wp_seq ?_
      refine region_pl ?_
      refine q_ hf rfl rfl rfl (e_lt hf (x := n37) (y := (y26.length : Int)) rfl rfl) fun a hf => ?_
      refine pl_nil ?_
      refine then_n ?_
      refine wp_seq ?_
      rcases cond_some h46 with ⟨hc48, h46⟩ | ⟨hc48, h46⟩
      · refine cond_t hf rfl hc48 ?_
        refine wp_skip ?_
        refine then_n ?_
        refine wp_seq ?_
        refine wp_block ?_
        refine wp_seq ?_
        refine region_pl ?_
        obtain ⟨e49, hz50, h46⟩ := bind_some h46
        obtain ⟨b55, _, hA56, h51, h52, hr53, hcell54⟩ := hM.rowElemN (k := 0) rfl (n := 1) rfl hz50
        obtain ⟨rfl, hv57⟩ := hr53
        refine q_ hf rfl rfl rfl (e_indexAddr (A := A28) (b := b55) (o := 0) (xs := y26) (i := n37) hf hA56 rfl rfl Try.underlying76 Try.sizeOf9 h51 h52) fun a hf => ?_
        refine q_ hf rfl rfl rfl (e_load1 hf rfl Try.isAgg9 (hcell54 0 _ rfl)) fun a hf => ?_
        refine q_ hf rfl rfl rfl (e_assign hf rfl) fun a hf => ?_
        refine pl_nil ?_
        refine then_n ?_
        refine region_pl ?_
        refine q_ hf rfl rfl rfl (e_move hf rfl) fun a hf => ?_
        refine q_ hf rfl rfl rfl (e_move hf rfl) fun a hf => ?_
        refine q_ hf rfl rfl rfl (e_loadA hf (us := arrV y8) rfl ⟨Try.isAgg80, Try.sizeOf80⟩ (arr_len hv10) (hM.boxSub (k := 1) (us := arrV y8) (o := 0) rfl (arr_all _))) fun a hf => ?_
        refine q_ hf rfl rfl rfl (e_move hf rfl) fun a hf => ?_
        obtain ⟨y58, hz59, h46⟩ := bind_some h46
        refine pl_l hf rfl rfl rfl (w_call hf Try.call66 rfl (r_impl_waysToDraw ⟨_, Sh C _ _, none_, hM.sh_lt, none_not, C.G, hM.g_lt, g_none, hM.tabs⟩ y8 hv10 e49 hv57 _ hz59) ?_)
        rintro _ w61 ⟨rfl, hM2, hv60⟩
        obtain ⟨hM, hx62, hup63⟩ := hM.back hM2
        dsimp only [List.cons_append, List.nil_append] at hM hup63
        clear hM2
        refine ⟨_, rfl, fun a hf => ?_⟩
        refine q_ hf rfl rfl rfl (e_build hf Try.zeroValue47 Try.underlying47 (bp_47 _ Try.underlying47.symm) rfl (cs := #[vS (e49), vI (y58)]) (by kernel_rfl)) fun a hf => ?_
        refine pl_l hf rfl rfl rfl (w_slice hf hM (K := DrawnRep) (xs := ([(⟨e49, y58⟩ : Drawn)] : (List Drawn))) (os := [.tmp 28]) Try.underlying32 ei_47 rfl rfl rfl rfl rfl ⟨⟨[vS (e49), vI (y58)], rfl, (DrawnRep_mk (x := (⟨e49, y58⟩ : Drawn)) hv57 hv60)⟩, trivial⟩ rfl fun b64 w65 hx66 hM a hf => ?_)
        obtain ⟨xs67, hz68, h46⟩ := bind_some h46
        refine pl_l hf rfl rfl rfl (w_append hf hM Try.underlying32 ei_47 rfl rfl rfl (k := 3) rfl (hM.srcRow (k := 0) rfl) hz68 fun A69 c70 w71 hM a hf => ?_)
        dsimp only [List.set] at hM
        refine q_ hf rfl rfl rfl (e_assign hf rfl) fun a hf => ?_
        refine pl_nil ?_
        refine blk_n ?_
        refine then_n ?_
        refine region_pl ?_
        obtain ⟨z74, hz75, h46⟩ := bind_some h46
        refine q_ hf rfl rfl rfl (e_add hf rfl rfl hz75) fun a hf => ?_
        refine q_ hf rfl rfl rfl (e_move hf rfl) fun a hf => ?_
        refine pl_nil ?_
        obtain rfl := some_inj h46
        refine then_n ⟨_, rfl, ?_⟩
        exact ⟨xs67, z74, A69, c70, rfl, hf.keep ⟨rfl, rfl, rfl, rfl, rfl, trivial⟩, (hM.drop (.cons _ (.cons_cons _ (.cons_cons _ (.cons_cons _ .slnil))))).pick [] rfl, (chk_R hz75)⟩
      · refine cond_f hf rfl hc48 ?_
        refine wp_exit ?_
        refine then_x ?_
        obtain rfl := some_inj h46
        obtain rfl := hd47 _ rfl
        try dsimp only at h23
        refine then_x ?_
        refine exit_hit ?_
        obtain rfl := some_inj h23
        refine then_n ?_
        exact ⟨xs34, A35, c36, rfl, hf.keep ⟨rfl, trivial⟩, (hM.drop (.cons _ (.cons_cons _ (.cons_cons _ .slnil)))).pick [] rfl⟩
  · rintro a w81 ⟨xs19, A20, c21, rfl, hf, hM⟩
    try dsimp only at h
    refine wp_seq ?_
    refine region_pl ?_
    refine q_ hf rfl rfl rfl (e_move hf rfl) fun a hf => ?_
    refine q_ hf rfl rfl rfl (e_assign hf rfl) fun a hf => ?_
    refine pl_nil ?_
    refine then_n ?_
    refine wp_ret ?_
    obtain rfl := some_inj h
    have hM := hM.front (k := 1) rfl
    dsimp only [List.eraseIdx] at hM
    have hM := hM.outs (own' := [.row DrawnRep A20 c21 47 xs19 true]) 1 rfl
    exact leave1 hf rfl rfl ⟨A20, c21, rfl, hM.fin⟩

set_option maxRecDepth 100000 in
set_option maxHeartbeats 4000000 in
theorem r_impl_DrawsOf (C : Cx) (pile1 : Str) (hp2 : pile1.length ≤ maxLen) (n3 : Int) (hp4 : R64 n3) (r : ((List Drawn) × Int)) (h : m_impl_DrawsOf pile1 n3 = some r) :
    Calls Try.prog 21 #[vS (pile1), vI (n3)] C.w0 fun e w => ∃ (A_1 : Option Addr), ∃ (c_1 : Nat), e = .returned (.tuple #[vL A_1 (r.1) c_1, vI (r.2)]) ∧ Mem C w [.row DrawnRep A_1 c_1 47 r.1 true] [] ∧ R64 r.2 := by
  have hM := Mem.begin C [] trivial
  refine enter Try.func21 rfl Try.ntmps21 rfl fun a hf => ?_
  unfold m_impl_DrawsOf at h
  refine wp_seq ?_
  refine region_pl ?_
  refine q_ hf rfl rfl rfl (e_assign hf rfl) fun a hf => ?_
  refine q_ hf rfl rfl rfl (e_assign hf rfl) fun a hf => ?_
  refine pl_nil ?_
  refine then_n ?_
  refine wp_seq ?_
  refine wp_seq ?_
  refine region_pl ?_
  refine q_ hf rfl rfl rfl (e_move hf rfl) fun a hf => ?_
  refine q_ hf rfl rfl rfl (e_move hf rfl) fun a hf => ?_
  obtain ⟨y5, hz6, h⟩ := bind_some h
  refine pl_l hf rfl rfl rfl (w_call hf Try.call44 rfl (r_impl_drawCode ⟨_, Sh C _ _, none_, hM.sh_lt, none_not, C.G, hM.g_lt, g_none, hM.tabs⟩ pile1 hp2 n3 hp4 _ hz6) ?_)
  rintro _ w8 ⟨rfl, hM2, hv7⟩
  obtain ⟨hM, hx9, hup10⟩ := hM.back hM2
  dsimp only [List.cons_append, List.nil_append] at hM hup10
  clear hM2
  refine ⟨_, rfl, fun a hf => ?_⟩
  refine q_ hf rfl rfl rfl (e_assign hf rfl) fun a hf => ?_
  refine pl_nil ?_
  refine then_n ?_
  refine wp_seq ?_
  refine region_pl ?_
  refine q_ hf rfl rfl rfl (e_move hf rfl) fun a hf => ?_
  refine q_ hf rfl rfl rfl (e_ne hf (x := y5) (y := 0) rfl rfl) fun a hf => ?_
  refine pl_nil ?_
  refine then_n ?_
  rcases cond_some h with ⟨hc11, h⟩ | ⟨hc11, h⟩
  · refine cond_t hf rfl hc11 ?_
    refine wp_seq ?_
    refine region_pl ?_
    refine q_ hf rfl rfl rfl (e_move hf rfl) fun a hf => ?_
    refine q_ hf rfl rfl rfl (e_assign hf rfl) fun a hf => ?_
    refine q_ hf rfl rfl rfl (e_assign hf rfl) fun a hf => ?_
    refine pl_nil ?_
    refine then_n ?_
    refine wp_ret ?_
    refine then_r ?_
    obtain rfl := some_inj h
    have hM := hM.nilRow DrawnRep 47
    exact leave2 hf rfl rfl rfl ⟨none, 0, rfl, hM.fin, hv7⟩
  · refine cond_f hf rfl hc11 ?_
    refine wp_skip ?_
    refine then_n ?_
    refine wp_seq ?_
    refine region_pl ?_
    refine q_ hf rfl rfl rfl (e_move hf rfl) fun a hf => ?_
    refine q_ hf rfl rfl rfl (e_move hf rfl) fun a hf => ?_
    obtain ⟨y12, hz13, h⟩ := bind_some h
    refine pl_l hf rfl rfl rfl (w_call hf Try.call39 rfl (r_impl_draws ⟨_, Sh C _ _, none_, hM.sh_lt, none_not, C.G, hM.g_lt, g_none, hM.tabs⟩ pile1 hp2 n3 hp4 _ hz13) ?_)
    rintro _ w16 ⟨A14, c15, rfl, hM2⟩
    obtain ⟨hM, hx17, hup18⟩ := hM.back hM2
    dsimp only [List.cons_append, List.nil_append] at hM hup18
    clear hM2
    refine ⟨_, rfl, fun a hf => ?_⟩
    refine q_ hf rfl rfl rfl (e_assign hf rfl) fun a hf => ?_
    refine pl_nil ?_
    refine then_n ?_
    refine wp_seq ?_
    refine wp_seq ?_
    refine region_pl ?_
    refine q_ hf rfl rfl rfl (e_move hf rfl) fun a hf => ?_
    have hl19 := row_len (hM.ownAt (k := 0) rfl)
    refine q_ hf rfl rfl rfl (e_lenL hf (x := y12) rfl Try.underlying32) fun a hf => ?_
    refine q_ hf rfl rfl rfl (e_gt hf (x := (y12.length : Int)) (y := 40) rfl rfl) fun a hf => ?_
    refine pl_nil ?_
    refine then_n ?_
    rcases cond_some h with ⟨hc20, h⟩ | ⟨hc20, h⟩
    · refine cond_t hf rfl hc20 ?_
      refine wp_seq ?_
      refine region_pl ?_
      refine q_ hf rfl rfl rfl (e_assign hf rfl) fun a hf => ?_
      refine q_ hf rfl rfl rfl (e_assign hf rfl) fun a hf => ?_
      refine pl_nil ?_
      refine then_n ?_
      refine wp_ret ?_
      refine then_r ?_
      obtain rfl := some_inj h
      have hM := hM.nilRow DrawnRep 47
      have hM := hM.outs (own' := [.row DrawnRep none 0 47 ([] : (List Drawn)) true]) 1 rfl
      exact leave2 hf rfl rfl rfl ⟨none, 0, rfl, hM.fin, (R64_lit rfl)⟩
    · refine cond_f hf rfl hc20 ?_
      refine wp_skip ?_
      refine then_n ?_
      refine wp_seq ?_
      refine region_pl ?_
      refine q_ hf rfl rfl rfl (e_move hf rfl) fun a hf => ?_
      refine q_ hf rfl rfl rfl (e_assign hf rfl) fun a hf => ?_
      refine q_ hf rfl rfl rfl (e_assign hf rfl) fun a hf => ?_
      refine pl_nil ?_
      refine then_n ?_
      refine wp_ret ?_
      obtain rfl := some_inj h
      exact leave2 hf rfl rfl rfl ⟨A14, c15, rfl, hM.fin, (R64_lit rfl)⟩

set_option maxRecDepth 100000 in
set_option maxHeartbeats 4000000 in
theorem r_impl_DrawWays (C : Cx) (pile1 : Str) (hp2 : pile1.length ≤ maxLen) (n3 : Int) (hp4 : R64 n3) (r : (Int × Int)) (h : m_impl_DrawWays pile1 n3 = some r) :
    Calls Try.prog 22 #[vS (pile1), vI (n3)] C.w0 fun e w => e = .returned (.tuple #[vI (r.1), vI (r.2)]) ∧ Mem C w [] [] ∧ R64 r.1 ∧ R64 r.2 := by
  have hM := Mem.begin C [] trivial
  refine enter Try.func22 rfl Try.ntmps22 rfl fun a hf => ?_
  unfold m_impl_DrawWays at h
  refine wp_seq ?_
  refine region_pl ?_
  refine q_ hf rfl rfl rfl (e_assign hf rfl) fun a hf => ?_
  refine q_ hf rfl rfl rfl (e_assign hf rfl) fun a hf => ?_
  refine pl_nil ?_
  refine then_n ?_
  refine wp_seq ?_
  refine wp_seq ?_
  refine region_pl ?_
  refine q_ hf rfl rfl rfl (e_move hf rfl) fun a hf => ?_
  refine q_ hf rfl rfl rfl (e_move hf rfl) fun a hf => ?_
  obtain ⟨y5, hz6, h⟩ := bind_some h
  refine pl_l hf rfl rfl rfl (w_call hf Try.call44 rfl (r_impl_drawCode ⟨_, Sh C _ _, none_, hM.sh_lt, none_not, C.G, hM.g_lt, g_none, hM.tabs⟩ pile1 hp2 n3 hp4 _ hz6) ?_)
  rintro _ w8 ⟨rfl, hM2, hv7⟩
  obtain ⟨hM, hx9, hup10⟩ := hM.back hM2
  dsimp only [List.cons_append, List.nil_append] at hM hup10
  clear hM2
  refine ⟨_, rfl, fun a hf => ?_⟩
  refine q_ hf rfl rfl rfl (e_assign hf rfl) fun a hf => ?_
  refine pl_nil ?_
  refine then_n ?_
  refine wp_seq ?_
  refine region_pl ?_
  refine q_ hf rfl rfl rfl (e_move hf rfl) fun a hf => ?_
  refine q_ hf rfl rfl rfl (e_ne hf (x := y5) (y := 0) rfl rfl) fun a hf => ?_
  refine pl_nil ?_
  refine then_n ?_
  rcases cond_some h with ⟨hc11, h⟩ | ⟨hc11, h⟩
  · refine cond_t hf rfl hc11 ?_
    refine wp_seq ?_
    refine region_pl ?_
    refine q_ hf rfl rfl rfl (e_move hf rfl) fun a hf => ?_
    refine q_ hf rfl rfl rfl (e_assign hf rfl) fun a hf => ?_
    refine q_ hf rfl rfl rfl (e_assign hf rfl) fun a hf => ?_
    refine pl_nil ?_
    refine then_n ?_
    refine wp_ret ?_
    refine then_r ?_
    obtain rfl := some_inj h
    exact leave2 hf rfl rfl rfl ⟨rfl, hM.fin, (R64_lit rfl), hv7⟩
  · refine cond_f hf rfl hc11 ?_
    refine wp_skip ?_
    refine then_n ?_
    refine wp_seq ?_
    refine region_pl ?_
    refine q_ hf rfl rfl rfl (e_move hf rfl) fun a hf => ?_
    refine q_ hf rfl rfl rfl (e_lenS hf (x := pile1) rfl Try.underlying9) fun a hf => ?_
    refine q_ hf rfl rfl rfl (e_move hf rfl) fun a hf => ?_
    obtain ⟨y12, hz13, h⟩ := bind_some h
    refine pl_l hf rfl rfl rfl (w_call hf Try.call45 rfl (r_impl_choose ⟨_, Sh C _ _, none_, hM.sh_lt, none_not, C.G, hM.g_lt, g_none, hM.tabs⟩ (pile1.length : Int) (R64_len hp2) n3 hp4 _ hz13) ?_)
    rintro _ w15 ⟨rfl, hM2, hv14⟩
    obtain ⟨hM, hx16, hup17⟩ := hM.back hM2
    dsimp only [List.cons_append, List.nil_append] at hM hup17
    clear hM2
    refine ⟨_, rfl, fun a hf => ?_⟩
    refine q_ hf rfl rfl rfl (e_assign hf rfl) fun a hf => ?_
    refine q_ hf rfl rfl rfl (e_assign hf rfl) fun a hf => ?_
    refine pl_nil ?_
    refine then_n ?_
    refine wp_ret ?_
    obtain rfl := some_inj h
    exact leave2 hf rfl rfl rfl ⟨rfl, hM.fin, hv14, (R64_lit rfl)⟩

set_option maxRecDepth 100000 in
set_option maxHeartbeats 4000000 in
theorem r_impl_counts_less (C : Cx) (c1 : (List Int)) (hp2 : ArrOk 27 c1) (d3 : (List Int)) (hp4 : ArrOk 27 d3) (r : ((List Int) × Bool)) (h : m_impl_counts_less c1 d3 = some r) :
    Calls Try.prog 71 #[.agg (arrV c1).toArray, .agg (arrV d3).toArray] C.w0 fun e w => e = .returned (.tuple #[.agg (arrV r.1).toArray, .bool (r.2)]) ∧ Mem C w [] [] ∧ ArrOk 27 r.1 := by
  have hM := Mem.begin C [] trivial
  refine enter Try.func71 rfl Try.ntmps71 rfl fun a hf => ?_
  unfold m_impl_counts_less at h
  refine wp_seq ?_
  refine region_pl ?_
  refine pl_l hf rfl rfl rfl (w_box hf hM (cs := arrV c1) rfl rfl fun b5 w6 hx7 hM a hf => ?_)
  refine pl_l hf rfl rfl rfl (w_box hf hM (cs := arrV d3) rfl rfl fun b9 w10 hx11 hM a hf => ?_)
  refine pl_l hf rfl rfl rfl (w_alloc hM (cs := arrV (List.replicate 27 (0 : Int))) Try.zeroValue80 rfl fun b13 w14 hx15 hM a hf => ?_)
  refine q_ hf rfl rfl rfl (e_assign hf rfl) fun a hf => ?_
  refine pl_nil ?_
  refine then_n ?_
  obtain ⟨x19, h20, h⟩ := bind_some h
  refine seq_join (fun a w => ∃ (xs17 : (List Int)), (.inl xs17) = x19 ∧ Has 26 a [(2, vP b5 (0)), (4, vP b13 (0))] ∧ Mem C w [.box b13 (arrV (List.replicate 27 (0 : Int))) 80, .box b9 (arrV d3) 80, .box b5 (arrV xs17) 80] [] ∧ ArrOk 27 xs17) ?_ ?_
  · refine wp_seq ?_
    refine region_pl ?_
    refine q_ hf rfl rfl rfl (e_loadA hf (us := arrV d3) rfl ⟨Try.isAgg80, Try.sizeOf80⟩ (arr_len hp4) (hM.boxSub (k := 1) (us := arrV d3) (o := 0) rfl (arr_all _))) fun a hf => ?_
    refine q_ hf rfl rfl rfl (e_move hf rfl) fun a hf => ?_
    refine pl_nil ?_
    refine then_n ?_
    refine wp_block ?_
    obtain ⟨x28, h29, h20⟩ := bind_some h20
    refine wp_loopM h29 (fun s a w => ∃ (xs21 : (List Int)) (n23 : Int), (xs21, n23) = s ∧ Has 26 a [(2, vP b5 (0)), (4, vP b13 (0)), (8, .agg (arrV d3).toArray), (9, vI (n23))] ∧ Mem C w [.box b13 (arrV (List.replicate 27 (0 : Int))) 80, .box b9 (arrV d3) 80, .box b5 (arrV xs21) 80] [] ∧ ArrOk 27 xs21 ∧ R64 n23) ?_ ?_
    · exact ⟨c1, 0, rfl, hf.keep ⟨rfl, rfl, rfl, rfl, trivial⟩, hM.pick [] rfl, hp2, (R64_lit rfl)⟩
    · rintro s o30 a w25 ⟨xs21, n23, rfl, hf, hM, hv22, hv24⟩ h31 hd32
      replace h31 : m_impl_counts_less_l1 d3 xs21 n23 = some o30 := h31
      unfold m_impl_counts_less_l1 at h31
      refine wp_seq ?_
      refine region_pl ?_
      refine q_ hf rfl rfl rfl (e_lt hf (x := n23) (y := 27) rfl rfl) fun a hf => ?_
      refine pl_nil ?_
      refine then_n ?_
      refine wp_seq ?_
      rcases cond_some h31 with ⟨hc33, h31⟩ | ⟨hc33, h31⟩
      · refine cond_t hf rfl hc33 ?_
        refine wp_skip ?_
        refine then_n ?_
        refine wp_seq ?_
        refine wp_block ?_
        refine wp_seq ?_
        refine region_pl ?_
        refine q_ hf rfl rfl rfl (e_move hf rfl) fun a hf => ?_
        obtain ⟨n34, hz35, h31⟩ := bind_some h31
        refine q_ hf rfl rfl rfl (e_indexArr hf hp4 rfl rfl Try.underlying80 Try.isAgg3 Try.sizeOf3 hz35) fun a hf => ?_
        refine q_ hf rfl rfl rfl (e_assign hf rfl) fun a hf => ?_
        refine q_ hf rfl rfl rfl (e_assign hf rfl) fun a hf => ?_
        refine pl_nil ?_
        refine then_n ?_
        refine wp_seq ?_
        refine region_pl ?_
        refine q_ hf rfl rfl rfl (e_move hf rfl) fun a hf => ?_
        obtain ⟨n36, hz37, h31⟩ := bind_some h31
        refine q_ hf rfl rfl rfl (e_indexAddrArr hf (i := n23) rfl rfl Try.underlying80 Try.sizeOf3 (arr_in hv22 hz37).1 (arr_in hv22 hz37).2) fun a hf => ?_
        refine q_ hf rfl rfl rfl (e_load1 hf rfl Try.isAgg3 (hM.boxCell (k := 2) rfl (arr_at hz37))) fun a hf => ?_
        refine q_ hf rfl rfl rfl (e_move hf rfl) fun a hf => ?_
        obtain ⟨z38, hz39, h31⟩ := bind_some h31
        refine q_ hf rfl rfl rfl (e_sub hf rfl rfl hz39) fun a hf => ?_
        obtain ⟨n40, hz41, h31⟩ := bind_some h31
        refine q_ hf rfl rfl rfl (e_indexAddrArr hf (i := n23) rfl rfl Try.underlying80 Try.sizeOf3 (arr_in hv22 hz41).1 (arr_in hv22 hz41).2) fun a hf => ?_
        obtain ⟨xs43, hz44, h31⟩ := bind_some h31
        refine pl_0 hf rfl rfl (w_storeAt hf hM (i := n23) rfl rfl (k := 2) rfl Try.sizeOf3 hz44 fun w42 hM => ?_)
        dsimp only [List.set] at hM
        refine pl_nil ?_
        refine then_n ?_
        refine wp_seq ?_
        refine region_pl ?_
        refine q_ hf rfl rfl rfl (e_move hf rfl) fun a hf => ?_
        obtain ⟨n45, hz46, h31⟩ := bind_some h31
        refine q_ hf rfl rfl rfl (e_indexAddrArr hf (i := n23) rfl rfl Try.underlying80 Try.sizeOf3 (arr_in (arr_set hv22 (chk_R hz39) hz44) hz46).1 (arr_in (arr_set hv22 (chk_R hz39) hz44) hz46).2) fun a hf => ?_
        refine q_ hf rfl rfl rfl (e_load1 hf rfl Try.isAgg3 (hM.boxCell (k := 2) rfl (arr_at hz46))) fun a hf => ?_
        refine q_ hf rfl rfl rfl (e_lt hf (x := n45) (y := 0) rfl rfl) fun a hf => ?_
        refine pl_nil ?_
        refine then_n ?_
        rcases cond_some h31 with ⟨hc47, h31⟩ | ⟨hc47, h31⟩
        · refine cond_t hf rfl hc47 ?_
          refine wp_seq ?_
          refine region_pl ?_
          refine q_ hf rfl rfl rfl (e_buildArr hf (cs := arrV (List.replicate 27 (0 : Int))) Try.zeroValue80 Try.underlying80 Try.sizeOf3 rfl) fun a hf => ?_
          refine pl_0 hf rfl rfl (w_storeArr hf hM rfl rfl (k := 0) rfl (arr_zero 27) (arr_zero 27) Try.sizeOf80 fun w48 hM => ?_)
          dsimp only [List.set] at hM
          refine q_ hf rfl rfl rfl (e_assign hf rfl) fun a hf => ?_
          refine pl_nil ?_
          refine then_n ?_
          refine wp_ret ?_
          refine blk_r ?_
          refine then_r ?_
          obtain rfl := some_inj h31
          obtain rfl := hd32 _ rfl
          try dsimp only at h20
          refine then_r ?_
          refine blk_r ?_
          obtain rfl := some_inj h20
          try dsimp only at h
          refine then_r ?_
          obtain rfl := some_inj h
          have hres51 := leaveV2 (P := Try.prog) Try.results71 (res_agg hf rfl ⟨Try.isAgg80, Try.sizeOf80⟩ (us := arrV (List.replicate 27 (0 : Int))) (arr_len (arr_zero 27)) (hM.boxSub (k := 0) (o := 0) rfl (arr_all _))) (res_tmp hf rfl)
          have hM := hM.outs (own' := []) 0 rfl
          exact bodyPost_ret hres51 hf.defers ⟨rfl, hM.fin, (arr_zero 27)⟩
        · refine cond_f hf rfl hc47 ?_
          refine wp_skip ?_
          refine blk_n ?_
          refine then_n ?_
          refine region_pl ?_
          obtain ⟨z52, hz53, h31⟩ := bind_some h31
          refine q_ hf rfl rfl rfl (e_add hf rfl rfl hz53) fun a hf => ?_
          refine q_ hf rfl rfl rfl (e_move hf rfl) fun a hf => ?_
          refine pl_nil ?_
          obtain rfl := some_inj h31
          refine then_n ⟨_, rfl, ?_⟩
          exact ⟨xs43, z52, rfl, hf.keep ⟨rfl, rfl, rfl, rfl, trivial⟩, hM.pick [] rfl, (arr_set hv22 (chk_R hz39) hz44), (chk_R hz53)⟩
      · refine cond_f hf rfl hc33 ?_
        refine wp_exit ?_
        refine then_x ?_
        obtain rfl := some_inj h31
        obtain rfl := hd32 _ rfl
        try dsimp only at h20
        refine then_x ?_
        refine exit_hit ?_
        obtain rfl := some_inj h20
        refine then_n ?_
        exact ⟨xs21, rfl, hf.keep ⟨rfl, rfl, trivial⟩, hM.pick [] rfl, hv22⟩
  · rintro a w60 ⟨xs17, rfl, hf, hM, hv18⟩
    try dsimp only at h
    refine wp_seq ?_
    refine region_pl ?_
    refine q_ hf rfl rfl rfl (e_loadA hf (us := arrV xs17) rfl ⟨Try.isAgg80, Try.sizeOf80⟩ (arr_len hv18) (hM.boxSub (k := 2) (us := arrV xs17) (o := 0) rfl (arr_all _))) fun a hf => ?_
    refine pl_0 hf rfl rfl (w_storeArr hf hM rfl rfl (k := 0) rfl (arr_zero 27) hv18 Try.sizeOf80 fun w61 hM => ?_)
    dsimp only [List.set] at hM
    refine q_ hf rfl rfl rfl (e_assign hf rfl) fun a hf => ?_
    refine pl_nil ?_
    refine then_n ?_
    refine wp_ret ?_
    obtain rfl := some_inj h
    have hres62 := leaveV2 (P := Try.prog) Try.results71 (res_agg hf rfl ⟨Try.isAgg80, Try.sizeOf80⟩ (us := arrV xs17) (arr_len hv18) (hM.boxSub (k := 0) (o := 0) rfl (arr_all _))) (res_tmp hf rfl)
    have hM := hM.outs (own' := []) 0 rfl
    exact bodyPost_ret hres62 hf.defers ⟨rfl, hM.fin, hv18⟩

set_option maxRecDepth 100000 in
set_option maxHeartbeats 4000000 in
theorem r_strings_Builder_copyCheck (C : Cx) (b1 : Str) (b2 : Nat) (p3 : Value) (hp4 : AddrOk b2 p3) (A5 : Option Addr) (c6 : Nat) (hO : Mem C C.w0 [.box b2 [p3, vL A5 (b1) c6] 102, .row byteRep A5 c6 5 b1 true] []) (hd : ∀ b, C.S0 b → ¬ ownB [.box b2 [p3, vL A5 (b1) c6] 102, .row byteRep A5 c6 5 b1 true] b) (r : Str) (h : m_strings_Builder_copyCheck b1 = some r) :
    Calls Try.prog 92 #[vP b2 (0)] C.w0 fun e w => ∃ (p_1 : Value), ∃ (A_1 : Option Addr), ∃ (c_1 : Nat), e = .returned (.tuple #[]) ∧ Mem C w [.box b2 [p_1, vL A_1 (r) c_1] 102, .row byteRep A_1 c_1 5 r true] [] ∧ AddrOk b2 p_1 := by
  have hM := hO
  refine enter Try.func92 rfl Try.ntmps92 rfl fun a hf => ?_
  unfold m_strings_Builder_copyCheck at h
  rcases hp4 with rfl | rfl
  · refine wp_seq ?_
    refine region_pl ?_
    refine q_ hf rfl rfl rfl (e_move hf rfl) fun a hf => ?_
    refine q_ hf rfl rfl rfl (e_nil hf rfl) fun a hf => ?_
    refine q_ hf rfl rfl rfl (e_field hf rfl Try.underlying102 rfl Try.sizeOf100 (o' := 0) rfl) fun a hf => ?_
    refine q_ hf rfl rfl rfl (e_load1 hf rfl Try.isAgg100 (hM.boxCell (k := 0) rfl rfl)) fun a hf => ?_
    refine q_ hf rfl rfl rfl (e_eqPN hf rfl rfl Try.underlying100) fun a hf => ?_
    refine pl_nil ?_
    refine then_n ?_
    refine cond_t hf rfl rfl ?_
    refine region_pl ?_
    refine q_ hf rfl rfl rfl (e_move hf rfl) fun a hf => ?_
    refine q_ hf rfl rfl rfl (e_move hf rfl) fun a hf => ?_
    refine q_ hf rfl rfl rfl (e_toUnsafe hf hM (k := 0) (n := 2) rfl rfl Try.underlying100 Try.underlying111 (by kernel_rfl) rfl rfl) fun a hf => ?_
    refine q_ hf rfl rfl rfl (e_noEscape hf (f := 94) rfl Try.func94 rfl rfl (by kernel_rfl) (by kernel_rfl)) fun a hf => ?_
    refine q_ hf rfl rfl rfl (e_fromUnsafe hf hM (k := 0) (n := 2) rfl rfl Try.underlying111 Try.underlying100 (by kernel_rfl) (by kernel_rfl)) fun a hf => ?_
    refine q_ hf rfl rfl rfl (e_nil hf rfl) fun a hf => ?_
    refine q_ hf rfl rfl rfl (e_field hf rfl Try.underlying102 rfl Try.sizeOf100 (o' := 0) rfl) fun a hf => ?_
    refine pl_0 hf rfl rfl (w_store hf hM (us := [vP b2 0]) (cs' := [vP b2 0, vL A5 (b1) c6]) rfl rfl (k := 0) rfl rfl Try.sizeOf100 rfl rfl rfl fun w7 hM => ?_)
    dsimp only [List.set] at hM
    refine pl_nil ?_
    obtain rfl := some_inj h
    exact leave0n hf rfl ⟨(vP b2 0), A5, c6, rfl, hM.fin, (AddrOk.self _)⟩
  · refine wp_seq ?_
    refine region_pl ?_
    refine q_ hf rfl rfl rfl (e_move hf rfl) fun a hf => ?_
    refine q_ hf rfl rfl rfl (e_nil hf rfl) fun a hf => ?_
    refine q_ hf rfl rfl rfl (e_field hf rfl Try.underlying102 rfl Try.sizeOf100 (o' := 0) rfl) fun a hf => ?_
    refine q_ hf rfl rfl rfl (e_load1 hf rfl Try.isAgg100 (hM.boxCell (k := 0) rfl rfl)) fun a hf => ?_
    refine q_ hf rfl rfl rfl (e_eqPS hf rfl rfl Try.underlying100) fun a hf => ?_
    refine pl_nil ?_
    refine then_n ?_
    refine cond_f hf rfl rfl ?_
    refine wp_seq ?_
    refine region_pl ?_
    refine q_ hf rfl rfl rfl (e_move hf rfl) fun a hf => ?_
    refine q_ hf rfl rfl rfl (e_nil hf rfl) fun a hf => ?_
    refine q_ hf rfl rfl rfl (e_field hf rfl Try.underlying102 rfl Try.sizeOf100 (o' := 0) rfl) fun a hf => ?_
    refine q_ hf rfl rfl rfl (e_load1 hf rfl Try.isAgg100 (hM.boxCell (k := 0) rfl rfl)) fun a hf => ?_
    refine q_ hf rfl rfl rfl (e_move hf rfl) fun a hf => ?_
    refine q_ hf rfl rfl rfl (e_nePS hf (n := 2) rfl rfl Try.underlying100 (by kernel_rfl)) fun a hf => ?_
    refine pl_nil ?_
    refine then_n ?_
    refine cond_f hf rfl rfl ?_
    refine wp_skip ?_
    obtain rfl := some_inj h
    exact leave0n hf rfl ⟨(vP b2 0), A5, c6, rfl, hM.fin, (AddrOk.self _)⟩

set_option maxRecDepth 100000 in
set_option maxHeartbeats 4000000 in
theorem r_strings_Builder_WriteByte (C : Cx) (b1 : Str) (b2 : Nat) (p3 : Value) (hp4 : AddrOk b2 p3) (A5 : Option Addr) (c6 : Nat) (c7 : UInt8) (hO : Mem C C.w0 [.box b2 [p3, vL A5 (b1) c6] 102, .row byteRep A5 c6 5 b1 true] []) (hd : ∀ b, C.S0 b → ¬ ownB [.box b2 [p3, vL A5 (b1) c6] 102, .row byteRep A5 c6 5 b1 true] b) (r : (Unit × Str)) (h : m_strings_Builder_WriteByte b1 c7 = some r) :
    Calls Try.prog 85 #[vP b2 (0), vB (c7)] C.w0 fun e w => ∃ (p_1 : Value), ∃ (A_1 : Option Addr), ∃ (c_1 : Nat), e = .returned (.nilIface) ∧ Mem C w [.box b2 [p_1, vL A_1 (r.2) c_1] 102, .row byteRep A_1 c_1 5 r.2 true] [] ∧ AddrOk b2 p_1 := by
  have hM := hO
  refine enter Try.func85 rfl Try.ntmps85 rfl fun a hf => ?_
  unfold m_strings_Builder_WriteByte at h
  refine wp_seq ?_
  refine region_pl ?_
  refine q_ hf rfl rfl rfl (e_assign hf rfl) fun a hf => ?_
  refine pl_nil ?_
  refine then_n ?_
  refine wp_seq ?_
  refine region_pl ?_
  refine q_ hf rfl rfl rfl (e_move hf rfl) fun a hf => ?_
  have hM : Mem C _ ([.box b2 [p3, vL A5 (b1) c6] 102, .row byteRep A5 c6 5 b1 true] ++ []) _ := hM
  obtain ⟨y8, hz9, h⟩ := bind_some h
  refine pl_l hf rfl rfl rfl (w_call hf Try.call92 rfl (r_strings_Builder_copyCheck ⟨_, Sh C _ _, ownB _, hM.sh_lt, sub_dis, C.G, hM.g_lt, hM.g_own, hM.tabs⟩ b1 _ _ hp4 _ _ hM.sub sub_dis _ hz9) ?_)
  rintro _ w14 ⟨p10, A12, c13, rfl, hM2, hv11⟩
  obtain ⟨hM, hup16⟩ := hM.backG hM2
  dsimp only [List.cons_append, List.nil_append] at hM hup16
  clear hM2
  refine ⟨_, rfl, fun a hf => ?_⟩
  refine pl_nil ?_
  refine then_n ?_
  refine wp_seq ?_
  refine region_pl ?_
  refine q_ hf rfl rfl rfl (e_move hf rfl) fun a hf => ?_
  refine q_ hf rfl rfl rfl (e_move hf rfl) fun a hf => ?_
  refine q_ hf rfl rfl rfl (e_nil hf rfl) fun a hf => ?_
  refine q_ hf rfl rfl rfl (e_field hf rfl Try.underlying102 rfl Try.sizeOf38 (o' := 1) rfl) fun a hf => ?_
  refine q_ hf rfl rfl rfl (e_load1 hf rfl Try.isAgg38 (hM.boxCell (k := 0) rfl rfl)) fun a hf => ?_
  refine q_ hf rfl rfl rfl (e_move hf rfl) fun a hf => ?_
  refine pl_l hf rfl rfl rfl (w_slice hf hM (K := byteRep) (xs := ([c7] : Str)) (os := [.tmp 12]) Try.underlying38 ei_5 rfl rfl rfl rfl rfl ⟨⟨[vB (c7)], rfl, rfl⟩, trivial⟩ rfl fun b17 w18 hx19 hM a hf => ?_)
  obtain ⟨xs20, hz21, h⟩ := bind_some h
  refine pl_l hf rfl rfl rfl (w_append hf hM Try.underlying38 ei_5 rfl rfl rfl (k := 2) rfl (hM.srcRow (k := 0) rfl) hz21 fun A22 c23 w24 hM a hf => ?_)
  dsimp only [List.set] at hM
  refine q_ hf rfl rfl rfl (e_nil hf rfl) fun a hf => ?_
  refine q_ hf rfl rfl rfl (e_field hf rfl Try.underlying102 rfl Try.sizeOf38 (o' := 1) rfl) fun a hf => ?_
  refine pl_0 hf rfl rfl (w_store hf hM (us := [vL A22 (xs20) c23]) (cs' := [p10, vL A22 (xs20) c23]) rfl rfl (k := 1) rfl rfl Try.sizeOf38 rfl rfl rfl fun w27 hM => ?_)
  dsimp only [List.set] at hM
  refine pl_nil ?_
  refine then_n ?_
  refine wp_seq ?_
  refine region_pl ?_
  refine q_ hf rfl rfl rfl (e_assign hf rfl) fun a hf => ?_
  refine pl_nil ?_
  refine then_n ?_
  refine wp_ret ?_
  obtain rfl := some_inj h
  have hM := hM.front (k := 2) rfl
  dsimp only [List.eraseIdx] at hM
  have hM := hM.front (k := 2) rfl
  dsimp only [List.eraseIdx] at hM
  have hM := hM.outs (own' := [.box b2 [p10, vL A22 (xs20) c23] 102, .row byteRep A22 c23 5 xs20 true]) 2 rfl
  exact leave1 hf rfl rfl ⟨p10, A22, c23, rfl, hM.fin, hv11⟩

set_option maxRecDepth 100000 in
set_option maxHeartbeats 4000000 in
theorem r_strings_Builder_String (C : Cx) (b1 : Str) (b2 : Nat) (p3 : Value) (hp4 : AddrOk b2 p3) (A5 : Option Addr) (c6 : Nat) (hO : Mem C C.w0 [.box b2 [p3, vL A5 (b1) c6] 102, .row byteRep A5 c6 5 b1 true] []) (hd : ∀ b, C.S0 b → ¬ ownB [.box b2 [p3, vL A5 (b1) c6] 102, .row byteRep A5 c6 5 b1 true] b) (r : Str) (h : m_strings_Builder_String b1 = some r) :
    Calls Try.prog 87 #[vP b2 (0)] C.w0 fun e w => e = .returned (vS (r)) ∧ Mem C w [] [] ∧ r.length ≤ maxLen := by
  have hM := hO
  refine enter Try.func87 rfl Try.ntmps87 rfl fun a hf => ?_
  unfold m_strings_Builder_String at h
  refine wp_seq ?_
  refine region_pl ?_
  refine q_ hf rfl rfl rfl (e_assign hf rfl) fun a hf => ?_
  refine pl_nil ?_
  refine then_n ?_
  refine wp_seq ?_
  obtain ⟨w7, hw⟩ : ∃ x, x = C.w0.drew := ⟨_, rfl⟩
  refine region_pi (.q 0 (.q 1 (.q 2 (.q 3 (.q 5 (.q 6 (.q 7 (.q 8 (.q 9 (.l 4 (.l 10 (.q 11 (.nil))))))))))))) (Ext w7) rfl (by kernel_rfl) ?_
  have hM := hM.drew
  rw [← hw] at hM ⊢
  clear hw
  refine pi_q hf rfl rfl rfl rfl (Ext.refl _) (e_move hf rfl) fun a hf => ?_
  refine pi_q hf rfl rfl rfl rfl (Ext.refl _) (e_nil hf rfl) fun a hf => ?_
  refine pi_q hf rfl rfl rfl rfl (Ext.refl _) (e_field hf rfl Try.underlying102 rfl Try.sizeOf38 (o' := 1) rfl) fun a hf => ?_
  refine pi_q hf rfl rfl rfl rfl (Ext.refl _) (e_load1 hf rfl Try.isAgg38 (hM.boxCell (k := 0) rfl rfl)) fun a hf => ?_
  refine pi_q hf rfl rfl rfl rfl (Ext.refl _) (e_move hf rfl) fun a hf => ?_
  refine pi_q hf rfl rfl rfl rfl (Ext.refl _) (e_nil hf rfl) fun a hf => ?_
  refine pi_q hf rfl rfl rfl rfl (Ext.refl _) (e_field hf rfl Try.underlying102 rfl Try.sizeOf38 (o' := 1) rfl) fun a hf => ?_
  refine pi_q hf rfl rfl rfl rfl (Ext.refl _) (e_load1 hf rfl Try.isAgg38 (hM.boxCell (k := 0) rfl rfl)) fun a hf => ?_
  have hl8 := row_len (hM.ownAt (k := 1) rfl)
  refine pi_q hf rfl rfl rfl rfl (Ext.refl _) (e_lenL hf (x := b1) rfl Try.underlying38) fun a hf => ?_
  refine pi_one ?_
  refine pi_l hf rfl rfl rfl rfl (w_sliceData hf hM (k := 1) rfl rfl Try.underlying110 fun q9 w10 hx11 hM hq12 => ⟨Ext w10, fun _ h => Ext.trans hx11 h, Ext.refl _, fun a hf => ?_⟩)
  refine pi_one ?_
  have hl14 := row_len (hM.ownAt (k := 1) rfl)
  refine pi_z hf rfl rfl rfl rfl (by kernel_rfl) (w_unsafeString hf hM (k := 1) rfl hq12 rfl rfl Try.underlying110 (by kernel_rfl) fun w13 hM a hf => ?_)
  dsimp only [List.eraseIdx] at hM
  refine pi_q hf rfl rfl rfl rfl (Ext.refl _) (e_assign hf rfl) fun a hf => ?_
  refine pi_nil ?_
  refine then_n ?_
  refine wp_ret ?_
  obtain rfl := some_inj h
  have hM := hM.outs (own' := []) 0 rfl
  exact leave1 hf rfl rfl ⟨rfl, hM.fin, hl14⟩

set_option maxRecDepth 100000 in
set_option maxHeartbeats 4000000 in
theorem r_impl_counts_pile (C : Cx) (c1 : (List Int)) (hp2 : ArrOk 27 c1) (r : Str) (h : m_impl_counts_pile c1 = some r) :
    Calls Try.prog 72 #[.agg (arrV c1).toArray] C.w0 fun e w => e = .returned (vS (r)) ∧ Mem C w [] [] ∧ r.length ≤ maxLen := by
  have hM := Mem.begin C [] trivial
  refine enter Try.func72 rfl Try.ntmps72 rfl fun a hf => ?_
  unfold m_impl_counts_pile at h
  refine wp_seq ?_
  refine region_pl ?_
  refine pl_l hf rfl rfl rfl (w_box hf hM (cs := arrV c1) rfl rfl fun b3 w4 hx5 hM a hf => ?_)
  refine q_ hf rfl rfl rfl (e_assign hf rfl) fun a hf => ?_
  refine pl_nil ?_
  refine then_n ?_
  refine wp_seq ?_
  refine region_pl ?_
  refine pl_l hf rfl rfl rfl (w_alloc hM (cs := [.pointer none, vL none (([] : Str)) 0]) Try.zeroValue102 rfl fun b7 w8 hx9 hM a hf => ?_)
  have hM := hM.nilRow byteRep 5
  refine pl_nil ?_
  refine then_n ?_
  obtain ⟨x16, h17, h⟩ := bind_some h
  refine seq_join (fun a w => ∃ (xs13 : Str) (p11 : Value) (A14 : Option Addr) (c15 : Nat), xs13 = x16 ∧ Has 20 a [(3, vP b7 (0))] ∧ Mem C w [.row byteRep A14 c15 5 xs13 true, .box b7 [p11, vL A14 (xs13) c15] 102, .box b3 (arrV c1) 80] [] ∧ AddrOk b7 p11) ?_ ?_
  · refine wp_seq ?_
    refine region_pl ?_
    refine q_ hf rfl rfl rfl (e_loadA hf (us := arrV c1) rfl ⟨Try.isAgg80, Try.sizeOf80⟩ (arr_len hp2) (hM.boxSub (k := 2) (us := arrV c1) (o := 0) rfl (arr_all _))) fun a hf => ?_
    refine q_ hf rfl rfl rfl (e_move hf rfl) fun a hf => ?_
    refine pl_nil ?_
    refine then_n ?_
    refine wp_block ?_
    obtain ⟨x31, h32, h17⟩ := bind_some h17
    refine wp_loopM h32 (fun s a w => ∃ (xs20 : Str) (n23 : Int) (p18 : Value) (A21 : Option Addr) (c22 : Nat), (xs20, n23) = s ∧ Has 20 a [(3, vP b7 (0)), (6, .agg (arrV c1).toArray), (7, vI (n23))] ∧ Mem C w [.row byteRep A21 c22 5 xs20 true, .box b7 [p18, vL A21 (xs20) c22] 102, .box b3 (arrV c1) 80] [] ∧ AddrOk b7 p18 ∧ R64 n23) ?_ ?_
    · exact ⟨([] : Str), 0, (.pointer none), none, 0, rfl, hf.keep ⟨rfl, rfl, rfl, trivial⟩, hM.pick [] rfl, (AddrOk.nil _), (R64_lit rfl)⟩
    · rintro s o33 a w25 ⟨xs20, n23, p18, A21, c22, rfl, hf, hM, hv19, hv24⟩ h34 hd35
      replace h34 : m_impl_counts_pile_l1 c1 xs20 n23 = some o33 := h34
      unfold m_impl_counts_pile_l1 at h34
      refine wp_seq ?_
      refine region_pl ?_
      refine q_ hf rfl rfl rfl (e_lt hf (x := n23) (y := 27) rfl rfl) fun a hf => ?_
      refine pl_nil ?_
      refine then_n ?_
      refine wp_seq ?_
      rcases cond_some h34 with ⟨hc36, h34⟩ | ⟨hc36, h34⟩
      · refine cond_t hf rfl hc36 ?_
        refine wp_skip ?_
        refine then_n ?_
        obtain ⟨x42, h43, h34⟩ := bind_some h34
        refine seq_join (fun a w => ∃ (xs39 : Str) (p37 : Value) (A40 : Option Addr) (c41 : Nat), xs39 = x42 ∧ Has 20 a [(3, vP b7 (0)), (6, .agg (arrV c1).toArray), (7, vI (n23))] ∧ Mem C w [.row byteRep A40 c41 5 xs39 true, .box b7 [p37, vL A40 (xs39) c41] 102, .box b3 (arrV c1) 80] [] ∧ AddrOk b7 p37) ?_ ?_
        · refine wp_block ?_
          refine wp_seq ?_
          refine region_pl ?_
          refine q_ hf rfl rfl rfl (e_move hf rfl) fun a hf => ?_
          obtain ⟨n44, hz45, h43⟩ := bind_some h43
          refine q_ hf rfl rfl rfl (e_indexArr hf hp2 rfl rfl Try.underlying80 Try.isAgg3 Try.sizeOf3 hz45) fun a hf => ?_
          refine q_ hf rfl rfl rfl (e_assign hf rfl) fun a hf => ?_
          refine q_ hf rfl rfl rfl (e_assign hf rfl) fun a hf => ?_
          refine pl_nil ?_
          refine then_n ?_
          refine wp_block ?_
          obtain ⟨x59, h60, h43⟩ := bind_some h43
          refine wp_loopM h60 (fun s a w => ∃ (xs48 : Str) (n51 : Int) (p46 : Value) (A49 : Option Addr) (c50 : Nat), (xs48, n51) = s ∧ Has 20 a [(3, vP b7 (0)), (4, vI (n23)), (5, vI (n51)), (6, .agg (arrV c1).toArray), (7, vI (n23))] ∧ Mem C w [.row byteRep A49 c50 5 xs48 true, .box b7 [p46, vL A49 (xs48) c50] 102, .box b3 (arrV c1) 80] [] ∧ AddrOk b7 p46 ∧ R64 n51) ?_ ?_
          · exact ⟨xs20, n44, p18, A21, c22, rfl, hf.keep ⟨rfl, rfl, rfl, rfl, rfl, trivial⟩, hM.pick [] rfl, hv19, (arr_R hp2 hz45)⟩
          · rintro s o61 a w53 ⟨xs48, n51, p46, A49, c50, rfl, hf, hM, hv47, hv52⟩ h62 hd63
            replace h62 : m_impl_counts_pile_l2 n23 xs48 n51 = some o61 := h62
            unfold m_impl_counts_pile_l2 at h62
            refine wp_seq ?_
            refine wp_seq ?_
            refine region_pl ?_
            refine q_ hf rfl rfl rfl (e_move hf rfl) fun a hf => ?_
            refine q_ hf rfl rfl rfl (e_gt hf (x := n51) (y := 0) rfl rfl) fun a hf => ?_
            refine pl_nil ?_
            refine then_n ?_
            rcases cond_some h62 with ⟨hc64, h62⟩ | ⟨hc64, h62⟩
            · refine cond_t hf rfl hc64 ?_
              refine wp_skip ?_
              refine then_n ?_
              refine wp_seq ?_
              refine wp_block ?_
              refine region_pl ?_
              refine q_ hf rfl rfl rfl (e_move hf rfl) fun a hf => ?_
              obtain ⟨y65, hz66, h62⟩ := bind_some h62
              refine pl_l hf rfl rfl rfl (w_call hf Try.call86 rfl (r_impl_tileAt ⟨_, Sh C _ _, none_, hM.sh_lt, none_not, C.G, hM.g_lt, g_none, hM.tabs⟩ n23 hv24 _ hz66) ?_)
              rintro _ w67 ⟨rfl, hM2⟩
              obtain ⟨hM, hx68, hup69⟩ := hM.back hM2
              dsimp only [List.cons_append, List.nil_append] at hM hup69
              clear hM2
              refine ⟨_, rfl, fun a hf => ?_⟩
              have hM := hM.front (k := 0) rfl
              dsimp only [List.eraseIdx] at hM
              have hM := hM.front (k := 1) rfl
              dsimp only [List.eraseIdx] at hM
              have hM : Mem C _ ([.box b7 [p46, vL A49 (xs48) c50] 102, .row byteRep A49 c50 5 xs48 true] ++ [.box b3 (arrV c1) 80]) _ := hM
              obtain ⟨y70, hz71, h62⟩ := bind_some h62
              refine pl_l hf rfl rfl rfl (w_call hf Try.call85 rfl (r_strings_Builder_WriteByte ⟨_, Sh C _ _, ownB _, hM.sh_lt, sub_dis, C.G, hM.g_lt, hM.g_own, hM.tabs⟩ xs48 _ _ hv47 _ _ y65 hM.sub sub_dis _ hz71) ?_)
              rintro _ w76 ⟨p72, A74, c75, rfl, hM2, hv73⟩
              obtain ⟨hM, hup78⟩ := hM.backG hM2
              dsimp only [List.cons_append, List.nil_append] at hM hup78
              clear hM2
              refine ⟨_, rfl, fun a hf => ?_⟩
              refine pl_nil ?_
              refine blk_n ?_
              refine then_n ?_
              refine region_pl ?_
              refine q_ hf rfl rfl rfl (e_move hf rfl) fun a hf => ?_
              obtain ⟨z79, hz80, h62⟩ := bind_some h62
              refine q_ hf rfl rfl rfl (e_sub hf rfl rfl hz80) fun a hf => ?_
              refine q_ hf rfl rfl rfl (e_assign hf rfl) fun a hf => ?_
              refine pl_nil ?_
              obtain rfl := some_inj h62
              refine then_n ⟨_, rfl, ?_⟩
              have hM := hM.front (k := 2) rfl
              dsimp only [List.eraseIdx] at hM
              have hM := hM.front (k := 1) rfl
              dsimp only [List.eraseIdx] at hM
              have hM := hM.front (k := 2) rfl
              dsimp only [List.eraseIdx] at hM
              exact ⟨y70.2, z79, p72, A74, c75, rfl, hf.keep ⟨rfl, rfl, rfl, rfl, rfl, trivial⟩, hM.pick [] rfl, hv73, (chk_R hz80)⟩
            · refine cond_f hf rfl hc64 ?_
              refine wp_exit ?_
              refine then_x ?_
              obtain rfl := some_inj h62
              obtain rfl := hd63 _ rfl
              try dsimp only at h43
              refine then_x ?_
              refine exit_hit ?_
              refine blk_n ?_
              obtain rfl := some_inj h43
              refine then_n ?_
              exact ⟨xs48, p46, A49, c50, rfl, hf.keep ⟨rfl, rfl, rfl, trivial⟩, hM.pick [] rfl, hv47⟩
        · rintro a w86 ⟨xs39, p37, A40, c41, rfl, hf, hM, hv38⟩
          try dsimp only at h34
          refine region_pl ?_
          obtain ⟨z87, hz88, h34⟩ := bind_some h34
          refine q_ hf rfl rfl rfl (e_add hf rfl rfl hz88) fun a hf => ?_
          refine q_ hf rfl rfl rfl (e_move hf rfl) fun a hf => ?_
          refine pl_nil ?_
          obtain rfl := some_inj h34
          refine then_n ⟨_, rfl, ?_⟩
          exact ⟨xs39, z87, p37, A40, c41, rfl, hf.keep ⟨rfl, rfl, rfl, trivial⟩, hM.pick [] rfl, hv38, (chk_R hz88)⟩
      · refine cond_f hf rfl hc36 ?_
        refine wp_exit ?_
        refine then_x ?_
        obtain rfl := some_inj h34
        obtain rfl := hd35 _ rfl
        try dsimp only at h17
        refine then_x ?_
        refine exit_hit ?_
        obtain rfl := some_inj h17
        refine then_n ?_
        exact ⟨xs20, p18, A21, c22, rfl, hf.keep ⟨rfl, trivial⟩, hM.pick [] rfl, hv19⟩
  · rintro a w94 ⟨xs13, p11, A14, c15, rfl, hf, hM, hv12⟩
    try dsimp only at h
    refine wp_seq ?_
    refine region_pl ?_
    have hM := hM.front (k := 0) rfl
    dsimp only [List.eraseIdx] at hM
    have hM := hM.front (k := 1) rfl
    dsimp only [List.eraseIdx] at hM
    have hM : Mem C _ ([.box b7 [p11, vL A14 (xs13) c15] 102, .row byteRep A14 c15 5 xs13 true] ++ [.box b3 (arrV c1) 80]) _ := hM
    obtain ⟨y95, hz96, h⟩ := bind_some h
    refine pl_l hf rfl rfl rfl (w_call hf Try.call87 rfl (r_strings_Builder_String ⟨_, Sh C _ _, ownB _, hM.sh_lt, sub_dis, C.G, hM.g_lt, hM.g_own, hM.tabs⟩ xs13 _ _ hv12 _ _ hM.sub sub_dis _ hz96) ?_)
    rintro _ w98 ⟨rfl, hM2, hv97⟩
    obtain ⟨hM, hup100⟩ := hM.backG hM2
    dsimp only [List.cons_append, List.nil_append] at hM hup100
    clear hM2
    refine ⟨_, rfl, fun a hf => ?_⟩
    refine q_ hf rfl rfl rfl (e_assign hf rfl) fun a hf => ?_
    refine pl_nil ?_
    refine then_n ?_
    refine wp_ret ?_
    obtain rfl := some_inj h
    have hM := hM.outs (own' := []) 0 rfl
    exact leave1 hf rfl rfl ⟨rfl, hM.fin, hv97⟩

set_option maxRecDepth 100000 in
set_option maxHeartbeats 4000000 in
theorem r_impl_without (C : Cx) (a1 : Str) (hp2 : a1.length ≤ maxLen) (b3 : Str) (hp4 : b3.length ≤ maxLen) (r : (Str × Bool)) (h : m_impl_without a1 b3 = some r) :
    Calls Try.prog 50 #[vS (a1), vS (b3)] C.w0 fun e w => e = .returned (.tuple #[vS (r.1), .bool (r.2)]) ∧ Mem C w [] [] ∧ r.1.length ≤ maxLen := by
  have hM := Mem.begin C [] trivial
  refine enter Try.func50 rfl Try.ntmps50 rfl fun a hf => ?_
  unfold m_impl_without at h
  refine wp_seq ?_
  refine region_pl ?_
  refine q_ hf rfl rfl rfl (e_assign hf rfl) fun a hf => ?_
  refine q_ hf rfl rfl rfl (e_assign hf rfl) fun a hf => ?_
  refine pl_nil ?_
  refine then_n ?_
  refine wp_seq ?_
  refine region_pl ?_
  refine q_ hf rfl rfl rfl (e_move hf rfl) fun a hf => ?_
  obtain ⟨y5, hz6, h⟩ := bind_some h
  refine pl_l hf rfl rfl rfl (w_call hf Try.call64 rfl (r_impl_countsOf ⟨_, Sh C _ _, none_, hM.sh_lt, none_not, C.G, hM.g_lt, g_none, hM.tabs⟩ a1 hp2 _ hz6) ?_)
  rintro _ w8 ⟨rfl, hM2, hv7⟩
  obtain ⟨hM, hx9, hup10⟩ := hM.back hM2
  dsimp only [List.cons_append, List.nil_append] at hM hup10
  clear hM2
  refine ⟨_, rfl, fun a hf => ?_⟩
  refine q_ hf rfl rfl rfl (e_move hf rfl) fun a hf => ?_
  obtain ⟨y11, hz12, h⟩ := bind_some h
  refine pl_l hf rfl rfl rfl (w_call hf Try.call64 rfl (r_impl_countsOf ⟨_, Sh C _ _, none_, hM.sh_lt, none_not, C.G, hM.g_lt, g_none, hM.tabs⟩ b3 hp4 _ hz12) ?_)
  rintro _ w14 ⟨rfl, hM2, hv13⟩
  obtain ⟨hM, hx15, hup16⟩ := hM.back hM2
  dsimp only [List.cons_append, List.nil_append] at hM hup16
  clear hM2
  refine ⟨_, rfl, fun a hf => ?_⟩
  obtain ⟨y17, hz18, h⟩ := bind_some h
  refine pl_l hf rfl rfl rfl (w_call hf Try.call71 rfl (r_impl_counts_less ⟨_, Sh C _ _, none_, hM.sh_lt, none_not, C.G, hM.g_lt, g_none, hM.tabs⟩ y5 hv7 y11 hv13 _ hz18) ?_)
  rintro _ w20 ⟨rfl, hM2, hv19⟩
  obtain ⟨hM, hx21, hup22⟩ := hM.back hM2
  dsimp only [List.cons_append, List.nil_append] at hM hup22
  clear hM2
  refine ⟨_, rfl, fun a hf => ?_⟩
  refine q_ hf rfl rfl rfl (e_move hf rfl) fun a hf => ?_
  refine q_ hf rfl rfl rfl (e_extract hf rfl rfl) fun a hf => ?_
  refine q_ hf rfl rfl rfl (e_extract hf rfl rfl) fun a hf => ?_
  refine pl_l hf rfl rfl rfl (w_alloc hM (cs := arrV (List.replicate 27 (0 : Int))) Try.zeroValue80 rfl fun b23 w24 hx25 hM a hf => ?_)
  refine pl_0 hf rfl rfl (w_storeArr hf hM rfl rfl (k := 0) rfl (arr_zero 27) hv19 Try.sizeOf80 fun w27 hM => ?_)
  dsimp only [List.set] at hM
  refine q_ hf rfl rfl rfl (e_assign hf rfl) fun a hf => ?_
  refine pl_nil ?_
  refine then_n ?_
  refine wp_seq ?_
  refine region_pl ?_
  refine q_ hf rfl rfl rfl (e_loadA hf (us := arrV y17.1) rfl ⟨Try.isAgg80, Try.sizeOf80⟩ (arr_len hv19) (hM.boxSub (k := 0) (us := arrV y17.1) (o := 0) rfl (arr_all _))) fun a hf => ?_
  obtain ⟨y28, hz29, h⟩ := bind_some h
  refine pl_l hf rfl rfl rfl (w_call hf Try.call72 rfl (r_impl_counts_pile ⟨_, Sh C _ _, none_, hM.sh_lt, none_not, C.G, hM.g_lt, g_none, hM.tabs⟩ y17.1 hv19 _ hz29) ?_)
  rintro _ w31 ⟨rfl, hM2, hv30⟩
  obtain ⟨hM, hx32, hup33⟩ := hM.back hM2
  dsimp only [List.cons_append, List.nil_append] at hM hup33
  clear hM2
  refine ⟨_, rfl, fun a hf => ?_⟩
  refine q_ hf rfl rfl rfl (e_move hf rfl) fun a hf => ?_
  refine q_ hf rfl rfl rfl (e_assign hf rfl) fun a hf => ?_
  refine q_ hf rfl rfl rfl (e_assign hf rfl) fun a hf => ?_
  refine pl_nil ?_
  refine then_n ?_
  refine wp_ret ?_
  obtain rfl := some_inj h
  have hM := hM.outs (own' := []) 0 rfl
  exact leave2 hf rfl rfl rfl ⟨rfl, hM.fin, hv30⟩

set_option maxRecDepth 100000 in
set_option maxHeartbeats 4000000 in
theorem r_impl_ChanceOf_1 (C : Cx) (sum1 : Int) (hp2 : R64 sum1) (x3 : Drawn) (hp4 : x3.Tiles.length ≤ maxLen) (hp5 : R64 x3.Ways) (p6 : Str) (b7 : Nat) (o8 : Nat) (hp9 : (ptrRep strRep).R C.w0 C.S0 p6 [vP b7 o8]) (r : Int) (h : m_impl_ChanceOf_1 sum1 x3 p6 = some r) :
    Calls Try.prog 49 #[vI (sum1), .agg #[vS (x3.Tiles), vI (x3.Ways)], vP b7 (o8)] C.w0 fun e w => e = .returned (vI (r)) ∧ Mem C w [] [] ∧ R64 r := by
  have hM := Mem.begin C [.dat (ptrRep strRep) p6 [vP b7 o8]] ⟨hp9, trivial⟩
  refine enter Try.func49 rfl Try.ntmps49 rfl fun a hf => ?_
  unfold m_impl_ChanceOf_1 at h
  refine wp_seq ?_
  refine region_pl ?_
  refine pl_l hf rfl rfl rfl (w_box hf hM (cs := [vS (x3.Tiles), vI (x3.Ways)]) rfl rfl fun b10 w11 hx12 hM a hf => ?_)
  refine q_ hf rfl rfl rfl (e_assign hf rfl) fun a hf => ?_
  refine pl_nil ?_
  refine then_n ?_
  obtain ⟨x16, h17, h⟩ := bind_some h
  refine seq_join (fun a w => ∃ (sum14 : Int), sum14 = x16 ∧ Has 21 a [(0, vI (sum14))] ∧ Mem C w [.box b10 [vS (x3.Tiles), vI (x3.Ways)] 47] [.dat (ptrRep strRep) p6 [vP b7 o8]] ∧ R64 sum14) ?_ ?_
  · refine wp_seq ?_
    refine region_pl ?_
    refine q_ hf rfl rfl rfl (e_field hf rfl Try.underlying47 rfl Try.sizeOf9 (o' := 0) rfl) fun a hf => ?_
    refine q_ hf rfl rfl rfl (e_load1 hf rfl Try.isAgg9 (hM.boxCell (k := 0) rfl rfl)) fun a hf => ?_
    obtain ⟨_, hr18, hM⟩ := hM.deref (hM.dat (k := 0) rfl)
    obtain ⟨rfl, hv19⟩ := hr18
    refine q_ hf rfl rfl rfl (e_load1 hf rfl Try.isAgg9 (hM.litCell (k := 0) (j := 0) rfl rfl rfl)) fun a hf => ?_
    obtain ⟨y20, hz21, h17⟩ := bind_some h17
    refine pl_l hf rfl rfl rfl (w_call hf Try.call50 rfl (r_impl_without ⟨_, Sh C _ _, none_, hM.sh_lt, none_not, C.G, hM.g_lt, g_none, hM.tabs⟩ x3.Tiles hp4 p6 hv19 _ hz21) ?_)
    rintro _ w23 ⟨rfl, hM2, hv22⟩
    obtain ⟨hM, hx24, hup25⟩ := hM.back hM2
    dsimp only [List.cons_append, List.nil_append] at hM hup25
    clear hM2
    refine ⟨_, rfl, fun a hf => ?_⟩
    refine q_ hf rfl rfl rfl (e_move hf rfl) fun a hf => ?_
    refine q_ hf rfl rfl rfl (e_extract hf rfl rfl) fun a hf => ?_
    refine q_ hf rfl rfl rfl (e_extract hf rfl rfl) fun a hf => ?_
    refine q_ hf rfl rfl rfl (e_assign hf rfl) fun a hf => ?_
    refine q_ hf rfl rfl rfl (e_assign hf rfl) fun a hf => ?_
    refine pl_nil ?_
    refine then_n ?_
    refine wp_seq ?_
    refine region_pl ?_
    refine q_ hf rfl rfl rfl (e_move hf rfl) fun a hf => ?_
    refine pl_nil ?_
    refine then_n ?_
    rcases cond_some h17 with ⟨hc26, h17⟩ | ⟨hc26, h17⟩
    · refine cond_t hf rfl hc26 ?_
      refine region_pl ?_
      refine q_ hf rfl rfl rfl (e_move hf rfl) fun a hf => ?_
      refine q_ hf rfl rfl rfl (e_field hf rfl Try.underlying47 rfl Try.sizeOf2 (o' := 1) rfl) fun a hf => ?_
      refine q_ hf rfl rfl rfl (e_load1 hf rfl Try.isAgg2 (hM.boxCell (k := 0) rfl rfl)) fun a hf => ?_
      obtain ⟨z27, hz28, h17⟩ := bind_some h17
      refine q_ hf rfl rfl rfl (e_add hf rfl rfl hz28) fun a hf => ?_
      refine q_ hf rfl rfl rfl (e_assign hf rfl) fun a hf => ?_
      refine pl_nil ?_
      obtain rfl := some_inj h17
      refine then_n ?_
      exact ⟨z27, rfl, hf.keep ⟨rfl, trivial⟩, hM.pick [1] rfl, (chk_R hz28)⟩
    · refine cond_f hf rfl hc26 ?_
      refine wp_skip ?_
      obtain rfl := some_inj h17
      refine then_n ?_
      exact ⟨sum1, rfl, hf.keep ⟨rfl, trivial⟩, hM.pick [1] rfl, hp2⟩
  · rintro a w31 ⟨sum14, rfl, hf, hM, hv15⟩
    try dsimp only at h
    refine wp_seq ?_
    refine region_pl ?_
    refine q_ hf rfl rfl rfl (e_move hf rfl) fun a hf => ?_
    refine q_ hf rfl rfl rfl (e_assign hf rfl) fun a hf => ?_
    refine pl_nil ?_
    refine then_n ?_
    refine wp_ret ?_
    obtain rfl := some_inj h
    have hM := hM.outs (own' := []) 0 rfl
    exact leave1 hf rfl rfl ⟨rfl, hM.fin, hv15⟩

set_option maxRecDepth 100000 in
set_option maxHeartbeats 4000000 in
theorem r_impl_fold_impl_Drawn_int64 (C : Cx) (list1 : (List Drawn)) (A2 : Option Addr) (c3 : Nat) (hp4 : (sliceRep DrawnRep).R C.w0 C.S0 list1 [vL A2 list1 c3]) (value5 : Int) (hp6 : R64 value5) (step7 : (Int → Drawn → Option Int)) (fk8 : FuncId) (fc9 : List Value) (hfn10 : FnOk Try.prog C fk8 (FnC_Int_Drawn_to_Int fk8 fc9 step7)) (r : Int) (h : m_impl_fold_impl_Drawn_int64 list1 value5 step7 = some r) :
    Calls Try.prog 48 #[vL A2 (list1) c3, vI (value5), .func (.func fk8) #[] fc9.toArray] C.w0 fun e w => e = .returned (vI (r)) ∧ Mem C w [] [] ∧ R64 r := by
  have hM := Mem.begin C [.dat (sliceRep DrawnRep) list1 [vL A2 list1 c3]] ⟨hp4, trivial⟩
  refine enter Try.func48 rfl Try.ntmps48 rfl fun a hf => ?_
  unfold m_impl_fold_impl_Drawn_int64 at h
  refine wp_seq ?_
  refine region_pl ?_
  refine q_ hf rfl rfl rfl (e_assign hf rfl) fun a hf => ?_
  refine pl_nil ?_
  refine then_n ?_
  obtain ⟨x13, h14, h⟩ := bind_some h
  refine seq_join (fun a w => ∃ (value11 : Int), value11 = x13 ∧ Has 21 a [(1, vI (value11))] ∧ Mem C w [] [.dat (sliceRep DrawnRep) list1 [vL A2 list1 c3]] ∧ R64 value11) ?_ ?_
  · refine wp_seq ?_
    refine region_pl ?_
    refine q_ hf rfl rfl rfl (e_move hf rfl) fun a hf => ?_
    have hl15 := slice_len (hM.dat (k := 0) rfl)
    refine q_ hf rfl rfl rfl (e_lenL hf (x := list1) rfl Try.underlying32) fun a hf => ?_
    refine q_ hf rfl rfl rfl (e_move hf rfl) fun a hf => ?_
    refine pl_nil ?_
    refine then_n ?_
    refine wp_block ?_
    obtain ⟨x23, h24, h14⟩ := bind_some h14
    refine wp_loopM h24 (fun s a w => ∃ (value16 : Int) (n18 : Int), (value16, n18) = s ∧ Has 21 a [(1, vI (value16)), (2, .func (.func fk8) #[] fc9.toArray), (9, vL A2 (list1) c3), (10, vI ((list1.length : Int))), (11, vI (n18))] ∧ Mem C w [] [.dat (sliceRep DrawnRep) list1 [vL A2 list1 c3]] ∧ R64 value16 ∧ R64 n18) ?_ ?_
    · exact ⟨value5, 0, rfl, hf.keep ⟨rfl, rfl, rfl, rfl, rfl, trivial⟩, hM.pick [0] rfl, hp6, (R64_lit rfl)⟩
    · rintro s o25 a w20 ⟨value16, n18, rfl, hf, hM, hv17, hv19⟩ h26 hd27
      replace h26 : m_impl_fold_impl_Drawn_int64_l1 list1 step7 value16 n18 = some o25 := h26
      unfold m_impl_fold_impl_Drawn_int64_l1 at h26
      refine wp_seq ?_
      refine region_pl ?_
      refine q_ hf rfl rfl rfl (e_lt hf (x := n18) (y := (list1.length : Int)) rfl rfl) fun a hf => ?_
      refine pl_nil ?_
      refine then_n ?_
      refine wp_seq ?_
      rcases cond_some h26 with ⟨hc28, h26⟩ | ⟨hc28, h26⟩
      · refine cond_t hf rfl hc28 ?_
        refine wp_skip ?_
        refine then_n ?_
        refine wp_seq ?_
        refine wp_block ?_
        refine wp_seq ?_
        refine region_pl ?_
        obtain ⟨e29, hz30, h26⟩ := bind_some h26
        obtain ⟨b34, o35, _, hA36, h31, h32, hr33, hM⟩ := hM.elem (hM.dat (k := 0) rfl) (n := 2) rfl hz30
        obtain ⟨rfl, hv37, hv38⟩ := DrawnRep_open hr33
        refine q_ hf rfl rfl rfl (e_indexAddr (A := A2) (b := b34) (o := o35) (xs := list1) (i := n18) hf hA36 rfl rfl Try.underlying32 Try.sizeOf47 h31 h32) fun a hf => ?_
        refine q_ hf rfl rfl rfl (e_loadA hf (us := [vS (e29.Tiles), vI (e29.Ways)]) rfl ⟨Try.isAgg47, Try.sizeOf47⟩ rfl (hM.litSub (k := 0) (d := 0) (us := [vS (e29.Tiles), vI (e29.Ways)]) rfl rfl rfl)) fun a hf => ?_
        refine pl_l hf rfl rfl rfl (w_alloc hM (cs := [vS (([] : Str)), vI (0)]) Try.zeroValue47 rfl fun b39 w40 hx41 hM a hf => ?_)
        refine pl_0 hf rfl rfl (w_store hf hM (us := [vS (e29.Tiles), vI (e29.Ways)]) (cs' := [vS (e29.Tiles), vI (e29.Ways)]) rfl rfl (k := 0) rfl rfl Try.sizeOf47 rfl rfl rfl fun w43 hM => ?_)
        dsimp only [List.set] at hM
        refine pl_nil ?_
        refine then_n ?_
        refine region_pl ?_
        refine q_ hf rfl rfl rfl (e_move hf rfl) fun a hf => ?_
        refine q_ hf rfl rfl rfl (e_move hf rfl) fun a hf => ?_
        refine q_ hf rfl rfl rfl (e_loadA hf (us := [vS (e29.Tiles), vI (e29.Ways)]) rfl ⟨Try.isAgg47, Try.sizeOf47⟩ rfl (hM.boxSub (k := 0) (us := [vS (e29.Tiles), vI (e29.Ways)]) (o := 0) rfl rfl)) fun a hf => ?_
        obtain ⟨y46, hz47, h26⟩ := bind_some h26
        refine pl_l hf rfl rfl rfl (w_callV hf rfl hfn10.1 rfl (hfn10.2 ⟨_, Sh C _ _, none_, hM.sh_lt, none_not, C.G, hM.g_lt, g_none, hM.tabs⟩ hM.sameS hM.s0sh value16 hv17 e29 hv37 hv38 _ hz47) ?_)
        rintro _ w49 ⟨rfl, hM2, hv48⟩
        obtain ⟨hM, hx50, hup51⟩ := hM.back hM2
        dsimp only [List.cons_append, List.nil_append] at hM hup51
        clear hM2
        refine ⟨_, rfl, fun a hf => ?_⟩
        refine q_ hf rfl rfl rfl (e_assign hf rfl) fun a hf => ?_
        refine pl_nil ?_
        refine blk_n ?_
        refine then_n ?_
        refine region_pl ?_
        obtain ⟨z52, hz53, h26⟩ := bind_some h26
        refine q_ hf rfl rfl rfl (e_add hf rfl rfl hz53) fun a hf => ?_
        refine q_ hf rfl rfl rfl (e_move hf rfl) fun a hf => ?_
        refine pl_nil ?_
        obtain rfl := some_inj h26
        refine then_n ⟨_, rfl, ?_⟩
        exact ⟨y46, z52, rfl, hf.keep ⟨rfl, rfl, rfl, rfl, rfl, trivial⟩, (hM.drop (.cons _ .slnil)).pick [1] rfl, hv48, (chk_R hz53)⟩
      · refine cond_f hf rfl hc28 ?_
        refine wp_exit ?_
        refine then_x ?_
        obtain rfl := some_inj h26
        obtain rfl := hd27 _ rfl
        try dsimp only at h14
        refine then_x ?_
        refine exit_hit ?_
        obtain rfl := some_inj h14
        refine then_n ?_
        exact ⟨value16, rfl, hf.keep ⟨rfl, trivial⟩, hM.pick [0] rfl, hv17⟩
  · rintro a w59 ⟨value11, rfl, hf, hM, hv12⟩
    try dsimp only at h
    refine wp_seq ?_
    refine region_pl ?_
    refine q_ hf rfl rfl rfl (e_move hf rfl) fun a hf => ?_
    refine q_ hf rfl rfl rfl (e_assign hf rfl) fun a hf => ?_
    refine pl_nil ?_
    refine then_n ?_
    refine wp_ret ?_
    obtain rfl := some_inj h
    exact leave1 hf rfl rfl ⟨rfl, hM.fin, hv12⟩

set_option maxRecDepth 100000 in
set_option maxHeartbeats 4000000 in
theorem r_impl_ChanceOf (C : Cx) (pile1 : Str) (hp2 : pile1.length ≤ maxLen) (n3 : Int) (hp4 : R64 n3) (tiles5 : Str) (hp6 : tiles5.length ≤ maxLen) (r : (Int × Int)) (h : m_impl_ChanceOf pile1 n3 tiles5 = some r) :
    Calls Try.prog 23 #[vS (pile1), vI (n3), vS (tiles5)] C.w0 fun e w => e = .returned (.tuple #[vI (r.1), vI (r.2)]) ∧ Mem C w [] [] ∧ R64 r.1 ∧ R64 r.2 := by
  have hM := Mem.begin C [] trivial
  refine enter Try.func23 rfl Try.ntmps23 rfl fun a hf => ?_
  unfold m_impl_ChanceOf at h
  refine wp_seq ?_
  refine region_pl ?_
  refine pl_l hf rfl rfl rfl (w_box hf hM (cs := [vS (tiles5)]) rfl rfl fun b7 w8 hx9 hM a hf => ?_)
  refine q_ hf rfl rfl rfl (e_assign hf rfl) fun a hf => ?_
  refine q_ hf rfl rfl rfl (e_assign hf rfl) fun a hf => ?_
  refine pl_nil ?_
  refine then_n ?_
  refine wp_seq ?_
  obtain ⟨x13, h14, h⟩ := bind_some h
  refine seq_join (fun a w => ∃ (t11 : Bool), t11 = x13 ∧ Has 30 a [(0, vS (pile1)), (1, vI (n3)), (5, vP b7 (0)), (17, .bool (t11))] ∧ Mem C w [.box b7 [vS (tiles5)] 9] []) ?_ ?_
  · refine region_pl ?_
    refine q_ hf rfl rfl rfl (e_move hf rfl) fun a hf => ?_
    obtain ⟨y15, hz16, h14⟩ := bind_some h14
    refine pl_l hf rfl rfl rfl (w_call hf Try.call46 rfl (r_impl_isPool ⟨_, Sh C _ _, none_, hM.sh_lt, none_not, C.G, hM.g_lt, g_none, hM.tabs⟩ pile1 hp2 _ hz16) ?_)
    rintro _ w17 ⟨rfl, hM2⟩
    obtain ⟨hM, hx18, hup19⟩ := hM.back hM2
    dsimp only [List.cons_append, List.nil_append] at hM hup19
    clear hM2
    refine ⟨_, rfl, fun a hf => ?_⟩
    refine q_ hf rfl rfl rfl (e_not hf rfl) fun a hf => ?_
    refine q_ hf rfl rfl rfl (e_move hf rfl) fun a hf => ?_
    rcases cond_some h14 with ⟨hc20, h14⟩ | ⟨hc20, h14⟩
    · refine pl_gs (wanted_f hf rfl rfl rfl rfl hc20) hf rfl rfl fun a hf => ?_
      refine pl_gs (wanted_f hf rfl rfl rfl rfl hc20) hf rfl rfl fun a hf => ?_
      refine pl_gs (wanted_f hf rfl rfl rfl rfl hc20) hf rfl rfl fun a hf => ?_
      refine q_ hf rfl rfl rfl (e_pick_t hf rfl hc20 rfl) fun a hf => ?_
      refine pl_nil ?_
      obtain rfl := some_inj h14
      refine then_n ?_
      exact ⟨true, rfl, hf.keep ⟨rfl, rfl, rfl, rfl, trivial⟩, hM.pick [] rfl⟩
    · refine gq (wanted_t hf rfl rfl rfl rfl hc20) hf rfl rfl (e_load1 hf rfl Try.isAgg9 (hM.boxCell (k := 0) rfl rfl)) fun a hf => ?_
      obtain ⟨y22, hz23, h14⟩ := bind_some h14
      refine pl_gl (wanted_t hf rfl rfl rfl rfl hc20) hf rfl rfl (w_call hf Try.call47 rfl (r_impl_ValidPile ⟨_, Sh C _ _, none_, hM.sh_lt, none_not, C.G, hM.g_lt, g_none, hM.tabs⟩ tiles5 hp6 _ hz23) ?_)
      rintro _ w24 ⟨rfl, hM2⟩
      obtain ⟨hM, hx25, hup26⟩ := hM.back hM2
      dsimp only [List.cons_append, List.nil_append] at hM hup26
      clear hM2
      refine ⟨_, rfl, fun a hf => ?_⟩
      refine gq (wanted_t hf rfl rfl rfl rfl hc20) hf rfl rfl (e_not hf rfl) fun a hf => ?_
      refine q_ hf rfl rfl rfl (e_pick_f hf rfl hc20 rfl) fun a hf => ?_
      refine pl_nil ?_
      obtain rfl := some_inj h14
      refine then_n ?_
      exact ⟨(!y22), rfl, hf.keep ⟨rfl, rfl, rfl, rfl, trivial⟩, hM.pick [] rfl⟩
  · rintro a w28 ⟨t11, rfl, hf, hM⟩
    try dsimp only at h
    rcases cond_some h with ⟨hc29, h⟩ | ⟨hc29, h⟩
    · refine cond_t hf rfl hc29 ?_
      refine wp_seq ?_
      refine region_pl ?_
      refine q_ hf rfl rfl rfl (e_assign hf rfl) fun a hf => ?_
      refine q_ hf rfl rfl rfl (e_assign hf rfl) fun a hf => ?_
      refine pl_nil ?_
      refine then_n ?_
      refine wp_ret ?_
      refine then_r ?_
      obtain rfl := some_inj h
      have hM := hM.outs (own' := []) 0 rfl
      exact leave2 hf rfl rfl rfl ⟨rfl, hM.fin, (R64_lit rfl), (R64_lit rfl)⟩
    · refine cond_f hf rfl hc29 ?_
      refine wp_skip ?_
      refine then_n ?_
      refine wp_seq ?_
      refine wp_seq ?_
      refine region_pl ?_
      refine q_ hf rfl rfl rfl (e_move hf rfl) fun a hf => ?_
      refine q_ hf rfl rfl rfl (e_move hf rfl) fun a hf => ?_
      obtain ⟨y30, hz31, h⟩ := bind_some h
      refine pl_l hf rfl rfl rfl (w_call hf Try.call44 rfl (r_impl_drawCode ⟨_, Sh C _ _, none_, hM.sh_lt, none_not, C.G, hM.g_lt, g_none, hM.tabs⟩ pile1 hp2 n3 hp4 _ hz31) ?_)
      rintro _ w33 ⟨rfl, hM2, hv32⟩
      obtain ⟨hM, hx34, hup35⟩ := hM.back hM2
      dsimp only [List.cons_append, List.nil_append] at hM hup35
      clear hM2
      refine ⟨_, rfl, fun a hf => ?_⟩
      refine q_ hf rfl rfl rfl (e_assign hf rfl) fun a hf => ?_
      refine pl_nil ?_
      refine then_n ?_
      refine wp_seq ?_
      refine region_pl ?_
      refine q_ hf rfl rfl rfl (e_move hf rfl) fun a hf => ?_
      refine q_ hf rfl rfl rfl (e_ne hf (x := y30) (y := 0) rfl rfl) fun a hf => ?_
      refine pl_nil ?_
      refine then_n ?_
      rcases cond_some h with ⟨hc36, h⟩ | ⟨hc36, h⟩
      · refine cond_t hf rfl hc36 ?_
        refine wp_seq ?_
        refine region_pl ?_
        refine q_ hf rfl rfl rfl (e_move hf rfl) fun a hf => ?_
        refine q_ hf rfl rfl rfl (e_assign hf rfl) fun a hf => ?_
        refine q_ hf rfl rfl rfl (e_assign hf rfl) fun a hf => ?_
        refine pl_nil ?_
        refine then_n ?_
        refine wp_ret ?_
        refine then_r ?_
        obtain rfl := some_inj h
        have hM := hM.outs (own' := []) 0 rfl
        exact leave2 hf rfl rfl rfl ⟨rfl, hM.fin, (R64_lit rfl), hv32⟩
      · refine cond_f hf rfl hc36 ?_
        refine wp_skip ?_
        refine then_n ?_
        refine wp_seq ?_
        refine region_pl ?_
        refine q_ hf rfl rfl rfl (e_move hf rfl) fun a hf => ?_
        refine q_ hf rfl rfl rfl (e_move hf rfl) fun a hf => ?_
        obtain ⟨y37, hz38, h⟩ := bind_some h
        refine pl_l hf rfl rfl rfl (w_call hf Try.call39 rfl (r_impl_draws ⟨_, Sh C _ _, none_, hM.sh_lt, none_not, C.G, hM.g_lt, g_none, hM.tabs⟩ pile1 hp2 n3 hp4 _ hz38) ?_)
        rintro _ w41 ⟨A39, c40, rfl, hM2⟩
        obtain ⟨hM, hx42, hup43⟩ := hM.back hM2
        dsimp only [List.cons_append, List.nil_append] at hM hup43
        clear hM2
        refine ⟨_, rfl, fun a hf => ?_⟩
        refine q_ hf rfl rfl rfl (w_makeFunc hf rfl) fun a hf => ?_
        obtain ⟨y49, hz50, h⟩ := bind_some h
        refine pl_l hf rfl rfl rfl (w_call hf Try.call48 rfl (r_impl_fold_impl_Drawn_int64 ⟨_, All C _ _, none_, hM.all_lt, none_not, C.G, hM.g_lt, g_none, hM.tabs⟩ y37 _ _ (hM.lendRow (k := 0) rfl) 0 (R64_lit rfl) (fun u44 u46 => m_impl_ChanceOf_1 u44 u46 tiles5) 49 [vP b7 (0)] ⟨Try.call49, fun C1 hs hsub u44 hp45 u46 hp47 hp48 r h => r_impl_ChanceOf_1 C1 u44 hp45 u46 hp47 hp48 tiles5 _ _ (Rep.to (hM.lendBox (k := 1) rfl ⟨rfl, hp6⟩) hs hsub) r h⟩ _ hz50) ?_)
        rintro _ w52 ⟨rfl, hM2, hv51⟩
        obtain ⟨hM, hx53⟩ := hM.backA hM2
        clear hM2
        refine ⟨_, rfl, fun a hf => ?_⟩
        refine q_ hf rfl rfl rfl (e_assign hf rfl) fun a hf => ?_
        refine pl_nil ?_
        refine then_n ?_
        refine wp_seq ?_
        refine region_pl ?_
        refine q_ hf rfl rfl rfl (e_move hf rfl) fun a hf => ?_
        refine q_ hf rfl rfl rfl (e_assign hf rfl) fun a hf => ?_
        refine q_ hf rfl rfl rfl (e_assign hf rfl) fun a hf => ?_
        refine pl_nil ?_
        refine then_n ?_
        refine wp_ret ?_
        obtain rfl := some_inj h
        have hM := hM.outs (own' := []) 0 rfl
        exact leave2 hf rfl rfl rfl ⟨rfl, hM.fin, hv51, (R64_lit rfl)⟩

set_option maxRecDepth 100000 in
set_option maxHeartbeats 4000000 in
theorem r_spec_l03Take (C : Cx) (a1 : Str) (hp2 : a1.length ≤ maxLen) (b3 : Str) (hp4 : b3.length ≤ maxLen) (r : (Str × Bool)) (h : m_spec_l03Take a1 b3 = some r) :
    Calls Try.prog 51 #[vS (a1), vS (b3)] C.w0 fun e w => e = .returned (.tuple #[vS (r.1), .bool (r.2)]) ∧ Mem C w [] [] ∧ r.1.length ≤ maxLen := by
  have hM := Mem.begin C [] trivial
  refine enter Try.func51 rfl Try.ntmps51 rfl fun a hf => ?_
  unfold m_spec_l03Take at h
  refine wp_seq ?_
  refine region_pl ?_
  refine q_ hf rfl rfl rfl (e_assign hf rfl) fun a hf => ?_
  refine q_ hf rfl rfl rfl (e_assign hf rfl) fun a hf => ?_
  refine pl_nil ?_
  refine then_n ?_
  refine wp_seq ?_
  refine region_pl ?_
  refine pl_l hf rfl rfl rfl (w_slice0 (K := byteRep) hM Try.underlying38 ei_5 fun b5 w6 hx7 hM a hf => ?_)
  refine q_ hf rfl rfl rfl (e_assign hf rfl) fun a hf => ?_
  refine pl_nil ?_
  refine then_n ?_
  refine wp_seq ?_
  refine region_pl ?_
  refine q_ hf rfl rfl rfl (e_assign hf rfl) fun a hf => ?_
  refine pl_nil ?_
  refine then_n ?_
  obtain ⟨x13, h14, h⟩ := bind_some h
  refine seq_join (fun a w => ∃ (xs8 : Str) (n11 : Int) (A9 : Option Addr) (c10 : Nat), (xs8, n11) = x13 ∧ Has 43 a [(1, vS (b3)), (6, vL A9 (xs8) c10), (7, vI (n11))] ∧ Mem C w [.row byteRep A9 c10 5 xs8 true] [] ∧ R64 n11) ?_ ?_
  · refine wp_seq ?_
    refine region_pl ?_
    refine q_ hf rfl rfl rfl (e_assign hf rfl) fun a hf => ?_
    refine pl_nil ?_
    refine then_n ?_
    refine wp_block ?_
    obtain ⟨x28, h29, h14⟩ := bind_some h14
    refine wp_loopM h29 (fun s a w => ∃ (xs15 : Str) (n18 : Int) (n20 : Int) (A16 : Option Addr) (c17 : Nat), (xs15, n18, n20) = s ∧ Has 43 a [(0, vS (a1)), (1, vS (b3)), (6, vL A16 (xs15) c17), (7, vI (n18)), (8, vI (n20))] ∧ Mem C w [.row byteRep A16 c17 5 xs15 true] [] ∧ R64 n18 ∧ R64 n20) ?_ ?_
    · exact ⟨([] : Str), 0, 0, (some ⟨b5, 0, none⟩), 0, rfl, hf.keep ⟨rfl, rfl, rfl, rfl, rfl, trivial⟩, hM.pick [] rfl, (R64_lit rfl), (R64_lit rfl)⟩
    · rintro s o30 a w22 ⟨xs15, n18, n20, A16, c17, rfl, hf, hM, hv19, hv21⟩ h31 hd32
      replace h31 : m_spec_l03Take_l1 a1 b3 xs15 n18 n20 = some o30 := h31
      unfold m_spec_l03Take_l1 at h31
      refine wp_seq ?_
      refine wp_seq ?_
      refine region_pl ?_
      refine q_ hf rfl rfl rfl (e_move hf rfl) fun a hf => ?_
      refine q_ hf rfl rfl rfl (e_move hf rfl) fun a hf => ?_
      refine q_ hf rfl rfl rfl (e_lenS hf (x := a1) rfl Try.underlying9) fun a hf => ?_
      refine q_ hf rfl rfl rfl (e_lt hf (x := n20) (y := (a1.length : Int)) rfl rfl) fun a hf => ?_
      refine pl_nil ?_
      refine then_n ?_
      rcases cond_some h31 with ⟨hc33, h31⟩ | ⟨hc33, h31⟩
      · refine cond_t hf rfl hc33 ?_
        refine wp_skip ?_
        refine then_n ?_
        obtain ⟨x39, h40, h31⟩ := bind_some h31
        refine seq_join (fun a w => ∃ (xs34 : Str) (n37 : Int) (A35 : Option Addr) (c36 : Nat), (xs34, n37) = x39 ∧ Has 43 a [(0, vS (a1)), (1, vS (b3)), (6, vL A35 (xs34) c36), (7, vI (n37)), (8, vI (n20))] ∧ Mem C w [.row byteRep A35 c36 5 xs34 true] [] ∧ R64 n37) ?_ ?_
        · refine wp_block ?_
          refine wp_seq ?_
          obtain ⟨x43, h44, h40⟩ := bind_some h40
          refine seq_join (fun a w => ∃ (t41 : Bool), t41 = x43 ∧ Has 43 a [(0, vS (a1)), (1, vS (b3)), (6, vL A16 (xs15) c17), (7, vI (n18)), (8, vI (n20)), (28, .bool (t41))] ∧ Mem C w [.row byteRep A16 c17 5 xs15 true] []) ?_ ?_
          · obtain ⟨w45, hw⟩ : ∃ x, x = w22.drew := ⟨_, rfl⟩
            refine region_pi (.q 0 (.q 1 (.q 2 (.q 3 (.q 4 (.q 5 (.q 6 (.q 7 (.q 8 (.q 9 (.q 10 (.q 11 (.q 12 (.nil)))))))))))))) (Ext w45) rfl (by kernel_rfl) ?_
            have hM := hM.drew
            rw [← hw] at hM ⊢
            clear hw
            refine pi_q hf rfl rfl rfl rfl (Ext.refl _) (e_move hf rfl) fun a hf => ?_
            refine pi_q hf rfl rfl rfl rfl (Ext.refl _) (e_move hf rfl) fun a hf => ?_
            refine pi_q hf rfl rfl rfl rfl (Ext.refl _) (e_lenS hf (x := b3) rfl Try.underlying9) fun a hf => ?_
            refine pi_q hf rfl rfl rfl rfl (Ext.refl _) (e_lt hf (x := n18) (y := (b3.length : Int)) rfl rfl) fun a hf => ?_
            refine pi_q hf rfl rfl rfl rfl (Ext.refl _) (e_move hf rfl) fun a hf => ?_
            rcases cond_some h44 with ⟨hc46, h44⟩ | ⟨hc46, h44⟩
            · refine pi_gq hf rfl (wanted_t hf rfl rfl rfl rfl hc46) rfl rfl (Ext.refl _) (e_move hf rfl) fun a hf => ?_
              refine pi_gq hf rfl (wanted_t hf rfl rfl rfl rfl hc46) rfl rfl (Ext.refl _) (e_move hf rfl) fun a hf => ?_
              obtain ⟨c47, hz48, h44⟩ := bind_some h44
              refine pi_gq hf rfl (wanted_t hf rfl rfl rfl rfl hc46) rfl rfl (Ext.refl _) (e_indexS hf (x := b3) rfl rfl Try.underlying9 hz48) fun a hf => ?_
              refine pi_gq hf rfl (wanted_t hf rfl rfl rfl rfl hc46) rfl rfl (Ext.refl _) (e_move hf rfl) fun a hf => ?_
              refine pi_gq hf rfl (wanted_t hf rfl rfl rfl rfl hc46) rfl rfl (Ext.refl _) (e_move hf rfl) fun a hf => ?_
              obtain ⟨c49, hz50, h44⟩ := bind_some h44
              refine pi_gq hf rfl (wanted_t hf rfl rfl rfl rfl hc46) rfl rfl (Ext.refl _) (e_indexS hf (x := a1) rfl rfl Try.underlying9 hz50) fun a hf => ?_
              refine pi_gq hf rfl (wanted_t hf rfl rfl rfl rfl hc46) rfl rfl (Ext.refl _) (e_eqB hf (x := c47) (y := c49) rfl rfl) fun a hf => ?_
              refine pi_q hf rfl rfl rfl rfl (Ext.refl _) (e_pick_t hf rfl hc46 rfl) fun a hf => ?_
              refine pi_nil ?_
              obtain rfl := some_inj h44
              refine then_n ?_
              exact ⟨(c47 == c49), rfl, hf.keep ⟨rfl, rfl, rfl, rfl, rfl, rfl, trivial⟩, hM.pick [] rfl⟩
            · refine pi_gs hf rfl (wanted_f hf rfl rfl rfl rfl hc46) rfl rfl (Ext.refl _) fun a hf => ?_
              refine pi_gs hf rfl (wanted_f hf rfl rfl rfl rfl hc46) rfl rfl (Ext.refl _) fun a hf => ?_
              refine pi_gs hf rfl (wanted_f hf rfl rfl rfl rfl hc46) rfl rfl (Ext.refl _) fun a hf => ?_
              refine pi_gs hf rfl (wanted_f hf rfl rfl rfl rfl hc46) rfl rfl (Ext.refl _) fun a hf => ?_
              refine pi_gs hf rfl (wanted_f hf rfl rfl rfl rfl hc46) rfl rfl (Ext.refl _) fun a hf => ?_
              refine pi_gs hf rfl (wanted_f hf rfl rfl rfl rfl hc46) rfl rfl (Ext.refl _) fun a hf => ?_
              refine pi_gs hf rfl (wanted_f hf rfl rfl rfl rfl hc46) rfl rfl (Ext.refl _) fun a hf => ?_
              refine pi_q hf rfl rfl rfl rfl (Ext.refl _) (e_pick_f hf rfl hc46 rfl) fun a hf => ?_
              refine pi_nil ?_
              obtain rfl := some_inj h44
              refine then_n ?_
              exact ⟨false, rfl, hf.keep ⟨rfl, rfl, rfl, rfl, rfl, rfl, trivial⟩, hM.pick [] rfl⟩
          · rintro a w53 ⟨t41, rfl, hf, hM⟩
            try dsimp only at h40
            rcases cond_some h40 with ⟨hc54, h40⟩ | ⟨hc54, h40⟩
            · refine cond_t hf rfl hc54 ?_
              refine wp_seq ?_
              refine region_pl ?_
              refine q_ hf rfl rfl rfl (e_move hf rfl) fun a hf => ?_
              obtain ⟨z55, hz56, h40⟩ := bind_some h40
              refine q_ hf rfl rfl rfl (e_add hf rfl rfl hz56) fun a hf => ?_
              refine q_ hf rfl rfl rfl (e_assign hf rfl) fun a hf => ?_
              refine pl_nil ?_
              refine then_n ?_
              refine wp_exit ?_
              refine then_x ?_
              refine exit_hit ?_
              obtain rfl := some_inj h40
              refine then_n ?_
              exact ⟨xs15, z55, A16, c17, rfl, hf.keep ⟨rfl, rfl, rfl, rfl, rfl, trivial⟩, hM.pick [] rfl, (chk_R hz56)⟩
            · refine cond_f hf rfl hc54 ?_
              refine wp_skip ?_
              refine then_n ?_
              refine region_pl ?_
              refine q_ hf rfl rfl rfl (e_move hf rfl) fun a hf => ?_
              refine q_ hf rfl rfl rfl (e_move hf rfl) fun a hf => ?_
              refine q_ hf rfl rfl rfl (e_move hf rfl) fun a hf => ?_
              obtain ⟨c58, hz59, h40⟩ := bind_some h40
              refine q_ hf rfl rfl rfl (e_indexS hf (x := a1) rfl rfl Try.underlying9 hz59) fun a hf => ?_
              refine pl_l hf rfl rfl rfl (w_slice hf hM (K := byteRep) (xs := ([c58] : Str)) (os := [.tmp 34]) Try.underlying38 ei_5 rfl rfl rfl rfl rfl ⟨⟨[vB (c58)], rfl, rfl⟩, trivial⟩ rfl fun b60 w61 hx62 hM a hf => ?_)
              obtain ⟨xs63, hz64, h40⟩ := bind_some h40
              refine pl_l hf rfl rfl rfl (w_append hf hM Try.underlying38 ei_5 rfl rfl rfl (k := 1) rfl (hM.srcRow (k := 0) rfl) hz64 fun A65 c66 w67 hM a hf => ?_)
              dsimp only [List.set] at hM
              refine q_ hf rfl rfl rfl (e_assign hf rfl) fun a hf => ?_
              refine pl_nil ?_
              refine blk_n ?_
              obtain rfl := some_inj h40
              refine then_n ?_
              exact ⟨xs63, n18, A65, c66, rfl, hf.keep ⟨rfl, rfl, rfl, rfl, rfl, trivial⟩, (hM.drop (.cons _ (.cons_cons _ .slnil))).pick [] rfl, hv19⟩
        · rintro a w71 ⟨xs34, n37, A35, c36, rfl, hf, hM, hv38⟩
          try dsimp only at h31
          refine region_pl ?_
          refine q_ hf rfl rfl rfl (e_move hf rfl) fun a hf => ?_
          obtain ⟨z72, hz73, h31⟩ := bind_some h31
          refine q_ hf rfl rfl rfl (e_add hf rfl rfl hz73) fun a hf => ?_
          refine q_ hf rfl rfl rfl (e_assign hf rfl) fun a hf => ?_
          refine pl_nil ?_
          obtain rfl := some_inj h31
          refine then_n ⟨_, rfl, ?_⟩
          exact ⟨xs34, n37, z72, A35, c36, rfl, hf.keep ⟨rfl, rfl, rfl, rfl, rfl, trivial⟩, hM.pick [] rfl, hv38, (chk_R hz73)⟩
      · refine cond_f hf rfl hc33 ?_
        refine wp_exit ?_
        refine then_x ?_
        obtain rfl := some_inj h31
        obtain rfl := hd32 _ rfl
        try dsimp only at h14
        refine then_x ?_
        refine exit_hit ?_
        obtain rfl := some_inj h14
        refine then_n ?_
        exact ⟨xs15, n18, A16, c17, rfl, hf.keep ⟨rfl, rfl, rfl, trivial⟩, hM.pick [] rfl, hv19⟩
  · rintro a w79 ⟨xs8, n11, A9, c10, rfl, hf, hM, hv12⟩
    try dsimp only at h
    refine wp_seq ?_
    refine region_pl ?_
    refine q_ hf rfl rfl rfl (e_move hf rfl) fun a hf => ?_
    have hl80 := row_len (hM.ownAt (k := 0) rfl)
    refine q_ hf rfl rfl rfl (e_bytesStr hf (xs := xs8) rfl Try.underlying38 Try.underlying5 Try.underlying9 (hM.lendRow (k := 0) rfl)) fun a hf => ?_
    refine q_ hf rfl rfl rfl (e_move hf rfl) fun a hf => ?_
    refine q_ hf rfl rfl rfl (e_move hf rfl) fun a hf => ?_
    refine q_ hf rfl rfl rfl (e_lenS hf (x := b3) rfl Try.underlying9) fun a hf => ?_
    refine q_ hf rfl rfl rfl (e_eq hf (x := n11) (y := (b3.length : Int)) rfl rfl) fun a hf => ?_
    refine q_ hf rfl rfl rfl (e_assign hf rfl) fun a hf => ?_
    refine q_ hf rfl rfl rfl (e_assign hf rfl) fun a hf => ?_
    refine pl_nil ?_
    refine then_n ?_
    refine wp_ret ?_
    obtain rfl := some_inj h
    have hM := hM.outs (own' := []) 0 rfl
    exact leave2 hf rfl rfl rfl ⟨rfl, hM.fin, hl80⟩

set_option maxRecDepth 100000 in
set_option maxHeartbeats 4000000 in
theorem r_spec_l01Small (C : Cx) (c1 : UInt8) (r : Bool) (h : m_spec_l01Small c1 = some r) :
    Calls Try.prog 57 #[vB (c1)] C.w0 fun e w => e = .returned (.bool (r)) ∧ Mem C w [] [] := by
  have hM := Mem.begin C [] trivial
  refine enter Try.func57 rfl Try.ntmps57 rfl fun a hf => ?_
  unfold m_spec_l01Small at h
  refine wp_seq ?_
  refine region_pl ?_
  refine q_ hf rfl rfl rfl (e_assign hf rfl) fun a hf => ?_
  refine pl_nil ?_
  refine then_n ?_
  obtain ⟨x4, h5, h⟩ := bind_some h
  refine seq_join (fun a w => ∃ (t2 : Bool), t2 = x4 ∧ Has 9 a [(2, .bool (t2))] ∧ Mem C w [] []) ?_ ?_
  · refine region_pl ?_
    refine q_ hf rfl rfl rfl (e_move hf rfl) fun a hf => ?_
    refine q_ hf rfl rfl rfl (e_geB hf (x := c1) (y := 97) rfl rfl) fun a hf => ?_
    refine q_ hf rfl rfl rfl (e_move hf rfl) fun a hf => ?_
    rcases cond_some h5 with ⟨hc6, h5⟩ | ⟨hc6, h5⟩
    · refine gq (wanted_t hf rfl rfl rfl rfl hc6) hf rfl rfl (e_move hf rfl) fun a hf => ?_
      refine gq (wanted_t hf rfl rfl rfl rfl hc6) hf rfl rfl (e_leB hf (x := c1) (y := 122) rfl rfl) fun a hf => ?_
      refine q_ hf rfl rfl rfl (e_pick_t hf rfl hc6 rfl) fun a hf => ?_
      refine q_ hf rfl rfl rfl (e_assign hf rfl) fun a hf => ?_
      refine pl_nil ?_
      obtain rfl := some_inj h5
      refine then_n ?_
      exact ⟨(decide (c1 ≤ 122)), rfl, hf.keep ⟨rfl, trivial⟩, hM.pick [] rfl⟩
    · refine pl_gs (wanted_f hf rfl rfl rfl rfl hc6) hf rfl rfl fun a hf => ?_
      refine pl_gs (wanted_f hf rfl rfl rfl rfl hc6) hf rfl rfl fun a hf => ?_
      refine q_ hf rfl rfl rfl (e_pick_f hf rfl hc6 rfl) fun a hf => ?_
      refine q_ hf rfl rfl rfl (e_assign hf rfl) fun a hf => ?_
      refine pl_nil ?_
      obtain rfl := some_inj h5
      refine then_n ?_
      exact ⟨false, rfl, hf.keep ⟨rfl, trivial⟩, hM.pick [] rfl⟩
  · rintro a w9 ⟨t2, rfl, hf, hM⟩
    try dsimp only at h
    refine wp_ret ?_
    obtain rfl := some_inj h
    exact leave1 hf rfl rfl ⟨rfl, hM.fin⟩

set_option maxRecDepth 100000 in
set_option maxHeartbeats 4000000 in
theorem r_spec_l03Tile (C : Cx) (c1 : UInt8) (r : Bool) (h : m_spec_l03Tile c1 = some r) :
    Calls Try.prog 73 #[vB (c1)] C.w0 fun e w => e = .returned (.bool (r)) ∧ Mem C w [] [] := by
  have hM := Mem.begin C [] trivial
  refine enter Try.func73 rfl Try.ntmps73 rfl fun a hf => ?_
  unfold m_spec_l03Tile at h
  refine wp_seq ?_
  refine region_pl ?_
  refine q_ hf rfl rfl rfl (e_assign hf rfl) fun a hf => ?_
  refine pl_nil ?_
  refine then_n ?_
  obtain ⟨x4, h5, h⟩ := bind_some h
  refine seq_join (fun a w => ∃ (t2 : Bool), t2 = x4 ∧ Has 9 a [(2, .bool (t2))] ∧ Mem C w [] []) ?_ ?_
  · refine region_pl ?_
    refine q_ hf rfl rfl rfl (e_move hf rfl) fun a hf => ?_
    refine q_ hf rfl rfl rfl (e_eqB hf (x := c1) (y := 63) rfl rfl) fun a hf => ?_
    refine q_ hf rfl rfl rfl (e_move hf rfl) fun a hf => ?_
    rcases cond_some h5 with ⟨hc6, h5⟩ | ⟨hc6, h5⟩
    · refine pl_gs (wanted_f hf rfl rfl rfl rfl hc6) hf rfl rfl fun a hf => ?_
      refine pl_gs (wanted_f hf rfl rfl rfl rfl hc6) hf rfl rfl fun a hf => ?_
      refine q_ hf rfl rfl rfl (e_pick_t hf rfl hc6 rfl) fun a hf => ?_
      refine q_ hf rfl rfl rfl (e_assign hf rfl) fun a hf => ?_
      refine pl_nil ?_
      obtain rfl := some_inj h5
      refine then_n ?_
      exact ⟨true, rfl, hf.keep ⟨rfl, trivial⟩, hM.pick [] rfl⟩
    · refine gq (wanted_t hf rfl rfl rfl rfl hc6) hf rfl rfl (e_move hf rfl) fun a hf => ?_
      obtain ⟨y8, hz9, h5⟩ := bind_some h5
      refine pl_gl (wanted_t hf rfl rfl rfl rfl hc6) hf rfl rfl (w_call hf Try.call57 rfl (r_spec_l01Small ⟨_, Sh C _ _, none_, hM.sh_lt, none_not, C.G, hM.g_lt, g_none, hM.tabs⟩ c1 _ hz9) ?_)
      rintro _ w10 ⟨rfl, hM2⟩
      obtain ⟨hM, hx11, hup12⟩ := hM.back hM2
      dsimp only [List.cons_append, List.nil_append] at hM hup12
      clear hM2
      refine ⟨_, rfl, fun a hf => ?_⟩
      refine q_ hf rfl rfl rfl (e_pick_f hf rfl hc6 rfl) fun a hf => ?_
      refine q_ hf rfl rfl rfl (e_assign hf rfl) fun a hf => ?_
      refine pl_nil ?_
      obtain rfl := some_inj h5
      refine then_n ?_
      exact ⟨y8, rfl, hf.keep ⟨rfl, trivial⟩, hM.pick [] rfl⟩
  · rintro a w14 ⟨t2, rfl, hf, hM⟩
    try dsimp only at h
    refine wp_ret ?_
    obtain rfl := some_inj h
    exact leave1 hf rfl rfl ⟨rfl, hM.fin⟩

set_option maxRecDepth 100000 in
set_option maxHeartbeats 4000000 in
theorem r_spec_l03Pile (C : Cx) (s1 : Str) (hp2 : s1.length ≤ maxLen) (r : Bool) (h : m_spec_l03Pile s1 = some r) :
    Calls Try.prog 52 #[vS (s1)] C.w0 fun e w => e = .returned (.bool (r)) ∧ Mem C w [] [] := by
  have hM := Mem.begin C [] trivial
  refine enter Try.func52 rfl Try.ntmps52 rfl fun a hf => ?_
  unfold m_spec_l03Pile at h
  refine wp_seq ?_
  refine region_pl ?_
  refine q_ hf rfl rfl rfl (e_assign hf rfl) fun a hf => ?_
  refine pl_nil ?_
  refine then_n ?_
  obtain ⟨x3, h4, h⟩ := bind_some h
  refine seq_join (fun a w => (.inl ()) = x3 ∧ Has 32 a [(0, vS (s1))] ∧ Mem C w [] []) ?_ ?_
  · refine wp_seq ?_
    refine region_pl ?_
    refine q_ hf rfl rfl rfl (e_assign hf rfl) fun a hf => ?_
    refine pl_nil ?_
    refine then_n ?_
    refine wp_block ?_
    obtain ⟨x8, h9, h4⟩ := bind_some h4
    refine wp_loopM h9 (fun s a w => ∃ (n5 : Int), n5 = s ∧ Has 32 a [(0, vS (s1)), (3, vI (n5))] ∧ Mem C w [] [] ∧ R64 n5) ?_ ?_
    · exact ⟨0, rfl, hf.keep ⟨rfl, rfl, trivial⟩, hM.pick [] rfl, (R64_lit rfl)⟩
    · rintro s o10 a w7 ⟨n5, rfl, hf, hM, hv6⟩ h11 hd12
      replace h11 : m_spec_l03Pile_l1 s1 n5 = some o10 := h11
      unfold m_spec_l03Pile_l1 at h11
      refine wp_seq ?_
      refine wp_seq ?_
      refine region_pl ?_
      refine q_ hf rfl rfl rfl (e_move hf rfl) fun a hf => ?_
      refine q_ hf rfl rfl rfl (e_move hf rfl) fun a hf => ?_
      refine q_ hf rfl rfl rfl (e_lenS hf (x := s1) rfl Try.underlying9) fun a hf => ?_
      refine q_ hf rfl rfl rfl (e_lt hf (x := n5) (y := (s1.length : Int)) rfl rfl) fun a hf => ?_
      refine pl_nil ?_
      refine then_n ?_
      rcases cond_some h11 with ⟨hc13, h11⟩ | ⟨hc13, h11⟩
      · refine cond_t hf rfl hc13 ?_
        refine wp_skip ?_
        refine then_n ?_
        refine wp_seq ?_
        refine wp_block ?_
        obtain ⟨x16, h17, h11⟩ := bind_some h11
        refine seq_join (fun a w => ∃ (t14 : Bool), t14 = x16 ∧ Has 32 a [(0, vS (s1)), (3, vI (n5)), (28, .bool (t14))] ∧ Mem C w [] []) ?_ ?_
        · obtain ⟨w18, hw⟩ : ∃ x, x = w7.drew := ⟨_, rfl⟩
          refine region_pi (.q 0 (.q 1 (.q 2 (.l 3 (.q 4 (.q 5 (.q 6 (.q 7 (.q 8 (.q 9 (.q 10 (.q 11 (.q 12 (.q 13 (.q 14 (.q 15 (.q 16 (.q 17 (.q 18 (.nil)))))))))))))))))))) (Ext w18) rfl (by kernel_rfl) ?_
          have hM := hM.drew
          rw [← hw] at hM ⊢
          clear hw
          refine pi_q hf rfl rfl rfl rfl (Ext.refl _) (e_move hf rfl) fun a hf => ?_
          refine pi_q hf rfl rfl rfl rfl (Ext.refl _) (e_move hf rfl) fun a hf => ?_
          obtain ⟨c19, hz20, h17⟩ := bind_some h17
          refine pi_q hf rfl rfl rfl rfl (Ext.refl _) (e_indexS hf (x := s1) rfl rfl Try.underlying9 hz20) fun a hf => ?_
          refine pi_one ?_
          obtain ⟨y21, hz22, h17⟩ := bind_some h17
          refine pi_l hf rfl rfl rfl rfl (w_call hf Try.call73 rfl (r_spec_l03Tile ⟨_, Sh C _ _, none_, hM.sh_lt, none_not, C.G, hM.g_lt, g_none, hM.tabs⟩ c19 _ hz22) ?_)
          rintro _ w23 ⟨rfl, hM2⟩
          obtain ⟨hM, hx24, hup25⟩ := hM.back hM2
          dsimp only [List.cons_append, List.nil_append] at hM hup25
          clear hM2
          refine ⟨_, rfl, Ext w23, fun _ h => Ext.trans hx24 h, Ext.refl _, fun a hf => ?_⟩
          refine pi_q hf rfl rfl rfl rfl (Ext.refl _) (e_not hf rfl) fun a hf => ?_
          refine pi_q hf rfl rfl rfl rfl (Ext.refl _) (e_move hf rfl) fun a hf => ?_
          rcases cond_some h17 with ⟨hc26, h17⟩ | ⟨hc26, h17⟩
          · refine pi_gs hf rfl (wanted_f hf rfl rfl rfl rfl hc26) rfl rfl (Ext.refl _) fun a hf => ?_
            refine pi_gs hf rfl (wanted_f hf rfl rfl rfl rfl hc26) rfl rfl (Ext.refl _) fun a hf => ?_
            refine pi_gs hf rfl (wanted_f hf rfl rfl rfl rfl hc26) rfl rfl (Ext.refl _) fun a hf => ?_
            refine pi_gs hf rfl (wanted_u hf rfl rfl rfl rfl) rfl rfl (Ext.refl _) fun a hf => ?_
            refine pi_gs hf rfl (wanted_u hf rfl rfl rfl rfl) rfl rfl (Ext.refl _) fun a hf => ?_
            refine pi_gs hf rfl (wanted_u hf rfl rfl rfl rfl) rfl rfl (Ext.refl _) fun a hf => ?_
            refine pi_gs hf rfl (wanted_u hf rfl rfl rfl rfl) rfl rfl (Ext.refl _) fun a hf => ?_
            refine pi_gs hf rfl (wanted_u hf rfl rfl rfl rfl) rfl rfl (Ext.refl _) fun a hf => ?_
            refine pi_gs hf rfl (wanted_u hf rfl rfl rfl rfl) rfl rfl (Ext.refl _) fun a hf => ?_
            refine pi_gs hf rfl (wanted_u hf rfl rfl rfl rfl) rfl rfl (Ext.refl _) fun a hf => ?_
            refine pi_gs hf rfl (wanted_u hf rfl rfl rfl rfl) rfl rfl (Ext.refl _) fun a hf => ?_
            refine pi_gs hf rfl (wanted_f hf rfl rfl rfl rfl hc26) rfl rfl (Ext.refl _) fun a hf => ?_
            refine pi_q hf rfl rfl rfl rfl (Ext.refl _) (e_pick_t hf rfl hc26 rfl) fun a hf => ?_
            refine pi_nil ?_
            obtain rfl := some_inj h17
            refine then_n ?_
            exact ⟨true, rfl, hf.keep ⟨rfl, rfl, rfl, trivial⟩, hM.pick [] rfl⟩
          · refine pi_gq hf rfl (wanted_t hf rfl rfl rfl rfl hc26) rfl rfl (Ext.refl _) (e_move hf rfl) fun a hf => ?_
            refine pi_gq hf rfl (wanted_t hf rfl rfl rfl rfl hc26) rfl rfl (Ext.refl _) (e_gt hf (x := n5) (y := 0) rfl rfl) fun a hf => ?_
            refine pi_gq hf rfl (wanted_t hf rfl rfl rfl rfl hc26) rfl rfl (Ext.refl _) (e_move hf rfl) fun a hf => ?_
            rcases cond_some h17 with ⟨hc28, h17⟩ | ⟨hc28, h17⟩
            · refine pi_gq hf rfl (wanted_t hf rfl rfl rfl rfl hc28) rfl rfl (Ext.refl _) (e_move hf rfl) fun a hf => ?_
              refine pi_gq hf rfl (wanted_t hf rfl rfl rfl rfl hc28) rfl rfl (Ext.refl _) (e_move hf rfl) fun a hf => ?_
              obtain ⟨c29, hz30, h17⟩ := bind_some h17
              refine pi_gq hf rfl (wanted_t hf rfl rfl rfl rfl hc28) rfl rfl (Ext.refl _) (e_indexS hf (x := s1) rfl rfl Try.underlying9 hz30) fun a hf => ?_
              refine pi_gq hf rfl (wanted_t hf rfl rfl rfl rfl hc28) rfl rfl (Ext.refl _) (e_move hf rfl) fun a hf => ?_
              refine pi_gq hf rfl (wanted_t hf rfl rfl rfl rfl hc28) rfl rfl (Ext.refl _) (e_move hf rfl) fun a hf => ?_
              obtain ⟨z31, hz32, h17⟩ := bind_some h17
              refine pi_gq hf rfl (wanted_t hf rfl rfl rfl rfl hc28) rfl rfl (Ext.refl _) (e_sub hf rfl rfl hz32) fun a hf => ?_
              obtain ⟨c33, hz34, h17⟩ := bind_some h17
              refine pi_gq hf rfl (wanted_t hf rfl rfl rfl rfl hc28) rfl rfl (Ext.refl _) (e_indexS hf (x := s1) rfl rfl Try.underlying9 hz34) fun a hf => ?_
              refine pi_gq hf rfl (wanted_t hf rfl rfl rfl rfl hc28) rfl rfl (Ext.refl _) (e_ltB hf (x := c29) (y := c33) rfl rfl) fun a hf => ?_
              refine pi_gq hf rfl (wanted_t hf rfl rfl rfl rfl hc26) rfl rfl (Ext.refl _) (e_pick_t hf rfl hc28 rfl) fun a hf => ?_
              refine pi_q hf rfl rfl rfl rfl (Ext.refl _) (e_pick_f hf rfl hc26 rfl) fun a hf => ?_
              refine pi_nil ?_
              obtain rfl := some_inj h17
              refine then_n ?_
              exact ⟨(decide (c29 < c33)), rfl, hf.keep ⟨rfl, rfl, rfl, trivial⟩, hM.pick [] rfl⟩
            · refine pi_gs hf rfl (wanted_f hf rfl rfl rfl rfl hc28) rfl rfl (Ext.refl _) fun a hf => ?_
              refine pi_gs hf rfl (wanted_f hf rfl rfl rfl rfl hc28) rfl rfl (Ext.refl _) fun a hf => ?_
              refine pi_gs hf rfl (wanted_f hf rfl rfl rfl rfl hc28) rfl rfl (Ext.refl _) fun a hf => ?_
              refine pi_gs hf rfl (wanted_f hf rfl rfl rfl rfl hc28) rfl rfl (Ext.refl _) fun a hf => ?_
              refine pi_gs hf rfl (wanted_f hf rfl rfl rfl rfl hc28) rfl rfl (Ext.refl _) fun a hf => ?_
              refine pi_gs hf rfl (wanted_f hf rfl rfl rfl rfl hc28) rfl rfl (Ext.refl _) fun a hf => ?_
              refine pi_gs hf rfl (wanted_f hf rfl rfl rfl rfl hc28) rfl rfl (Ext.refl _) fun a hf => ?_
              refine pi_gs hf rfl (wanted_f hf rfl rfl rfl rfl hc28) rfl rfl (Ext.refl _) fun a hf => ?_
              refine pi_gq hf rfl (wanted_t hf rfl rfl rfl rfl hc26) rfl rfl (Ext.refl _) (e_pick_f hf rfl hc28 rfl) fun a hf => ?_
              refine pi_q hf rfl rfl rfl rfl (Ext.refl _) (e_pick_f hf rfl hc26 rfl) fun a hf => ?_
              refine pi_nil ?_
              obtain rfl := some_inj h17
              refine then_n ?_
              exact ⟨false, rfl, hf.keep ⟨rfl, rfl, rfl, trivial⟩, hM.pick [] rfl⟩
        · rintro a w37 ⟨t14, rfl, hf, hM⟩
          try dsimp only at h11
          rcases cond_some h11 with ⟨hc38, h11⟩ | ⟨hc38, h11⟩
          · refine cond_t hf rfl hc38 ?_
            refine wp_seq ?_
            refine region_pl ?_
            refine q_ hf rfl rfl rfl (e_assign hf rfl) fun a hf => ?_
            refine pl_nil ?_
            refine then_n ?_
            refine wp_ret ?_
            refine blk_r ?_
            refine then_r ?_
            obtain rfl := some_inj h11
            obtain rfl := hd12 _ rfl
            try dsimp only at h4
            refine then_r ?_
            refine blk_r ?_
            obtain rfl := some_inj h4
            try dsimp only at h
            refine then_r ?_
            obtain rfl := some_inj h
            exact leave1 hf rfl rfl ⟨rfl, hM.fin⟩
          · refine cond_f hf rfl hc38 ?_
            refine wp_skip ?_
            refine blk_n ?_
            refine then_n ?_
            refine region_pl ?_
            refine q_ hf rfl rfl rfl (e_move hf rfl) fun a hf => ?_
            obtain ⟨z39, hz40, h11⟩ := bind_some h11
            refine q_ hf rfl rfl rfl (e_add hf rfl rfl hz40) fun a hf => ?_
            refine q_ hf rfl rfl rfl (e_assign hf rfl) fun a hf => ?_
            refine pl_nil ?_
            obtain rfl := some_inj h11
            refine then_n ⟨_, rfl, ?_⟩
            exact ⟨z39, rfl, hf.keep ⟨rfl, rfl, trivial⟩, hM.pick [] rfl, (chk_R hz40)⟩
      · refine cond_f hf rfl hc13 ?_
        refine wp_exit ?_
        refine then_x ?_
        obtain rfl := some_inj h11
        obtain rfl := hd12 _ rfl
        try dsimp only at h4
        refine then_x ?_
        refine exit_hit ?_
        obtain rfl := some_inj h4
        refine then_n ?_
        exact ⟨rfl, hf.keep ⟨rfl, trivial⟩, hM.pick [] rfl⟩
  · rintro a w47 ⟨rfl, hf, hM⟩
    try dsimp only at h
    refine wp_seq ?_
    refine region_pl ?_
    refine q_ hf rfl rfl rfl (e_move hf rfl) fun a hf => ?_
    refine q_ hf rfl rfl rfl (e_lenS hf (x := s1) rfl Try.underlying9) fun a hf => ?_
    refine q_ hf rfl rfl rfl (e_le hf (x := (s1.length : Int)) (y := 120) rfl rfl) fun a hf => ?_
    refine q_ hf rfl rfl rfl (e_assign hf rfl) fun a hf => ?_
    refine pl_nil ?_
    refine then_n ?_
    refine wp_ret ?_
    obtain rfl := some_inj h
    exact leave1 hf rfl rfl ⟨rfl, hM.fin⟩

set_option maxRecDepth 100000 in
set_option maxHeartbeats 4000000 in
theorem r_spec_ContainsTiles (C : Cx) (a1 : Str) (hp2 : a1.length ≤ maxLen) (b3 : Str) (hp4 : b3.length ≤ maxLen) (r : Bool) (h : m_spec_ContainsTiles a1 b3 = some r) :
    Calls Try.prog 24 #[vS (a1), vS (b3)] C.w0 fun e w => e = .returned (.bool (r)) ∧ Mem C w [] [] := by
  have hM := Mem.begin C [] trivial
  refine enter Try.func24 rfl Try.ntmps24 rfl fun a hf => ?_
  unfold m_spec_ContainsTiles at h
  refine wp_seq ?_
  refine region_pl ?_
  refine q_ hf rfl rfl rfl (e_assign hf rfl) fun a hf => ?_
  refine pl_nil ?_
  refine then_n ?_
  refine wp_seq ?_
  refine region_pl ?_
  refine q_ hf rfl rfl rfl (e_move hf rfl) fun a hf => ?_
  refine q_ hf rfl rfl rfl (e_move hf rfl) fun a hf => ?_
  obtain ⟨y5, hz6, h⟩ := bind_some h
  refine pl_l hf rfl rfl rfl (w_call hf Try.call51 rfl (r_spec_l03Take ⟨_, Sh C _ _, none_, hM.sh_lt, none_not, C.G, hM.g_lt, g_none, hM.tabs⟩ a1 hp2 b3 hp4 _ hz6) ?_)
  rintro _ w8 ⟨rfl, hM2, hv7⟩
  obtain ⟨hM, hx9, hup10⟩ := hM.back hM2
  dsimp only [List.cons_append, List.nil_append] at hM hup10
  clear hM2
  refine ⟨_, rfl, fun a hf => ?_⟩
  refine q_ hf rfl rfl rfl (e_move hf rfl) fun a hf => ?_
  refine q_ hf rfl rfl rfl (e_extract hf rfl rfl) fun a hf => ?_
  refine q_ hf rfl rfl rfl (e_extract hf rfl rfl) fun a hf => ?_
  refine q_ hf rfl rfl rfl (e_assign hf rfl) fun a hf => ?_
  refine q_ hf rfl rfl rfl (e_assign hf rfl) fun a hf => ?_
  refine pl_nil ?_
  refine then_n ?_
  obtain ⟨x13, h14, h⟩ := bind_some h
  refine seq_join (fun a w => ∃ (ok11 : Bool), ok11 = x13 ∧ Has 22 a [(4, .bool (ok11))] ∧ Mem C w [] []) ?_ ?_
  · refine region_pl ?_
    refine q_ hf rfl rfl rfl (e_move hf rfl) fun a hf => ?_
    obtain ⟨y15, hz16, h14⟩ := bind_some h14
    refine pl_l hf rfl rfl rfl (w_call hf Try.call52 rfl (r_spec_l03Pile ⟨_, Sh C _ _, none_, hM.sh_lt, none_not, C.G, hM.g_lt, g_none, hM.tabs⟩ a1 hp2 _ hz16) ?_)
    rintro _ w17 ⟨rfl, hM2⟩
    obtain ⟨hM, hx18, hup19⟩ := hM.back hM2
    dsimp only [List.cons_append, List.nil_append] at hM hup19
    clear hM2
    refine ⟨_, rfl, fun a hf => ?_⟩
    refine q_ hf rfl rfl rfl (e_move hf rfl) fun a hf => ?_
    rcases cond_some h14 with ⟨hc20, h14⟩ | ⟨hc20, h14⟩
    · refine gq (wanted_t hf rfl rfl rfl rfl hc20) hf rfl rfl (e_move hf rfl) fun a hf => ?_
      obtain ⟨y21, hz22, h14⟩ := bind_some h14
      refine pl_gl (wanted_t hf rfl rfl rfl rfl hc20) hf rfl rfl (w_call hf Try.call52 rfl (r_spec_l03Pile ⟨_, Sh C _ _, none_, hM.sh_lt, none_not, C.G, hM.g_lt, g_none, hM.tabs⟩ b3 hp4 _ hz22) ?_)
      rintro _ w23 ⟨rfl, hM2⟩
      obtain ⟨hM, hx24, hup25⟩ := hM.back hM2
      dsimp only [List.cons_append, List.nil_append] at hM hup25
      clear hM2
      refine ⟨_, rfl, fun a hf => ?_⟩
      refine q_ hf rfl rfl rfl (e_pick_t hf rfl hc20 rfl) fun a hf => ?_
      refine q_ hf rfl rfl rfl (e_move hf rfl) fun a hf => ?_
      rcases cond_some h14 with ⟨hc26, h14⟩ | ⟨hc26, h14⟩
      · refine gq (wanted_t hf rfl rfl rfl rfl hc26) hf rfl rfl (e_move hf rfl) fun a hf => ?_
        refine q_ hf rfl rfl rfl (e_pick_t hf rfl hc26 rfl) fun a hf => ?_
        refine q_ hf rfl rfl rfl (e_assign hf rfl) fun a hf => ?_
        refine pl_nil ?_
        obtain rfl := some_inj h14
        refine then_n ?_
        exact ⟨y5.2, rfl, hf.keep ⟨rfl, trivial⟩, hM.pick [] rfl⟩
      · refine pl_gs (wanted_f hf rfl rfl rfl rfl hc26) hf rfl rfl fun a hf => ?_
        refine q_ hf rfl rfl rfl (e_pick_f hf rfl hc26 rfl) fun a hf => ?_
        refine q_ hf rfl rfl rfl (e_assign hf rfl) fun a hf => ?_
        refine pl_nil ?_
        obtain rfl := some_inj h14
        refine then_n ?_
        exact ⟨false, rfl, hf.keep ⟨rfl, trivial⟩, hM.pick [] rfl⟩
    · refine pl_gs (wanted_f hf rfl rfl rfl rfl hc20) hf rfl rfl fun a hf => ?_
      refine pl_gs (wanted_f hf rfl rfl rfl rfl hc20) hf rfl rfl fun a hf => ?_
      refine q_ hf rfl rfl rfl (e_pick_f hf rfl hc20 rfl) fun a hf => ?_
      refine q_ hf rfl rfl rfl (e_move hf rfl) fun a hf => ?_
      refine pl_gs (wanted_f hf rfl rfl rfl rfl rfl) hf rfl rfl fun a hf => ?_
      refine q_ hf rfl rfl rfl (e_pick_f hf rfl rfl rfl) fun a hf => ?_
      refine q_ hf rfl rfl rfl (e_assign hf rfl) fun a hf => ?_
      refine pl_nil ?_
      obtain rfl := some_inj h14
      refine then_n ?_
      exact ⟨false, rfl, hf.keep ⟨rfl, trivial⟩, hM.pick [] rfl⟩
  · rintro a w30 ⟨ok11, rfl, hf, hM⟩
    try dsimp only at h
    refine wp_ret ?_
    obtain rfl := some_inj h
    exact leave1 hf rfl rfl ⟨rfl, hM.fin⟩

end Go.Proofs.Ytgmbcolpchckbaa
