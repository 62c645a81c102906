/- The functions that this law reaches do what their models say. Printed by gen.py. -/
import Derived.Test.YtgmikhdealhlfaaMod
import Derived.Test.YtgmikhdealhlfaaFnFillingsRefB
namespace Go.Proofs.Ytgmikhdealhlfaa
open Go Go.RowKit
set_option linter.unusedSimpArgs false
set_option linter.unusedVariables false

set_option maxRecDepth 100000 in
set_option maxHeartbeats 4000000 in
theorem r_spec_l25Pattern (C : Cx) (g1 : Grid) (b2 : Nat) (o3 : Nat) (hp4 : (ptrRep GridRep).R C.w0 C.S0 g1 [vP b2 o3]) (s5 : Slot) (b6 : Nat) (o7 : Nat) (hp8 : (ptrRep SlotRep).R C.w0 C.S0 s5 [vP b6 o7]) (r : Str) (h : m_spec_l25Pattern g1 s5 = some r) :
    Calls Try.prog 51 #[vP b2 (o3), vP b6 (o7)] C.w0 fun e w => e = .returned (vS (r)) ∧ Mem C w [] [] ∧ r.length ≤ maxLen := by
  have hM := Mem.begin C [.dat (ptrRep SlotRep) s5 [vP b6 o7], .dat (ptrRep GridRep) g1 [vP b2 o3]] ⟨hp8, hp4, trivial⟩
  refine enter Try.func51 rfl Try.ntmps51 rfl fun a hf => ?_
  unfold m_spec_l25Pattern at h
  refine wp_seq ?_
  refine region_pl ?_
  refine q_ hf rfl rfl rfl (e_assign hf rfl) fun a hf => ?_
  refine pl_nil ?_
  refine then_n ?_
  refine wp_seq ?_
  refine region_pl ?_
  refine pl_l hf rfl rfl rfl (w_slice0 (K := byteRep) hM Try.underlying63 ei_5 fun b9 w10 hx11 hM a hf => ?_)
  refine q_ hf rfl rfl rfl (e_assign hf rfl) fun a hf => ?_
  refine pl_nil ?_
  refine then_n ?_
  obtain ⟨x15, h16, h⟩ := bind_some h
  refine seq_join (fun a w => ∃ (xs12 : Str) (A13 : Option Addr) (c14 : Nat), xs12 = x15 ∧ Has 30 a [(5, vL A13 (xs12) c14)] ∧ Mem C w [.row byteRep A13 c14 5 xs12 true] [.dat (ptrRep SlotRep) s5 [vP b6 o7], .dat (ptrRep GridRep) g1 [vP b2 o3]]) ?_ ?_
  · refine wp_seq ?_
    refine region_pl ?_
    refine q_ hf rfl rfl rfl (e_assign hf rfl) fun a hf => ?_
    refine pl_nil ?_
    refine then_n ?_
    refine wp_block ?_
    obtain ⟨x26, h27, h16⟩ := bind_some h16
    refine wp_loopM h27 (fun s a w => ∃ (xs17 : Str) (n20 : Int) (A18 : Option Addr) (c19 : Nat), (xs17, n20) = s ∧ Has 30 a [(0, vP b2 (o3)), (1, vP b6 (o7)), (5, vL A18 (xs17) c19), (6, vI (n20))] ∧ Mem C w [.row byteRep A18 c19 5 xs17 true] [.dat (ptrRep SlotRep) s5 [vP b6 o7], .dat (ptrRep GridRep) g1 [vP b2 o3]] ∧ R64 n20) ?_ ?_
    · exact ⟨([] : Str), 0, (some ⟨b9, 0, none⟩), 0, rfl, hf.keep ⟨rfl, rfl, rfl, rfl, trivial⟩, hM.pick [0, 1] rfl, (R64_lit rfl)⟩
    · rintro s o28 a w22 ⟨xs17, n20, A18, c19, rfl, hf, hM, hv21⟩ h29 hd30
      replace h29 : m_spec_l25Pattern_l1 s5 g1 xs17 n20 = some o28 := h29
      unfold m_spec_l25Pattern_l1 at h29
      refine wp_seq ?_
      refine wp_seq ?_
      refine region_pl ?_
      refine q_ hf rfl rfl rfl (e_move hf rfl) fun a hf => ?_
      refine q_ hf rfl rfl rfl (e_move hf rfl) fun a hf => ?_
      refine q_ hf rfl rfl rfl (e_nil hf rfl) fun a hf => ?_
      obtain ⟨_, hr31, hM⟩ := hM.deref (hM.dat (k := 0) rfl)
      obtain ⟨rfl, hv32, hv33, hv34⟩ := SlotRep_open hr31
      refine q_ hf rfl rfl rfl (e_field hf rfl Try.underlying75 rfl Try.sizeOf2 (o' := o7 + 3) rfl) fun a hf => ?_
      refine q_ hf rfl rfl rfl (e_load1 hf rfl Try.isAgg2 (hM.litCell (k := 0) (j := 3) rfl rfl rfl)) fun a hf => ?_
      refine q_ hf rfl rfl rfl (e_lt hf (x := n20) (y := s5.Length) rfl rfl) fun a hf => ?_
      refine pl_nil ?_
      refine then_n ?_
      rcases cond_some h29 with ⟨hc35, h29⟩ | ⟨hc35, h29⟩
      · refine cond_t hf rfl hc35 ?_
        refine wp_skip ?_
        refine then_n ?_
        refine wp_seq ?_
        refine wp_block ?_
        obtain ⟨w36, hw⟩ : ∃ x, x = w22.drew := ⟨_, rfl⟩
        refine region_pi (.q 0 (.q 1 (.q 2 (.q 3 (.q 4 (.q 5 (.q 6 (.q 7 (.l 8 (.q 9 (.l 10 (.l 11 (.q 12 (.nil)))))))))))))) (Ext w36) rfl (by kernel_rfl) ?_
        have hM := hM.drew
        rw [← hw] at hM ⊢
        clear hw
        refine pi_q hf rfl rfl rfl rfl (Ext.refl _) (e_move hf rfl) fun a hf => ?_
        refine pi_q hf rfl rfl rfl rfl (Ext.refl _) (e_move hf rfl) fun a hf => ?_
        refine pi_q hf rfl rfl rfl rfl (Ext.refl _) (e_nil hf rfl) fun a hf => ?_
        obtain ⟨_, hr37, hM⟩ := hM.deref (hM.dat (k := 2) rfl)
        obtain ⟨rfl, hv38, hv39, hv40⟩ := GridRep_open hr37
        refine pi_q hf rfl rfl rfl rfl (Ext.refl _) (e_field hf rfl Try.underlying27 rfl Try.sizeOf9 (o' := o3 + 2) rfl) fun a hf => ?_
        refine pi_q hf rfl rfl rfl rfl (Ext.refl _) (e_load1 hf rfl Try.isAgg9 (hM.litCell (k := 0) (j := 2) rfl rfl rfl)) fun a hf => ?_
        refine pi_q hf rfl rfl rfl rfl (Ext.refl _) (e_move hf rfl) fun a hf => ?_
        refine pi_q hf rfl rfl rfl rfl (Ext.refl _) (e_move hf rfl) fun a hf => ?_
        refine pi_q hf rfl rfl rfl rfl (Ext.refl _) (e_move hf rfl) fun a hf => ?_
        refine pi_one ?_
        obtain ⟨y41, hz42, h29⟩ := bind_some h29
        refine pi_l hf rfl rfl rfl rfl (w_call hf Try.call85 rfl (r_spec_l25Square ⟨_, Sh C _ _, none_, hM.sh_lt, none_not, C.G, hM.g_lt, g_none, hM.tabs⟩ g1 _ _ (hM.dat (k := 3) rfl) s5 _ _ (hM.dat (k := 2) rfl) n20 hv21 _ hz42) ?_)
        rintro _ w44 ⟨rfl, hM2, hv43⟩
        obtain ⟨hM, hx45, hup46⟩ := hM.back hM2
        dsimp only [List.cons_append, List.nil_append] at hM hup46
        clear hM2
        refine ⟨_, rfl, Ext w44, fun _ h => Ext.trans hx45 h, Ext.refl _, fun a hf => ?_⟩
        obtain ⟨c47, hz48, h29⟩ := bind_some h29
        refine pi_q hf rfl rfl rfl rfl (Ext.refl _) (e_indexS hf (x := g1.Cells) rfl rfl Try.underlying9 hz48) fun a hf => ?_
        refine pi_one ?_
        refine pi_l hf rfl rfl rfl rfl (w_slice hf hM (K := byteRep) (xs := ([c47] : Str)) (os := [.tmp 25]) Try.underlying63 ei_5 rfl rfl rfl rfl rfl ⟨⟨[vB (c47)], rfl, rfl⟩, trivial⟩ rfl fun b49 w50 hx51 hM => ⟨Ext w50, fun _ h => Ext.trans hx51 h, Ext.refl _, fun a hf => ?_⟩)
        refine pi_one ?_
        obtain ⟨xs52, hz53, h29⟩ := bind_some h29
        refine pi_z hf rfl rfl rfl rfl (by kernel_rfl) (w_append hf hM Try.underlying63 ei_5 rfl rfl rfl (k := 1) rfl (hM.srcRow (k := 0) rfl) hz53 fun A54 c55 w56 hM a hf => ?_)
        dsimp only [List.set] at hM
        refine pi_q hf rfl rfl rfl rfl (Ext.refl _) (e_assign hf rfl) fun a hf => ?_
        refine pi_nil ?_
        refine blk_n ?_
        refine then_n ?_
        refine region_pl ?_
        refine q_ hf rfl rfl rfl (e_move hf rfl) fun a hf => ?_
        obtain ⟨z59, hz60, h29⟩ := bind_some h29
        refine q_ hf rfl rfl rfl (e_add hf rfl rfl hz60) fun a hf => ?_
        refine q_ hf rfl rfl rfl (e_assign hf rfl) fun a hf => ?_
        refine pl_nil ?_
        obtain rfl := some_inj h29
        refine then_n ⟨_, rfl, ?_⟩
        exact ⟨xs52, z59, A54, c55, rfl, hf.keep ⟨rfl, rfl, rfl, rfl, trivial⟩, (hM.drop (.cons _ (.cons_cons _ .slnil))).pick [2, 3] rfl, (chk_R hz60)⟩
      · refine cond_f hf rfl hc35 ?_
        refine wp_exit ?_
        refine then_x ?_
        obtain rfl := some_inj h29
        obtain rfl := hd30 _ rfl
        try dsimp only at h16
        refine then_x ?_
        refine exit_hit ?_
        obtain rfl := some_inj h16
        refine then_n ?_
        exact ⟨xs17, A18, c19, rfl, hf.keep ⟨rfl, trivial⟩, hM.pick [1, 2] rfl⟩
  · rintro a w66 ⟨xs12, A13, c14, rfl, hf, hM⟩
    try dsimp only at h
    refine wp_seq ?_
    refine region_pl ?_
    refine q_ hf rfl rfl rfl (e_move hf rfl) fun a hf => ?_
    have hl67 := row_len (hM.ownAt (k := 0) rfl)
    refine q_ hf rfl rfl rfl (e_bytesStr hf (xs := xs12) rfl Try.underlying63 Try.underlying5 Try.underlying9 (hM.lendRow (k := 0) rfl)) fun a hf => ?_
    refine q_ hf rfl rfl rfl (e_assign hf rfl) fun a hf => ?_
    refine pl_nil ?_
    refine then_n ?_
    refine wp_ret ?_
    obtain rfl := some_inj h
    have hM := hM.outs (own' := []) 0 rfl
    exact leave1 hf rfl rfl ⟨rfl, hM.fin, hl67⟩

set_option maxRecDepth 100000 in
set_option maxHeartbeats 4000000 in
theorem r_spec_l25Fits (C : Cx) (pattern1 : Str) (hp2 : pattern1.length ≤ maxLen) (word3 : Str) (hp4 : word3.length ≤ maxLen) (r : Bool) (h : m_spec_l25Fits pattern1 word3 = some r) :
    Calls Try.prog 58 #[vS (pattern1), vS (word3)] C.w0 fun e w => e = .returned (.bool (r)) ∧ Mem C w [] [] := by
  have hM := Mem.begin C [] trivial
  refine enter Try.func58 rfl Try.ntmps58 rfl fun a hf => ?_
  unfold m_spec_l25Fits at h
  refine wp_seq ?_
  refine region_pl ?_
  refine q_ hf rfl rfl rfl (e_assign hf rfl) fun a hf => ?_
  refine pl_nil ?_
  refine then_n ?_
  refine wp_seq ?_
  refine wp_seq ?_
  refine region_pl ?_
  refine q_ hf rfl rfl rfl (e_move hf rfl) fun a hf => ?_
  refine q_ hf rfl rfl rfl (e_lenS hf (x := pattern1) rfl Try.underlying9) fun a hf => ?_
  refine q_ hf rfl rfl rfl (e_move hf rfl) fun a hf => ?_
  refine q_ hf rfl rfl rfl (e_lenS hf (x := word3) rfl Try.underlying9) fun a hf => ?_
  refine q_ hf rfl rfl rfl (e_ne hf (x := (pattern1.length : Int)) (y := (word3.length : Int)) rfl rfl) fun a hf => ?_
  refine pl_nil ?_
  refine then_n ?_
  rcases cond_some h with ⟨hc5, h⟩ | ⟨hc5, h⟩
  · refine cond_t hf rfl hc5 ?_
    refine wp_seq ?_
    refine region_pl ?_
    refine q_ hf rfl rfl rfl (e_assign hf rfl) fun a hf => ?_
    refine pl_nil ?_
    refine then_n ?_
    refine wp_ret ?_
    refine then_r ?_
    obtain rfl := some_inj h
    exact leave1 hf rfl rfl ⟨rfl, hM.fin⟩
  · refine cond_f hf rfl hc5 ?_
    refine wp_skip ?_
    refine then_n ?_
    obtain ⟨x6, h7, h⟩ := bind_some h
    refine seq_join (fun a w => (.inl ()) = x6 ∧ Has 30 a [] ∧ Mem C w [] []) ?_ ?_
    · refine wp_seq ?_
      refine region_pl ?_
      refine q_ hf rfl rfl rfl (e_assign hf rfl) fun a hf => ?_
      refine pl_nil ?_
      refine then_n ?_
      refine wp_block ?_
      obtain ⟨x11, h12, h7⟩ := bind_some h7
      refine wp_loopM h12 (fun s a w => ∃ (n8 : Int), n8 = s ∧ Has 30 a [(0, vS (pattern1)), (1, vS (word3)), (5, vI (n8))] ∧ Mem C w [] [] ∧ R64 n8) ?_ ?_
      · exact ⟨0, rfl, hf.keep ⟨rfl, rfl, rfl, trivial⟩, hM.pick [] rfl, (R64_lit rfl)⟩
      · rintro s o13 a w10 ⟨n8, rfl, hf, hM, hv9⟩ h14 hd15
        replace h14 : m_spec_l25Fits_l1 word3 pattern1 n8 = some o13 := h14
        unfold m_spec_l25Fits_l1 at h14
        refine wp_seq ?_
        refine wp_seq ?_
        refine region_pl ?_
        refine q_ hf rfl rfl rfl (e_move hf rfl) fun a hf => ?_
        refine q_ hf rfl rfl rfl (e_move hf rfl) fun a hf => ?_
        refine q_ hf rfl rfl rfl (e_lenS hf (x := word3) rfl Try.underlying9) fun a hf => ?_
        refine q_ hf rfl rfl rfl (e_lt hf (x := n8) (y := (word3.length : Int)) rfl rfl) fun a hf => ?_
        refine pl_nil ?_
        refine then_n ?_
        rcases cond_some h14 with ⟨hc16, h14⟩ | ⟨hc16, h14⟩
        · refine cond_t hf rfl hc16 ?_
          refine wp_skip ?_
          refine then_n ?_
          refine wp_seq ?_
          refine wp_block ?_
          obtain ⟨x19, h20, h14⟩ := bind_some h14
          refine seq_join (fun a w => ∃ (t17 : Bool), t17 = x19 ∧ Has 30 a [(0, vS (pattern1)), (1, vS (word3)), (5, vI (n8)), (29, .bool (t17))] ∧ Mem C w [] []) ?_ ?_
          · obtain ⟨w21, hw⟩ : ∃ x, x = w10.drew := ⟨_, rfl⟩
            refine region_pi (.q 0 (.q 1 (.q 2 (.q 3 (.q 4 (.q 5 (.q 6 (.q 7 (.q 8 (.q 9 (.q 10 (.q 11 (.q 12 (.nil)))))))))))))) (Ext w21) rfl (by kernel_rfl) ?_
            have hM := hM.drew
            rw [← hw] at hM ⊢
            clear hw
            refine pi_q hf rfl rfl rfl rfl (Ext.refl _) (e_move hf rfl) fun a hf => ?_
            refine pi_q hf rfl rfl rfl rfl (Ext.refl _) (e_move hf rfl) fun a hf => ?_
            obtain ⟨c22, hz23, h20⟩ := bind_some h20
            refine pi_q hf rfl rfl rfl rfl (Ext.refl _) (e_indexS hf (x := pattern1) rfl rfl Try.underlying9 hz23) fun a hf => ?_
            refine pi_q hf rfl rfl rfl rfl (Ext.refl _) (e_neB hf (x := c22) (y := 46) rfl rfl) fun a hf => ?_
            refine pi_q hf rfl rfl rfl rfl (Ext.refl _) (e_move hf rfl) fun a hf => ?_
            rcases cond_some h20 with ⟨hc24, h20⟩ | ⟨hc24, h20⟩
            · refine pi_gq hf rfl (wanted_t hf rfl rfl rfl rfl hc24) rfl rfl (Ext.refl _) (e_move hf rfl) fun a hf => ?_
              refine pi_gq hf rfl (wanted_t hf rfl rfl rfl rfl hc24) rfl rfl (Ext.refl _) (e_move hf rfl) fun a hf => ?_
              obtain ⟨c25, hz26, h20⟩ := bind_some h20
              refine pi_gq hf rfl (wanted_t hf rfl rfl rfl rfl hc24) rfl rfl (Ext.refl _) (e_indexS hf (x := pattern1) rfl rfl Try.underlying9 hz26) fun a hf => ?_
              refine pi_gq hf rfl (wanted_t hf rfl rfl rfl rfl hc24) rfl rfl (Ext.refl _) (e_move hf rfl) fun a hf => ?_
              refine pi_gq hf rfl (wanted_t hf rfl rfl rfl rfl hc24) rfl rfl (Ext.refl _) (e_move hf rfl) fun a hf => ?_
              obtain ⟨c27, hz28, h20⟩ := bind_some h20
              refine pi_gq hf rfl (wanted_t hf rfl rfl rfl rfl hc24) rfl rfl (Ext.refl _) (e_indexS hf (x := word3) rfl rfl Try.underlying9 hz28) fun a hf => ?_
              refine pi_gq hf rfl (wanted_t hf rfl rfl rfl rfl hc24) rfl rfl (Ext.refl _) (e_neB hf (x := c25) (y := c27) rfl rfl) fun a hf => ?_
              refine pi_q hf rfl rfl rfl rfl (Ext.refl _) (e_pick_t hf rfl hc24 rfl) fun a hf => ?_
              refine pi_nil ?_
              obtain rfl := some_inj h20
              refine then_n ?_
              exact ⟨(c25 != c27), rfl, hf.keep ⟨rfl, rfl, rfl, rfl, trivial⟩, hM.pick [] rfl⟩
            · refine pi_gs hf rfl (wanted_f hf rfl rfl rfl rfl hc24) rfl rfl (Ext.refl _) fun a hf => ?_
              refine pi_gs hf rfl (wanted_f hf rfl rfl rfl rfl hc24) rfl rfl (Ext.refl _) fun a hf => ?_
              refine pi_gs hf rfl (wanted_f hf rfl rfl rfl rfl hc24) rfl rfl (Ext.refl _) fun a hf => ?_
              refine pi_gs hf rfl (wanted_f hf rfl rfl rfl rfl hc24) rfl rfl (Ext.refl _) fun a hf => ?_
              refine pi_gs hf rfl (wanted_f hf rfl rfl rfl rfl hc24) rfl rfl (Ext.refl _) fun a hf => ?_
              refine pi_gs hf rfl (wanted_f hf rfl rfl rfl rfl hc24) rfl rfl (Ext.refl _) fun a hf => ?_
              refine pi_gs hf rfl (wanted_f hf rfl rfl rfl rfl hc24) rfl rfl (Ext.refl _) fun a hf => ?_
              refine pi_q hf rfl rfl rfl rfl (Ext.refl _) (e_pick_f hf rfl hc24 rfl) fun a hf => ?_
              refine pi_nil ?_
              obtain rfl := some_inj h20
              refine then_n ?_
              exact ⟨false, rfl, hf.keep ⟨rfl, rfl, rfl, rfl, trivial⟩, hM.pick [] rfl⟩
          · rintro a w31 ⟨t17, rfl, hf, hM⟩
            try dsimp only at h14
            rcases cond_some h14 with ⟨hc32, h14⟩ | ⟨hc32, h14⟩
            · refine cond_t hf rfl hc32 ?_
              refine wp_seq ?_
              refine region_pl ?_
              refine q_ hf rfl rfl rfl (e_assign hf rfl) fun a hf => ?_
              refine pl_nil ?_
              refine then_n ?_
              refine wp_ret ?_
              refine blk_r ?_
              refine then_r ?_
              obtain rfl := some_inj h14
              obtain rfl := hd15 _ rfl
              try dsimp only at h7
              refine then_r ?_
              refine blk_r ?_
              obtain rfl := some_inj h7
              try dsimp only at h
              refine then_r ?_
              obtain rfl := some_inj h
              exact leave1 hf rfl rfl ⟨rfl, hM.fin⟩
            · refine cond_f hf rfl hc32 ?_
              refine wp_skip ?_
              refine blk_n ?_
              refine then_n ?_
              refine region_pl ?_
              refine q_ hf rfl rfl rfl (e_move hf rfl) fun a hf => ?_
              obtain ⟨z33, hz34, h14⟩ := bind_some h14
              refine q_ hf rfl rfl rfl (e_add hf rfl rfl hz34) fun a hf => ?_
              refine q_ hf rfl rfl rfl (e_assign hf rfl) fun a hf => ?_
              refine pl_nil ?_
              obtain rfl := some_inj h14
              refine then_n ⟨_, rfl, ?_⟩
              exact ⟨z33, rfl, hf.keep ⟨rfl, rfl, rfl, trivial⟩, hM.pick [] rfl, (chk_R hz34)⟩
        · refine cond_f hf rfl hc16 ?_
          refine wp_exit ?_
          refine then_x ?_
          obtain rfl := some_inj h14
          obtain rfl := hd15 _ rfl
          try dsimp only at h7
          refine then_x ?_
          refine exit_hit ?_
          obtain rfl := some_inj h7
          refine then_n ?_
          exact ⟨rfl, hf.keep trivial, hM.pick [] rfl⟩
    · rintro a w41 ⟨rfl, hf, hM⟩
      try dsimp only at h
      refine wp_seq ?_
      refine region_pl ?_
      refine q_ hf rfl rfl rfl (e_assign hf rfl) fun a hf => ?_
      refine pl_nil ?_
      refine then_n ?_
      refine wp_ret ?_
      obtain rfl := some_inj h
      exact leave1 hf rfl rfl ⟨rfl, hM.fin⟩

set_option maxRecDepth 100000 in
set_option maxHeartbeats 4000000 in
theorem r_spec_l25Words (C : Cx) (g1 : Grid) (b2 : Nat) (o3 : Nat) (hp4 : (ptrRep GridRep).R C.w0 C.S0 g1 [vP b2 o3]) (words5 : (List Str)) (A6 : Option Addr) (c7 : Nat) (hp8 : (sliceRep strRep).R C.w0 C.S0 words5 [vL A6 words5 c7]) (s9 : Slot) (b10 : Nat) (o11 : Nat) (hp12 : (ptrRep SlotRep).R C.w0 C.S0 s9 [vP b10 o11]) (r : (List Str)) (h : m_spec_l25Words g1 words5 s9 = some r) :
    Calls Try.prog 69 #[vP b2 (o3), vL A6 (words5) c7, vP b10 (o11)] C.w0 fun e w => ∃ (A_1 : Option Addr), ∃ (c_1 : Nat), e = .returned (vL A_1 (r) c_1) ∧ Mem C w [.row strRep A_1 c_1 9 r true] [] := by
  have hM := Mem.begin C [.dat (ptrRep SlotRep) s9 [vP b10 o11], .dat (sliceRep strRep) words5 [vL A6 words5 c7], .dat (ptrRep GridRep) g1 [vP b2 o3]] ⟨hp12, hp8, hp4, trivial⟩
  refine enter Try.func69 rfl Try.ntmps69 rfl fun a hf => ?_
  unfold m_spec_l25Words at h
  refine wp_seq ?_
  refine region_pl ?_
  refine q_ hf rfl rfl rfl (e_assign hf rfl) fun a hf => ?_
  refine pl_nil ?_
  refine then_n ?_
  refine wp_seq ?_
  refine region_pl ?_
  refine q_ hf rfl rfl rfl (e_move hf rfl) fun a hf => ?_
  refine q_ hf rfl rfl rfl (e_move hf rfl) fun a hf => ?_
  obtain ⟨y13, hz14, h⟩ := bind_some h
  refine pl_l hf rfl rfl rfl (w_call hf Try.call51 rfl (r_spec_l25Pattern ⟨_, Sh C _ _, none_, hM.sh_lt, none_not, C.G, hM.g_lt, g_none, hM.tabs⟩ g1 _ _ (hM.dat (k := 2) rfl) s9 _ _ (hM.dat (k := 0) rfl) _ hz14) ?_)
  rintro _ w16 ⟨rfl, hM2, hv15⟩
  obtain ⟨hM, hx17, hup18⟩ := hM.back hM2
  dsimp only [List.cons_append, List.nil_append] at hM hup18
  clear hM2
  refine ⟨_, rfl, fun a hf => ?_⟩
  refine q_ hf rfl rfl rfl (e_assign hf rfl) fun a hf => ?_
  refine pl_nil ?_
  refine then_n ?_
  refine wp_seq ?_
  refine region_pl ?_
  refine pl_l hf rfl rfl rfl (w_slice0 (K := strRep) hM Try.underlying40 ei_9 fun b19 w20 hx21 hM a hf => ?_)
  refine q_ hf rfl rfl rfl (e_assign hf rfl) fun a hf => ?_
  refine pl_nil ?_
  refine then_n ?_
  obtain ⟨x25, h26, h⟩ := bind_some h
  refine seq_join (fun a w => ∃ (xs22 : (List Str)) (A23 : Option Addr) (c24 : Nat), xs22 = x25 ∧ Has 34 a [(8, vL A23 (xs22) c24)] ∧ Mem C w [.row strRep A23 c24 9 xs22 true] [.dat (ptrRep SlotRep) s9 [vP b10 o11], .dat (sliceRep strRep) words5 [vL A6 words5 c7], .dat (ptrRep GridRep) g1 [vP b2 o3]]) ?_ ?_
  · refine wp_seq ?_
    refine region_pl ?_
    refine q_ hf rfl rfl rfl (e_assign hf rfl) fun a hf => ?_
    refine pl_nil ?_
    refine then_n ?_
    refine wp_block ?_
    obtain ⟨x36, h37, h26⟩ := bind_some h26
    refine wp_loopM h37 (fun s a w => ∃ (xs27 : (List Str)) (n30 : Int) (A28 : Option Addr) (c29 : Nat), (xs27, n30) = s ∧ Has 34 a [(1, vL A6 (words5) c7), (7, vS (y13)), (8, vL A28 (xs27) c29), (9, vI (n30))] ∧ Mem C w [.row strRep A28 c29 9 xs27 true] [.dat (ptrRep SlotRep) s9 [vP b10 o11], .dat (sliceRep strRep) words5 [vL A6 words5 c7], .dat (ptrRep GridRep) g1 [vP b2 o3]] ∧ R64 n30) ?_ ?_
    · exact ⟨([] : (List Str)), 0, (some ⟨b19, 0, none⟩), 0, rfl, hf.keep ⟨rfl, rfl, rfl, rfl, trivial⟩, hM.pick [0, 1, 2] rfl, (R64_lit rfl)⟩
    · rintro s o38 a w32 ⟨xs27, n30, A28, c29, rfl, hf, hM, hv31⟩ h39 hd40
      replace h39 : m_spec_l25Words_l1 words5 y13 xs27 n30 = some o38 := h39
      unfold m_spec_l25Words_l1 at h39
      refine wp_seq ?_
      refine wp_seq ?_
      refine region_pl ?_
      refine q_ hf rfl rfl rfl (e_move hf rfl) fun a hf => ?_
      refine q_ hf rfl rfl rfl (e_move hf rfl) fun a hf => ?_
      have hl41 := slice_len (hM.dat (k := 1) rfl)
      refine q_ hf rfl rfl rfl (e_lenL hf (x := words5) rfl Try.underlying40) fun a hf => ?_
      refine q_ hf rfl rfl rfl (e_lt hf (x := n30) (y := (words5.length : Int)) rfl rfl) fun a hf => ?_
      refine pl_nil ?_
      refine then_n ?_
      rcases cond_some h39 with ⟨hc42, h39⟩ | ⟨hc42, h39⟩
      · refine cond_t hf rfl hc42 ?_
        refine wp_skip ?_
        refine then_n ?_
        obtain ⟨x46, h47, h39⟩ := bind_some h39
        refine seq_join (fun a w => ∃ (xs43 : (List Str)) (A44 : Option Addr) (c45 : Nat), xs43 = x46 ∧ Has 34 a [(1, vL A6 (words5) c7), (7, vS (y13)), (8, vL A44 (xs43) c45), (9, vI (n30))] ∧ Mem C w [.row strRep A44 c45 9 xs43 true] [.dat (ptrRep SlotRep) s9 [vP b10 o11], .dat (sliceRep strRep) words5 [vL A6 words5 c7], .dat (ptrRep GridRep) g1 [vP b2 o3]]) ?_ ?_
        · refine wp_block ?_
          refine wp_seq ?_
          refine region_pl ?_
          refine q_ hf rfl rfl rfl (e_move hf rfl) fun a hf => ?_
          refine q_ hf rfl rfl rfl (e_move hf rfl) fun a hf => ?_
          refine q_ hf rfl rfl rfl (e_move hf rfl) fun a hf => ?_
          obtain ⟨e48, hz49, h47⟩ := bind_some h47
          obtain ⟨b53, o54, _, hA55, h50, h51, hr52, hM⟩ := hM.elem (hM.dat (k := 1) rfl) (n := 1) rfl hz49
          obtain ⟨rfl, hv56⟩ := hr52
          refine q_ hf rfl rfl rfl (e_indexAddr (A := A6) (b := b53) (o := o54) (xs := words5) (i := n30) hf hA55 rfl rfl Try.underlying40 Try.sizeOf9 h50 h51) fun a hf => ?_
          refine q_ hf rfl rfl rfl (e_load1 hf rfl Try.isAgg9 (hM.litCell (k := 0) (j := 0) rfl rfl rfl)) fun a hf => ?_
          obtain ⟨y57, hz58, h47⟩ := bind_some h47
          refine pl_l hf rfl rfl rfl (w_call hf Try.call58 rfl (r_spec_l25Fits ⟨_, Sh C _ _, none_, hM.sh_lt, none_not, C.G, hM.g_lt, g_none, hM.tabs⟩ y13 hv15 e48 hv56 _ hz58) ?_)
          rintro _ w59 ⟨rfl, hM2⟩
          obtain ⟨hM, hx60, hup61⟩ := hM.back hM2
          dsimp only [List.cons_append, List.nil_append] at hM hup61
          clear hM2
          refine ⟨_, rfl, fun a hf => ?_⟩
          refine pl_nil ?_
          refine then_n ?_
          rcases cond_some h47 with ⟨hc62, h47⟩ | ⟨hc62, h47⟩
          · refine cond_t hf rfl hc62 ?_
            refine region_pl ?_
            refine q_ hf rfl rfl rfl (e_move hf rfl) fun a hf => ?_
            refine q_ hf rfl rfl rfl (e_move hf rfl) fun a hf => ?_
            refine q_ hf rfl rfl rfl (e_move hf rfl) fun a hf => ?_
            obtain ⟨e63, hz64, h47⟩ := bind_some h47
            obtain ⟨b68, o69, _, hA70, h65, h66, hr67, hM⟩ := hM.elem (hM.dat (k := 2) rfl) (n := 1) rfl hz64
            obtain ⟨rfl, hv71⟩ := hr67
            refine q_ hf rfl rfl rfl (e_indexAddr (A := A6) (b := b68) (o := o69) (xs := words5) (i := n30) hf hA70 rfl rfl Try.underlying40 Try.sizeOf9 h65 h66) fun a hf => ?_
            refine q_ hf rfl rfl rfl (e_load1 hf rfl Try.isAgg9 (hM.litCell (k := 0) (j := 0) rfl rfl rfl)) fun a hf => ?_
            refine pl_l hf rfl rfl rfl (w_slice hf hM (K := strRep) (xs := ([e63] : (List Str))) (os := [.tmp 30]) Try.underlying40 ei_9 rfl rfl rfl rfl rfl ⟨⟨[vS (e63)], rfl, ⟨rfl, hv71⟩⟩, trivial⟩ rfl fun b72 w73 hx74 hM a hf => ?_)
            obtain ⟨xs75, hz76, h47⟩ := bind_some h47
            refine pl_l hf rfl rfl rfl (w_append hf hM Try.underlying40 ei_9 rfl rfl rfl (k := 1) rfl (hM.srcRow (k := 0) rfl) hz76 fun A77 c78 w79 hM a hf => ?_)
            dsimp only [List.set] at hM
            refine q_ hf rfl rfl rfl (e_assign hf rfl) fun a hf => ?_
            refine pl_nil ?_
            refine blk_n ?_
            obtain rfl := some_inj h47
            refine then_n ?_
            exact ⟨xs75, A77, c78, rfl, hf.keep ⟨rfl, rfl, rfl, rfl, trivial⟩, (hM.drop (.cons _ (.cons_cons _ .slnil))).pick [2, 3, 4] rfl⟩
          · refine cond_f hf rfl hc62 ?_
            refine wp_skip ?_
            refine blk_n ?_
            obtain rfl := some_inj h47
            refine then_n ?_
            exact ⟨xs27, A28, c29, rfl, hf.keep ⟨rfl, rfl, rfl, rfl, trivial⟩, hM.pick [1, 2, 3] rfl⟩
        · rintro a w84 ⟨xs43, A44, c45, rfl, hf, hM⟩
          try dsimp only at h39
          refine region_pl ?_
          refine q_ hf rfl rfl rfl (e_move hf rfl) fun a hf => ?_
          obtain ⟨z85, hz86, h39⟩ := bind_some h39
          refine q_ hf rfl rfl rfl (e_add hf rfl rfl hz86) fun a hf => ?_
          refine q_ hf rfl rfl rfl (e_assign hf rfl) fun a hf => ?_
          refine pl_nil ?_
          obtain rfl := some_inj h39
          refine then_n ⟨_, rfl, ?_⟩
          exact ⟨xs43, z85, A44, c45, rfl, hf.keep ⟨rfl, rfl, rfl, rfl, trivial⟩, hM.pick [0, 1, 2] rfl, (chk_R hz86)⟩
      · refine cond_f hf rfl hc42 ?_
        refine wp_exit ?_
        refine then_x ?_
        obtain rfl := some_inj h39
        obtain rfl := hd40 _ rfl
        try dsimp only at h26
        refine then_x ?_
        refine exit_hit ?_
        obtain rfl := some_inj h26
        refine then_n ?_
        exact ⟨xs27, A28, c29, rfl, hf.keep ⟨rfl, trivial⟩, hM.pick [0, 1, 2] rfl⟩
  · rintro a w92 ⟨xs22, A23, c24, rfl, hf, hM⟩
    try dsimp only at h
    refine wp_seq ?_
    refine region_pl ?_
    refine q_ hf rfl rfl rfl (e_move hf rfl) fun a hf => ?_
    refine q_ hf rfl rfl rfl (e_assign hf rfl) fun a hf => ?_
    refine pl_nil ?_
    refine then_n ?_
    refine wp_ret ?_
    obtain rfl := some_inj h
    exact leave1 hf rfl rfl ⟨A23, c24, rfl, hM.fin⟩

set_option maxRecDepth 100000 in
set_option maxHeartbeats 4000000 in
theorem r_spec_l25Search_dead (C : Cx) (s1 : l25Search) (b2 : Nat) (o3 : Nat) (hp4 : (ptrRep l25SearchRep).R C.w0 C.S0 s1 [vP b2 o3]) (g5 : Grid) (b6 : Nat) (o7 : Nat) (hp8 : (ptrRep GridRep).R C.w0 C.S0 g5 [vP b6 o7]) (r : Int) (h : m_spec_l25Search_dead s1 g5 = some r) :
    Calls Try.prog 101 #[vP b2 (o3), vP b6 (o7)] C.w0 fun e w => e = .returned (vI (r)) ∧ Mem C w [] [] ∧ R64 r := by
  have hM := Mem.begin C [.dat (ptrRep GridRep) g5 [vP b6 o7], .dat (ptrRep l25SearchRep) s1 [vP b2 o3]] ⟨hp8, hp4, trivial⟩
  refine enter Try.func101 rfl Try.ntmps101 rfl fun a hf => ?_
  unfold m_spec_l25Search_dead at h
  refine wp_seq ?_
  refine region_pl ?_
  refine q_ hf rfl rfl rfl (e_assign hf rfl) fun a hf => ?_
  refine pl_nil ?_
  refine then_n ?_
  obtain ⟨x9, h10, h⟩ := bind_some h
  refine seq_join (fun a w => (.inl ()) = x9 ∧ Has 30 a [] ∧ Mem C w [] [.dat (ptrRep GridRep) g5 [vP b6 o7], .dat (ptrRep l25SearchRep) s1 [vP b2 o3]]) ?_ ?_
  · refine wp_seq ?_
    refine region_pl ?_
    refine q_ hf rfl rfl rfl (e_assign hf rfl) fun a hf => ?_
    refine pl_nil ?_
    refine then_n ?_
    refine wp_block ?_
    obtain ⟨x14, h15, h10⟩ := bind_some h10
    refine wp_loopM h15 (fun s a w => ∃ (n11 : Int), n11 = s ∧ Has 30 a [(0, vP b2 (o3)), (1, vP b6 (o7)), (5, vI (n11))] ∧ Mem C w [] [.dat (ptrRep GridRep) g5 [vP b6 o7], .dat (ptrRep l25SearchRep) s1 [vP b2 o3]] ∧ R64 n11) ?_ ?_
    · exact ⟨0, rfl, hf.keep ⟨rfl, rfl, rfl, trivial⟩, hM.pick [0, 1] rfl, (R64_lit rfl)⟩
    · rintro s o16 a w13 ⟨n11, rfl, hf, hM, hv12⟩ h17 hd18
      replace h17 : m_spec_l25Search_dead_l1 s1 g5 n11 = some o16 := h17
      unfold m_spec_l25Search_dead_l1 at h17
      refine wp_seq ?_
      refine wp_seq ?_
      refine region_pl ?_
      refine q_ hf rfl rfl rfl (e_move hf rfl) fun a hf => ?_
      refine q_ hf rfl rfl rfl (e_move hf rfl) fun a hf => ?_
      refine q_ hf rfl rfl rfl (e_nil hf rfl) fun a hf => ?_
      obtain ⟨_, hr19, hM⟩ := hM.deref (hM.dat (k := 1) rfl)
      obtain ⟨A20, c21, A23, c24, A27, c28, rfl, hv22, hv25, hv26, hv29⟩ := l25SearchRep_open hr19
      have hM := hM.add (y := .dat (sliceRep strRep) s1.words [vL A20 s1.words c21]) hv22
      have hM := hM.add (y := .dat (sliceRep SlotRep) s1.slots [vL A23 s1.slots c24]) hv25
      have hM := hM.add (y := .dat (sliceRep GridRep) s1.out [vL A27 s1.out c28]) hv29
      refine q_ hf rfl rfl rfl (e_field hf rfl Try.underlying104 rfl Try.sizeOf30 (o' := o3 + 1) rfl) fun a hf => ?_
      refine q_ hf rfl rfl rfl (e_load1 hf rfl Try.isAgg30 (hM.litCell (k := 3) (j := 1) rfl rfl rfl)) fun a hf => ?_
      have hl30 := slice_len (hM.dat (k := 1) rfl)
      refine q_ hf rfl rfl rfl (e_lenL hf (x := s1.slots) rfl Try.underlying30) fun a hf => ?_
      refine q_ hf rfl rfl rfl (e_lt hf (x := n11) (y := (s1.slots.length : Int)) rfl rfl) fun a hf => ?_
      refine pl_nil ?_
      refine then_n ?_
      rcases cond_some h17 with ⟨hc31, h17⟩ | ⟨hc31, h17⟩
      · refine cond_t hf rfl hc31 ?_
        refine wp_skip ?_
        refine then_n ?_
        refine wp_seq ?_
        refine wp_block ?_
        refine wp_seq ?_
        obtain ⟨w32, hw⟩ : ∃ x, x = w13.drew := ⟨_, rfl⟩
        refine region_pi (.q 0 (.q 1 (.q 2 (.q 3 (.q 4 (.q 5 (.q 6 (.q 7 (.q 8 (.q 9 (.q 10 (.l 11 (.q 12 (.q 13 (.nil))))))))))))))) (Ext w32) rfl (by kernel_rfl) ?_
        have hM := hM.drew
        rw [← hw] at hM ⊢
        clear hw
        refine pi_q hf rfl rfl rfl rfl (Ext.refl _) (e_move hf rfl) fun a hf => ?_
        refine pi_q hf rfl rfl rfl rfl (Ext.refl _) (e_move hf rfl) fun a hf => ?_
        refine pi_q hf rfl rfl rfl rfl (Ext.refl _) (e_nil hf rfl) fun a hf => ?_
        refine pi_q hf rfl rfl rfl rfl (Ext.refl _) (e_field hf rfl Try.underlying104 rfl Try.sizeOf40 (o' := o3 + 0) rfl) fun a hf => ?_
        refine pi_q hf rfl rfl rfl rfl (Ext.refl _) (e_load1 hf rfl Try.isAgg40 (hM.litCell (k := 3) (j := 0) rfl rfl rfl)) fun a hf => ?_
        refine pi_q hf rfl rfl rfl rfl (Ext.refl _) (e_move hf rfl) fun a hf => ?_
        refine pi_q hf rfl rfl rfl rfl (Ext.refl _) (e_nil hf rfl) fun a hf => ?_
        refine pi_q hf rfl rfl rfl rfl (Ext.refl _) (e_field hf rfl Try.underlying104 rfl Try.sizeOf30 (o' := o3 + 1) rfl) fun a hf => ?_
        refine pi_q hf rfl rfl rfl rfl (Ext.refl _) (e_load1 hf rfl Try.isAgg30 (hM.litCell (k := 3) (j := 1) rfl rfl rfl)) fun a hf => ?_
        refine pi_q hf rfl rfl rfl rfl (Ext.refl _) (e_move hf rfl) fun a hf => ?_
        obtain ⟨e33, hz34, h17⟩ := bind_some h17
        obtain ⟨b38, o39, _, hA40, h35, h36, hr37, hM⟩ := hM.elem (hM.dat (k := 1) rfl) (n := 4) rfl hz34
        obtain ⟨rfl, hv41, hv42, hv43⟩ := SlotRep_open hr37
        refine pi_q hf rfl rfl rfl rfl (Ext.refl _) (e_indexAddr (A := A23) (b := b38) (o := o39) (xs := s1.slots) (i := n11) hf hA40 rfl rfl Try.underlying30 Try.sizeOf75 h35 h36) fun a hf => ?_
        refine pi_one ?_
        obtain ⟨y44, hz45, h17⟩ := bind_some h17
        refine pi_l hf rfl rfl rfl rfl (w_call hf Try.call69 rfl (r_spec_l25Words ⟨_, Sh C _ _, none_, hM.sh_lt, none_not, C.G, hM.g_lt, g_none, hM.tabs⟩ g5 _ _ (hM.dat (k := 5) rfl) s1.words _ _ (hM.dat (k := 3) rfl) e33 _ _ (hM.litPtr (k := 0) (d := 0) (us := [vI (e33.Row), vI (e33.Col), .bool (e33.Down), vI (e33.Length)]) rfl rfl rfl (SlotRep_mk (x := e33) hv41 hv42 hv43)) _ hz45) ?_)
        rintro _ w48 ⟨A46, c47, rfl, hM2⟩
        obtain ⟨hM, hx49, hup50⟩ := hM.back hM2
        dsimp only [List.cons_append, List.nil_append] at hM hup50
        clear hM2
        refine ⟨_, rfl, Ext w48, fun _ h => Ext.trans hx49 h, Ext.refl _, fun a hf => ?_⟩
        have hl51 := row_len (hM.ownAt (k := 0) rfl)
        refine pi_q hf rfl rfl rfl rfl (Ext.refl _) (e_lenL hf (x := y44) rfl Try.underlying40) fun a hf => ?_
        refine pi_q hf rfl rfl rfl rfl (Ext.refl _) (e_eq hf (x := (y44.length : Int)) (y := 0) rfl rfl) fun a hf => ?_
        refine pi_nil ?_
        refine then_n ?_
        rcases cond_some h17 with ⟨hc52, h17⟩ | ⟨hc52, h17⟩
        · refine cond_t hf rfl hc52 ?_
          refine wp_seq ?_
          refine region_pl ?_
          refine q_ hf rfl rfl rfl (e_move hf rfl) fun a hf => ?_
          refine q_ hf rfl rfl rfl (e_assign hf rfl) fun a hf => ?_
          refine pl_nil ?_
          refine then_n ?_
          refine wp_ret ?_
          refine blk_r ?_
          refine then_r ?_
          obtain rfl := some_inj h17
          obtain rfl := hd18 _ rfl
          try dsimp only at h10
          refine then_r ?_
          refine blk_r ?_
          obtain rfl := some_inj h10
          try dsimp only at h
          refine then_r ?_
          obtain rfl := some_inj h
          have hM := hM.outs (own' := []) 0 rfl
          exact leave1 hf rfl rfl ⟨rfl, hM.fin, hv12⟩
        · refine cond_f hf rfl hc52 ?_
          refine wp_skip ?_
          refine blk_n ?_
          refine then_n ?_
          refine region_pl ?_
          refine q_ hf rfl rfl rfl (e_move hf rfl) fun a hf => ?_
          obtain ⟨z53, hz54, h17⟩ := bind_some h17
          refine q_ hf rfl rfl rfl (e_add hf rfl rfl hz54) fun a hf => ?_
          refine q_ hf rfl rfl rfl (e_assign hf rfl) fun a hf => ?_
          refine pl_nil ?_
          obtain rfl := some_inj h17
          refine then_n ⟨_, rfl, ?_⟩
          exact ⟨z53, rfl, hf.keep ⟨rfl, rfl, rfl, trivial⟩, (hM.drop (.cons _ .slnil)).pick [5, 6] rfl, (chk_R hz54)⟩
      · refine cond_f hf rfl hc31 ?_
        refine wp_exit ?_
        refine then_x ?_
        obtain rfl := some_inj h17
        obtain rfl := hd18 _ rfl
        try dsimp only at h10
        refine then_x ?_
        refine exit_hit ?_
        obtain rfl := some_inj h10
        refine then_n ?_
        exact ⟨rfl, hf.keep trivial, hM.pick [4, 5] rfl⟩
  · rintro a w61 ⟨rfl, hf, hM⟩
    try dsimp only at h
    refine wp_seq ?_
    refine region_pl ?_
    refine q_ hf rfl rfl rfl (e_assign hf rfl) fun a hf => ?_
    refine pl_nil ?_
    refine then_n ?_
    refine wp_ret ?_
    obtain rfl := some_inj h
    exact leave1 hf rfl rfl ⟨rfl, hM.fin, (R64_lit rfl)⟩

set_option maxRecDepth 100000 in
set_option maxHeartbeats 4000000 in
theorem r_spec_l25Free (C : Cx) (pattern1 : Str) (hp2 : pattern1.length ≤ maxLen) (r : Bool) (h : m_spec_l25Free pattern1 = some r) :
    Calls Try.prog 113 #[vS (pattern1)] C.w0 fun e w => e = .returned (.bool (r)) ∧ Mem C w [] [] := by
  have hM := Mem.begin C [] trivial
  refine enter Try.func113 rfl Try.ntmps113 rfl fun a hf => ?_
  unfold m_spec_l25Free at h
  refine wp_seq ?_
  refine region_pl ?_
  refine q_ hf rfl rfl rfl (e_assign hf rfl) fun a hf => ?_
  refine pl_nil ?_
  refine then_n ?_
  obtain ⟨x3, h4, h⟩ := bind_some h
  refine seq_join (fun a w => (.inl ()) = x3 ∧ Has 14 a [] ∧ Mem C w [] []) ?_ ?_
  · refine wp_seq ?_
    refine region_pl ?_
    refine q_ hf rfl rfl rfl (e_assign hf rfl) fun a hf => ?_
    refine pl_nil ?_
    refine then_n ?_
    refine wp_block ?_
    obtain ⟨x8, h9, h4⟩ := bind_some h4
    refine wp_loopM h9 (fun s a w => ∃ (n5 : Int), n5 = s ∧ Has 14 a [(0, vS (pattern1)), (3, vI (n5))] ∧ Mem C w [] [] ∧ R64 n5) ?_ ?_
    · exact ⟨0, rfl, hf.keep ⟨rfl, rfl, trivial⟩, hM.pick [] rfl, (R64_lit rfl)⟩
    · rintro s o10 a w7 ⟨n5, rfl, hf, hM, hv6⟩ h11 hd12
      replace h11 : m_spec_l25Free_l1 pattern1 n5 = some o10 := h11
      unfold m_spec_l25Free_l1 at h11
      refine wp_seq ?_
      refine wp_seq ?_
      refine region_pl ?_
      refine q_ hf rfl rfl rfl (e_move hf rfl) fun a hf => ?_
      refine q_ hf rfl rfl rfl (e_move hf rfl) fun a hf => ?_
      refine q_ hf rfl rfl rfl (e_lenS hf (x := pattern1) rfl Try.underlying9) fun a hf => ?_
      refine q_ hf rfl rfl rfl (e_lt hf (x := n5) (y := (pattern1.length : Int)) rfl rfl) fun a hf => ?_
      refine pl_nil ?_
      refine then_n ?_
      rcases cond_some h11 with ⟨hc13, h11⟩ | ⟨hc13, h11⟩
      · refine cond_t hf rfl hc13 ?_
        refine wp_skip ?_
        refine then_n ?_
        refine wp_seq ?_
        refine wp_block ?_
        refine wp_seq ?_
        refine region_pl ?_
        refine q_ hf rfl rfl rfl (e_move hf rfl) fun a hf => ?_
        refine q_ hf rfl rfl rfl (e_move hf rfl) fun a hf => ?_
        obtain ⟨c14, hz15, h11⟩ := bind_some h11
        refine q_ hf rfl rfl rfl (e_indexS hf (x := pattern1) rfl rfl Try.underlying9 hz15) fun a hf => ?_
        refine q_ hf rfl rfl rfl (e_eqB hf (x := c14) (y := 46) rfl rfl) fun a hf => ?_
        refine pl_nil ?_
        refine then_n ?_
        rcases cond_some h11 with ⟨hc16, h11⟩ | ⟨hc16, h11⟩
        · refine cond_t hf rfl hc16 ?_
          refine wp_seq ?_
          refine region_pl ?_
          refine q_ hf rfl rfl rfl (e_assign hf rfl) fun a hf => ?_
          refine pl_nil ?_
          refine then_n ?_
          refine wp_ret ?_
          refine blk_r ?_
          refine then_r ?_
          obtain rfl := some_inj h11
          obtain rfl := hd12 _ rfl
          try dsimp only at h4
          refine then_r ?_
          refine blk_r ?_
          obtain rfl := some_inj h4
          try dsimp only at h
          refine then_r ?_
          obtain rfl := some_inj h
          exact leave1 hf rfl rfl ⟨rfl, hM.fin⟩
        · refine cond_f hf rfl hc16 ?_
          refine wp_skip ?_
          refine blk_n ?_
          refine then_n ?_
          refine region_pl ?_
          refine q_ hf rfl rfl rfl (e_move hf rfl) fun a hf => ?_
          obtain ⟨z17, hz18, h11⟩ := bind_some h11
          refine q_ hf rfl rfl rfl (e_add hf rfl rfl hz18) fun a hf => ?_
          refine q_ hf rfl rfl rfl (e_assign hf rfl) fun a hf => ?_
          refine pl_nil ?_
          obtain rfl := some_inj h11
          refine then_n ⟨_, rfl, ?_⟩
          exact ⟨z17, rfl, hf.keep ⟨rfl, rfl, trivial⟩, hM.pick [] rfl, (chk_R hz18)⟩
      · refine cond_f hf rfl hc13 ?_
        refine wp_exit ?_
        refine then_x ?_
        obtain rfl := some_inj h11
        obtain rfl := hd12 _ rfl
        try dsimp only at h4
        refine then_x ?_
        refine exit_hit ?_
        obtain rfl := some_inj h4
        refine then_n ?_
        exact ⟨rfl, hf.keep trivial, hM.pick [] rfl⟩
  · rintro a w25 ⟨rfl, hf, hM⟩
    try dsimp only at h
    refine wp_seq ?_
    refine region_pl ?_
    refine q_ hf rfl rfl rfl (e_assign hf rfl) fun a hf => ?_
    refine pl_nil ?_
    refine then_n ?_
    refine wp_ret ?_
    obtain rfl := some_inj h
    exact leave1 hf rfl rfl ⟨rfl, hM.fin⟩

set_option maxRecDepth 100000 in
set_option maxHeartbeats 4000000 in
theorem r_spec_l25Search_open (C : Cx) (s1 : l25Search) (b2 : Nat) (o3 : Nat) (hp4 : (ptrRep l25SearchRep).R C.w0 C.S0 s1 [vP b2 o3]) (g5 : Grid) (b6 : Nat) (o7 : Nat) (hp8 : (ptrRep GridRep).R C.w0 C.S0 g5 [vP b6 o7]) (r : Int) (h : m_spec_l25Search_open s1 g5 = some r) :
    Calls Try.prog 102 #[vP b2 (o3), vP b6 (o7)] C.w0 fun e w => e = .returned (vI (r)) ∧ Mem C w [] [] ∧ R64 r := by
  have hM := Mem.begin C [.dat (ptrRep GridRep) g5 [vP b6 o7], .dat (ptrRep l25SearchRep) s1 [vP b2 o3]] ⟨hp8, hp4, trivial⟩
  refine enter Try.func102 rfl Try.ntmps102 rfl fun a hf => ?_
  unfold m_spec_l25Search_open at h
  refine wp_seq ?_
  refine region_pl ?_
  refine q_ hf rfl rfl rfl (e_assign hf rfl) fun a hf => ?_
  refine pl_nil ?_
  refine then_n ?_
  obtain ⟨x9, h10, h⟩ := bind_some h
  refine seq_join (fun a w => (.inl ()) = x9 ∧ Has 25 a [] ∧ Mem C w [] [.dat (ptrRep GridRep) g5 [vP b6 o7], .dat (ptrRep l25SearchRep) s1 [vP b2 o3]]) ?_ ?_
  · refine wp_seq ?_
    refine region_pl ?_
    refine q_ hf rfl rfl rfl (e_assign hf rfl) fun a hf => ?_
    refine pl_nil ?_
    refine then_n ?_
    refine wp_block ?_
    obtain ⟨x14, h15, h10⟩ := bind_some h10
    refine wp_loopM h15 (fun s a w => ∃ (n11 : Int), n11 = s ∧ Has 25 a [(0, vP b2 (o3)), (1, vP b6 (o7)), (5, vI (n11))] ∧ Mem C w [] [.dat (ptrRep GridRep) g5 [vP b6 o7], .dat (ptrRep l25SearchRep) s1 [vP b2 o3]] ∧ R64 n11) ?_ ?_
    · exact ⟨0, rfl, hf.keep ⟨rfl, rfl, rfl, trivial⟩, hM.pick [0, 1] rfl, (R64_lit rfl)⟩
    · rintro s o16 a w13 ⟨n11, rfl, hf, hM, hv12⟩ h17 hd18
      replace h17 : m_spec_l25Search_open_l1 s1 g5 n11 = some o16 := h17
      unfold m_spec_l25Search_open_l1 at h17
      refine wp_seq ?_
      refine wp_seq ?_
      refine region_pl ?_
      refine q_ hf rfl rfl rfl (e_move hf rfl) fun a hf => ?_
      refine q_ hf rfl rfl rfl (e_move hf rfl) fun a hf => ?_
      refine q_ hf rfl rfl rfl (e_nil hf rfl) fun a hf => ?_
      obtain ⟨_, hr19, hM⟩ := hM.deref (hM.dat (k := 1) rfl)
      obtain ⟨A20, c21, A23, c24, A27, c28, rfl, hv22, hv25, hv26, hv29⟩ := l25SearchRep_open hr19
      have hM := hM.add (y := .dat (sliceRep strRep) s1.words [vL A20 s1.words c21]) hv22
      have hM := hM.add (y := .dat (sliceRep SlotRep) s1.slots [vL A23 s1.slots c24]) hv25
      have hM := hM.add (y := .dat (sliceRep GridRep) s1.out [vL A27 s1.out c28]) hv29
      refine q_ hf rfl rfl rfl (e_field hf rfl Try.underlying104 rfl Try.sizeOf30 (o' := o3 + 1) rfl) fun a hf => ?_
      refine q_ hf rfl rfl rfl (e_load1 hf rfl Try.isAgg30 (hM.litCell (k := 3) (j := 1) rfl rfl rfl)) fun a hf => ?_
      have hl30 := slice_len (hM.dat (k := 1) rfl)
      refine q_ hf rfl rfl rfl (e_lenL hf (x := s1.slots) rfl Try.underlying30) fun a hf => ?_
      refine q_ hf rfl rfl rfl (e_lt hf (x := n11) (y := (s1.slots.length : Int)) rfl rfl) fun a hf => ?_
      refine pl_nil ?_
      refine then_n ?_
      rcases cond_some h17 with ⟨hc31, h17⟩ | ⟨hc31, h17⟩
      · refine cond_t hf rfl hc31 ?_
        refine wp_skip ?_
        refine then_n ?_
        refine wp_seq ?_
        refine wp_block ?_
        refine wp_seq ?_
        refine region_pl ?_
        refine q_ hf rfl rfl rfl (e_move hf rfl) fun a hf => ?_
        refine q_ hf rfl rfl rfl (e_move hf rfl) fun a hf => ?_
        refine q_ hf rfl rfl rfl (e_nil hf rfl) fun a hf => ?_
        refine q_ hf rfl rfl rfl (e_field hf rfl Try.underlying104 rfl Try.sizeOf30 (o' := o3 + 1) rfl) fun a hf => ?_
        refine q_ hf rfl rfl rfl (e_load1 hf rfl Try.isAgg30 (hM.litCell (k := 3) (j := 1) rfl rfl rfl)) fun a hf => ?_
        refine q_ hf rfl rfl rfl (e_move hf rfl) fun a hf => ?_
        obtain ⟨e32, hz33, h17⟩ := bind_some h17
        obtain ⟨b37, o38, _, hA39, h34, h35, hr36, hM⟩ := hM.elem (hM.dat (k := 1) rfl) (n := 4) rfl hz33
        obtain ⟨rfl, hv40, hv41, hv42⟩ := SlotRep_open hr36
        refine q_ hf rfl rfl rfl (e_indexAddr (A := A23) (b := b37) (o := o38) (xs := s1.slots) (i := n11) hf hA39 rfl rfl Try.underlying30 Try.sizeOf75 h34 h35) fun a hf => ?_
        obtain ⟨y43, hz44, h17⟩ := bind_some h17
        refine pl_l hf rfl rfl rfl (w_call hf Try.call51 rfl (r_spec_l25Pattern ⟨_, Sh C _ _, none_, hM.sh_lt, none_not, C.G, hM.g_lt, g_none, hM.tabs⟩ g5 _ _ (hM.dat (k := 5) rfl) e32 _ _ (hM.litPtr (k := 0) (d := 0) (us := [vI (e32.Row), vI (e32.Col), .bool (e32.Down), vI (e32.Length)]) rfl rfl rfl (SlotRep_mk (x := e32) hv40 hv41 hv42)) _ hz44) ?_)
        rintro _ w46 ⟨rfl, hM2, hv45⟩
        obtain ⟨hM, hx47, hup48⟩ := hM.back hM2
        dsimp only [List.cons_append, List.nil_append] at hM hup48
        clear hM2
        refine ⟨_, rfl, fun a hf => ?_⟩
        obtain ⟨y49, hz50, h17⟩ := bind_some h17
        refine pl_l hf rfl rfl rfl (w_call hf Try.call113 rfl (r_spec_l25Free ⟨_, Sh C _ _, none_, hM.sh_lt, none_not, C.G, hM.g_lt, g_none, hM.tabs⟩ y43 hv45 _ hz50) ?_)
        rintro _ w51 ⟨rfl, hM2⟩
        obtain ⟨hM, hx52, hup53⟩ := hM.back hM2
        dsimp only [List.cons_append, List.nil_append] at hM hup53
        clear hM2
        refine ⟨_, rfl, fun a hf => ?_⟩
        refine pl_nil ?_
        refine then_n ?_
        rcases cond_some h17 with ⟨hc54, h17⟩ | ⟨hc54, h17⟩
        · refine cond_t hf rfl hc54 ?_
          refine wp_seq ?_
          refine region_pl ?_
          refine q_ hf rfl rfl rfl (e_move hf rfl) fun a hf => ?_
          refine q_ hf rfl rfl rfl (e_assign hf rfl) fun a hf => ?_
          refine pl_nil ?_
          refine then_n ?_
          refine wp_ret ?_
          refine blk_r ?_
          refine then_r ?_
          obtain rfl := some_inj h17
          obtain rfl := hd18 _ rfl
          try dsimp only at h10
          refine then_r ?_
          refine blk_r ?_
          obtain rfl := some_inj h10
          try dsimp only at h
          refine then_r ?_
          obtain rfl := some_inj h
          exact leave1 hf rfl rfl ⟨rfl, hM.fin, hv12⟩
        · refine cond_f hf rfl hc54 ?_
          refine wp_skip ?_
          refine blk_n ?_
          refine then_n ?_
          refine region_pl ?_
          refine q_ hf rfl rfl rfl (e_move hf rfl) fun a hf => ?_
          obtain ⟨z55, hz56, h17⟩ := bind_some h17
          refine q_ hf rfl rfl rfl (e_add hf rfl rfl hz56) fun a hf => ?_
          refine q_ hf rfl rfl rfl (e_assign hf rfl) fun a hf => ?_
          refine pl_nil ?_
          obtain rfl := some_inj h17
          refine then_n ⟨_, rfl, ?_⟩
          exact ⟨z55, rfl, hf.keep ⟨rfl, rfl, rfl, trivial⟩, hM.pick [5, 6] rfl, (chk_R hz56)⟩
      · refine cond_f hf rfl hc31 ?_
        refine wp_exit ?_
        refine then_x ?_
        obtain rfl := some_inj h17
        obtain rfl := hd18 _ rfl
        try dsimp only at h10
        refine then_x ?_
        refine exit_hit ?_
        obtain rfl := some_inj h10
        refine then_n ?_
        exact ⟨rfl, hf.keep trivial, hM.pick [4, 5] rfl⟩
  · rintro a w63 ⟨rfl, hf, hM⟩
    try dsimp only at h
    refine wp_seq ?_
    refine region_pl ?_
    refine q_ hf rfl rfl rfl (e_assign hf rfl) fun a hf => ?_
    refine pl_nil ?_
    refine then_n ?_
    refine wp_ret ?_
    obtain rfl := some_inj h
    exact leave1 hf rfl rfl ⟨rfl, hM.fin, (R64_lit rfl)⟩

set_option maxRecDepth 100000 in
set_option maxHeartbeats 4000000 in
theorem r_spec_l25Put (C : Cx) (g1 : Grid) (b2 : Nat) (o3 : Nat) (hp4 : (ptrRep GridRep).R C.w0 C.S0 g1 [vP b2 o3]) (s5 : Slot) (b6 : Nat) (o7 : Nat) (hp8 : (ptrRep SlotRep).R C.w0 C.S0 s5 [vP b6 o7]) (word9 : Str) (hp10 : word9.length ≤ maxLen) (r : Grid) (h : m_spec_l25Put g1 s5 word9 = some r) :
    Calls Try.prog 59 #[vP b2 (o3), vP b6 (o7), vS (word9)] C.w0 fun e w => e = .returned (.agg #[vI (r.Rows), vI (r.Cols), vS (r.Cells)]) ∧ Mem C w [] [] ∧ R64 r.Rows ∧ R64 r.Cols ∧ r.Cells.length ≤ maxLen := by
  have hM := Mem.begin C [.dat (ptrRep SlotRep) s5 [vP b6 o7], .dat (ptrRep GridRep) g1 [vP b2 o3]] ⟨hp8, hp4, trivial⟩
  refine enter Try.func59 rfl Try.ntmps59 rfl fun a hf => ?_
  unfold m_spec_l25Put at h
  refine wp_seq ?_
  refine region_pl ?_
  refine pl_l hf rfl rfl rfl (w_alloc hM (cs := [vI (0), vI (0), vS (([] : Str))]) Try.zeroValue27 rfl fun b11 w12 hx13 hM a hf => ?_)
  refine pl_nil ?_
  refine then_n ?_
  refine wp_seq ?_
  refine region_pl ?_
  refine q_ hf rfl rfl rfl (e_move hf rfl) fun a hf => ?_
  refine q_ hf rfl rfl rfl (e_nil hf rfl) fun a hf => ?_
  obtain ⟨_, hr15, hM⟩ := hM.deref (hM.dat (k := 1) rfl)
  obtain ⟨rfl, hv16, hv17, hv18⟩ := GridRep_open hr15
  refine q_ hf rfl rfl rfl (e_field hf rfl Try.underlying27 rfl Try.sizeOf9 (o' := o3 + 2) rfl) fun a hf => ?_
  refine q_ hf rfl rfl rfl (e_load1 hf rfl Try.isAgg9 (hM.litCell (k := 0) (j := 2) rfl rfl rfl)) fun a hf => ?_
  refine pl_l hf rfl rfl rfl (w_bytes hf hM (x := g1.Cells) rfl Try.underlying9 Try.underlying63 Try.underlying5 hv18 fun A19 c20 w21 hx22 hM a hf => ?_)
  refine q_ hf rfl rfl rfl (e_assign hf rfl) fun a hf => ?_
  refine pl_nil ?_
  refine then_n ?_
  obtain ⟨x24, h25, h⟩ := bind_some h
  refine seq_join (fun a w => ∃ (xs23 : Str), xs23 = x24 ∧ Has 42 a [(0, vP b2 (o3)), (6, vP b11 (0)), (7, vL A19 (xs23) c20)] ∧ Mem C w [.row byteRep A19 c20 5 xs23 false, .box b11 [vI (0), vI (0), vS (([] : Str))] 27] [.lit b2 (o3) [vI (g1.Rows), vI (g1.Cols), vS (g1.Cells)], .dat (ptrRep SlotRep) s5 [vP b6 o7], .dat (ptrRep GridRep) g1 [vP b2 o3]]) ?_ ?_
  · refine wp_seq ?_
    refine region_pl ?_
    refine q_ hf rfl rfl rfl (e_assign hf rfl) fun a hf => ?_
    refine pl_nil ?_
    refine then_n ?_
    refine wp_block ?_
    obtain ⟨x31, h32, h25⟩ := bind_some h25
    refine wp_loopM h32 (fun s a w => ∃ (xs26 : Str) (n27 : Int), (xs26, n27) = s ∧ Has 42 a [(0, vP b2 (o3)), (1, vP b6 (o7)), (2, vS (word9)), (6, vP b11 (0)), (7, vL A19 (xs26) c20), (8, vI (n27))] ∧ Mem C w [.row byteRep A19 c20 5 xs26 false, .box b11 [vI (0), vI (0), vS (([] : Str))] 27] [.lit b2 (o3) [vI (g1.Rows), vI (g1.Cols), vS (g1.Cells)], .dat (ptrRep SlotRep) s5 [vP b6 o7], .dat (ptrRep GridRep) g1 [vP b2 o3]] ∧ R64 n27) ?_ ?_
    · exact ⟨g1.Cells, 0, rfl, hf.keep ⟨rfl, rfl, rfl, rfl, rfl, rfl, trivial⟩, hM.pick [0, 1, 2] rfl, (R64_lit rfl)⟩
    · rintro s o33 a w29 ⟨xs26, n27, rfl, hf, hM, hv28⟩ h34 hd35
      replace h34 : m_spec_l25Put_l1 s5 word9 g1 xs26 n27 = some o33 := h34
      unfold m_spec_l25Put_l1 at h34
      refine wp_seq ?_
      refine wp_seq ?_
      refine region_pl ?_
      refine q_ hf rfl rfl rfl (e_move hf rfl) fun a hf => ?_
      refine q_ hf rfl rfl rfl (e_move hf rfl) fun a hf => ?_
      refine q_ hf rfl rfl rfl (e_nil hf rfl) fun a hf => ?_
      obtain ⟨_, hr36, hM⟩ := hM.deref (hM.dat (k := 1) rfl)
      obtain ⟨rfl, hv37, hv38, hv39⟩ := SlotRep_open hr36
      refine q_ hf rfl rfl rfl (e_field hf rfl Try.underlying75 rfl Try.sizeOf2 (o' := o7 + 3) rfl) fun a hf => ?_
      refine q_ hf rfl rfl rfl (e_load1 hf rfl Try.isAgg2 (hM.litCell (k := 0) (j := 3) rfl rfl rfl)) fun a hf => ?_
      refine q_ hf rfl rfl rfl (e_lt hf (x := n27) (y := s5.Length) rfl rfl) fun a hf => ?_
      refine pl_nil ?_
      refine then_n ?_
      rcases cond_some h34 with ⟨hc40, h34⟩ | ⟨hc40, h34⟩
      · refine cond_t hf rfl hc40 ?_
        refine wp_skip ?_
        refine then_n ?_
        refine wp_seq ?_
        refine wp_block ?_
        obtain ⟨w41, hw⟩ : ∃ x, x = w29.drew := ⟨_, rfl⟩
        refine region_pi (.q 0 (.q 1 (.q 2 (.q 3 (.q 5 (.q 6 (.q 7 (.l 4 (.q 8 (.l 9 (.nil))))))))))) (Ext w41) rfl (by kernel_rfl) ?_
        have hM := hM.drew
        rw [← hw] at hM ⊢
        clear hw
        refine pi_q hf rfl rfl rfl rfl (Ext.refl _) (e_move hf rfl) fun a hf => ?_
        refine pi_q hf rfl rfl rfl rfl (Ext.refl _) (e_move hf rfl) fun a hf => ?_
        refine pi_q hf rfl rfl rfl rfl (Ext.refl _) (e_move hf rfl) fun a hf => ?_
        refine pi_q hf rfl rfl rfl rfl (Ext.refl _) (e_move hf rfl) fun a hf => ?_
        refine pi_q hf rfl rfl rfl rfl (Ext.refl _) (e_move hf rfl) fun a hf => ?_
        refine pi_q hf rfl rfl rfl rfl (Ext.refl _) (e_move hf rfl) fun a hf => ?_
        obtain ⟨c42, hz43, h34⟩ := bind_some h34
        refine pi_q hf rfl rfl rfl rfl (Ext.refl _) (e_indexS hf (x := word9) rfl rfl Try.underlying9 hz43) fun a hf => ?_
        refine pi_one ?_
        obtain ⟨y44, hz45, h34⟩ := bind_some h34
        refine pi_l hf rfl rfl rfl rfl (w_call hf Try.call85 rfl (r_spec_l25Square ⟨_, Sh C _ _, none_, hM.sh_lt, none_not, C.G, hM.g_lt, g_none, hM.tabs⟩ g1 _ _ (hM.dat (k := 3) rfl) s5 _ _ (hM.dat (k := 2) rfl) n27 hv28 _ hz45) ?_)
        rintro _ w47 ⟨rfl, hM2, hv46⟩
        obtain ⟨hM, hx48, hup49⟩ := hM.back hM2
        dsimp only [List.cons_append, List.nil_append] at hM hup49
        clear hM2
        refine ⟨_, rfl, Ext w47, fun _ h => Ext.trans hx48 h, Ext.refl _, fun a hf => ?_⟩
        obtain ⟨e50, hz51, h34⟩ := bind_some h34
        obtain ⟨b56, _, hA57, h52, h53, hr54, hcell55⟩ := hM.rowElemN (k := 0) rfl (n := 1) rfl hz51
        obtain rfl : _ = _ := hr54
        refine pi_q hf rfl rfl rfl rfl (Ext.refl _) (e_indexAddr (A := A19) (b := b56) (o := 0) (xs := xs26) (i := y44) hf hA57 rfl rfl Try.underlying63 Try.sizeOf5 h52 h53) fun a hf => ?_
        refine pi_one ?_
        obtain ⟨xs59, hz60, h34⟩ := bind_some h34
        refine pi_z0 hf rfl rfl rfl (by kernel_rfl) (w_storeElem hf hM (x := c42) (row := [vB (c42)]) (i := y44) rfl rfl rfl hA57 (k := 0) rfl rfl Try.sizeOf5 rfl hz60 fun w58 hM => ?_)
        dsimp only [List.set] at hM
        have hf := hf.alter (d := 7) (v := vL A19 (xs59) c20) rfl (vL_len (setL_len hz60))
        have hf := hf.alter (d := 22) (v := vL A19 (xs59) c20) rfl (vL_len (setL_len hz60))
        refine pi_nil ?_
        refine blk_n ?_
        refine then_n ?_
        refine region_pl ?_
        refine q_ hf rfl rfl rfl (e_move hf rfl) fun a hf => ?_
        obtain ⟨z61, hz62, h34⟩ := bind_some h34
        refine q_ hf rfl rfl rfl (e_add hf rfl rfl hz62) fun a hf => ?_
        refine q_ hf rfl rfl rfl (e_assign hf rfl) fun a hf => ?_
        refine pl_nil ?_
        obtain rfl := some_inj h34
        refine then_n ⟨_, rfl, ?_⟩
        exact ⟨xs59, z61, rfl, hf.keep ⟨rfl, rfl, rfl, rfl, rfl, rfl, trivial⟩, hM.pick [1, 2, 3] rfl, (chk_R hz62)⟩
      · refine cond_f hf rfl hc40 ?_
        refine wp_exit ?_
        refine then_x ?_
        obtain rfl := some_inj h34
        obtain rfl := hd35 _ rfl
        try dsimp only at h25
        refine then_x ?_
        refine exit_hit ?_
        obtain rfl := some_inj h25
        refine then_n ?_
        exact ⟨xs26, rfl, hf.keep ⟨rfl, rfl, rfl, trivial⟩, hM.pick [1, 2, 3] rfl⟩
  · rintro a w68 ⟨xs23, rfl, hf, hM⟩
    try dsimp only at h
    refine wp_seq ?_
    obtain ⟨w69, hw⟩ : ∃ x, x = w68.drew := ⟨_, rfl⟩
    refine region_pi (.q 0 (.q 1 (.q 2 (.q 3 (.q 4 (.q 5 (.q 6 (.q 7 (.q 8 (.q 9 (.q 10 (.l 11 (.nil))))))))))))) (Ext w69) rfl (by kernel_rfl) ?_
    have hM := hM.drew
    rw [← hw] at hM ⊢
    clear hw
    refine pi_q hf rfl rfl rfl rfl (Ext.refl _) (e_move hf rfl) fun a hf => ?_
    refine pi_q hf rfl rfl rfl rfl (Ext.refl _) (e_nil hf rfl) fun a hf => ?_
    refine pi_q hf rfl rfl rfl rfl (Ext.refl _) (e_field hf rfl Try.underlying27 rfl Try.sizeOf2 (o' := o3 + 0) rfl) fun a hf => ?_
    refine pi_q hf rfl rfl rfl rfl (Ext.refl _) (e_load1 hf rfl Try.isAgg2 (hM.litCell (k := 0) (j := 0) rfl rfl rfl)) fun a hf => ?_
    refine pi_q hf rfl rfl rfl rfl (Ext.refl _) (e_move hf rfl) fun a hf => ?_
    refine pi_q hf rfl rfl rfl rfl (Ext.refl _) (e_nil hf rfl) fun a hf => ?_
    refine pi_q hf rfl rfl rfl rfl (Ext.refl _) (e_field hf rfl Try.underlying27 rfl Try.sizeOf2 (o' := o3 + 1) rfl) fun a hf => ?_
    refine pi_q hf rfl rfl rfl rfl (Ext.refl _) (e_load1 hf rfl Try.isAgg2 (hM.litCell (k := 0) (j := 1) rfl rfl rfl)) fun a hf => ?_
    refine pi_q hf rfl rfl rfl rfl (Ext.refl _) (e_move hf rfl) fun a hf => ?_
    have hl70 := row_len (hM.ownAt (k := 0) rfl)
    refine pi_q hf rfl rfl rfl rfl (Ext.refl _) (e_bytesStr hf (xs := xs23) rfl Try.underlying63 Try.underlying5 Try.underlying9 (hM.lendRow (k := 0) rfl)) fun a hf => ?_
    refine pi_q hf rfl rfl rfl rfl (Ext.refl _) (e_build hf Try.zeroValue27 Try.underlying27 (bp_27 _ Try.underlying27.symm) rfl (cs := #[vI (g1.Rows), vI (g1.Cols), vS (xs23)]) (by kernel_rfl)) fun a hf => ?_
    refine pi_one ?_
    refine pi_z0 hf rfl rfl rfl (by kernel_rfl) (w_store hf hM (us := [vI (g1.Rows), vI (g1.Cols), vS (xs23)]) (cs' := [vI (g1.Rows), vI (g1.Cols), vS (xs23)]) rfl rfl (k := 1) rfl rfl Try.sizeOf27 rfl rfl rfl fun w71 hM => ?_)
    dsimp only [List.set] at hM
    refine pi_nil ?_
    refine then_n ?_
    refine wp_ret ?_
    obtain rfl := some_inj h
    have hres74 := leaveV1 (P := Try.prog) Try.results59 (res_agg hf rfl ⟨Try.isAgg27, Try.sizeOf27⟩ (us := [vI (g1.Rows), vI (g1.Cols), vS (xs23)]) rfl (hM.boxSub (k := 1) (o := 0) rfl rfl))
    have hM := hM.outs (own' := []) 0 rfl
    exact bodyPost_ret hres74 hf.defers ⟨rfl, hM.fin, hv16, hv17, hl70⟩

def Ct_spec_l25Search_run (rc : l25Search → Grid → Option l25Search) : Prop := ∀ (C : Cx) (s1 : l25Search) (b2 : Nat) (A3 : Option Addr) (c4 : Nat) (hp5 : (sliceRep strRep).R C.w0 C.S0 s1.words [vL A3 s1.words c4]) (A6 : Option Addr) (c7 : Nat) (hp8 : (sliceRep SlotRep).R C.w0 C.S0 s1.slots [vL A6 s1.slots c7]) (hp9 : R64 s1.most) (A10 : Option Addr) (c11 : Nat) (g12 : Grid) (b13 : Nat) (o14 : Nat) (hp15 : (ptrRep GridRep).R C.w0 C.S0 g12 [vP b13 o14]) (hO : Mem C C.w0 [.box b2 [vL A3 (s1.words) c4, vL A6 (s1.slots) c7, vI (s1.most), vL A10 (s1.out) c11] 104, .row GridRep A10 c11 27 s1.out true] []) (hd : ∀ b, C.S0 b → ¬ ownB [.box b2 [vL A3 (s1.words) c4, vL A6 (s1.slots) c7, vI (s1.most), vL A10 (s1.out) c11] 104, .row GridRep A10 c11 27 s1.out true] b) (r : l25Search) (h : rc s1 g12 = some r),
    Calls Try.prog 97 #[vP b2 (0), vP b13 (o14)] C.w0 fun e w => ∃ (A_1 : Option Addr), ∃ (c_1 : Nat), ∃ (A_2 : Option Addr), ∃ (c_2 : Nat), ∃ (A_3 : Option Addr), ∃ (c_3 : Nat), e = .returned (.tuple #[]) ∧ Mem C w [.box b2 [vL A_1 (r.words) c_1, vL A_2 (r.slots) c_2, vI (r.most), vL A_3 (r.out) c_3] 104, .row GridRep A_3 c_3 27 r.out true] [] ∧ (sliceRep strRep).R w (Sh C [.box b2 [vL A_1 (r.words) c_1, vL A_2 (r.slots) c_2, vI (r.most), vL A_3 (r.out) c_3] 104, .row GridRep A_3 c_3 27 r.out true] w) r.words [vL A_1 r.words c_1] ∧ (sliceRep SlotRep).R w (Sh C [.box b2 [vL A_1 (r.words) c_1, vL A_2 (r.slots) c_2, vI (r.most), vL A_3 (r.out) c_3] 104, .row GridRep A_3 c_3 27 r.out true] w) r.slots [vL A_2 r.slots c_2] ∧ R64 r.most

set_option maxRecDepth 100000 in
set_option maxHeartbeats 4000000 in
theorem r_spec_l25Search_run_b (rc : l25Search → Grid → Option l25Search) (ih : Ct_spec_l25Search_run rc) : Ct_spec_l25Search_run (m_spec_l25Search_run_b rc) := by
  intro C s1 b2 A3 c4 hp5 A6 c7 hp8 hp9 A10 c11 g12 b13 o14 hp15 hO hd r h
  have hM := hO
  have hM := hM.addIn hd (y := .dat (sliceRep strRep) s1.words [vL A3 s1.words c4]) hp5
  have hM := hM.addIn hd (y := .dat (sliceRep SlotRep) s1.slots [vL A6 s1.slots c7]) hp8
  have hM := hM.addIn hd (y := .dat (ptrRep GridRep) g12 [vP b13 o14]) hp15
  refine enter Try.func97 rfl Try.ntmps97 rfl fun a hf => ?_
  unfold m_spec_l25Search_run_b at h
  refine wp_seq ?_
  refine wp_seq ?_
  refine region_pl ?_
  refine q_ hf rfl rfl rfl (e_move hf rfl) fun a hf => ?_
  refine q_ hf rfl rfl rfl (e_move hf rfl) fun a hf => ?_
  obtain ⟨y16, hz17, h⟩ := bind_some h
  refine pl_l hf rfl rfl rfl (w_call hf Try.call101 rfl (r_spec_l25Search_dead ⟨_, All C _ _, none_, hM.all_lt, none_not, C.G, hM.g_lt, g_none, hM.tabs⟩ s1 _ _ (hM.lendBox (k := 0) rfl (l25SearchRep_mk (x := s1) (hM.lendDat (k := 2) rfl) (hM.lendDat (k := 1) rfl) hp9 (hM.lendRow (k := 1) rfl))) g12 _ _ (hM.lendDat (k := 0) rfl) _ hz17) ?_)
  rintro _ w19 ⟨rfl, hM2, hv18⟩
  obtain ⟨hM, hx20⟩ := hM.backA hM2
  clear hM2
  refine ⟨_, rfl, fun a hf => ?_⟩
  refine q_ hf rfl rfl rfl (e_ge hf (x := y16) (y := 0) rfl rfl) fun a hf => ?_
  refine pl_nil ?_
  refine then_n ?_
  rcases cond_some h with ⟨hc22, h⟩ | ⟨hc22, h⟩
  · refine cond_t hf rfl hc22 ?_
    refine wp_ret ?_
    refine then_r ?_
    obtain rfl := some_inj h
    exact leave0 hf rfl ⟨A3, c4, A6, c7, A10, c11, rfl, hM.fin, (hM.dat (k := 2) rfl), (hM.dat (k := 1) rfl), hp9⟩
  · refine cond_f hf rfl hc22 ?_
    refine wp_skip ?_
    refine then_n ?_
    refine wp_seq ?_
    refine region_pl ?_
    refine q_ hf rfl rfl rfl (e_move hf rfl) fun a hf => ?_
    refine q_ hf rfl rfl rfl (e_move hf rfl) fun a hf => ?_
    obtain ⟨y23, hz24, h⟩ := bind_some h
    refine pl_l hf rfl rfl rfl (w_call hf Try.call102 rfl (r_spec_l25Search_open ⟨_, All C _ _, none_, hM.all_lt, none_not, C.G, hM.g_lt, g_none, hM.tabs⟩ s1 _ _ (hM.lendBox (k := 0) rfl (l25SearchRep_mk (x := s1) (hM.lendDat (k := 2) rfl) (hM.lendDat (k := 1) rfl) hp9 (hM.lendRow (k := 1) rfl))) g12 _ _ (hM.lendDat (k := 0) rfl) _ hz24) ?_)
    rintro _ w26 ⟨rfl, hM2, hv25⟩
    obtain ⟨hM, hx27⟩ := hM.backA hM2
    clear hM2
    refine ⟨_, rfl, fun a hf => ?_⟩
    refine q_ hf rfl rfl rfl (e_assign hf rfl) fun a hf => ?_
    refine pl_nil ?_
    refine then_n ?_
    refine wp_seq ?_
    refine wp_seq ?_
    refine region_pl ?_
    refine q_ hf rfl rfl rfl (e_move hf rfl) fun a hf => ?_
    refine q_ hf rfl rfl rfl (e_lt hf (x := y23) (y := 0) rfl rfl) fun a hf => ?_
    refine pl_nil ?_
    refine then_n ?_
    rcases cond_some h with ⟨hc29, h⟩ | ⟨hc29, h⟩
    · refine cond_t hf rfl hc29 ?_
      refine wp_seq ?_
      obtain ⟨w30, hw⟩ : ∃ x, x = w26.drew := ⟨_, rfl⟩
      refine region_pi (.q 0 (.q 1 (.q 2 (.q 3 (.q 4 (.q 5 (.q 6 (.q 7 (.l 8 (.l 9 (.q 10 (.q 11 (.l 12 (.nil)))))))))))))) (ExtM [A10.map (·.block)] w30) rfl (by kernel_rfl) ?_
      have hM := hM.drew
      rw [← hw] at hM ⊢
      clear hw
      refine pi_q hf rfl rfl rfl rfl (ExtM.refl _ _) (e_move hf rfl) fun a hf => ?_
      refine pi_q hf rfl rfl rfl rfl (ExtM.refl _ _) (e_move hf rfl) fun a hf => ?_
      refine pi_q hf rfl rfl rfl rfl (ExtM.refl _ _) (e_nil hf rfl) fun a hf => ?_
      refine pi_q hf rfl rfl rfl rfl (ExtM.refl _ _) (e_field hf rfl Try.underlying104 rfl Try.sizeOf94 (o' := 3) rfl) fun a hf => ?_
      refine pi_q hf rfl rfl rfl rfl (ExtM.refl _ _) (e_load1M hf rfl Try.isAgg94 (hM.boxCell (k := 0) rfl rfl) (hM.apart (js := [1]) rfl (k := 0) rfl rfl rfl)) fun a hf => ?_
      refine pi_q hf rfl rfl rfl rfl (ExtM.refl _ _) (e_move hf rfl) fun a hf => ?_
      refine pi_q hf rfl rfl rfl rfl (ExtM.refl _ _) (e_nil hf rfl) fun a hf => ?_
      obtain ⟨_, hr31, hM⟩ := hM.deref (hM.dat (k := 0) rfl)
      obtain ⟨rfl, hv32, hv33, hv34⟩ := GridRep_open hr31
      refine pi_q hf rfl rfl rfl rfl (ExtM.refl _ _) (e_loadAM hf (us := [vI (g12.Rows), vI (g12.Cols), vS (g12.Cells)]) rfl ⟨Try.isAgg27, Try.sizeOf27⟩ rfl (hM.litSub (k := 0) (d := 0) (us := [vI (g12.Rows), vI (g12.Cols), vS (g12.Cells)]) rfl rfl rfl) (hM.apartS (js := [1]) rfl (hM.at_ (k := 0) rfl).1)) fun a hf => ?_
      refine pi_one ?_
      refine pi_l hf rfl rfl rfl rfl (w_slice hf hM (K := GridRep) (xs := ([g12] : (List Grid))) (os := [.tmp 24]) Try.underlying94 ei_27 rfl rfl rfl rfl rfl ⟨⟨[vI (g12.Rows), vI (g12.Cols), vS (g12.Cells)], rfl, (GridRep_mk (x := g12) hv32 hv33 hv34)⟩, trivial⟩ rfl fun b35 w36 hx37 hM => ⟨ExtM [A10.map (·.block)] w36, fun _ h => ExtM.trans hx37 h, ExtM.refl _ _, fun a hf => ?_⟩)
      refine pi_one ?_
      obtain ⟨xs38, hz39, h⟩ := bind_some h
      refine pi_l hf rfl rfl rfl rfl (w_appendX hf hM Try.underlying94 ei_27 rfl rfl rfl (k := 2) rfl (hM.srcRow (k := 0) rfl) hz39 fun A40 c41 w42 hsz44 hold43 hM => ⟨Ext w42, fun _ h => ExtM.last (ExtM.ofRow (List.mem_of_getElem? (i := 0) rfl) hold43) hsz44 h, Ext.refl _, fun a hf => ?_⟩)
      dsimp only [List.set] at hM
      refine pi_q hf rfl rfl rfl rfl (Ext.refl _) (e_nil hf rfl) fun a hf => ?_
      refine pi_q hf rfl rfl rfl rfl (Ext.refl _) (e_field hf rfl Try.underlying104 rfl Try.sizeOf94 (o' := 3) rfl) fun a hf => ?_
      refine pi_one ?_
      refine pi_z0 hf rfl rfl rfl (by kernel_rfl) (w_store hf hM (us := [vL A40 (xs38) c41]) (cs' := [vL A3 (s1.words) c4, vL A6 (s1.slots) c7, vI (s1.most), vL A40 (xs38) c41]) rfl rfl (k := 1) rfl rfl Try.sizeOf94 rfl rfl rfl fun w45 hM => ?_)
      dsimp only [List.set] at hM
      refine pi_nil ?_
      refine then_n ?_
      refine wp_ret ?_
      refine then_r ?_
      obtain rfl := some_inj h
      have hM := hM.front (k := 2) rfl
      dsimp only [List.eraseIdx] at hM
      have hM := hM.front (k := 2) rfl
      dsimp only [List.eraseIdx] at hM
      have hM := hM.outs (own' := [.box b2 [vL A3 (s1.words) c4, vL A6 (s1.slots) c7, vI (s1.most), vL A40 (xs38) c41] 104, .row GridRep A40 c41 27 xs38 true]) 2 rfl
      exact leave0 hf rfl ⟨A3, c4, A6, c7, A40, c41, rfl, hM.fin, (hM.dat (k := 3) rfl), (hM.dat (k := 2) rfl), hp9⟩
    · refine cond_f hf rfl hc29 ?_
      refine wp_skip ?_
      refine then_n ?_
      refine wp_seq ?_
      obtain ⟨w48, hw⟩ : ∃ x, x = w26.drew := ⟨_, rfl⟩
      refine region_pi (.q 0 (.q 1 (.q 2 (.q 3 (.q 4 (.q 5 (.q 6 (.q 7 (.q 8 (.q 9 (.q 10 (.l 11 (.q 12 (.nil)))))))))))))) (Ext w48) rfl (by kernel_rfl) ?_
      have hM := hM.drew
      rw [← hw] at hM ⊢
      clear hw
      refine pi_q hf rfl rfl rfl rfl (Ext.refl _) (e_move hf rfl) fun a hf => ?_
      refine pi_q hf rfl rfl rfl rfl (Ext.refl _) (e_move hf rfl) fun a hf => ?_
      refine pi_q hf rfl rfl rfl rfl (Ext.refl _) (e_nil hf rfl) fun a hf => ?_
      refine pi_q hf rfl rfl rfl rfl (Ext.refl _) (e_field hf rfl Try.underlying104 rfl Try.sizeOf40 (o' := 0) rfl) fun a hf => ?_
      refine pi_q hf rfl rfl rfl rfl (Ext.refl _) (e_load1 hf rfl Try.isAgg40 (hM.boxCell (k := 0) rfl rfl)) fun a hf => ?_
      refine pi_q hf rfl rfl rfl rfl (Ext.refl _) (e_move hf rfl) fun a hf => ?_
      refine pi_q hf rfl rfl rfl rfl (Ext.refl _) (e_nil hf rfl) fun a hf => ?_
      refine pi_q hf rfl rfl rfl rfl (Ext.refl _) (e_field hf rfl Try.underlying104 rfl Try.sizeOf30 (o' := 1) rfl) fun a hf => ?_
      refine pi_q hf rfl rfl rfl rfl (Ext.refl _) (e_load1 hf rfl Try.isAgg30 (hM.boxCell (k := 0) rfl rfl)) fun a hf => ?_
      refine pi_q hf rfl rfl rfl rfl (Ext.refl _) (e_move hf rfl) fun a hf => ?_
      obtain ⟨e49, hz50, h⟩ := bind_some h
      obtain ⟨b54, o55, _, hA56, h51, h52, hr53, hM⟩ := hM.elem (hM.dat (k := 1) rfl) (n := 4) rfl hz50
      obtain ⟨rfl, hv57, hv58, hv59⟩ := SlotRep_open hr53
      refine pi_q hf rfl rfl rfl rfl (Ext.refl _) (e_indexAddr (A := A6) (b := b54) (o := o55) (xs := s1.slots) (i := y23) hf hA56 rfl rfl Try.underlying30 Try.sizeOf75 h51 h52) fun a hf => ?_
      refine pi_one ?_
      obtain ⟨y60, hz61, h⟩ := bind_some h
      refine pi_l hf rfl rfl rfl rfl (w_call hf Try.call69 rfl (r_spec_l25Words ⟨_, Sh C _ _, none_, hM.sh_lt, none_not, C.G, hM.g_lt, g_none, hM.tabs⟩ g12 _ _ (hM.dat (k := 1) rfl) s1.words _ _ (hM.dat (k := 3) rfl) e49 _ _ (hM.litPtr (k := 0) (d := 0) (us := [vI (e49.Row), vI (e49.Col), .bool (e49.Down), vI (e49.Length)]) rfl rfl rfl (SlotRep_mk (x := e49) hv57 hv58 hv59)) _ hz61) ?_)
      rintro _ w64 ⟨A62, c63, rfl, hM2⟩
      obtain ⟨hM, hx65, hup66⟩ := hM.back hM2
      dsimp only [List.cons_append, List.nil_append] at hM hup66
      clear hM2
      refine ⟨_, rfl, Ext w64, fun _ h => Ext.trans hx65 h, Ext.refl _, fun a hf => ?_⟩
      refine pi_q hf rfl rfl rfl rfl (Ext.refl _) (e_assign hf rfl) fun a hf => ?_
      refine pi_nil ?_
      refine then_n ?_
      refine wp_seq ?_
      refine region_pl ?_
      refine q_ hf rfl rfl rfl (e_assign hf rfl) fun a hf => ?_
      refine pl_nil ?_
      refine then_n ?_
      refine wp_block ?_
      obtain ⟨x92, h93, h⟩ := bind_some h
      refine wp_loopM h93 (fun s a w => ∃ (l67 : (List Str)) (l70 : (List Slot)) (n73 : Int) (xs75 : (List Grid)) (n78 : Int) (A68 : Option Addr) (c69 : Nat) (A71 : Option Addr) (c72 : Nat) (A76 : Option Addr) (c77 : Nat), (l67, l70, n73, xs75, n78) = s ∧ Has 73 a [(0, vP b2 (0)), (1, vP b13 (o14)), (4, vI (y23)), (5, vL A62 (y60) c63), (6, vI (n78))] ∧ Mem C w [.row strRep A62 c63 9 y60 true, .box b2 [vL A68 (l67) c69, vL A71 (l70) c72, vI (n73), vL A76 (xs75) c77] 104, .row GridRep A76 c77 27 xs75 true] [.dat (sliceRep SlotRep) l70 [vL A71 l70 c72], .dat (sliceRep strRep) l67 [vL A68 l67 c69], .lit b54 (o55 + (y23 : Int).toNat * 4) [vI (e49.Row), vI (e49.Col), .bool (e49.Down), vI (e49.Length)], .dat (ptrRep GridRep) g12 [vP b13 o14], .dat (sliceRep SlotRep) s1.slots [vL A6 s1.slots c7], .dat (sliceRep strRep) s1.words [vL A3 s1.words c4]] ∧ R64 n73 ∧ R64 n78) ?_ ?_
      · exact ⟨s1.words, s1.slots, s1.most, s1.out, 0, A3, c4, A6, c7, A10, c11, rfl, hf.keep ⟨rfl, rfl, rfl, rfl, rfl, trivial⟩, hM.pick [2, 3, 0, 1, 2, 3] rfl, hp9, (R64_lit rfl)⟩
      · rintro s o94 a w80 ⟨l67, l70, n73, xs75, n78, A68, c69, A71, c72, A76, c77, rfl, hf, hM, hv74, hv79⟩ h95 hd96
        replace h95 : m_spec_l25Search_run_l1 y60 y23 g12 rc l67 l70 n73 xs75 n78 = some o94 := h95
        unfold m_spec_l25Search_run_l1 at h95
        refine wp_seq ?_
        obtain ⟨x99, h100, h95⟩ := bind_some h95
        refine seq_join (fun a w => ∃ (t97 : Bool), t97 = x99 ∧ Has 73 a [(0, vP b2 (0)), (1, vP b13 (o14)), (4, vI (y23)), (5, vL A62 (y60) c63), (6, vI (n78)), (56, .bool (t97))] ∧ Mem C w [.row strRep A62 c63 9 y60 true, .box b2 [vL A68 (l67) c69, vL A71 (l70) c72, vI (n73), vL A76 (xs75) c77] 104, .row GridRep A76 c77 27 xs75 true] [.dat (sliceRep SlotRep) l70 [vL A71 l70 c72], .dat (sliceRep strRep) l67 [vL A68 l67 c69], .lit b54 (o55 + (y23 : Int).toNat * 4) [vI (e49.Row), vI (e49.Col), .bool (e49.Down), vI (e49.Length)], .dat (ptrRep GridRep) g12 [vP b13 o14], .dat (sliceRep SlotRep) s1.slots [vL A6 s1.slots c7], .dat (sliceRep strRep) s1.words [vL A3 s1.words c4]]) ?_ ?_
        · obtain ⟨w101, hw⟩ : ∃ x, x = w80.drew := ⟨_, rfl⟩
          refine region_pi (.q 0 (.q 1 (.q 2 (.q 3 (.q 4 (.q 5 (.q 6 (.q 7 (.q 8 (.q 9 (.q 10 (.q 11 (.q 12 (.q 13 (.q 14 (.q 15 (.nil))))))))))))))))) (Ext w101) rfl (by kernel_rfl) ?_
          have hM := hM.drew
          rw [← hw] at hM ⊢
          clear hw
          refine pi_q hf rfl rfl rfl rfl (Ext.refl _) (e_move hf rfl) fun a hf => ?_
          refine pi_q hf rfl rfl rfl rfl (Ext.refl _) (e_move hf rfl) fun a hf => ?_
          have hl102 := row_len (hM.ownAt (k := 0) rfl)
          refine pi_q hf rfl rfl rfl rfl (Ext.refl _) (e_lenL hf (x := y60) rfl Try.underlying40) fun a hf => ?_
          refine pi_q hf rfl rfl rfl rfl (Ext.refl _) (e_lt hf (x := n78) (y := (y60.length : Int)) rfl rfl) fun a hf => ?_
          refine pi_q hf rfl rfl rfl rfl (Ext.refl _) (e_move hf rfl) fun a hf => ?_
          rcases cond_some h100 with ⟨hc103, h100⟩ | ⟨hc103, h100⟩
          · refine pi_gq hf rfl (wanted_t hf rfl rfl rfl rfl hc103) rfl rfl (Ext.refl _) (e_move hf rfl) fun a hf => ?_
            refine pi_gq hf rfl (wanted_t hf rfl rfl rfl rfl hc103) rfl rfl (Ext.refl _) (e_nil hf rfl) fun a hf => ?_
            refine pi_gq hf rfl (wanted_t hf rfl rfl rfl rfl hc103) rfl rfl (Ext.refl _) (e_field hf rfl Try.underlying104 rfl Try.sizeOf94 (o' := 3) rfl) fun a hf => ?_
            refine pi_gq hf rfl (wanted_t hf rfl rfl rfl rfl hc103) rfl rfl (Ext.refl _) (e_load1 hf rfl Try.isAgg94 (hM.boxCell (k := 1) rfl rfl)) fun a hf => ?_
            have hl104 := row_len (hM.ownAt (k := 2) rfl)
            refine pi_gq hf rfl (wanted_t hf rfl rfl rfl rfl hc103) rfl rfl (Ext.refl _) (e_lenL hf (x := xs75) rfl Try.underlying94) fun a hf => ?_
            refine pi_gq hf rfl (wanted_t hf rfl rfl rfl rfl hc103) rfl rfl (Ext.refl _) (e_move hf rfl) fun a hf => ?_
            refine pi_gq hf rfl (wanted_t hf rfl rfl rfl rfl hc103) rfl rfl (Ext.refl _) (e_nil hf rfl) fun a hf => ?_
            refine pi_gq hf rfl (wanted_t hf rfl rfl rfl rfl hc103) rfl rfl (Ext.refl _) (e_field hf rfl Try.underlying104 rfl Try.sizeOf3 (o' := 2) rfl) fun a hf => ?_
            refine pi_gq hf rfl (wanted_t hf rfl rfl rfl rfl hc103) rfl rfl (Ext.refl _) (e_load1 hf rfl Try.isAgg3 (hM.boxCell (k := 1) rfl rfl)) fun a hf => ?_
            refine pi_gq hf rfl (wanted_t hf rfl rfl rfl rfl hc103) rfl rfl (Ext.refl _) (e_lt hf (x := (xs75.length : Int)) (y := n73) rfl rfl) fun a hf => ?_
            refine pi_q hf rfl rfl rfl rfl (Ext.refl _) (e_pick_t hf rfl hc103 rfl) fun a hf => ?_
            refine pi_nil ?_
            obtain rfl := some_inj h100
            refine then_n ?_
            exact ⟨(decide ((xs75.length : Int) < n73)), rfl, hf.keep ⟨rfl, rfl, rfl, rfl, rfl, rfl, trivial⟩, hM.pick [0, 1, 2, 3, 4, 5] rfl⟩
          · refine pi_gs hf rfl (wanted_f hf rfl rfl rfl rfl hc103) rfl rfl (Ext.refl _) fun a hf => ?_
            refine pi_gs hf rfl (wanted_f hf rfl rfl rfl rfl hc103) rfl rfl (Ext.refl _) fun a hf => ?_
            refine pi_gs hf rfl (wanted_f hf rfl rfl rfl rfl hc103) rfl rfl (Ext.refl _) fun a hf => ?_
            refine pi_gs hf rfl (wanted_f hf rfl rfl rfl rfl hc103) rfl rfl (Ext.refl _) fun a hf => ?_
            refine pi_gs hf rfl (wanted_f hf rfl rfl rfl rfl hc103) rfl rfl (Ext.refl _) fun a hf => ?_
            refine pi_gs hf rfl (wanted_f hf rfl rfl rfl rfl hc103) rfl rfl (Ext.refl _) fun a hf => ?_
            refine pi_gs hf rfl (wanted_f hf rfl rfl rfl rfl hc103) rfl rfl (Ext.refl _) fun a hf => ?_
            refine pi_gs hf rfl (wanted_f hf rfl rfl rfl rfl hc103) rfl rfl (Ext.refl _) fun a hf => ?_
            refine pi_gs hf rfl (wanted_f hf rfl rfl rfl rfl hc103) rfl rfl (Ext.refl _) fun a hf => ?_
            refine pi_gs hf rfl (wanted_f hf rfl rfl rfl rfl hc103) rfl rfl (Ext.refl _) fun a hf => ?_
            refine pi_q hf rfl rfl rfl rfl (Ext.refl _) (e_pick_f hf rfl hc103 rfl) fun a hf => ?_
            refine pi_nil ?_
            obtain rfl := some_inj h100
            refine then_n ?_
            exact ⟨false, rfl, hf.keep ⟨rfl, rfl, rfl, rfl, rfl, rfl, trivial⟩, hM.pick [0, 1, 2, 3, 4, 5] rfl⟩
        · rintro a w107 ⟨t97, rfl, hf, hM⟩
          try dsimp only at h95
          rcases cond_some h95 with ⟨hc108, h95⟩ | ⟨hc108, h95⟩
          · refine cond_t hf rfl hc108 ?_
            refine wp_skip ?_
            refine then_n ?_
            refine wp_seq ?_
            refine wp_block ?_
            refine wp_seq ?_
            obtain ⟨w109, hw⟩ : ∃ x, x = w107.drew := ⟨_, rfl⟩
            refine region_pi (.q 0 (.q 1 (.q 2 (.q 3 (.q 4 (.q 5 (.q 6 (.q 7 (.q 8 (.q 9 (.q 10 (.b 11 12 (.l 12 (.l 13 (.nil))) (.l 11 (.l 13 (.nil))))))))))))))) (Ext w109) rfl (by kernel_rfl) ?_
            have hM := hM.drew
            rw [← hw] at hM ⊢
            clear hw
            refine pi_q hf rfl rfl rfl rfl (Ext.refl _) (e_move hf rfl) fun a hf => ?_
            refine pi_q hf rfl rfl rfl rfl (Ext.refl _) (e_move hf rfl) fun a hf => ?_
            refine pi_q hf rfl rfl rfl rfl (Ext.refl _) (e_nil hf rfl) fun a hf => ?_
            refine pi_q hf rfl rfl rfl rfl (Ext.refl _) (e_field hf rfl Try.underlying104 rfl Try.sizeOf30 (o' := 1) rfl) fun a hf => ?_
            refine pi_q hf rfl rfl rfl rfl (Ext.refl _) (e_load1 hf rfl Try.isAgg30 (hM.boxCell (k := 1) rfl rfl)) fun a hf => ?_
            refine pi_q hf rfl rfl rfl rfl (Ext.refl _) (e_move hf rfl) fun a hf => ?_
            obtain ⟨e110, hz111, h95⟩ := bind_some h95
            obtain ⟨b115, o116, _, hA117, h112, h113, hr114, hM⟩ := hM.elem (hM.dat (k := 0) rfl) (n := 4) rfl hz111
            obtain ⟨rfl, hv118, hv119, hv120⟩ := SlotRep_open hr114
            refine pi_q hf rfl rfl rfl rfl (Ext.refl _) (e_indexAddr (A := A71) (b := b115) (o := o116) (xs := l70) (i := y23) hf hA117 rfl rfl Try.underlying30 Try.sizeOf75 h112 h113) fun a hf => ?_
            refine pi_q hf rfl rfl rfl rfl (Ext.refl _) (e_move hf rfl) fun a hf => ?_
            refine pi_q hf rfl rfl rfl rfl (Ext.refl _) (e_move hf rfl) fun a hf => ?_
            obtain ⟨e121, hz122, h95⟩ := bind_some h95
            obtain ⟨b127, _, hA128, h123, h124, hr125, hcell126⟩ := hM.rowElemN (k := 0) rfl (n := 1) rfl hz122
            obtain ⟨rfl, hv129⟩ := hr125
            refine pi_q hf rfl rfl rfl rfl (Ext.refl _) (e_indexAddr (A := A62) (b := b127) (o := 0) (xs := y60) (i := n78) hf hA128 rfl rfl Try.underlying40 Try.sizeOf9 h123 h124) fun a hf => ?_
            refine pi_q hf rfl rfl rfl rfl (Ext.refl _) (e_load1 hf rfl Try.isAgg9 (hcell126 0 _ rfl)) fun a hf => ?_
            obtain ⟨y130, hz131, h95⟩ := bind_some h95
            refine pi_two ?_ ?_
            · refine pi_l hf rfl rfl rfl rfl (w_call hf Try.call59 rfl (r_spec_l25Put ⟨_, Sh C _ _, none_, hM.sh_lt, none_not, C.G, hM.g_lt, g_none, hM.tabs⟩ g12 _ _ (hM.dat (k := 4) rfl) e110 _ _ (hM.litPtr (k := 0) (d := 0) (us := [vI (e110.Row), vI (e110.Col), .bool (e110.Down), vI (e110.Length)]) rfl rfl rfl (SlotRep_mk (x := e110) hv118 hv119 hv120)) e121 hv129 _ hz131) ?_)
              rintro _ w145 ⟨rfl, hM2, hv142, hv143, hv144⟩
              obtain ⟨hM, hx146, hup147⟩ := hM.back hM2
              dsimp only [List.cons_append, List.nil_append] at hM hup147
              clear hM2
              refine ⟨_, rfl, Ext w145, fun _ h => Ext.trans hx146 h, Ext.refl _, fun a hf => ?_⟩
              refine pi_one ?_
              refine pi_l hf rfl rfl rfl rfl (w_alloc hM (cs := [vI (0), vI (0), vS (([] : Str))]) Try.zeroValue27 rfl fun b148 w149 hx150 hM => ⟨Ext w149, fun _ h => Ext.trans hx150 h, Ext.refl _, fun a hf => ?_⟩)
              refine pi_one ?_
              refine pi_z0 hf rfl rfl rfl (by kernel_rfl) (w_store hf hM (us := [vI (y130.Rows), vI (y130.Cols), vS (y130.Cells)]) (cs' := [vI (y130.Rows), vI (y130.Cols), vS (y130.Cells)]) rfl rfl (k := 0) rfl rfl Try.sizeOf27 rfl rfl rfl fun w152 hM => ?_)
              dsimp only [List.set] at hM
              refine pi_nil ?_
              refine then_n ?_
              refine region_pl ?_
              refine q_ hf rfl rfl rfl (e_move hf rfl) fun a hf => ?_
              have hM := hM.freezeBox (k := 0) rfl rfl
              dsimp only [List.eraseIdx] at hM
              have hM := hM.front (k := 2) rfl
              dsimp only [List.eraseIdx] at hM
              have hM := hM.front (k := 2) rfl
              dsimp only [List.eraseIdx] at hM
              have hM : Mem C _ ([.box b2 [vL A68 (l67) c69, vL A71 (l70) c72, vI (n73), vL A76 (xs75) c77] 104, .row GridRep A76 c77 27 xs75 true] ++ [.row strRep A62 c63 9 y60 true]) _ := hM
              obtain ⟨y155, hz156, h95⟩ := bind_some h95
              refine pl_l hf rfl rfl rfl (w_call hf Try.call97 rfl (ih ⟨_, Sh C _ _, ownB _, hM.sh_lt, sub_dis, C.G, hM.g_lt, hM.g_own, hM.tabs⟩ (⟨l67, l70, n73, xs75⟩ : l25Search) _ _ _ (hM.dat (k := 3) rfl) _ _ (hM.dat (k := 2) rfl) hv74 _ _ y130 _ _ (hM.litPtr (k := 0) (d := 0) (us := [vI (y130.Rows), vI (y130.Cols), vS (y130.Cells)]) rfl rfl rfl (GridRep_mk (x := y130) hv142 hv143 hv144)) hM.sub sub_dis _ hz156) ?_)
              rintro _ w166 ⟨A157, c158, A160, c161, A164, c165, rfl, hM2, hv159, hv162, hv163⟩
              obtain ⟨hM, hup168⟩ := hM.backG hM2
              dsimp only [List.cons_append, List.nil_append] at hM hup168
              clear hM2
              have hM := hM.add (y := .dat (sliceRep strRep) y155.words [vL A157 y155.words c158]) (hup168 hv159)
              have hM := hM.add (y := .dat (sliceRep SlotRep) y155.slots [vL A160 y155.slots c161]) (hup168 hv162)
              refine ⟨_, rfl, fun a hf => ?_⟩
              refine pl_nil ?_
              refine blk_n ?_
              refine then_n ?_
              refine region_pl ?_
              refine q_ hf rfl rfl rfl (e_move hf rfl) fun a hf => ?_
              obtain ⟨z169, hz170, h95⟩ := bind_some h95
              refine q_ hf rfl rfl rfl (e_add hf rfl rfl hz170) fun a hf => ?_
              refine q_ hf rfl rfl rfl (e_assign hf rfl) fun a hf => ?_
              refine pl_nil ?_
              obtain rfl := some_inj h95
              refine then_n ⟨_, rfl, ?_⟩
              have hM := hM.front (k := 1) rfl
              dsimp only [List.eraseIdx] at hM
              have hM := hM.front (k := 1) rfl
              dsimp only [List.eraseIdx] at hM
              have hM := hM.front (k := 2) rfl
              dsimp only [List.eraseIdx] at hM
              exact ⟨y155.words, y155.slots, y155.most, y155.out, z169, A157, c158, A160, c161, A164, c165, rfl, hf.keep ⟨rfl, rfl, rfl, rfl, rfl, trivial⟩, hM.pick [0, 1, 6, 7, 8, 9] rfl, hv163, (chk_R hz170)⟩
            · refine pi_l hf rfl rfl rfl rfl (w_alloc hM (cs := [vI (0), vI (0), vS (([] : Str))]) Try.zeroValue27 rfl fun b172 w173 hx174 hM => ⟨Ext w173, fun _ h => Ext.trans hx174 h, Ext.refl _, fun a hf => ?_⟩)
              refine pi_one ?_
              refine pi_l hf rfl rfl rfl rfl (w_call hf Try.call59 rfl (r_spec_l25Put ⟨_, Sh C _ _, none_, hM.sh_lt, none_not, C.G, hM.g_lt, g_none, hM.tabs⟩ g12 _ _ (hM.dat (k := 4) rfl) e110 _ _ (hM.litPtr (k := 0) (d := 0) (us := [vI (e110.Row), vI (e110.Col), .bool (e110.Down), vI (e110.Length)]) rfl rfl rfl (SlotRep_mk (x := e110) hv118 hv119 hv120)) e121 hv129 _ hz131) ?_)
              rintro _ w179 ⟨rfl, hM2, hv176, hv177, hv178⟩
              obtain ⟨hM, hx180, hup181⟩ := hM.back hM2
              dsimp only [List.cons_append, List.nil_append] at hM hup181
              clear hM2
              refine ⟨_, rfl, Ext w179, fun _ h => Ext.trans hx180 h, Ext.refl _, fun a hf => ?_⟩
              refine pi_one ?_
              refine pi_z0 hf rfl rfl rfl (by kernel_rfl) (w_store hf hM (us := [vI (y130.Rows), vI (y130.Cols), vS (y130.Cells)]) (cs' := [vI (y130.Rows), vI (y130.Cols), vS (y130.Cells)]) rfl rfl (k := 0) rfl rfl Try.sizeOf27 rfl rfl rfl fun w182 hM => ?_)
              dsimp only [List.set] at hM
              refine pi_nil ?_
              refine then_n ?_
              refine region_pl ?_
              refine q_ hf rfl rfl rfl (e_move hf rfl) fun a hf => ?_
              have hM := hM.freezeBox (k := 0) rfl rfl
              dsimp only [List.eraseIdx] at hM
              have hM := hM.front (k := 2) rfl
              dsimp only [List.eraseIdx] at hM
              have hM := hM.front (k := 2) rfl
              dsimp only [List.eraseIdx] at hM
              have hM : Mem C _ ([.box b2 [vL A68 (l67) c69, vL A71 (l70) c72, vI (n73), vL A76 (xs75) c77] 104, .row GridRep A76 c77 27 xs75 true] ++ [.row strRep A62 c63 9 y60 true]) _ := hM
              obtain ⟨y185, hz186, h95⟩ := bind_some h95
              refine pl_l hf rfl rfl rfl (w_call hf Try.call97 rfl (ih ⟨_, Sh C _ _, ownB _, hM.sh_lt, sub_dis, C.G, hM.g_lt, hM.g_own, hM.tabs⟩ (⟨l67, l70, n73, xs75⟩ : l25Search) _ _ _ (hM.dat (k := 3) rfl) _ _ (hM.dat (k := 2) rfl) hv74 _ _ y130 _ _ (hM.litPtr (k := 0) (d := 0) (us := [vI (y130.Rows), vI (y130.Cols), vS (y130.Cells)]) rfl rfl rfl (GridRep_mk (x := y130) hv176 hv177 hv178)) hM.sub sub_dis _ hz186) ?_)
              rintro _ w196 ⟨A187, c188, A190, c191, A194, c195, rfl, hM2, hv189, hv192, hv193⟩
              obtain ⟨hM, hup198⟩ := hM.backG hM2
              dsimp only [List.cons_append, List.nil_append] at hM hup198
              clear hM2
              have hM := hM.add (y := .dat (sliceRep strRep) y185.words [vL A187 y185.words c188]) (hup198 hv189)
              have hM := hM.add (y := .dat (sliceRep SlotRep) y185.slots [vL A190 y185.slots c191]) (hup198 hv192)
              refine ⟨_, rfl, fun a hf => ?_⟩
              refine pl_nil ?_
              refine blk_n ?_
              refine then_n ?_
              refine region_pl ?_
              refine q_ hf rfl rfl rfl (e_move hf rfl) fun a hf => ?_
              obtain ⟨z199, hz200, h95⟩ := bind_some h95
              refine q_ hf rfl rfl rfl (e_add hf rfl rfl hz200) fun a hf => ?_
              refine q_ hf rfl rfl rfl (e_assign hf rfl) fun a hf => ?_
              refine pl_nil ?_
              obtain rfl := some_inj h95
              refine then_n ⟨_, rfl, ?_⟩
              have hM := hM.front (k := 1) rfl
              dsimp only [List.eraseIdx] at hM
              have hM := hM.front (k := 1) rfl
              dsimp only [List.eraseIdx] at hM
              have hM := hM.front (k := 2) rfl
              dsimp only [List.eraseIdx] at hM
              exact ⟨y185.words, y185.slots, y185.most, y185.out, z199, A187, c188, A190, c191, A194, c195, rfl, hf.keep ⟨rfl, rfl, rfl, rfl, rfl, trivial⟩, hM.pick [0, 1, 6, 7, 8, 9] rfl, hv193, (chk_R hz200)⟩
          · refine cond_f hf rfl hc108 ?_
            refine wp_exit ?_
            refine then_x ?_
            obtain rfl := some_inj h95
            obtain rfl := hd96 _ rfl
            try dsimp only at h
            refine then_x ?_
            refine exit_hit ?_
            obtain rfl := some_inj h
            have hM := hM.front (k := 2) rfl
            dsimp only [List.eraseIdx] at hM
            have hM := hM.front (k := 2) rfl
            dsimp only [List.eraseIdx] at hM
            have hM := hM.outs (own' := [.box b2 [vL A68 (l67) c69, vL A71 (l70) c72, vI (n73), vL A76 (xs75) c77] 104, .row GridRep A76 c77 27 xs75 true]) 2 rfl
            exact leave0n hf rfl ⟨A68, c69, A71, c72, A76, c77, rfl, hM.fin, (hM.dat (k := 1) rfl), (hM.dat (k := 0) rfl), hv74⟩

theorem r_spec_l25Search_run_n : ∀ n, Ct_spec_l25Search_run (m_spec_l25Search_run_n n)
  | 0 => fun C s1 b2 A3 c4 hp5 A6 c7 hp8 hp9 A10 c11 g12 b13 o14 hp15 hO hd r h => by cases h
  | n + 1 => r_spec_l25Search_run_b _ (r_spec_l25Search_run_n n)

theorem r_spec_l25Search_run : Ct_spec_l25Search_run (m_spec_l25Search_run) := r_spec_l25Search_run_n fuelN

set_option maxRecDepth 100000 in
set_option maxHeartbeats 4000000 in
theorem r_spec_l25Fill (C : Cx) (g1 : Grid) (b2 : Nat) (o3 : Nat) (hp4 : (ptrRep GridRep).R C.w0 C.S0 g1 [vP b2 o3]) (words5 : (List Str)) (A6 : Option Addr) (c7 : Nat) (hp8 : (sliceRep strRep).R C.w0 C.S0 words5 [vL A6 words5 c7]) (most9 : Int) (hp10 : R64 most9) (r : (List Grid)) (h : m_spec_l25Fill g1 words5 most9 = some r) :
    Calls Try.prog 72 #[vP b2 (o3), vL A6 (words5) c7, vI (most9)] C.w0 fun e w => ∃ (A_1 : Option Addr), ∃ (c_1 : Nat), e = .returned (vL A_1 (r) c_1) ∧ Mem C w [.row GridRep A_1 c_1 27 r true] [] := by
  have hM := Mem.begin C [.dat (sliceRep strRep) words5 [vL A6 words5 c7], .dat (ptrRep GridRep) g1 [vP b2 o3]] ⟨hp8, hp4, trivial⟩
  refine enter Try.func72 rfl Try.ntmps72 rfl fun a hf => ?_
  unfold m_spec_l25Fill at h
  refine wp_seq ?_
  refine region_pl ?_
  refine q_ hf rfl rfl rfl (e_assign hf rfl) fun a hf => ?_
  refine pl_nil ?_
  refine then_n ?_
  refine wp_seq ?_
  refine region_pl ?_
  refine q_ hf rfl rfl rfl (e_move hf rfl) fun a hf => ?_
  refine q_ hf rfl rfl rfl (e_move hf rfl) fun a hf => ?_
  obtain ⟨y11, hz12, h⟩ := bind_some h
  refine pl_l hf rfl rfl rfl (w_call hf Try.call50 rfl (r_spec_l25Slots ⟨_, Sh C _ _, none_, hM.sh_lt, none_not, C.G, hM.g_lt, g_none, hM.tabs⟩ g1 _ _ (hM.dat (k := 1) rfl) _ hz12) ?_)
  rintro _ w15 ⟨A13, c14, rfl, hM2⟩
  obtain ⟨hM, hx16, hup17⟩ := hM.back hM2
  dsimp only [List.cons_append, List.nil_append] at hM hup17
  clear hM2
  refine ⟨_, rfl, fun a hf => ?_⟩
  refine q_ hf rfl rfl rfl (e_move hf rfl) fun a hf => ?_
  refine q_ hf rfl rfl rfl (e_build hf Try.zeroValue104 Try.underlying104 (bp_104 _ Try.underlying104.symm) rfl (cs := #[vL A6 (words5) c7, vL A13 (y11) c14, vI (most9), vL none (([] : (List Grid))) 0]) (by kernel_rfl)) fun a hf => ?_
  refine pl_l hf rfl rfl rfl (w_box hf hM (cs := [vL A6 (words5) c7, vL A13 (y11) c14, vI (most9), vL none (([] : (List Grid))) 0]) rfl rfl fun b18 w19 hx20 hM a hf => ?_)
  refine q_ hf rfl rfl rfl (e_assign hf rfl) fun a hf => ?_
  refine pl_nil ?_
  refine then_n ?_
  refine wp_seq ?_
  refine region_pl ?_
  refine q_ hf rfl rfl rfl (e_move hf rfl) fun a hf => ?_
  refine q_ hf rfl rfl rfl (e_move hf rfl) fun a hf => ?_
  have hM := hM.freezeRow (k := 1) rfl rfl
  dsimp only [List.eraseIdx] at hM
  have hM := hM.nilRow GridRep 27
  have hM := hM.front (k := 0) rfl
  dsimp only [List.eraseIdx] at hM
  have hM := hM.front (k := 1) rfl
  dsimp only [List.eraseIdx] at hM
  have hM : Mem C _ ([.box b18 [vL A6 (words5) c7, vL A13 (y11) c14, vI (most9), vL none (([] : (List Grid))) 0] 104, .row GridRep none 0 27 ([] : (List Grid)) true] ++ []) _ := hM
  obtain ⟨y22, hz23, h⟩ := bind_some h
  refine pl_l hf rfl rfl rfl (w_call hf Try.call97 rfl (r_spec_l25Search_run ⟨_, Sh C _ _, ownB _, hM.sh_lt, sub_dis, C.G, hM.g_lt, hM.g_own, hM.tabs⟩ (⟨words5, y11, most9, ([] : (List Grid))⟩ : l25Search) _ _ _ (hM.dat (k := 1) rfl) _ _ (hM.dat (k := 0) rfl) hp10 _ _ g1 _ _ (hM.dat (k := 2) rfl) hM.sub sub_dis _ hz23) ?_)
  rintro _ w33 ⟨A24, c25, A27, c28, A31, c32, rfl, hM2, hv26, hv29, hv30⟩
  obtain ⟨hM, hup35⟩ := hM.backG hM2
  dsimp only [List.cons_append, List.nil_append] at hM hup35
  clear hM2
  have hM := hM.add (y := .dat (sliceRep strRep) y22.words [vL A24 y22.words c25]) (hup35 hv26)
  have hM := hM.add (y := .dat (sliceRep SlotRep) y22.slots [vL A27 y22.slots c28]) (hup35 hv29)
  refine ⟨_, rfl, fun a hf => ?_⟩
  refine pl_nil ?_
  refine then_n ?_
  refine wp_seq ?_
  refine region_pl ?_
  refine q_ hf rfl rfl rfl (e_move hf rfl) fun a hf => ?_
  refine q_ hf rfl rfl rfl (e_nil hf rfl) fun a hf => ?_
  refine q_ hf rfl rfl rfl (e_field hf rfl Try.underlying104 rfl Try.sizeOf94 (o' := 3) rfl) fun a hf => ?_
  refine q_ hf rfl rfl rfl (e_load1 hf rfl Try.isAgg94 (hM.boxCell (k := 0) rfl rfl)) fun a hf => ?_
  refine q_ hf rfl rfl rfl (e_assign hf rfl) fun a hf => ?_
  refine pl_nil ?_
  refine then_n ?_
  refine wp_ret ?_
  obtain rfl := some_inj h
  have hM := hM.front (k := 1) rfl
  dsimp only [List.eraseIdx] at hM
  have hM := hM.outs (own' := [.row GridRep A31 c32 27 y22.out true]) 1 rfl
  exact leave1 hf rfl rfl ⟨A31, c32, rfl, hM.fin⟩

set_option maxRecDepth 100000 in
set_option maxHeartbeats 4000000 in
theorem r_spec_FillGrid (C : Cx) (g1 : Grid) (hp2 : R64 g1.Rows) (hp3 : R64 g1.Cols) (hp4 : g1.Cells.length ≤ maxLen) (l5 : Lexicon) (A6 : Option Addr) (c7 : Nat) (hp8 : (sliceRep strRep).R C.w0 C.S0 l5.Words [vL A6 l5.Words c7]) (r : (Grid × Int)) (h : m_spec_FillGrid g1 l5 = some r) :
    Calls Try.prog 37 #[.agg #[vI (g1.Rows), vI (g1.Cols), vS (g1.Cells)], .agg #[vL A6 (l5.Words) c7]] C.w0 fun e w => e = .returned (.tuple #[.agg #[vI (r.1.Rows), vI (r.1.Cols), vS (r.1.Cells)], vI (r.2)]) ∧ Mem C w [] [] ∧ R64 r.1.Rows ∧ R64 r.1.Cols ∧ r.1.Cells.length ≤ maxLen ∧ R64 r.2 := by
  have hM := Mem.begin C [.dat (sliceRep strRep) l5.Words [vL A6 l5.Words c7]] ⟨hp8, trivial⟩
  refine enter Try.func37 rfl Try.ntmps37 rfl fun a hf => ?_
  unfold m_spec_FillGrid at h
  refine wp_seq ?_
  refine region_pl ?_
  refine pl_l hf rfl rfl rfl (w_box hf hM (cs := [vI (g1.Rows), vI (g1.Cols), vS (g1.Cells)]) rfl rfl fun b9 w10 hx11 hM a hf => ?_)
  refine pl_l hf rfl rfl rfl (w_box hf hM (cs := [vL A6 (l5.Words) c7]) rfl rfl fun b13 w14 hx15 hM a hf => ?_)
  refine pl_l hf rfl rfl rfl (w_alloc hM (cs := [vI (0), vI (0), vS (([] : Str))]) Try.zeroValue27 rfl fun b17 w18 hx19 hM a hf => ?_)
  refine q_ hf rfl rfl rfl (e_assign hf rfl) fun a hf => ?_
  refine pl_nil ?_
  refine then_n ?_
  refine wp_seq ?_
  obtain ⟨x23, h24, h⟩ := bind_some h
  refine seq_join (fun a w => ∃ (t21 : Bool), t21 = x23 ∧ Has 24 a [(2, vP b9 (0)), (3, vP b13 (0)), (4, vP b17 (0)), (12, .bool (t21))] ∧ Mem C w [.box b17 [vI (0), vI (0), vS (([] : Str))] 27, .box b13 [vL A6 (l5.Words) c7] 45, .box b9 [vI (g1.Rows), vI (g1.Cols), vS (g1.Cells)] 27] [.dat (sliceRep strRep) l5.Words [vL A6 l5.Words c7]]) ?_ ?_
  · refine region_pl ?_
    obtain ⟨y25, hz26, h24⟩ := bind_some h24
    refine pl_l hf rfl rfl rfl (w_call hf Try.call54 rfl (r_spec_l25Ok ⟨_, All C _ _, none_, hM.all_lt, none_not, C.G, hM.g_lt, g_none, hM.tabs⟩ g1 _ _ (hM.lendBox (k := 2) rfl (GridRep_mk (x := g1) hp2 hp3 hp4)) _ hz26) ?_)
    rintro _ w27 ⟨rfl, hM2⟩
    obtain ⟨hM, hx28⟩ := hM.backA hM2
    clear hM2
    refine ⟨_, rfl, fun a hf => ?_⟩
    refine q_ hf rfl rfl rfl (e_not hf rfl) fun a hf => ?_
    refine q_ hf rfl rfl rfl (e_move hf rfl) fun a hf => ?_
    rcases cond_some h24 with ⟨hc30, h24⟩ | ⟨hc30, h24⟩
    · refine pl_gs (wanted_f hf rfl rfl rfl rfl hc30) hf rfl rfl fun a hf => ?_
      refine pl_gs (wanted_f hf rfl rfl rfl rfl hc30) hf rfl rfl fun a hf => ?_
      refine q_ hf rfl rfl rfl (e_pick_t hf rfl hc30 rfl) fun a hf => ?_
      refine pl_nil ?_
      obtain rfl := some_inj h24
      refine then_n ?_
      exact ⟨true, rfl, hf.keep ⟨rfl, rfl, rfl, rfl, trivial⟩, hM.pick [0] rfl⟩
    · obtain ⟨y32, hz33, h24⟩ := bind_some h24
      refine pl_gl (wanted_t hf rfl rfl rfl rfl hc30) hf rfl rfl (w_call hf Try.call64 rfl (r_spec_l05Ok ⟨_, All C _ _, none_, hM.all_lt, none_not, C.G, hM.g_lt, g_none, hM.tabs⟩ l5 _ _ (hM.lendBox (k := 1) rfl (LexiconRep_mk (x := l5) (hM.lendDat (k := 0) rfl))) _ hz33) ?_)
      rintro _ w34 ⟨rfl, hM2⟩
      obtain ⟨hM, hx35⟩ := hM.backA hM2
      clear hM2
      refine ⟨_, rfl, fun a hf => ?_⟩
      refine gq (wanted_t hf rfl rfl rfl rfl hc30) hf rfl rfl (e_not hf rfl) fun a hf => ?_
      refine q_ hf rfl rfl rfl (e_pick_f hf rfl hc30 rfl) fun a hf => ?_
      refine pl_nil ?_
      obtain rfl := some_inj h24
      refine then_n ?_
      exact ⟨(!y32), rfl, hf.keep ⟨rfl, rfl, rfl, rfl, trivial⟩, hM.pick [0] rfl⟩
  · rintro a w38 ⟨t21, rfl, hf, hM⟩
    try dsimp only at h
    rcases cond_some h with ⟨hc39, h⟩ | ⟨hc39, h⟩
    · refine cond_t hf rfl hc39 ?_
      refine wp_seq ?_
      refine region_pl ?_
      refine q_ hf rfl rfl rfl (e_build hf Try.zeroValue27 Try.underlying27 (bp_27 _ Try.underlying27.symm) rfl (cs := #[vI (0), vI (0), vS (([] : Str))]) (by kernel_rfl)) fun a hf => ?_
      refine pl_0 hf rfl rfl (w_store hf hM (us := [vI (0), vI (0), vS (([] : Str))]) (cs' := [vI (0), vI (0), vS (([] : Str))]) rfl rfl (k := 0) rfl rfl Try.sizeOf27 rfl rfl rfl fun w40 hM => ?_)
      dsimp only [List.set] at hM
      refine q_ hf rfl rfl rfl (e_assign hf rfl) fun a hf => ?_
      refine pl_nil ?_
      refine then_n ?_
      refine wp_ret ?_
      refine then_r ?_
      obtain rfl := some_inj h
      have hres43 := leaveV2 (P := Try.prog) Try.results37 (res_agg hf rfl ⟨Try.isAgg27, Try.sizeOf27⟩ (us := [vI (0), vI (0), vS (([] : Str))]) rfl (hM.boxSub (k := 0) (o := 0) rfl rfl)) (res_tmp hf rfl)
      have hM := hM.outs (own' := []) 0 rfl
      exact bodyPost_ret hres43 hf.defers ⟨rfl, hM.fin, (R64_lit rfl), (R64_lit rfl), (lit_len rfl), (R64_lit rfl)⟩
    · refine cond_f hf rfl hc39 ?_
      refine wp_skip ?_
      refine then_n ?_
      refine wp_seq ?_
      refine region_pl ?_
      refine q_ hf rfl rfl rfl (e_field hf rfl Try.underlying45 rfl Try.sizeOf40 (o' := 0) rfl) fun a hf => ?_
      refine q_ hf rfl rfl rfl (e_load1 hf rfl Try.isAgg40 (hM.boxCell (k := 1) rfl rfl)) fun a hf => ?_
      obtain ⟨y44, hz45, h⟩ := bind_some h
      refine pl_l hf rfl rfl rfl (w_call hf Try.call72 rfl (r_spec_l25Fill ⟨_, All C _ _, none_, hM.all_lt, none_not, C.G, hM.g_lt, g_none, hM.tabs⟩ g1 _ _ (hM.lendBox (k := 2) rfl (GridRep_mk (x := g1) hp2 hp3 hp4)) l5.Words _ _ (hM.lendDat (k := 0) rfl) 1 (R64_lit rfl) _ hz45) ?_)
      rintro _ w48 ⟨A46, c47, rfl, hM2⟩
      obtain ⟨hM, hx49⟩ := hM.backAF GridRep_flat hM2
      clear hM2
      refine ⟨_, rfl, fun a hf => ?_⟩
      refine q_ hf rfl rfl rfl (e_assign hf rfl) fun a hf => ?_
      refine pl_nil ?_
      refine then_n ?_
      refine wp_seq ?_
      refine wp_seq ?_
      refine region_pl ?_
      refine q_ hf rfl rfl rfl (e_move hf rfl) fun a hf => ?_
      have hl51 := row_len (hM.ownAt (k := 0) rfl)
      refine q_ hf rfl rfl rfl (e_lenL hf (x := y44) rfl Try.underlying94) fun a hf => ?_
      refine q_ hf rfl rfl rfl (e_eq hf (x := (y44.length : Int)) (y := 0) rfl rfl) fun a hf => ?_
      refine pl_nil ?_
      refine then_n ?_
      rcases cond_some h with ⟨hc52, h⟩ | ⟨hc52, h⟩
      · refine cond_t hf rfl hc52 ?_
        refine wp_seq ?_
        refine region_pl ?_
        refine q_ hf rfl rfl rfl (e_build hf Try.zeroValue27 Try.underlying27 (bp_27 _ Try.underlying27.symm) rfl (cs := #[vI (0), vI (0), vS (([] : Str))]) (by kernel_rfl)) fun a hf => ?_
        refine pl_0 hf rfl rfl (w_store hf hM (us := [vI (0), vI (0), vS (([] : Str))]) (cs' := [vI (0), vI (0), vS (([] : Str))]) rfl rfl (k := 1) rfl rfl Try.sizeOf27 rfl rfl rfl fun w53 hM => ?_)
        dsimp only [List.set] at hM
        refine q_ hf rfl rfl rfl (e_assign hf rfl) fun a hf => ?_
        refine pl_nil ?_
        refine then_n ?_
        refine wp_ret ?_
        refine then_r ?_
        obtain rfl := some_inj h
        have hres56 := leaveV2 (P := Try.prog) Try.results37 (res_agg hf rfl ⟨Try.isAgg27, Try.sizeOf27⟩ (us := [vI (0), vI (0), vS (([] : Str))]) rfl (hM.boxSub (k := 1) (o := 0) rfl rfl)) (res_tmp hf rfl)
        have hM := hM.outs (own' := []) 0 rfl
        exact bodyPost_ret hres56 hf.defers ⟨rfl, hM.fin, (R64_lit rfl), (R64_lit rfl), (lit_len rfl), (R64_lit rfl)⟩
      · refine cond_f hf rfl hc52 ?_
        refine wp_skip ?_
        refine then_n ?_
        refine wp_seq ?_
        refine region_pl ?_
        refine q_ hf rfl rfl rfl (e_move hf rfl) fun a hf => ?_
        obtain ⟨e57, hz58, h⟩ := bind_some h
        obtain ⟨b63, _, hA64, h59, h60, hr61, hcell62⟩ := hM.rowElemN (k := 0) rfl (n := 3) rfl hz58
        obtain ⟨rfl, hv65, hv66, hv67⟩ := GridRep_open hr61
        refine q_ hf rfl rfl rfl (e_indexAddr (A := A46) (b := b63) (o := 0) (xs := y44) (i := 0) hf hA64 rfl rfl Try.underlying94 Try.sizeOf27 h59 h60) fun a hf => ?_
        refine q_ hf rfl rfl rfl (e_loadA hf (us := [vI (e57.Rows), vI (e57.Cols), vS (e57.Cells)]) rfl ⟨Try.isAgg27, Try.sizeOf27⟩ rfl hcell62) fun a hf => ?_
        refine pl_0 hf rfl rfl (w_store hf hM (us := [vI (e57.Rows), vI (e57.Cols), vS (e57.Cells)]) (cs' := [vI (e57.Rows), vI (e57.Cols), vS (e57.Cells)]) rfl rfl (k := 1) rfl rfl Try.sizeOf27 rfl rfl rfl fun w68 hM => ?_)
        dsimp only [List.set] at hM
        refine q_ hf rfl rfl rfl (e_assign hf rfl) fun a hf => ?_
        refine pl_nil ?_
        refine then_n ?_
        refine wp_ret ?_
        obtain rfl := some_inj h
        have hres71 := leaveV2 (P := Try.prog) Try.results37 (res_agg hf rfl ⟨Try.isAgg27, Try.sizeOf27⟩ (us := [vI (e57.Rows), vI (e57.Cols), vS (e57.Cells)]) rfl (hM.boxSub (k := 1) (o := 0) rfl rfl)) (res_tmp hf rfl)
        have hM := hM.outs (own' := []) 0 rfl
        exact bodyPost_ret hres71 hf.defers ⟨rfl, hM.fin, hv65, hv66, hv67, (R64_lit rfl)⟩

def q1Count (s : Int × Bool) : Obj := .cells [vI (bif s.2 then 5 else 0)].toArray 2 (0, 0)
def q2Count (s : Int × Bool) : Obj := .cells [vI s.1].toArray 2 (0, 0)
def q3Count (rec : Loop) (s : Int × Bool) : Obj := .loop (bif s.2 then { rec with state := .done, pending := some .ret } else rec)
def q4Count (_ : Int × Bool) : Obj := .cells [vI 0].toArray 2 (0, 0)

set_option maxRecDepth 100000 in
set_option maxHeartbeats 4000000 in
theorem r_impl_CountFillings (C : Cx) (g : Grid) (h1 : R64 g.Rows) (h2 : R64 g.Cols) (h3 : g.Cells.length ≤ maxLen) (l : Lexicon) (A : Option Addr) (c : Nat) (hl : (sliceRep strRep).R C.w0 C.S0 l.Words [vL A l.Words c]) (r : Int × Int) (h : m_impl_CountFillings g l = some r) :
    Calls Try.prog 36 #[.agg #[vI g.Rows, vI g.Cols, vS g.Cells], .agg #[vL A l.Words c]] C.w0 fun e w => e = .returned (.tuple #[vI r.1, vI r.2]) ∧ Mem C w [] [] ∧ R64 r.1 ∧ R64 r.2 := by
  unfold m_impl_CountFillings at h
  obtain ⟨y1, hy1, h⟩ := bind_some h
  have hM := Mem.begin C [.dat (sliceRep strRep) l.Words [vL A l.Words c]] ⟨hl, trivial⟩
  refine enterM Try.func36 rfl Try.ntmps36 rfl fun a hf => ?_
  refine wpIn_seq ?_
  refine wpIn_wide.2 ?_
  refine region_pl ?_
  refine pl_l hf rfl rfl rfl (w_box hf hM (cs := [vI g.Rows, vI g.Cols, vS g.Cells]) rfl rfl fun b2 w1 hx1 hM a hf => ?_)
  refine pl_l hf rfl rfl rfl (w_box hf hM (cs := [vL A l.Words c]) rfl rfl fun b3 w2 hx2 hM a hf => ?_)
  refine pl_l hf rfl rfl rfl (w_alloc hM (cs := [vI 0]) Try.zeroValue2 rfl fun b4 w3 hx3 hM a hf => ?_)
  refine pl_l hf rfl rfl rfl (w_alloc hM (cs := [vI 0]) Try.zeroValue2 rfl fun b5 w4 hx4 hM a hf => ?_)
  refine pl_nil ?_
  refine then_n ?_
  refine wpIn_seq ?_
  refine wpIn_seq ?_
  refine wpIn_wide.2 ?_
  refine region_pl ?_
  refine q_ hf rfl rfl rfl (e_loadA hf (us := [vI g.Rows, vI g.Cols, vS g.Cells]) rfl ⟨Try.isAgg27, Try.sizeOf27⟩ rfl (hM.boxSub (k := 3) (us := [vI g.Rows, vI g.Cols, vS g.Cells]) (o := 0) rfl rfl)) fun a hf => ?_
  refine pl_l hf rfl rfl rfl (w_call hf Try.call46 rfl (r_impl_ValidGrid ⟨_, Sh C _ _, none_, hM.sh_lt, none_not, C.G, hM.g_lt, g_none, hM.tabs⟩ g h1 h2 h3 _ hy1) ?_)
  rintro _ w5 ⟨rfl, hM2⟩
  obtain ⟨hM, hx5, hup5⟩ := hM.back hM2
  dsimp only [List.cons_append, List.nil_append] at hM hup5
  clear hM2
  refine ⟨_, rfl, fun a hf => ?_⟩
  refine q_ hf rfl rfl rfl (e_not hf rfl) fun a hf => ?_
  refine q_ hf rfl rfl rfl (e_move hf rfl) fun a hf => ?_
  cases y1 with
  | false =>
    rw [Bool.not_false, cond_true] at h
    refine pl_gs (wanted_f hf rfl rfl rfl rfl rfl) hf rfl rfl fun a hf => ?_
    refine pl_gs (wanted_f hf rfl rfl rfl rfl rfl) hf rfl rfl fun a hf => ?_
    refine pl_gs (wanted_f hf rfl rfl rfl rfl rfl) hf rfl rfl fun a hf => ?_
    refine q_ hf rfl rfl rfl (e_pick_t hf rfl rfl rfl) fun a hf => ?_
    refine pl_nil ?_
    refine then_n ?_
    refine wpIn_cond_true (hf.ev rfl) ?_
    refine wpIn_seq ?_
    refine wpIn_wide.2 ?_
    refine region_pl ?_
    refine pl_0 hf rfl rfl (w_store hf hM (us := [vI 0]) (cs' := [vI 0]) rfl rfl (k := 1) rfl rfl Try.sizeOf2 rfl rfl rfl fun w7 hM => ?_)
    dsimp only [List.set] at hM
    refine pl_0 hf rfl rfl (w_store hf hM (us := [vI 1]) (cs' := [vI 1]) rfl rfl (k := 0) rfl rfl Try.sizeOf2 rfl rfl rfl fun w8 hM => ?_)
    dsimp only [List.set] at hM
    refine pl_nil ?_
    refine then_n ?_
    refine wpIn_ret ?_
    refine then_r ?_
    obtain rfl := some_inj h
    have hres := leaveV2 (P := Try.prog) Try.results36 (res_one hf rfl Try.isAgg2 (hM.boxCell (k := 1) (o := 0) rfl rfl)) (res_one hf rfl Try.isAgg2 (hM.boxCell (k := 0) (o := 0) rfl rfl))
    exact leaveM0 hf.defers hres ⟨rfl, (hM.outs (own' := []) 0 rfl).fin, R64_lit rfl, R64_lit rfl⟩
  | true =>
  rw [Bool.not_true, cond_false] at h
  obtain ⟨y2, hy2, h⟩ := bind_some h
  refine gq (wanted_t hf rfl rfl rfl rfl rfl) hf rfl rfl (e_loadA hf (us := [vL A l.Words c]) rfl ⟨Try.isAgg45, Try.sizeOf45⟩ rfl (hM.boxSub (k := 2) (us := [vL A l.Words c]) (o := 0) rfl rfl)) fun a hf => ?_
  refine pl_gl (wanted_t hf rfl rfl rfl rfl rfl) hf rfl rfl (w_call hf Try.call67 rfl (r_impl_ValidLexicon ⟨_, Sh C _ _, none_, hM.sh_lt, none_not, C.G, hM.g_lt, g_none, hM.tabs⟩ l _ _ (hM.dat (k := 0) rfl) _ hy2) ?_)
  rintro _ w6 ⟨rfl, hM2⟩
  obtain ⟨hM, hx6, hup6⟩ := hM.back hM2
  dsimp only [List.cons_append, List.nil_append] at hM hup6
  clear hM2
  refine ⟨_, rfl, fun a hf => ?_⟩
  refine gq (wanted_t hf rfl rfl rfl rfl rfl) hf rfl rfl (e_not hf rfl) fun a hf => ?_
  refine q_ hf rfl rfl rfl (e_pick_f hf rfl rfl rfl) fun a hf => ?_
  cases y2 with
  | false =>
    rw [Bool.not_false, cond_true] at h
    refine pl_nil ?_
    refine then_n ?_
    refine wpIn_cond_true (hf.ev rfl) ?_
    refine wpIn_seq ?_
    refine wpIn_wide.2 ?_
    refine region_pl ?_
    refine pl_0 hf rfl rfl (w_store hf hM (us := [vI 0]) (cs' := [vI 0]) rfl rfl (k := 1) rfl rfl Try.sizeOf2 rfl rfl rfl fun w7 hM => ?_)
    dsimp only [List.set] at hM
    refine pl_0 hf rfl rfl (w_store hf hM (us := [vI 1]) (cs' := [vI 1]) rfl rfl (k := 0) rfl rfl Try.sizeOf2 rfl rfl rfl fun w8 hM => ?_)
    dsimp only [List.set] at hM
    refine pl_nil ?_
    refine then_n ?_
    refine wpIn_ret ?_
    refine then_r ?_
    obtain rfl := some_inj h
    have hres := leaveV2 (P := Try.prog) Try.results36 (res_one hf rfl Try.isAgg2 (hM.boxCell (k := 1) (o := 0) rfl rfl)) (res_one hf rfl Try.isAgg2 (hM.boxCell (k := 0) (o := 0) rfl rfl))
    exact leaveM0 hf.defers hres ⟨rfl, (hM.outs (own' := []) 0 rfl).fin, R64_lit rfl, R64_lit rfl⟩
  | true =>
  rw [Bool.not_true, cond_false] at h
  obtain ⟨sl, hsl, h⟩ := bind_some h
  obtain ⟨s, hs, h⟩ := bind_some h
  refine pl_nil ?_
  refine then_n ?_
  refine wpIn_cond_false (hf.ev rfl) ?_
  refine wpIn_skip ?_
  refine then_n ?_
  refine wpIn_seq ?_
  refine wpIn_wide.2 ?_
  refine region_pl ?_
  refine pl_l hf rfl rfl rfl (w_alloc hM (cs := [vI 0]) Try.zeroValue2 rfl fun b6 w7 hx7 hM a hf => ?_)
  refine pl_0 hf rfl rfl (w_store hf hM (us := [vI 0]) (cs' := [vI 0]) rfl rfl (k := 0) rfl rfl Try.sizeOf2 rfl rfl rfl fun w8 hM => ?_)
  dsimp only [List.set] at hM
  refine pl_nil ?_
  refine then_n ?_
  refine wpIn_seq ?_
  refine wpIn_seq ?_
  refine wpIn_wide.2 ?_
  refine region_pl ?_
  refine q_ hf rfl rfl rfl (e_loadA hf (us := [vI g.Rows, vI g.Cols, vS g.Cells]) rfl ⟨Try.isAgg27, Try.sizeOf27⟩ rfl (hM.boxSub (k := 4) (us := [vI g.Rows, vI g.Cols, vS g.Cells]) (o := 0) rfl rfl)) fun a hf => ?_
  refine q_ hf rfl rfl rfl (e_loadA hf (us := [vL A l.Words c]) rfl ⟨Try.isAgg45, Try.sizeOf45⟩ rfl (hM.boxSub (k := 3) (us := [vL A l.Words c]) (o := 0) rfl rfl)) fun a hf => ?_
  refine pl_l hf rfl rfl rfl (w_call hf Try.call73 rfl (r_fillings ⟨_, Sh C _ _, none_, hM.sh_lt, none_not, C.G, hM.g_lt, g_none, hM.tabs⟩ g h1 h2 h3 l A c (hM.dat (k := 0) rfl) _ hsl) ?_)
  rintro _ w9 ⟨c1, c2, c3, A1, k1, rfl, hM2, hv1, hv2⟩
  obtain ⟨hM, hx9, hup9⟩ := hM.back hM2
  dsimp only [List.cons_append, List.nil_append] at hM hup9
  clear hM2
  have hM := hM.add (y := .dat (sliceRep SlotRep) sl [vL A1 sl k1]) (hup9 hv1)
  have hM := hM.add (y := .dat (sliceRep strRep) l.Words [vL A l.Words c]) (hup9 hv2)
  refine ⟨_, rfl, fun a hf => ?_⟩
  refine pl_nil ?_
  refine then_n ?_
  have hM := hM.freezeBox (k := 0) rfl rfl
  dsimp only [List.eraseIdx] at hM
  have hM := hM.freezeBox (k := 0) rfl rfl
  dsimp only [List.eraseIdx] at hM
  have hM := hM.freezeBox (k := 0) rfl rfl
  dsimp only [List.eraseIdx] at hM
  refine wpIn_block ?_
  refine range_enter hM (hf.ev rfl) Try.call98 (lb := #[vP c1 0, vP c2 0, vP c3 0]) ?_
  intro fn w10 rec hrec hM
  -- own: loop, D, b6, b5, b4, b3, b2
  have hM := hM.toObj (k := 2) rfl
  dsimp only [List.set] at hM
  have hM := hM.toObj (k := 3) rfl
  dsimp only [List.set] at hM
  have hM := hM.toObj (k := 4) rfl
  dsimp only [List.set] at hM
  have hM := hM.front (k := 4) rfl
  dsimp only [List.eraseIdx] at hM
  have hM := hM.front (k := 1) rfl
  dsimp only [List.eraseIdx] at hM
  have hM := hM.front (k := 3) rfl
  dsimp only [List.eraseIdx] at hM
  have hM := hM.front (k := 4) rfl
  dsimp only [List.eraseIdx] at hM
  -- b5, b6, loop, b4, D, ..
  have hM : Mem C _ ([.obj b5 (q1Count (0, false)), .obj b6 (q2Count (0, false)), .obj (w9.heap.size + 1) (q3Count rec (0, false)), .obj b4 (q4Count (0, false))] ++ [.obj w9.heap.size (.deferred (some [])), .box b3 [vL A l.Words c] 45, .box b2 [vI g.Rows, vI g.Cols, vS g.Cells] 27]) _ := hM
  have hY : YOk Try.prog (w9.heap.size + 1) b5 b6 (w9.heap.size + 1) b4 q1Count q2Count (q3Count rec) q4Count yvCount := by
    clear hM
    rintro C' x x1 x2 x3 ⟨n, fl⟩ hO hd' r' hr
    unfold yvCount at hr
    cases fl with
    | true => cases hr
    | false =>
      rw [cond_false] at hr
      obtain ⟨z, hz, hr⟩ := bind_some hr
      have hr := some_inj hr
      have hl : C'.w0.heap[w9.heap.size + 1]? = some (.loop rec) := hO.ownAt (k := 2) rfl
      have hfr := round_has hf (t := 18) rfl (.agg #[vI x.Rows, vI x.Cols, vS x.Cells])
      refine ⟨_, _, _, _, run_yield hl (by rw [hrec]; rfl), roundIn_of_wpIn trivial ?_⟩
      have hst : rec.state = .ready := by rw [hrec]
      rw [congrArg Loop.assign hrec, congrArg Loop.body hrec, congrArg Loop.tmps hrec, congrArg Loop.params hrec]
      have hM := hO.toBox (k := 0) (cs := [vI 0]) rfl
      dsimp only [List.set] at hM
      have hM := hM.toBox (k := 1) (cs := [vI n]) rfl
      dsimp only [List.set] at hM
      have hM := hM.toBox (k := 3) (cs := [vI 0]) rfl
      dsimp only [List.set] at hM
      refine wpIn_skip ?_
      refine then_n ?_
      refine ⟨_, run_beginRound (hM.ownAt (k := 2) rfl) hst, ?_⟩
      have hM := hM.putObj (k := 2) rfl (.loop { rec with state := .busy })
      dsimp only [List.set] at hM
      refine wpIn_block ?_
      refine wpIn_seq ?_
      refine region_plI (fall_round _) ?_
      refine pD_q (fall_round _) hfr rfl rfl rfl rfl (Ext.refl _) (e_load1 hfr.1 rfl Try.isAgg2 (hM.boxCell (k := 1) (o := 0) rfl rfl)) fun a hf => ?_
      refine pD_q (fall_round _) hf rfl rfl rfl rfl (Ext.refl _) (e_add hf.1 rfl rfl hz) fun a hf => ?_
      refine pD_0 hf rfl rfl (i_store (fall_round _) hf hM (us := [vI z]) (cs' := [vI z]) rfl rfl (k := 1) rfl rfl Try.sizeOf2 rfl rfl rfl fun w11 hM a hf => ?_)
      dsimp only [List.set] at hM
      refine pD_nil ?_
      refine then_n ?_
      refine wpIn_seq ?_
      refine region_plI (fall_round _) ?_
      refine pD_q (fall_round _) hf rfl rfl rfl rfl (Ext.refl _) (e_load1 hf.1 rfl Try.isAgg2 (hM.boxCell (k := 1) (o := 0) rfl rfl)) fun a hf => ?_
      refine pD_q (fall_round _) hf rfl rfl rfl rfl (Ext.refl _) (e_gt hf.1 (x := z) (y := 500) rfl rfl) fun a hf => ?_
      refine pD_nil ?_
      refine then_n ?_
      cases hgt : decide ((500 : Int) < z) with
      | true =>
        rw [hgt, cond_true] at hr
        subst hr
        refine wpIn_cond_true (by rw [hf.ev rfl, hgt]) ?_
        refine wpIn_seq ?_
        refine region_plI (fall_round _) ?_
        refine pD_0 hf rfl rfl (i_store (fall_round _) hf hM (us := [vI 0]) (cs' := [vI 0]) rfl rfl (k := 3) rfl rfl Try.sizeOf2 rfl rfl rfl fun w12 hM a hf => ?_)
        dsimp only [List.set] at hM
        refine pD_0 hf rfl rfl (i_store (fall_round _) hf hM (us := [vI 5]) (cs' := [vI 5]) rfl rfl (k := 0) rfl rfl Try.sizeOf2 rfl rfl rfl fun w13 hM a hf => ?_)
        dsimp only [List.set] at hM
        refine pD_nil ?_
        refine then_n ?_
        refine wpIn_ret ?_
        refine blk_r ?_
        refine ⟨_, _, run_endRound (r := { rec with state := .busy }) (some .ret) (hM.ownAt (k := 2) rfl), rfl, ?_⟩
        have hM := hM.putObj (k := 2) rfl (.loop { rec with state := .done, pending := some .ret })
        dsimp only [List.set] at hM
        have hM := hM.toObj (k := 0) rfl
        dsimp only [List.set] at hM
        have hM := hM.toObj (k := 1) rfl
        dsimp only [List.set] at hM
        have hM := hM.toObj (k := 3) rfl
        dsimp only [List.set] at hM
        exact hM
      | false =>
        rw [hgt, cond_false] at hr
        subst hr
        refine wpIn_cond_false (by rw [hf.ev rfl, hgt]) ?_
        refine wpIn_skip ?_
        refine blk_n ?_
        refine ⟨_, _, run_endRound (r := { rec with state := .busy }) none (hM.ownAt (k := 2) rfl), rfl, ?_⟩
        have hpe : rec.pending = none := by rw [hrec]
        have hM := hM.putObj (k := 2) rfl (.loop { rec with state := .ready, pending := none })
        dsimp only [List.set] at hM
        have hM := hM.toObj (k := 0) rfl
        dsimp only [List.set] at hM
        have hM := hM.toObj (k := 1) rfl
        dsimp only [List.set] at hM
        have hM := hM.toObj (k := 3) rfl
        dsimp only [List.set] at hM
        have e : { rec with state := .ready, pending := none } = rec := by rw [← hst, ← hpe]
        rw [e] at hM
        have e2 : ({ { rec with state := LoopState.busy } with state := if (none : Option Code).isNone then LoopState.ready else LoopState.done, pending := none } : Loop) = rec := e
        rw [e2]
        exact hM
  refine (r_impl_Grid_fillings_1 ⟨_, Sh C _ _, ownB _, hM.sh_lt, sub_dis, C.G, hM.g_lt, hM.g_own, hM.tabs⟩ sl _ _ (hM.litPtr (k := 2) (d := 0) (us := [vL A1 sl k1]) rfl rfl rfl (hM.dat (k := 4) rfl)) l _ _ (hM.litPtr (k := 1) (d := 0) (us := [vL A l.Words c]) rfl rfl rfl (LexiconRep_mk (x := l) (hM.dat (k := 3) rfl))) g _ _ (hM.litPtr (k := 0) (d := 0) (us := [vI g.Rows, vI g.Cols, vS g.Cells]) rfl rfl rfl (GridRep_mk (x := g) h1 h2 h3)) yvCount _ _ _ _ _ _ _ _ _ hY (0, false) hM.sub sub_dis s hs).mono ?_
  rintro _ w11 ⟨rfl, hM2⟩
  obtain ⟨hM, hup11⟩ := hM.backG hM2
  dsimp only [List.cons_append, List.nil_append] at hM hup11
  clear hM2 hup11
  have hst : rec.state = .ready := by rw [hrec]
  have hpe : rec.pending = none := by rw [hrec]
  obtain ⟨n, fl⟩ := s
  cases fl with
  | false =>
    simp only [cond_false] at h
    obtain ⟨z, hz, hr⟩ := bind_some h
    clear h
    obtain ⟨rfl, hzr⟩ := chk_some hz
    obtain rfl := some_inj hr
    refine ⟨_, _, run_endLoop (r := rec) (hM.ownAt (k := 2) rfl) (by rw [hst]; decide), ?_⟩
    have hM := hM.putObj (k := 2) rfl (.loop { rec with state := .exhausted })
    dsimp only [List.set] at hM
    generalize w11.putObj (w9.heap.size + 1) (.loop { rec with state := .exhausted }) = w12 at hM ⊢
    rw [hpe]
    refine blk_n ?_
    refine then_n ?_
    have hM := hM.toBox (k := 0) (cs := [vI 0]) rfl
    dsimp only [List.set] at hM
    have hM := hM.toBox (k := 1) (cs := [vI z]) rfl
    dsimp only [List.set] at hM
    have hM := hM.toBox (k := 3) (cs := [vI 0]) rfl
    dsimp only [List.set] at hM
    have hfD := hf.toDs { target := .collected w9.heap.size, args := #[] }
    refine wpIn_seq ?_
    refine region_plI fall_wide ?_
    refine pD_q fall_wide hfD rfl rfl rfl rfl (Ext.refl _) (e_load1 hfD.1 rfl Try.isAgg2 (hM.boxCell (k := 1) (o := 0) rfl rfl)) fun a hf => ?_
    refine pD_0 hf rfl rfl (i_store fall_wide hf hM (us := [vI z]) (cs' := [vI z]) rfl rfl (k := 3) rfl rfl Try.sizeOf2 rfl rfl rfl fun w13 hM a hf => ?_)
    dsimp only [List.set] at hM
    refine pD_0 hf rfl rfl (i_store fall_wide hf hM (us := [vI 0]) (cs' := [vI 0]) rfl rfl (k := 0) rfl rfl Try.sizeOf2 rfl rfl rfl fun w14 hM a hf => ?_)
    dsimp only [List.set] at hM
    refine pD_nil ?_
    refine then_n ?_
    refine wpIn_ret ?_
    have hK := hM.ownAt (k := 4) rfl
    have hM := hM.putObj (k := 4) rfl (.deferred none)
    dsimp only [List.set] at hM
    have hres := leaveV2 (P := Try.prog) Try.results36 (res_one hf.1 rfl Try.isAgg2 (hM.boxCell (k := 3) (o := 0) rfl rfl)) (res_one hf.1 rfl Try.isAgg2 (hM.boxCell (k := 0) (o := 0) rfl rfl))
    refine leaveM hf.2 hK hres ?_
    exact ⟨rfl, (hM.outs (own' := []) 0 rfl).fin, hzr, R64_lit rfl⟩
  | true =>
    obtain rfl := some_inj h
    refine ⟨_, _, run_endLoop (r := { rec with state := .done, pending := some .ret }) (hM.ownAt (k := 2) rfl) (by intro h; cases h), ?_⟩
    have hM := hM.putObj (k := 2) rfl (.loop { { rec with state := .done, pending := some .ret } with state := .exhausted })
    dsimp only [List.set] at hM
    generalize w11.putObj (w9.heap.size + 1) (.loop { { rec with state := .done, pending := some .ret } with state := .exhausted }) = w12 at hM ⊢
    have hM := hM.toBox (k := 0) (cs := [vI 5]) rfl
    dsimp only [List.set] at hM
    have hM := hM.toBox (k := 3) (cs := [vI 0]) rfl
    dsimp only [List.set] at hM
    have hfD := hf.toDs { target := .collected w9.heap.size, args := #[] }
    refine wpIn_ret ?_
    refine blk_r ?_
    refine then_r ?_
    have hK := hM.ownAt (k := 4) rfl
    have hM := hM.putObj (k := 4) rfl (.deferred none)
    dsimp only [List.set] at hM
    have hres := leaveV2 (P := Try.prog) Try.results36 (res_one hfD.1 rfl Try.isAgg2 (hM.boxCell (k := 3) (o := 0) rfl rfl)) (res_one hfD.1 rfl Try.isAgg2 (hM.boxCell (k := 0) (o := 0) rfl rfl))
    refine leaveM hfD.2 hK hres ?_
    exact ⟨rfl, (hM.outs (own' := []) 0 rfl).fin, R64_lit rfl, R64_lit rfl⟩

set_option maxRecDepth 100000 in
set_option maxHeartbeats 4000000 in
theorem r_spec_CountFillings (C : Cx) (g1 : Grid) (hp2 : R64 g1.Rows) (hp3 : R64 g1.Cols) (hp4 : g1.Cells.length ≤ maxLen) (l5 : Lexicon) (A6 : Option Addr) (c7 : Nat) (hp8 : (sliceRep strRep).R C.w0 C.S0 l5.Words [vL A6 l5.Words c7]) (r : (Int × Int)) (h : m_spec_CountFillings g1 l5 = some r) :
    Calls Try.prog 35 #[.agg #[vI (g1.Rows), vI (g1.Cols), vS (g1.Cells)], .agg #[vL A6 (l5.Words) c7]] C.w0 fun e w => e = .returned (.tuple #[vI (r.1), vI (r.2)]) ∧ Mem C w [] [] ∧ R64 r.1 ∧ R64 r.2 := by
  have hM := Mem.begin C [.dat (sliceRep strRep) l5.Words [vL A6 l5.Words c7]] ⟨hp8, trivial⟩
  refine enter Try.func35 rfl Try.ntmps35 rfl fun a hf => ?_
  unfold m_spec_CountFillings at h
  refine wp_seq ?_
  refine region_pl ?_
  refine pl_l hf rfl rfl rfl (w_box hf hM (cs := [vI (g1.Rows), vI (g1.Cols), vS (g1.Cells)]) rfl rfl fun b9 w10 hx11 hM a hf => ?_)
  refine pl_l hf rfl rfl rfl (w_box hf hM (cs := [vL A6 (l5.Words) c7]) rfl rfl fun b13 w14 hx15 hM a hf => ?_)
  refine q_ hf rfl rfl rfl (e_assign hf rfl) fun a hf => ?_
  refine q_ hf rfl rfl rfl (e_assign hf rfl) fun a hf => ?_
  refine pl_nil ?_
  refine then_n ?_
  refine wp_seq ?_
  obtain ⟨x19, h20, h⟩ := bind_some h
  refine seq_join (fun a w => ∃ (t17 : Bool), t17 = x19 ∧ Has 20 a [(2, vP b9 (0)), (3, vP b13 (0)), (12, .bool (t17))] ∧ Mem C w [.box b13 [vL A6 (l5.Words) c7] 45, .box b9 [vI (g1.Rows), vI (g1.Cols), vS (g1.Cells)] 27] [.dat (sliceRep strRep) l5.Words [vL A6 l5.Words c7]]) ?_ ?_
  · refine region_pl ?_
    obtain ⟨y21, hz22, h20⟩ := bind_some h20
    refine pl_l hf rfl rfl rfl (w_call hf Try.call54 rfl (r_spec_l25Ok ⟨_, All C _ _, none_, hM.all_lt, none_not, C.G, hM.g_lt, g_none, hM.tabs⟩ g1 _ _ (hM.lendBox (k := 1) rfl (GridRep_mk (x := g1) hp2 hp3 hp4)) _ hz22) ?_)
    rintro _ w23 ⟨rfl, hM2⟩
    obtain ⟨hM, hx24⟩ := hM.backA hM2
    clear hM2
    refine ⟨_, rfl, fun a hf => ?_⟩
    refine q_ hf rfl rfl rfl (e_not hf rfl) fun a hf => ?_
    refine q_ hf rfl rfl rfl (e_move hf rfl) fun a hf => ?_
    rcases cond_some h20 with ⟨hc26, h20⟩ | ⟨hc26, h20⟩
    · refine pl_gs (wanted_f hf rfl rfl rfl rfl hc26) hf rfl rfl fun a hf => ?_
      refine pl_gs (wanted_f hf rfl rfl rfl rfl hc26) hf rfl rfl fun a hf => ?_
      refine q_ hf rfl rfl rfl (e_pick_t hf rfl hc26 rfl) fun a hf => ?_
      refine pl_nil ?_
      obtain rfl := some_inj h20
      refine then_n ?_
      exact ⟨true, rfl, hf.keep ⟨rfl, rfl, rfl, trivial⟩, hM.pick [0] rfl⟩
    · obtain ⟨y28, hz29, h20⟩ := bind_some h20
      refine pl_gl (wanted_t hf rfl rfl rfl rfl hc26) hf rfl rfl (w_call hf Try.call64 rfl (r_spec_l05Ok ⟨_, All C _ _, none_, hM.all_lt, none_not, C.G, hM.g_lt, g_none, hM.tabs⟩ l5 _ _ (hM.lendBox (k := 0) rfl (LexiconRep_mk (x := l5) (hM.lendDat (k := 0) rfl))) _ hz29) ?_)
      rintro _ w30 ⟨rfl, hM2⟩
      obtain ⟨hM, hx31⟩ := hM.backA hM2
      clear hM2
      refine ⟨_, rfl, fun a hf => ?_⟩
      refine gq (wanted_t hf rfl rfl rfl rfl hc26) hf rfl rfl (e_not hf rfl) fun a hf => ?_
      refine q_ hf rfl rfl rfl (e_pick_f hf rfl hc26 rfl) fun a hf => ?_
      refine pl_nil ?_
      obtain rfl := some_inj h20
      refine then_n ?_
      exact ⟨(!y28), rfl, hf.keep ⟨rfl, rfl, rfl, trivial⟩, hM.pick [0] rfl⟩
  · rintro a w34 ⟨t17, rfl, hf, hM⟩
    try dsimp only at h
    rcases cond_some h with ⟨hc35, h⟩ | ⟨hc35, h⟩
    · refine cond_t hf rfl hc35 ?_
      refine wp_seq ?_
      refine region_pl ?_
      refine q_ hf rfl rfl rfl (e_assign hf rfl) fun a hf => ?_
      refine q_ hf rfl rfl rfl (e_assign hf rfl) fun a hf => ?_
      refine pl_nil ?_
      refine then_n ?_
      refine wp_ret ?_
      refine then_r ?_
      obtain rfl := some_inj h
      have hM := hM.outs (own' := []) 0 rfl
      exact leave2 hf rfl rfl rfl ⟨rfl, hM.fin, (R64_lit rfl), (R64_lit rfl)⟩
    · refine cond_f hf rfl hc35 ?_
      refine wp_skip ?_
      refine then_n ?_
      refine wp_seq ?_
      refine region_pl ?_
      refine q_ hf rfl rfl rfl (e_field hf rfl Try.underlying45 rfl Try.sizeOf40 (o' := 0) rfl) fun a hf => ?_
      refine q_ hf rfl rfl rfl (e_load1 hf rfl Try.isAgg40 (hM.boxCell (k := 0) rfl rfl)) fun a hf => ?_
      obtain ⟨y36, hz37, h⟩ := bind_some h
      refine pl_l hf rfl rfl rfl (w_call hf Try.call72 rfl (r_spec_l25Fill ⟨_, All C _ _, none_, hM.all_lt, none_not, C.G, hM.g_lt, g_none, hM.tabs⟩ g1 _ _ (hM.lendBox (k := 1) rfl (GridRep_mk (x := g1) hp2 hp3 hp4)) l5.Words _ _ (hM.lendDat (k := 0) rfl) 501 (R64_lit rfl) _ hz37) ?_)
      rintro _ w40 ⟨A38, c39, rfl, hM2⟩
      obtain ⟨hM, hx41⟩ := hM.backAF GridRep_flat hM2
      clear hM2
      refine ⟨_, rfl, fun a hf => ?_⟩
      have hl43 := row_len (hM.ownAt (k := 0) rfl)
      refine q_ hf rfl rfl rfl (e_lenL hf (x := y36) rfl Try.underlying94) fun a hf => ?_
      refine q_ hf rfl rfl rfl (e_assign hf rfl) fun a hf => ?_
      refine pl_nil ?_
      refine then_n ?_
      refine wp_seq ?_
      refine wp_seq ?_
      refine region_pl ?_
      refine q_ hf rfl rfl rfl (e_move hf rfl) fun a hf => ?_
      refine q_ hf rfl rfl rfl (e_gt hf (x := (y36.length : Int)) (y := 500) rfl rfl) fun a hf => ?_
      refine pl_nil ?_
      refine then_n ?_
      rcases cond_some h with ⟨hc44, h⟩ | ⟨hc44, h⟩
      · refine cond_t hf rfl hc44 ?_
        refine wp_seq ?_
        refine region_pl ?_
        refine q_ hf rfl rfl rfl (e_assign hf rfl) fun a hf => ?_
        refine q_ hf rfl rfl rfl (e_assign hf rfl) fun a hf => ?_
        refine pl_nil ?_
        refine then_n ?_
        refine wp_ret ?_
        refine then_r ?_
        obtain rfl := some_inj h
        have hM := hM.outs (own' := []) 0 rfl
        exact leave2 hf rfl rfl rfl ⟨rfl, hM.fin, (R64_lit rfl), (R64_lit rfl)⟩
      · refine cond_f hf rfl hc44 ?_
        refine wp_skip ?_
        refine then_n ?_
        refine wp_seq ?_
        refine region_pl ?_
        refine q_ hf rfl rfl rfl (e_move hf rfl) fun a hf => ?_
        refine q_ hf rfl rfl rfl (e_assign hf rfl) fun a hf => ?_
        refine q_ hf rfl rfl rfl (e_assign hf rfl) fun a hf => ?_
        refine pl_nil ?_
        refine then_n ?_
        refine wp_ret ?_
        obtain rfl := some_inj h
        have hM := hM.outs (own' := []) 0 rfl
        exact leave2 hf rfl rfl rfl ⟨rfl, hM.fin, (R64_len hl43), (R64_lit rfl)⟩

set_option maxRecDepth 100000 in
set_option maxHeartbeats 4000000 in
theorem r_spec_ValidGrid (C : Cx) (g1 : Grid) (hp2 : R64 g1.Rows) (hp3 : R64 g1.Cols) (hp4 : g1.Cells.length ≤ maxLen) (r : Bool) (h : m_spec_ValidGrid g1 = some r) :
    Calls Try.prog 47 #[.agg #[vI (g1.Rows), vI (g1.Cols), vS (g1.Cells)]] C.w0 fun e w => e = .returned (.bool (r)) ∧ Mem C w [] [] := by
  have hM := Mem.begin C [] trivial
  refine enter Try.func47 rfl Try.ntmps47 rfl fun a hf => ?_
  unfold m_spec_ValidGrid at h
  refine wp_seq ?_
  refine region_pl ?_
  refine pl_l hf rfl rfl rfl (w_box hf hM (cs := [vI (g1.Rows), vI (g1.Cols), vS (g1.Cells)]) rfl rfl fun b5 w6 hx7 hM a hf => ?_)
  refine q_ hf rfl rfl rfl (e_assign hf rfl) fun a hf => ?_
  refine pl_nil ?_
  refine then_n ?_
  refine wp_seq ?_
  refine region_pl ?_
  obtain ⟨y9, hz10, h⟩ := bind_some h
  refine pl_l hf rfl rfl rfl (w_call hf Try.call54 rfl (r_spec_l25Ok ⟨_, All C _ _, none_, hM.all_lt, none_not, C.G, hM.g_lt, g_none, hM.tabs⟩ g1 _ _ (hM.lendBox (k := 0) rfl (GridRep_mk (x := g1) hp2 hp3 hp4)) _ hz10) ?_)
  rintro _ w11 ⟨rfl, hM2⟩
  obtain ⟨hM, hx12⟩ := hM.backA hM2
  clear hM2
  refine ⟨_, rfl, fun a hf => ?_⟩
  refine q_ hf rfl rfl rfl (e_assign hf rfl) fun a hf => ?_
  refine pl_nil ?_
  refine then_n ?_
  refine wp_ret ?_
  obtain rfl := some_inj h
  have hM := hM.outs (own' := []) 0 rfl
  exact leave1 hf rfl rfl ⟨rfl, hM.fin⟩

set_option maxRecDepth 100000 in
set_option maxHeartbeats 4000000 in
theorem r_cmp_isNaN_string (C : Cx) (x1 : Str) (hp2 : x1.length ≤ maxLen) (r : Bool) (h : m_cmp_isNaN_string x1 = some r) :
    Calls Try.prog 125 #[vS (x1)] C.w0 fun e w => e = .returned (.bool (r)) ∧ Mem C w [] [] := by
  have hM := Mem.begin C [] trivial
  refine enter Try.func125 rfl Try.ntmps125 rfl fun a hf => ?_
  unfold m_cmp_isNaN_string at h
  refine wp_seq ?_
  refine region_pl ?_
  refine q_ hf rfl rfl rfl (e_assign hf rfl) fun a hf => ?_
  refine pl_nil ?_
  refine then_n ?_
  refine wp_seq ?_
  refine region_pl ?_
  refine q_ hf rfl rfl rfl (e_move hf rfl) fun a hf => ?_
  refine q_ hf rfl rfl rfl (e_move hf rfl) fun a hf => ?_
  refine q_ hf rfl rfl rfl (e_neS hf (x := x1) (y := x1) rfl rfl) fun a hf => ?_
  refine q_ hf rfl rfl rfl (e_assign hf rfl) fun a hf => ?_
  refine pl_nil ?_
  refine then_n ?_
  refine wp_ret ?_
  obtain rfl := some_inj h
  exact leave1 hf rfl rfl ⟨rfl, hM.fin⟩

set_option maxRecDepth 100000 in
set_option maxHeartbeats 4000000 in
theorem r_cmp_Less_string (C : Cx) (x1 : Str) (hp2 : x1.length ≤ maxLen) (y3 : Str) (hp4 : y3.length ≤ maxLen) (r : Bool) (h : m_cmp_Less_string x1 y3 = some r) :
    Calls Try.prog 109 #[vS (x1), vS (y3)] C.w0 fun e w => e = .returned (.bool (r)) ∧ Mem C w [] [] := by
  have hM := Mem.begin C [] trivial
  refine enter Try.func109 rfl Try.ntmps109 rfl fun a hf => ?_
  unfold m_cmp_Less_string at h
  refine wp_seq ?_
  refine region_pl ?_
  refine q_ hf rfl rfl rfl (e_assign hf rfl) fun a hf => ?_
  refine pl_nil ?_
  refine then_n ?_
  obtain ⟨x7, h8, h⟩ := bind_some h
  refine seq_join (fun a w => ∃ (t5 : Bool), t5 = x7 ∧ Has 17 a [(4, .bool (t5))] ∧ Mem C w [] []) ?_ ?_
  · refine region_pl ?_
    refine q_ hf rfl rfl rfl (e_move hf rfl) fun a hf => ?_
    obtain ⟨y9, hz10, h8⟩ := bind_some h8
    refine pl_l hf rfl rfl rfl (w_call hf Try.call125 rfl (r_cmp_isNaN_string ⟨_, Sh C _ _, none_, hM.sh_lt, none_not, C.G, hM.g_lt, g_none, hM.tabs⟩ x1 hp2 _ hz10) ?_)
    rintro _ w11 ⟨rfl, hM2⟩
    obtain ⟨hM, hx12, hup13⟩ := hM.back hM2
    dsimp only [List.cons_append, List.nil_append] at hM hup13
    clear hM2
    refine ⟨_, rfl, fun a hf => ?_⟩
    refine q_ hf rfl rfl rfl (e_move hf rfl) fun a hf => ?_
    rcases cond_some h8 with ⟨hc14, h8⟩ | ⟨hc14, h8⟩
    · refine gq (wanted_t hf rfl rfl rfl rfl hc14) hf rfl rfl (e_move hf rfl) fun a hf => ?_
      obtain ⟨y15, hz16, h8⟩ := bind_some h8
      refine pl_gl (wanted_t hf rfl rfl rfl rfl hc14) hf rfl rfl (w_call hf Try.call125 rfl (r_cmp_isNaN_string ⟨_, Sh C _ _, none_, hM.sh_lt, none_not, C.G, hM.g_lt, g_none, hM.tabs⟩ y3 hp4 _ hz16) ?_)
      rintro _ w17 ⟨rfl, hM2⟩
      obtain ⟨hM, hx18, hup19⟩ := hM.back hM2
      dsimp only [List.cons_append, List.nil_append] at hM hup19
      clear hM2
      refine ⟨_, rfl, fun a hf => ?_⟩
      refine gq (wanted_t hf rfl rfl rfl rfl hc14) hf rfl rfl (e_not hf rfl) fun a hf => ?_
      refine q_ hf rfl rfl rfl (e_pick_t hf rfl hc14 rfl) fun a hf => ?_
      refine q_ hf rfl rfl rfl (e_move hf rfl) fun a hf => ?_
      rcases cond_some h8 with ⟨hc20, h8⟩ | ⟨hc20, h8⟩
      · refine pl_gs (wanted_f hf rfl rfl rfl rfl hc20) hf rfl rfl fun a hf => ?_
        refine pl_gs (wanted_f hf rfl rfl rfl rfl hc20) hf rfl rfl fun a hf => ?_
        refine pl_gs (wanted_f hf rfl rfl rfl rfl hc20) hf rfl rfl fun a hf => ?_
        refine q_ hf rfl rfl rfl (e_pick_t hf rfl hc20 rfl) fun a hf => ?_
        refine q_ hf rfl rfl rfl (e_assign hf rfl) fun a hf => ?_
        refine pl_nil ?_
        obtain rfl := some_inj h8
        refine then_n ?_
        exact ⟨true, rfl, hf.keep ⟨rfl, trivial⟩, hM.pick [] rfl⟩
      · refine gq (wanted_t hf rfl rfl rfl rfl hc20) hf rfl rfl (e_move hf rfl) fun a hf => ?_
        refine gq (wanted_t hf rfl rfl rfl rfl hc20) hf rfl rfl (e_move hf rfl) fun a hf => ?_
        refine gq (wanted_t hf rfl rfl rfl rfl hc20) hf rfl rfl (e_ltS hf (x := x1) (y := y3) rfl rfl) fun a hf => ?_
        refine q_ hf rfl rfl rfl (e_pick_f hf rfl hc20 rfl) fun a hf => ?_
        refine q_ hf rfl rfl rfl (e_assign hf rfl) fun a hf => ?_
        refine pl_nil ?_
        obtain rfl := some_inj h8
        refine then_n ?_
        exact ⟨(ltS x1 y3), rfl, hf.keep ⟨rfl, trivial⟩, hM.pick [] rfl⟩
    · refine pl_gs (wanted_f hf rfl rfl rfl rfl hc14) hf rfl rfl fun a hf => ?_
      refine pl_gs (wanted_f hf rfl rfl rfl rfl hc14) hf rfl rfl fun a hf => ?_
      refine pl_gs (wanted_f hf rfl rfl rfl rfl hc14) hf rfl rfl fun a hf => ?_
      refine q_ hf rfl rfl rfl (e_pick_f hf rfl hc14 rfl) fun a hf => ?_
      refine q_ hf rfl rfl rfl (e_move hf rfl) fun a hf => ?_
      refine gq (wanted_t hf rfl rfl rfl rfl rfl) hf rfl rfl (e_move hf rfl) fun a hf => ?_
      refine gq (wanted_t hf rfl rfl rfl rfl rfl) hf rfl rfl (e_move hf rfl) fun a hf => ?_
      refine gq (wanted_t hf rfl rfl rfl rfl rfl) hf rfl rfl (e_ltS hf (x := x1) (y := y3) rfl rfl) fun a hf => ?_
      refine q_ hf rfl rfl rfl (e_pick_f hf rfl rfl rfl) fun a hf => ?_
      refine q_ hf rfl rfl rfl (e_assign hf rfl) fun a hf => ?_
      refine pl_nil ?_
      obtain rfl := some_inj h8
      refine then_n ?_
      exact ⟨(ltS x1 y3), rfl, hf.keep ⟨rfl, trivial⟩, hM.pick [] rfl⟩
  · rintro a w24 ⟨t5, rfl, hf, hM⟩
    try dsimp only at h
    refine wp_ret ?_
    obtain rfl := some_inj h
    exact leave1 hf rfl rfl ⟨rfl, hM.fin⟩

set_option maxRecDepth 100000 in
set_option maxHeartbeats 4000000 in
theorem r_slices_isNaN_string (C : Cx) (x1 : Str) (hp2 : x1.length ≤ maxLen) (r : Bool) (h : m_slices_isNaN_string x1 = some r) :
    Calls Try.prog 110 #[vS (x1)] C.w0 fun e w => e = .returned (.bool (r)) ∧ Mem C w [] [] := by
  have hM := Mem.begin C [] trivial
  refine enter Try.func110 rfl Try.ntmps110 rfl fun a hf => ?_
  unfold m_slices_isNaN_string at h
  refine wp_seq ?_
  refine region_pl ?_
  refine q_ hf rfl rfl rfl (e_assign hf rfl) fun a hf => ?_
  refine pl_nil ?_
  refine then_n ?_
  refine wp_seq ?_
  refine region_pl ?_
  refine q_ hf rfl rfl rfl (e_move hf rfl) fun a hf => ?_
  refine q_ hf rfl rfl rfl (e_move hf rfl) fun a hf => ?_
  refine q_ hf rfl rfl rfl (e_neS hf (x := x1) (y := x1) rfl rfl) fun a hf => ?_
  refine q_ hf rfl rfl rfl (e_assign hf rfl) fun a hf => ?_
  refine pl_nil ?_
  refine then_n ?_
  refine wp_ret ?_
  obtain rfl := some_inj h
  exact leave1 hf rfl rfl ⟨rfl, hM.fin⟩

set_option maxRecDepth 100000 in
set_option maxHeartbeats 4000000 in
theorem r_slices_BinarySearch_string_string (C : Cx) (x1 : (List Str)) (A2 : Option Addr) (c3 : Nat) (hp4 : (sliceRep strRep).R C.w0 C.S0 x1 [vL A2 x1 c3]) (target5 : Str) (hp6 : target5.length ≤ maxLen) (r : (Int × Bool)) (h : m_slices_BinarySearch_string_string x1 target5 = some r) :
    Calls Try.prog 94 #[vL A2 (x1) c3, vS (target5)] C.w0 fun e w => e = .returned (.tuple #[vI (r.1), .bool (r.2)]) ∧ Mem C w [] [] ∧ R64 r.1 := by
  have hM := Mem.begin C [.dat (sliceRep strRep) x1 [vL A2 x1 c3]] ⟨hp4, trivial⟩
  refine enter Try.func94 rfl Try.ntmps94 rfl fun a hf => ?_
  unfold m_slices_BinarySearch_string_string at h
  refine wp_seq ?_
  refine region_pl ?_
  refine q_ hf rfl rfl rfl (e_assign hf rfl) fun a hf => ?_
  refine q_ hf rfl rfl rfl (e_assign hf rfl) fun a hf => ?_
  refine pl_nil ?_
  refine then_n ?_
  refine wp_seq ?_
  refine region_pl ?_
  refine q_ hf rfl rfl rfl (e_move hf rfl) fun a hf => ?_
  have hl7 := slice_len (hM.dat (k := 0) rfl)
  refine q_ hf rfl rfl rfl (e_lenL hf (x := x1) rfl Try.underlying40) fun a hf => ?_
  refine q_ hf rfl rfl rfl (e_assign hf rfl) fun a hf => ?_
  refine pl_nil ?_
  refine then_n ?_
  refine wp_seq ?_
  refine region_pl ?_
  refine q_ hf rfl rfl rfl (e_move hf rfl) fun a hf => ?_
  refine q_ hf rfl rfl rfl (e_assign hf rfl) fun a hf => ?_
  refine q_ hf rfl rfl rfl (e_assign hf rfl) fun a hf => ?_
  refine pl_nil ?_
  refine then_n ?_
  obtain ⟨x10, h11, h⟩ := bind_some h
  refine seq_join (fun a w => ∃ (h8 : Int), h8 = x10 ∧ Has 54 a [(0, vL A2 (x1) c3), (1, vS (target5)), (6, vI ((x1.length : Int))), (7, vI (h8))] ∧ Mem C w [] [.dat (sliceRep strRep) x1 [vL A2 x1 c3]] ∧ R64 h8) ?_ ?_
  · refine wp_block ?_
    obtain ⟨x19, h20, h11⟩ := bind_some h11
    refine wp_loopM h20 (fun s a w => ∃ (h12 : Int) (n14 : Int), (h12, n14) = s ∧ Has 54 a [(0, vL A2 (x1) c3), (1, vS (target5)), (6, vI ((x1.length : Int))), (7, vI (h12)), (8, vI (n14))] ∧ Mem C w [] [.dat (sliceRep strRep) x1 [vL A2 x1 c3]] ∧ R64 h12 ∧ R64 n14) ?_ ?_
    · exact ⟨0, (x1.length : Int), rfl, hf.keep ⟨rfl, rfl, rfl, rfl, rfl, trivial⟩, hM.pick [0] rfl, (R64_lit rfl), (R64_len hl7)⟩
    · rintro s o21 a w16 ⟨h12, n14, rfl, hf, hM, hv13, hv15⟩ h22 hd23
      replace h22 : m_slices_BinarySearch_string_string_l1 x1 target5 h12 n14 = some o21 := h22
      unfold m_slices_BinarySearch_string_string_l1 at h22
      refine wp_seq ?_
      refine wp_seq ?_
      refine region_pl ?_
      refine q_ hf rfl rfl rfl (e_move hf rfl) fun a hf => ?_
      refine q_ hf rfl rfl rfl (e_move hf rfl) fun a hf => ?_
      refine q_ hf rfl rfl rfl (e_lt hf (x := h12) (y := n14) rfl rfl) fun a hf => ?_
      refine pl_nil ?_
      refine then_n ?_
      rcases cond_some h22 with ⟨hc24, h22⟩ | ⟨hc24, h22⟩
      · refine cond_t hf rfl hc24 ?_
        refine wp_skip ?_
        refine then_n ?_
        refine wp_block ?_
        refine wp_seq ?_
        refine region_pl ?_
        refine q_ hf rfl rfl rfl (e_move hf rfl) fun a hf => ?_
        refine q_ hf rfl rfl rfl (e_move hf rfl) fun a hf => ?_
        obtain ⟨z25, hz26, h22⟩ := bind_some h22
        refine q_ hf rfl rfl rfl (e_add hf rfl rfl hz26) fun a hf => ?_
        refine q_ hf rfl rfl rfl (e_convIW hf rfl Try.underlying3 Try.underlying129) fun a hf => ?_
        refine q_ hf rfl rfl rfl (e_shrW hf (k := 1) rfl rfl rfl rfl (m := 2) rfl (U64_mod _)) fun a hf => ?_
        obtain ⟨z27, hz28, h22⟩ := bind_some h22
        refine q_ hf rfl rfl rfl (e_convWI hf rfl Try.underlying129 Try.underlying3 hz28) fun a hf => ?_
        refine q_ hf rfl rfl rfl (e_assign hf rfl) fun a hf => ?_
        refine pl_nil ?_
        refine then_n ?_
        refine wp_seq ?_
        refine region_pl ?_
        refine q_ hf rfl rfl rfl (e_move hf rfl) fun a hf => ?_
        refine q_ hf rfl rfl rfl (e_move hf rfl) fun a hf => ?_
        obtain ⟨e29, hz30, h22⟩ := bind_some h22
        obtain ⟨b34, o35, _, hA36, h31, h32, hr33, hM⟩ := hM.elem (hM.dat (k := 0) rfl) (n := 1) rfl hz30
        obtain ⟨rfl, hv37⟩ := hr33
        refine q_ hf rfl rfl rfl (e_indexAddr (A := A2) (b := b34) (o := o35) (xs := x1) (i := z27) hf hA36 rfl rfl Try.underlying40 Try.sizeOf9 h31 h32) fun a hf => ?_
        refine q_ hf rfl rfl rfl (e_load1 hf rfl Try.isAgg9 (hM.litCell (k := 0) (j := 0) rfl rfl rfl)) fun a hf => ?_
        refine q_ hf rfl rfl rfl (e_move hf rfl) fun a hf => ?_
        obtain ⟨y38, hz39, h22⟩ := bind_some h22
        refine pl_l hf rfl rfl rfl (w_call hf Try.call109 rfl (r_cmp_Less_string ⟨_, Sh C _ _, none_, hM.sh_lt, none_not, C.G, hM.g_lt, g_none, hM.tabs⟩ e29 hv37 target5 hp6 _ hz39) ?_)
        rintro _ w40 ⟨rfl, hM2⟩
        obtain ⟨hM, hx41, hup42⟩ := hM.back hM2
        dsimp only [List.cons_append, List.nil_append] at hM hup42
        clear hM2
        refine ⟨_, rfl, fun a hf => ?_⟩
        refine pl_nil ?_
        refine then_n ?_
        rcases cond_some h22 with ⟨hc43, h22⟩ | ⟨hc43, h22⟩
        · refine cond_t hf rfl hc43 ?_
          refine region_pl ?_
          refine q_ hf rfl rfl rfl (e_move hf rfl) fun a hf => ?_
          obtain ⟨z44, hz45, h22⟩ := bind_some h22
          refine q_ hf rfl rfl rfl (e_add hf rfl rfl hz45) fun a hf => ?_
          refine q_ hf rfl rfl rfl (e_assign hf rfl) fun a hf => ?_
          refine pl_nil ?_
          refine blk_n ?_
          obtain rfl := some_inj h22
          refine then_n ⟨_, rfl, ?_⟩
          exact ⟨z44, n14, rfl, hf.keep ⟨rfl, rfl, rfl, rfl, rfl, trivial⟩, hM.pick [1] rfl, (chk_R hz45), hv15⟩
        · refine cond_f hf rfl hc43 ?_
          refine region_pl ?_
          refine q_ hf rfl rfl rfl (e_move hf rfl) fun a hf => ?_
          refine q_ hf rfl rfl rfl (e_assign hf rfl) fun a hf => ?_
          refine pl_nil ?_
          refine blk_n ?_
          obtain rfl := some_inj h22
          refine then_n ⟨_, rfl, ?_⟩
          exact ⟨h12, z27, rfl, hf.keep ⟨rfl, rfl, rfl, rfl, rfl, trivial⟩, hM.pick [1] rfl, hv13, (chk_R hz28)⟩
      · refine cond_f hf rfl hc24 ?_
        refine wp_exit ?_
        refine then_x ?_
        obtain rfl := some_inj h22
        obtain rfl := hd23 _ rfl
        try dsimp only at h11
        refine then_x ?_
        refine exit_hit ?_
        obtain rfl := some_inj h11
        refine then_n ?_
        exact ⟨h12, rfl, hf.keep ⟨rfl, rfl, rfl, rfl, trivial⟩, hM.pick [0] rfl, hv13⟩
  · rintro a w52 ⟨h8, rfl, hf, hM, hv9⟩
    try dsimp only at h
    obtain ⟨x57, h58, h⟩ := bind_some h
    refine seq_join (fun a w => ∃ (n53 : Int) (i55 : Bool), (n53, i55) = x57 ∧ Has 54 a [(4, vI (n53)), (5, .bool (i55))] ∧ Mem C w [] [.dat (sliceRep strRep) x1 [vL A2 x1 c3]] ∧ R64 n53) ?_ ?_
    · refine region_pl ?_
      refine q_ hf rfl rfl rfl (e_move hf rfl) fun a hf => ?_
      refine q_ hf rfl rfl rfl (e_move hf rfl) fun a hf => ?_
      refine q_ hf rfl rfl rfl (e_move hf rfl) fun a hf => ?_
      refine q_ hf rfl rfl rfl (e_lt hf (x := h8) (y := (x1.length : Int)) rfl rfl) fun a hf => ?_
      refine q_ hf rfl rfl rfl (e_move hf rfl) fun a hf => ?_
      rcases cond_some h58 with ⟨hc59, h58⟩ | ⟨hc59, h58⟩
      · refine gq (wanted_t hf rfl rfl rfl rfl hc59) hf rfl rfl (e_move hf rfl) fun a hf => ?_
        refine gq (wanted_t hf rfl rfl rfl rfl hc59) hf rfl rfl (e_move hf rfl) fun a hf => ?_
        obtain ⟨e60, hz61, h58⟩ := bind_some h58
        obtain ⟨b65, o66, _, hA67, h62, h63, hr64, hM⟩ := hM.elem (hM.dat (k := 0) rfl) (n := 1) rfl hz61
        obtain ⟨rfl, hv68⟩ := hr64
        refine gq (wanted_t hf rfl rfl rfl rfl hc59) hf rfl rfl (e_indexAddr (A := A2) (b := b65) (o := o66) (xs := x1) (i := h8) hf hA67 rfl rfl Try.underlying40 Try.sizeOf9 h62 h63) fun a hf => ?_
        refine gq (wanted_t hf rfl rfl rfl rfl hc59) hf rfl rfl (e_load1 hf rfl Try.isAgg9 (hM.litCell (k := 0) (j := 0) rfl rfl rfl)) fun a hf => ?_
        refine gq (wanted_t hf rfl rfl rfl rfl hc59) hf rfl rfl (e_move hf rfl) fun a hf => ?_
        refine gq (wanted_t hf rfl rfl rfl rfl hc59) hf rfl rfl (e_eqS hf (x := e60) (y := target5) rfl rfl) fun a hf => ?_
        refine gq (wanted_t hf rfl rfl rfl rfl hc59) hf rfl rfl (e_move hf rfl) fun a hf => ?_
        rcases cond_some h58 with ⟨hc69, h58⟩ | ⟨hc69, h58⟩
        · refine pl_gs (wanted_f hf rfl rfl rfl rfl hc69) hf rfl rfl fun a hf => ?_
          refine pl_gs (wanted_f hf rfl rfl rfl rfl hc69) hf rfl rfl fun a hf => ?_
          refine pl_gs (wanted_f hf rfl rfl rfl rfl hc69) hf rfl rfl fun a hf => ?_
          refine pl_gs (wanted_f hf rfl rfl rfl rfl hc69) hf rfl rfl fun a hf => ?_
          refine pl_gs (wanted_f hf rfl rfl rfl rfl hc69) hf rfl rfl fun a hf => ?_
          refine pl_gs (wanted_f hf rfl rfl rfl rfl hc69) hf rfl rfl fun a hf => ?_
          refine pl_gs (wanted_u hf rfl rfl rfl rfl) hf rfl rfl fun a hf => ?_
          refine pl_gs (wanted_u hf rfl rfl rfl rfl) hf rfl rfl fun a hf => ?_
          refine pl_gs (wanted_f hf rfl rfl rfl rfl hc69) hf rfl rfl fun a hf => ?_
          refine gq (wanted_t hf rfl rfl rfl rfl hc59) hf rfl rfl (e_pick_t hf rfl hc69 rfl) fun a hf => ?_
          refine q_ hf rfl rfl rfl (e_pick_t hf rfl hc59 rfl) fun a hf => ?_
          refine q_ hf rfl rfl rfl (e_assign hf rfl) fun a hf => ?_
          refine q_ hf rfl rfl rfl (e_assign hf rfl) fun a hf => ?_
          refine pl_nil ?_
          obtain rfl := some_inj h58
          refine then_n ?_
          exact ⟨h8, true, rfl, hf.keep ⟨rfl, rfl, trivial⟩, hM.pick [1] rfl, hv9⟩
        · refine gq (wanted_t hf rfl rfl rfl rfl hc69) hf rfl rfl (e_move hf rfl) fun a hf => ?_
          refine gq (wanted_t hf rfl rfl rfl rfl hc69) hf rfl rfl (e_move hf rfl) fun a hf => ?_
          obtain ⟨e71, hz72, h58⟩ := bind_some h58
          obtain ⟨b76, o77, _, hA78, h73, h74, hr75, hM⟩ := hM.elem (hM.dat (k := 1) rfl) (n := 1) rfl hz72
          obtain ⟨rfl, hv79⟩ := hr75
          refine gq (wanted_t hf rfl rfl rfl rfl hc69) hf rfl rfl (e_indexAddr (A := A2) (b := b76) (o := o77) (xs := x1) (i := h8) hf hA78 rfl rfl Try.underlying40 Try.sizeOf9 h73 h74) fun a hf => ?_
          refine gq (wanted_t hf rfl rfl rfl rfl hc69) hf rfl rfl (e_load1 hf rfl Try.isAgg9 (hM.litCell (k := 0) (j := 0) rfl rfl rfl)) fun a hf => ?_
          obtain ⟨y80, hz81, h58⟩ := bind_some h58
          refine pl_gl (wanted_t hf rfl rfl rfl rfl hc69) hf rfl rfl (w_call hf Try.call110 rfl (r_slices_isNaN_string ⟨_, Sh C _ _, none_, hM.sh_lt, none_not, C.G, hM.g_lt, g_none, hM.tabs⟩ e71 hv79 _ hz81) ?_)
          rintro _ w82 ⟨rfl, hM2⟩
          obtain ⟨hM, hx83, hup84⟩ := hM.back hM2
          dsimp only [List.cons_append, List.nil_append] at hM hup84
          clear hM2
          refine ⟨_, rfl, fun a hf => ?_⟩
          refine gq (wanted_t hf rfl rfl rfl rfl hc69) hf rfl rfl (e_move hf rfl) fun a hf => ?_
          rcases cond_some h58 with ⟨hc85, h58⟩ | ⟨hc85, h58⟩
          · refine gq (wanted_t hf rfl rfl rfl rfl hc85) hf rfl rfl (e_move hf rfl) fun a hf => ?_
            obtain ⟨y86, hz87, h58⟩ := bind_some h58
            refine pl_gl (wanted_t hf rfl rfl rfl rfl hc85) hf rfl rfl (w_call hf Try.call110 rfl (r_slices_isNaN_string ⟨_, Sh C _ _, none_, hM.sh_lt, none_not, C.G, hM.g_lt, g_none, hM.tabs⟩ target5 hp6 _ hz87) ?_)
            rintro _ w88 ⟨rfl, hM2⟩
            obtain ⟨hM, hx89, hup90⟩ := hM.back hM2
            dsimp only [List.cons_append, List.nil_append] at hM hup90
            clear hM2
            refine ⟨_, rfl, fun a hf => ?_⟩
            refine gq (wanted_t hf rfl rfl rfl rfl hc69) hf rfl rfl (e_pick_t hf rfl hc85 rfl) fun a hf => ?_
            refine gq (wanted_t hf rfl rfl rfl rfl hc59) hf rfl rfl (e_pick_f hf rfl hc69 rfl) fun a hf => ?_
            refine q_ hf rfl rfl rfl (e_pick_t hf rfl hc59 rfl) fun a hf => ?_
            refine q_ hf rfl rfl rfl (e_assign hf rfl) fun a hf => ?_
            refine q_ hf rfl rfl rfl (e_assign hf rfl) fun a hf => ?_
            refine pl_nil ?_
            obtain rfl := some_inj h58
            refine then_n ?_
            exact ⟨h8, y86, rfl, hf.keep ⟨rfl, rfl, trivial⟩, hM.pick [2] rfl, hv9⟩
          · refine pl_gs (wanted_f hf rfl rfl rfl rfl hc85) hf rfl rfl fun a hf => ?_
            refine pl_gs (wanted_f hf rfl rfl rfl rfl hc85) hf rfl rfl fun a hf => ?_
            refine gq (wanted_t hf rfl rfl rfl rfl hc69) hf rfl rfl (e_pick_f hf rfl hc85 rfl) fun a hf => ?_
            refine gq (wanted_t hf rfl rfl rfl rfl hc59) hf rfl rfl (e_pick_f hf rfl hc69 rfl) fun a hf => ?_
            refine q_ hf rfl rfl rfl (e_pick_t hf rfl hc59 rfl) fun a hf => ?_
            refine q_ hf rfl rfl rfl (e_assign hf rfl) fun a hf => ?_
            refine q_ hf rfl rfl rfl (e_assign hf rfl) fun a hf => ?_
            refine pl_nil ?_
            obtain rfl := some_inj h58
            refine then_n ?_
            exact ⟨h8, false, rfl, hf.keep ⟨rfl, rfl, trivial⟩, hM.pick [2] rfl, hv9⟩
      · refine pl_gs (wanted_f hf rfl rfl rfl rfl hc59) hf rfl rfl fun a hf => ?_
        refine pl_gs (wanted_f hf rfl rfl rfl rfl hc59) hf rfl rfl fun a hf => ?_
        refine pl_gs (wanted_f hf rfl rfl rfl rfl hc59) hf rfl rfl fun a hf => ?_
        refine pl_gs (wanted_f hf rfl rfl rfl rfl hc59) hf rfl rfl fun a hf => ?_
        refine pl_gs (wanted_f hf rfl rfl rfl rfl hc59) hf rfl rfl fun a hf => ?_
        refine pl_gs (wanted_f hf rfl rfl rfl rfl hc59) hf rfl rfl fun a hf => ?_
        refine pl_gs (wanted_f hf rfl rfl rfl rfl hc59) hf rfl rfl fun a hf => ?_
        refine pl_gs (wanted_u hf rfl rfl rfl rfl) hf rfl rfl fun a hf => ?_
        refine pl_gs (wanted_u hf rfl rfl rfl rfl) hf rfl rfl fun a hf => ?_
        refine pl_gs (wanted_u hf rfl rfl rfl rfl) hf rfl rfl fun a hf => ?_
        refine pl_gs (wanted_u hf rfl rfl rfl rfl) hf rfl rfl fun a hf => ?_
        refine pl_gs (wanted_u hf rfl rfl rfl rfl) hf rfl rfl fun a hf => ?_
        refine pl_gs (wanted_u hf rfl rfl rfl rfl) hf rfl rfl fun a hf => ?_
        refine pl_gs (wanted_u hf rfl rfl rfl rfl) hf rfl rfl fun a hf => ?_
        refine pl_gs (wanted_u hf rfl rfl rfl rfl) hf rfl rfl fun a hf => ?_
        refine pl_gs (wanted_u hf rfl rfl rfl rfl) hf rfl rfl fun a hf => ?_
        refine pl_gs (wanted_f hf rfl rfl rfl rfl hc59) hf rfl rfl fun a hf => ?_
        refine q_ hf rfl rfl rfl (e_pick_f hf rfl hc59 rfl) fun a hf => ?_
        refine q_ hf rfl rfl rfl (e_assign hf rfl) fun a hf => ?_
        refine q_ hf rfl rfl rfl (e_assign hf rfl) fun a hf => ?_
        refine pl_nil ?_
        obtain rfl := some_inj h58
        refine then_n ?_
        exact ⟨h8, false, rfl, hf.keep ⟨rfl, rfl, trivial⟩, hM.pick [0] rfl, hv9⟩
    · rintro a w94 ⟨n53, i55, rfl, hf, hM, hv54⟩
      try dsimp only at h
      refine wp_ret ?_
      obtain rfl := some_inj h
      exact leave2 hf rfl rfl rfl ⟨rfl, hM.fin, hv54⟩

set_option maxRecDepth 100000 in
set_option maxHeartbeats 4000000 in
theorem r_impl_Lexicon_has (C : Cx) (l1 : Lexicon) (A2 : Option Addr) (c3 : Nat) (hp4 : (sliceRep strRep).R C.w0 C.S0 l1.Words [vL A2 l1.Words c3]) (word5 : Str) (hp6 : word5.length ≤ maxLen) (r : Bool) (h : m_impl_Lexicon_has l1 word5 = some r) :
    Calls Try.prog 68 #[.agg #[vL A2 (l1.Words) c3], vS (word5)] C.w0 fun e w => e = .returned (.bool (r)) ∧ Mem C w [] [] := by
  have hM := Mem.begin C [.dat (sliceRep strRep) l1.Words [vL A2 l1.Words c3]] ⟨hp4, trivial⟩
  refine enter Try.func68 rfl Try.ntmps68 rfl fun a hf => ?_
  unfold m_impl_Lexicon_has at h
  refine wp_seq ?_
  refine region_pl ?_
  refine pl_l hf rfl rfl rfl (w_box hf hM (cs := [vL A2 (l1.Words) c3]) rfl rfl fun b7 w8 hx9 hM a hf => ?_)
  refine q_ hf rfl rfl rfl (e_assign hf rfl) fun a hf => ?_
  refine pl_nil ?_
  refine then_n ?_
  refine wp_seq ?_
  refine region_pl ?_
  refine q_ hf rfl rfl rfl (e_field hf rfl Try.underlying45 rfl Try.sizeOf40 (o' := 0) rfl) fun a hf => ?_
  refine q_ hf rfl rfl rfl (e_load1 hf rfl Try.isAgg40 (hM.boxCell (k := 0) rfl rfl)) fun a hf => ?_
  refine q_ hf rfl rfl rfl (e_move hf rfl) fun a hf => ?_
  obtain ⟨y11, hz12, h⟩ := bind_some h
  refine pl_l hf rfl rfl rfl (w_call hf Try.call94 rfl (r_slices_BinarySearch_string_string ⟨_, Sh C _ _, none_, hM.sh_lt, none_not, C.G, hM.g_lt, g_none, hM.tabs⟩ l1.Words _ _ (hM.dat (k := 0) rfl) word5 hp6 _ hz12) ?_)
  rintro _ w14 ⟨rfl, hM2, hv13⟩
  obtain ⟨hM, hx15, hup16⟩ := hM.back hM2
  dsimp only [List.cons_append, List.nil_append] at hM hup16
  clear hM2
  refine ⟨_, rfl, fun a hf => ?_⟩
  refine q_ hf rfl rfl rfl (e_move hf rfl) fun a hf => ?_
  refine q_ hf rfl rfl rfl (e_extract hf rfl rfl) fun a hf => ?_
  refine q_ hf rfl rfl rfl (e_extract hf rfl rfl) fun a hf => ?_
  refine q_ hf rfl rfl rfl (e_assign hf rfl) fun a hf => ?_
  refine q_ hf rfl rfl rfl (e_assign hf rfl) fun a hf => ?_
  refine pl_nil ?_
  refine then_n ?_
  refine wp_seq ?_
  refine region_pl ?_
  refine q_ hf rfl rfl rfl (e_move hf rfl) fun a hf => ?_
  refine q_ hf rfl rfl rfl (e_assign hf rfl) fun a hf => ?_
  refine pl_nil ?_
  refine then_n ?_
  refine wp_ret ?_
  obtain rfl := some_inj h
  have hM := hM.outs (own' := []) 0 rfl
  exact leave1 hf rfl rfl ⟨rfl, hM.fin⟩

set_option maxRecDepth 100000 in
set_option maxHeartbeats 4000000 in
theorem r_impl_IsFilled (C : Cx) (g1 : Grid) (hp2 : R64 g1.Rows) (hp3 : R64 g1.Cols) (hp4 : g1.Cells.length ≤ maxLen) (l5 : Lexicon) (A6 : Option Addr) (c7 : Nat) (hp8 : (sliceRep strRep).R C.w0 C.S0 l5.Words [vL A6 l5.Words c7]) (r : Bool) (h : m_impl_IsFilled g1 l5 = some r) :
    Calls Try.prog 27 #[.agg #[vI (g1.Rows), vI (g1.Cols), vS (g1.Cells)], .agg #[vL A6 (l5.Words) c7]] C.w0 fun e w => e = .returned (.bool (r)) ∧ Mem C w [] [] := by
  have hM := Mem.begin C [.dat (sliceRep strRep) l5.Words [vL A6 l5.Words c7]] ⟨hp8, trivial⟩
  refine enter Try.func27 rfl Try.ntmps27 rfl fun a hf => ?_
  unfold m_impl_IsFilled at h
  refine wp_seq ?_
  refine region_pl ?_
  refine pl_l hf rfl rfl rfl (w_box hf hM (cs := [vI (g1.Rows), vI (g1.Cols), vS (g1.Cells)]) rfl rfl fun b9 w10 hx11 hM a hf => ?_)
  refine pl_l hf rfl rfl rfl (w_box hf hM (cs := [vL A6 (l5.Words) c7]) rfl rfl fun b13 w14 hx15 hM a hf => ?_)
  refine q_ hf rfl rfl rfl (e_assign hf rfl) fun a hf => ?_
  refine pl_nil ?_
  refine then_n ?_
  refine wp_seq ?_
  obtain ⟨x19, h20, h⟩ := bind_some h
  refine seq_join (fun a w => ∃ (t17 : Bool), t17 = x19 ∧ Has 29 a [(2, vP b9 (0)), (3, vP b13 (0)), (14, .bool (t17))] ∧ Mem C w [.box b13 [vL A6 (l5.Words) c7] 45, .box b9 [vI (g1.Rows), vI (g1.Cols), vS (g1.Cells)] 27] [.dat (sliceRep strRep) l5.Words [vL A6 l5.Words c7]]) ?_ ?_
  · refine region_pl ?_
    refine q_ hf rfl rfl rfl (e_loadA hf (us := [vI (g1.Rows), vI (g1.Cols), vS (g1.Cells)]) rfl ⟨Try.isAgg27, Try.sizeOf27⟩ rfl (hM.boxSub (k := 1) (us := [vI (g1.Rows), vI (g1.Cols), vS (g1.Cells)]) (o := 0) rfl rfl)) fun a hf => ?_
    obtain ⟨y21, hz22, h20⟩ := bind_some h20
    refine pl_l hf rfl rfl rfl (w_call hf Try.call46 rfl (r_impl_ValidGrid ⟨_, Sh C _ _, none_, hM.sh_lt, none_not, C.G, hM.g_lt, g_none, hM.tabs⟩ g1 hp2 hp3 hp4 _ hz22) ?_)
    rintro _ w23 ⟨rfl, hM2⟩
    obtain ⟨hM, hx24, hup25⟩ := hM.back hM2
    dsimp only [List.cons_append, List.nil_append] at hM hup25
    clear hM2
    refine ⟨_, rfl, fun a hf => ?_⟩
    refine q_ hf rfl rfl rfl (e_not hf rfl) fun a hf => ?_
    refine q_ hf rfl rfl rfl (e_move hf rfl) fun a hf => ?_
    rcases cond_some h20 with ⟨hc26, h20⟩ | ⟨hc26, h20⟩
    · refine pl_gs (wanted_f hf rfl rfl rfl rfl hc26) hf rfl rfl fun a hf => ?_
      refine pl_gs (wanted_f hf rfl rfl rfl rfl hc26) hf rfl rfl fun a hf => ?_
      refine pl_gs (wanted_f hf rfl rfl rfl rfl hc26) hf rfl rfl fun a hf => ?_
      refine q_ hf rfl rfl rfl (e_pick_t hf rfl hc26 rfl) fun a hf => ?_
      refine pl_nil ?_
      obtain rfl := some_inj h20
      refine then_n ?_
      exact ⟨true, rfl, hf.keep ⟨rfl, rfl, rfl, trivial⟩, hM.pick [0] rfl⟩
    · refine gq (wanted_t hf rfl rfl rfl rfl hc26) hf rfl rfl (e_loadA hf (us := [vL A6 (l5.Words) c7]) rfl ⟨Try.isAgg45, Try.sizeOf45⟩ rfl (hM.boxSub (k := 0) (us := [vL A6 (l5.Words) c7]) (o := 0) rfl rfl)) fun a hf => ?_
      obtain ⟨y28, hz29, h20⟩ := bind_some h20
      refine pl_gl (wanted_t hf rfl rfl rfl rfl hc26) hf rfl rfl (w_call hf Try.call67 rfl (r_impl_ValidLexicon ⟨_, Sh C _ _, none_, hM.sh_lt, none_not, C.G, hM.g_lt, g_none, hM.tabs⟩ l5 _ _ (hM.dat (k := 0) rfl) _ hz29) ?_)
      rintro _ w30 ⟨rfl, hM2⟩
      obtain ⟨hM, hx31, hup32⟩ := hM.back hM2
      dsimp only [List.cons_append, List.nil_append] at hM hup32
      clear hM2
      refine ⟨_, rfl, fun a hf => ?_⟩
      refine gq (wanted_t hf rfl rfl rfl rfl hc26) hf rfl rfl (e_not hf rfl) fun a hf => ?_
      refine q_ hf rfl rfl rfl (e_pick_f hf rfl hc26 rfl) fun a hf => ?_
      refine pl_nil ?_
      obtain rfl := some_inj h20
      refine then_n ?_
      exact ⟨(!y28), rfl, hf.keep ⟨rfl, rfl, rfl, trivial⟩, hM.pick [0] rfl⟩
  · rintro a w34 ⟨t17, rfl, hf, hM⟩
    try dsimp only at h
    rcases cond_some h with ⟨hc35, h⟩ | ⟨hc35, h⟩
    · refine cond_t hf rfl hc35 ?_
      refine wp_seq ?_
      refine region_pl ?_
      refine q_ hf rfl rfl rfl (e_assign hf rfl) fun a hf => ?_
      refine pl_nil ?_
      refine then_n ?_
      refine wp_ret ?_
      refine then_r ?_
      obtain rfl := some_inj h
      have hM := hM.outs (own' := []) 0 rfl
      exact leave1 hf rfl rfl ⟨rfl, hM.fin⟩
    · refine cond_f hf rfl hc35 ?_
      refine wp_skip ?_
      refine then_n ?_
      obtain ⟨x36, h37, h⟩ := bind_some h
      refine seq_join (fun a w => (.inl ()) = x36 ∧ Has 29 a [] ∧ Mem C w [.box b13 [vL A6 (l5.Words) c7] 45, .box b9 [vI (g1.Rows), vI (g1.Cols), vS (g1.Cells)] 27] [.dat (sliceRep strRep) l5.Words [vL A6 l5.Words c7]]) ?_ ?_
      · refine wp_seq ?_
        refine region_pl ?_
        refine q_ hf rfl rfl rfl (e_loadA hf (us := [vI (g1.Rows), vI (g1.Cols), vS (g1.Cells)]) rfl ⟨Try.isAgg27, Try.sizeOf27⟩ rfl (hM.boxSub (k := 1) (us := [vI (g1.Rows), vI (g1.Cols), vS (g1.Cells)]) (o := 0) rfl rfl)) fun a hf => ?_
        obtain ⟨y38, hz39, h37⟩ := bind_some h37
        refine pl_l hf rfl rfl rfl (w_call hf Try.call55 rfl (r_impl_Grid_slots ⟨_, Sh C _ _, none_, hM.sh_lt, none_not, C.G, hM.g_lt, g_none, hM.tabs⟩ g1 hp2 hp3 hp4 _ hz39) ?_)
        rintro _ w42 ⟨A40, c41, rfl, hM2⟩
        obtain ⟨hM, hx43, hup44⟩ := hM.back hM2
        dsimp only [List.cons_append, List.nil_append] at hM hup44
        clear hM2
        refine ⟨_, rfl, fun a hf => ?_⟩
        have hl45 := row_len (hM.ownAt (k := 0) rfl)
        refine q_ hf rfl rfl rfl (e_lenL hf (x := y38) rfl Try.underlying30) fun a hf => ?_
        refine q_ hf rfl rfl rfl (e_move hf rfl) fun a hf => ?_
        refine pl_nil ?_
        refine then_n ?_
        refine wp_block ?_
        obtain ⟨x49, h50, h37⟩ := bind_some h37
        refine wp_loopM h50 (fun s a w => ∃ (n46 : Int), n46 = s ∧ Has 29 a [(2, vP b9 (0)), (3, vP b13 (0)), (16, vL A40 (y38) c41), (17, vI ((y38.length : Int))), (18, vI (n46))] ∧ Mem C w [.row SlotRep A40 c41 75 y38 true, .box b13 [vL A6 (l5.Words) c7] 45, .box b9 [vI (g1.Rows), vI (g1.Cols), vS (g1.Cells)] 27] [.dat (sliceRep strRep) l5.Words [vL A6 l5.Words c7]] ∧ R64 n46) ?_ ?_
        · exact ⟨0, rfl, hf.keep ⟨rfl, rfl, rfl, rfl, rfl, trivial⟩, hM.pick [0] rfl, (R64_lit rfl)⟩
        · rintro s o51 a w48 ⟨n46, rfl, hf, hM, hv47⟩ h52 hd53
          replace h52 : m_impl_IsFilled_l1 y38 g1 l5 n46 = some o51 := h52
          unfold m_impl_IsFilled_l1 at h52
          refine wp_seq ?_
          refine region_pl ?_
          refine q_ hf rfl rfl rfl (e_lt hf (x := n46) (y := (y38.length : Int)) rfl rfl) fun a hf => ?_
          refine pl_nil ?_
          refine then_n ?_
          refine wp_seq ?_
          rcases cond_some h52 with ⟨hc54, h52⟩ | ⟨hc54, h52⟩
          · refine cond_t hf rfl hc54 ?_
            refine wp_skip ?_
            refine then_n ?_
            refine wp_seq ?_
            refine wp_block ?_
            refine wp_seq ?_
            refine region_pl ?_
            obtain ⟨e55, hz56, h52⟩ := bind_some h52
            obtain ⟨b61, _, hA62, h57, h58, hr59, hcell60⟩ := hM.rowElemN (k := 0) rfl (n := 4) rfl hz56
            obtain ⟨rfl, hv63, hv64, hv65⟩ := SlotRep_open hr59
            refine q_ hf rfl rfl rfl (e_indexAddr (A := A40) (b := b61) (o := 0) (xs := y38) (i := n46) hf hA62 rfl rfl Try.underlying30 Try.sizeOf75 h57 h58) fun a hf => ?_
            refine q_ hf rfl rfl rfl (e_loadA hf (us := [vI (e55.Row), vI (e55.Col), .bool (e55.Down), vI (e55.Length)]) rfl ⟨Try.isAgg75, Try.sizeOf75⟩ rfl hcell60) fun a hf => ?_
            refine pl_l hf rfl rfl rfl (w_alloc hM (cs := [vI (0), vI (0), .bool (false), vI (0)]) Try.zeroValue75 rfl fun b66 w67 hx68 hM a hf => ?_)
            refine pl_0 hf rfl rfl (w_store hf hM (us := [vI (e55.Row), vI (e55.Col), .bool (e55.Down), vI (e55.Length)]) (cs' := [vI (e55.Row), vI (e55.Col), .bool (e55.Down), vI (e55.Length)]) rfl rfl (k := 0) rfl rfl Try.sizeOf75 rfl rfl rfl fun w70 hM => ?_)
            dsimp only [List.set] at hM
            refine pl_nil ?_
            refine then_n ?_
            refine wp_seq ?_
            obtain ⟨w73, hw⟩ : ∃ x, x = w70.drew := ⟨_, rfl⟩
            refine region_pi (.q 0 (.q 1 (.q 2 (.l 3 (.l 4 (.q 5 (.nil))))))) (Ext w73) rfl (by kernel_rfl) ?_
            have hM := hM.drew
            rw [← hw] at hM ⊢
            clear hw
            refine pi_q hf rfl rfl rfl rfl (Ext.refl _) (e_loadA hf (us := [vL A6 (l5.Words) c7]) rfl ⟨Try.isAgg45, Try.sizeOf45⟩ rfl (hM.boxSub (k := 2) (us := [vL A6 (l5.Words) c7]) (o := 0) rfl rfl)) fun a hf => ?_
            refine pi_q hf rfl rfl rfl rfl (Ext.refl _) (e_loadA hf (us := [vI (g1.Rows), vI (g1.Cols), vS (g1.Cells)]) rfl ⟨Try.isAgg27, Try.sizeOf27⟩ rfl (hM.boxSub (k := 3) (us := [vI (g1.Rows), vI (g1.Cols), vS (g1.Cells)]) (o := 0) rfl rfl)) fun a hf => ?_
            refine pi_q hf rfl rfl rfl rfl (Ext.refl _) (e_loadA hf (us := [vI (e55.Row), vI (e55.Col), .bool (e55.Down), vI (e55.Length)]) rfl ⟨Try.isAgg75, Try.sizeOf75⟩ rfl (hM.boxSub (k := 0) (us := [vI (e55.Row), vI (e55.Col), .bool (e55.Down), vI (e55.Length)]) (o := 0) rfl rfl)) fun a hf => ?_
            refine pi_one ?_
            obtain ⟨y74, hz75, h52⟩ := bind_some h52
            refine pi_l hf rfl rfl rfl rfl (w_call hf Try.call53 rfl (r_impl_Grid_pattern ⟨_, Sh C _ _, none_, hM.sh_lt, none_not, C.G, hM.g_lt, g_none, hM.tabs⟩ g1 hp2 hp3 hp4 e55 hv63 hv64 hv65 _ hz75) ?_)
            rintro _ w77 ⟨rfl, hM2, hv76⟩
            obtain ⟨hM, hx78, hup79⟩ := hM.back hM2
            dsimp only [List.cons_append, List.nil_append] at hM hup79
            clear hM2
            refine ⟨_, rfl, Ext w77, fun _ h => Ext.trans hx78 h, Ext.refl _, fun a hf => ?_⟩
            refine pi_one ?_
            obtain ⟨y80, hz81, h52⟩ := bind_some h52
            refine pi_l hf rfl rfl rfl rfl (w_call hf Try.call68 rfl (r_impl_Lexicon_has ⟨_, Sh C _ _, none_, hM.sh_lt, none_not, C.G, hM.g_lt, g_none, hM.tabs⟩ l5 _ _ (hM.dat (k := 0) rfl) y74 hv76 _ hz81) ?_)
            rintro _ w82 ⟨rfl, hM2⟩
            obtain ⟨hM, hx83, hup84⟩ := hM.back hM2
            dsimp only [List.cons_append, List.nil_append] at hM hup84
            clear hM2
            refine ⟨_, rfl, Ext w82, fun _ h => Ext.trans hx83 h, Ext.refl _, fun a hf => ?_⟩
            refine pi_q hf rfl rfl rfl rfl (Ext.refl _) (e_not hf rfl) fun a hf => ?_
            refine pi_nil ?_
            refine then_n ?_
            rcases cond_some h52 with ⟨hc85, h52⟩ | ⟨hc85, h52⟩
            · refine cond_t hf rfl hc85 ?_
              refine wp_seq ?_
              refine region_pl ?_
              refine q_ hf rfl rfl rfl (e_assign hf rfl) fun a hf => ?_
              refine pl_nil ?_
              refine then_n ?_
              refine wp_ret ?_
              refine blk_r ?_
              refine then_r ?_
              obtain rfl := some_inj h52
              obtain rfl := hd53 _ rfl
              try dsimp only at h37
              refine then_r ?_
              refine blk_r ?_
              obtain rfl := some_inj h37
              try dsimp only at h
              refine then_r ?_
              obtain rfl := some_inj h
              have hM := hM.outs (own' := []) 0 rfl
              exact leave1 hf rfl rfl ⟨rfl, hM.fin⟩
            · refine cond_f hf rfl hc85 ?_
              refine wp_skip ?_
              refine blk_n ?_
              refine then_n ?_
              refine region_pl ?_
              obtain ⟨z86, hz87, h52⟩ := bind_some h52
              refine q_ hf rfl rfl rfl (e_add hf rfl rfl hz87) fun a hf => ?_
              refine q_ hf rfl rfl rfl (e_move hf rfl) fun a hf => ?_
              refine pl_nil ?_
              obtain rfl := some_inj h52
              refine then_n ⟨_, rfl, ?_⟩
              exact ⟨z86, rfl, hf.keep ⟨rfl, rfl, rfl, rfl, rfl, trivial⟩, (hM.drop (.cons _ (.cons_cons _ (.cons_cons _ (.cons_cons _ .slnil))))).pick [0] rfl, (chk_R hz87)⟩
          · refine cond_f hf rfl hc54 ?_
            refine wp_exit ?_
            refine then_x ?_
            obtain rfl := some_inj h52
            obtain rfl := hd53 _ rfl
            try dsimp only at h37
            refine then_x ?_
            refine exit_hit ?_
            obtain rfl := some_inj h37
            refine then_n ?_
            exact ⟨rfl, hf.keep trivial, (hM.drop (.cons _ (.cons_cons _ (.cons_cons _ .slnil)))).pick [0] rfl⟩
      · rintro a w94 ⟨rfl, hf, hM⟩
        try dsimp only at h
        refine wp_seq ?_
        refine region_pl ?_
        refine q_ hf rfl rfl rfl (e_assign hf rfl) fun a hf => ?_
        refine pl_nil ?_
        refine then_n ?_
        refine wp_ret ?_
        obtain rfl := some_inj h
        have hM := hM.outs (own' := []) 0 rfl
        exact leave1 hf rfl rfl ⟨rfl, hM.fin⟩

set_option maxRecDepth 100000 in
set_option maxHeartbeats 4000000 in
theorem r_spec_l05First (C : Cx) (list1 : (List Str)) (A2 : Option Addr) (c3 : Nat) (hp4 : (sliceRep strRep).R C.w0 C.S0 list1 [vL A2 list1 c3]) (s5 : Str) (hp6 : s5.length ≤ maxLen) (r : Int) (h : m_spec_l05First list1 s5 = some r) :
    Calls Try.prog 91 #[vL A2 (list1) c3, vS (s5)] C.w0 fun e w => e = .returned (vI (r)) ∧ Mem C w [] [] ∧ R64 r := by
  have hM := Mem.begin C [.dat (sliceRep strRep) list1 [vL A2 list1 c3]] ⟨hp4, trivial⟩
  refine enter Try.func91 rfl Try.ntmps91 rfl fun a hf => ?_
  unfold m_spec_l05First at h
  refine wp_seq ?_
  refine region_pl ?_
  refine q_ hf rfl rfl rfl (e_assign hf rfl) fun a hf => ?_
  refine pl_nil ?_
  refine then_n ?_
  refine wp_seq ?_
  refine region_pl ?_
  refine q_ hf rfl rfl rfl (e_assign hf rfl) fun a hf => ?_
  refine pl_nil ?_
  refine then_n ?_
  obtain ⟨x9, h10, h⟩ := bind_some h
  refine seq_join (fun a w => ∃ (n7 : Int), n7 = x9 ∧ Has 21 a [(5, vI (n7))] ∧ Mem C w [] [.dat (sliceRep strRep) list1 [vL A2 list1 c3]] ∧ R64 n7) ?_ ?_
  · refine wp_block ?_
    obtain ⟨x16, h17, h10⟩ := bind_some h10
    refine wp_loopM h17 (fun s a w => ∃ (n11 : Int), n11 = s ∧ Has 21 a [(0, vL A2 (list1) c3), (1, vS (s5)), (5, vI (n11))] ∧ Mem C w [] [.dat (sliceRep strRep) list1 [vL A2 list1 c3]] ∧ R64 n11) ?_ ?_
    · exact ⟨0, rfl, hf.keep ⟨rfl, rfl, rfl, trivial⟩, hM.pick [0] rfl, (R64_lit rfl)⟩
    · rintro s o18 a w13 ⟨n11, rfl, hf, hM, hv12⟩ h19 hd20
      replace h19 : m_spec_l05First_l1 list1 s5 n11 = some o18 := h19
      unfold m_spec_l05First_l1 at h19
      refine wp_seq ?_
      obtain ⟨x23, h24, h19⟩ := bind_some h19
      refine seq_join (fun a w => ∃ (t21 : Bool), t21 = x23 ∧ Has 21 a [(0, vL A2 (list1) c3), (1, vS (s5)), (5, vI (n11)), (17, .bool (t21))] ∧ Mem C w [] [.dat (sliceRep strRep) list1 [vL A2 list1 c3]]) ?_ ?_
      · refine region_pl ?_
        refine q_ hf rfl rfl rfl (e_move hf rfl) fun a hf => ?_
        refine q_ hf rfl rfl rfl (e_move hf rfl) fun a hf => ?_
        have hl25 := slice_len (hM.dat (k := 0) rfl)
        refine q_ hf rfl rfl rfl (e_lenL hf (x := list1) rfl Try.underlying40) fun a hf => ?_
        refine q_ hf rfl rfl rfl (e_lt hf (x := n11) (y := (list1.length : Int)) rfl rfl) fun a hf => ?_
        refine q_ hf rfl rfl rfl (e_move hf rfl) fun a hf => ?_
        rcases cond_some h24 with ⟨hc26, h24⟩ | ⟨hc26, h24⟩
        · refine gq (wanted_t hf rfl rfl rfl rfl hc26) hf rfl rfl (e_move hf rfl) fun a hf => ?_
          refine gq (wanted_t hf rfl rfl rfl rfl hc26) hf rfl rfl (e_move hf rfl) fun a hf => ?_
          obtain ⟨e27, hz28, h24⟩ := bind_some h24
          obtain ⟨b32, o33, _, hA34, h29, h30, hr31, hM⟩ := hM.elem (hM.dat (k := 0) rfl) (n := 1) rfl hz28
          obtain ⟨rfl, hv35⟩ := hr31
          refine gq (wanted_t hf rfl rfl rfl rfl hc26) hf rfl rfl (e_indexAddr (A := A2) (b := b32) (o := o33) (xs := list1) (i := n11) hf hA34 rfl rfl Try.underlying40 Try.sizeOf9 h29 h30) fun a hf => ?_
          refine gq (wanted_t hf rfl rfl rfl rfl hc26) hf rfl rfl (e_load1 hf rfl Try.isAgg9 (hM.litCell (k := 0) (j := 0) rfl rfl rfl)) fun a hf => ?_
          refine gq (wanted_t hf rfl rfl rfl rfl hc26) hf rfl rfl (e_move hf rfl) fun a hf => ?_
          refine gq (wanted_t hf rfl rfl rfl rfl hc26) hf rfl rfl (e_ltS hf (x := e27) (y := s5) rfl rfl) fun a hf => ?_
          refine q_ hf rfl rfl rfl (e_pick_t hf rfl hc26 rfl) fun a hf => ?_
          refine pl_nil ?_
          obtain rfl := some_inj h24
          refine then_n ?_
          exact ⟨(ltS e27 s5), rfl, hf.keep ⟨rfl, rfl, rfl, rfl, trivial⟩, hM.pick [1] rfl⟩
        · refine pl_gs (wanted_f hf rfl rfl rfl rfl hc26) hf rfl rfl fun a hf => ?_
          refine pl_gs (wanted_f hf rfl rfl rfl rfl hc26) hf rfl rfl fun a hf => ?_
          refine pl_gs (wanted_f hf rfl rfl rfl rfl hc26) hf rfl rfl fun a hf => ?_
          refine pl_gs (wanted_f hf rfl rfl rfl rfl hc26) hf rfl rfl fun a hf => ?_
          refine pl_gs (wanted_f hf rfl rfl rfl rfl hc26) hf rfl rfl fun a hf => ?_
          refine pl_gs (wanted_f hf rfl rfl rfl rfl hc26) hf rfl rfl fun a hf => ?_
          refine q_ hf rfl rfl rfl (e_pick_f hf rfl hc26 rfl) fun a hf => ?_
          refine pl_nil ?_
          obtain rfl := some_inj h24
          refine then_n ?_
          exact ⟨false, rfl, hf.keep ⟨rfl, rfl, rfl, rfl, trivial⟩, hM.pick [0] rfl⟩
      · rintro a w38 ⟨t21, rfl, hf, hM⟩
        try dsimp only at h19
        rcases cond_some h19 with ⟨hc39, h19⟩ | ⟨hc39, h19⟩
        · refine cond_t hf rfl hc39 ?_
          refine wp_skip ?_
          refine then_n ?_
          refine wp_block ?_
          refine region_pl ?_
          refine q_ hf rfl rfl rfl (e_move hf rfl) fun a hf => ?_
          obtain ⟨z40, hz41, h19⟩ := bind_some h19
          refine q_ hf rfl rfl rfl (e_add hf rfl rfl hz41) fun a hf => ?_
          refine q_ hf rfl rfl rfl (e_assign hf rfl) fun a hf => ?_
          refine pl_nil ?_
          refine blk_n ?_
          obtain rfl := some_inj h19
          refine then_n ⟨_, rfl, ?_⟩
          exact ⟨z40, rfl, hf.keep ⟨rfl, rfl, rfl, trivial⟩, hM.pick [0] rfl, (chk_R hz41)⟩
        · refine cond_f hf rfl hc39 ?_
          refine wp_exit ?_
          refine then_x ?_
          obtain rfl := some_inj h19
          obtain rfl := hd20 _ rfl
          try dsimp only at h10
          refine then_x ?_
          refine exit_hit ?_
          obtain rfl := some_inj h10
          refine then_n ?_
          exact ⟨n11, rfl, hf.keep ⟨rfl, trivial⟩, hM.pick [0] rfl, hv12⟩
  · rintro a w47 ⟨n7, rfl, hf, hM, hv8⟩
    try dsimp only at h
    refine wp_seq ?_
    refine region_pl ?_
    refine q_ hf rfl rfl rfl (e_move hf rfl) fun a hf => ?_
    refine q_ hf rfl rfl rfl (e_assign hf rfl) fun a hf => ?_
    refine pl_nil ?_
    refine then_n ?_
    refine wp_ret ?_
    obtain rfl := some_inj h
    exact leave1 hf rfl rfl ⟨rfl, hM.fin, hv8⟩

set_option maxRecDepth 100000 in
set_option maxHeartbeats 4000000 in
theorem r_spec_l05Has (C : Cx) (list1 : (List Str)) (A2 : Option Addr) (c3 : Nat) (hp4 : (sliceRep strRep).R C.w0 C.S0 list1 [vL A2 list1 c3]) (s5 : Str) (hp6 : s5.length ≤ maxLen) (r : Bool) (h : m_spec_l05Has list1 s5 = some r) :
    Calls Try.prog 65 #[vL A2 (list1) c3, vS (s5)] C.w0 fun e w => e = .returned (.bool (r)) ∧ Mem C w [] [] := by
  have hM := Mem.begin C [.dat (sliceRep strRep) list1 [vL A2 list1 c3]] ⟨hp4, trivial⟩
  refine enter Try.func65 rfl Try.ntmps65 rfl fun a hf => ?_
  unfold m_spec_l05Has at h
  refine wp_seq ?_
  refine region_pl ?_
  refine q_ hf rfl rfl rfl (e_assign hf rfl) fun a hf => ?_
  refine pl_nil ?_
  refine then_n ?_
  refine wp_seq ?_
  refine region_pl ?_
  refine q_ hf rfl rfl rfl (e_move hf rfl) fun a hf => ?_
  refine q_ hf rfl rfl rfl (e_move hf rfl) fun a hf => ?_
  obtain ⟨y7, hz8, h⟩ := bind_some h
  refine pl_l hf rfl rfl rfl (w_call hf Try.call91 rfl (r_spec_l05First ⟨_, Sh C _ _, none_, hM.sh_lt, none_not, C.G, hM.g_lt, g_none, hM.tabs⟩ list1 _ _ (hM.dat (k := 0) rfl) s5 hp6 _ hz8) ?_)
  rintro _ w10 ⟨rfl, hM2, hv9⟩
  obtain ⟨hM, hx11, hup12⟩ := hM.back hM2
  dsimp only [List.cons_append, List.nil_append] at hM hup12
  clear hM2
  refine ⟨_, rfl, fun a hf => ?_⟩
  refine q_ hf rfl rfl rfl (e_assign hf rfl) fun a hf => ?_
  refine pl_nil ?_
  refine then_n ?_
  obtain ⟨x15, h16, h⟩ := bind_some h
  refine seq_join (fun a w => ∃ (t13 : Bool), t13 = x15 ∧ Has 21 a [(4, .bool (t13))] ∧ Mem C w [] [.dat (sliceRep strRep) list1 [vL A2 list1 c3]]) ?_ ?_
  · refine region_pl ?_
    refine q_ hf rfl rfl rfl (e_move hf rfl) fun a hf => ?_
    refine q_ hf rfl rfl rfl (e_move hf rfl) fun a hf => ?_
    have hl17 := slice_len (hM.dat (k := 0) rfl)
    refine q_ hf rfl rfl rfl (e_lenL hf (x := list1) rfl Try.underlying40) fun a hf => ?_
    refine q_ hf rfl rfl rfl (e_lt hf (x := y7) (y := (list1.length : Int)) rfl rfl) fun a hf => ?_
    refine q_ hf rfl rfl rfl (e_move hf rfl) fun a hf => ?_
    rcases cond_some h16 with ⟨hc18, h16⟩ | ⟨hc18, h16⟩
    · refine gq (wanted_t hf rfl rfl rfl rfl hc18) hf rfl rfl (e_move hf rfl) fun a hf => ?_
      refine gq (wanted_t hf rfl rfl rfl rfl hc18) hf rfl rfl (e_move hf rfl) fun a hf => ?_
      obtain ⟨e19, hz20, h16⟩ := bind_some h16
      obtain ⟨b24, o25, _, hA26, h21, h22, hr23, hM⟩ := hM.elem (hM.dat (k := 0) rfl) (n := 1) rfl hz20
      obtain ⟨rfl, hv27⟩ := hr23
      refine gq (wanted_t hf rfl rfl rfl rfl hc18) hf rfl rfl (e_indexAddr (A := A2) (b := b24) (o := o25) (xs := list1) (i := y7) hf hA26 rfl rfl Try.underlying40 Try.sizeOf9 h21 h22) fun a hf => ?_
      refine gq (wanted_t hf rfl rfl rfl rfl hc18) hf rfl rfl (e_load1 hf rfl Try.isAgg9 (hM.litCell (k := 0) (j := 0) rfl rfl rfl)) fun a hf => ?_
      refine gq (wanted_t hf rfl rfl rfl rfl hc18) hf rfl rfl (e_move hf rfl) fun a hf => ?_
      refine gq (wanted_t hf rfl rfl rfl rfl hc18) hf rfl rfl (e_eqS hf (x := e19) (y := s5) rfl rfl) fun a hf => ?_
      refine q_ hf rfl rfl rfl (e_pick_t hf rfl hc18 rfl) fun a hf => ?_
      refine q_ hf rfl rfl rfl (e_assign hf rfl) fun a hf => ?_
      refine pl_nil ?_
      obtain rfl := some_inj h16
      refine then_n ?_
      exact ⟨(e19 == s5), rfl, hf.keep ⟨rfl, trivial⟩, hM.pick [1] rfl⟩
    · refine pl_gs (wanted_f hf rfl rfl rfl rfl hc18) hf rfl rfl fun a hf => ?_
      refine pl_gs (wanted_f hf rfl rfl rfl rfl hc18) hf rfl rfl fun a hf => ?_
      refine pl_gs (wanted_f hf rfl rfl rfl rfl hc18) hf rfl rfl fun a hf => ?_
      refine pl_gs (wanted_f hf rfl rfl rfl rfl hc18) hf rfl rfl fun a hf => ?_
      refine pl_gs (wanted_f hf rfl rfl rfl rfl hc18) hf rfl rfl fun a hf => ?_
      refine pl_gs (wanted_f hf rfl rfl rfl rfl hc18) hf rfl rfl fun a hf => ?_
      refine q_ hf rfl rfl rfl (e_pick_f hf rfl hc18 rfl) fun a hf => ?_
      refine q_ hf rfl rfl rfl (e_assign hf rfl) fun a hf => ?_
      refine pl_nil ?_
      obtain rfl := some_inj h16
      refine then_n ?_
      exact ⟨false, rfl, hf.keep ⟨rfl, trivial⟩, hM.pick [0] rfl⟩
  · rintro a w30 ⟨t13, rfl, hf, hM⟩
    try dsimp only at h
    refine wp_ret ?_
    obtain rfl := some_inj h
    exact leave1 hf rfl rfl ⟨rfl, hM.fin⟩

set_option maxRecDepth 100000 in
set_option maxHeartbeats 4000000 in
theorem r_spec_IsFilled (C : Cx) (g1 : Grid) (hp2 : R64 g1.Rows) (hp3 : R64 g1.Cols) (hp4 : g1.Cells.length ≤ maxLen) (l5 : Lexicon) (A6 : Option Addr) (c7 : Nat) (hp8 : (sliceRep strRep).R C.w0 C.S0 l5.Words [vL A6 l5.Words c7]) (r : Bool) (h : m_spec_IsFilled g1 l5 = some r) :
    Calls Try.prog 25 #[.agg #[vI (g1.Rows), vI (g1.Cols), vS (g1.Cells)], .agg #[vL A6 (l5.Words) c7]] C.w0 fun e w => e = .returned (.bool (r)) ∧ Mem C w [] [] := by
  have hM := Mem.begin C [.dat (sliceRep strRep) l5.Words [vL A6 l5.Words c7]] ⟨hp8, trivial⟩
  refine enter Try.func25 rfl Try.ntmps25 rfl fun a hf => ?_
  unfold m_spec_IsFilled at h
  refine wp_seq ?_
  refine region_pl ?_
  refine pl_l hf rfl rfl rfl (w_box hf hM (cs := [vI (g1.Rows), vI (g1.Cols), vS (g1.Cells)]) rfl rfl fun b9 w10 hx11 hM a hf => ?_)
  refine pl_l hf rfl rfl rfl (w_box hf hM (cs := [vL A6 (l5.Words) c7]) rfl rfl fun b13 w14 hx15 hM a hf => ?_)
  refine q_ hf rfl rfl rfl (e_assign hf rfl) fun a hf => ?_
  refine pl_nil ?_
  refine then_n ?_
  refine wp_seq ?_
  obtain ⟨x19, h20, h⟩ := bind_some h
  refine seq_join (fun a w => ∃ (t17 : Bool), t17 = x19 ∧ Has 28 a [(2, vP b9 (0)), (3, vP b13 (0)), (12, .bool (t17))] ∧ Mem C w [.box b13 [vL A6 (l5.Words) c7] 45, .box b9 [vI (g1.Rows), vI (g1.Cols), vS (g1.Cells)] 27] [.dat (sliceRep strRep) l5.Words [vL A6 l5.Words c7]]) ?_ ?_
  · refine region_pl ?_
    obtain ⟨y21, hz22, h20⟩ := bind_some h20
    refine pl_l hf rfl rfl rfl (w_call hf Try.call54 rfl (r_spec_l25Ok ⟨_, All C _ _, none_, hM.all_lt, none_not, C.G, hM.g_lt, g_none, hM.tabs⟩ g1 _ _ (hM.lendBox (k := 1) rfl (GridRep_mk (x := g1) hp2 hp3 hp4)) _ hz22) ?_)
    rintro _ w23 ⟨rfl, hM2⟩
    obtain ⟨hM, hx24⟩ := hM.backA hM2
    clear hM2
    refine ⟨_, rfl, fun a hf => ?_⟩
    refine q_ hf rfl rfl rfl (e_not hf rfl) fun a hf => ?_
    refine q_ hf rfl rfl rfl (e_move hf rfl) fun a hf => ?_
    rcases cond_some h20 with ⟨hc26, h20⟩ | ⟨hc26, h20⟩
    · refine pl_gs (wanted_f hf rfl rfl rfl rfl hc26) hf rfl rfl fun a hf => ?_
      refine pl_gs (wanted_f hf rfl rfl rfl rfl hc26) hf rfl rfl fun a hf => ?_
      refine q_ hf rfl rfl rfl (e_pick_t hf rfl hc26 rfl) fun a hf => ?_
      refine pl_nil ?_
      obtain rfl := some_inj h20
      refine then_n ?_
      exact ⟨true, rfl, hf.keep ⟨rfl, rfl, rfl, trivial⟩, hM.pick [0] rfl⟩
    · obtain ⟨y28, hz29, h20⟩ := bind_some h20
      refine pl_gl (wanted_t hf rfl rfl rfl rfl hc26) hf rfl rfl (w_call hf Try.call64 rfl (r_spec_l05Ok ⟨_, All C _ _, none_, hM.all_lt, none_not, C.G, hM.g_lt, g_none, hM.tabs⟩ l5 _ _ (hM.lendBox (k := 0) rfl (LexiconRep_mk (x := l5) (hM.lendDat (k := 0) rfl))) _ hz29) ?_)
      rintro _ w30 ⟨rfl, hM2⟩
      obtain ⟨hM, hx31⟩ := hM.backA hM2
      clear hM2
      refine ⟨_, rfl, fun a hf => ?_⟩
      refine gq (wanted_t hf rfl rfl rfl rfl hc26) hf rfl rfl (e_not hf rfl) fun a hf => ?_
      refine q_ hf rfl rfl rfl (e_pick_f hf rfl hc26 rfl) fun a hf => ?_
      refine pl_nil ?_
      obtain rfl := some_inj h20
      refine then_n ?_
      exact ⟨(!y28), rfl, hf.keep ⟨rfl, rfl, rfl, trivial⟩, hM.pick [0] rfl⟩
  · rintro a w34 ⟨t17, rfl, hf, hM⟩
    try dsimp only at h
    rcases cond_some h with ⟨hc35, h⟩ | ⟨hc35, h⟩
    · refine cond_t hf rfl hc35 ?_
      refine wp_seq ?_
      refine region_pl ?_
      refine q_ hf rfl rfl rfl (e_assign hf rfl) fun a hf => ?_
      refine pl_nil ?_
      refine then_n ?_
      refine wp_ret ?_
      refine then_r ?_
      obtain rfl := some_inj h
      have hM := hM.outs (own' := []) 0 rfl
      exact leave1 hf rfl rfl ⟨rfl, hM.fin⟩
    · refine cond_f hf rfl hc35 ?_
      refine wp_skip ?_
      refine then_n ?_
      refine wp_seq ?_
      refine region_pl ?_
      obtain ⟨y36, hz37, h⟩ := bind_some h
      refine pl_l hf rfl rfl rfl (w_call hf Try.call50 rfl (r_spec_l25Slots ⟨_, All C _ _, none_, hM.all_lt, none_not, C.G, hM.g_lt, g_none, hM.tabs⟩ g1 _ _ (hM.lendBox (k := 1) rfl (GridRep_mk (x := g1) hp2 hp3 hp4)) _ hz37) ?_)
      rintro _ w40 ⟨A38, c39, rfl, hM2⟩
      obtain ⟨hM, hx41⟩ := hM.backAF SlotRep_flat hM2
      clear hM2
      refine ⟨_, rfl, fun a hf => ?_⟩
      refine q_ hf rfl rfl rfl (e_assign hf rfl) fun a hf => ?_
      refine pl_nil ?_
      refine then_n ?_
      obtain ⟨x43, h44, h⟩ := bind_some h
      refine seq_join (fun a w => (.inl ()) = x43 ∧ Has 28 a [] ∧ Mem C w [.row SlotRep A38 c39 75 y36 true, .box b13 [vL A6 (l5.Words) c7] 45, .box b9 [vI (g1.Rows), vI (g1.Cols), vS (g1.Cells)] 27] [.dat (sliceRep strRep) l5.Words [vL A6 l5.Words c7]]) ?_ ?_
      · refine wp_seq ?_
        refine region_pl ?_
        refine q_ hf rfl rfl rfl (e_assign hf rfl) fun a hf => ?_
        refine pl_nil ?_
        refine then_n ?_
        refine wp_block ?_
        obtain ⟨x48, h49, h44⟩ := bind_some h44
        refine wp_loopM h49 (fun s a w => ∃ (n45 : Int), n45 = s ∧ Has 28 a [(2, vP b9 (0)), (3, vP b13 (0)), (5, vL A38 (y36) c39), (6, vI (n45))] ∧ Mem C w [.row SlotRep A38 c39 75 y36 true, .box b13 [vL A6 (l5.Words) c7] 45, .box b9 [vI (g1.Rows), vI (g1.Cols), vS (g1.Cells)] 27] [.dat (sliceRep strRep) l5.Words [vL A6 l5.Words c7]] ∧ R64 n45) ?_ ?_
        · exact ⟨0, rfl, hf.keep ⟨rfl, rfl, rfl, rfl, trivial⟩, hM.pick [0] rfl, (R64_lit rfl)⟩
        · rintro s o50 a w47 ⟨n45, rfl, hf, hM, hv46⟩ h51 hd52
          replace h51 : m_spec_IsFilled_l1 y36 g1 l5 n45 = some o50 := h51
          unfold m_spec_IsFilled_l1 at h51
          refine wp_seq ?_
          refine wp_seq ?_
          refine region_pl ?_
          refine q_ hf rfl rfl rfl (e_move hf rfl) fun a hf => ?_
          refine q_ hf rfl rfl rfl (e_move hf rfl) fun a hf => ?_
          have hl53 := row_len (hM.ownAt (k := 0) rfl)
          refine q_ hf rfl rfl rfl (e_lenL hf (x := y36) rfl Try.underlying30) fun a hf => ?_
          refine q_ hf rfl rfl rfl (e_lt hf (x := n45) (y := (y36.length : Int)) rfl rfl) fun a hf => ?_
          refine pl_nil ?_
          refine then_n ?_
          rcases cond_some h51 with ⟨hc54, h51⟩ | ⟨hc54, h51⟩
          · refine cond_t hf rfl hc54 ?_
            refine wp_skip ?_
            refine then_n ?_
            refine wp_seq ?_
            refine wp_block ?_
            refine wp_seq ?_
            obtain ⟨w55, hw⟩ : ∃ x, x = w47.drew := ⟨_, rfl⟩
            refine region_pi (.q 0 (.q 1 (.q 2 (.q 3 (.q 4 (.l 5 (.l 6 (.q 7 (.nil))))))))) (Ext w55) rfl (by kernel_rfl) ?_
            have hM := hM.drew
            rw [← hw] at hM ⊢
            clear hw
            refine pi_q hf rfl rfl rfl rfl (Ext.refl _) (e_field hf rfl Try.underlying45 rfl Try.sizeOf40 (o' := 0) rfl) fun a hf => ?_
            refine pi_q hf rfl rfl rfl rfl (Ext.refl _) (e_load1 hf rfl Try.isAgg40 (hM.boxCell (k := 1) rfl rfl)) fun a hf => ?_
            refine pi_q hf rfl rfl rfl rfl (Ext.refl _) (e_move hf rfl) fun a hf => ?_
            refine pi_q hf rfl rfl rfl rfl (Ext.refl _) (e_move hf rfl) fun a hf => ?_
            obtain ⟨e56, hz57, h51⟩ := bind_some h51
            obtain ⟨b62, _, hA63, h58, h59, hr60, hcell61⟩ := hM.rowElemN (k := 0) rfl (n := 4) rfl hz57
            obtain ⟨rfl, hv64, hv65, hv66⟩ := SlotRep_open hr60
            refine pi_q hf rfl rfl rfl rfl (Ext.refl _) (e_indexAddr (A := A38) (b := b62) (o := 0) (xs := y36) (i := n45) hf hA63 rfl rfl Try.underlying30 Try.sizeOf75 h58 h59) fun a hf => ?_
            refine pi_one ?_
            obtain ⟨y67, hz68, h51⟩ := bind_some h51
            refine pi_l hf rfl rfl rfl rfl (w_call hf Try.call51 rfl (r_spec_l25Pattern ⟨_, All C _ _, none_, hM.all_lt, none_not, C.G, hM.g_lt, g_none, hM.tabs⟩ g1 _ _ (hM.lendBox (k := 2) rfl (GridRep_mk (x := g1) hp2 hp3 hp4)) e56 _ _ (hM.lendElem hA63 (k := 0) rfl (n := 4) rfl hz57) _ hz68) ?_)
            rintro _ w70 ⟨rfl, hM2, hv69⟩
            obtain ⟨hM, hx71⟩ := hM.backA hM2
            clear hM2
            refine ⟨_, rfl, Ext w70, fun _ h => Ext.trans hx71 h, Ext.refl _, fun a hf => ?_⟩
            refine pi_one ?_
            obtain ⟨y73, hz74, h51⟩ := bind_some h51
            refine pi_l hf rfl rfl rfl rfl (w_call hf Try.call65 rfl (r_spec_l05Has ⟨_, Sh C _ _, none_, hM.sh_lt, none_not, C.G, hM.g_lt, g_none, hM.tabs⟩ l5.Words _ _ (hM.dat (k := 0) rfl) y67 hv69 _ hz74) ?_)
            rintro _ w75 ⟨rfl, hM2⟩
            obtain ⟨hM, hx76, hup77⟩ := hM.back hM2
            dsimp only [List.cons_append, List.nil_append] at hM hup77
            clear hM2
            refine ⟨_, rfl, Ext w75, fun _ h => Ext.trans hx76 h, Ext.refl _, fun a hf => ?_⟩
            refine pi_q hf rfl rfl rfl rfl (Ext.refl _) (e_not hf rfl) fun a hf => ?_
            refine pi_nil ?_
            refine then_n ?_
            rcases cond_some h51 with ⟨hc78, h51⟩ | ⟨hc78, h51⟩
            · refine cond_t hf rfl hc78 ?_
              refine wp_seq ?_
              refine region_pl ?_
              refine q_ hf rfl rfl rfl (e_assign hf rfl) fun a hf => ?_
              refine pl_nil ?_
              refine then_n ?_
              refine wp_ret ?_
              refine blk_r ?_
              refine then_r ?_
              obtain rfl := some_inj h51
              obtain rfl := hd52 _ rfl
              try dsimp only at h44
              refine then_r ?_
              refine blk_r ?_
              obtain rfl := some_inj h44
              try dsimp only at h
              refine then_r ?_
              obtain rfl := some_inj h
              have hM := hM.outs (own' := []) 0 rfl
              exact leave1 hf rfl rfl ⟨rfl, hM.fin⟩
            · refine cond_f hf rfl hc78 ?_
              refine wp_skip ?_
              refine blk_n ?_
              refine then_n ?_
              refine region_pl ?_
              refine q_ hf rfl rfl rfl (e_move hf rfl) fun a hf => ?_
              obtain ⟨z79, hz80, h51⟩ := bind_some h51
              refine q_ hf rfl rfl rfl (e_add hf rfl rfl hz80) fun a hf => ?_
              refine q_ hf rfl rfl rfl (e_assign hf rfl) fun a hf => ?_
              refine pl_nil ?_
              obtain rfl := some_inj h51
              refine then_n ⟨_, rfl, ?_⟩
              exact ⟨z79, rfl, hf.keep ⟨rfl, rfl, rfl, rfl, trivial⟩, hM.pick [0] rfl, (chk_R hz80)⟩
          · refine cond_f hf rfl hc54 ?_
            refine wp_exit ?_
            refine then_x ?_
            obtain rfl := some_inj h51
            obtain rfl := hd52 _ rfl
            try dsimp only at h44
            refine then_x ?_
            refine exit_hit ?_
            obtain rfl := some_inj h44
            refine then_n ?_
            exact ⟨rfl, hf.keep trivial, hM.pick [0] rfl⟩
      · rintro a w87 ⟨rfl, hf, hM⟩
        try dsimp only at h
        refine wp_seq ?_
        refine region_pl ?_
        refine q_ hf rfl rfl rfl (e_assign hf rfl) fun a hf => ?_
        refine pl_nil ?_
        refine then_n ?_
        refine wp_ret ?_
        obtain rfl := some_inj h
        have hM := hM.outs (own' := []) 0 rfl
        exact leave1 hf rfl rfl ⟨rfl, hM.fin⟩

set_option maxRecDepth 100000 in
set_option maxHeartbeats 4000000 in
theorem r_impl_TurnGrid (C : Cx) (g1 : Grid) (hp2 : R64 g1.Rows) (hp3 : R64 g1.Cols) (hp4 : g1.Cells.length ≤ maxLen) (r : (Grid × Int)) (h : m_impl_TurnGrid g1 = some r) :
    Calls Try.prog 48 #[.agg #[vI (g1.Rows), vI (g1.Cols), vS (g1.Cells)]] C.w0 fun e w => e = .returned (.tuple #[.agg #[vI (r.1.Rows), vI (r.1.Cols), vS (r.1.Cells)], vI (r.2)]) ∧ Mem C w [] [] ∧ R64 r.1.Rows ∧ R64 r.1.Cols ∧ r.1.Cells.length ≤ maxLen ∧ R64 r.2 := by
  have hM := Mem.begin C [] trivial
  refine enter Try.func48 rfl Try.ntmps48 rfl fun a hf => ?_
  unfold m_impl_TurnGrid at h
  refine wp_seq ?_
  refine region_pl ?_
  refine pl_l hf rfl rfl rfl (w_box hf hM (cs := [vI (g1.Rows), vI (g1.Cols), vS (g1.Cells)]) rfl rfl fun b5 w6 hx7 hM a hf => ?_)
  refine pl_l hf rfl rfl rfl (w_alloc hM (cs := [vI (0), vI (0), vS (([] : Str))]) Try.zeroValue27 rfl fun b9 w10 hx11 hM a hf => ?_)
  refine q_ hf rfl rfl rfl (e_assign hf rfl) fun a hf => ?_
  refine pl_nil ?_
  refine then_n ?_
  refine wp_seq ?_
  refine wp_seq ?_
  refine region_pl ?_
  refine q_ hf rfl rfl rfl (e_loadA hf (us := [vI (g1.Rows), vI (g1.Cols), vS (g1.Cells)]) rfl ⟨Try.isAgg27, Try.sizeOf27⟩ rfl (hM.boxSub (k := 1) (us := [vI (g1.Rows), vI (g1.Cols), vS (g1.Cells)]) (o := 0) rfl rfl)) fun a hf => ?_
  obtain ⟨y13, hz14, h⟩ := bind_some h
  refine pl_l hf rfl rfl rfl (w_call hf Try.call46 rfl (r_impl_ValidGrid ⟨_, Sh C _ _, none_, hM.sh_lt, none_not, C.G, hM.g_lt, g_none, hM.tabs⟩ g1 hp2 hp3 hp4 _ hz14) ?_)
  rintro _ w15 ⟨rfl, hM2⟩
  obtain ⟨hM, hx16, hup17⟩ := hM.back hM2
  dsimp only [List.cons_append, List.nil_append] at hM hup17
  clear hM2
  refine ⟨_, rfl, fun a hf => ?_⟩
  refine q_ hf rfl rfl rfl (e_not hf rfl) fun a hf => ?_
  refine pl_nil ?_
  refine then_n ?_
  rcases cond_some h with ⟨hc18, h⟩ | ⟨hc18, h⟩
  · refine cond_t hf rfl hc18 ?_
    refine wp_seq ?_
    refine region_pl ?_
    refine q_ hf rfl rfl rfl (e_build hf Try.zeroValue27 Try.underlying27 (bp_27 _ Try.underlying27.symm) rfl (cs := #[vI (0), vI (0), vS (([] : Str))]) (by kernel_rfl)) fun a hf => ?_
    refine pl_0 hf rfl rfl (w_store hf hM (us := [vI (0), vI (0), vS (([] : Str))]) (cs' := [vI (0), vI (0), vS (([] : Str))]) rfl rfl (k := 0) rfl rfl Try.sizeOf27 rfl rfl rfl fun w19 hM => ?_)
    dsimp only [List.set] at hM
    refine q_ hf rfl rfl rfl (e_assign hf rfl) fun a hf => ?_
    refine pl_nil ?_
    refine then_n ?_
    refine wp_ret ?_
    refine then_r ?_
    obtain rfl := some_inj h
    have hres22 := leaveV2 (P := Try.prog) Try.results48 (res_agg hf rfl ⟨Try.isAgg27, Try.sizeOf27⟩ (us := [vI (0), vI (0), vS (([] : Str))]) rfl (hM.boxSub (k := 0) (o := 0) rfl rfl)) (res_tmp hf rfl)
    have hM := hM.outs (own' := []) 0 rfl
    exact bodyPost_ret hres22 hf.defers ⟨rfl, hM.fin, (R64_lit rfl), (R64_lit rfl), (lit_len rfl), (R64_lit rfl)⟩
  · refine cond_f hf rfl hc18 ?_
    refine wp_skip ?_
    refine then_n ?_
    refine wp_seq ?_
    refine region_pl ?_
    refine q_ hf rfl rfl rfl (e_loadA hf (us := [vI (g1.Rows), vI (g1.Cols), vS (g1.Cells)]) rfl ⟨Try.isAgg27, Try.sizeOf27⟩ rfl (hM.boxSub (k := 1) (us := [vI (g1.Rows), vI (g1.Cols), vS (g1.Cells)]) (o := 0) rfl rfl)) fun a hf => ?_
    obtain ⟨y23, hz24, h⟩ := bind_some h
    refine pl_l hf rfl rfl rfl (w_call hf Try.call81 rfl (r_impl_Grid_turned ⟨_, Sh C _ _, none_, hM.sh_lt, none_not, C.G, hM.g_lt, g_none, hM.tabs⟩ g1 hp2 hp3 hp4 _ hz24) ?_)
    rintro _ w28 ⟨rfl, hM2, hv25, hv26, hv27⟩
    obtain ⟨hM, hx29, hup30⟩ := hM.back hM2
    dsimp only [List.cons_append, List.nil_append] at hM hup30
    clear hM2
    refine ⟨_, rfl, fun a hf => ?_⟩
    refine pl_0 hf rfl rfl (w_store hf hM (us := [vI (y23.Rows), vI (y23.Cols), vS (y23.Cells)]) (cs' := [vI (y23.Rows), vI (y23.Cols), vS (y23.Cells)]) rfl rfl (k := 0) rfl rfl Try.sizeOf27 rfl rfl rfl fun w31 hM => ?_)
    dsimp only [List.set] at hM
    refine q_ hf rfl rfl rfl (e_assign hf rfl) fun a hf => ?_
    refine pl_nil ?_
    refine then_n ?_
    refine wp_ret ?_
    obtain rfl := some_inj h
    have hres34 := leaveV2 (P := Try.prog) Try.results48 (res_agg hf rfl ⟨Try.isAgg27, Try.sizeOf27⟩ (us := [vI (y23.Rows), vI (y23.Cols), vS (y23.Cells)]) rfl (hM.boxSub (k := 0) (o := 0) rfl rfl)) (res_tmp hf rfl)
    have hM := hM.outs (own' := []) 0 rfl
    exact bodyPost_ret hres34 hf.defers ⟨rfl, hM.fin, hv25, hv26, hv27, (R64_lit rfl)⟩

end Go.Proofs.Ytgmikhdealhlfaa
