/- The functions that this law reaches do what their models say. Printed by gen.py. -/
import Derived.Test.YtdngdgjlcfbdhaaMod
namespace Go.Proofs.Ytdngdgjlcfbdhaa
open Go Go.RowKit
set_option linter.unusedSimpArgs false
set_option linter.unusedVariables false

theorem ei_103 : ElemInfo Try.prog 103 2 := elemInfo (by kernel_rfl)

set_option maxRecDepth 100000 in
set_option maxHeartbeats 4000000 in
theorem r_laws_szMember (C : Cx) (a1 : Member) (hp2 : a1.Name.length ≤ maxLen) (hp3 : R64 a1.Rating) (left4 : Int) (hp5 : R64 left4) (r : Int) (h : m_laws_szMember a1 left4 = some r) :
    Calls Try.prog 105 #[.agg #[vS (a1.Name), vI (a1.Rating)], vI (left4)] C.w0 fun e w => e = .returned (vI (r)) ∧ Mem C w [] [] ∧ R64 r := by
  have hM := Mem.begin C [] trivial
  refine enter Try.func105 rfl Try.ntmps105 rfl fun a hf => ?_
  unfold m_laws_szMember at h
  refine wp_seq ?_
  refine region_pl ?_
  refine pl_l hf rfl rfl rfl (w_box hf hM (cs := [vS (a1.Name), vI (a1.Rating)]) rfl rfl fun b6 w7 hx8 hM a hf => ?_)
  refine q_ hf rfl rfl rfl (e_assign hf rfl) fun a hf => ?_
  refine pl_nil ?_
  refine then_n ?_
  refine wp_seq ?_
  refine region_pl ?_
  refine q_ hf rfl rfl rfl (e_move hf rfl) fun a hf => ?_
  refine q_ hf rfl rfl rfl (e_field hf rfl Try.underlying140 rfl Try.sizeOf9 (o' := 0) rfl) fun a hf => ?_
  refine q_ hf rfl rfl rfl (e_load1 hf rfl Try.isAgg9 (hM.boxCell (k := 0) rfl rfl)) fun a hf => ?_
  refine q_ hf rfl rfl rfl (e_lenS hf (x := a1.Name) rfl Try.underlying9) fun a hf => ?_
  obtain ⟨z10, hz11, h⟩ := bind_some h
  refine q_ hf rfl rfl rfl (e_sub hf rfl rfl hz11) fun a hf => ?_
  refine q_ hf rfl rfl rfl (e_assign hf rfl) fun a hf => ?_
  refine pl_nil ?_
  refine then_n ?_
  refine wp_seq ?_
  refine wp_seq ?_
  refine region_pl ?_
  refine q_ hf rfl rfl rfl (e_move hf rfl) fun a hf => ?_
  refine q_ hf rfl rfl rfl (e_lt hf (x := z10) (y := 0) rfl rfl) fun a hf => ?_
  refine pl_nil ?_
  refine then_n ?_
  rcases cond_some h with ⟨hc12, h⟩ | ⟨hc12, h⟩
  · refine cond_t hf rfl hc12 ?_
    refine wp_seq ?_
    refine region_pl ?_
    refine q_ hf rfl rfl rfl (e_assign hf rfl) fun a hf => ?_
    refine pl_nil ?_
    refine then_n ?_
    refine wp_ret ?_
    refine then_r ?_
    obtain rfl := some_inj h
    have hM := hM.outs (own' := []) 0 rfl
    exact leave1 hf rfl rfl ⟨rfl, hM.fin, (R64_lit rfl)⟩
  · refine cond_f hf rfl hc12 ?_
    refine wp_skip ?_
    refine then_n ?_
    refine wp_seq ?_
    refine region_pl ?_
    refine q_ hf rfl rfl rfl (e_move hf rfl) fun a hf => ?_
    refine q_ hf rfl rfl rfl (e_assign hf rfl) fun a hf => ?_
    refine pl_nil ?_
    refine then_n ?_
    refine wp_ret ?_
    obtain rfl := some_inj h
    have hM := hM.outs (own' := []) 0 rfl
    exact leave1 hf rfl rfl ⟨rfl, hM.fin, (chk_R hz11)⟩

set_option maxRecDepth 100000 in
set_option maxHeartbeats 4000000 in
theorem r_laws_szMemberS (C : Cx) (a1 : (List Member)) (A2 : Option Addr) (c3 : Nat) (hp4 : (sliceRep MemberRep).R C.w0 C.S0 a1 [vL A2 a1 c3]) (left5 : Int) (hp6 : R64 left5) (r : Int) (h : m_laws_szMemberS a1 left5 = some r) :
    Calls Try.prog 73 #[vL A2 (a1) c3, vI (left5)] C.w0 fun e w => e = .returned (vI (r)) ∧ Mem C w [] [] ∧ R64 r := by
  have hM := Mem.begin C [.dat (sliceRep MemberRep) a1 [vL A2 a1 c3]] ⟨hp4, trivial⟩
  refine enter Try.func73 rfl Try.ntmps73 rfl fun a hf => ?_
  unfold m_laws_szMemberS at h
  refine wp_seq ?_
  refine region_pl ?_
  refine q_ hf rfl rfl rfl (e_assign hf rfl) fun a hf => ?_
  refine pl_nil ?_
  refine then_n ?_
  refine wp_seq ?_
  refine region_pl ?_
  refine q_ hf rfl rfl rfl (e_move hf rfl) fun a hf => ?_
  refine q_ hf rfl rfl rfl (e_move hf rfl) fun a hf => ?_
  have hl7 := slice_len (hM.dat (k := 0) rfl)
  refine q_ hf rfl rfl rfl (e_lenL hf (x := a1) rfl Try.underlying48) fun a hf => ?_
  obtain ⟨z8, hz9, h⟩ := bind_some h
  refine q_ hf rfl rfl rfl (e_sub hf rfl rfl hz9) fun a hf => ?_
  refine q_ hf rfl rfl rfl (e_assign hf rfl) fun a hf => ?_
  refine pl_nil ?_
  refine then_n ?_
  refine wp_seq ?_
  refine wp_seq ?_
  refine region_pl ?_
  refine q_ hf rfl rfl rfl (e_move hf rfl) fun a hf => ?_
  refine q_ hf rfl rfl rfl (e_lt hf (x := z8) (y := 0) rfl rfl) fun a hf => ?_
  refine pl_nil ?_
  refine then_n ?_
  rcases cond_some h with ⟨hc10, h⟩ | ⟨hc10, h⟩
  · refine cond_t hf rfl hc10 ?_
    refine wp_seq ?_
    refine region_pl ?_
    refine q_ hf rfl rfl rfl (e_assign hf rfl) fun a hf => ?_
    refine pl_nil ?_
    refine then_n ?_
    refine wp_ret ?_
    refine then_r ?_
    obtain rfl := some_inj h
    exact leave1 hf rfl rfl ⟨rfl, hM.fin, (R64_lit rfl)⟩
  · refine cond_f hf rfl hc10 ?_
    refine wp_skip ?_
    refine then_n ?_
    obtain ⟨x13, h14, h⟩ := bind_some h
    refine seq_join (fun a w => ∃ (left11 : Int), (.inl left11) = x13 ∧ Has 27 a [(1, vI (left11))] ∧ Mem C w [] [.dat (sliceRep MemberRep) a1 [vL A2 a1 c3]] ∧ R64 left11) ?_ ?_
    · refine wp_seq ?_
      refine region_pl ?_
      refine q_ hf rfl rfl rfl (e_assign hf rfl) fun a hf => ?_
      refine pl_nil ?_
      refine then_n ?_
      refine wp_block ?_
      obtain ⟨x22, h23, h14⟩ := bind_some h14
      refine wp_loopM h23 (fun s a w => ∃ (left15 : Int) (n17 : Int), (left15, n17) = s ∧ Has 27 a [(0, vL A2 (a1) c3), (1, vI (left15)), (5, vI (n17))] ∧ Mem C w [] [.dat (sliceRep MemberRep) a1 [vL A2 a1 c3]] ∧ R64 left15 ∧ R64 n17) ?_ ?_
      · exact ⟨z8, 0, rfl, hf.keep ⟨rfl, rfl, rfl, trivial⟩, hM.pick [0] rfl, (chk_R hz9), (R64_lit rfl)⟩
      · rintro s o24 a w19 ⟨left15, n17, rfl, hf, hM, hv16, hv18⟩ h25 hd26
        replace h25 : m_laws_szMemberS_l1 a1 left15 n17 = some o24 := h25
        unfold m_laws_szMemberS_l1 at h25
        refine wp_seq ?_
        refine wp_seq ?_
        refine region_pl ?_
        refine q_ hf rfl rfl rfl (e_move hf rfl) fun a hf => ?_
        refine q_ hf rfl rfl rfl (e_move hf rfl) fun a hf => ?_
        have hl27 := slice_len (hM.dat (k := 0) rfl)
        refine q_ hf rfl rfl rfl (e_lenL hf (x := a1) rfl Try.underlying48) fun a hf => ?_
        refine q_ hf rfl rfl rfl (e_lt hf (x := n17) (y := (a1.length : Int)) rfl rfl) fun a hf => ?_
        refine pl_nil ?_
        refine then_n ?_
        rcases cond_some h25 with ⟨hc28, h25⟩ | ⟨hc28, h25⟩
        · refine cond_t hf rfl hc28 ?_
          refine wp_skip ?_
          refine then_n ?_
          refine wp_seq ?_
          refine wp_block ?_
          refine wp_seq ?_
          refine region_pl ?_
          refine q_ hf rfl rfl rfl (e_move hf rfl) fun a hf => ?_
          refine q_ hf rfl rfl rfl (e_move hf rfl) fun a hf => ?_
          obtain ⟨e29, hz30, h25⟩ := bind_some h25
          obtain ⟨b34, o35, _, hA36, h31, h32, hr33, hM⟩ := hM.elem (hM.dat (k := 0) rfl) (n := 2) rfl hz30
          obtain ⟨rfl, hv37, hv38⟩ := MemberRep_open hr33
          refine q_ hf rfl rfl rfl (e_indexAddr (A := A2) (b := b34) (o := o35) (xs := a1) (i := n17) hf hA36 rfl rfl Try.underlying48 Try.sizeOf140 h31 h32) fun a hf => ?_
          refine q_ hf rfl rfl rfl (e_loadA hf (us := [vS (e29.Name), vI (e29.Rating)]) rfl ⟨Try.isAgg140, Try.sizeOf140⟩ rfl (hM.litSub (k := 0) (d := 0) (us := [vS (e29.Name), vI (e29.Rating)]) rfl rfl rfl)) fun a hf => ?_
          refine q_ hf rfl rfl rfl (e_move hf rfl) fun a hf => ?_
          obtain ⟨y39, hz40, h25⟩ := bind_some h25
          refine pl_l hf rfl rfl rfl (w_call hf Try.call105 rfl (r_laws_szMember ⟨_, Sh C _ _, none_, hM.sh_lt, none_not⟩ e29 hv37 hv38 left15 hv16 _ hz40) ?_)
          rintro _ w42 ⟨rfl, hM2, hv41⟩
          obtain ⟨hM, hx43, hup44⟩ := hM.back hM2
          dsimp only [List.cons_append, List.nil_append] at hM hup44
          clear hM2
          refine ⟨_, rfl, fun a hf => ?_⟩
          refine q_ hf rfl rfl rfl (e_assign hf rfl) fun a hf => ?_
          refine pl_nil ?_
          refine then_n ?_
          refine wp_seq ?_
          refine region_pl ?_
          refine q_ hf rfl rfl rfl (e_move hf rfl) fun a hf => ?_
          refine q_ hf rfl rfl rfl (e_lt hf (x := y39) (y := 0) rfl rfl) fun a hf => ?_
          refine pl_nil ?_
          refine then_n ?_
          rcases cond_some h25 with ⟨hc45, h25⟩ | ⟨hc45, h25⟩
          · refine cond_t hf rfl hc45 ?_
            refine wp_seq ?_
            refine region_pl ?_
            refine q_ hf rfl rfl rfl (e_assign hf rfl) fun a hf => ?_
            refine pl_nil ?_
            refine then_n ?_
            refine wp_ret ?_
            refine blk_r ?_
            refine then_r ?_
            obtain rfl := some_inj h25
            obtain rfl := hd26 _ rfl
            try dsimp only at h14
            refine then_r ?_
            refine blk_r ?_
            obtain rfl := some_inj h14
            try dsimp only at h
            refine then_r ?_
            obtain rfl := some_inj h
            exact leave1 hf rfl rfl ⟨rfl, hM.fin, (R64_lit rfl)⟩
          · refine cond_f hf rfl hc45 ?_
            refine wp_skip ?_
            refine blk_n ?_
            refine then_n ?_
            refine region_pl ?_
            refine q_ hf rfl rfl rfl (e_move hf rfl) fun a hf => ?_
            obtain ⟨z46, hz47, h25⟩ := bind_some h25
            refine q_ hf rfl rfl rfl (e_add hf rfl rfl hz47) fun a hf => ?_
            refine q_ hf rfl rfl rfl (e_assign hf rfl) fun a hf => ?_
            refine pl_nil ?_
            obtain rfl := some_inj h25
            refine then_n ⟨_, rfl, ?_⟩
            exact ⟨y39, z46, rfl, hf.keep ⟨rfl, rfl, rfl, trivial⟩, hM.pick [1] rfl, hv41, (chk_R hz47)⟩
        · refine cond_f hf rfl hc28 ?_
          refine wp_exit ?_
          refine then_x ?_
          obtain rfl := some_inj h25
          obtain rfl := hd26 _ rfl
          try dsimp only at h14
          refine then_x ?_
          refine exit_hit ?_
          obtain rfl := some_inj h14
          refine then_n ?_
          exact ⟨left15, rfl, hf.keep ⟨rfl, trivial⟩, hM.pick [0] rfl, hv16⟩
    · rintro a w54 ⟨left11, rfl, hf, hM, hv12⟩
      try dsimp only at h
      refine wp_seq ?_
      refine region_pl ?_
      refine q_ hf rfl rfl rfl (e_move hf rfl) fun a hf => ?_
      refine q_ hf rfl rfl rfl (e_assign hf rfl) fun a hf => ?_
      refine pl_nil ?_
      refine then_n ?_
      refine wp_ret ?_
      obtain rfl := some_inj h
      exact leave1 hf rfl rfl ⟨rfl, hM.fin, hv12⟩

set_option maxRecDepth 100000 in
set_option maxHeartbeats 4000000 in
theorem r_laws_szClub (C : Cx) (a1 : Club) (A2 : Option Addr) (c3 : Nat) (hp4 : (sliceRep MemberRep).R C.w0 C.S0 a1.Members [vL A2 a1.Members c3]) (left5 : Int) (hp6 : R64 left5) (r : Int) (h : m_laws_szClub a1 left5 = some r) :
    Calls Try.prog 32 #[.agg #[vL A2 (a1.Members) c3], vI (left5)] C.w0 fun e w => e = .returned (vI (r)) ∧ Mem C w [] [] ∧ R64 r := by
  have hM := Mem.begin C [.dat (sliceRep MemberRep) a1.Members [vL A2 a1.Members c3]] ⟨hp4, trivial⟩
  refine enter Try.func32 rfl Try.ntmps32 rfl fun a hf => ?_
  unfold m_laws_szClub at h
  refine wp_seq ?_
  refine region_pl ?_
  refine pl_l hf rfl rfl rfl (w_box hf hM (cs := [vL A2 (a1.Members) c3]) rfl rfl fun b7 w8 hx9 hM a hf => ?_)
  refine q_ hf rfl rfl rfl (e_assign hf rfl) fun a hf => ?_
  refine pl_nil ?_
  refine then_n ?_
  refine wp_seq ?_
  refine region_pl ?_
  refine q_ hf rfl rfl rfl (e_field hf rfl Try.underlying50 rfl Try.sizeOf48 (o' := 0) rfl) fun a hf => ?_
  refine q_ hf rfl rfl rfl (e_load1 hf rfl Try.isAgg48 (hM.boxCell (k := 0) rfl rfl)) fun a hf => ?_
  refine q_ hf rfl rfl rfl (e_move hf rfl) fun a hf => ?_
  obtain ⟨y11, hz12, h⟩ := bind_some h
  refine pl_l hf rfl rfl rfl (w_call hf Try.call73 rfl (r_laws_szMemberS ⟨_, Sh C _ _, none_, hM.sh_lt, none_not⟩ a1.Members _ _ (hM.dat (k := 0) rfl) left5 hp6 _ hz12) ?_)
  rintro _ w14 ⟨rfl, hM2, hv13⟩
  obtain ⟨hM, hx15, hup16⟩ := hM.back hM2
  dsimp only [List.cons_append, List.nil_append] at hM hup16
  clear hM2
  refine ⟨_, rfl, fun a hf => ?_⟩
  refine q_ hf rfl rfl rfl (e_assign hf rfl) fun a hf => ?_
  refine pl_nil ?_
  refine then_n ?_
  refine wp_seq ?_
  refine wp_seq ?_
  refine region_pl ?_
  refine q_ hf rfl rfl rfl (e_move hf rfl) fun a hf => ?_
  refine q_ hf rfl rfl rfl (e_lt hf (x := y11) (y := 0) rfl rfl) fun a hf => ?_
  refine pl_nil ?_
  refine then_n ?_
  rcases cond_some h with ⟨hc17, h⟩ | ⟨hc17, h⟩
  · refine cond_t hf rfl hc17 ?_
    refine wp_seq ?_
    refine region_pl ?_
    refine q_ hf rfl rfl rfl (e_assign hf rfl) fun a hf => ?_
    refine pl_nil ?_
    refine then_n ?_
    refine wp_ret ?_
    refine then_r ?_
    obtain rfl := some_inj h
    have hM := hM.outs (own' := []) 0 rfl
    exact leave1 hf rfl rfl ⟨rfl, hM.fin, (R64_lit rfl)⟩
  · refine cond_f hf rfl hc17 ?_
    refine wp_skip ?_
    refine then_n ?_
    refine wp_seq ?_
    refine region_pl ?_
    refine q_ hf rfl rfl rfl (e_move hf rfl) fun a hf => ?_
    refine q_ hf rfl rfl rfl (e_assign hf rfl) fun a hf => ?_
    refine pl_nil ?_
    refine then_n ?_
    refine wp_ret ?_
    obtain rfl := some_inj h
    have hM := hM.outs (own' := []) 0 rfl
    exact leave1 hf rfl rfl ⟨rfl, hM.fin, hv13⟩

set_option maxRecDepth 100000 in
set_option maxHeartbeats 4000000 in
theorem r_laws_toMember (C : Cx) (a1 : Member) (hp2 : a1.Name.length ≤ maxLen) (hp3 : R64 a1.Rating) (r : Member) (h : m_laws_toMember a1 = some r) :
    Calls Try.prog 106 #[.agg #[vS (a1.Name), vI (a1.Rating)]] C.w0 fun e w => e = .returned (.agg #[vS (r.Name), vI (r.Rating)]) ∧ Mem C w [] [] ∧ r.Name.length ≤ maxLen ∧ R64 r.Rating := by
  have hM := Mem.begin C [] trivial
  refine enter Try.func106 rfl Try.ntmps106 rfl fun a hf => ?_
  unfold m_laws_toMember at h
  refine wp_seq ?_
  refine region_pl ?_
  refine pl_l hf rfl rfl rfl (w_box hf hM (cs := [vS (a1.Name), vI (a1.Rating)]) rfl rfl fun b4 w5 hx6 hM a hf => ?_)
  refine pl_l hf rfl rfl rfl (w_alloc hM (cs := [vS (([] : Str)), vI (0)]) Try.zeroValue103 rfl fun b8 w9 hx10 hM a hf => ?_)
  refine pl_nil ?_
  refine then_n ?_
  refine wp_seq ?_
  refine region_pl ?_
  refine pl_l hf rfl rfl rfl (w_alloc hM (cs := [vS (([] : Str)), vI (0)]) Try.zeroValue103 rfl fun b12 w13 hx14 hM a hf => ?_)
  refine pl_nil ?_
  refine then_n ?_
  refine wp_seq ?_
  refine region_pl ?_
  refine q_ hf rfl rfl rfl (e_field hf rfl Try.underlying140 rfl Try.sizeOf9 (o' := 0) rfl) fun a hf => ?_
  refine q_ hf rfl rfl rfl (e_load1 hf rfl Try.isAgg9 (hM.boxCell (k := 2) rfl rfl)) fun a hf => ?_
  refine q_ hf rfl rfl rfl (e_field hf rfl Try.underlying103 rfl Try.sizeOf9 (o' := 0) rfl) fun a hf => ?_
  refine pl_0 hf rfl rfl (w_store hf hM (us := [vS (a1.Name)]) (cs' := [vS (a1.Name), vI (0)]) rfl rfl (k := 0) rfl rfl Try.sizeOf9 rfl rfl rfl fun w16 hM => ?_)
  dsimp only [List.set] at hM
  refine pl_nil ?_
  refine then_n ?_
  refine wp_seq ?_
  refine region_pl ?_
  refine q_ hf rfl rfl rfl (e_field hf rfl Try.underlying140 rfl Try.sizeOf2 (o' := 1) rfl) fun a hf => ?_
  refine q_ hf rfl rfl rfl (e_load1 hf rfl Try.isAgg2 (hM.boxCell (k := 2) rfl rfl)) fun a hf => ?_
  refine q_ hf rfl rfl rfl (e_field hf rfl Try.underlying103 rfl Try.sizeOf2 (o' := 1) rfl) fun a hf => ?_
  refine pl_0 hf rfl rfl (w_store hf hM (us := [vI (a1.Rating)]) (cs' := [vS (a1.Name), vI (a1.Rating)]) rfl rfl (k := 0) rfl rfl Try.sizeOf2 rfl rfl rfl fun w19 hM => ?_)
  dsimp only [List.set] at hM
  refine pl_nil ?_
  refine then_n ?_
  refine wp_seq ?_
  refine region_pl ?_
  refine q_ hf rfl rfl rfl (e_loadA hf (us := [vS (a1.Name), vI (a1.Rating)]) rfl ⟨Try.isAgg103, Try.sizeOf103⟩ rfl (hM.boxSub (k := 0) (us := [vS (a1.Name), vI (a1.Rating)]) (o := 0) rfl rfl)) fun a hf => ?_
  refine pl_0 hf rfl rfl (w_store hf hM (us := [vS (a1.Name), vI (a1.Rating)]) (cs' := [vS (a1.Name), vI (a1.Rating)]) rfl rfl (k := 1) rfl rfl Try.sizeOf103 rfl rfl rfl fun w22 hM => ?_)
  dsimp only [List.set] at hM
  refine pl_nil ?_
  refine then_n ?_
  refine wp_ret ?_
  obtain rfl := some_inj h
  have hres25 := leaveV1 (P := Try.prog) Try.results106 (res_agg hf rfl ⟨Try.isAgg103, Try.sizeOf103⟩ (us := [vS (a1.Name), vI (a1.Rating)]) rfl (hM.boxSub (k := 1) (o := 0) rfl rfl))
  have hM := hM.outs (own' := []) 0 rfl
  exact bodyPost_ret hres25 hf.defers ⟨rfl, hM.fin, hp2, hp3⟩

set_option maxRecDepth 100000 in
set_option maxHeartbeats 4000000 in
theorem r_laws_toMemberS (C : Cx) (a1 : (List Member)) (A2 : Option Addr) (c3 : Nat) (hp4 : (sliceRep MemberRep).R C.w0 C.S0 a1 [vL A2 a1 c3]) (r : (List Member)) (h : m_laws_toMemberS a1 = some r) :
    Calls Try.prog 74 #[vL A2 (a1) c3] C.w0 fun e w => ∃ (A_1 : Option Addr), ∃ (c_1 : Nat), e = .returned (vL A_1 (r) c_1) ∧ Mem C w [.row MemberRep A_1 c_1 103 r true] [] := by
  have hM := Mem.begin C [.dat (sliceRep MemberRep) a1 [vL A2 a1 c3]] ⟨hp4, trivial⟩
  refine enter Try.func74 rfl Try.ntmps74 rfl fun a hf => ?_
  unfold m_laws_toMemberS at h
  refine wp_seq ?_
  refine region_pl ?_
  refine q_ hf rfl rfl rfl (e_assign hf rfl) fun a hf => ?_
  refine pl_nil ?_
  refine then_n ?_
  refine wp_seq ?_
  refine region_pl ?_
  refine q_ hf rfl rfl rfl (e_move hf rfl) fun a hf => ?_
  have hl5 := slice_len (hM.dat (k := 0) rfl)
  refine q_ hf rfl rfl rfl (e_lenL hf (x := a1) rfl Try.underlying48) fun a hf => ?_
  obtain ⟨xs6, hz7, h⟩ := bind_some h
  refine pl_l hf rfl rfl rfl (w_make hf hM (K := MemberRep) Try.underlying53 ei_103 Try.zeroValue103 rfl rfl rfl (MemberRep_mk (x := (⟨([] : Str), 0⟩ : Member)) (lit_len rfl) (R64_lit rfl)) hz7 fun b8 w9 hx10 hM a hf => ?_)
  refine q_ hf rfl rfl rfl (e_assign hf rfl) fun a hf => ?_
  refine pl_nil ?_
  refine then_n ?_
  obtain ⟨x12, h13, h⟩ := bind_some h
  refine seq_join (fun a w => ∃ (xs11 : (List Member)), xs11 = x12 ∧ Has 23 a [(3, vL (some ⟨b8, 0, none⟩) (xs11) (((a1.length : Int) : Int).toNat))] ∧ Mem C w [.row MemberRep (some ⟨b8, 0, none⟩) (((a1.length : Int) : Int).toNat) 103 xs11 true] [.dat (sliceRep MemberRep) a1 [vL A2 a1 c3]]) ?_ ?_
  · refine wp_seq ?_
    refine region_pl ?_
    refine q_ hf rfl rfl rfl (e_assign hf rfl) fun a hf => ?_
    refine pl_nil ?_
    refine then_n ?_
    refine wp_block ?_
    obtain ⟨x19, h20, h13⟩ := bind_some h13
    refine wp_loopM h20 (fun s a w => ∃ (xs14 : (List Member)) (n15 : Int), (xs14, n15) = s ∧ Has 23 a [(0, vL A2 (a1) c3), (3, vL (some ⟨b8, 0, none⟩) (xs14) (((a1.length : Int) : Int).toNat)), (4, vI (n15))] ∧ Mem C w [.row MemberRep (some ⟨b8, 0, none⟩) (((a1.length : Int) : Int).toNat) 103 xs14 true] [.dat (sliceRep MemberRep) a1 [vL A2 a1 c3]] ∧ R64 n15) ?_ ?_
    · exact ⟨xs6, 0, rfl, hf.keep ⟨rfl, rfl, rfl, trivial⟩, hM.pick [0] rfl, (R64_lit rfl)⟩
    · rintro s o21 a w17 ⟨xs14, n15, rfl, hf, hM, hv16⟩ h22 hd23
      replace h22 : m_laws_toMemberS_l1 a1 xs14 n15 = some o21 := h22
      unfold m_laws_toMemberS_l1 at h22
      refine wp_seq ?_
      refine wp_seq ?_
      refine region_pl ?_
      refine q_ hf rfl rfl rfl (e_move hf rfl) fun a hf => ?_
      refine q_ hf rfl rfl rfl (e_move hf rfl) fun a hf => ?_
      have hl24 := slice_len (hM.dat (k := 0) rfl)
      refine q_ hf rfl rfl rfl (e_lenL hf (x := a1) rfl Try.underlying48) fun a hf => ?_
      refine q_ hf rfl rfl rfl (e_lt hf (x := n15) (y := (a1.length : Int)) rfl rfl) fun a hf => ?_
      refine pl_nil ?_
      refine then_n ?_
      rcases cond_some h22 with ⟨hc25, h22⟩ | ⟨hc25, h22⟩
      · refine cond_t hf rfl hc25 ?_
        refine wp_skip ?_
        refine then_n ?_
        refine wp_seq ?_
        refine wp_block ?_
        refine region_pl ?_
        refine q_ hf rfl rfl rfl (e_move hf rfl) fun a hf => ?_
        refine q_ hf rfl rfl rfl (e_move hf rfl) fun a hf => ?_
        refine q_ hf rfl rfl rfl (e_move hf rfl) fun a hf => ?_
        refine q_ hf rfl rfl rfl (e_move hf rfl) fun a hf => ?_
        obtain ⟨e26, hz27, h22⟩ := bind_some h22
        obtain ⟨b31, o32, _, hA33, h28, h29, hr30, hM⟩ := hM.elem (hM.dat (k := 0) rfl) (n := 2) rfl hz27
        obtain ⟨rfl, hv34, hv35⟩ := MemberRep_open hr30
        refine q_ hf rfl rfl rfl (e_indexAddr (A := A2) (b := b31) (o := o32) (xs := a1) (i := n15) hf hA33 rfl rfl Try.underlying48 Try.sizeOf140 h28 h29) fun a hf => ?_
        refine q_ hf rfl rfl rfl (e_loadA hf (us := [vS (e26.Name), vI (e26.Rating)]) rfl ⟨Try.isAgg140, Try.sizeOf140⟩ rfl (hM.litSub (k := 0) (d := 0) (us := [vS (e26.Name), vI (e26.Rating)]) rfl rfl rfl)) fun a hf => ?_
        obtain ⟨y36, hz37, h22⟩ := bind_some h22
        refine pl_l hf rfl rfl rfl (w_call hf Try.call106 rfl (r_laws_toMember ⟨_, Sh C _ _, none_, hM.sh_lt, none_not⟩ e26 hv34 hv35 _ hz37) ?_)
        rintro _ w40 ⟨rfl, hM2, hv38, hv39⟩
        obtain ⟨hM, hx41, hup42⟩ := hM.back hM2
        dsimp only [List.cons_append, List.nil_append] at hM hup42
        clear hM2
        refine ⟨_, rfl, fun a hf => ?_⟩
        obtain ⟨e43, hz44, h22⟩ := bind_some h22
        obtain ⟨_, h45, h46, hr47, hcell48⟩ := hM.rowElem' (k := 0) rfl (n := 2) rfl hz44
        obtain ⟨rfl, hv49, hv50⟩ := MemberRep_open hr47
        refine q_ hf rfl rfl rfl (e_indexAddr (A := (some ⟨b8, 0, none⟩)) (b := b8) (o := 0) (xs := xs14) (i := n15) hf rfl rfl rfl Try.underlying53 Try.sizeOf103 h45 h46) fun a hf => ?_
        obtain ⟨xs52, hz53, h22⟩ := bind_some h22
        refine pl_0 hf rfl rfl (w_storeElem hf hM (x := y36) (row := [vS (y36.Name), vI (y36.Rating)]) (i := n15) rfl rfl rfl rfl (k := 0) rfl rfl Try.sizeOf103 (MemberRep_mk (x := y36) hv38 hv39) hz53 fun w51 hM => ?_)
        dsimp only [List.set] at hM
        have hf := hf.alter (d := 3) (v := vL (some ⟨b8, 0, none⟩) (xs52) (((a1.length : Int) : Int).toNat)) rfl (vL_len (setL_len hz53))
        have hf := hf.alter (d := 14) (v := vL (some ⟨b8, 0, none⟩) (xs52) (((a1.length : Int) : Int).toNat)) rfl (vL_len (setL_len hz53))
        refine pl_nil ?_
        refine blk_n ?_
        refine then_n ?_
        refine region_pl ?_
        refine q_ hf rfl rfl rfl (e_move hf rfl) fun a hf => ?_
        obtain ⟨z54, hz55, h22⟩ := bind_some h22
        refine q_ hf rfl rfl rfl (e_add hf rfl rfl hz55) fun a hf => ?_
        refine q_ hf rfl rfl rfl (e_assign hf rfl) fun a hf => ?_
        refine pl_nil ?_
        obtain rfl := some_inj h22
        refine then_n ⟨_, rfl, ?_⟩
        exact ⟨xs52, z54, rfl, hf.keep ⟨rfl, rfl, rfl, trivial⟩, hM.pick [1] rfl, (chk_R hz55)⟩
      · refine cond_f hf rfl hc25 ?_
        refine wp_exit ?_
        refine then_x ?_
        obtain rfl := some_inj h22
        obtain rfl := hd23 _ rfl
        try dsimp only at h13
        refine then_x ?_
        refine exit_hit ?_
        obtain rfl := some_inj h13
        refine then_n ?_
        exact ⟨xs14, rfl, hf.keep ⟨rfl, trivial⟩, hM.pick [0] rfl⟩
  · rintro a w61 ⟨xs11, rfl, hf, hM⟩
    try dsimp only at h
    refine wp_seq ?_
    refine region_pl ?_
    refine q_ hf rfl rfl rfl (e_move hf rfl) fun a hf => ?_
    refine q_ hf rfl rfl rfl (e_assign hf rfl) fun a hf => ?_
    refine pl_nil ?_
    refine then_n ?_
    refine wp_ret ?_
    obtain rfl := some_inj h
    exact leave1 hf rfl rfl ⟨(some ⟨b8, 0, none⟩), (((a1.length : Int) : Int).toNat), rfl, hM.fin⟩

set_option maxRecDepth 100000 in
set_option maxHeartbeats 4000000 in
theorem r_laws_toClub (C : Cx) (a1 : Club) (A2 : Option Addr) (c3 : Nat) (hp4 : (sliceRep MemberRep).R C.w0 C.S0 a1.Members [vL A2 a1.Members c3]) (r : Club) (h : m_laws_toClub a1 = some r) :
    Calls Try.prog 34 #[.agg #[vL A2 (a1.Members) c3]] C.w0 fun e w => ∃ (A_1 : Option Addr), ∃ (c_1 : Nat), e = .returned (.agg #[vL A_1 (r.Members) c_1]) ∧ Mem C w [.row MemberRep A_1 c_1 103 r.Members true] [] := by
  have hM := Mem.begin C [.dat (sliceRep MemberRep) a1.Members [vL A2 a1.Members c3]] ⟨hp4, trivial⟩
  refine enter Try.func34 rfl Try.ntmps34 rfl fun a hf => ?_
  unfold m_laws_toClub at h
  refine wp_seq ?_
  refine region_pl ?_
  refine pl_l hf rfl rfl rfl (w_box hf hM (cs := [vL A2 (a1.Members) c3]) rfl rfl fun b5 w6 hx7 hM a hf => ?_)
  refine pl_l hf rfl rfl rfl (w_alloc hM (cs := [vL none (([] : (List Member))) 0]) Try.zeroValue55 rfl fun b9 w10 hx11 hM a hf => ?_)
  refine pl_nil ?_
  refine then_n ?_
  refine wp_seq ?_
  refine region_pl ?_
  refine pl_l hf rfl rfl rfl (w_alloc hM (cs := [vL none (([] : (List Member))) 0]) Try.zeroValue55 rfl fun b13 w14 hx15 hM a hf => ?_)
  refine pl_nil ?_
  refine then_n ?_
  refine wp_seq ?_
  refine region_pl ?_
  refine q_ hf rfl rfl rfl (e_field hf rfl Try.underlying50 rfl Try.sizeOf48 (o' := 0) rfl) fun a hf => ?_
  refine q_ hf rfl rfl rfl (e_load1 hf rfl Try.isAgg48 (hM.boxCell (k := 2) rfl rfl)) fun a hf => ?_
  obtain ⟨y17, hz18, h⟩ := bind_some h
  refine pl_l hf rfl rfl rfl (w_call hf Try.call74 rfl (r_laws_toMemberS ⟨_, Sh C _ _, none_, hM.sh_lt, none_not⟩ a1.Members _ _ (hM.dat (k := 0) rfl) _ hz18) ?_)
  rintro _ w21 ⟨A19, c20, rfl, hM2⟩
  obtain ⟨hM, hx22, hup23⟩ := hM.back hM2
  dsimp only [List.cons_append, List.nil_append] at hM hup23
  clear hM2
  refine ⟨_, rfl, fun a hf => ?_⟩
  refine q_ hf rfl rfl rfl (e_field hf rfl Try.underlying55 rfl Try.sizeOf53 (o' := 0) rfl) fun a hf => ?_
  refine pl_0 hf rfl rfl (w_store hf hM (us := [vL A19 (y17) c20]) (cs' := [vL A19 (y17) c20]) rfl rfl (k := 1) rfl rfl Try.sizeOf53 rfl rfl rfl fun w24 hM => ?_)
  dsimp only [List.set] at hM
  refine pl_nil ?_
  refine then_n ?_
  refine wp_seq ?_
  refine region_pl ?_
  refine q_ hf rfl rfl rfl (e_loadA hf (us := [vL A19 (y17) c20]) rfl ⟨Try.isAgg55, Try.sizeOf55⟩ rfl (hM.boxSub (k := 1) (us := [vL A19 (y17) c20]) (o := 0) rfl rfl)) fun a hf => ?_
  refine pl_0 hf rfl rfl (w_store hf hM (us := [vL A19 (y17) c20]) (cs' := [vL A19 (y17) c20]) rfl rfl (k := 2) rfl rfl Try.sizeOf55 rfl rfl rfl fun w27 hM => ?_)
  dsimp only [List.set] at hM
  refine pl_nil ?_
  refine then_n ?_
  refine wp_ret ?_
  obtain rfl := some_inj h
  have hres30 := leaveV1 (P := Try.prog) Try.results34 (res_agg hf rfl ⟨Try.isAgg55, Try.sizeOf55⟩ (us := [vL A19 (y17) c20]) rfl (hM.boxSub (k := 2) (o := 0) rfl rfl))
  have hM := hM.outs (own' := [.row MemberRep A19 c20 103 y17 true]) 1 rfl
  exact bodyPost_ret hres30 hf.defers ⟨A19, c20, rfl, hM.fin⟩

set_option maxRecDepth 100000 in
set_option maxHeartbeats 4000000 in
theorem r_spec_l01Small (C : Cx) (c1 : UInt8) (r : Bool) (h : m_spec_l01Small c1 = some r) :
    Calls Try.prog 99 #[vB (c1)] C.w0 fun e w => e = .returned (.bool (r)) ∧ Mem C w [] [] := by
  have hM := Mem.begin C [] trivial
  refine enter Try.func99 rfl Try.ntmps99 rfl fun a hf => ?_
  unfold m_spec_l01Small at h
  refine wp_seq ?_
  refine region_pl ?_
  refine q_ hf rfl rfl rfl (e_assign hf rfl) fun a hf => ?_
  refine pl_nil ?_
  refine then_n ?_
  obtain ⟨x4, h5, h⟩ := bind_some h
  refine seq_join (fun a w => ∃ (t2 : Bool), t2 = x4 ∧ Has 9 a [(2, .bool (t2))] ∧ Mem C w [] []) ?_ ?_
  · refine region_pl ?_
    refine q_ hf rfl rfl rfl (e_move hf rfl) fun a hf => ?_
    refine q_ hf rfl rfl rfl (e_geB hf (x := c1) (y := 97) rfl rfl) fun a hf => ?_
    refine q_ hf rfl rfl rfl (e_move hf rfl) fun a hf => ?_
    rcases cond_some h5 with ⟨hc6, h5⟩ | ⟨hc6, h5⟩
    · refine gq (wanted_t hf rfl rfl rfl rfl hc6) hf rfl rfl (e_move hf rfl) fun a hf => ?_
      refine gq (wanted_t hf rfl rfl rfl rfl hc6) hf rfl rfl (e_leB hf (x := c1) (y := 122) rfl rfl) fun a hf => ?_
      refine q_ hf rfl rfl rfl (e_pick_t hf rfl hc6 rfl) fun a hf => ?_
      refine q_ hf rfl rfl rfl (e_assign hf rfl) fun a hf => ?_
      refine pl_nil ?_
      obtain rfl := some_inj h5
      refine then_n ?_
      exact ⟨(decide (c1 ≤ 122)), rfl, hf.keep ⟨rfl, trivial⟩, hM.pick [] rfl⟩
    · refine pl_gs (wanted_f hf rfl rfl rfl rfl hc6) hf rfl rfl fun a hf => ?_
      refine pl_gs (wanted_f hf rfl rfl rfl rfl hc6) hf rfl rfl fun a hf => ?_
      refine q_ hf rfl rfl rfl (e_pick_f hf rfl hc6 rfl) fun a hf => ?_
      refine q_ hf rfl rfl rfl (e_assign hf rfl) fun a hf => ?_
      refine pl_nil ?_
      obtain rfl := some_inj h5
      refine then_n ?_
      exact ⟨false, rfl, hf.keep ⟨rfl, trivial⟩, hM.pick [] rfl⟩
  · rintro a w9 ⟨t2, rfl, hf, hM⟩
    try dsimp only at h
    refine wp_ret ?_
    obtain rfl := some_inj h
    exact leave1 hf rfl rfl ⟨rfl, hM.fin⟩

set_option maxRecDepth 100000 in
set_option maxHeartbeats 4000000 in
theorem r_spec_l01Digit (C : Cx) (c1 : UInt8) (r : Bool) (h : m_spec_l01Digit c1 = some r) :
    Calls Try.prog 139 #[vB (c1)] C.w0 fun e w => e = .returned (.bool (r)) ∧ Mem C w [] [] := by
  have hM := Mem.begin C [] trivial
  refine enter Try.func139 rfl Try.ntmps139 rfl fun a hf => ?_
  unfold m_spec_l01Digit at h
  refine wp_seq ?_
  refine region_pl ?_
  refine q_ hf rfl rfl rfl (e_assign hf rfl) fun a hf => ?_
  refine pl_nil ?_
  refine then_n ?_
  obtain ⟨x4, h5, h⟩ := bind_some h
  refine seq_join (fun a w => ∃ (t2 : Bool), t2 = x4 ∧ Has 9 a [(2, .bool (t2))] ∧ Mem C w [] []) ?_ ?_
  · refine region_pl ?_
    refine q_ hf rfl rfl rfl (e_move hf rfl) fun a hf => ?_
    refine q_ hf rfl rfl rfl (e_geB hf (x := c1) (y := 48) rfl rfl) fun a hf => ?_
    refine q_ hf rfl rfl rfl (e_move hf rfl) fun a hf => ?_
    rcases cond_some h5 with ⟨hc6, h5⟩ | ⟨hc6, h5⟩
    · refine gq (wanted_t hf rfl rfl rfl rfl hc6) hf rfl rfl (e_move hf rfl) fun a hf => ?_
      refine gq (wanted_t hf rfl rfl rfl rfl hc6) hf rfl rfl (e_leB hf (x := c1) (y := 57) rfl rfl) fun a hf => ?_
      refine q_ hf rfl rfl rfl (e_pick_t hf rfl hc6 rfl) fun a hf => ?_
      refine q_ hf rfl rfl rfl (e_assign hf rfl) fun a hf => ?_
      refine pl_nil ?_
      obtain rfl := some_inj h5
      refine then_n ?_
      exact ⟨(decide (c1 ≤ 57)), rfl, hf.keep ⟨rfl, trivial⟩, hM.pick [] rfl⟩
    · refine pl_gs (wanted_f hf rfl rfl rfl rfl hc6) hf rfl rfl fun a hf => ?_
      refine pl_gs (wanted_f hf rfl rfl rfl rfl hc6) hf rfl rfl fun a hf => ?_
      refine q_ hf rfl rfl rfl (e_pick_f hf rfl hc6 rfl) fun a hf => ?_
      refine q_ hf rfl rfl rfl (e_assign hf rfl) fun a hf => ?_
      refine pl_nil ?_
      obtain rfl := some_inj h5
      refine then_n ?_
      exact ⟨false, rfl, hf.keep ⟨rfl, trivial⟩, hM.pick [] rfl⟩
  · rintro a w9 ⟨t2, rfl, hf, hM⟩
    try dsimp only at h
    refine wp_ret ?_
    obtain rfl := some_inj h
    exact leave1 hf rfl rfl ⟨rfl, hM.fin⟩

set_option maxRecDepth 100000 in
set_option maxHeartbeats 4000000 in
theorem r_spec_IsName (C : Cx) (s1 : Str) (hp2 : s1.length ≤ maxLen) (r : Bool) (h : m_spec_IsName s1 = some r) :
    Calls Try.prog 125 #[vS (s1)] C.w0 fun e w => e = .returned (.bool (r)) ∧ Mem C w [] [] := by
  have hM := Mem.begin C [] trivial
  refine enter Try.func125 rfl Try.ntmps125 rfl fun a hf => ?_
  unfold m_spec_IsName at h
  refine wp_seq ?_
  refine region_pl ?_
  refine q_ hf rfl rfl rfl (e_assign hf rfl) fun a hf => ?_
  refine pl_nil ?_
  refine then_n ?_
  refine wp_seq ?_
  obtain ⟨x5, h6, h⟩ := bind_some h
  refine seq_join (fun a w => ∃ (t3 : Bool), t3 = x5 ∧ Has 41 a [(0, vS (s1)), (16, .bool (t3))] ∧ Mem C w [] []) ?_ ?_
  · refine region_pl ?_
    refine q_ hf rfl rfl rfl (e_move hf rfl) fun a hf => ?_
    refine q_ hf rfl rfl rfl (e_eqS hf (x := s1) (y := ([] : Str)) rfl rfl) fun a hf => ?_
    refine q_ hf rfl rfl rfl (e_move hf rfl) fun a hf => ?_
    rcases cond_some h6 with ⟨hc7, h6⟩ | ⟨hc7, h6⟩
    · refine pl_gs (wanted_f hf rfl rfl rfl rfl hc7) hf rfl rfl fun a hf => ?_
      refine pl_gs (wanted_f hf rfl rfl rfl rfl hc7) hf rfl rfl fun a hf => ?_
      refine pl_gs (wanted_f hf rfl rfl rfl rfl hc7) hf rfl rfl fun a hf => ?_
      refine q_ hf rfl rfl rfl (e_pick_t hf rfl hc7 rfl) fun a hf => ?_
      refine q_ hf rfl rfl rfl (e_move hf rfl) fun a hf => ?_
      refine pl_gs (wanted_f hf rfl rfl rfl rfl rfl) hf rfl rfl fun a hf => ?_
      refine pl_gs (wanted_f hf rfl rfl rfl rfl rfl) hf rfl rfl fun a hf => ?_
      refine pl_gs (wanted_f hf rfl rfl rfl rfl rfl) hf rfl rfl fun a hf => ?_
      refine pl_gs (wanted_f hf rfl rfl rfl rfl rfl) hf rfl rfl fun a hf => ?_
      refine q_ hf rfl rfl rfl (e_pick_t hf rfl rfl rfl) fun a hf => ?_
      refine pl_nil ?_
      obtain rfl := some_inj h6
      refine then_n ?_
      exact ⟨true, rfl, hf.keep ⟨rfl, rfl, trivial⟩, hM.pick [] rfl⟩
    · refine gq (wanted_t hf rfl rfl rfl rfl hc7) hf rfl rfl (e_move hf rfl) fun a hf => ?_
      refine gq (wanted_t hf rfl rfl rfl rfl hc7) hf rfl rfl (e_lenS hf (x := s1) rfl Try.underlying9) fun a hf => ?_
      refine gq (wanted_t hf rfl rfl rfl rfl hc7) hf rfl rfl (e_gt hf (x := (s1.length : Int)) (y := 12) rfl rfl) fun a hf => ?_
      refine q_ hf rfl rfl rfl (e_pick_f hf rfl hc7 rfl) fun a hf => ?_
      refine q_ hf rfl rfl rfl (e_move hf rfl) fun a hf => ?_
      rcases cond_some h6 with ⟨hc9, h6⟩ | ⟨hc9, h6⟩
      · refine pl_gs (wanted_f hf rfl rfl rfl rfl hc9) hf rfl rfl fun a hf => ?_
        refine pl_gs (wanted_f hf rfl rfl rfl rfl hc9) hf rfl rfl fun a hf => ?_
        refine pl_gs (wanted_f hf rfl rfl rfl rfl hc9) hf rfl rfl fun a hf => ?_
        refine pl_gs (wanted_f hf rfl rfl rfl rfl hc9) hf rfl rfl fun a hf => ?_
        refine q_ hf rfl rfl rfl (e_pick_t hf rfl hc9 rfl) fun a hf => ?_
        refine pl_nil ?_
        obtain rfl := some_inj h6
        refine then_n ?_
        exact ⟨true, rfl, hf.keep ⟨rfl, rfl, trivial⟩, hM.pick [] rfl⟩
      · refine gq (wanted_t hf rfl rfl rfl rfl hc9) hf rfl rfl (e_move hf rfl) fun a hf => ?_
        obtain ⟨c11, hz12, h6⟩ := bind_some h6
        refine gq (wanted_t hf rfl rfl rfl rfl hc9) hf rfl rfl (e_indexS hf (x := s1) rfl rfl Try.underlying9 hz12) fun a hf => ?_
        obtain ⟨y13, hz14, h6⟩ := bind_some h6
        refine pl_gl (wanted_t hf rfl rfl rfl rfl hc9) hf rfl rfl (w_call hf Try.call99 rfl (r_spec_l01Small ⟨_, Sh C _ _, none_, hM.sh_lt, none_not⟩ c11 _ hz14) ?_)
        rintro _ w15 ⟨rfl, hM2⟩
        obtain ⟨hM, hx16, hup17⟩ := hM.back hM2
        dsimp only [List.cons_append, List.nil_append] at hM hup17
        clear hM2
        refine ⟨_, rfl, fun a hf => ?_⟩
        refine gq (wanted_t hf rfl rfl rfl rfl hc9) hf rfl rfl (e_not hf rfl) fun a hf => ?_
        refine q_ hf rfl rfl rfl (e_pick_f hf rfl hc9 rfl) fun a hf => ?_
        refine pl_nil ?_
        obtain rfl := some_inj h6
        refine then_n ?_
        exact ⟨(!y13), rfl, hf.keep ⟨rfl, rfl, trivial⟩, hM.pick [] rfl⟩
  · rintro a w19 ⟨t3, rfl, hf, hM⟩
    try dsimp only at h
    rcases cond_some h with ⟨hc20, h⟩ | ⟨hc20, h⟩
    · refine cond_t hf rfl hc20 ?_
      refine wp_seq ?_
      refine region_pl ?_
      refine q_ hf rfl rfl rfl (e_assign hf rfl) fun a hf => ?_
      refine pl_nil ?_
      refine then_n ?_
      refine wp_ret ?_
      refine then_r ?_
      obtain rfl := some_inj h
      exact leave1 hf rfl rfl ⟨rfl, hM.fin⟩
    · refine cond_f hf rfl hc20 ?_
      refine wp_skip ?_
      refine then_n ?_
      obtain ⟨x21, h22, h⟩ := bind_some h
      refine seq_join (fun a w => (.inl ()) = x21 ∧ Has 41 a [] ∧ Mem C w [] []) ?_ ?_
      · refine wp_seq ?_
        refine region_pl ?_
        refine q_ hf rfl rfl rfl (e_assign hf rfl) fun a hf => ?_
        refine pl_nil ?_
        refine then_n ?_
        refine wp_block ?_
        obtain ⟨x26, h27, h22⟩ := bind_some h22
        refine wp_loopM h27 (fun s a w => ∃ (n23 : Int), n23 = s ∧ Has 41 a [(0, vS (s1)), (3, vI (n23))] ∧ Mem C w [] [] ∧ R64 n23) ?_ ?_
        · exact ⟨0, rfl, hf.keep ⟨rfl, rfl, trivial⟩, hM.pick [] rfl, (R64_lit rfl)⟩
        · rintro s o28 a w25 ⟨n23, rfl, hf, hM, hv24⟩ h29 hd30
          replace h29 : m_spec_IsName_l1 s1 n23 = some o28 := h29
          unfold m_spec_IsName_l1 at h29
          refine wp_seq ?_
          refine wp_seq ?_
          refine region_pl ?_
          refine q_ hf rfl rfl rfl (e_move hf rfl) fun a hf => ?_
          refine q_ hf rfl rfl rfl (e_move hf rfl) fun a hf => ?_
          refine q_ hf rfl rfl rfl (e_lenS hf (x := s1) rfl Try.underlying9) fun a hf => ?_
          refine q_ hf rfl rfl rfl (e_lt hf (x := n23) (y := (s1.length : Int)) rfl rfl) fun a hf => ?_
          refine pl_nil ?_
          refine then_n ?_
          rcases cond_some h29 with ⟨hc31, h29⟩ | ⟨hc31, h29⟩
          · refine cond_t hf rfl hc31 ?_
            refine wp_skip ?_
            refine then_n ?_
            refine wp_seq ?_
            refine wp_block ?_
            obtain ⟨x34, h35, h29⟩ := bind_some h29
            refine seq_join (fun a w => ∃ (t32 : Bool), t32 = x34 ∧ Has 41 a [(0, vS (s1)), (3, vI (n23)), (40, .bool (t32))] ∧ Mem C w [] []) ?_ ?_
            · refine region_pl ?_
              refine q_ hf rfl rfl rfl (e_move hf rfl) fun a hf => ?_
              refine q_ hf rfl rfl rfl (e_move hf rfl) fun a hf => ?_
              obtain ⟨c36, hz37, h35⟩ := bind_some h35
              refine q_ hf rfl rfl rfl (e_indexS hf (x := s1) rfl rfl Try.underlying9 hz37) fun a hf => ?_
              obtain ⟨y38, hz39, h35⟩ := bind_some h35
              refine pl_l hf rfl rfl rfl (w_call hf Try.call99 rfl (r_spec_l01Small ⟨_, Sh C _ _, none_, hM.sh_lt, none_not⟩ c36 _ hz39) ?_)
              rintro _ w40 ⟨rfl, hM2⟩
              obtain ⟨hM, hx41, hup42⟩ := hM.back hM2
              dsimp only [List.cons_append, List.nil_append] at hM hup42
              clear hM2
              refine ⟨_, rfl, fun a hf => ?_⟩
              refine q_ hf rfl rfl rfl (e_not hf rfl) fun a hf => ?_
              refine q_ hf rfl rfl rfl (e_move hf rfl) fun a hf => ?_
              rcases cond_some h35 with ⟨hc43, h35⟩ | ⟨hc43, h35⟩
              · refine gq (wanted_t hf rfl rfl rfl rfl hc43) hf rfl rfl (e_move hf rfl) fun a hf => ?_
                refine gq (wanted_t hf rfl rfl rfl rfl hc43) hf rfl rfl (e_move hf rfl) fun a hf => ?_
                obtain ⟨c44, hz45, h35⟩ := bind_some h35
                refine gq (wanted_t hf rfl rfl rfl rfl hc43) hf rfl rfl (e_indexS hf (x := s1) rfl rfl Try.underlying9 hz45) fun a hf => ?_
                obtain ⟨y46, hz47, h35⟩ := bind_some h35
                refine pl_gl (wanted_t hf rfl rfl rfl rfl hc43) hf rfl rfl (w_call hf Try.call139 rfl (r_spec_l01Digit ⟨_, Sh C _ _, none_, hM.sh_lt, none_not⟩ c44 _ hz47) ?_)
                rintro _ w48 ⟨rfl, hM2⟩
                obtain ⟨hM, hx49, hup50⟩ := hM.back hM2
                dsimp only [List.cons_append, List.nil_append] at hM hup50
                clear hM2
                refine ⟨_, rfl, fun a hf => ?_⟩
                refine gq (wanted_t hf rfl rfl rfl rfl hc43) hf rfl rfl (e_not hf rfl) fun a hf => ?_
                refine q_ hf rfl rfl rfl (e_pick_t hf rfl hc43 rfl) fun a hf => ?_
                refine q_ hf rfl rfl rfl (e_move hf rfl) fun a hf => ?_
                rcases cond_some h35 with ⟨hc51, h35⟩ | ⟨hc51, h35⟩
                · refine gq (wanted_t hf rfl rfl rfl rfl hc51) hf rfl rfl (e_move hf rfl) fun a hf => ?_
                  refine gq (wanted_t hf rfl rfl rfl rfl hc51) hf rfl rfl (e_move hf rfl) fun a hf => ?_
                  obtain ⟨c52, hz53, h35⟩ := bind_some h35
                  refine gq (wanted_t hf rfl rfl rfl rfl hc51) hf rfl rfl (e_indexS hf (x := s1) rfl rfl Try.underlying9 hz53) fun a hf => ?_
                  refine gq (wanted_t hf rfl rfl rfl rfl hc51) hf rfl rfl (e_neB hf (x := c52) (y := 45) rfl rfl) fun a hf => ?_
                  refine q_ hf rfl rfl rfl (e_pick_t hf rfl hc51 rfl) fun a hf => ?_
                  refine pl_nil ?_
                  obtain rfl := some_inj h35
                  refine then_n ?_
                  exact ⟨(c52 != 45), rfl, hf.keep ⟨rfl, rfl, rfl, trivial⟩, hM.pick [] rfl⟩
                · refine pl_gs (wanted_f hf rfl rfl rfl rfl hc51) hf rfl rfl fun a hf => ?_
                  refine pl_gs (wanted_f hf rfl rfl rfl rfl hc51) hf rfl rfl fun a hf => ?_
                  refine pl_gs (wanted_f hf rfl rfl rfl rfl hc51) hf rfl rfl fun a hf => ?_
                  refine pl_gs (wanted_f hf rfl rfl rfl rfl hc51) hf rfl rfl fun a hf => ?_
                  refine q_ hf rfl rfl rfl (e_pick_f hf rfl hc51 rfl) fun a hf => ?_
                  refine pl_nil ?_
                  obtain rfl := some_inj h35
                  refine then_n ?_
                  exact ⟨false, rfl, hf.keep ⟨rfl, rfl, rfl, trivial⟩, hM.pick [] rfl⟩
              · refine pl_gs (wanted_f hf rfl rfl rfl rfl hc43) hf rfl rfl fun a hf => ?_
                refine pl_gs (wanted_f hf rfl rfl rfl rfl hc43) hf rfl rfl fun a hf => ?_
                refine pl_gs (wanted_f hf rfl rfl rfl rfl hc43) hf rfl rfl fun a hf => ?_
                refine pl_gs (wanted_f hf rfl rfl rfl rfl hc43) hf rfl rfl fun a hf => ?_
                refine pl_gs (wanted_f hf rfl rfl rfl rfl hc43) hf rfl rfl fun a hf => ?_
                refine q_ hf rfl rfl rfl (e_pick_f hf rfl hc43 rfl) fun a hf => ?_
                refine q_ hf rfl rfl rfl (e_move hf rfl) fun a hf => ?_
                refine pl_gs (wanted_f hf rfl rfl rfl rfl rfl) hf rfl rfl fun a hf => ?_
                refine pl_gs (wanted_f hf rfl rfl rfl rfl rfl) hf rfl rfl fun a hf => ?_
                refine pl_gs (wanted_f hf rfl rfl rfl rfl rfl) hf rfl rfl fun a hf => ?_
                refine pl_gs (wanted_f hf rfl rfl rfl rfl rfl) hf rfl rfl fun a hf => ?_
                refine q_ hf rfl rfl rfl (e_pick_f hf rfl rfl rfl) fun a hf => ?_
                refine pl_nil ?_
                obtain rfl := some_inj h35
                refine then_n ?_
                exact ⟨false, rfl, hf.keep ⟨rfl, rfl, rfl, trivial⟩, hM.pick [] rfl⟩
            · rintro a w57 ⟨t32, rfl, hf, hM⟩
              try dsimp only at h29
              rcases cond_some h29 with ⟨hc58, h29⟩ | ⟨hc58, h29⟩
              · refine cond_t hf rfl hc58 ?_
                refine wp_seq ?_
                refine region_pl ?_
                refine q_ hf rfl rfl rfl (e_assign hf rfl) fun a hf => ?_
                refine pl_nil ?_
                refine then_n ?_
                refine wp_ret ?_
                refine blk_r ?_
                refine then_r ?_
                obtain rfl := some_inj h29
                obtain rfl := hd30 _ rfl
                try dsimp only at h22
                refine then_r ?_
                refine blk_r ?_
                obtain rfl := some_inj h22
                try dsimp only at h
                refine then_r ?_
                obtain rfl := some_inj h
                exact leave1 hf rfl rfl ⟨rfl, hM.fin⟩
              · refine cond_f hf rfl hc58 ?_
                refine wp_skip ?_
                refine blk_n ?_
                refine then_n ?_
                refine region_pl ?_
                refine q_ hf rfl rfl rfl (e_move hf rfl) fun a hf => ?_
                obtain ⟨z59, hz60, h29⟩ := bind_some h29
                refine q_ hf rfl rfl rfl (e_add hf rfl rfl hz60) fun a hf => ?_
                refine q_ hf rfl rfl rfl (e_assign hf rfl) fun a hf => ?_
                refine pl_nil ?_
                obtain rfl := some_inj h29
                refine then_n ⟨_, rfl, ?_⟩
                exact ⟨z59, rfl, hf.keep ⟨rfl, rfl, trivial⟩, hM.pick [] rfl, (chk_R hz60)⟩
          · refine cond_f hf rfl hc31 ?_
            refine wp_exit ?_
            refine then_x ?_
            obtain rfl := some_inj h29
            obtain rfl := hd30 _ rfl
            try dsimp only at h22
            refine then_x ?_
            refine exit_hit ?_
            obtain rfl := some_inj h22
            refine then_n ?_
            exact ⟨rfl, hf.keep trivial, hM.pick [] rfl⟩
      · rintro a w67 ⟨rfl, hf, hM⟩
        try dsimp only at h
        refine wp_seq ?_
        refine region_pl ?_
        refine q_ hf rfl rfl rfl (e_assign hf rfl) fun a hf => ?_
        refine pl_nil ?_
        refine then_n ?_
        refine wp_ret ?_
        obtain rfl := some_inj h
        exact leave1 hf rfl rfl ⟨rfl, hM.fin⟩

set_option maxRecDepth 100000 in
set_option maxHeartbeats 4000000 in
theorem r_spec_l00In (C : Cx) (n1 : Int) (hp2 : R64 n1) (low3 : Int) (hp4 : R64 low3) (high5 : Int) (hp6 : R64 high5) (r : Bool) (h : m_spec_l00In n1 low3 high5 = some r) :
    Calls Try.prog 95 #[vI (n1), vI (low3), vI (high5)] C.w0 fun e w => e = .returned (.bool (r)) ∧ Mem C w [] [] := by
  have hM := Mem.begin C [] trivial
  refine enter Try.func95 rfl Try.ntmps95 rfl fun a hf => ?_
  unfold m_spec_l00In at h
  refine wp_seq ?_
  refine region_pl ?_
  refine q_ hf rfl rfl rfl (e_assign hf rfl) fun a hf => ?_
  refine pl_nil ?_
  refine then_n ?_
  obtain ⟨x9, h10, h⟩ := bind_some h
  refine seq_join (fun a w => ∃ (t7 : Bool), t7 = x9 ∧ Has 15 a [(6, .bool (t7))] ∧ Mem C w [] []) ?_ ?_
  · refine region_pl ?_
    refine q_ hf rfl rfl rfl (e_move hf rfl) fun a hf => ?_
    refine q_ hf rfl rfl rfl (e_move hf rfl) fun a hf => ?_
    refine q_ hf rfl rfl rfl (e_ge hf (x := n1) (y := low3) rfl rfl) fun a hf => ?_
    refine q_ hf rfl rfl rfl (e_move hf rfl) fun a hf => ?_
    rcases cond_some h10 with ⟨hc11, h10⟩ | ⟨hc11, h10⟩
    · refine gq (wanted_t hf rfl rfl rfl rfl hc11) hf rfl rfl (e_move hf rfl) fun a hf => ?_
      refine gq (wanted_t hf rfl rfl rfl rfl hc11) hf rfl rfl (e_move hf rfl) fun a hf => ?_
      refine gq (wanted_t hf rfl rfl rfl rfl hc11) hf rfl rfl (e_le hf (x := n1) (y := high5) rfl rfl) fun a hf => ?_
      refine q_ hf rfl rfl rfl (e_pick_t hf rfl hc11 rfl) fun a hf => ?_
      refine q_ hf rfl rfl rfl (e_assign hf rfl) fun a hf => ?_
      refine pl_nil ?_
      obtain rfl := some_inj h10
      refine then_n ?_
      exact ⟨(decide (n1 ≤ high5)), rfl, hf.keep ⟨rfl, trivial⟩, hM.pick [] rfl⟩
    · refine pl_gs (wanted_f hf rfl rfl rfl rfl hc11) hf rfl rfl fun a hf => ?_
      refine pl_gs (wanted_f hf rfl rfl rfl rfl hc11) hf rfl rfl fun a hf => ?_
      refine pl_gs (wanted_f hf rfl rfl rfl rfl hc11) hf rfl rfl fun a hf => ?_
      refine q_ hf rfl rfl rfl (e_pick_f hf rfl hc11 rfl) fun a hf => ?_
      refine q_ hf rfl rfl rfl (e_assign hf rfl) fun a hf => ?_
      refine pl_nil ?_
      obtain rfl := some_inj h10
      refine then_n ?_
      exact ⟨false, rfl, hf.keep ⟨rfl, trivial⟩, hM.pick [] rfl⟩
  · rintro a w14 ⟨t7, rfl, hf, hM⟩
    try dsimp only at h
    refine wp_ret ?_
    obtain rfl := some_inj h
    exact leave1 hf rfl rfl ⟨rfl, hM.fin⟩

set_option maxRecDepth 100000 in
set_option maxHeartbeats 4000000 in
theorem r_spec_l26Rating (C : Cx) (n1 : Int) (hp2 : R64 n1) (r : Bool) (h : m_spec_l26Rating n1 = some r) :
    Calls Try.prog 54 #[vI (n1)] C.w0 fun e w => e = .returned (.bool (r)) ∧ Mem C w [] [] := by
  have hM := Mem.begin C [] trivial
  refine enter Try.func54 rfl Try.ntmps54 rfl fun a hf => ?_
  unfold m_spec_l26Rating at h
  refine wp_seq ?_
  refine region_pl ?_
  refine q_ hf rfl rfl rfl (e_assign hf rfl) fun a hf => ?_
  refine pl_nil ?_
  refine then_n ?_
  refine wp_seq ?_
  refine region_pl ?_
  refine q_ hf rfl rfl rfl (e_move hf rfl) fun a hf => ?_
  obtain ⟨y3, hz4, h⟩ := bind_some h
  refine pl_l hf rfl rfl rfl (w_call hf Try.call95 rfl (r_spec_l00In ⟨_, Sh C _ _, none_, hM.sh_lt, none_not⟩ n1 hp2 0 (R64_lit rfl) 4000 (R64_lit rfl) _ hz4) ?_)
  rintro _ w5 ⟨rfl, hM2⟩
  obtain ⟨hM, hx6, hup7⟩ := hM.back hM2
  dsimp only [List.cons_append, List.nil_append] at hM hup7
  clear hM2
  refine ⟨_, rfl, fun a hf => ?_⟩
  refine q_ hf rfl rfl rfl (e_assign hf rfl) fun a hf => ?_
  refine pl_nil ?_
  refine then_n ?_
  refine wp_ret ?_
  obtain rfl := some_inj h
  exact leave1 hf rfl rfl ⟨rfl, hM.fin⟩

set_option maxRecDepth 100000 in
set_option maxHeartbeats 4000000 in
theorem r_spec_l26Member (C : Cx) (m1 : Member) (b2 : Nat) (o3 : Nat) (hp4 : (ptrRep MemberRep).R C.w0 C.S0 m1 [vP b2 o3]) (r : Bool) (h : m_spec_l26Member m1 = some r) :
    Calls Try.prog 110 #[vP b2 (o3)] C.w0 fun e w => e = .returned (.bool (r)) ∧ Mem C w [] [] := by
  have hM := Mem.begin C [.dat (ptrRep MemberRep) m1 [vP b2 o3]] ⟨hp4, trivial⟩
  refine enter Try.func110 rfl Try.ntmps110 rfl fun a hf => ?_
  unfold m_spec_l26Member at h
  refine wp_seq ?_
  refine region_pl ?_
  refine q_ hf rfl rfl rfl (e_assign hf rfl) fun a hf => ?_
  refine pl_nil ?_
  refine then_n ?_
  obtain ⟨x7, h8, h⟩ := bind_some h
  refine seq_join (fun a w => ∃ (t5 : Bool), t5 = x7 ∧ Has 15 a [(2, .bool (t5))] ∧ Mem C w [] [.dat (ptrRep MemberRep) m1 [vP b2 o3]]) ?_ ?_
  · refine region_pl ?_
    refine q_ hf rfl rfl rfl (e_move hf rfl) fun a hf => ?_
    refine q_ hf rfl rfl rfl (e_nil hf rfl) fun a hf => ?_
    obtain ⟨_, hr9, hM⟩ := hM.deref (hM.dat (k := 0) rfl)
    obtain ⟨rfl, hv10, hv11⟩ := MemberRep_open hr9
    refine q_ hf rfl rfl rfl (e_field hf rfl Try.underlying103 rfl Try.sizeOf9 (o' := o3 + 0) rfl) fun a hf => ?_
    refine q_ hf rfl rfl rfl (e_load1 hf rfl Try.isAgg9 (hM.litCell (k := 0) (j := 0) rfl rfl rfl)) fun a hf => ?_
    obtain ⟨y12, hz13, h8⟩ := bind_some h8
    refine pl_l hf rfl rfl rfl (w_call hf Try.call125 rfl (r_spec_IsName ⟨_, Sh C _ _, none_, hM.sh_lt, none_not⟩ m1.Name hv10 _ hz13) ?_)
    rintro _ w14 ⟨rfl, hM2⟩
    obtain ⟨hM, hx15, hup16⟩ := hM.back hM2
    dsimp only [List.cons_append, List.nil_append] at hM hup16
    clear hM2
    refine ⟨_, rfl, fun a hf => ?_⟩
    refine q_ hf rfl rfl rfl (e_move hf rfl) fun a hf => ?_
    rcases cond_some h8 with ⟨hc17, h8⟩ | ⟨hc17, h8⟩
    · refine gq (wanted_t hf rfl rfl rfl rfl hc17) hf rfl rfl (e_move hf rfl) fun a hf => ?_
      refine gq (wanted_t hf rfl rfl rfl rfl hc17) hf rfl rfl (e_nil hf rfl) fun a hf => ?_
      refine gq (wanted_t hf rfl rfl rfl rfl hc17) hf rfl rfl (e_field hf rfl Try.underlying103 rfl Try.sizeOf2 (o' := o3 + 1) rfl) fun a hf => ?_
      refine gq (wanted_t hf rfl rfl rfl rfl hc17) hf rfl rfl (e_load1 hf rfl Try.isAgg2 (hM.litCell (k := 0) (j := 1) rfl rfl rfl)) fun a hf => ?_
      obtain ⟨y18, hz19, h8⟩ := bind_some h8
      refine pl_gl (wanted_t hf rfl rfl rfl rfl hc17) hf rfl rfl (w_call hf Try.call54 rfl (r_spec_l26Rating ⟨_, Sh C _ _, none_, hM.sh_lt, none_not⟩ m1.Rating hv11 _ hz19) ?_)
      rintro _ w20 ⟨rfl, hM2⟩
      obtain ⟨hM, hx21, hup22⟩ := hM.back hM2
      dsimp only [List.cons_append, List.nil_append] at hM hup22
      clear hM2
      refine ⟨_, rfl, fun a hf => ?_⟩
      refine q_ hf rfl rfl rfl (e_pick_t hf rfl hc17 rfl) fun a hf => ?_
      refine q_ hf rfl rfl rfl (e_assign hf rfl) fun a hf => ?_
      refine pl_nil ?_
      obtain rfl := some_inj h8
      refine then_n ?_
      exact ⟨y18, rfl, hf.keep ⟨rfl, trivial⟩, hM.pick [1] rfl⟩
    · refine pl_gs (wanted_f hf rfl rfl rfl rfl hc17) hf rfl rfl fun a hf => ?_
      refine pl_gs (wanted_f hf rfl rfl rfl rfl hc17) hf rfl rfl fun a hf => ?_
      refine pl_gs (wanted_f hf rfl rfl rfl rfl hc17) hf rfl rfl fun a hf => ?_
      refine pl_gs (wanted_f hf rfl rfl rfl rfl hc17) hf rfl rfl fun a hf => ?_
      refine pl_gs (wanted_f hf rfl rfl rfl rfl hc17) hf rfl rfl fun a hf => ?_
      refine q_ hf rfl rfl rfl (e_pick_f hf rfl hc17 rfl) fun a hf => ?_
      refine q_ hf rfl rfl rfl (e_assign hf rfl) fun a hf => ?_
      refine pl_nil ?_
      obtain rfl := some_inj h8
      refine then_n ?_
      exact ⟨false, rfl, hf.keep ⟨rfl, trivial⟩, hM.pick [1] rfl⟩
  · rintro a w25 ⟨t5, rfl, hf, hM⟩
    try dsimp only at h
    refine wp_ret ?_
    obtain rfl := some_inj h
    exact leave1 hf rfl rfl ⟨rfl, hM.fin⟩

set_option maxRecDepth 100000 in
set_option maxHeartbeats 4000000 in
theorem r_spec_l26Ok (C : Cx) (c1 : Club) (b2 : Nat) (o3 : Nat) (hp4 : (ptrRep ClubRep).R C.w0 C.S0 c1 [vP b2 o3]) (r : Bool) (h : m_spec_l26Ok c1 = some r) :
    Calls Try.prog 81 #[vP b2 (o3)] C.w0 fun e w => e = .returned (.bool (r)) ∧ Mem C w [] [] := by
  have hM := Mem.begin C [.dat (ptrRep ClubRep) c1 [vP b2 o3]] ⟨hp4, trivial⟩
  refine enter Try.func81 rfl Try.ntmps81 rfl fun a hf => ?_
  unfold m_spec_l26Ok at h
  refine wp_seq ?_
  refine region_pl ?_
  refine q_ hf rfl rfl rfl (e_assign hf rfl) fun a hf => ?_
  refine pl_nil ?_
  refine then_n ?_
  obtain ⟨x5, h6, h⟩ := bind_some h
  refine seq_join (fun a w => (.inl ()) = x5 ∧ Has 51 a [(0, vP b2 (o3))] ∧ Mem C w [] [.dat (ptrRep ClubRep) c1 [vP b2 o3]]) ?_ ?_
  · refine wp_seq ?_
    refine region_pl ?_
    refine q_ hf rfl rfl rfl (e_assign hf rfl) fun a hf => ?_
    refine pl_nil ?_
    refine then_n ?_
    refine wp_block ?_
    obtain ⟨x10, h11, h6⟩ := bind_some h6
    refine wp_loopM h11 (fun s a w => ∃ (n7 : Int), n7 = s ∧ Has 51 a [(0, vP b2 (o3)), (3, vI (n7))] ∧ Mem C w [] [.dat (ptrRep ClubRep) c1 [vP b2 o3]] ∧ R64 n7) ?_ ?_
    · exact ⟨0, rfl, hf.keep ⟨rfl, rfl, trivial⟩, hM.pick [0] rfl, (R64_lit rfl)⟩
    · rintro s o12 a w9 ⟨n7, rfl, hf, hM, hv8⟩ h13 hd14
      replace h13 : m_spec_l26Ok_l1 c1 n7 = some o12 := h13
      unfold m_spec_l26Ok_l1 at h13
      refine wp_seq ?_
      refine wp_seq ?_
      refine region_pl ?_
      refine q_ hf rfl rfl rfl (e_move hf rfl) fun a hf => ?_
      refine q_ hf rfl rfl rfl (e_move hf rfl) fun a hf => ?_
      refine q_ hf rfl rfl rfl (e_nil hf rfl) fun a hf => ?_
      obtain ⟨_, hr15, hM⟩ := hM.deref (hM.dat (k := 0) rfl)
      obtain ⟨A16, c17, rfl, hv18⟩ := ClubRep_open hr15
      have hM := hM.add (y := .dat (sliceRep MemberRep) c1.Members [vL A16 c1.Members c17]) hv18
      refine q_ hf rfl rfl rfl (e_field hf rfl Try.underlying55 rfl Try.sizeOf53 (o' := o3 + 0) rfl) fun a hf => ?_
      refine q_ hf rfl rfl rfl (e_load1 hf rfl Try.isAgg53 (hM.litCell (k := 1) (j := 0) rfl rfl rfl)) fun a hf => ?_
      have hl19 := slice_len (hM.dat (k := 0) rfl)
      refine q_ hf rfl rfl rfl (e_lenL hf (x := c1.Members) rfl Try.underlying53) fun a hf => ?_
      refine q_ hf rfl rfl rfl (e_lt hf (x := n7) (y := (c1.Members.length : Int)) rfl rfl) fun a hf => ?_
      refine pl_nil ?_
      refine then_n ?_
      rcases cond_some h13 with ⟨hc20, h13⟩ | ⟨hc20, h13⟩
      · refine cond_t hf rfl hc20 ?_
        refine wp_skip ?_
        refine then_n ?_
        refine wp_seq ?_
        refine wp_block ?_
        obtain ⟨x23, h24, h13⟩ := bind_some h13
        refine seq_join (fun a w => ∃ (t21 : Bool), t21 = x23 ∧ Has 51 a [(0, vP b2 (o3)), (3, vI (n7)), (44, .bool (t21))] ∧ Mem C w [] [.dat (sliceRep MemberRep) c1.Members [vL A16 c1.Members c17], .lit b2 (o3) [vL A16 (c1.Members) c17], .dat (ptrRep ClubRep) c1 [vP b2 o3]]) ?_ ?_
        · obtain ⟨w25, hw⟩ : ∃ x, x = w9.drew := ⟨_, rfl⟩
          refine region_pi (.q 0 (.q 1 (.q 2 (.q 3 (.q 4 (.q 5 (.l 6 (.q 7 (.q 8 (.q 9 (.q 10 (.q 11 (.q 12 (.q 13 (.q 14 (.q 15 (.q 16 (.q 17 (.q 18 (.q 19 (.q 20 (.q 21 (.q 22 (.q 23 (.q 24 (.q 25 (.q 26 (.q 27 (.q 28 (.q 29 (.q 30 (.q 31 (.nil))))))))))))))))))))))))))))))))) (Ext w25) rfl (by kernel_rfl) ?_
          have hM := hM.drew
          rw [← hw] at hM ⊢
          clear hw
          refine pi_q hf rfl rfl rfl rfl (Ext.refl _) (e_move hf rfl) fun a hf => ?_
          refine pi_q hf rfl rfl rfl rfl (Ext.refl _) (e_nil hf rfl) fun a hf => ?_
          refine pi_q hf rfl rfl rfl rfl (Ext.refl _) (e_field hf rfl Try.underlying55 rfl Try.sizeOf53 (o' := o3 + 0) rfl) fun a hf => ?_
          refine pi_q hf rfl rfl rfl rfl (Ext.refl _) (e_load1 hf rfl Try.isAgg53 (hM.litCell (k := 1) (j := 0) rfl rfl rfl)) fun a hf => ?_
          refine pi_q hf rfl rfl rfl rfl (Ext.refl _) (e_move hf rfl) fun a hf => ?_
          obtain ⟨e26, hz27, h24⟩ := bind_some h24
          obtain ⟨b31, o32, _, hA33, h28, h29, hr30, hM⟩ := hM.elem (hM.dat (k := 0) rfl) (n := 2) rfl hz27
          obtain ⟨rfl, hv34, hv35⟩ := MemberRep_open hr30
          refine pi_q hf rfl rfl rfl rfl (Ext.refl _) (e_indexAddr (A := A16) (b := b31) (o := o32) (xs := c1.Members) (i := n7) hf hA33 rfl rfl Try.underlying53 Try.sizeOf103 h28 h29) fun a hf => ?_
          refine pi_one ?_
          obtain ⟨y36, hz37, h24⟩ := bind_some h24
          refine pi_l hf rfl rfl rfl rfl (w_call hf Try.call110 rfl (r_spec_l26Member ⟨_, Sh C _ _, none_, hM.sh_lt, none_not⟩ e26 _ _ (hM.litPtr (k := 0) (d := 0) (us := [vS (e26.Name), vI (e26.Rating)]) rfl rfl rfl (MemberRep_mk (x := e26) hv34 hv35)) _ hz37) ?_)
          rintro _ w38 ⟨rfl, hM2⟩
          obtain ⟨hM, hx39, hup40⟩ := hM.back hM2
          dsimp only [List.cons_append, List.nil_append] at hM hup40
          clear hM2
          refine ⟨_, rfl, Ext w38, fun _ h => Ext.trans hx39 h, Ext.refl _, fun a hf => ?_⟩
          refine pi_q hf rfl rfl rfl rfl (Ext.refl _) (e_not hf rfl) fun a hf => ?_
          refine pi_q hf rfl rfl rfl rfl (Ext.refl _) (e_move hf rfl) fun a hf => ?_
          rcases cond_some h24 with ⟨hc41, h24⟩ | ⟨hc41, h24⟩
          · refine pi_gs hf rfl (wanted_f hf rfl rfl rfl rfl hc41) rfl rfl (Ext.refl _) fun a hf => ?_
            refine pi_gs hf rfl (wanted_f hf rfl rfl rfl rfl hc41) rfl rfl (Ext.refl _) fun a hf => ?_
            refine pi_gs hf rfl (wanted_f hf rfl rfl rfl rfl hc41) rfl rfl (Ext.refl _) fun a hf => ?_
            refine pi_gs hf rfl (wanted_u hf rfl rfl rfl rfl) rfl rfl (Ext.refl _) fun a hf => ?_
            refine pi_gs hf rfl (wanted_u hf rfl rfl rfl rfl) rfl rfl (Ext.refl _) fun a hf => ?_
            refine pi_gs hf rfl (wanted_u hf rfl rfl rfl rfl) rfl rfl (Ext.refl _) fun a hf => ?_
            refine pi_gs hf rfl (wanted_u hf rfl rfl rfl rfl) rfl rfl (Ext.refl _) fun a hf => ?_
            refine pi_gs hf rfl (wanted_u hf rfl rfl rfl rfl) rfl rfl (Ext.refl _) fun a hf => ?_
            refine pi_gs hf rfl (wanted_u hf rfl rfl rfl rfl) rfl rfl (Ext.refl _) fun a hf => ?_
            refine pi_gs hf rfl (wanted_u hf rfl rfl rfl rfl) rfl rfl (Ext.refl _) fun a hf => ?_
            refine pi_gs hf rfl (wanted_u hf rfl rfl rfl rfl) rfl rfl (Ext.refl _) fun a hf => ?_
            refine pi_gs hf rfl (wanted_u hf rfl rfl rfl rfl) rfl rfl (Ext.refl _) fun a hf => ?_
            refine pi_gs hf rfl (wanted_u hf rfl rfl rfl rfl) rfl rfl (Ext.refl _) fun a hf => ?_
            refine pi_gs hf rfl (wanted_u hf rfl rfl rfl rfl) rfl rfl (Ext.refl _) fun a hf => ?_
            refine pi_gs hf rfl (wanted_u hf rfl rfl rfl rfl) rfl rfl (Ext.refl _) fun a hf => ?_
            refine pi_gs hf rfl (wanted_u hf rfl rfl rfl rfl) rfl rfl (Ext.refl _) fun a hf => ?_
            refine pi_gs hf rfl (wanted_u hf rfl rfl rfl rfl) rfl rfl (Ext.refl _) fun a hf => ?_
            refine pi_gs hf rfl (wanted_u hf rfl rfl rfl rfl) rfl rfl (Ext.refl _) fun a hf => ?_
            refine pi_gs hf rfl (wanted_u hf rfl rfl rfl rfl) rfl rfl (Ext.refl _) fun a hf => ?_
            refine pi_gs hf rfl (wanted_u hf rfl rfl rfl rfl) rfl rfl (Ext.refl _) fun a hf => ?_
            refine pi_gs hf rfl (wanted_u hf rfl rfl rfl rfl) rfl rfl (Ext.refl _) fun a hf => ?_
            refine pi_gs hf rfl (wanted_f hf rfl rfl rfl rfl hc41) rfl rfl (Ext.refl _) fun a hf => ?_
            refine pi_q hf rfl rfl rfl rfl (Ext.refl _) (e_pick_t hf rfl hc41 rfl) fun a hf => ?_
            refine pi_nil ?_
            obtain rfl := some_inj h24
            refine then_n ?_
            exact ⟨true, rfl, hf.keep ⟨rfl, rfl, rfl, trivial⟩, hM.pick [1, 2, 3] rfl⟩
          · refine pi_gq hf rfl (wanted_t hf rfl rfl rfl rfl hc41) rfl rfl (Ext.refl _) (e_move hf rfl) fun a hf => ?_
            refine pi_gq hf rfl (wanted_t hf rfl rfl rfl rfl hc41) rfl rfl (Ext.refl _) (e_gt hf (x := n7) (y := 0) rfl rfl) fun a hf => ?_
            refine pi_gq hf rfl (wanted_t hf rfl rfl rfl rfl hc41) rfl rfl (Ext.refl _) (e_move hf rfl) fun a hf => ?_
            rcases cond_some h24 with ⟨hc43, h24⟩ | ⟨hc43, h24⟩
            · refine pi_gq hf rfl (wanted_t hf rfl rfl rfl rfl hc43) rfl rfl (Ext.refl _) (e_move hf rfl) fun a hf => ?_
              refine pi_gq hf rfl (wanted_t hf rfl rfl rfl rfl hc43) rfl rfl (Ext.refl _) (e_nil hf rfl) fun a hf => ?_
              refine pi_gq hf rfl (wanted_t hf rfl rfl rfl rfl hc43) rfl rfl (Ext.refl _) (e_field hf rfl Try.underlying55 rfl Try.sizeOf53 (o' := o3 + 0) rfl) fun a hf => ?_
              refine pi_gq hf rfl (wanted_t hf rfl rfl rfl rfl hc43) rfl rfl (Ext.refl _) (e_load1 hf rfl Try.isAgg53 (hM.litCell (k := 2) (j := 0) rfl rfl rfl)) fun a hf => ?_
              refine pi_gq hf rfl (wanted_t hf rfl rfl rfl rfl hc43) rfl rfl (Ext.refl _) (e_move hf rfl) fun a hf => ?_
              obtain ⟨z44, hz45, h24⟩ := bind_some h24
              refine pi_gq hf rfl (wanted_t hf rfl rfl rfl rfl hc43) rfl rfl (Ext.refl _) (e_sub hf rfl rfl hz45) fun a hf => ?_
              obtain ⟨e46, hz47, h24⟩ := bind_some h24
              obtain ⟨b51, o52, _, hA53, h48, h49, hr50, hM⟩ := hM.elem (hM.dat (k := 1) rfl) (n := 2) rfl hz47
              obtain ⟨rfl, hv54, hv55⟩ := MemberRep_open hr50
              refine pi_gq hf rfl (wanted_t hf rfl rfl rfl rfl hc43) rfl rfl (Ext.refl _) (e_indexAddr (A := A16) (b := b51) (o := o52) (xs := c1.Members) (i := z44) hf hA53 rfl rfl Try.underlying53 Try.sizeOf103 h48 h49) fun a hf => ?_
              refine pi_gq hf rfl (wanted_t hf rfl rfl rfl rfl hc43) rfl rfl (Ext.refl _) (e_field hf rfl Try.underlying103 rfl Try.sizeOf9 (o' := (o52 + (z44 : Int).toNat * 2) + 0) rfl) fun a hf => ?_
              refine pi_gq hf rfl (wanted_t hf rfl rfl rfl rfl hc43) rfl rfl (Ext.refl _) (e_load1 hf rfl Try.isAgg9 (hM.litCell (k := 0) (j := 0) rfl rfl rfl)) fun a hf => ?_
              refine pi_gq hf rfl (wanted_t hf rfl rfl rfl rfl hc43) rfl rfl (Ext.refl _) (e_move hf rfl) fun a hf => ?_
              refine pi_gq hf rfl (wanted_t hf rfl rfl rfl rfl hc43) rfl rfl (Ext.refl _) (e_nil hf rfl) fun a hf => ?_
              refine pi_gq hf rfl (wanted_t hf rfl rfl rfl rfl hc43) rfl rfl (Ext.refl _) (e_field hf rfl Try.underlying55 rfl Try.sizeOf53 (o' := o3 + 0) rfl) fun a hf => ?_
              refine pi_gq hf rfl (wanted_t hf rfl rfl rfl rfl hc43) rfl rfl (Ext.refl _) (e_load1 hf rfl Try.isAgg53 (hM.litCell (k := 3) (j := 0) rfl rfl rfl)) fun a hf => ?_
              refine pi_gq hf rfl (wanted_t hf rfl rfl rfl rfl hc43) rfl rfl (Ext.refl _) (e_move hf rfl) fun a hf => ?_
              obtain ⟨e56, hz57, h24⟩ := bind_some h24
              obtain ⟨b61, o62, _, hA63, h58, h59, hr60, hM⟩ := hM.elem (hM.dat (k := 2) rfl) (n := 2) rfl hz57
              obtain ⟨rfl, hv64, hv65⟩ := MemberRep_open hr60
              refine pi_gq hf rfl (wanted_t hf rfl rfl rfl rfl hc43) rfl rfl (Ext.refl _) (e_indexAddr (A := A16) (b := b61) (o := o62) (xs := c1.Members) (i := n7) hf hA63 rfl rfl Try.underlying53 Try.sizeOf103 h58 h59) fun a hf => ?_
              refine pi_gq hf rfl (wanted_t hf rfl rfl rfl rfl hc43) rfl rfl (Ext.refl _) (e_field hf rfl Try.underlying103 rfl Try.sizeOf9 (o' := (o62 + (n7 : Int).toNat * 2) + 0) rfl) fun a hf => ?_
              refine pi_gq hf rfl (wanted_t hf rfl rfl rfl rfl hc43) rfl rfl (Ext.refl _) (e_load1 hf rfl Try.isAgg9 (hM.litCell (k := 0) (j := 0) rfl rfl rfl)) fun a hf => ?_
              refine pi_gq hf rfl (wanted_t hf rfl rfl rfl rfl hc43) rfl rfl (Ext.refl _) (e_geS hf (x := e46.Name) (y := e56.Name) rfl rfl) fun a hf => ?_
              refine pi_gq hf rfl (wanted_t hf rfl rfl rfl rfl hc41) rfl rfl (Ext.refl _) (e_pick_t hf rfl hc43 rfl) fun a hf => ?_
              refine pi_q hf rfl rfl rfl rfl (Ext.refl _) (e_pick_f hf rfl hc41 rfl) fun a hf => ?_
              refine pi_nil ?_
              obtain rfl := some_inj h24
              refine then_n ?_
              exact ⟨(!ltS e46.Name e56.Name), rfl, hf.keep ⟨rfl, rfl, rfl, trivial⟩, hM.pick [3, 4, 5] rfl⟩
            · refine pi_gs hf rfl (wanted_f hf rfl rfl rfl rfl hc43) rfl rfl (Ext.refl _) fun a hf => ?_
              refine pi_gs hf rfl (wanted_f hf rfl rfl rfl rfl hc43) rfl rfl (Ext.refl _) fun a hf => ?_
              refine pi_gs hf rfl (wanted_f hf rfl rfl rfl rfl hc43) rfl rfl (Ext.refl _) fun a hf => ?_
              refine pi_gs hf rfl (wanted_f hf rfl rfl rfl rfl hc43) rfl rfl (Ext.refl _) fun a hf => ?_
              refine pi_gs hf rfl (wanted_f hf rfl rfl rfl rfl hc43) rfl rfl (Ext.refl _) fun a hf => ?_
              refine pi_gs hf rfl (wanted_f hf rfl rfl rfl rfl hc43) rfl rfl (Ext.refl _) fun a hf => ?_
              refine pi_gs hf rfl (wanted_f hf rfl rfl rfl rfl hc43) rfl rfl (Ext.refl _) fun a hf => ?_
              refine pi_gs hf rfl (wanted_f hf rfl rfl rfl rfl hc43) rfl rfl (Ext.refl _) fun a hf => ?_
              refine pi_gs hf rfl (wanted_f hf rfl rfl rfl rfl hc43) rfl rfl (Ext.refl _) fun a hf => ?_
              refine pi_gs hf rfl (wanted_f hf rfl rfl rfl rfl hc43) rfl rfl (Ext.refl _) fun a hf => ?_
              refine pi_gs hf rfl (wanted_f hf rfl rfl rfl rfl hc43) rfl rfl (Ext.refl _) fun a hf => ?_
              refine pi_gs hf rfl (wanted_f hf rfl rfl rfl rfl hc43) rfl rfl (Ext.refl _) fun a hf => ?_
              refine pi_gs hf rfl (wanted_f hf rfl rfl rfl rfl hc43) rfl rfl (Ext.refl _) fun a hf => ?_
              refine pi_gs hf rfl (wanted_f hf rfl rfl rfl rfl hc43) rfl rfl (Ext.refl _) fun a hf => ?_
              refine pi_gs hf rfl (wanted_f hf rfl rfl rfl rfl hc43) rfl rfl (Ext.refl _) fun a hf => ?_
              refine pi_gs hf rfl (wanted_f hf rfl rfl rfl rfl hc43) rfl rfl (Ext.refl _) fun a hf => ?_
              refine pi_gs hf rfl (wanted_f hf rfl rfl rfl rfl hc43) rfl rfl (Ext.refl _) fun a hf => ?_
              refine pi_gs hf rfl (wanted_f hf rfl rfl rfl rfl hc43) rfl rfl (Ext.refl _) fun a hf => ?_
              refine pi_gq hf rfl (wanted_t hf rfl rfl rfl rfl hc41) rfl rfl (Ext.refl _) (e_pick_f hf rfl hc43 rfl) fun a hf => ?_
              refine pi_q hf rfl rfl rfl rfl (Ext.refl _) (e_pick_f hf rfl hc41 rfl) fun a hf => ?_
              refine pi_nil ?_
              obtain rfl := some_inj h24
              refine then_n ?_
              exact ⟨false, rfl, hf.keep ⟨rfl, rfl, rfl, trivial⟩, hM.pick [1, 2, 3] rfl⟩
        · rintro a w68 ⟨t21, rfl, hf, hM⟩
          try dsimp only at h13
          rcases cond_some h13 with ⟨hc69, h13⟩ | ⟨hc69, h13⟩
          · refine cond_t hf rfl hc69 ?_
            refine wp_seq ?_
            refine region_pl ?_
            refine q_ hf rfl rfl rfl (e_assign hf rfl) fun a hf => ?_
            refine pl_nil ?_
            refine then_n ?_
            refine wp_ret ?_
            refine blk_r ?_
            refine then_r ?_
            obtain rfl := some_inj h13
            obtain rfl := hd14 _ rfl
            try dsimp only at h6
            refine then_r ?_
            refine blk_r ?_
            obtain rfl := some_inj h6
            try dsimp only at h
            refine then_r ?_
            obtain rfl := some_inj h
            exact leave1 hf rfl rfl ⟨rfl, hM.fin⟩
          · refine cond_f hf rfl hc69 ?_
            refine wp_skip ?_
            refine blk_n ?_
            refine then_n ?_
            refine region_pl ?_
            refine q_ hf rfl rfl rfl (e_move hf rfl) fun a hf => ?_
            obtain ⟨z70, hz71, h13⟩ := bind_some h13
            refine q_ hf rfl rfl rfl (e_add hf rfl rfl hz71) fun a hf => ?_
            refine q_ hf rfl rfl rfl (e_assign hf rfl) fun a hf => ?_
            refine pl_nil ?_
            obtain rfl := some_inj h13
            refine then_n ⟨_, rfl, ?_⟩
            exact ⟨z70, rfl, hf.keep ⟨rfl, rfl, trivial⟩, hM.pick [2] rfl, (chk_R hz71)⟩
      · refine cond_f hf rfl hc20 ?_
        refine wp_exit ?_
        refine then_x ?_
        obtain rfl := some_inj h13
        obtain rfl := hd14 _ rfl
        try dsimp only at h6
        refine then_x ?_
        refine exit_hit ?_
        obtain rfl := some_inj h6
        refine then_n ?_
        exact ⟨rfl, hf.keep ⟨rfl, trivial⟩, hM.pick [2] rfl⟩
  · rintro a w78 ⟨rfl, hf, hM⟩
    try dsimp only at h
    refine wp_seq ?_
    refine region_pl ?_
    refine q_ hf rfl rfl rfl (e_move hf rfl) fun a hf => ?_
    refine q_ hf rfl rfl rfl (e_nil hf rfl) fun a hf => ?_
    obtain ⟨_, hr79, hM⟩ := hM.deref (hM.dat (k := 0) rfl)
    obtain ⟨A80, c81, rfl, hv82⟩ := ClubRep_open hr79
    have hM := hM.add (y := .dat (sliceRep MemberRep) c1.Members [vL A80 c1.Members c81]) hv82
    refine q_ hf rfl rfl rfl (e_field hf rfl Try.underlying55 rfl Try.sizeOf53 (o' := o3 + 0) rfl) fun a hf => ?_
    refine q_ hf rfl rfl rfl (e_load1 hf rfl Try.isAgg53 (hM.litCell (k := 1) (j := 0) rfl rfl rfl)) fun a hf => ?_
    have hl83 := slice_len (hM.dat (k := 0) rfl)
    refine q_ hf rfl rfl rfl (e_lenL hf (x := c1.Members) rfl Try.underlying53) fun a hf => ?_
    refine q_ hf rfl rfl rfl (e_le hf (x := (c1.Members.length : Int)) (y := 12) rfl rfl) fun a hf => ?_
    refine q_ hf rfl rfl rfl (e_assign hf rfl) fun a hf => ?_
    refine pl_nil ?_
    refine then_n ?_
    refine wp_ret ?_
    obtain rfl := some_inj h
    exact leave1 hf rfl rfl ⟨rfl, hM.fin⟩

set_option maxRecDepth 100000 in
set_option maxHeartbeats 4000000 in
theorem r_spec_ValidClub (C : Cx) (c1 : Club) (A2 : Option Addr) (c3 : Nat) (hp4 : (sliceRep MemberRep).R C.w0 C.S0 c1.Members [vL A2 c1.Members c3]) (r : Bool) (h : m_spec_ValidClub c1 = some r) :
    Calls Try.prog 39 #[.agg #[vL A2 (c1.Members) c3]] C.w0 fun e w => e = .returned (.bool (r)) ∧ Mem C w [] [] := by
  have hM := Mem.begin C [.dat (sliceRep MemberRep) c1.Members [vL A2 c1.Members c3]] ⟨hp4, trivial⟩
  refine enter Try.func39 rfl Try.ntmps39 rfl fun a hf => ?_
  unfold m_spec_ValidClub at h
  refine wp_seq ?_
  refine region_pl ?_
  refine pl_l hf rfl rfl rfl (w_box hf hM (cs := [vL A2 (c1.Members) c3]) rfl rfl fun b5 w6 hx7 hM a hf => ?_)
  refine q_ hf rfl rfl rfl (e_assign hf rfl) fun a hf => ?_
  refine pl_nil ?_
  refine then_n ?_
  refine wp_seq ?_
  refine region_pl ?_
  obtain ⟨y9, hz10, h⟩ := bind_some h
  refine pl_l hf rfl rfl rfl (w_call hf Try.call81 rfl (r_spec_l26Ok ⟨_, All C _ _, none_, hM.all_lt, none_not⟩ c1 _ _ (hM.lendBox (k := 0) rfl (ClubRep_mk (x := c1) (hM.lendDat (k := 0) rfl))) _ hz10) ?_)
  rintro _ w11 ⟨rfl, hM2⟩
  obtain ⟨hM, hx12⟩ := hM.backA hM2
  clear hM2
  refine ⟨_, rfl, fun a hf => ?_⟩
  refine q_ hf rfl rfl rfl (e_assign hf rfl) fun a hf => ?_
  refine pl_nil ?_
  refine then_n ?_
  refine wp_ret ?_
  obtain rfl := some_inj h
  have hM := hM.outs (own' := []) 0 rfl
  exact leave1 hf rfl rfl ⟨rfl, hM.fin⟩

set_option maxRecDepth 100000 in
set_option maxHeartbeats 4000000 in
theorem r_impl_small (C : Cx) (c1 : UInt8) (r : Bool) (h : m_impl_small c1 = some r) :
    Calls Try.prog 100 #[vB (c1)] C.w0 fun e w => e = .returned (.bool (r)) ∧ Mem C w [] [] := by
  have hM := Mem.begin C [] trivial
  refine enter Try.func100 rfl Try.ntmps100 rfl fun a hf => ?_
  unfold m_impl_small at h
  refine wp_seq ?_
  refine region_pl ?_
  refine q_ hf rfl rfl rfl (e_assign hf rfl) fun a hf => ?_
  refine pl_nil ?_
  refine then_n ?_
  obtain ⟨x4, h5, h⟩ := bind_some h
  refine seq_join (fun a w => ∃ (t2 : Bool), t2 = x4 ∧ Has 9 a [(2, .bool (t2))] ∧ Mem C w [] []) ?_ ?_
  · refine region_pl ?_
    refine q_ hf rfl rfl rfl (e_move hf rfl) fun a hf => ?_
    refine q_ hf rfl rfl rfl (e_leB hf (x := 97) (y := c1) rfl rfl) fun a hf => ?_
    refine q_ hf rfl rfl rfl (e_move hf rfl) fun a hf => ?_
    rcases cond_some h5 with ⟨hc6, h5⟩ | ⟨hc6, h5⟩
    · refine gq (wanted_t hf rfl rfl rfl rfl hc6) hf rfl rfl (e_move hf rfl) fun a hf => ?_
      refine gq (wanted_t hf rfl rfl rfl rfl hc6) hf rfl rfl (e_leB hf (x := c1) (y := 122) rfl rfl) fun a hf => ?_
      refine q_ hf rfl rfl rfl (e_pick_t hf rfl hc6 rfl) fun a hf => ?_
      refine q_ hf rfl rfl rfl (e_assign hf rfl) fun a hf => ?_
      refine pl_nil ?_
      obtain rfl := some_inj h5
      refine then_n ?_
      exact ⟨(decide (c1 ≤ 122)), rfl, hf.keep ⟨rfl, trivial⟩, hM.pick [] rfl⟩
    · refine pl_gs (wanted_f hf rfl rfl rfl rfl hc6) hf rfl rfl fun a hf => ?_
      refine pl_gs (wanted_f hf rfl rfl rfl rfl hc6) hf rfl rfl fun a hf => ?_
      refine q_ hf rfl rfl rfl (e_pick_f hf rfl hc6 rfl) fun a hf => ?_
      refine q_ hf rfl rfl rfl (e_assign hf rfl) fun a hf => ?_
      refine pl_nil ?_
      obtain rfl := some_inj h5
      refine then_n ?_
      exact ⟨false, rfl, hf.keep ⟨rfl, trivial⟩, hM.pick [] rfl⟩
  · rintro a w9 ⟨t2, rfl, hf, hM⟩
    try dsimp only at h
    refine wp_ret ?_
    obtain rfl := some_inj h
    exact leave1 hf rfl rfl ⟨rfl, hM.fin⟩

set_option maxRecDepth 100000 in
set_option maxHeartbeats 4000000 in
theorem r_impl_digit (C : Cx) (c1 : UInt8) (r : Bool) (h : m_impl_digit c1 = some r) :
    Calls Try.prog 126 #[vB (c1)] C.w0 fun e w => e = .returned (.bool (r)) ∧ Mem C w [] [] := by
  have hM := Mem.begin C [] trivial
  refine enter Try.func126 rfl Try.ntmps126 rfl fun a hf => ?_
  unfold m_impl_digit at h
  refine wp_seq ?_
  refine region_pl ?_
  refine q_ hf rfl rfl rfl (e_assign hf rfl) fun a hf => ?_
  refine pl_nil ?_
  refine then_n ?_
  obtain ⟨x4, h5, h⟩ := bind_some h
  refine seq_join (fun a w => ∃ (t2 : Bool), t2 = x4 ∧ Has 9 a [(2, .bool (t2))] ∧ Mem C w [] []) ?_ ?_
  · refine region_pl ?_
    refine q_ hf rfl rfl rfl (e_move hf rfl) fun a hf => ?_
    refine q_ hf rfl rfl rfl (e_leB hf (x := 48) (y := c1) rfl rfl) fun a hf => ?_
    refine q_ hf rfl rfl rfl (e_move hf rfl) fun a hf => ?_
    rcases cond_some h5 with ⟨hc6, h5⟩ | ⟨hc6, h5⟩
    · refine gq (wanted_t hf rfl rfl rfl rfl hc6) hf rfl rfl (e_move hf rfl) fun a hf => ?_
      refine gq (wanted_t hf rfl rfl rfl rfl hc6) hf rfl rfl (e_leB hf (x := c1) (y := 57) rfl rfl) fun a hf => ?_
      refine q_ hf rfl rfl rfl (e_pick_t hf rfl hc6 rfl) fun a hf => ?_
      refine q_ hf rfl rfl rfl (e_assign hf rfl) fun a hf => ?_
      refine pl_nil ?_
      obtain rfl := some_inj h5
      refine then_n ?_
      exact ⟨(decide (c1 ≤ 57)), rfl, hf.keep ⟨rfl, trivial⟩, hM.pick [] rfl⟩
    · refine pl_gs (wanted_f hf rfl rfl rfl rfl hc6) hf rfl rfl fun a hf => ?_
      refine pl_gs (wanted_f hf rfl rfl rfl rfl hc6) hf rfl rfl fun a hf => ?_
      refine q_ hf rfl rfl rfl (e_pick_f hf rfl hc6 rfl) fun a hf => ?_
      refine q_ hf rfl rfl rfl (e_assign hf rfl) fun a hf => ?_
      refine pl_nil ?_
      obtain rfl := some_inj h5
      refine then_n ?_
      exact ⟨false, rfl, hf.keep ⟨rfl, trivial⟩, hM.pick [] rfl⟩
  · rintro a w9 ⟨t2, rfl, hf, hM⟩
    try dsimp only at h
    refine wp_ret ?_
    obtain rfl := some_inj h
    exact leave1 hf rfl rfl ⟨rfl, hM.fin⟩

set_option maxRecDepth 100000 in
set_option maxHeartbeats 4000000 in
theorem r_impl_IsName (C : Cx) (s1 : Str) (hp2 : s1.length ≤ maxLen) (r : Bool) (h : m_impl_IsName s1 = some r) :
    Calls Try.prog 111 #[vS (s1)] C.w0 fun e w => e = .returned (.bool (r)) ∧ Mem C w [] [] := by
  have hM := Mem.begin C [] trivial
  refine enter Try.func111 rfl Try.ntmps111 rfl fun a hf => ?_
  unfold m_impl_IsName at h
  refine wp_seq ?_
  refine region_pl ?_
  refine q_ hf rfl rfl rfl (e_assign hf rfl) fun a hf => ?_
  refine pl_nil ?_
  refine then_n ?_
  refine wp_seq ?_
  obtain ⟨x5, h6, h⟩ := bind_some h
  refine seq_join (fun a w => ∃ (t3 : Bool), t3 = x5 ∧ Has 42 a [(0, vS (s1)), (17, .bool (t3))] ∧ Mem C w [] []) ?_ ?_
  · refine region_pl ?_
    refine q_ hf rfl rfl rfl (e_move hf rfl) fun a hf => ?_
    refine q_ hf rfl rfl rfl (e_lenS hf (x := s1) rfl Try.underlying9) fun a hf => ?_
    refine q_ hf rfl rfl rfl (e_lt hf (x := (s1.length : Int)) (y := 1) rfl rfl) fun a hf => ?_
    refine q_ hf rfl rfl rfl (e_move hf rfl) fun a hf => ?_
    rcases cond_some h6 with ⟨hc7, h6⟩ | ⟨hc7, h6⟩
    · refine pl_gs (wanted_f hf rfl rfl rfl rfl hc7) hf rfl rfl fun a hf => ?_
      refine pl_gs (wanted_f hf rfl rfl rfl rfl hc7) hf rfl rfl fun a hf => ?_
      refine pl_gs (wanted_f hf rfl rfl rfl rfl hc7) hf rfl rfl fun a hf => ?_
      refine q_ hf rfl rfl rfl (e_pick_t hf rfl hc7 rfl) fun a hf => ?_
      refine q_ hf rfl rfl rfl (e_move hf rfl) fun a hf => ?_
      refine pl_gs (wanted_f hf rfl rfl rfl rfl rfl) hf rfl rfl fun a hf => ?_
      refine pl_gs (wanted_f hf rfl rfl rfl rfl rfl) hf rfl rfl fun a hf => ?_
      refine pl_gs (wanted_f hf rfl rfl rfl rfl rfl) hf rfl rfl fun a hf => ?_
      refine pl_gs (wanted_f hf rfl rfl rfl rfl rfl) hf rfl rfl fun a hf => ?_
      refine q_ hf rfl rfl rfl (e_pick_t hf rfl rfl rfl) fun a hf => ?_
      refine pl_nil ?_
      obtain rfl := some_inj h6
      refine then_n ?_
      exact ⟨true, rfl, hf.keep ⟨rfl, rfl, trivial⟩, hM.pick [] rfl⟩
    · refine gq (wanted_t hf rfl rfl rfl rfl hc7) hf rfl rfl (e_move hf rfl) fun a hf => ?_
      refine gq (wanted_t hf rfl rfl rfl rfl hc7) hf rfl rfl (e_lenS hf (x := s1) rfl Try.underlying9) fun a hf => ?_
      refine gq (wanted_t hf rfl rfl rfl rfl hc7) hf rfl rfl (e_gt hf (x := (s1.length : Int)) (y := 12) rfl rfl) fun a hf => ?_
      refine q_ hf rfl rfl rfl (e_pick_f hf rfl hc7 rfl) fun a hf => ?_
      refine q_ hf rfl rfl rfl (e_move hf rfl) fun a hf => ?_
      rcases cond_some h6 with ⟨hc9, h6⟩ | ⟨hc9, h6⟩
      · refine pl_gs (wanted_f hf rfl rfl rfl rfl hc9) hf rfl rfl fun a hf => ?_
        refine pl_gs (wanted_f hf rfl rfl rfl rfl hc9) hf rfl rfl fun a hf => ?_
        refine pl_gs (wanted_f hf rfl rfl rfl rfl hc9) hf rfl rfl fun a hf => ?_
        refine pl_gs (wanted_f hf rfl rfl rfl rfl hc9) hf rfl rfl fun a hf => ?_
        refine q_ hf rfl rfl rfl (e_pick_t hf rfl hc9 rfl) fun a hf => ?_
        refine pl_nil ?_
        obtain rfl := some_inj h6
        refine then_n ?_
        exact ⟨true, rfl, hf.keep ⟨rfl, rfl, trivial⟩, hM.pick [] rfl⟩
      · refine gq (wanted_t hf rfl rfl rfl rfl hc9) hf rfl rfl (e_move hf rfl) fun a hf => ?_
        obtain ⟨c11, hz12, h6⟩ := bind_some h6
        refine gq (wanted_t hf rfl rfl rfl rfl hc9) hf rfl rfl (e_indexS hf (x := s1) rfl rfl Try.underlying9 hz12) fun a hf => ?_
        obtain ⟨y13, hz14, h6⟩ := bind_some h6
        refine pl_gl (wanted_t hf rfl rfl rfl rfl hc9) hf rfl rfl (w_call hf Try.call100 rfl (r_impl_small ⟨_, Sh C _ _, none_, hM.sh_lt, none_not⟩ c11 _ hz14) ?_)
        rintro _ w15 ⟨rfl, hM2⟩
        obtain ⟨hM, hx16, hup17⟩ := hM.back hM2
        dsimp only [List.cons_append, List.nil_append] at hM hup17
        clear hM2
        refine ⟨_, rfl, fun a hf => ?_⟩
        refine gq (wanted_t hf rfl rfl rfl rfl hc9) hf rfl rfl (e_not hf rfl) fun a hf => ?_
        refine q_ hf rfl rfl rfl (e_pick_f hf rfl hc9 rfl) fun a hf => ?_
        refine pl_nil ?_
        obtain rfl := some_inj h6
        refine then_n ?_
        exact ⟨(!y13), rfl, hf.keep ⟨rfl, rfl, trivial⟩, hM.pick [] rfl⟩
  · rintro a w19 ⟨t3, rfl, hf, hM⟩
    try dsimp only at h
    rcases cond_some h with ⟨hc20, h⟩ | ⟨hc20, h⟩
    · refine cond_t hf rfl hc20 ?_
      refine wp_seq ?_
      refine region_pl ?_
      refine q_ hf rfl rfl rfl (e_assign hf rfl) fun a hf => ?_
      refine pl_nil ?_
      refine then_n ?_
      refine wp_ret ?_
      refine then_r ?_
      obtain rfl := some_inj h
      exact leave1 hf rfl rfl ⟨rfl, hM.fin⟩
    · refine cond_f hf rfl hc20 ?_
      refine wp_skip ?_
      refine then_n ?_
      obtain ⟨x21, h22, h⟩ := bind_some h
      refine seq_join (fun a w => (.inl ()) = x21 ∧ Has 42 a [] ∧ Mem C w [] []) ?_ ?_
      · refine wp_seq ?_
        refine region_pl ?_
        refine q_ hf rfl rfl rfl (e_assign hf rfl) fun a hf => ?_
        refine pl_nil ?_
        refine then_n ?_
        refine wp_block ?_
        obtain ⟨x26, h27, h22⟩ := bind_some h22
        refine wp_loopM h27 (fun s a w => ∃ (n23 : Int), n23 = s ∧ Has 42 a [(0, vS (s1)), (3, vI (n23))] ∧ Mem C w [] [] ∧ R64 n23) ?_ ?_
        · exact ⟨0, rfl, hf.keep ⟨rfl, rfl, trivial⟩, hM.pick [] rfl, (R64_lit rfl)⟩
        · rintro s o28 a w25 ⟨n23, rfl, hf, hM, hv24⟩ h29 hd30
          replace h29 : m_impl_IsName_l1 s1 n23 = some o28 := h29
          unfold m_impl_IsName_l1 at h29
          refine wp_seq ?_
          refine wp_seq ?_
          refine region_pl ?_
          refine q_ hf rfl rfl rfl (e_move hf rfl) fun a hf => ?_
          refine q_ hf rfl rfl rfl (e_move hf rfl) fun a hf => ?_
          refine q_ hf rfl rfl rfl (e_lenS hf (x := s1) rfl Try.underlying9) fun a hf => ?_
          refine q_ hf rfl rfl rfl (e_lt hf (x := n23) (y := (s1.length : Int)) rfl rfl) fun a hf => ?_
          refine pl_nil ?_
          refine then_n ?_
          rcases cond_some h29 with ⟨hc31, h29⟩ | ⟨hc31, h29⟩
          · refine cond_t hf rfl hc31 ?_
            refine wp_skip ?_
            refine then_n ?_
            refine wp_seq ?_
            refine wp_block ?_
            obtain ⟨x34, h35, h29⟩ := bind_some h29
            refine seq_join (fun a w => ∃ (t32 : Bool), t32 = x34 ∧ Has 42 a [(0, vS (s1)), (3, vI (n23)), (41, .bool (t32))] ∧ Mem C w [] []) ?_ ?_
            · refine region_pl ?_
              refine q_ hf rfl rfl rfl (e_move hf rfl) fun a hf => ?_
              refine q_ hf rfl rfl rfl (e_move hf rfl) fun a hf => ?_
              obtain ⟨c36, hz37, h35⟩ := bind_some h35
              refine q_ hf rfl rfl rfl (e_indexS hf (x := s1) rfl rfl Try.underlying9 hz37) fun a hf => ?_
              obtain ⟨y38, hz39, h35⟩ := bind_some h35
              refine pl_l hf rfl rfl rfl (w_call hf Try.call100 rfl (r_impl_small ⟨_, Sh C _ _, none_, hM.sh_lt, none_not⟩ c36 _ hz39) ?_)
              rintro _ w40 ⟨rfl, hM2⟩
              obtain ⟨hM, hx41, hup42⟩ := hM.back hM2
              dsimp only [List.cons_append, List.nil_append] at hM hup42
              clear hM2
              refine ⟨_, rfl, fun a hf => ?_⟩
              refine q_ hf rfl rfl rfl (e_not hf rfl) fun a hf => ?_
              refine q_ hf rfl rfl rfl (e_move hf rfl) fun a hf => ?_
              rcases cond_some h35 with ⟨hc43, h35⟩ | ⟨hc43, h35⟩
              · refine gq (wanted_t hf rfl rfl rfl rfl hc43) hf rfl rfl (e_move hf rfl) fun a hf => ?_
                refine gq (wanted_t hf rfl rfl rfl rfl hc43) hf rfl rfl (e_move hf rfl) fun a hf => ?_
                obtain ⟨c44, hz45, h35⟩ := bind_some h35
                refine gq (wanted_t hf rfl rfl rfl rfl hc43) hf rfl rfl (e_indexS hf (x := s1) rfl rfl Try.underlying9 hz45) fun a hf => ?_
                obtain ⟨y46, hz47, h35⟩ := bind_some h35
                refine pl_gl (wanted_t hf rfl rfl rfl rfl hc43) hf rfl rfl (w_call hf Try.call126 rfl (r_impl_digit ⟨_, Sh C _ _, none_, hM.sh_lt, none_not⟩ c44 _ hz47) ?_)
                rintro _ w48 ⟨rfl, hM2⟩
                obtain ⟨hM, hx49, hup50⟩ := hM.back hM2
                dsimp only [List.cons_append, List.nil_append] at hM hup50
                clear hM2
                refine ⟨_, rfl, fun a hf => ?_⟩
                refine gq (wanted_t hf rfl rfl rfl rfl hc43) hf rfl rfl (e_not hf rfl) fun a hf => ?_
                refine q_ hf rfl rfl rfl (e_pick_t hf rfl hc43 rfl) fun a hf => ?_
                refine q_ hf rfl rfl rfl (e_move hf rfl) fun a hf => ?_
                rcases cond_some h35 with ⟨hc51, h35⟩ | ⟨hc51, h35⟩
                · refine gq (wanted_t hf rfl rfl rfl rfl hc51) hf rfl rfl (e_move hf rfl) fun a hf => ?_
                  refine gq (wanted_t hf rfl rfl rfl rfl hc51) hf rfl rfl (e_move hf rfl) fun a hf => ?_
                  obtain ⟨c52, hz53, h35⟩ := bind_some h35
                  refine gq (wanted_t hf rfl rfl rfl rfl hc51) hf rfl rfl (e_indexS hf (x := s1) rfl rfl Try.underlying9 hz53) fun a hf => ?_
                  refine gq (wanted_t hf rfl rfl rfl rfl hc51) hf rfl rfl (e_neB hf (x := c52) (y := 45) rfl rfl) fun a hf => ?_
                  refine q_ hf rfl rfl rfl (e_pick_t hf rfl hc51 rfl) fun a hf => ?_
                  refine pl_nil ?_
                  obtain rfl := some_inj h35
                  refine then_n ?_
                  exact ⟨(c52 != 45), rfl, hf.keep ⟨rfl, rfl, rfl, trivial⟩, hM.pick [] rfl⟩
                · refine pl_gs (wanted_f hf rfl rfl rfl rfl hc51) hf rfl rfl fun a hf => ?_
                  refine pl_gs (wanted_f hf rfl rfl rfl rfl hc51) hf rfl rfl fun a hf => ?_
                  refine pl_gs (wanted_f hf rfl rfl rfl rfl hc51) hf rfl rfl fun a hf => ?_
                  refine pl_gs (wanted_f hf rfl rfl rfl rfl hc51) hf rfl rfl fun a hf => ?_
                  refine q_ hf rfl rfl rfl (e_pick_f hf rfl hc51 rfl) fun a hf => ?_
                  refine pl_nil ?_
                  obtain rfl := some_inj h35
                  refine then_n ?_
                  exact ⟨false, rfl, hf.keep ⟨rfl, rfl, rfl, trivial⟩, hM.pick [] rfl⟩
              · refine pl_gs (wanted_f hf rfl rfl rfl rfl hc43) hf rfl rfl fun a hf => ?_
                refine pl_gs (wanted_f hf rfl rfl rfl rfl hc43) hf rfl rfl fun a hf => ?_
                refine pl_gs (wanted_f hf rfl rfl rfl rfl hc43) hf rfl rfl fun a hf => ?_
                refine pl_gs (wanted_f hf rfl rfl rfl rfl hc43) hf rfl rfl fun a hf => ?_
                refine pl_gs (wanted_f hf rfl rfl rfl rfl hc43) hf rfl rfl fun a hf => ?_
                refine q_ hf rfl rfl rfl (e_pick_f hf rfl hc43 rfl) fun a hf => ?_
                refine q_ hf rfl rfl rfl (e_move hf rfl) fun a hf => ?_
                refine pl_gs (wanted_f hf rfl rfl rfl rfl rfl) hf rfl rfl fun a hf => ?_
                refine pl_gs (wanted_f hf rfl rfl rfl rfl rfl) hf rfl rfl fun a hf => ?_
                refine pl_gs (wanted_f hf rfl rfl rfl rfl rfl) hf rfl rfl fun a hf => ?_
                refine pl_gs (wanted_f hf rfl rfl rfl rfl rfl) hf rfl rfl fun a hf => ?_
                refine q_ hf rfl rfl rfl (e_pick_f hf rfl rfl rfl) fun a hf => ?_
                refine pl_nil ?_
                obtain rfl := some_inj h35
                refine then_n ?_
                exact ⟨false, rfl, hf.keep ⟨rfl, rfl, rfl, trivial⟩, hM.pick [] rfl⟩
            · rintro a w57 ⟨t32, rfl, hf, hM⟩
              try dsimp only at h29
              rcases cond_some h29 with ⟨hc58, h29⟩ | ⟨hc58, h29⟩
              · refine cond_t hf rfl hc58 ?_
                refine wp_seq ?_
                refine region_pl ?_
                refine q_ hf rfl rfl rfl (e_assign hf rfl) fun a hf => ?_
                refine pl_nil ?_
                refine then_n ?_
                refine wp_ret ?_
                refine blk_r ?_
                refine then_r ?_
                obtain rfl := some_inj h29
                obtain rfl := hd30 _ rfl
                try dsimp only at h22
                refine then_r ?_
                refine blk_r ?_
                obtain rfl := some_inj h22
                try dsimp only at h
                refine then_r ?_
                obtain rfl := some_inj h
                exact leave1 hf rfl rfl ⟨rfl, hM.fin⟩
              · refine cond_f hf rfl hc58 ?_
                refine wp_skip ?_
                refine blk_n ?_
                refine then_n ?_
                refine region_pl ?_
                refine q_ hf rfl rfl rfl (e_move hf rfl) fun a hf => ?_
                obtain ⟨z59, hz60, h29⟩ := bind_some h29
                refine q_ hf rfl rfl rfl (e_add hf rfl rfl hz60) fun a hf => ?_
                refine q_ hf rfl rfl rfl (e_assign hf rfl) fun a hf => ?_
                refine pl_nil ?_
                obtain rfl := some_inj h29
                refine then_n ⟨_, rfl, ?_⟩
                exact ⟨z59, rfl, hf.keep ⟨rfl, rfl, trivial⟩, hM.pick [] rfl, (chk_R hz60)⟩
          · refine cond_f hf rfl hc31 ?_
            refine wp_exit ?_
            refine then_x ?_
            obtain rfl := some_inj h29
            obtain rfl := hd30 _ rfl
            try dsimp only at h22
            refine then_x ?_
            refine exit_hit ?_
            obtain rfl := some_inj h22
            refine then_n ?_
            exact ⟨rfl, hf.keep trivial, hM.pick [] rfl⟩
      · rintro a w67 ⟨rfl, hf, hM⟩
        try dsimp only at h
        refine wp_seq ?_
        refine region_pl ?_
        refine q_ hf rfl rfl rfl (e_assign hf rfl) fun a hf => ?_
        refine pl_nil ?_
        refine then_n ?_
        refine wp_ret ?_
        obtain rfl := some_inj h
        exact leave1 hf rfl rfl ⟨rfl, hM.fin⟩

set_option maxRecDepth 100000 in
set_option maxHeartbeats 4000000 in
theorem r_impl_within (C : Cx) (x1 : Int) (hp2 : R64 x1) (low3 : Int) (hp4 : R64 low3) (high5 : Int) (hp6 : R64 high5) (r : Bool) (h : m_impl_within x1 low3 high5 = some r) :
    Calls Try.prog 56 #[vI (x1), vI (low3), vI (high5)] C.w0 fun e w => e = .returned (.bool (r)) ∧ Mem C w [] [] := by
  have hM := Mem.begin C [] trivial
  refine enter Try.func56 rfl Try.ntmps56 rfl fun a hf => ?_
  unfold m_impl_within at h
  refine wp_seq ?_
  refine region_pl ?_
  refine q_ hf rfl rfl rfl (e_assign hf rfl) fun a hf => ?_
  refine pl_nil ?_
  refine then_n ?_
  obtain ⟨x9, h10, h⟩ := bind_some h
  refine seq_join (fun a w => ∃ (t7 : Bool), t7 = x9 ∧ Has 15 a [(6, .bool (t7))] ∧ Mem C w [] []) ?_ ?_
  · refine region_pl ?_
    refine q_ hf rfl rfl rfl (e_move hf rfl) fun a hf => ?_
    refine q_ hf rfl rfl rfl (e_move hf rfl) fun a hf => ?_
    refine q_ hf rfl rfl rfl (e_le hf (x := low3) (y := x1) rfl rfl) fun a hf => ?_
    refine q_ hf rfl rfl rfl (e_move hf rfl) fun a hf => ?_
    rcases cond_some h10 with ⟨hc11, h10⟩ | ⟨hc11, h10⟩
    · refine gq (wanted_t hf rfl rfl rfl rfl hc11) hf rfl rfl (e_move hf rfl) fun a hf => ?_
      refine gq (wanted_t hf rfl rfl rfl rfl hc11) hf rfl rfl (e_move hf rfl) fun a hf => ?_
      refine gq (wanted_t hf rfl rfl rfl rfl hc11) hf rfl rfl (e_le hf (x := x1) (y := high5) rfl rfl) fun a hf => ?_
      refine q_ hf rfl rfl rfl (e_pick_t hf rfl hc11 rfl) fun a hf => ?_
      refine q_ hf rfl rfl rfl (e_assign hf rfl) fun a hf => ?_
      refine pl_nil ?_
      obtain rfl := some_inj h10
      refine then_n ?_
      exact ⟨(decide (x1 ≤ high5)), rfl, hf.keep ⟨rfl, trivial⟩, hM.pick [] rfl⟩
    · refine pl_gs (wanted_f hf rfl rfl rfl rfl hc11) hf rfl rfl fun a hf => ?_
      refine pl_gs (wanted_f hf rfl rfl rfl rfl hc11) hf rfl rfl fun a hf => ?_
      refine pl_gs (wanted_f hf rfl rfl rfl rfl hc11) hf rfl rfl fun a hf => ?_
      refine q_ hf rfl rfl rfl (e_pick_f hf rfl hc11 rfl) fun a hf => ?_
      refine q_ hf rfl rfl rfl (e_assign hf rfl) fun a hf => ?_
      refine pl_nil ?_
      obtain rfl := some_inj h10
      refine then_n ?_
      exact ⟨false, rfl, hf.keep ⟨rfl, trivial⟩, hM.pick [] rfl⟩
  · rintro a w14 ⟨t7, rfl, hf, hM⟩
    try dsimp only at h
    refine wp_ret ?_
    obtain rfl := some_inj h
    exact leave1 hf rfl rfl ⟨rfl, hM.fin⟩

set_option maxRecDepth 100000 in
set_option maxHeartbeats 4000000 in
theorem r_impl_validMember (C : Cx) (m1 : Member) (hp2 : m1.Name.length ≤ maxLen) (hp3 : R64 m1.Rating) (r : Bool) (h : m_impl_validMember m1 = some r) :
    Calls Try.prog 82 #[.agg #[vS (m1.Name), vI (m1.Rating)]] C.w0 fun e w => e = .returned (.bool (r)) ∧ Mem C w [] [] := by
  have hM := Mem.begin C [] trivial
  refine enter Try.func82 rfl Try.ntmps82 rfl fun a hf => ?_
  unfold m_impl_validMember at h
  refine wp_seq ?_
  refine region_pl ?_
  refine pl_l hf rfl rfl rfl (w_box hf hM (cs := [vS (m1.Name), vI (m1.Rating)]) rfl rfl fun b4 w5 hx6 hM a hf => ?_)
  refine q_ hf rfl rfl rfl (e_assign hf rfl) fun a hf => ?_
  refine pl_nil ?_
  refine then_n ?_
  obtain ⟨x10, h11, h⟩ := bind_some h
  refine seq_join (fun a w => ∃ (t8 : Bool), t8 = x10 ∧ Has 11 a [(2, .bool (t8))] ∧ Mem C w [.box b4 [vS (m1.Name), vI (m1.Rating)] 103] []) ?_ ?_
  · refine region_pl ?_
    refine q_ hf rfl rfl rfl (e_field hf rfl Try.underlying103 rfl Try.sizeOf9 (o' := 0) rfl) fun a hf => ?_
    refine q_ hf rfl rfl rfl (e_load1 hf rfl Try.isAgg9 (hM.boxCell (k := 0) rfl rfl)) fun a hf => ?_
    obtain ⟨y12, hz13, h11⟩ := bind_some h11
    refine pl_l hf rfl rfl rfl (w_call hf Try.call111 rfl (r_impl_IsName ⟨_, Sh C _ _, none_, hM.sh_lt, none_not⟩ m1.Name hp2 _ hz13) ?_)
    rintro _ w14 ⟨rfl, hM2⟩
    obtain ⟨hM, hx15, hup16⟩ := hM.back hM2
    dsimp only [List.cons_append, List.nil_append] at hM hup16
    clear hM2
    refine ⟨_, rfl, fun a hf => ?_⟩
    refine q_ hf rfl rfl rfl (e_move hf rfl) fun a hf => ?_
    rcases cond_some h11 with ⟨hc17, h11⟩ | ⟨hc17, h11⟩
    · refine gq (wanted_t hf rfl rfl rfl rfl hc17) hf rfl rfl (e_field hf rfl Try.underlying103 rfl Try.sizeOf2 (o' := 1) rfl) fun a hf => ?_
      refine gq (wanted_t hf rfl rfl rfl rfl hc17) hf rfl rfl (e_load1 hf rfl Try.isAgg2 (hM.boxCell (k := 0) rfl rfl)) fun a hf => ?_
      obtain ⟨y18, hz19, h11⟩ := bind_some h11
      refine pl_gl (wanted_t hf rfl rfl rfl rfl hc17) hf rfl rfl (w_call hf Try.call56 rfl (r_impl_within ⟨_, Sh C _ _, none_, hM.sh_lt, none_not⟩ m1.Rating hp3 0 (R64_lit rfl) 4000 (R64_lit rfl) _ hz19) ?_)
      rintro _ w20 ⟨rfl, hM2⟩
      obtain ⟨hM, hx21, hup22⟩ := hM.back hM2
      dsimp only [List.cons_append, List.nil_append] at hM hup22
      clear hM2
      refine ⟨_, rfl, fun a hf => ?_⟩
      refine q_ hf rfl rfl rfl (e_pick_t hf rfl hc17 rfl) fun a hf => ?_
      refine q_ hf rfl rfl rfl (e_assign hf rfl) fun a hf => ?_
      refine pl_nil ?_
      obtain rfl := some_inj h11
      refine then_n ?_
      exact ⟨y18, rfl, hf.keep ⟨rfl, trivial⟩, hM.pick [] rfl⟩
    · refine pl_gs (wanted_f hf rfl rfl rfl rfl hc17) hf rfl rfl fun a hf => ?_
      refine pl_gs (wanted_f hf rfl rfl rfl rfl hc17) hf rfl rfl fun a hf => ?_
      refine pl_gs (wanted_f hf rfl rfl rfl rfl hc17) hf rfl rfl fun a hf => ?_
      refine q_ hf rfl rfl rfl (e_pick_f hf rfl hc17 rfl) fun a hf => ?_
      refine q_ hf rfl rfl rfl (e_assign hf rfl) fun a hf => ?_
      refine pl_nil ?_
      obtain rfl := some_inj h11
      refine then_n ?_
      exact ⟨false, rfl, hf.keep ⟨rfl, trivial⟩, hM.pick [] rfl⟩
  · rintro a w25 ⟨t8, rfl, hf, hM⟩
    try dsimp only at h
    refine wp_ret ?_
    obtain rfl := some_inj h
    have hM := hM.outs (own' := []) 0 rfl
    exact leave1 hf rfl rfl ⟨rfl, hM.fin⟩

set_option maxRecDepth 100000 in
set_option maxHeartbeats 4000000 in
theorem r_impl_ValidClub (C : Cx) (c1 : Club) (A2 : Option Addr) (c3 : Nat) (hp4 : (sliceRep MemberRep).R C.w0 C.S0 c1.Members [vL A2 c1.Members c3]) (r : Bool) (h : m_impl_ValidClub c1 = some r) :
    Calls Try.prog 40 #[.agg #[vL A2 (c1.Members) c3]] C.w0 fun e w => e = .returned (.bool (r)) ∧ Mem C w [] [] := by
  have hM := Mem.begin C [.dat (sliceRep MemberRep) c1.Members [vL A2 c1.Members c3]] ⟨hp4, trivial⟩
  refine enter Try.func40 rfl Try.ntmps40 rfl fun a hf => ?_
  unfold m_impl_ValidClub at h
  refine wp_seq ?_
  refine region_pl ?_
  refine pl_l hf rfl rfl rfl (w_box hf hM (cs := [vL A2 (c1.Members) c3]) rfl rfl fun b5 w6 hx7 hM a hf => ?_)
  refine q_ hf rfl rfl rfl (e_assign hf rfl) fun a hf => ?_
  refine pl_nil ?_
  refine then_n ?_
  refine wp_seq ?_
  refine wp_seq ?_
  refine region_pl ?_
  refine q_ hf rfl rfl rfl (e_field hf rfl Try.underlying55 rfl Try.sizeOf53 (o' := 0) rfl) fun a hf => ?_
  refine q_ hf rfl rfl rfl (e_load1 hf rfl Try.isAgg53 (hM.boxCell (k := 0) rfl rfl)) fun a hf => ?_
  have hl9 := slice_len (hM.dat (k := 0) rfl)
  refine q_ hf rfl rfl rfl (e_lenL hf (x := c1.Members) rfl Try.underlying53) fun a hf => ?_
  refine q_ hf rfl rfl rfl (e_gt hf (x := (c1.Members.length : Int)) (y := 12) rfl rfl) fun a hf => ?_
  refine pl_nil ?_
  refine then_n ?_
  rcases cond_some h with ⟨hc10, h⟩ | ⟨hc10, h⟩
  · refine cond_t hf rfl hc10 ?_
    refine wp_seq ?_
    refine region_pl ?_
    refine q_ hf rfl rfl rfl (e_assign hf rfl) fun a hf => ?_
    refine pl_nil ?_
    refine then_n ?_
    refine wp_ret ?_
    refine then_r ?_
    obtain rfl := some_inj h
    have hM := hM.outs (own' := []) 0 rfl
    exact leave1 hf rfl rfl ⟨rfl, hM.fin⟩
  · refine cond_f hf rfl hc10 ?_
    refine wp_skip ?_
    refine then_n ?_
    obtain ⟨x11, h12, h⟩ := bind_some h
    refine seq_join (fun a w => (.inl ()) = x11 ∧ Has 37 a [] ∧ Mem C w [.box b5 [vL A2 (c1.Members) c3] 55] [.dat (sliceRep MemberRep) c1.Members [vL A2 c1.Members c3]]) ?_ ?_
    · refine wp_seq ?_
      refine region_pl ?_
      refine q_ hf rfl rfl rfl (e_field hf rfl Try.underlying55 rfl Try.sizeOf53 (o' := 0) rfl) fun a hf => ?_
      refine q_ hf rfl rfl rfl (e_load1 hf rfl Try.isAgg53 (hM.boxCell (k := 0) rfl rfl)) fun a hf => ?_
      have hl13 := slice_len (hM.dat (k := 0) rfl)
      refine q_ hf rfl rfl rfl (e_lenL hf (x := c1.Members) rfl Try.underlying53) fun a hf => ?_
      refine q_ hf rfl rfl rfl (e_move hf rfl) fun a hf => ?_
      refine pl_nil ?_
      refine then_n ?_
      refine wp_block ?_
      obtain ⟨x17, h18, h12⟩ := bind_some h12
      refine wp_loopM h18 (fun s a w => ∃ (n14 : Int), n14 = s ∧ Has 37 a [(1, vP b5 (0)), (10, vL A2 (c1.Members) c3), (11, vI ((c1.Members.length : Int))), (12, vI (n14))] ∧ Mem C w [.box b5 [vL A2 (c1.Members) c3] 55] [.dat (sliceRep MemberRep) c1.Members [vL A2 c1.Members c3]] ∧ R64 n14) ?_ ?_
      · exact ⟨0, rfl, hf.keep ⟨rfl, rfl, rfl, rfl, trivial⟩, hM.pick [0] rfl, (R64_lit rfl)⟩
      · rintro s o19 a w16 ⟨n14, rfl, hf, hM, hv15⟩ h20 hd21
        replace h20 : m_impl_ValidClub_l1 c1 n14 = some o19 := h20
        unfold m_impl_ValidClub_l1 at h20
        refine wp_seq ?_
        refine region_pl ?_
        refine q_ hf rfl rfl rfl (e_lt hf (x := n14) (y := (c1.Members.length : Int)) rfl rfl) fun a hf => ?_
        refine pl_nil ?_
        refine then_n ?_
        refine wp_seq ?_
        rcases cond_some h20 with ⟨hc22, h20⟩ | ⟨hc22, h20⟩
        · refine cond_t hf rfl hc22 ?_
          refine wp_skip ?_
          refine then_n ?_
          refine wp_seq ?_
          refine wp_block ?_
          refine wp_seq ?_
          refine region_pl ?_
          refine q_ hf rfl rfl rfl (e_move hf rfl) fun a hf => ?_
          obtain ⟨e23, hz24, h20⟩ := bind_some h20
          obtain ⟨b28, o29, _, hA30, h25, h26, hr27, hM⟩ := hM.elem (hM.dat (k := 0) rfl) (n := 2) rfl hz24
          obtain ⟨rfl, hv31, hv32⟩ := MemberRep_open hr27
          refine q_ hf rfl rfl rfl (e_indexAddr (A := A2) (b := b28) (o := o29) (xs := c1.Members) (i := n14) hf hA30 rfl rfl Try.underlying53 Try.sizeOf103 h25 h26) fun a hf => ?_
          refine q_ hf rfl rfl rfl (e_loadA hf (us := [vS (e23.Name), vI (e23.Rating)]) rfl ⟨Try.isAgg103, Try.sizeOf103⟩ rfl (hM.litSub (k := 0) (d := 0) (us := [vS (e23.Name), vI (e23.Rating)]) rfl rfl rfl)) fun a hf => ?_
          refine pl_l hf rfl rfl rfl (w_alloc hM (cs := [vS (([] : Str)), vI (0)]) Try.zeroValue103 rfl fun b33 w34 hx35 hM a hf => ?_)
          refine q_ hf rfl rfl rfl (e_assign hf rfl) fun a hf => ?_
          refine pl_0 hf rfl rfl (w_store hf hM (us := [vS (e23.Name), vI (e23.Rating)]) (cs' := [vS (e23.Name), vI (e23.Rating)]) rfl rfl (k := 0) rfl rfl Try.sizeOf103 rfl rfl rfl fun w37 hM => ?_)
          dsimp only [List.set] at hM
          refine pl_nil ?_
          refine then_n ?_
          obtain ⟨x42, h43, h20⟩ := bind_some h20
          refine seq_join (fun a w => ∃ (t40 : Bool), t40 = x42 ∧ Has 37 a [(1, vP b5 (0)), (10, vL A2 (c1.Members) c3), (11, vI ((c1.Members.length : Int))), (12, vI (n14)), (35, .bool (t40))] ∧ Mem C w [.box b33 [vS (e23.Name), vI (e23.Rating)] 103, .box b5 [vL A2 (c1.Members) c3] 55] [.lit b28 (o29 + (n14 : Int).toNat * 2) [vS (e23.Name), vI (e23.Rating)], .dat (sliceRep MemberRep) c1.Members [vL A2 c1.Members c3]]) ?_ ?_
          · obtain ⟨w44, hw⟩ : ∃ x, x = w37.drew := ⟨_, rfl⟩
            refine region_pi (.q 0 (.l 1 (.q 2 (.q 3 (.q 4 (.q 5 (.q 6 (.q 7 (.q 8 (.q 9 (.q 10 (.q 11 (.q 12 (.q 13 (.q 14 (.q 15 (.q 16 (.q 17 (.q 18 (.nil)))))))))))))))))))) (Ext w44) rfl (by kernel_rfl) ?_
            have hM := hM.drew
            rw [← hw] at hM ⊢
            clear hw
            refine pi_q hf rfl rfl rfl rfl (Ext.refl _) (e_loadA hf (us := [vS (e23.Name), vI (e23.Rating)]) rfl ⟨Try.isAgg103, Try.sizeOf103⟩ rfl (hM.boxSub (k := 0) (us := [vS (e23.Name), vI (e23.Rating)]) (o := 0) rfl rfl)) fun a hf => ?_
            refine pi_one ?_
            obtain ⟨y45, hz46, h43⟩ := bind_some h43
            refine pi_l hf rfl rfl rfl rfl (w_call hf Try.call82 rfl (r_impl_validMember ⟨_, Sh C _ _, none_, hM.sh_lt, none_not⟩ e23 hv31 hv32 _ hz46) ?_)
            rintro _ w47 ⟨rfl, hM2⟩
            obtain ⟨hM, hx48, hup49⟩ := hM.back hM2
            dsimp only [List.cons_append, List.nil_append] at hM hup49
            clear hM2
            refine ⟨_, rfl, Ext w47, fun _ h => Ext.trans hx48 h, Ext.refl _, fun a hf => ?_⟩
            refine pi_q hf rfl rfl rfl rfl (Ext.refl _) (e_not hf rfl) fun a hf => ?_
            refine pi_q hf rfl rfl rfl rfl (Ext.refl _) (e_move hf rfl) fun a hf => ?_
            rcases cond_some h43 with ⟨hc50, h43⟩ | ⟨hc50, h43⟩
            · refine pi_gs hf rfl (wanted_f hf rfl rfl rfl rfl hc50) rfl rfl (Ext.refl _) fun a hf => ?_
              refine pi_gs hf rfl (wanted_f hf rfl rfl rfl rfl hc50) rfl rfl (Ext.refl _) fun a hf => ?_
              refine pi_gs hf rfl (wanted_f hf rfl rfl rfl rfl hc50) rfl rfl (Ext.refl _) fun a hf => ?_
              refine pi_gs hf rfl (wanted_u hf rfl rfl rfl rfl) rfl rfl (Ext.refl _) fun a hf => ?_
              refine pi_gs hf rfl (wanted_u hf rfl rfl rfl rfl) rfl rfl (Ext.refl _) fun a hf => ?_
              refine pi_gs hf rfl (wanted_u hf rfl rfl rfl rfl) rfl rfl (Ext.refl _) fun a hf => ?_
              refine pi_gs hf rfl (wanted_u hf rfl rfl rfl rfl) rfl rfl (Ext.refl _) fun a hf => ?_
              refine pi_gs hf rfl (wanted_u hf rfl rfl rfl rfl) rfl rfl (Ext.refl _) fun a hf => ?_
              refine pi_gs hf rfl (wanted_u hf rfl rfl rfl rfl) rfl rfl (Ext.refl _) fun a hf => ?_
              refine pi_gs hf rfl (wanted_u hf rfl rfl rfl rfl) rfl rfl (Ext.refl _) fun a hf => ?_
              refine pi_gs hf rfl (wanted_u hf rfl rfl rfl rfl) rfl rfl (Ext.refl _) fun a hf => ?_
              refine pi_gs hf rfl (wanted_u hf rfl rfl rfl rfl) rfl rfl (Ext.refl _) fun a hf => ?_
              refine pi_gs hf rfl (wanted_u hf rfl rfl rfl rfl) rfl rfl (Ext.refl _) fun a hf => ?_
              refine pi_gs hf rfl (wanted_f hf rfl rfl rfl rfl hc50) rfl rfl (Ext.refl _) fun a hf => ?_
              refine pi_q hf rfl rfl rfl rfl (Ext.refl _) (e_pick_t hf rfl hc50 rfl) fun a hf => ?_
              refine pi_nil ?_
              obtain rfl := some_inj h43
              refine then_n ?_
              exact ⟨true, rfl, hf.keep ⟨rfl, rfl, rfl, rfl, rfl, trivial⟩, hM.pick [0, 1] rfl⟩
            · refine pi_gq hf rfl (wanted_t hf rfl rfl rfl rfl hc50) rfl rfl (Ext.refl _) (e_move hf rfl) fun a hf => ?_
              refine pi_gq hf rfl (wanted_t hf rfl rfl rfl rfl hc50) rfl rfl (Ext.refl _) (e_gt hf (x := n14) (y := 0) rfl rfl) fun a hf => ?_
              refine pi_gq hf rfl (wanted_t hf rfl rfl rfl rfl hc50) rfl rfl (Ext.refl _) (e_move hf rfl) fun a hf => ?_
              rcases cond_some h43 with ⟨hc52, h43⟩ | ⟨hc52, h43⟩
              · refine pi_gq hf rfl (wanted_t hf rfl rfl rfl rfl hc52) rfl rfl (Ext.refl _) (e_field hf rfl Try.underlying55 rfl Try.sizeOf53 (o' := 0) rfl) fun a hf => ?_
                refine pi_gq hf rfl (wanted_t hf rfl rfl rfl rfl hc52) rfl rfl (Ext.refl _) (e_load1 hf rfl Try.isAgg53 (hM.boxCell (k := 1) rfl rfl)) fun a hf => ?_
                refine pi_gq hf rfl (wanted_t hf rfl rfl rfl rfl hc52) rfl rfl (Ext.refl _) (e_move hf rfl) fun a hf => ?_
                obtain ⟨z53, hz54, h43⟩ := bind_some h43
                refine pi_gq hf rfl (wanted_t hf rfl rfl rfl rfl hc52) rfl rfl (Ext.refl _) (e_sub hf rfl rfl hz54) fun a hf => ?_
                obtain ⟨e55, hz56, h43⟩ := bind_some h43
                obtain ⟨b60, o61, _, hA62, h57, h58, hr59, hM⟩ := hM.elem (hM.dat (k := 1) rfl) (n := 2) rfl hz56
                obtain ⟨rfl, hv63, hv64⟩ := MemberRep_open hr59
                refine pi_gq hf rfl (wanted_t hf rfl rfl rfl rfl hc52) rfl rfl (Ext.refl _) (e_indexAddr (A := A2) (b := b60) (o := o61) (xs := c1.Members) (i := z53) hf hA62 rfl rfl Try.underlying53 Try.sizeOf103 h57 h58) fun a hf => ?_
                refine pi_gq hf rfl (wanted_t hf rfl rfl rfl rfl hc52) rfl rfl (Ext.refl _) (e_field hf rfl Try.underlying103 rfl Try.sizeOf9 (o' := (o61 + (z53 : Int).toNat * 2) + 0) rfl) fun a hf => ?_
                refine pi_gq hf rfl (wanted_t hf rfl rfl rfl rfl hc52) rfl rfl (Ext.refl _) (e_load1 hf rfl Try.isAgg9 (hM.litCell (k := 0) (j := 0) rfl rfl rfl)) fun a hf => ?_
                refine pi_gq hf rfl (wanted_t hf rfl rfl rfl rfl hc52) rfl rfl (Ext.refl _) (e_field hf rfl Try.underlying103 rfl Try.sizeOf9 (o' := 0) rfl) fun a hf => ?_
                refine pi_gq hf rfl (wanted_t hf rfl rfl rfl rfl hc52) rfl rfl (Ext.refl _) (e_load1 hf rfl Try.isAgg9 (hM.boxCell (k := 0) rfl rfl)) fun a hf => ?_
                refine pi_gq hf rfl (wanted_t hf rfl rfl rfl rfl hc52) rfl rfl (Ext.refl _) (e_geS hf (x := e55.Name) (y := e23.Name) rfl rfl) fun a hf => ?_
                refine pi_gq hf rfl (wanted_t hf rfl rfl rfl rfl hc50) rfl rfl (Ext.refl _) (e_pick_t hf rfl hc52 rfl) fun a hf => ?_
                refine pi_q hf rfl rfl rfl rfl (Ext.refl _) (e_pick_f hf rfl hc50 rfl) fun a hf => ?_
                refine pi_nil ?_
                obtain rfl := some_inj h43
                refine then_n ?_
                exact ⟨(!ltS e55.Name e23.Name), rfl, hf.keep ⟨rfl, rfl, rfl, rfl, rfl, trivial⟩, hM.pick [1, 2] rfl⟩
              · refine pi_gs hf rfl (wanted_f hf rfl rfl rfl rfl hc52) rfl rfl (Ext.refl _) fun a hf => ?_
                refine pi_gs hf rfl (wanted_f hf rfl rfl rfl rfl hc52) rfl rfl (Ext.refl _) fun a hf => ?_
                refine pi_gs hf rfl (wanted_f hf rfl rfl rfl rfl hc52) rfl rfl (Ext.refl _) fun a hf => ?_
                refine pi_gs hf rfl (wanted_f hf rfl rfl rfl rfl hc52) rfl rfl (Ext.refl _) fun a hf => ?_
                refine pi_gs hf rfl (wanted_f hf rfl rfl rfl rfl hc52) rfl rfl (Ext.refl _) fun a hf => ?_
                refine pi_gs hf rfl (wanted_f hf rfl rfl rfl rfl hc52) rfl rfl (Ext.refl _) fun a hf => ?_
                refine pi_gs hf rfl (wanted_f hf rfl rfl rfl rfl hc52) rfl rfl (Ext.refl _) fun a hf => ?_
                refine pi_gs hf rfl (wanted_f hf rfl rfl rfl rfl hc52) rfl rfl (Ext.refl _) fun a hf => ?_
                refine pi_gs hf rfl (wanted_f hf rfl rfl rfl rfl hc52) rfl rfl (Ext.refl _) fun a hf => ?_
                refine pi_gs hf rfl (wanted_f hf rfl rfl rfl rfl hc52) rfl rfl (Ext.refl _) fun a hf => ?_
                refine pi_gq hf rfl (wanted_t hf rfl rfl rfl rfl hc50) rfl rfl (Ext.refl _) (e_pick_f hf rfl hc52 rfl) fun a hf => ?_
                refine pi_q hf rfl rfl rfl rfl (Ext.refl _) (e_pick_f hf rfl hc50 rfl) fun a hf => ?_
                refine pi_nil ?_
                obtain rfl := some_inj h43
                refine then_n ?_
                exact ⟨false, rfl, hf.keep ⟨rfl, rfl, rfl, rfl, rfl, trivial⟩, hM.pick [0, 1] rfl⟩
          · rintro a w67 ⟨t40, rfl, hf, hM⟩
            try dsimp only at h20
            rcases cond_some h20 with ⟨hc68, h20⟩ | ⟨hc68, h20⟩
            · refine cond_t hf rfl hc68 ?_
              refine wp_seq ?_
              refine region_pl ?_
              refine q_ hf rfl rfl rfl (e_assign hf rfl) fun a hf => ?_
              refine pl_nil ?_
              refine then_n ?_
              refine wp_ret ?_
              refine blk_r ?_
              refine then_r ?_
              obtain rfl := some_inj h20
              obtain rfl := hd21 _ rfl
              try dsimp only at h12
              refine then_r ?_
              refine blk_r ?_
              obtain rfl := some_inj h12
              try dsimp only at h
              refine then_r ?_
              obtain rfl := some_inj h
              have hM := hM.outs (own' := []) 0 rfl
              exact leave1 hf rfl rfl ⟨rfl, hM.fin⟩
            · refine cond_f hf rfl hc68 ?_
              refine wp_skip ?_
              refine blk_n ?_
              refine then_n ?_
              refine region_pl ?_
              obtain ⟨z69, hz70, h20⟩ := bind_some h20
              refine q_ hf rfl rfl rfl (e_add hf rfl rfl hz70) fun a hf => ?_
              refine q_ hf rfl rfl rfl (e_move hf rfl) fun a hf => ?_
              refine pl_nil ?_
              obtain rfl := some_inj h20
              refine then_n ⟨_, rfl, ?_⟩
              exact ⟨z69, rfl, hf.keep ⟨rfl, rfl, rfl, rfl, trivial⟩, (hM.drop (.cons _ (.cons_cons _ .slnil))).pick [1] rfl, (chk_R hz70)⟩
        · refine cond_f hf rfl hc22 ?_
          refine wp_exit ?_
          refine then_x ?_
          obtain rfl := some_inj h20
          obtain rfl := hd21 _ rfl
          try dsimp only at h12
          refine then_x ?_
          refine exit_hit ?_
          obtain rfl := some_inj h12
          refine then_n ?_
          exact ⟨rfl, hf.keep trivial, hM.pick [0] rfl⟩
    · rintro a w77 ⟨rfl, hf, hM⟩
      try dsimp only at h
      refine wp_seq ?_
      refine region_pl ?_
      refine q_ hf rfl rfl rfl (e_assign hf rfl) fun a hf => ?_
      refine pl_nil ?_
      refine then_n ?_
      refine wp_ret ?_
      obtain rfl := some_inj h
      have hM := hM.outs (own' := []) 0 rfl
      exact leave1 hf rfl rfl ⟨rfl, hM.fin⟩

set_option maxRecDepth 100000 in
set_option maxHeartbeats 4000000 in
theorem r_laws_eqMember (C : Cx) (a1 : Member) (hp2 : a1.Name.length ≤ maxLen) (hp3 : R64 a1.Rating) (b4 : Member) (hp5 : b4.Name.length ≤ maxLen) (hp6 : R64 b4.Rating) (r : Bool) (h : m_laws_eqMember a1 b4 = some r) :
    Calls Try.prog 107 #[.agg #[vS (a1.Name), vI (a1.Rating)], .agg #[vS (b4.Name), vI (b4.Rating)]] C.w0 fun e w => e = .returned (.bool (r)) ∧ Mem C w [] [] := by
  have hM := Mem.begin C [] trivial
  refine enter Try.func107 rfl Try.ntmps107 rfl fun a hf => ?_
  unfold m_laws_eqMember at h
  refine wp_seq ?_
  refine region_pl ?_
  refine pl_l hf rfl rfl rfl (w_box hf hM (cs := [vS (a1.Name), vI (a1.Rating)]) rfl rfl fun b7 w8 hx9 hM a hf => ?_)
  refine pl_l hf rfl rfl rfl (w_box hf hM (cs := [vS (b4.Name), vI (b4.Rating)]) rfl rfl fun b11 w12 hx13 hM a hf => ?_)
  refine q_ hf rfl rfl rfl (e_assign hf rfl) fun a hf => ?_
  refine pl_nil ?_
  refine then_n ?_
  refine wp_seq ?_
  refine wp_seq ?_
  refine region_pl ?_
  refine q_ hf rfl rfl rfl (e_field hf rfl Try.underlying103 rfl Try.sizeOf9 (o' := 0) rfl) fun a hf => ?_
  refine q_ hf rfl rfl rfl (e_load1 hf rfl Try.isAgg9 (hM.boxCell (k := 1) rfl rfl)) fun a hf => ?_
  refine q_ hf rfl rfl rfl (e_field hf rfl Try.underlying103 rfl Try.sizeOf9 (o' := 0) rfl) fun a hf => ?_
  refine q_ hf rfl rfl rfl (e_load1 hf rfl Try.isAgg9 (hM.boxCell (k := 0) rfl rfl)) fun a hf => ?_
  refine q_ hf rfl rfl rfl (e_neS hf (x := a1.Name) (y := b4.Name) rfl rfl) fun a hf => ?_
  refine pl_nil ?_
  refine then_n ?_
  rcases cond_some h with ⟨hc15, h⟩ | ⟨hc15, h⟩
  · refine cond_t hf rfl hc15 ?_
    refine wp_seq ?_
    refine region_pl ?_
    refine q_ hf rfl rfl rfl (e_assign hf rfl) fun a hf => ?_
    refine pl_nil ?_
    refine then_n ?_
    refine wp_ret ?_
    refine then_r ?_
    obtain rfl := some_inj h
    have hM := hM.outs (own' := []) 0 rfl
    exact leave1 hf rfl rfl ⟨rfl, hM.fin⟩
  · refine cond_f hf rfl hc15 ?_
    refine wp_skip ?_
    refine then_n ?_
    refine wp_seq ?_
    refine wp_seq ?_
    refine region_pl ?_
    refine q_ hf rfl rfl rfl (e_field hf rfl Try.underlying103 rfl Try.sizeOf2 (o' := 1) rfl) fun a hf => ?_
    refine q_ hf rfl rfl rfl (e_load1 hf rfl Try.isAgg2 (hM.boxCell (k := 1) rfl rfl)) fun a hf => ?_
    refine q_ hf rfl rfl rfl (e_field hf rfl Try.underlying103 rfl Try.sizeOf2 (o' := 1) rfl) fun a hf => ?_
    refine q_ hf rfl rfl rfl (e_load1 hf rfl Try.isAgg2 (hM.boxCell (k := 0) rfl rfl)) fun a hf => ?_
    refine q_ hf rfl rfl rfl (e_ne hf (x := a1.Rating) (y := b4.Rating) rfl rfl) fun a hf => ?_
    refine pl_nil ?_
    refine then_n ?_
    rcases cond_some h with ⟨hc16, h⟩ | ⟨hc16, h⟩
    · refine cond_t hf rfl hc16 ?_
      refine wp_seq ?_
      refine region_pl ?_
      refine q_ hf rfl rfl rfl (e_assign hf rfl) fun a hf => ?_
      refine pl_nil ?_
      refine then_n ?_
      refine wp_ret ?_
      refine then_r ?_
      obtain rfl := some_inj h
      have hM := hM.outs (own' := []) 0 rfl
      exact leave1 hf rfl rfl ⟨rfl, hM.fin⟩
    · refine cond_f hf rfl hc16 ?_
      refine wp_skip ?_
      refine then_n ?_
      refine wp_seq ?_
      refine region_pl ?_
      refine q_ hf rfl rfl rfl (e_assign hf rfl) fun a hf => ?_
      refine pl_nil ?_
      refine then_n ?_
      refine wp_ret ?_
      obtain rfl := some_inj h
      have hM := hM.outs (own' := []) 0 rfl
      exact leave1 hf rfl rfl ⟨rfl, hM.fin⟩

set_option maxRecDepth 100000 in
set_option maxHeartbeats 4000000 in
theorem r_laws_eqMemberS (C : Cx) (a1 : (List Member)) (A2 : Option Addr) (c3 : Nat) (hp4 : (sliceRep MemberRep).R C.w0 C.S0 a1 [vL A2 a1 c3]) (b5 : (List Member)) (A6 : Option Addr) (c7 : Nat) (hp8 : (sliceRep MemberRep).R C.w0 C.S0 b5 [vL A6 b5 c7]) (r : Bool) (h : m_laws_eqMemberS a1 b5 = some r) :
    Calls Try.prog 76 #[vL A2 (a1) c3, vL A6 (b5) c7] C.w0 fun e w => e = .returned (.bool (r)) ∧ Mem C w [] [] := by
  have hM := Mem.begin C [.dat (sliceRep MemberRep) b5 [vL A6 b5 c7], .dat (sliceRep MemberRep) a1 [vL A2 a1 c3]] ⟨hp8, hp4, trivial⟩
  refine enter Try.func76 rfl Try.ntmps76 rfl fun a hf => ?_
  unfold m_laws_eqMemberS at h
  refine wp_seq ?_
  refine region_pl ?_
  refine q_ hf rfl rfl rfl (e_assign hf rfl) fun a hf => ?_
  refine pl_nil ?_
  refine then_n ?_
  refine wp_seq ?_
  refine wp_seq ?_
  refine region_pl ?_
  refine q_ hf rfl rfl rfl (e_move hf rfl) fun a hf => ?_
  have hl9 := slice_len (hM.dat (k := 1) rfl)
  refine q_ hf rfl rfl rfl (e_lenL hf (x := a1) rfl Try.underlying53) fun a hf => ?_
  refine q_ hf rfl rfl rfl (e_move hf rfl) fun a hf => ?_
  have hl10 := slice_len (hM.dat (k := 0) rfl)
  refine q_ hf rfl rfl rfl (e_lenL hf (x := b5) rfl Try.underlying53) fun a hf => ?_
  refine q_ hf rfl rfl rfl (e_ne hf (x := (a1.length : Int)) (y := (b5.length : Int)) rfl rfl) fun a hf => ?_
  refine pl_nil ?_
  refine then_n ?_
  rcases cond_some h with ⟨hc11, h⟩ | ⟨hc11, h⟩
  · refine cond_t hf rfl hc11 ?_
    refine wp_seq ?_
    refine region_pl ?_
    refine q_ hf rfl rfl rfl (e_assign hf rfl) fun a hf => ?_
    refine pl_nil ?_
    refine then_n ?_
    refine wp_ret ?_
    refine then_r ?_
    obtain rfl := some_inj h
    exact leave1 hf rfl rfl ⟨rfl, hM.fin⟩
  · refine cond_f hf rfl hc11 ?_
    refine wp_skip ?_
    refine then_n ?_
    obtain ⟨x12, h13, h⟩ := bind_some h
    refine seq_join (fun a w => (.inl ()) = x12 ∧ Has 27 a [] ∧ Mem C w [] [.dat (sliceRep MemberRep) b5 [vL A6 b5 c7], .dat (sliceRep MemberRep) a1 [vL A2 a1 c3]]) ?_ ?_
    · refine wp_seq ?_
      refine region_pl ?_
      refine q_ hf rfl rfl rfl (e_assign hf rfl) fun a hf => ?_
      refine pl_nil ?_
      refine then_n ?_
      refine wp_block ?_
      obtain ⟨x17, h18, h13⟩ := bind_some h13
      refine wp_loopM h18 (fun s a w => ∃ (n14 : Int), n14 = s ∧ Has 27 a [(0, vL A2 (a1) c3), (1, vL A6 (b5) c7), (5, vI (n14))] ∧ Mem C w [] [.dat (sliceRep MemberRep) b5 [vL A6 b5 c7], .dat (sliceRep MemberRep) a1 [vL A2 a1 c3]] ∧ R64 n14) ?_ ?_
      · exact ⟨0, rfl, hf.keep ⟨rfl, rfl, rfl, trivial⟩, hM.pick [0, 1] rfl, (R64_lit rfl)⟩
      · rintro s o19 a w16 ⟨n14, rfl, hf, hM, hv15⟩ h20 hd21
        replace h20 : m_laws_eqMemberS_l1 a1 b5 n14 = some o19 := h20
        unfold m_laws_eqMemberS_l1 at h20
        refine wp_seq ?_
        refine wp_seq ?_
        refine region_pl ?_
        refine q_ hf rfl rfl rfl (e_move hf rfl) fun a hf => ?_
        refine q_ hf rfl rfl rfl (e_move hf rfl) fun a hf => ?_
        have hl22 := slice_len (hM.dat (k := 1) rfl)
        refine q_ hf rfl rfl rfl (e_lenL hf (x := a1) rfl Try.underlying53) fun a hf => ?_
        refine q_ hf rfl rfl rfl (e_lt hf (x := n14) (y := (a1.length : Int)) rfl rfl) fun a hf => ?_
        refine pl_nil ?_
        refine then_n ?_
        rcases cond_some h20 with ⟨hc23, h20⟩ | ⟨hc23, h20⟩
        · refine cond_t hf rfl hc23 ?_
          refine wp_skip ?_
          refine then_n ?_
          refine wp_seq ?_
          refine wp_block ?_
          refine wp_seq ?_
          obtain ⟨w24, hw⟩ : ∃ x, x = w16.drew := ⟨_, rfl⟩
          refine region_pi (.q 0 (.q 1 (.q 2 (.q 3 (.q 4 (.q 5 (.q 6 (.q 7 (.l 8 (.q 9 (.nil))))))))))) (Ext w24) rfl (by kernel_rfl) ?_
          have hM := hM.drew
          rw [← hw] at hM ⊢
          clear hw
          refine pi_q hf rfl rfl rfl rfl (Ext.refl _) (e_move hf rfl) fun a hf => ?_
          refine pi_q hf rfl rfl rfl rfl (Ext.refl _) (e_move hf rfl) fun a hf => ?_
          obtain ⟨e25, hz26, h20⟩ := bind_some h20
          obtain ⟨b30, o31, _, hA32, h27, h28, hr29, hM⟩ := hM.elem (hM.dat (k := 1) rfl) (n := 2) rfl hz26
          obtain ⟨rfl, hv33, hv34⟩ := MemberRep_open hr29
          refine pi_q hf rfl rfl rfl rfl (Ext.refl _) (e_indexAddr (A := A2) (b := b30) (o := o31) (xs := a1) (i := n14) hf hA32 rfl rfl Try.underlying53 Try.sizeOf103 h27 h28) fun a hf => ?_
          refine pi_q hf rfl rfl rfl rfl (Ext.refl _) (e_loadA hf (us := [vS (e25.Name), vI (e25.Rating)]) rfl ⟨Try.isAgg103, Try.sizeOf103⟩ rfl (hM.litSub (k := 0) (d := 0) (us := [vS (e25.Name), vI (e25.Rating)]) rfl rfl rfl)) fun a hf => ?_
          refine pi_q hf rfl rfl rfl rfl (Ext.refl _) (e_move hf rfl) fun a hf => ?_
          refine pi_q hf rfl rfl rfl rfl (Ext.refl _) (e_move hf rfl) fun a hf => ?_
          obtain ⟨e35, hz36, h20⟩ := bind_some h20
          obtain ⟨b40, o41, _, hA42, h37, h38, hr39, hM⟩ := hM.elem (hM.dat (k := 1) rfl) (n := 2) rfl hz36
          obtain ⟨rfl, hv43, hv44⟩ := MemberRep_open hr39
          refine pi_q hf rfl rfl rfl rfl (Ext.refl _) (e_indexAddr (A := A6) (b := b40) (o := o41) (xs := b5) (i := n14) hf hA42 rfl rfl Try.underlying53 Try.sizeOf103 h37 h38) fun a hf => ?_
          refine pi_q hf rfl rfl rfl rfl (Ext.refl _) (e_loadA hf (us := [vS (e35.Name), vI (e35.Rating)]) rfl ⟨Try.isAgg103, Try.sizeOf103⟩ rfl (hM.litSub (k := 0) (d := 0) (us := [vS (e35.Name), vI (e35.Rating)]) rfl rfl rfl)) fun a hf => ?_
          refine pi_one ?_
          obtain ⟨y45, hz46, h20⟩ := bind_some h20
          refine pi_l hf rfl rfl rfl rfl (w_call hf Try.call107 rfl (r_laws_eqMember ⟨_, Sh C _ _, none_, hM.sh_lt, none_not⟩ e25 hv33 hv34 e35 hv43 hv44 _ hz46) ?_)
          rintro _ w47 ⟨rfl, hM2⟩
          obtain ⟨hM, hx48, hup49⟩ := hM.back hM2
          dsimp only [List.cons_append, List.nil_append] at hM hup49
          clear hM2
          refine ⟨_, rfl, Ext w47, fun _ h => Ext.trans hx48 h, Ext.refl _, fun a hf => ?_⟩
          refine pi_q hf rfl rfl rfl rfl (Ext.refl _) (e_not hf rfl) fun a hf => ?_
          refine pi_nil ?_
          refine then_n ?_
          rcases cond_some h20 with ⟨hc50, h20⟩ | ⟨hc50, h20⟩
          · refine cond_t hf rfl hc50 ?_
            refine wp_seq ?_
            refine region_pl ?_
            refine q_ hf rfl rfl rfl (e_assign hf rfl) fun a hf => ?_
            refine pl_nil ?_
            refine then_n ?_
            refine wp_ret ?_
            refine blk_r ?_
            refine then_r ?_
            obtain rfl := some_inj h20
            obtain rfl := hd21 _ rfl
            try dsimp only at h13
            refine then_r ?_
            refine blk_r ?_
            obtain rfl := some_inj h13
            try dsimp only at h
            refine then_r ?_
            obtain rfl := some_inj h
            exact leave1 hf rfl rfl ⟨rfl, hM.fin⟩
          · refine cond_f hf rfl hc50 ?_
            refine wp_skip ?_
            refine blk_n ?_
            refine then_n ?_
            refine region_pl ?_
            refine q_ hf rfl rfl rfl (e_move hf rfl) fun a hf => ?_
            obtain ⟨z51, hz52, h20⟩ := bind_some h20
            refine q_ hf rfl rfl rfl (e_add hf rfl rfl hz52) fun a hf => ?_
            refine q_ hf rfl rfl rfl (e_assign hf rfl) fun a hf => ?_
            refine pl_nil ?_
            obtain rfl := some_inj h20
            refine then_n ⟨_, rfl, ?_⟩
            exact ⟨z51, rfl, hf.keep ⟨rfl, rfl, rfl, trivial⟩, hM.pick [2, 3] rfl, (chk_R hz52)⟩
        · refine cond_f hf rfl hc23 ?_
          refine wp_exit ?_
          refine then_x ?_
          obtain rfl := some_inj h20
          obtain rfl := hd21 _ rfl
          try dsimp only at h13
          refine then_x ?_
          refine exit_hit ?_
          obtain rfl := some_inj h13
          refine then_n ?_
          exact ⟨rfl, hf.keep trivial, hM.pick [0, 1] rfl⟩
    · rintro a w59 ⟨rfl, hf, hM⟩
      try dsimp only at h
      refine wp_seq ?_
      refine region_pl ?_
      refine q_ hf rfl rfl rfl (e_assign hf rfl) fun a hf => ?_
      refine pl_nil ?_
      refine then_n ?_
      refine wp_ret ?_
      obtain rfl := some_inj h
      exact leave1 hf rfl rfl ⟨rfl, hM.fin⟩

set_option maxRecDepth 100000 in
set_option maxHeartbeats 4000000 in
theorem r_laws_eqClub (C : Cx) (a1 : Club) (A2 : Option Addr) (c3 : Nat) (hp4 : (sliceRep MemberRep).R C.w0 C.S0 a1.Members [vL A2 a1.Members c3]) (b5 : Club) (A6 : Option Addr) (c7 : Nat) (hp8 : (sliceRep MemberRep).R C.w0 C.S0 b5.Members [vL A6 b5.Members c7]) (r : Bool) (h : m_laws_eqClub a1 b5 = some r) :
    Calls Try.prog 36 #[.agg #[vL A2 (a1.Members) c3], .agg #[vL A6 (b5.Members) c7]] C.w0 fun e w => e = .returned (.bool (r)) ∧ Mem C w [] [] := by
  have hM := Mem.begin C [.dat (sliceRep MemberRep) b5.Members [vL A6 b5.Members c7], .dat (sliceRep MemberRep) a1.Members [vL A2 a1.Members c3]] ⟨hp8, hp4, trivial⟩
  refine enter Try.func36 rfl Try.ntmps36 rfl fun a hf => ?_
  unfold m_laws_eqClub at h
  refine wp_seq ?_
  refine region_pl ?_
  refine pl_l hf rfl rfl rfl (w_box hf hM (cs := [vL A2 (a1.Members) c3]) rfl rfl fun b9 w10 hx11 hM a hf => ?_)
  refine pl_l hf rfl rfl rfl (w_box hf hM (cs := [vL A6 (b5.Members) c7]) rfl rfl fun b13 w14 hx15 hM a hf => ?_)
  refine q_ hf rfl rfl rfl (e_assign hf rfl) fun a hf => ?_
  refine pl_nil ?_
  refine then_n ?_
  refine wp_seq ?_
  refine wp_seq ?_
  refine region_pl ?_
  refine q_ hf rfl rfl rfl (e_field hf rfl Try.underlying55 rfl Try.sizeOf53 (o' := 0) rfl) fun a hf => ?_
  refine q_ hf rfl rfl rfl (e_load1 hf rfl Try.isAgg53 (hM.boxCell (k := 1) rfl rfl)) fun a hf => ?_
  refine q_ hf rfl rfl rfl (e_field hf rfl Try.underlying55 rfl Try.sizeOf53 (o' := 0) rfl) fun a hf => ?_
  refine q_ hf rfl rfl rfl (e_load1 hf rfl Try.isAgg53 (hM.boxCell (k := 0) rfl rfl)) fun a hf => ?_
  obtain ⟨y17, hz18, h⟩ := bind_some h
  refine pl_l hf rfl rfl rfl (w_call hf Try.call76 rfl (r_laws_eqMemberS ⟨_, Sh C _ _, none_, hM.sh_lt, none_not⟩ a1.Members _ _ (hM.dat (k := 1) rfl) b5.Members _ _ (hM.dat (k := 0) rfl) _ hz18) ?_)
  rintro _ w19 ⟨rfl, hM2⟩
  obtain ⟨hM, hx20, hup21⟩ := hM.back hM2
  dsimp only [List.cons_append, List.nil_append] at hM hup21
  clear hM2
  refine ⟨_, rfl, fun a hf => ?_⟩
  refine q_ hf rfl rfl rfl (e_not hf rfl) fun a hf => ?_
  refine pl_nil ?_
  refine then_n ?_
  rcases cond_some h with ⟨hc22, h⟩ | ⟨hc22, h⟩
  · refine cond_t hf rfl hc22 ?_
    refine wp_seq ?_
    refine region_pl ?_
    refine q_ hf rfl rfl rfl (e_assign hf rfl) fun a hf => ?_
    refine pl_nil ?_
    refine then_n ?_
    refine wp_ret ?_
    refine then_r ?_
    obtain rfl := some_inj h
    have hM := hM.outs (own' := []) 0 rfl
    exact leave1 hf rfl rfl ⟨rfl, hM.fin⟩
  · refine cond_f hf rfl hc22 ?_
    refine wp_skip ?_
    refine then_n ?_
    refine wp_seq ?_
    refine region_pl ?_
    refine q_ hf rfl rfl rfl (e_assign hf rfl) fun a hf => ?_
    refine pl_nil ?_
    refine then_n ?_
    refine wp_ret ?_
    obtain rfl := some_inj h
    have hM := hM.outs (own' := []) 0 rfl
    exact leave1 hf rfl rfl ⟨rfl, hM.fin⟩

set_option maxRecDepth 100000 in
set_option maxHeartbeats 4000000 in
theorem r_laws_FnExactValidClub (C : Cx) (aC1 : Club) (A2 : Option Addr) (c3 : Nat) (hp4 : (sliceRep MemberRep).R C.w0 C.S0 aC1.Members [vL A2 aC1.Members c3]) (r : Bool) (h : m_laws_FnExactValidClub aC1 = some r) :
    Calls Try.prog 10 #[.agg #[vL A2 (aC1.Members) c3]] C.w0 fun e w => e = .returned (.bool (r)) ∧ Mem C w [] [] := by
  have hM := Mem.begin C [.dat (sliceRep MemberRep) aC1.Members [vL A2 aC1.Members c3]] ⟨hp4, trivial⟩
  refine enter Try.func10 rfl Try.ntmps10 rfl fun a hf => ?_
  unfold m_laws_FnExactValidClub at h
  refine wp_seq ?_
  refine region_pl ?_
  refine pl_l hf rfl rfl rfl (w_box hf hM (cs := [vL A2 (aC1.Members) c3]) rfl rfl fun b5 w6 hx7 hM a hf => ?_)
  refine q_ hf rfl rfl rfl (e_assign hf rfl) fun a hf => ?_
  refine pl_nil ?_
  refine then_n ?_
  refine wp_seq ?_
  refine region_pl ?_
  refine q_ hf rfl rfl rfl (e_assign hf rfl) fun a hf => ?_
  refine pl_nil ?_
  refine then_n ?_
  refine wp_seq ?_
  refine region_pl ?_
  refine q_ hf rfl rfl rfl (e_loadA hf (us := [vL A2 (aC1.Members) c3]) rfl ⟨Try.isAgg50, Try.sizeOf50⟩ rfl (hM.boxSub (k := 0) (us := [vL A2 (aC1.Members) c3]) (o := 0) rfl rfl)) fun a hf => ?_
  refine q_ hf rfl rfl rfl (e_move hf rfl) fun a hf => ?_
  obtain ⟨y9, hz10, h⟩ := bind_some h
  refine pl_l hf rfl rfl rfl (w_call hf Try.call32 rfl (r_laws_szClub ⟨_, Sh C _ _, none_, hM.sh_lt, none_not⟩ aC1 _ _ (hM.dat (k := 0) rfl) 1048576 (R64_lit rfl) _ hz10) ?_)
  rintro _ w12 ⟨rfl, hM2, hv11⟩
  obtain ⟨hM, hx13, hup14⟩ := hM.back hM2
  dsimp only [List.cons_append, List.nil_append] at hM hup14
  clear hM2
  refine ⟨_, rfl, fun a hf => ?_⟩
  refine q_ hf rfl rfl rfl (e_assign hf rfl) fun a hf => ?_
  refine pl_nil ?_
  refine then_n ?_
  refine wp_seq ?_
  refine wp_seq ?_
  refine region_pl ?_
  refine q_ hf rfl rfl rfl (e_move hf rfl) fun a hf => ?_
  refine q_ hf rfl rfl rfl (e_lt hf (x := y9) (y := 0) rfl rfl) fun a hf => ?_
  refine pl_nil ?_
  refine then_n ?_
  rcases cond_some h with ⟨hc15, h⟩ | ⟨hc15, h⟩
  · refine cond_t hf rfl hc15 ?_
    refine wp_seq ?_
    refine region_pl ?_
    refine q_ hf rfl rfl rfl (e_assign hf rfl) fun a hf => ?_
    refine pl_nil ?_
    refine then_n ?_
    refine wp_ret ?_
    refine then_r ?_
    obtain rfl := some_inj h
    have hM := hM.outs (own' := []) 0 rfl
    exact leave1 hf rfl rfl ⟨rfl, hM.fin⟩
  · refine cond_f hf rfl hc15 ?_
    refine wp_skip ?_
    refine then_n ?_
    refine wp_seq ?_
    refine region_pl ?_
    refine q_ hf rfl rfl rfl (e_loadA hf (us := [vL A2 (aC1.Members) c3]) rfl ⟨Try.isAgg50, Try.sizeOf50⟩ rfl (hM.boxSub (k := 0) (us := [vL A2 (aC1.Members) c3]) (o := 0) rfl rfl)) fun a hf => ?_
    obtain ⟨y16, hz17, h⟩ := bind_some h
    refine pl_l hf rfl rfl rfl (w_call hf Try.call34 rfl (r_laws_toClub ⟨_, Sh C _ _, none_, hM.sh_lt, none_not⟩ aC1 _ _ (hM.dat (k := 0) rfl) _ hz17) ?_)
    rintro _ w20 ⟨A18, c19, rfl, hM2⟩
    obtain ⟨hM, hx21, hup22⟩ := hM.back hM2
    dsimp only [List.cons_append, List.nil_append] at hM hup22
    clear hM2
    refine ⟨_, rfl, fun a hf => ?_⟩
    obtain ⟨y23, hz24, h⟩ := bind_some h
    refine pl_l hf rfl rfl rfl (w_call hf Try.call39 rfl (r_spec_ValidClub ⟨_, All C _ _, none_, hM.all_lt, none_not⟩ y16 _ _ (hM.lendRow (k := 0) rfl) _ hz24) ?_)
    rintro _ w25 ⟨rfl, hM2⟩
    obtain ⟨hM, hx26⟩ := hM.backA hM2
    clear hM2
    refine ⟨_, rfl, fun a hf => ?_⟩
    refine q_ hf rfl rfl rfl (e_assign hf rfl) fun a hf => ?_
    refine pl_nil ?_
    refine then_n ?_
    refine wp_seq ?_
    refine region_pl ?_
    refine q_ hf rfl rfl rfl (e_loadA hf (us := [vL A2 (aC1.Members) c3]) rfl ⟨Try.isAgg50, Try.sizeOf50⟩ rfl (hM.boxSub (k := 1) (us := [vL A2 (aC1.Members) c3]) (o := 0) rfl rfl)) fun a hf => ?_
    obtain ⟨y28, hz29, h⟩ := bind_some h
    refine pl_l hf rfl rfl rfl (w_call hf Try.call34 rfl (r_laws_toClub ⟨_, Sh C _ _, none_, hM.sh_lt, none_not⟩ aC1 _ _ (hM.dat (k := 0) rfl) _ hz29) ?_)
    rintro _ w32 ⟨A30, c31, rfl, hM2⟩
    obtain ⟨hM, hx33, hup34⟩ := hM.back hM2
    dsimp only [List.cons_append, List.nil_append] at hM hup34
    clear hM2
    refine ⟨_, rfl, fun a hf => ?_⟩
    refine pl_l hf rfl rfl rfl (w_alloc hM (cs := [vL none (([] : (List Member))) 0]) Try.zeroValue55 rfl fun b35 w36 hx37 hM a hf => ?_)
    refine pl_0 hf rfl rfl (w_store hf hM (us := [vL A30 (y28.Members) c31]) (cs' := [vL A30 (y28.Members) c31]) rfl rfl (k := 0) rfl rfl Try.sizeOf55 rfl rfl rfl fun w39 hM => ?_)
    dsimp only [List.set] at hM
    refine pl_nil ?_
    refine then_n ?_
    refine wp_seq ?_
    refine region_pl ?_
    refine q_ hf rfl rfl rfl (e_loadA hf (us := [vL A30 (y28.Members) c31]) rfl ⟨Try.isAgg55, Try.sizeOf55⟩ rfl (hM.boxSub (k := 0) (us := [vL A30 (y28.Members) c31]) (o := 0) rfl rfl)) fun a hf => ?_
    obtain ⟨y42, hz43, h⟩ := bind_some h
    refine pl_l hf rfl rfl rfl (w_call hf Try.call40 rfl (r_impl_ValidClub ⟨_, All C _ _, none_, hM.all_lt, none_not⟩ y28 _ _ (hM.lendRow (k := 1) rfl) _ hz43) ?_)
    rintro _ w44 ⟨rfl, hM2⟩
    obtain ⟨hM, hx45⟩ := hM.backA hM2
    clear hM2
    refine ⟨_, rfl, fun a hf => ?_⟩
    refine q_ hf rfl rfl rfl (e_assign hf rfl) fun a hf => ?_
    refine pl_nil ?_
    refine then_n ?_
    refine wp_seq ?_
    refine wp_seq ?_
    refine region_pl ?_
    refine q_ hf rfl rfl rfl (e_move hf rfl) fun a hf => ?_
    refine q_ hf rfl rfl rfl (e_move hf rfl) fun a hf => ?_
    refine q_ hf rfl rfl rfl (e_neT hf rfl rfl Try.underlying4) fun a hf => ?_
    refine pl_nil ?_
    refine then_n ?_
    rcases cond_some h with ⟨hc47, h⟩ | ⟨hc47, h⟩
    · refine cond_t hf rfl hc47 ?_
      refine wp_seq ?_
      refine region_pl ?_
      refine q_ hf rfl rfl rfl (e_assign hf rfl) fun a hf => ?_
      refine pl_nil ?_
      refine then_n ?_
      refine wp_ret ?_
      refine then_r ?_
      obtain rfl := some_inj h
      have hM := hM.outs (own' := []) 0 rfl
      exact leave1 hf rfl rfl ⟨rfl, hM.fin⟩
    · refine cond_f hf rfl hc47 ?_
      refine wp_skip ?_
      refine then_n ?_
      refine wp_seq ?_
      refine wp_seq ?_
      obtain ⟨w48, hw⟩ : ∃ x, x = w44.drew := ⟨_, rfl⟩
      refine region_pi (.q 0 (.q 1 (.l 2 (.l 3 (.q 4 (.nil)))))) (Ext w48) rfl (by kernel_rfl) ?_
      have hM := hM.drew
      rw [← hw] at hM ⊢
      clear hw
      refine pi_q hf rfl rfl rfl rfl (Ext.refl _) (e_loadA hf (us := [vL A30 (y28.Members) c31]) rfl ⟨Try.isAgg55, Try.sizeOf55⟩ rfl (hM.boxSub (k := 0) (us := [vL A30 (y28.Members) c31]) (o := 0) rfl rfl)) fun a hf => ?_
      refine pi_q hf rfl rfl rfl rfl (Ext.refl _) (e_loadA hf (us := [vL A2 (aC1.Members) c3]) rfl ⟨Try.isAgg50, Try.sizeOf50⟩ rfl (hM.boxSub (k := 3) (us := [vL A2 (aC1.Members) c3]) (o := 0) rfl rfl)) fun a hf => ?_
      refine pi_one ?_
      obtain ⟨y49, hz50, h⟩ := bind_some h
      refine pi_l hf rfl rfl rfl rfl (w_call hf Try.call34 rfl (r_laws_toClub ⟨_, Sh C _ _, none_, hM.sh_lt, none_not⟩ aC1 _ _ (hM.dat (k := 0) rfl) _ hz50) ?_)
      rintro _ w53 ⟨A51, c52, rfl, hM2⟩
      obtain ⟨hM, hx54, hup55⟩ := hM.back hM2
      dsimp only [List.cons_append, List.nil_append] at hM hup55
      clear hM2
      refine ⟨_, rfl, Ext w53, fun _ h => Ext.trans hx54 h, Ext.refl _, fun a hf => ?_⟩
      refine pi_one ?_
      obtain ⟨y56, hz57, h⟩ := bind_some h
      refine pi_l hf rfl rfl rfl rfl (w_call hf Try.call36 rfl (r_laws_eqClub ⟨_, All C _ _, none_, hM.all_lt, none_not⟩ y28 _ _ (hM.lendRow (k := 2) rfl) y49 _ _ (hM.lendRow (k := 0) rfl) _ hz57) ?_)
      rintro _ w58 ⟨rfl, hM2⟩
      obtain ⟨hM, hx59⟩ := hM.backA hM2
      clear hM2
      refine ⟨_, rfl, Ext w58, fun _ h => Ext.trans hx59 h, Ext.refl _, fun a hf => ?_⟩
      refine pi_q hf rfl rfl rfl rfl (Ext.refl _) (e_not hf rfl) fun a hf => ?_
      refine pi_nil ?_
      refine then_n ?_
      rcases cond_some h with ⟨hc61, h⟩ | ⟨hc61, h⟩
      · refine cond_t hf rfl hc61 ?_
        refine wp_seq ?_
        refine region_pl ?_
        refine q_ hf rfl rfl rfl (e_assign hf rfl) fun a hf => ?_
        refine pl_nil ?_
        refine then_n ?_
        refine wp_ret ?_
        refine then_r ?_
        obtain rfl := some_inj h
        have hM := hM.outs (own' := []) 0 rfl
        exact leave1 hf rfl rfl ⟨rfl, hM.fin⟩
      · refine cond_f hf rfl hc61 ?_
        refine wp_skip ?_
        refine then_n ?_
        refine wp_seq ?_
        refine region_pl ?_
        refine q_ hf rfl rfl rfl (e_assign hf rfl) fun a hf => ?_
        refine pl_nil ?_
        refine then_n ?_
        refine wp_ret ?_
        obtain rfl := some_inj h
        have hM := hM.outs (own' := []) 0 rfl
        exact leave1 hf rfl rfl ⟨rfl, hM.fin⟩

end Go.Proofs.Ytdngdgjlcfbdhaa
