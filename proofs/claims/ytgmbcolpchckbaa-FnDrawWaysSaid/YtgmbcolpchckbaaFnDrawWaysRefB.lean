/- The functions that this law reaches do what their models say. Printed by gen.py. -/
import Derived.Test.YtgmbcolpchckbaaMod
import Derived.Test.YtgmbcolpchckbaaFnDrawWaysRef
namespace Go.Proofs.Ytgmbcolpchckbaa
open Go Go.RowKit
set_option linter.unusedSimpArgs false
set_option linter.unusedVariables false

set_option maxRecDepth 100000 in
set_option maxHeartbeats 4000000 in
theorem r_laws_FnDrawWays (C : Cx) (code1 : Str) (A2 : Option Addr) (c3 : Nat) (hp4 : (sliceRep byteRep).R C.w0 C.S0 code1 [vL A2 code1 c3]) (more5 : Str) (A6 : Option Addr) (c7 : Nat) (hp8 : (sliceRep byteRep).R C.w0 C.S0 more5 [vL A6 more5 c7]) (r : Bool) (h : m_laws_FnDrawWays code1 more5 = some r) :
    Calls Try.prog 5 #[vL A2 (code1) c3, vL A6 (more5) c7] C.w0 fun e w => e = .returned (.bool (r)) ∧ Mem C w [] [] := by
  have hM := Mem.begin C [.dat (sliceRep byteRep) more5 [vL A6 more5 c7], .dat (sliceRep byteRep) code1 [vL A2 code1 c3]] ⟨hp8, hp4, trivial⟩
  refine enter Try.func5 rfl Try.ntmps5 rfl fun a hf => ?_
  unfold m_laws_FnDrawWays at h
  refine wp_seq ?_
  refine region_pl ?_
  refine q_ hf rfl rfl rfl (e_assign hf rfl) fun a hf => ?_
  refine pl_nil ?_
  refine then_n ?_
  refine wp_seq ?_
  refine wp_seq ?_
  refine region_pl ?_
  refine q_ hf rfl rfl rfl (e_move hf rfl) fun a hf => ?_
  refine q_ hf rfl rfl rfl (e_move hf rfl) fun a hf => ?_
  obtain ⟨y9, hz10, h⟩ := bind_some h
  refine pl_l hf rfl rfl rfl (w_call hf Try.call18 rfl (r_laws_a2Long ⟨_, Sh C _ _, none_, hM.sh_lt, none_not, C.G, hM.g_lt, g_none, hM.tabs⟩ code1 _ _ (hM.dat (k := 1) rfl) more5 _ _ (hM.dat (k := 0) rfl) _ hz10) ?_)
  rintro _ w11 ⟨rfl, hM2⟩
  obtain ⟨hM, hx12, hup13⟩ := hM.back hM2
  dsimp only [List.cons_append, List.nil_append] at hM hup13
  clear hM2
  refine ⟨_, rfl, fun a hf => ?_⟩
  refine pl_nil ?_
  refine then_n ?_
  rcases cond_some h with ⟨hc14, h⟩ | ⟨hc14, h⟩
  · refine cond_t hf rfl hc14 ?_
    refine wp_seq ?_
    refine region_pl ?_
    refine q_ hf rfl rfl rfl (e_assign hf rfl) fun a hf => ?_
    refine pl_nil ?_
    refine then_n ?_
    refine wp_ret ?_
    refine then_r ?_
    obtain rfl := some_inj h
    exact leave1 hf rfl rfl ⟨rfl, hM.fin⟩
  · refine cond_f hf rfl hc14 ?_
    refine wp_skip ?_
    refine then_n ?_
    refine wp_seq ?_
    refine region_pl ?_
    refine q_ hf rfl rfl rfl (e_move hf rfl) fun a hf => ?_
    obtain ⟨y15, hz16, h⟩ := bind_some h
    refine pl_l hf rfl rfl rfl (w_call hf Try.call19 rfl (r_spec_A2Piles ⟨_, Sh C _ _, none_, hM.sh_lt, none_not, C.G, hM.g_lt, g_none, hM.tabs⟩ code1 _ _ (hM.dat (k := 1) rfl) _ hz16) ?_)
    rintro _ w19 ⟨rfl, hM2, hv17, hv18⟩
    obtain ⟨hM, hx20, hup21⟩ := hM.back hM2
    dsimp only [List.cons_append, List.nil_append] at hM hup21
    clear hM2
    refine ⟨_, rfl, fun a hf => ?_⟩
    refine q_ hf rfl rfl rfl (e_move hf rfl) fun a hf => ?_
    refine q_ hf rfl rfl rfl (e_extract hf rfl rfl) fun a hf => ?_
    refine q_ hf rfl rfl rfl (e_extract hf rfl rfl) fun a hf => ?_
    refine q_ hf rfl rfl rfl (e_assign hf rfl) fun a hf => ?_
    refine q_ hf rfl rfl rfl (e_assign hf rfl) fun a hf => ?_
    refine pl_nil ?_
    refine then_n ?_
    refine wp_seq ?_
    refine region_pl ?_
    refine q_ hf rfl rfl rfl (e_move hf rfl) fun a hf => ?_
    obtain ⟨y22, hz23, h⟩ := bind_some h
    refine pl_l hf rfl rfl rfl (w_call hf Try.call20 rfl (r_laws_a2At ⟨_, Sh C _ _, none_, hM.sh_lt, none_not, C.G, hM.g_lt, g_none, hM.tabs⟩ more5 _ _ (hM.dat (k := 0) rfl) 0 (R64_lit rfl) 8 (R64_lit rfl) _ hz23) ?_)
    rintro _ w25 ⟨rfl, hM2, hv24⟩
    obtain ⟨hM, hx26, hup27⟩ := hM.back hM2
    dsimp only [List.cons_append, List.nil_append] at hM hup27
    clear hM2
    refine ⟨_, rfl, fun a hf => ?_⟩
    refine q_ hf rfl rfl rfl (e_assign hf rfl) fun a hf => ?_
    refine pl_nil ?_
    refine then_n ?_
    refine wp_seq ?_
    refine region_pl ?_
    refine q_ hf rfl rfl rfl (e_move hf rfl) fun a hf => ?_
    refine q_ hf rfl rfl rfl (e_move hf rfl) fun a hf => ?_
    obtain ⟨y28, hz29, h⟩ := bind_some h
    refine pl_l hf rfl rfl rfl (w_call hf Try.call21 rfl (r_impl_DrawsOf ⟨_, Sh C _ _, none_, hM.sh_lt, none_not, C.G, hM.g_lt, g_none, hM.tabs⟩ y15.1 hv17 y22 hv24 _ hz29) ?_)
    rintro _ w33 ⟨A30, c31, rfl, hM2, hv32⟩
    obtain ⟨hM, hx34, hup35⟩ := hM.back hM2
    dsimp only [List.cons_append, List.nil_append] at hM hup35
    clear hM2
    refine ⟨_, rfl, fun a hf => ?_⟩
    refine q_ hf rfl rfl rfl (e_move hf rfl) fun a hf => ?_
    refine q_ hf rfl rfl rfl (e_extract hf rfl rfl) fun a hf => ?_
    refine q_ hf rfl rfl rfl (e_extract hf rfl rfl) fun a hf => ?_
    refine q_ hf rfl rfl rfl (e_assign hf rfl) fun a hf => ?_
    refine q_ hf rfl rfl rfl (e_assign hf rfl) fun a hf => ?_
    refine pl_nil ?_
    refine then_n ?_
    refine wp_seq ?_
    refine region_pl ?_
    refine q_ hf rfl rfl rfl (e_move hf rfl) fun a hf => ?_
    refine q_ hf rfl rfl rfl (e_move hf rfl) fun a hf => ?_
    obtain ⟨y36, hz37, h⟩ := bind_some h
    refine pl_l hf rfl rfl rfl (w_call hf Try.call22 rfl (r_impl_DrawWays ⟨_, Sh C _ _, none_, hM.sh_lt, none_not, C.G, hM.g_lt, g_none, hM.tabs⟩ y15.1 hv17 y22 hv24 _ hz37) ?_)
    rintro _ w40 ⟨rfl, hM2, hv38, hv39⟩
    obtain ⟨hM, hx41, hup42⟩ := hM.back hM2
    dsimp only [List.cons_append, List.nil_append] at hM hup42
    clear hM2
    refine ⟨_, rfl, fun a hf => ?_⟩
    refine q_ hf rfl rfl rfl (e_move hf rfl) fun a hf => ?_
    refine q_ hf rfl rfl rfl (e_extract hf rfl rfl) fun a hf => ?_
    refine q_ hf rfl rfl rfl (e_extract hf rfl rfl) fun a hf => ?_
    refine q_ hf rfl rfl rfl (e_assign hf rfl) fun a hf => ?_
    refine q_ hf rfl rfl rfl (e_assign hf rfl) fun a hf => ?_
    refine pl_nil ?_
    refine then_n ?_
    refine wp_seq ?_
    refine region_pl ?_
    refine q_ hf rfl rfl rfl (e_move hf rfl) fun a hf => ?_
    refine q_ hf rfl rfl rfl (e_move hf rfl) fun a hf => ?_
    obtain ⟨y43, hz44, h⟩ := bind_some h
    refine pl_l hf rfl rfl rfl (w_call hf Try.call23 rfl (r_impl_ChanceOf ⟨_, Sh C _ _, none_, hM.sh_lt, none_not, C.G, hM.g_lt, g_none, hM.tabs⟩ y15.1 hv17 y22 hv24 ([] : Str) (lit_len rfl) _ hz44) ?_)
    rintro _ w47 ⟨rfl, hM2, hv45, hv46⟩
    obtain ⟨hM, hx48, hup49⟩ := hM.back hM2
    dsimp only [List.cons_append, List.nil_append] at hM hup49
    clear hM2
    refine ⟨_, rfl, fun a hf => ?_⟩
    refine q_ hf rfl rfl rfl (e_move hf rfl) fun a hf => ?_
    refine q_ hf rfl rfl rfl (e_extract hf rfl rfl) fun a hf => ?_
    refine q_ hf rfl rfl rfl (e_extract hf rfl rfl) fun a hf => ?_
    refine q_ hf rfl rfl rfl (e_assign hf rfl) fun a hf => ?_
    refine q_ hf rfl rfl rfl (e_assign hf rfl) fun a hf => ?_
    refine pl_nil ?_
    refine then_n ?_
    refine wp_seq ?_
    refine wp_seq ?_
    refine region_pl ?_
    refine q_ hf rfl rfl rfl (e_move hf rfl) fun a hf => ?_
    refine q_ hf rfl rfl rfl (e_move hf rfl) fun a hf => ?_
    refine q_ hf rfl rfl rfl (e_lenS hf (x := y15.1) rfl Try.underlying9) fun a hf => ?_
    refine q_ hf rfl rfl rfl (e_gt hf (x := y22) (y := (y15.1.length : Int)) rfl rfl) fun a hf => ?_
    refine pl_nil ?_
    refine then_n ?_
    rcases cond_some h with ⟨hc50, h⟩ | ⟨hc50, h⟩
    · refine cond_t hf rfl hc50 ?_
      obtain ⟨x53, h54, h⟩ := bind_some h
      refine seq_join (fun a w => ∃ (t51 : Bool), t51 = x53 ∧ Has 157 a [(4, .bool (t51))] ∧ Mem C w [.row DrawnRep A30 c31 47 y28.1 true] [.dat (sliceRep byteRep) more5 [vL A6 more5 c7], .dat (sliceRep byteRep) code1 [vL A2 code1 c3]]) ?_ ?_
      · refine region_pl ?_
        refine q_ hf rfl rfl rfl (e_move hf rfl) fun a hf => ?_
        refine q_ hf rfl rfl rfl (e_eq hf (x := y28.2) (y := 2) rfl rfl) fun a hf => ?_
        refine q_ hf rfl rfl rfl (e_move hf rfl) fun a hf => ?_
        rcases cond_some h54 with ⟨hc55, h54⟩ | ⟨hc55, h54⟩
        · refine gq (wanted_t hf rfl rfl rfl rfl hc55) hf rfl rfl (e_move hf rfl) fun a hf => ?_
          refine gq (wanted_t hf rfl rfl rfl rfl hc55) hf rfl rfl (e_move hf rfl) fun a hf => ?_
          refine gq (wanted_t hf rfl rfl rfl rfl hc55) hf rfl rfl (e_eq hf (x := y36.2) (y := y28.2) rfl rfl) fun a hf => ?_
          refine q_ hf rfl rfl rfl (e_pick_t hf rfl hc55 rfl) fun a hf => ?_
          refine q_ hf rfl rfl rfl (e_move hf rfl) fun a hf => ?_
          rcases cond_some h54 with ⟨hc56, h54⟩ | ⟨hc56, h54⟩
          · refine gq (wanted_t hf rfl rfl rfl rfl hc56) hf rfl rfl (e_move hf rfl) fun a hf => ?_
            refine gq (wanted_t hf rfl rfl rfl rfl hc56) hf rfl rfl (e_move hf rfl) fun a hf => ?_
            refine gq (wanted_t hf rfl rfl rfl rfl hc56) hf rfl rfl (e_eq hf (x := y43.2) (y := y28.2) rfl rfl) fun a hf => ?_
            refine q_ hf rfl rfl rfl (e_pick_t hf rfl hc56 rfl) fun a hf => ?_
            refine q_ hf rfl rfl rfl (e_assign hf rfl) fun a hf => ?_
            refine pl_nil ?_
            obtain rfl := some_inj h54
            refine then_n ?_
            exact ⟨(y43.2 == y28.2), rfl, hf.keep ⟨rfl, trivial⟩, hM.pick [0, 1] rfl⟩
          · refine pl_gs (wanted_f hf rfl rfl rfl rfl hc56) hf rfl rfl fun a hf => ?_
            refine pl_gs (wanted_f hf rfl rfl rfl rfl hc56) hf rfl rfl fun a hf => ?_
            refine pl_gs (wanted_f hf rfl rfl rfl rfl hc56) hf rfl rfl fun a hf => ?_
            refine q_ hf rfl rfl rfl (e_pick_f hf rfl hc56 rfl) fun a hf => ?_
            refine q_ hf rfl rfl rfl (e_assign hf rfl) fun a hf => ?_
            refine pl_nil ?_
            obtain rfl := some_inj h54
            refine then_n ?_
            exact ⟨false, rfl, hf.keep ⟨rfl, trivial⟩, hM.pick [0, 1] rfl⟩
        · refine pl_gs (wanted_f hf rfl rfl rfl rfl hc55) hf rfl rfl fun a hf => ?_
          refine pl_gs (wanted_f hf rfl rfl rfl rfl hc55) hf rfl rfl fun a hf => ?_
          refine pl_gs (wanted_f hf rfl rfl rfl rfl hc55) hf rfl rfl fun a hf => ?_
          refine q_ hf rfl rfl rfl (e_pick_f hf rfl hc55 rfl) fun a hf => ?_
          refine q_ hf rfl rfl rfl (e_move hf rfl) fun a hf => ?_
          refine pl_gs (wanted_f hf rfl rfl rfl rfl rfl) hf rfl rfl fun a hf => ?_
          refine pl_gs (wanted_f hf rfl rfl rfl rfl rfl) hf rfl rfl fun a hf => ?_
          refine pl_gs (wanted_f hf rfl rfl rfl rfl rfl) hf rfl rfl fun a hf => ?_
          refine q_ hf rfl rfl rfl (e_pick_f hf rfl rfl rfl) fun a hf => ?_
          refine q_ hf rfl rfl rfl (e_assign hf rfl) fun a hf => ?_
          refine pl_nil ?_
          obtain rfl := some_inj h54
          refine then_n ?_
          exact ⟨false, rfl, hf.keep ⟨rfl, trivial⟩, hM.pick [0, 1] rfl⟩
      · rintro a w60 ⟨t51, rfl, hf, hM⟩
        try dsimp only at h
        refine wp_ret ?_
        refine then_r ?_
        obtain rfl := some_inj h
        have hM := hM.outs (own' := []) 0 rfl
        exact leave1 hf rfl rfl ⟨rfl, hM.fin⟩
    · refine cond_f hf rfl hc50 ?_
      refine wp_skip ?_
      refine then_n ?_
      refine wp_seq ?_
      obtain ⟨x63, h64, h⟩ := bind_some h
      refine seq_join (fun a w => ∃ (t61 : Bool), t61 = x63 ∧ Has 157 a [(5, vS (y15.1)), (7, vI (y22)), (8, vL A30 (y28.1) c31), (9, vI (y28.2)), (10, vI (y36.1)), (72, .bool (t61))] ∧ Mem C w [.row DrawnRep A30 c31 47 y28.1 true] [.dat (sliceRep byteRep) more5 [vL A6 more5 c7], .dat (sliceRep byteRep) code1 [vL A2 code1 c3]]) ?_ ?_
      · refine region_pl ?_
        refine q_ hf rfl rfl rfl (e_move hf rfl) fun a hf => ?_
        refine q_ hf rfl rfl rfl (e_ne hf (x := y36.2) (y := 0) rfl rfl) fun a hf => ?_
        refine q_ hf rfl rfl rfl (e_move hf rfl) fun a hf => ?_
        rcases cond_some h64 with ⟨hc65, h64⟩ | ⟨hc65, h64⟩
        · refine pl_gs (wanted_f hf rfl rfl rfl rfl hc65) hf rfl rfl fun a hf => ?_
          refine pl_gs (wanted_f hf rfl rfl rfl rfl hc65) hf rfl rfl fun a hf => ?_
          refine q_ hf rfl rfl rfl (e_pick_t hf rfl hc65 rfl) fun a hf => ?_
          refine q_ hf rfl rfl rfl (e_move hf rfl) fun a hf => ?_
          refine pl_gs (wanted_f hf rfl rfl rfl rfl rfl) hf rfl rfl fun a hf => ?_
          refine pl_gs (wanted_f hf rfl rfl rfl rfl rfl) hf rfl rfl fun a hf => ?_
          refine pl_gs (wanted_f hf rfl rfl rfl rfl rfl) hf rfl rfl fun a hf => ?_
          refine q_ hf rfl rfl rfl (e_pick_t hf rfl rfl rfl) fun a hf => ?_
          refine pl_nil ?_
          obtain rfl := some_inj h64
          refine then_n ?_
          exact ⟨true, rfl, hf.keep ⟨rfl, rfl, rfl, rfl, rfl, rfl, trivial⟩, hM.pick [0, 1] rfl⟩
        · refine gq (wanted_t hf rfl rfl rfl rfl hc65) hf rfl rfl (e_move hf rfl) fun a hf => ?_
          refine gq (wanted_t hf rfl rfl rfl rfl hc65) hf rfl rfl (e_ne hf (x := y43.2) (y := 0) rfl rfl) fun a hf => ?_
          refine q_ hf rfl rfl rfl (e_pick_f hf rfl hc65 rfl) fun a hf => ?_
          refine q_ hf rfl rfl rfl (e_move hf rfl) fun a hf => ?_
          rcases cond_some h64 with ⟨hc67, h64⟩ | ⟨hc67, h64⟩
          · refine pl_gs (wanted_f hf rfl rfl rfl rfl hc67) hf rfl rfl fun a hf => ?_
            refine pl_gs (wanted_f hf rfl rfl rfl rfl hc67) hf rfl rfl fun a hf => ?_
            refine pl_gs (wanted_f hf rfl rfl rfl rfl hc67) hf rfl rfl fun a hf => ?_
            refine q_ hf rfl rfl rfl (e_pick_t hf rfl hc67 rfl) fun a hf => ?_
            refine pl_nil ?_
            obtain rfl := some_inj h64
            refine then_n ?_
            exact ⟨true, rfl, hf.keep ⟨rfl, rfl, rfl, rfl, rfl, rfl, trivial⟩, hM.pick [0, 1] rfl⟩
          · refine gq (wanted_t hf rfl rfl rfl rfl hc67) hf rfl rfl (e_move hf rfl) fun a hf => ?_
            refine gq (wanted_t hf rfl rfl rfl rfl hc67) hf rfl rfl (e_move hf rfl) fun a hf => ?_
            refine gq (wanted_t hf rfl rfl rfl rfl hc67) hf rfl rfl (e_ne hf (x := y43.1) (y := y36.1) rfl rfl) fun a hf => ?_
            refine q_ hf rfl rfl rfl (e_pick_f hf rfl hc67 rfl) fun a hf => ?_
            refine pl_nil ?_
            obtain rfl := some_inj h64
            refine then_n ?_
            exact ⟨(y43.1 != y36.1), rfl, hf.keep ⟨rfl, rfl, rfl, rfl, rfl, rfl, trivial⟩, hM.pick [0, 1] rfl⟩
      · rintro a w70 ⟨t61, rfl, hf, hM⟩
        try dsimp only at h
        rcases cond_some h with ⟨hc71, h⟩ | ⟨hc71, h⟩
        · refine cond_t hf rfl hc71 ?_
          refine wp_seq ?_
          refine region_pl ?_
          refine q_ hf rfl rfl rfl (e_assign hf rfl) fun a hf => ?_
          refine pl_nil ?_
          refine then_n ?_
          refine wp_ret ?_
          refine then_r ?_
          obtain rfl := some_inj h
          have hM := hM.outs (own' := []) 0 rfl
          exact leave1 hf rfl rfl ⟨rfl, hM.fin⟩
        · refine cond_f hf rfl hc71 ?_
          refine wp_skip ?_
          refine then_n ?_
          refine wp_seq ?_
          refine wp_seq ?_
          refine region_pl ?_
          refine q_ hf rfl rfl rfl (e_move hf rfl) fun a hf => ?_
          refine q_ hf rfl rfl rfl (e_ne hf (x := y28.2) (y := 0) rfl rfl) fun a hf => ?_
          refine pl_nil ?_
          refine then_n ?_
          rcases cond_some h with ⟨hc72, h⟩ | ⟨hc72, h⟩
          · refine cond_t hf rfl hc72 ?_
            refine wp_seq ?_
            refine region_pl ?_
            refine q_ hf rfl rfl rfl (e_move hf rfl) fun a hf => ?_
            refine q_ hf rfl rfl rfl (e_eq hf (x := y28.2) (y := 5) rfl rfl) fun a hf => ?_
            refine q_ hf rfl rfl rfl (e_assign hf rfl) fun a hf => ?_
            refine pl_nil ?_
            refine then_n ?_
            refine wp_ret ?_
            refine then_r ?_
            obtain rfl := some_inj h
            have hM := hM.outs (own' := []) 0 rfl
            exact leave1 hf rfl rfl ⟨rfl, hM.fin⟩
          · refine cond_f hf rfl hc72 ?_
            refine wp_skip ?_
            refine then_n ?_
            refine wp_seq ?_
            refine region_pl ?_
            refine q_ hf rfl rfl rfl (e_assign hf rfl) fun a hf => ?_
            refine pl_nil ?_
            refine then_n ?_
            obtain ⟨x75, h76, h⟩ := bind_some h
            refine seq_join (fun a w => ∃ (x73 : Int), (.inl x73) = x75 ∧ Has 157 a [(10, vI (y36.1)), (14, vI (x73))] ∧ Mem C w [.row DrawnRep A30 c31 47 y28.1 true] [.dat (sliceRep byteRep) more5 [vL A6 more5 c7], .dat (sliceRep byteRep) code1 [vL A2 code1 c3]] ∧ R64 x73) ?_ ?_
            · refine wp_seq ?_
              refine region_pl ?_
              refine q_ hf rfl rfl rfl (e_assign hf rfl) fun a hf => ?_
              refine pl_nil ?_
              refine then_n ?_
              refine wp_block ?_
              obtain ⟨x84, h85, h76⟩ := bind_some h76
              refine wp_loopM h85 (fun s a w => ∃ (x77 : Int) (e79 : Int), (x77, e79) = s ∧ Has 157 a [(5, vS (y15.1)), (7, vI (y22)), (8, vL A30 (y28.1) c31), (10, vI (y36.1)), (14, vI (x77)), (15, vI (e79))] ∧ Mem C w [.row DrawnRep A30 c31 47 y28.1 true] [.dat (sliceRep byteRep) more5 [vL A6 more5 c7], .dat (sliceRep byteRep) code1 [vL A2 code1 c3]] ∧ R64 x77 ∧ R64 e79) ?_ ?_
              · exact ⟨0, 0, rfl, hf.keep ⟨rfl, rfl, rfl, rfl, rfl, rfl, trivial⟩, hM.pick [0, 1] rfl, (R64_lit rfl), (R64_lit rfl)⟩
              · rintro s o86 a w81 ⟨x77, e79, rfl, hf, hM, hv78, hv80⟩ h87 hd88
                replace h87 : m_laws_FnDrawWays_l1 y28 y15 y22 x77 e79 = some o86 := h87
                unfold m_laws_FnDrawWays_l1 at h87
                refine wp_seq ?_
                refine wp_seq ?_
                refine region_pl ?_
                refine q_ hf rfl rfl rfl (e_move hf rfl) fun a hf => ?_
                refine q_ hf rfl rfl rfl (e_move hf rfl) fun a hf => ?_
                have hl89 := row_len (hM.ownAt (k := 0) rfl)
                refine q_ hf rfl rfl rfl (e_lenL hf (x := y28.1) rfl Try.underlying32) fun a hf => ?_
                refine q_ hf rfl rfl rfl (e_lt hf (x := e79) (y := (y28.1.length : Int)) rfl rfl) fun a hf => ?_
                refine pl_nil ?_
                refine then_n ?_
                rcases cond_some h87 with ⟨hc90, h87⟩ | ⟨hc90, h87⟩
                · refine cond_t hf rfl hc90 ?_
                  refine wp_skip ?_
                  refine then_n ?_
                  refine wp_seq ?_
                  refine wp_block ?_
                  refine wp_seq ?_
                  refine region_pl ?_
                  refine q_ hf rfl rfl rfl (e_move hf rfl) fun a hf => ?_
                  refine q_ hf rfl rfl rfl (e_move hf rfl) fun a hf => ?_
                  refine q_ hf rfl rfl rfl (e_move hf rfl) fun a hf => ?_
                  refine q_ hf rfl rfl rfl (e_move hf rfl) fun a hf => ?_
                  obtain ⟨e91, hz92, h87⟩ := bind_some h87
                  obtain ⟨b97, _, hA98, h93, h94, hr95, hcell96⟩ := hM.rowElemN (k := 0) rfl (n := 2) rfl hz92
                  obtain ⟨rfl, hv99, hv100⟩ := DrawnRep_open hr95
                  refine q_ hf rfl rfl rfl (e_indexAddr (A := A30) (b := b97) (o := 0) (xs := y28.1) (i := e79) hf hA98 rfl rfl Try.underlying32 Try.sizeOf47 h93 h94) fun a hf => ?_
                  refine q_ hf rfl rfl rfl (e_field hf rfl Try.underlying47 rfl Try.sizeOf9 (o' := (0 + (e79 : Int).toNat * 2) + 0) rfl) fun a hf => ?_
                  refine q_ hf rfl rfl rfl (e_load1 hf rfl Try.isAgg9 (hcell96 0 _ rfl)) fun a hf => ?_
                  obtain ⟨y101, hz102, h87⟩ := bind_some h87
                  refine pl_l hf rfl rfl rfl (w_call hf Try.call23 rfl (r_impl_ChanceOf ⟨_, Sh C _ _, none_, hM.sh_lt, none_not, C.G, hM.g_lt, g_none, hM.tabs⟩ y15.1 hv17 y22 hv24 e91.Tiles hv99 _ hz102) ?_)
                  rintro _ w105 ⟨rfl, hM2, hv103, hv104⟩
                  obtain ⟨hM, hx106, hup107⟩ := hM.back hM2
                  dsimp only [List.cons_append, List.nil_append] at hM hup107
                  clear hM2
                  refine ⟨_, rfl, fun a hf => ?_⟩
                  refine q_ hf rfl rfl rfl (e_move hf rfl) fun a hf => ?_
                  refine q_ hf rfl rfl rfl (e_extract hf rfl rfl) fun a hf => ?_
                  refine q_ hf rfl rfl rfl (e_extract hf rfl rfl) fun a hf => ?_
                  refine q_ hf rfl rfl rfl (e_assign hf rfl) fun a hf => ?_
                  refine q_ hf rfl rfl rfl (e_assign hf rfl) fun a hf => ?_
                  refine pl_nil ?_
                  refine then_n ?_
                  refine wp_seq ?_
                  obtain ⟨x110, h111, h87⟩ := bind_some h87
                  refine seq_join (fun a w => ∃ (t108 : Bool), t108 = x110 ∧ Has 157 a [(5, vS (y15.1)), (7, vI (y22)), (8, vL A30 (y28.1) c31), (10, vI (y36.1)), (14, vI (x77)), (15, vI (e79)), (16, vI (y101.1)), (150, .bool (t108))] ∧ Mem C w [.row DrawnRep A30 c31 47 y28.1 true] [.dat (sliceRep byteRep) more5 [vL A6 more5 c7], .dat (sliceRep byteRep) code1 [vL A2 code1 c3]]) ?_ ?_
                  · obtain ⟨w112, hw⟩ : ∃ x, x = w105.drew := ⟨_, rfl⟩
                    refine region_pi (.q 0 (.q 1 (.q 2 (.q 3 (.q 4 (.q 5 (.q 6 (.q 7 (.q 8 (.q 9 (.q 10 (.q 11 (.q 12 (.q 13 (.q 14 (.q 15 (.q 16 (.q 17 (.q 18 (.q 19 (.q 20 (.q 21 (.q 22 (.q 23 (.q 24 (.q 25 (.q 26 (.q 27 (.l 28 (.q 29 (.q 30 (.q 31 (.q 32 (.q 33 (.q 34 (.q 35 (.q 36 (.q 37 (.q 38 (.q 39 (.q 40 (.q 41 (.q 42 (.q 43 (.q 44 (.q 45 (.q 46 (.q 47 (.q 48 (.q 49 (.q 50 (.q 51 (.q 52 (.q 53 (.q 54 (.q 55 (.q 56 (.nil)))))))))))))))))))))))))))))))))))))))))))))))))))))))))) (Ext w112) rfl (by kernel_rfl) ?_
                    have hM := hM.drew
                    rw [← hw] at hM ⊢
                    clear hw
                    refine pi_q hf rfl rfl rfl rfl (Ext.refl _) (e_move hf rfl) fun a hf => ?_
                    refine pi_q hf rfl rfl rfl rfl (Ext.refl _) (e_ne hf (x := y101.2) (y := 0) rfl rfl) fun a hf => ?_
                    refine pi_q hf rfl rfl rfl rfl (Ext.refl _) (e_move hf rfl) fun a hf => ?_
                    rcases cond_some h111 with ⟨hc113, h111⟩ | ⟨hc113, h111⟩
                    · refine pi_gs hf rfl (wanted_f hf rfl rfl rfl rfl hc113) rfl rfl (Ext.refl _) fun a hf => ?_
                      refine pi_gs hf rfl (wanted_f hf rfl rfl rfl rfl hc113) rfl rfl (Ext.refl _) fun a hf => ?_
                      refine pi_gs hf rfl (wanted_f hf rfl rfl rfl rfl hc113) rfl rfl (Ext.refl _) fun a hf => ?_
                      refine pi_gs hf rfl (wanted_f hf rfl rfl rfl rfl hc113) rfl rfl (Ext.refl _) fun a hf => ?_
                      refine pi_gs hf rfl (wanted_f hf rfl rfl rfl rfl hc113) rfl rfl (Ext.refl _) fun a hf => ?_
                      refine pi_gs hf rfl (wanted_f hf rfl rfl rfl rfl hc113) rfl rfl (Ext.refl _) fun a hf => ?_
                      refine pi_gs hf rfl (wanted_f hf rfl rfl rfl rfl hc113) rfl rfl (Ext.refl _) fun a hf => ?_
                      refine pi_q hf rfl rfl rfl rfl (Ext.refl _) (e_pick_t hf rfl hc113 rfl) fun a hf => ?_
                      refine pi_q hf rfl rfl rfl rfl (Ext.refl _) (e_move hf rfl) fun a hf => ?_
                      refine pi_gs hf rfl (wanted_f hf rfl rfl rfl rfl rfl) rfl rfl (Ext.refl _) fun a hf => ?_
                      refine pi_gs hf rfl (wanted_f hf rfl rfl rfl rfl rfl) rfl rfl (Ext.refl _) fun a hf => ?_
                      refine pi_gs hf rfl (wanted_f hf rfl rfl rfl rfl rfl) rfl rfl (Ext.refl _) fun a hf => ?_
                      refine pi_gs hf rfl (wanted_f hf rfl rfl rfl rfl rfl) rfl rfl (Ext.refl _) fun a hf => ?_
                      refine pi_gs hf rfl (wanted_f hf rfl rfl rfl rfl rfl) rfl rfl (Ext.refl _) fun a hf => ?_
                      refine pi_gs hf rfl (wanted_f hf rfl rfl rfl rfl rfl) rfl rfl (Ext.refl _) fun a hf => ?_
                      refine pi_gs hf rfl (wanted_f hf rfl rfl rfl rfl rfl) rfl rfl (Ext.refl _) fun a hf => ?_
                      refine pi_gs hf rfl (wanted_f hf rfl rfl rfl rfl rfl) rfl rfl (Ext.refl _) fun a hf => ?_
                      refine pi_q hf rfl rfl rfl rfl (Ext.refl _) (e_pick_t hf rfl rfl rfl) fun a hf => ?_
                      refine pi_q hf rfl rfl rfl rfl (Ext.refl _) (e_move hf rfl) fun a hf => ?_
                      refine pi_gs hf rfl (wanted_f hf rfl rfl rfl rfl rfl) rfl rfl (Ext.refl _) fun a hf => ?_
                      refine pi_gs hf rfl (wanted_f hf rfl rfl rfl rfl rfl) rfl rfl (Ext.refl _) fun a hf => ?_
                      refine pi_gs hf rfl (wanted_f hf rfl rfl rfl rfl rfl) rfl rfl (Ext.refl _) fun a hf => ?_
                      refine pi_gs hf rfl (wanted_f hf rfl rfl rfl rfl rfl) rfl rfl (Ext.refl _) fun a hf => ?_
                      refine pi_gs hf rfl (wanted_f hf rfl rfl rfl rfl rfl) rfl rfl (Ext.refl _) fun a hf => ?_
                      refine pi_gs hf rfl (wanted_f hf rfl rfl rfl rfl rfl) rfl rfl (Ext.refl _) fun a hf => ?_
                      refine pi_one ?_
                      refine pi_ls hf rfl (wanted_f hf rfl rfl rfl rfl rfl) rfl rfl (Ext.refl _) fun a hf => ?_
                      refine pi_gs hf rfl (wanted_f hf rfl rfl rfl rfl rfl) rfl rfl (Ext.refl _) fun a hf => ?_
                      refine pi_q hf rfl rfl rfl rfl (Ext.refl _) (e_pick_t hf rfl rfl rfl) fun a hf => ?_
                      refine pi_q hf rfl rfl rfl rfl (Ext.refl _) (e_move hf rfl) fun a hf => ?_
                      refine pi_gs hf rfl (wanted_f hf rfl rfl rfl rfl rfl) rfl rfl (Ext.refl _) fun a hf => ?_
                      refine pi_gs hf rfl (wanted_f hf rfl rfl rfl rfl rfl) rfl rfl (Ext.refl _) fun a hf => ?_
                      refine pi_gs hf rfl (wanted_f hf rfl rfl rfl rfl rfl) rfl rfl (Ext.refl _) fun a hf => ?_
                      refine pi_gs hf rfl (wanted_u hf rfl rfl rfl rfl) rfl rfl (Ext.refl _) fun a hf => ?_
                      refine pi_gs hf rfl (wanted_u hf rfl rfl rfl rfl) rfl rfl (Ext.refl _) fun a hf => ?_
                      refine pi_gs hf rfl (wanted_u hf rfl rfl rfl rfl) rfl rfl (Ext.refl _) fun a hf => ?_
                      refine pi_gs hf rfl (wanted_u hf rfl rfl rfl rfl) rfl rfl (Ext.refl _) fun a hf => ?_
                      refine pi_gs hf rfl (wanted_u hf rfl rfl rfl rfl) rfl rfl (Ext.refl _) fun a hf => ?_
                      refine pi_gs hf rfl (wanted_u hf rfl rfl rfl rfl) rfl rfl (Ext.refl _) fun a hf => ?_
                      refine pi_gs hf rfl (wanted_u hf rfl rfl rfl rfl) rfl rfl (Ext.refl _) fun a hf => ?_
                      refine pi_gs hf rfl (wanted_u hf rfl rfl rfl rfl) rfl rfl (Ext.refl _) fun a hf => ?_
                      refine pi_gs hf rfl (wanted_u hf rfl rfl rfl rfl) rfl rfl (Ext.refl _) fun a hf => ?_
                      refine pi_gs hf rfl (wanted_u hf rfl rfl rfl rfl) rfl rfl (Ext.refl _) fun a hf => ?_
                      refine pi_gs hf rfl (wanted_u hf rfl rfl rfl rfl) rfl rfl (Ext.refl _) fun a hf => ?_
                      refine pi_gs hf rfl (wanted_u hf rfl rfl rfl rfl) rfl rfl (Ext.refl _) fun a hf => ?_
                      refine pi_gs hf rfl (wanted_f hf rfl rfl rfl rfl rfl) rfl rfl (Ext.refl _) fun a hf => ?_
                      refine pi_q hf rfl rfl rfl rfl (Ext.refl _) (e_pick_t hf rfl rfl rfl) fun a hf => ?_
                      refine pi_q hf rfl rfl rfl rfl (Ext.refl _) (e_move hf rfl) fun a hf => ?_
                      refine pi_gs hf rfl (wanted_f hf rfl rfl rfl rfl rfl) rfl rfl (Ext.refl _) fun a hf => ?_
                      refine pi_gs hf rfl (wanted_f hf rfl rfl rfl rfl rfl) rfl rfl (Ext.refl _) fun a hf => ?_
                      refine pi_q hf rfl rfl rfl rfl (Ext.refl _) (e_pick_t hf rfl rfl rfl) fun a hf => ?_
                      refine pi_q hf rfl rfl rfl rfl (Ext.refl _) (e_move hf rfl) fun a hf => ?_
                      refine pi_gs hf rfl (wanted_f hf rfl rfl rfl rfl rfl) rfl rfl (Ext.refl _) fun a hf => ?_
                      refine pi_gs hf rfl (wanted_f hf rfl rfl rfl rfl rfl) rfl rfl (Ext.refl _) fun a hf => ?_
                      refine pi_q hf rfl rfl rfl rfl (Ext.refl _) (e_pick_t hf rfl rfl rfl) fun a hf => ?_
                      refine pi_nil ?_
                      obtain rfl := some_inj h111
                      refine then_n ?_
                      exact ⟨true, rfl, hf.keep ⟨rfl, rfl, rfl, rfl, rfl, rfl, rfl, rfl, trivial⟩, hM.pick [0, 1] rfl⟩
                    · refine pi_gq hf rfl (wanted_t hf rfl rfl rfl rfl hc113) rfl rfl (Ext.refl _) (e_move hf rfl) fun a hf => ?_
                      refine pi_gq hf rfl (wanted_t hf rfl rfl rfl rfl hc113) rfl rfl (Ext.refl _) (e_move hf rfl) fun a hf => ?_
                      refine pi_gq hf rfl (wanted_t hf rfl rfl rfl rfl hc113) rfl rfl (Ext.refl _) (e_move hf rfl) fun a hf => ?_
                      obtain ⟨e115, hz116, h111⟩ := bind_some h111
                      obtain ⟨b121, _, hA122, h117, h118, hr119, hcell120⟩ := hM.rowElemN (k := 0) rfl (n := 2) rfl hz116
                      obtain ⟨rfl, hv123, hv124⟩ := DrawnRep_open hr119
                      refine pi_gq hf rfl (wanted_t hf rfl rfl rfl rfl hc113) rfl rfl (Ext.refl _) (e_indexAddr (A := A30) (b := b121) (o := 0) (xs := y28.1) (i := e79) hf hA122 rfl rfl Try.underlying32 Try.sizeOf47 h117 h118) fun a hf => ?_
                      refine pi_gq hf rfl (wanted_t hf rfl rfl rfl rfl hc113) rfl rfl (Ext.refl _) (e_field hf rfl Try.underlying47 rfl Try.sizeOf2 (o' := (0 + (e79 : Int).toNat * 2) + 1) rfl) fun a hf => ?_
                      refine pi_gq hf rfl (wanted_t hf rfl rfl rfl rfl hc113) rfl rfl (Ext.refl _) (e_load1 hf rfl Try.isAgg2 (hcell120 1 _ rfl)) fun a hf => ?_
                      refine pi_gq hf rfl (wanted_t hf rfl rfl rfl rfl hc113) rfl rfl (Ext.refl _) (e_ne hf (x := y101.1) (y := e115.Ways) rfl rfl) fun a hf => ?_
                      refine pi_q hf rfl rfl rfl rfl (Ext.refl _) (e_pick_f hf rfl hc113 rfl) fun a hf => ?_
                      refine pi_q hf rfl rfl rfl rfl (Ext.refl _) (e_move hf rfl) fun a hf => ?_
                      rcases cond_some h111 with ⟨hc125, h111⟩ | ⟨hc125, h111⟩
                      · refine pi_gs hf rfl (wanted_f hf rfl rfl rfl rfl hc125) rfl rfl (Ext.refl _) fun a hf => ?_
                        refine pi_gs hf rfl (wanted_f hf rfl rfl rfl rfl hc125) rfl rfl (Ext.refl _) fun a hf => ?_
                        refine pi_gs hf rfl (wanted_f hf rfl rfl rfl rfl hc125) rfl rfl (Ext.refl _) fun a hf => ?_
                        refine pi_gs hf rfl (wanted_f hf rfl rfl rfl rfl hc125) rfl rfl (Ext.refl _) fun a hf => ?_
                        refine pi_gs hf rfl (wanted_f hf rfl rfl rfl rfl hc125) rfl rfl (Ext.refl _) fun a hf => ?_
                        refine pi_gs hf rfl (wanted_f hf rfl rfl rfl rfl hc125) rfl rfl (Ext.refl _) fun a hf => ?_
                        refine pi_gs hf rfl (wanted_f hf rfl rfl rfl rfl hc125) rfl rfl (Ext.refl _) fun a hf => ?_
                        refine pi_gs hf rfl (wanted_f hf rfl rfl rfl rfl hc125) rfl rfl (Ext.refl _) fun a hf => ?_
                        refine pi_q hf rfl rfl rfl rfl (Ext.refl _) (e_pick_t hf rfl hc125 rfl) fun a hf => ?_
                        refine pi_q hf rfl rfl rfl rfl (Ext.refl _) (e_move hf rfl) fun a hf => ?_
                        refine pi_gs hf rfl (wanted_f hf rfl rfl rfl rfl rfl) rfl rfl (Ext.refl _) fun a hf => ?_
                        refine pi_gs hf rfl (wanted_f hf rfl rfl rfl rfl rfl) rfl rfl (Ext.refl _) fun a hf => ?_
                        refine pi_gs hf rfl (wanted_f hf rfl rfl rfl rfl rfl) rfl rfl (Ext.refl _) fun a hf => ?_
                        refine pi_gs hf rfl (wanted_f hf rfl rfl rfl rfl rfl) rfl rfl (Ext.refl _) fun a hf => ?_
                        refine pi_gs hf rfl (wanted_f hf rfl rfl rfl rfl rfl) rfl rfl (Ext.refl _) fun a hf => ?_
                        refine pi_gs hf rfl (wanted_f hf rfl rfl rfl rfl rfl) rfl rfl (Ext.refl _) fun a hf => ?_
                        refine pi_one ?_
                        refine pi_ls hf rfl (wanted_f hf rfl rfl rfl rfl rfl) rfl rfl (Ext.refl _) fun a hf => ?_
                        refine pi_gs hf rfl (wanted_f hf rfl rfl rfl rfl rfl) rfl rfl (Ext.refl _) fun a hf => ?_
                        refine pi_q hf rfl rfl rfl rfl (Ext.refl _) (e_pick_t hf rfl rfl rfl) fun a hf => ?_
                        refine pi_q hf rfl rfl rfl rfl (Ext.refl _) (e_move hf rfl) fun a hf => ?_
                        refine pi_gs hf rfl (wanted_f hf rfl rfl rfl rfl rfl) rfl rfl (Ext.refl _) fun a hf => ?_
                        refine pi_gs hf rfl (wanted_f hf rfl rfl rfl rfl rfl) rfl rfl (Ext.refl _) fun a hf => ?_
                        refine pi_gs hf rfl (wanted_f hf rfl rfl rfl rfl rfl) rfl rfl (Ext.refl _) fun a hf => ?_
                        refine pi_gs hf rfl (wanted_u hf rfl rfl rfl rfl) rfl rfl (Ext.refl _) fun a hf => ?_
                        refine pi_gs hf rfl (wanted_u hf rfl rfl rfl rfl) rfl rfl (Ext.refl _) fun a hf => ?_
                        refine pi_gs hf rfl (wanted_u hf rfl rfl rfl rfl) rfl rfl (Ext.refl _) fun a hf => ?_
                        refine pi_gs hf rfl (wanted_u hf rfl rfl rfl rfl) rfl rfl (Ext.refl _) fun a hf => ?_
                        refine pi_gs hf rfl (wanted_u hf rfl rfl rfl rfl) rfl rfl (Ext.refl _) fun a hf => ?_
                        refine pi_gs hf rfl (wanted_u hf rfl rfl rfl rfl) rfl rfl (Ext.refl _) fun a hf => ?_
                        refine pi_gs hf rfl (wanted_u hf rfl rfl rfl rfl) rfl rfl (Ext.refl _) fun a hf => ?_
                        refine pi_gs hf rfl (wanted_u hf rfl rfl rfl rfl) rfl rfl (Ext.refl _) fun a hf => ?_
                        refine pi_gs hf rfl (wanted_u hf rfl rfl rfl rfl) rfl rfl (Ext.refl _) fun a hf => ?_
                        refine pi_gs hf rfl (wanted_u hf rfl rfl rfl rfl) rfl rfl (Ext.refl _) fun a hf => ?_
                        refine pi_gs hf rfl (wanted_u hf rfl rfl rfl rfl) rfl rfl (Ext.refl _) fun a hf => ?_
                        refine pi_gs hf rfl (wanted_u hf rfl rfl rfl rfl) rfl rfl (Ext.refl _) fun a hf => ?_
                        refine pi_gs hf rfl (wanted_f hf rfl rfl rfl rfl rfl) rfl rfl (Ext.refl _) fun a hf => ?_
                        refine pi_q hf rfl rfl rfl rfl (Ext.refl _) (e_pick_t hf rfl rfl rfl) fun a hf => ?_
                        refine pi_q hf rfl rfl rfl rfl (Ext.refl _) (e_move hf rfl) fun a hf => ?_
                        refine pi_gs hf rfl (wanted_f hf rfl rfl rfl rfl rfl) rfl rfl (Ext.refl _) fun a hf => ?_
                        refine pi_gs hf rfl (wanted_f hf rfl rfl rfl rfl rfl) rfl rfl (Ext.refl _) fun a hf => ?_
                        refine pi_q hf rfl rfl rfl rfl (Ext.refl _) (e_pick_t hf rfl rfl rfl) fun a hf => ?_
                        refine pi_q hf rfl rfl rfl rfl (Ext.refl _) (e_move hf rfl) fun a hf => ?_
                        refine pi_gs hf rfl (wanted_f hf rfl rfl rfl rfl rfl) rfl rfl (Ext.refl _) fun a hf => ?_
                        refine pi_gs hf rfl (wanted_f hf rfl rfl rfl rfl rfl) rfl rfl (Ext.refl _) fun a hf => ?_
                        refine pi_q hf rfl rfl rfl rfl (Ext.refl _) (e_pick_t hf rfl rfl rfl) fun a hf => ?_
                        refine pi_nil ?_
                        obtain rfl := some_inj h111
                        refine then_n ?_
                        exact ⟨true, rfl, hf.keep ⟨rfl, rfl, rfl, rfl, rfl, rfl, rfl, rfl, trivial⟩, hM.pick [0, 1] rfl⟩
                      · refine pi_gq hf rfl (wanted_t hf rfl rfl rfl rfl hc125) rfl rfl (Ext.refl _) (e_move hf rfl) fun a hf => ?_
                        refine pi_gq hf rfl (wanted_t hf rfl rfl rfl rfl hc125) rfl rfl (Ext.refl _) (e_move hf rfl) fun a hf => ?_
                        obtain ⟨e127, hz128, h111⟩ := bind_some h111
                        obtain ⟨b133, _, hA134, h129, h130, hr131, hcell132⟩ := hM.rowElemN (k := 0) rfl (n := 2) rfl hz128
                        obtain ⟨rfl, hv135, hv136⟩ := DrawnRep_open hr131
                        refine pi_gq hf rfl (wanted_t hf rfl rfl rfl rfl hc125) rfl rfl (Ext.refl _) (e_indexAddr (A := A30) (b := b133) (o := 0) (xs := y28.1) (i := e79) hf hA134 rfl rfl Try.underlying32 Try.sizeOf47 h129 h130) fun a hf => ?_
                        refine pi_gq hf rfl (wanted_t hf rfl rfl rfl rfl hc125) rfl rfl (Ext.refl _) (e_field hf rfl Try.underlying47 rfl Try.sizeOf9 (o' := (0 + (e79 : Int).toNat * 2) + 0) rfl) fun a hf => ?_
                        refine pi_gq hf rfl (wanted_t hf rfl rfl rfl rfl hc125) rfl rfl (Ext.refl _) (e_load1 hf rfl Try.isAgg9 (hcell132 0 _ rfl)) fun a hf => ?_
                        refine pi_gq hf rfl (wanted_t hf rfl rfl rfl rfl hc125) rfl rfl (Ext.refl _) (e_lenS hf (x := e127.Tiles) rfl Try.underlying9) fun a hf => ?_
                        refine pi_gq hf rfl (wanted_t hf rfl rfl rfl rfl hc125) rfl rfl (Ext.refl _) (e_move hf rfl) fun a hf => ?_
                        refine pi_gq hf rfl (wanted_t hf rfl rfl rfl rfl hc125) rfl rfl (Ext.refl _) (e_ne hf (x := (e127.Tiles.length : Int)) (y := y22) rfl rfl) fun a hf => ?_
                        refine pi_q hf rfl rfl rfl rfl (Ext.refl _) (e_pick_f hf rfl hc125 rfl) fun a hf => ?_
                        refine pi_q hf rfl rfl rfl rfl (Ext.refl _) (e_move hf rfl) fun a hf => ?_
                        rcases cond_some h111 with ⟨hc137, h111⟩ | ⟨hc137, h111⟩
                        · refine pi_gs hf rfl (wanted_f hf rfl rfl rfl rfl hc137) rfl rfl (Ext.refl _) fun a hf => ?_
                          refine pi_gs hf rfl (wanted_f hf rfl rfl rfl rfl hc137) rfl rfl (Ext.refl _) fun a hf => ?_
                          refine pi_gs hf rfl (wanted_f hf rfl rfl rfl rfl hc137) rfl rfl (Ext.refl _) fun a hf => ?_
                          refine pi_gs hf rfl (wanted_f hf rfl rfl rfl rfl hc137) rfl rfl (Ext.refl _) fun a hf => ?_
                          refine pi_gs hf rfl (wanted_f hf rfl rfl rfl rfl hc137) rfl rfl (Ext.refl _) fun a hf => ?_
                          refine pi_gs hf rfl (wanted_f hf rfl rfl rfl rfl hc137) rfl rfl (Ext.refl _) fun a hf => ?_
                          refine pi_one ?_
                          refine pi_ls hf rfl (wanted_f hf rfl rfl rfl rfl hc137) rfl rfl (Ext.refl _) fun a hf => ?_
                          refine pi_gs hf rfl (wanted_f hf rfl rfl rfl rfl hc137) rfl rfl (Ext.refl _) fun a hf => ?_
                          refine pi_q hf rfl rfl rfl rfl (Ext.refl _) (e_pick_t hf rfl hc137 rfl) fun a hf => ?_
                          refine pi_q hf rfl rfl rfl rfl (Ext.refl _) (e_move hf rfl) fun a hf => ?_
                          refine pi_gs hf rfl (wanted_f hf rfl rfl rfl rfl rfl) rfl rfl (Ext.refl _) fun a hf => ?_
                          refine pi_gs hf rfl (wanted_f hf rfl rfl rfl rfl rfl) rfl rfl (Ext.refl _) fun a hf => ?_
                          refine pi_gs hf rfl (wanted_f hf rfl rfl rfl rfl rfl) rfl rfl (Ext.refl _) fun a hf => ?_
                          refine pi_gs hf rfl (wanted_u hf rfl rfl rfl rfl) rfl rfl (Ext.refl _) fun a hf => ?_
                          refine pi_gs hf rfl (wanted_u hf rfl rfl rfl rfl) rfl rfl (Ext.refl _) fun a hf => ?_
                          refine pi_gs hf rfl (wanted_u hf rfl rfl rfl rfl) rfl rfl (Ext.refl _) fun a hf => ?_
                          refine pi_gs hf rfl (wanted_u hf rfl rfl rfl rfl) rfl rfl (Ext.refl _) fun a hf => ?_
                          refine pi_gs hf rfl (wanted_u hf rfl rfl rfl rfl) rfl rfl (Ext.refl _) fun a hf => ?_
                          refine pi_gs hf rfl (wanted_u hf rfl rfl rfl rfl) rfl rfl (Ext.refl _) fun a hf => ?_
                          refine pi_gs hf rfl (wanted_u hf rfl rfl rfl rfl) rfl rfl (Ext.refl _) fun a hf => ?_
                          refine pi_gs hf rfl (wanted_u hf rfl rfl rfl rfl) rfl rfl (Ext.refl _) fun a hf => ?_
                          refine pi_gs hf rfl (wanted_u hf rfl rfl rfl rfl) rfl rfl (Ext.refl _) fun a hf => ?_
                          refine pi_gs hf rfl (wanted_u hf rfl rfl rfl rfl) rfl rfl (Ext.refl _) fun a hf => ?_
                          refine pi_gs hf rfl (wanted_u hf rfl rfl rfl rfl) rfl rfl (Ext.refl _) fun a hf => ?_
                          refine pi_gs hf rfl (wanted_u hf rfl rfl rfl rfl) rfl rfl (Ext.refl _) fun a hf => ?_
                          refine pi_gs hf rfl (wanted_f hf rfl rfl rfl rfl rfl) rfl rfl (Ext.refl _) fun a hf => ?_
                          refine pi_q hf rfl rfl rfl rfl (Ext.refl _) (e_pick_t hf rfl rfl rfl) fun a hf => ?_
                          refine pi_q hf rfl rfl rfl rfl (Ext.refl _) (e_move hf rfl) fun a hf => ?_
                          refine pi_gs hf rfl (wanted_f hf rfl rfl rfl rfl rfl) rfl rfl (Ext.refl _) fun a hf => ?_
                          refine pi_gs hf rfl (wanted_f hf rfl rfl rfl rfl rfl) rfl rfl (Ext.refl _) fun a hf => ?_
                          refine pi_q hf rfl rfl rfl rfl (Ext.refl _) (e_pick_t hf rfl rfl rfl) fun a hf => ?_
                          refine pi_q hf rfl rfl rfl rfl (Ext.refl _) (e_move hf rfl) fun a hf => ?_
                          refine pi_gs hf rfl (wanted_f hf rfl rfl rfl rfl rfl) rfl rfl (Ext.refl _) fun a hf => ?_
                          refine pi_gs hf rfl (wanted_f hf rfl rfl rfl rfl rfl) rfl rfl (Ext.refl _) fun a hf => ?_
                          refine pi_q hf rfl rfl rfl rfl (Ext.refl _) (e_pick_t hf rfl rfl rfl) fun a hf => ?_
                          refine pi_nil ?_
                          obtain rfl := some_inj h111
                          refine then_n ?_
                          exact ⟨true, rfl, hf.keep ⟨rfl, rfl, rfl, rfl, rfl, rfl, rfl, rfl, trivial⟩, hM.pick [0, 1] rfl⟩
                        · refine pi_gq hf rfl (wanted_t hf rfl rfl rfl rfl hc137) rfl rfl (Ext.refl _) (e_move hf rfl) fun a hf => ?_
                          refine pi_gq hf rfl (wanted_t hf rfl rfl rfl rfl hc137) rfl rfl (Ext.refl _) (e_move hf rfl) fun a hf => ?_
                          refine pi_gq hf rfl (wanted_t hf rfl rfl rfl rfl hc137) rfl rfl (Ext.refl _) (e_move hf rfl) fun a hf => ?_
                          obtain ⟨e139, hz140, h111⟩ := bind_some h111
                          obtain ⟨b145, _, hA146, h141, h142, hr143, hcell144⟩ := hM.rowElemN (k := 0) rfl (n := 2) rfl hz140
                          obtain ⟨rfl, hv147, hv148⟩ := DrawnRep_open hr143
                          refine pi_gq hf rfl (wanted_t hf rfl rfl rfl rfl hc137) rfl rfl (Ext.refl _) (e_indexAddr (A := A30) (b := b145) (o := 0) (xs := y28.1) (i := e79) hf hA146 rfl rfl Try.underlying32 Try.sizeOf47 h141 h142) fun a hf => ?_
                          refine pi_gq hf rfl (wanted_t hf rfl rfl rfl rfl hc137) rfl rfl (Ext.refl _) (e_field hf rfl Try.underlying47 rfl Try.sizeOf9 (o' := (0 + (e79 : Int).toNat * 2) + 0) rfl) fun a hf => ?_
                          refine pi_gq hf rfl (wanted_t hf rfl rfl rfl rfl hc137) rfl rfl (Ext.refl _) (e_load1 hf rfl Try.isAgg9 (hcell144 0 _ rfl)) fun a hf => ?_
                          refine pi_one ?_
                          obtain ⟨y149, hz150, h111⟩ := bind_some h111
                          refine pi_gl hf rfl (wanted_t hf rfl rfl rfl rfl hc137) rfl rfl (w_call hf Try.call24 rfl (r_spec_ContainsTiles ⟨_, Sh C _ _, none_, hM.sh_lt, none_not, C.G, hM.g_lt, g_none, hM.tabs⟩ y15.1 hv17 e139.Tiles hv147 _ hz150) ?_)
                          rintro _ w151 ⟨rfl, hM2⟩
                          obtain ⟨hM, hx152, hup153⟩ := hM.back hM2
                          dsimp only [List.cons_append, List.nil_append] at hM hup153
                          clear hM2
                          refine ⟨_, rfl, Ext w151, fun _ h => Ext.trans hx152 h, Ext.refl _, fun a hf => ?_⟩
                          refine pi_gq hf rfl (wanted_t hf rfl rfl rfl rfl hc137) rfl rfl (Ext.refl _) (e_not hf rfl) fun a hf => ?_
                          refine pi_q hf rfl rfl rfl rfl (Ext.refl _) (e_pick_f hf rfl hc137 rfl) fun a hf => ?_
                          refine pi_q hf rfl rfl rfl rfl (Ext.refl _) (e_move hf rfl) fun a hf => ?_
                          rcases cond_some h111 with ⟨hc154, h111⟩ | ⟨hc154, h111⟩
                          · refine pi_gs hf rfl (wanted_f hf rfl rfl rfl rfl hc154) rfl rfl (Ext.refl _) fun a hf => ?_
                            refine pi_gs hf rfl (wanted_f hf rfl rfl rfl rfl hc154) rfl rfl (Ext.refl _) fun a hf => ?_
                            refine pi_gs hf rfl (wanted_f hf rfl rfl rfl rfl hc154) rfl rfl (Ext.refl _) fun a hf => ?_
                            refine pi_gs hf rfl (wanted_u hf rfl rfl rfl rfl) rfl rfl (Ext.refl _) fun a hf => ?_
                            refine pi_gs hf rfl (wanted_u hf rfl rfl rfl rfl) rfl rfl (Ext.refl _) fun a hf => ?_
                            refine pi_gs hf rfl (wanted_u hf rfl rfl rfl rfl) rfl rfl (Ext.refl _) fun a hf => ?_
                            refine pi_gs hf rfl (wanted_u hf rfl rfl rfl rfl) rfl rfl (Ext.refl _) fun a hf => ?_
                            refine pi_gs hf rfl (wanted_u hf rfl rfl rfl rfl) rfl rfl (Ext.refl _) fun a hf => ?_
                            refine pi_gs hf rfl (wanted_u hf rfl rfl rfl rfl) rfl rfl (Ext.refl _) fun a hf => ?_
                            refine pi_gs hf rfl (wanted_u hf rfl rfl rfl rfl) rfl rfl (Ext.refl _) fun a hf => ?_
                            refine pi_gs hf rfl (wanted_u hf rfl rfl rfl rfl) rfl rfl (Ext.refl _) fun a hf => ?_
                            refine pi_gs hf rfl (wanted_u hf rfl rfl rfl rfl) rfl rfl (Ext.refl _) fun a hf => ?_
                            refine pi_gs hf rfl (wanted_u hf rfl rfl rfl rfl) rfl rfl (Ext.refl _) fun a hf => ?_
                            refine pi_gs hf rfl (wanted_u hf rfl rfl rfl rfl) rfl rfl (Ext.refl _) fun a hf => ?_
                            refine pi_gs hf rfl (wanted_u hf rfl rfl rfl rfl) rfl rfl (Ext.refl _) fun a hf => ?_
                            refine pi_gs hf rfl (wanted_f hf rfl rfl rfl rfl hc154) rfl rfl (Ext.refl _) fun a hf => ?_
                            refine pi_q hf rfl rfl rfl rfl (Ext.refl _) (e_pick_t hf rfl hc154 rfl) fun a hf => ?_
                            refine pi_q hf rfl rfl rfl rfl (Ext.refl _) (e_move hf rfl) fun a hf => ?_
                            refine pi_gs hf rfl (wanted_f hf rfl rfl rfl rfl rfl) rfl rfl (Ext.refl _) fun a hf => ?_
                            refine pi_gs hf rfl (wanted_f hf rfl rfl rfl rfl rfl) rfl rfl (Ext.refl _) fun a hf => ?_
                            refine pi_q hf rfl rfl rfl rfl (Ext.refl _) (e_pick_t hf rfl rfl rfl) fun a hf => ?_
                            refine pi_q hf rfl rfl rfl rfl (Ext.refl _) (e_move hf rfl) fun a hf => ?_
                            refine pi_gs hf rfl (wanted_f hf rfl rfl rfl rfl rfl) rfl rfl (Ext.refl _) fun a hf => ?_
                            refine pi_gs hf rfl (wanted_f hf rfl rfl rfl rfl rfl) rfl rfl (Ext.refl _) fun a hf => ?_
                            refine pi_q hf rfl rfl rfl rfl (Ext.refl _) (e_pick_t hf rfl rfl rfl) fun a hf => ?_
                            refine pi_nil ?_
                            obtain rfl := some_inj h111
                            refine then_n ?_
                            exact ⟨true, rfl, hf.keep ⟨rfl, rfl, rfl, rfl, rfl, rfl, rfl, rfl, trivial⟩, hM.pick [0, 1] rfl⟩
                          · refine pi_gq hf rfl (wanted_t hf rfl rfl rfl rfl hc154) rfl rfl (Ext.refl _) (e_move hf rfl) fun a hf => ?_
                            refine pi_gq hf rfl (wanted_t hf rfl rfl rfl rfl hc154) rfl rfl (Ext.refl _) (e_gt hf (x := e79) (y := 0) rfl rfl) fun a hf => ?_
                            refine pi_gq hf rfl (wanted_t hf rfl rfl rfl rfl hc154) rfl rfl (Ext.refl _) (e_move hf rfl) fun a hf => ?_
                            rcases cond_some h111 with ⟨hc156, h111⟩ | ⟨hc156, h111⟩
                            · refine pi_gq hf rfl (wanted_t hf rfl rfl rfl rfl hc156) rfl rfl (Ext.refl _) (e_move hf rfl) fun a hf => ?_
                              refine pi_gq hf rfl (wanted_t hf rfl rfl rfl rfl hc156) rfl rfl (Ext.refl _) (e_move hf rfl) fun a hf => ?_
                              obtain ⟨e157, hz158, h111⟩ := bind_some h111
                              obtain ⟨b163, _, hA164, h159, h160, hr161, hcell162⟩ := hM.rowElemN (k := 0) rfl (n := 2) rfl hz158
                              obtain ⟨rfl, hv165, hv166⟩ := DrawnRep_open hr161
                              refine pi_gq hf rfl (wanted_t hf rfl rfl rfl rfl hc156) rfl rfl (Ext.refl _) (e_indexAddr (A := A30) (b := b163) (o := 0) (xs := y28.1) (i := e79) hf hA164 rfl rfl Try.underlying32 Try.sizeOf47 h159 h160) fun a hf => ?_
                              refine pi_gq hf rfl (wanted_t hf rfl rfl rfl rfl hc156) rfl rfl (Ext.refl _) (e_field hf rfl Try.underlying47 rfl Try.sizeOf9 (o' := (0 + (e79 : Int).toNat * 2) + 0) rfl) fun a hf => ?_
                              refine pi_gq hf rfl (wanted_t hf rfl rfl rfl rfl hc156) rfl rfl (Ext.refl _) (e_load1 hf rfl Try.isAgg9 (hcell162 0 _ rfl)) fun a hf => ?_
                              refine pi_gq hf rfl (wanted_t hf rfl rfl rfl rfl hc156) rfl rfl (Ext.refl _) (e_move hf rfl) fun a hf => ?_
                              refine pi_gq hf rfl (wanted_t hf rfl rfl rfl rfl hc156) rfl rfl (Ext.refl _) (e_move hf rfl) fun a hf => ?_
                              obtain ⟨z167, hz168, h111⟩ := bind_some h111
                              refine pi_gq hf rfl (wanted_t hf rfl rfl rfl rfl hc156) rfl rfl (Ext.refl _) (e_sub hf rfl rfl hz168) fun a hf => ?_
                              obtain ⟨e169, hz170, h111⟩ := bind_some h111
                              obtain ⟨b175, _, hA176, h171, h172, hr173, hcell174⟩ := hM.rowElemN (k := 0) rfl (n := 2) rfl hz170
                              obtain ⟨rfl, hv177, hv178⟩ := DrawnRep_open hr173
                              refine pi_gq hf rfl (wanted_t hf rfl rfl rfl rfl hc156) rfl rfl (Ext.refl _) (e_indexAddr (A := A30) (b := b175) (o := 0) (xs := y28.1) (i := z167) hf hA176 rfl rfl Try.underlying32 Try.sizeOf47 h171 h172) fun a hf => ?_
                              refine pi_gq hf rfl (wanted_t hf rfl rfl rfl rfl hc156) rfl rfl (Ext.refl _) (e_field hf rfl Try.underlying47 rfl Try.sizeOf9 (o' := (0 + (z167 : Int).toNat * 2) + 0) rfl) fun a hf => ?_
                              refine pi_gq hf rfl (wanted_t hf rfl rfl rfl rfl hc156) rfl rfl (Ext.refl _) (e_load1 hf rfl Try.isAgg9 (hcell174 0 _ rfl)) fun a hf => ?_
                              refine pi_gq hf rfl (wanted_t hf rfl rfl rfl rfl hc156) rfl rfl (Ext.refl _) (e_leS hf (x := e157.Tiles) (y := e169.Tiles) rfl rfl) fun a hf => ?_
                              refine pi_gq hf rfl (wanted_t hf rfl rfl rfl rfl hc154) rfl rfl (Ext.refl _) (e_pick_t hf rfl hc156 rfl) fun a hf => ?_
                              refine pi_q hf rfl rfl rfl rfl (Ext.refl _) (e_pick_f hf rfl hc154 rfl) fun a hf => ?_
                              refine pi_q hf rfl rfl rfl rfl (Ext.refl _) (e_move hf rfl) fun a hf => ?_
                              rcases cond_some h111 with ⟨hc179, h111⟩ | ⟨hc179, h111⟩
                              · refine pi_gs hf rfl (wanted_f hf rfl rfl rfl rfl hc179) rfl rfl (Ext.refl _) fun a hf => ?_
                                refine pi_gs hf rfl (wanted_f hf rfl rfl rfl rfl hc179) rfl rfl (Ext.refl _) fun a hf => ?_
                                refine pi_q hf rfl rfl rfl rfl (Ext.refl _) (e_pick_t hf rfl hc179 rfl) fun a hf => ?_
                                refine pi_q hf rfl rfl rfl rfl (Ext.refl _) (e_move hf rfl) fun a hf => ?_
                                refine pi_gs hf rfl (wanted_f hf rfl rfl rfl rfl rfl) rfl rfl (Ext.refl _) fun a hf => ?_
                                refine pi_gs hf rfl (wanted_f hf rfl rfl rfl rfl rfl) rfl rfl (Ext.refl _) fun a hf => ?_
                                refine pi_q hf rfl rfl rfl rfl (Ext.refl _) (e_pick_t hf rfl rfl rfl) fun a hf => ?_
                                refine pi_nil ?_
                                obtain rfl := some_inj h111
                                refine then_n ?_
                                exact ⟨true, rfl, hf.keep ⟨rfl, rfl, rfl, rfl, rfl, rfl, rfl, rfl, trivial⟩, hM.pick [0, 1] rfl⟩
                              · refine pi_gq hf rfl (wanted_t hf rfl rfl rfl rfl hc179) rfl rfl (Ext.refl _) (e_move hf rfl) fun a hf => ?_
                                refine pi_gq hf rfl (wanted_t hf rfl rfl rfl rfl hc179) rfl rfl (Ext.refl _) (e_lt hf (x := y101.1) (y := 1) rfl rfl) fun a hf => ?_
                                refine pi_q hf rfl rfl rfl rfl (Ext.refl _) (e_pick_f hf rfl hc179 rfl) fun a hf => ?_
                                refine pi_q hf rfl rfl rfl rfl (Ext.refl _) (e_move hf rfl) fun a hf => ?_
                                rcases cond_some h111 with ⟨hc181, h111⟩ | ⟨hc181, h111⟩
                                · refine pi_gs hf rfl (wanted_f hf rfl rfl rfl rfl hc181) rfl rfl (Ext.refl _) fun a hf => ?_
                                  refine pi_gs hf rfl (wanted_f hf rfl rfl rfl rfl hc181) rfl rfl (Ext.refl _) fun a hf => ?_
                                  refine pi_q hf rfl rfl rfl rfl (Ext.refl _) (e_pick_t hf rfl hc181 rfl) fun a hf => ?_
                                  refine pi_nil ?_
                                  obtain rfl := some_inj h111
                                  refine then_n ?_
                                  exact ⟨true, rfl, hf.keep ⟨rfl, rfl, rfl, rfl, rfl, rfl, rfl, rfl, trivial⟩, hM.pick [0, 1] rfl⟩
                                · refine pi_gq hf rfl (wanted_t hf rfl rfl rfl rfl hc181) rfl rfl (Ext.refl _) (e_move hf rfl) fun a hf => ?_
                                  refine pi_gq hf rfl (wanted_t hf rfl rfl rfl rfl hc181) rfl rfl (Ext.refl _) (e_gt hf (x := y101.1) (y := 1000000) rfl rfl) fun a hf => ?_
                                  refine pi_q hf rfl rfl rfl rfl (Ext.refl _) (e_pick_f hf rfl hc181 rfl) fun a hf => ?_
                                  refine pi_nil ?_
                                  obtain rfl := some_inj h111
                                  refine then_n ?_
                                  exact ⟨(decide (1000000 < y101.1)), rfl, hf.keep ⟨rfl, rfl, rfl, rfl, rfl, rfl, rfl, rfl, trivial⟩, hM.pick [0, 1] rfl⟩
                            · refine pi_gs hf rfl (wanted_f hf rfl rfl rfl rfl hc156) rfl rfl (Ext.refl _) fun a hf => ?_
                              refine pi_gs hf rfl (wanted_f hf rfl rfl rfl rfl hc156) rfl rfl (Ext.refl _) fun a hf => ?_
                              refine pi_gs hf rfl (wanted_f hf rfl rfl rfl rfl hc156) rfl rfl (Ext.refl _) fun a hf => ?_
                              refine pi_gs hf rfl (wanted_f hf rfl rfl rfl rfl hc156) rfl rfl (Ext.refl _) fun a hf => ?_
                              refine pi_gs hf rfl (wanted_f hf rfl rfl rfl rfl hc156) rfl rfl (Ext.refl _) fun a hf => ?_
                              refine pi_gs hf rfl (wanted_f hf rfl rfl rfl rfl hc156) rfl rfl (Ext.refl _) fun a hf => ?_
                              refine pi_gs hf rfl (wanted_f hf rfl rfl rfl rfl hc156) rfl rfl (Ext.refl _) fun a hf => ?_
                              refine pi_gs hf rfl (wanted_f hf rfl rfl rfl rfl hc156) rfl rfl (Ext.refl _) fun a hf => ?_
                              refine pi_gs hf rfl (wanted_f hf rfl rfl rfl rfl hc156) rfl rfl (Ext.refl _) fun a hf => ?_
                              refine pi_gs hf rfl (wanted_f hf rfl rfl rfl rfl hc156) rfl rfl (Ext.refl _) fun a hf => ?_
                              refine pi_gs hf rfl (wanted_f hf rfl rfl rfl rfl hc156) rfl rfl (Ext.refl _) fun a hf => ?_
                              refine pi_gs hf rfl (wanted_f hf rfl rfl rfl rfl hc156) rfl rfl (Ext.refl _) fun a hf => ?_
                              refine pi_gq hf rfl (wanted_t hf rfl rfl rfl rfl hc154) rfl rfl (Ext.refl _) (e_pick_f hf rfl hc156 rfl) fun a hf => ?_
                              refine pi_q hf rfl rfl rfl rfl (Ext.refl _) (e_pick_f hf rfl hc154 rfl) fun a hf => ?_
                              refine pi_q hf rfl rfl rfl rfl (Ext.refl _) (e_move hf rfl) fun a hf => ?_
                              refine pi_gq hf rfl (wanted_t hf rfl rfl rfl rfl rfl) rfl rfl (Ext.refl _) (e_move hf rfl) fun a hf => ?_
                              refine pi_gq hf rfl (wanted_t hf rfl rfl rfl rfl rfl) rfl rfl (Ext.refl _) (e_lt hf (x := y101.1) (y := 1) rfl rfl) fun a hf => ?_
                              refine pi_q hf rfl rfl rfl rfl (Ext.refl _) (e_pick_f hf rfl rfl rfl) fun a hf => ?_
                              refine pi_q hf rfl rfl rfl rfl (Ext.refl _) (e_move hf rfl) fun a hf => ?_
                              rcases cond_some h111 with ⟨hc184, h111⟩ | ⟨hc184, h111⟩
                              · refine pi_gs hf rfl (wanted_f hf rfl rfl rfl rfl hc184) rfl rfl (Ext.refl _) fun a hf => ?_
                                refine pi_gs hf rfl (wanted_f hf rfl rfl rfl rfl hc184) rfl rfl (Ext.refl _) fun a hf => ?_
                                refine pi_q hf rfl rfl rfl rfl (Ext.refl _) (e_pick_t hf rfl hc184 rfl) fun a hf => ?_
                                refine pi_nil ?_
                                obtain rfl := some_inj h111
                                refine then_n ?_
                                exact ⟨true, rfl, hf.keep ⟨rfl, rfl, rfl, rfl, rfl, rfl, rfl, rfl, trivial⟩, hM.pick [0, 1] rfl⟩
                              · refine pi_gq hf rfl (wanted_t hf rfl rfl rfl rfl hc184) rfl rfl (Ext.refl _) (e_move hf rfl) fun a hf => ?_
                                refine pi_gq hf rfl (wanted_t hf rfl rfl rfl rfl hc184) rfl rfl (Ext.refl _) (e_gt hf (x := y101.1) (y := 1000000) rfl rfl) fun a hf => ?_
                                refine pi_q hf rfl rfl rfl rfl (Ext.refl _) (e_pick_f hf rfl hc184 rfl) fun a hf => ?_
                                refine pi_nil ?_
                                obtain rfl := some_inj h111
                                refine then_n ?_
                                exact ⟨(decide (1000000 < y101.1)), rfl, hf.keep ⟨rfl, rfl, rfl, rfl, rfl, rfl, rfl, rfl, trivial⟩, hM.pick [0, 1] rfl⟩
                  · rintro a w187 ⟨t108, rfl, hf, hM⟩
                    try dsimp only at h87
                    rcases cond_some h87 with ⟨hc188, h87⟩ | ⟨hc188, h87⟩
                    · refine cond_t hf rfl hc188 ?_
                      refine wp_seq ?_
                      refine region_pl ?_
                      refine q_ hf rfl rfl rfl (e_assign hf rfl) fun a hf => ?_
                      refine pl_nil ?_
                      refine then_n ?_
                      refine wp_ret ?_
                      refine then_r ?_
                      refine blk_r ?_
                      refine then_r ?_
                      obtain rfl := some_inj h87
                      obtain rfl := hd88 _ rfl
                      try dsimp only at h76
                      refine then_r ?_
                      refine blk_r ?_
                      obtain rfl := some_inj h76
                      try dsimp only at h
                      refine then_r ?_
                      obtain rfl := some_inj h
                      have hM := hM.outs (own' := []) 0 rfl
                      exact leave1 hf rfl rfl ⟨rfl, hM.fin⟩
                    · refine cond_f hf rfl hc188 ?_
                      refine wp_skip ?_
                      refine then_n ?_
                      refine region_pl ?_
                      refine q_ hf rfl rfl rfl (e_move hf rfl) fun a hf => ?_
                      refine q_ hf rfl rfl rfl (e_move hf rfl) fun a hf => ?_
                      obtain ⟨z189, hz190, h87⟩ := bind_some h87
                      refine q_ hf rfl rfl rfl (e_add hf rfl rfl hz190) fun a hf => ?_
                      refine q_ hf rfl rfl rfl (e_assign hf rfl) fun a hf => ?_
                      refine pl_nil ?_
                      refine blk_n ?_
                      refine then_n ?_
                      refine region_pl ?_
                      refine q_ hf rfl rfl rfl (e_move hf rfl) fun a hf => ?_
                      obtain ⟨z191, hz192, h87⟩ := bind_some h87
                      refine q_ hf rfl rfl rfl (e_add hf rfl rfl hz192) fun a hf => ?_
                      refine q_ hf rfl rfl rfl (e_assign hf rfl) fun a hf => ?_
                      refine pl_nil ?_
                      obtain rfl := some_inj h87
                      refine then_n ⟨_, rfl, ?_⟩
                      exact ⟨z189, z191, rfl, hf.keep ⟨rfl, rfl, rfl, rfl, rfl, rfl, trivial⟩, hM.pick [0, 1] rfl, (chk_R hz190), (chk_R hz192)⟩
                · refine cond_f hf rfl hc90 ?_
                  refine wp_exit ?_
                  refine then_x ?_
                  obtain rfl := some_inj h87
                  obtain rfl := hd88 _ rfl
                  try dsimp only at h76
                  refine then_x ?_
                  refine exit_hit ?_
                  obtain rfl := some_inj h76
                  refine then_n ?_
                  exact ⟨x77, rfl, hf.keep ⟨rfl, rfl, trivial⟩, hM.pick [0, 1] rfl, hv78⟩
            · rintro a w199 ⟨x73, rfl, hf, hM, hv74⟩
              try dsimp only at h
              refine wp_seq ?_
              refine region_pl ?_
              refine q_ hf rfl rfl rfl (e_move hf rfl) fun a hf => ?_
              refine q_ hf rfl rfl rfl (e_move hf rfl) fun a hf => ?_
              refine q_ hf rfl rfl rfl (e_eq hf (x := x73) (y := y36.1) rfl rfl) fun a hf => ?_
              refine q_ hf rfl rfl rfl (e_assign hf rfl) fun a hf => ?_
              refine pl_nil ?_
              refine then_n ?_
              refine wp_ret ?_
              obtain rfl := some_inj h
              have hM := hM.outs (own' := []) 0 rfl
              exact leave1 hf rfl rfl ⟨rfl, hM.fin⟩

end Go.Proofs.Ytgmbcolpchckbaa
