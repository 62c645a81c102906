/- The functions that this law reaches do what their models say. Printed by gen.py. -/
import Derived.Test.YtgmikhdealhlfaaGreatDoorMod
import Derived.Test.YtgmikhdealhlfaaGreatDoorLib
import Derived.Test.YtgmikhdealhlfaaGreatDoorFnSlotsRefB
namespace Go.Proofs.YtgmikhdealhlfaaGreatDoor
open Go Go.RowKit
set_option linter.unusedSimpArgs false
set_option linter.unusedVariables false

set_option maxRecDepth 100000 in
set_option maxHeartbeats 4000000 in
theorem r_spec_l05Draw (C : Cx) (s1 : l00Src) (b2 : Nat) (A3 : Option Addr) (c4 : Nat) (hp5 : (sliceRep byteRep).R C.w0 C.S0 s1.code [vL A3 s1.code c4]) (hp6 : R64 s1.at_) (hp7 : U64 s1.seed) (most8 : Int) (hp9 : R64 most8) (hO : Mem C C.w0 [.box b2 [vL A3 (s1.code) c4, vI (s1.at_), vW (s1.seed)] 84] []) (hd : ∀ b, C.S0 b → ¬ ownB [.box b2 [vL A3 (s1.code) c4, vI (s1.at_), vW (s1.seed)] 84] b) (r : (Lexicon × l00Src)) (h : m_spec_l05Draw s1 most8 = some r) :
    Calls Tryz.prog 87 #[vP b2 (0), vI (most8)] C.w0 fun e w => ∃ (A_1 : Option Addr), ∃ (c_1 : Nat), ∃ (A_2 : Option Addr), ∃ (c_2 : Nat), e = .returned (.agg #[vL A_2 (r.1.Words) c_2]) ∧ Mem C w [.box b2 [vL A_1 (r.2.code) c_1, vI (r.2.at_), vW (r.2.seed)] 84, .row strRep A_2 c_2 9 r.1.Words true] [] ∧ (sliceRep byteRep).R w (Sh C [.box b2 [vL A_1 (r.2.code) c_1, vI (r.2.at_), vW (r.2.seed)] 84, .row strRep A_2 c_2 9 r.1.Words true] w) r.2.code [vL A_1 r.2.code c_1] ∧ R64 r.2.at_ ∧ U64 r.2.seed := by
  have hM := hO
  have hM := hM.addIn hd (y := .dat (sliceRep byteRep) s1.code [vL A3 s1.code c4]) hp5
  refine enter Tryz.func87 rfl Tryz.ntmps87 rfl fun a hf => ?_
  unfold m_spec_l05Draw at h
  refine wp_seq ?_
  refine region_pl ?_
  refine pl_l hf rfl rfl rfl (w_alloc hM (cs := [vL none (([] : (List Str))) 0]) Tryz.zeroValue41 rfl fun b10 w11 hx12 hM a hf => ?_)
  refine pl_nil ?_
  refine then_n ?_
  refine wp_seq ?_
  refine region_pl ?_
  obtain ⟨y14, hz15, h⟩ := bind_some h
  refine pl_l hf rfl rfl rfl (w_call hf Tryz.call90 rfl (r_spec_l05Some ⟨_, Sh C _ _, none_, hM.sh_lt, none_not, C.G, hM.g_lt, g_none, hM.tabs⟩ _ hz15) ?_)
  rintro _ w18 ⟨A16, c17, rfl, hM2⟩
  obtain ⟨hM, hx19, hup20⟩ := hM.back hM2
  dsimp only [List.cons_append, List.nil_append] at hM hup20
  clear hM2
  refine ⟨_, rfl, fun a hf => ?_⟩
  refine q_ hf rfl rfl rfl (e_assign hf rfl) fun a hf => ?_
  refine pl_nil ?_
  refine then_n ?_
  refine wp_seq ?_
  refine region_pl ?_
  refine pl_l hf rfl rfl rfl (w_slice0 (K := strRep) hM Tryz.underlying39 ei_9 fun b21 w22 hx23 hM a hf => ?_)
  refine q_ hf rfl rfl rfl (e_assign hf rfl) fun a hf => ?_
  refine pl_nil ?_
  refine then_n ?_
  obtain ⟨x34, h35, h⟩ := bind_some h
  refine seq_join (fun a w => ∃ (l24 : Str) (n27 : Int) (n29 : Int) (xs31 : (List Str)) (A25 : Option Addr) (c26 : Nat) (A32 : Option Addr) (c33 : Nat), (l24, n27, n29, xs31) = x34 ∧ Has 29 a [(4, vP b10 (0)), (6, vL A32 (xs31) c33)] ∧ Mem C w [.row strRep A32 c33 9 xs31 true, .row strRep A16 c17 9 y14 true, .box b10 [vL none (([] : (List Str))) 0] 41, .box b2 [vL A25 (l24) c26, vI (n27), vW (n29)] 84] [.dat (sliceRep byteRep) l24 [vL A25 l24 c26], .dat (sliceRep byteRep) s1.code [vL A3 s1.code c4]] ∧ R64 n27 ∧ U64 n29) ?_ ?_
  · refine wp_seq ?_
    refine region_pl ?_
    refine q_ hf rfl rfl rfl (e_move hf rfl) fun a hf => ?_
    refine q_ hf rfl rfl rfl (e_move hf rfl) fun a hf => ?_
    obtain ⟨z36, hz37, h35⟩ := bind_some h35
    refine q_ hf rfl rfl rfl (e_add hf rfl rfl hz37) fun a hf => ?_
    have hM := hM.front (k := 3) rfl
    dsimp only [List.eraseIdx] at hM
    have hM : Mem C _ ([.box b2 [vL A3 (s1.code) c4, vI (s1.at_), vW (s1.seed)] 84] ++ [.row strRep (some ⟨b21, 0, none⟩) 0 9 ([] : (List Str)) true, .row strRep A16 c17 9 y14 true, .box b10 [vL none (([] : (List Str))) 0] 41]) _ := hM
    obtain ⟨y38, hz39, h35⟩ := bind_some h35
    refine pl_l hf rfl rfl rfl (w_call hf Tryz.call52 rfl (r_spec_l00Src_pick ⟨_, Sh C _ _, ownB _, hM.sh_lt, sub_dis, C.G, hM.g_lt, hM.g_own, hM.tabs⟩ s1 _ _ _ (hM.dat (k := 0) rfl) hp6 hp7 z36 (chk_R hz37) hM.sub sub_dis _ hz39) ?_)
    rintro _ w46 ⟨A40, c41, rfl, hM2, hv42, hv43, hv44, hv45⟩
    obtain ⟨hM, hup48⟩ := hM.backG hM2
    dsimp only [List.cons_append, List.nil_append] at hM hup48
    clear hM2
    have hM := hM.add (y := .dat (sliceRep byteRep) y38.2.code [vL A40 y38.2.code c41]) (hup48 hv42)
    refine ⟨_, rfl, fun a hf => ?_⟩
    refine q_ hf rfl rfl rfl (e_assign hf rfl) fun a hf => ?_
    refine pl_nil ?_
    refine then_n ?_
    refine wp_block ?_
    obtain ⟨x72, h73, h35⟩ := bind_some h35
    refine wp_loopM h73 (fun s a w => ∃ (l49 : Str) (n52 : Int) (n54 : Int) (xs56 : (List Str)) (n59 : Int) (A50 : Option Addr) (c51 : Nat) (A57 : Option Addr) (c58 : Nat), (l49, n52, n54, xs56, n59) = s ∧ Has 29 a [(0, vP b2 (0)), (4, vP b10 (0)), (5, vL A16 (y14) c17), (6, vL A57 (xs56) c58), (7, vI (n59))] ∧ Mem C w [.row strRep A57 c58 9 xs56 true, .box b2 [vL A50 (l49) c51, vI (n52), vW (n54)] 84, .row strRep A16 c17 9 y14 true, .box b10 [vL none (([] : (List Str))) 0] 41] [.dat (sliceRep byteRep) l49 [vL A50 l49 c51], .dat (sliceRep byteRep) y38.2.code [vL A40 y38.2.code c41], .dat (sliceRep byteRep) s1.code [vL A3 s1.code c4]] ∧ R64 n52 ∧ U64 n54 ∧ R64 n59) ?_ ?_
    · have hM := hM.front (k := 3) rfl
      dsimp only [List.eraseIdx] at hM
      have hM := hM.front (k := 3) rfl
      dsimp only [List.eraseIdx] at hM
      have hM := hM.front (k := 2) rfl
      dsimp only [List.eraseIdx] at hM
      have hM := hM.front (k := 3) rfl
      dsimp only [List.eraseIdx] at hM
      exact ⟨y38.2.code, y38.2.at_, y38.2.seed, ([] : (List Str)), y38.1, A40, c41, (some ⟨b21, 0, none⟩), 0, rfl, hf.keep ⟨rfl, rfl, rfl, rfl, rfl, trivial⟩, hM.pick [0, 0, 1] rfl, hv43, hv44, hv45⟩
    · rintro s o74 a w61 ⟨l49, n52, n54, xs56, n59, A50, c51, A57, c58, rfl, hf, hM, hv53, hv55, hv60⟩ h75 hd76
      replace h75 : m_spec_l05Draw_l1 y14 l49 n52 n54 xs56 n59 = some o74 := h75
      unfold m_spec_l05Draw_l1 at h75
      refine wp_seq ?_
      refine wp_seq ?_
      refine region_pl ?_
      refine q_ hf rfl rfl rfl (e_move hf rfl) fun a hf => ?_
      refine q_ hf rfl rfl rfl (e_gt hf (x := n59) (y := 0) rfl rfl) fun a hf => ?_
      refine pl_nil ?_
      refine then_n ?_
      rcases cond_some h75 with ⟨hc77, h75⟩ | ⟨hc77, h75⟩
      · refine cond_t hf rfl hc77 ?_
        refine wp_skip ?_
        refine then_n ?_
        refine wp_seq ?_
        refine wp_block ?_
        refine region_pl ?_
        refine q_ hf rfl rfl rfl (e_move hf rfl) fun a hf => ?_
        refine q_ hf rfl rfl rfl (e_move hf rfl) fun a hf => ?_
        refine q_ hf rfl rfl rfl (e_move hf rfl) fun a hf => ?_
        refine q_ hf rfl rfl rfl (e_move hf rfl) fun a hf => ?_
        have hl78 := row_len (hM.ownAt (k := 2) rfl)
        refine q_ hf rfl rfl rfl (e_lenL hf (x := y14) rfl Tryz.underlying39) fun a hf => ?_
        have hM := hM.front (k := 1) rfl
        dsimp only [List.eraseIdx] at hM
        have hM : Mem C _ ([.box b2 [vL A50 (l49) c51, vI (n52), vW (n54)] 84] ++ [.row strRep A57 c58 9 xs56 true, .row strRep A16 c17 9 y14 true, .box b10 [vL none (([] : (List Str))) 0] 41]) _ := hM
        obtain ⟨y79, hz80, h75⟩ := bind_some h75
        refine pl_l hf rfl rfl rfl (w_call hf Tryz.call52 rfl (r_spec_l00Src_pick ⟨_, Sh C _ _, ownB _, hM.sh_lt, sub_dis, C.G, hM.g_lt, hM.g_own, hM.tabs⟩ (⟨l49, n52, n54⟩ : l00Src) _ _ _ (hM.dat (k := 0) rfl) hv53 hv55 (y14.length : Int) (R64_len hl78) hM.sub sub_dis _ hz80) ?_)
        rintro _ w87 ⟨A81, c82, rfl, hM2, hv83, hv84, hv85, hv86⟩
        obtain ⟨hM, hup89⟩ := hM.backG hM2
        dsimp only [List.cons_append, List.nil_append] at hM hup89
        clear hM2
        have hM := hM.add (y := .dat (sliceRep byteRep) y79.2.code [vL A81 y79.2.code c82]) (hup89 hv83)
        refine ⟨_, rfl, fun a hf => ?_⟩
        obtain ⟨e90, hz91, h75⟩ := bind_some h75
        obtain ⟨b96, _, hA97, h92, h93, hr94, hcell95⟩ := hM.rowElemN (k := 2) rfl (n := 1) rfl hz91
        obtain ⟨rfl, hv98⟩ := hr94
        refine q_ hf rfl rfl rfl (e_indexAddr (A := A16) (b := b96) (o := 0) (xs := y14) (i := y79.1) hf hA97 rfl rfl Tryz.underlying39 Tryz.sizeOf9 h92 h93) fun a hf => ?_
        refine q_ hf rfl rfl rfl (e_load1 hf rfl Tryz.isAgg9 (hcell95 0 _ rfl)) fun a hf => ?_
        have hM := hM.front (k := 1) rfl
        dsimp only [List.eraseIdx] at hM
        have hM : Mem C _ ([.row strRep A57 c58 9 xs56 true] ++ [.box b2 [vL A81 (y79.2.code) c82, vI (y79.2.at_), vW (y79.2.seed)] 84, .row strRep A16 c17 9 y14 true, .box b10 [vL none (([] : (List Str))) 0] 41]) _ := hM
        obtain ⟨y99, hz100, h75⟩ := bind_some h75
        refine pl_l hf rfl rfl rfl (w_call hf Tryz.call73 rfl (r_spec_l03Insert ⟨_, Sh C _ _, ownB _, hM.sh_lt, sub_dis, C.G, hM.g_lt, hM.g_own, hM.tabs⟩ xs56 _ _ e90 hv98 hM.sub sub_dis _ hz100) ?_)
        rintro _ w103 ⟨A101, c102, rfl, hM2⟩
        obtain ⟨hM, hup105⟩ := hM.backG hM2
        dsimp only [List.cons_append, List.nil_append] at hM hup105
        clear hM2
        refine ⟨_, rfl, fun a hf => ?_⟩
        refine q_ hf rfl rfl rfl (e_assign hf rfl) fun a hf => ?_
        refine pl_nil ?_
        refine blk_n ?_
        refine then_n ?_
        refine region_pl ?_
        refine q_ hf rfl rfl rfl (e_move hf rfl) fun a hf => ?_
        obtain ⟨z106, hz107, h75⟩ := bind_some h75
        refine q_ hf rfl rfl rfl (e_sub hf rfl rfl hz107) fun a hf => ?_
        refine q_ hf rfl rfl rfl (e_assign hf rfl) fun a hf => ?_
        refine pl_nil ?_
        obtain rfl := some_inj h75
        refine then_n ⟨_, rfl, ?_⟩
        exact ⟨y79.2.code, y79.2.at_, y79.2.seed, y99, z106, A81, c82, A101, c102, rfl, hf.keep ⟨rfl, rfl, rfl, rfl, rfl, trivial⟩, hM.pick [0, 2, 3] rfl, hv84, hv85, (chk_R hz107)⟩
      · refine cond_f hf rfl hc77 ?_
        refine wp_exit ?_
        refine then_x ?_
        obtain rfl := some_inj h75
        obtain rfl := hd76 _ rfl
        try dsimp only at h35
        refine then_x ?_
        refine exit_hit ?_
        obtain rfl := some_inj h35
        refine then_n ?_
        have hM := hM.front (k := 1) rfl
        dsimp only [List.eraseIdx] at hM
        have hM := hM.front (k := 3) rfl
        dsimp only [List.eraseIdx] at hM
        have hM := hM.front (k := 3) rfl
        dsimp only [List.eraseIdx] at hM
        have hM := hM.front (k := 3) rfl
        dsimp only [List.eraseIdx] at hM
        exact ⟨l49, n52, n54, xs56, A50, c51, A57, c58, rfl, hf.keep ⟨rfl, rfl, trivial⟩, hM.pick [0, 2] rfl, hv53, hv55⟩
  · rintro a w113 ⟨l24, n27, n29, xs31, A25, c26, A32, c33, rfl, hf, hM, hv28, hv30⟩
    try dsimp only at h
    refine wp_seq ?_
    refine region_pl ?_
    refine q_ hf rfl rfl rfl (e_move hf rfl) fun a hf => ?_
    refine q_ hf rfl rfl rfl (e_build hf Tryz.zeroValue41 Tryz.underlying41 (bp_41 _ Tryz.underlying41.symm) rfl (cs := #[vL A32 (xs31) c33]) (by kernel_rfl)) fun a hf => ?_
    refine pl_0 hf rfl rfl (w_store hf hM (us := [vL A32 (xs31) c33]) (cs' := [vL A32 (xs31) c33]) rfl rfl (k := 2) rfl rfl Tryz.sizeOf41 rfl rfl rfl fun w114 hM => ?_)
    dsimp only [List.set] at hM
    refine pl_nil ?_
    refine then_n ?_
    refine wp_ret ?_
    obtain rfl := some_inj h
    have hres117 := leaveV1 (P := Tryz.prog) Tryz.results87 (res_agg hf rfl ⟨Tryz.isAgg41, Tryz.sizeOf41⟩ (us := [vL A32 (xs31) c33]) rfl (hM.boxSub (k := 2) (o := 0) rfl rfl))
    have hM := hM.front (k := 0) rfl
    dsimp only [List.eraseIdx] at hM
    have hM := hM.front (k := 3) rfl
    dsimp only [List.eraseIdx] at hM
    have hM := hM.outs (own' := [.box b2 [vL A25 (l24) c26, vI (n27), vW (n29)] 84, .row strRep A32 c33 9 xs31 true]) 2 rfl
    exact bodyPost_ret hres117 hf.defers ⟨A25, c26, A32, c33, rfl, hM.fin, (hM.dat (k := 0) rfl), hv28, hv30⟩

set_option maxRecDepth 100000 in
set_option maxHeartbeats 4000000 in
theorem r_spec_l05Full (C : Cx) (many1 : Int) (hp2 : R64 many1) (r : (List Str)) (h : m_spec_l05Full many1 = some r) :
    Calls Tryz.prog 88 #[vI (many1)] C.w0 fun e w => ∃ (A_1 : Option Addr), ∃ (c_1 : Nat), e = .returned (vL A_1 (r) c_1) ∧ Mem C w [.row strRep A_1 c_1 9 r true] [] := by
  have hM := Mem.begin C [] trivial
  refine enter Tryz.func88 rfl Tryz.ntmps88 rfl fun a hf => ?_
  unfold m_spec_l05Full at h
  refine wp_seq ?_
  refine region_pl ?_
  refine q_ hf rfl rfl rfl (e_assign hf rfl) fun a hf => ?_
  refine pl_nil ?_
  refine then_n ?_
  refine wp_seq ?_
  refine region_pl ?_
  refine pl_l hf rfl rfl rfl (w_slice0 (K := strRep) hM Tryz.underlying39 ei_9 fun b3 w4 hx5 hM a hf => ?_)
  refine q_ hf rfl rfl rfl (e_assign hf rfl) fun a hf => ?_
  refine pl_nil ?_
  refine then_n ?_
  obtain ⟨x9, h10, h⟩ := bind_some h
  refine seq_join (fun a w => ∃ (xs6 : (List Str)) (A7 : Option Addr) (c8 : Nat), xs6 = x9 ∧ Has 25 a [(3, vL A7 (xs6) c8)] ∧ Mem C w [.row strRep A7 c8 9 xs6 true] []) ?_ ?_
  · refine wp_seq ?_
    refine region_pl ?_
    refine q_ hf rfl rfl rfl (e_assign hf rfl) fun a hf => ?_
    refine pl_nil ?_
    refine then_n ?_
    refine wp_block ?_
    obtain ⟨x20, h21, h10⟩ := bind_some h10
    refine wp_loopM h21 (fun s a w => ∃ (xs11 : (List Str)) (n14 : Int) (A12 : Option Addr) (c13 : Nat), (xs11, n14) = s ∧ Has 25 a [(0, vI (many1)), (3, vL A12 (xs11) c13), (4, vI (n14))] ∧ Mem C w [.row strRep A12 c13 9 xs11 true] [] ∧ R64 n14) ?_ ?_
    · exact ⟨([] : (List Str)), 0, (some ⟨b3, 0, none⟩), 0, rfl, hf.keep ⟨rfl, rfl, rfl, trivial⟩, hM.pick [] rfl, (R64_lit rfl)⟩
    · rintro s o22 a w16 ⟨xs11, n14, A12, c13, rfl, hf, hM, hv15⟩ h23 hd24
      replace h23 : m_spec_l05Full_l1 many1 xs11 n14 = some o22 := h23
      unfold m_spec_l05Full_l1 at h23
      refine wp_seq ?_
      refine wp_seq ?_
      refine region_pl ?_
      refine q_ hf rfl rfl rfl (e_move hf rfl) fun a hf => ?_
      refine q_ hf rfl rfl rfl (e_move hf rfl) fun a hf => ?_
      refine q_ hf rfl rfl rfl (e_lt hf (x := n14) (y := many1) rfl rfl) fun a hf => ?_
      refine pl_nil ?_
      refine then_n ?_
      rcases cond_some h23 with ⟨hc25, h23⟩ | ⟨hc25, h23⟩
      · refine cond_t hf rfl hc25 ?_
        refine wp_skip ?_
        refine then_n ?_
        refine wp_seq ?_
        refine wp_block ?_
        refine region_pl ?_
        refine q_ hf rfl rfl rfl (e_move hf rfl) fun a hf => ?_
        refine q_ hf rfl rfl rfl (e_move hf rfl) fun a hf => ?_
        obtain ⟨z26, hz27, h23⟩ := bind_some h23
        refine q_ hf rfl rfl rfl (e_quo hf rfl rfl hz27) fun a hf => ?_
        obtain ⟨z28, hz29, h23⟩ := bind_some h23
        refine q_ hf rfl rfl rfl (e_add hf rfl rfl hz29) fun a hf => ?_
        refine q_ hf rfl rfl rfl (e_convIB hf rfl Tryz.underlying2 Tryz.underlying5) fun a hf => ?_
        refine q_ hf rfl rfl rfl (e_move hf rfl) fun a hf => ?_
        obtain ⟨z30, hz31, h23⟩ := bind_some h23
        refine q_ hf rfl rfl rfl (e_rem hf rfl rfl hz31) fun a hf => ?_
        obtain ⟨z32, hz33, h23⟩ := bind_some h23
        refine q_ hf rfl rfl rfl (e_add hf rfl rfl hz33) fun a hf => ?_
        refine q_ hf rfl rfl rfl (e_convIB hf rfl Tryz.underlying2 Tryz.underlying5) fun a hf => ?_
        refine pl_l hf rfl rfl rfl (w_slice hf hM (K := byteRep) (xs := ([UInt8.ofNat (z28 % 256).toNat, UInt8.ofNat (z32 % 256).toNat] : Str)) (os := [.tmp 15, .tmp 19]) Tryz.underlying22 ei_5 rfl rfl rfl rfl rfl ⟨⟨[vB (UInt8.ofNat (z28 % 256).toNat)], rfl, rfl⟩, ⟨[vB (UInt8.ofNat (z32 % 256).toNat)], rfl, rfl⟩, trivial⟩ rfl fun b34 w35 hx36 hM a hf => ?_)
        have hl37 := row_len (hM.ownAt (k := 0) rfl)
        refine q_ hf rfl rfl rfl (e_bytesStr hf (xs := ([UInt8.ofNat (z28 % 256).toNat, UInt8.ofNat (z32 % 256).toNat] : Str)) rfl Tryz.underlying22 Tryz.underlying5 Tryz.underlying9 (hM.lendRow (k := 0) rfl)) fun a hf => ?_
        refine pl_l hf rfl rfl rfl (w_slice hf hM (K := strRep) (xs := ([([UInt8.ofNat (z28 % 256).toNat, UInt8.ofNat (z32 % 256).toNat] : Str)] : (List Str))) (os := [.tmp 21]) Tryz.underlying39 ei_9 rfl rfl rfl rfl rfl ⟨⟨[vS (([UInt8.ofNat (z28 % 256).toNat, UInt8.ofNat (z32 % 256).toNat] : Str))], rfl, ⟨rfl, hl37⟩⟩, trivial⟩ rfl fun b38 w39 hx40 hM a hf => ?_)
        obtain ⟨xs41, hz42, h23⟩ := bind_some h23
        refine pl_l hf rfl rfl rfl (w_append hf hM Tryz.underlying39 ei_9 rfl rfl rfl (k := 2) rfl (hM.srcRow (k := 0) rfl) hz42 fun A43 c44 w45 hM a hf => ?_)
        dsimp only [List.set] at hM
        refine q_ hf rfl rfl rfl (e_assign hf rfl) fun a hf => ?_
        refine pl_nil ?_
        refine blk_n ?_
        refine then_n ?_
        refine region_pl ?_
        refine q_ hf rfl rfl rfl (e_move hf rfl) fun a hf => ?_
        obtain ⟨z48, hz49, h23⟩ := bind_some h23
        refine q_ hf rfl rfl rfl (e_add hf rfl rfl hz49) fun a hf => ?_
        refine q_ hf rfl rfl rfl (e_assign hf rfl) fun a hf => ?_
        refine pl_nil ?_
        obtain rfl := some_inj h23
        refine then_n ⟨_, rfl, ?_⟩
        exact ⟨xs41, z48, A43, c44, rfl, hf.keep ⟨rfl, rfl, rfl, trivial⟩, (hM.drop (.cons _ (.cons _ (.cons_cons _ .slnil)))).pick [] rfl, (chk_R hz49)⟩
      · refine cond_f hf rfl hc25 ?_
        refine wp_exit ?_
        refine then_x ?_
        obtain rfl := some_inj h23
        obtain rfl := hd24 _ rfl
        try dsimp only at h10
        refine then_x ?_
        refine exit_hit ?_
        obtain rfl := some_inj h10
        refine then_n ?_
        exact ⟨xs11, A12, c13, rfl, hf.keep ⟨rfl, trivial⟩, hM.pick [] rfl⟩
  · rintro a w55 ⟨xs6, A7, c8, rfl, hf, hM⟩
    try dsimp only at h
    refine wp_seq ?_
    refine region_pl ?_
    refine q_ hf rfl rfl rfl (e_move hf rfl) fun a hf => ?_
    refine q_ hf rfl rfl rfl (e_assign hf rfl) fun a hf => ?_
    refine pl_nil ?_
    refine then_n ?_
    refine wp_ret ?_
    obtain rfl := some_inj h
    exact leave1 hf rfl rfl ⟨A7, c8, rfl, hM.fin⟩

set_option maxRecDepth 100000 in
set_option maxHeartbeats 4000000 in
theorem r_spec_l05Bent (C : Cx) (s1 : l00Src) (b2 : Nat) (A3 : Option Addr) (c4 : Nat) (hp5 : (sliceRep byteRep).R C.w0 C.S0 s1.code [vL A3 s1.code c4]) (hp6 : R64 s1.at_) (hp7 : U64 s1.seed) (hO : Mem C C.w0 [.box b2 [vL A3 (s1.code) c4, vI (s1.at_), vW (s1.seed)] 84] []) (hd : ∀ b, C.S0 b → ¬ ownB [.box b2 [vL A3 (s1.code) c4, vI (s1.at_), vW (s1.seed)] 84] b) (r : (Lexicon × l00Src)) (h : m_spec_l05Bent s1 = some r) :
    Calls Tryz.prog 71 #[vP b2 (0)] C.w0 fun e w => ∃ (A_1 : Option Addr), ∃ (c_1 : Nat), ∃ (A_2 : Option Addr), ∃ (c_2 : Nat), e = .returned (.agg #[vL A_2 (r.1.Words) c_2]) ∧ Mem C w [.box b2 [vL A_1 (r.2.code) c_1, vI (r.2.at_), vW (r.2.seed)] 84, .row strRep A_2 c_2 9 r.1.Words true] [] ∧ (sliceRep byteRep).R w (Sh C [.box b2 [vL A_1 (r.2.code) c_1, vI (r.2.at_), vW (r.2.seed)] 84, .row strRep A_2 c_2 9 r.1.Words true] w) r.2.code [vL A_1 r.2.code c_1] ∧ R64 r.2.at_ ∧ U64 r.2.seed := by
  have hM := hO
  have hM := hM.addIn hd (y := .dat (sliceRep byteRep) s1.code [vL A3 s1.code c4]) hp5
  refine enter Tryz.func71 rfl Tryz.ntmps71 rfl fun a hf => ?_
  unfold m_spec_l05Bent at h
  refine wp_seq ?_
  refine region_pl ?_
  refine pl_l hf rfl rfl rfl (w_alloc hM (cs := [vL none (([] : (List Str))) 0]) Tryz.zeroValue41 rfl fun b8 w9 hx10 hM a hf => ?_)
  refine pl_nil ?_
  refine then_n ?_
  refine wp_seq ?_
  refine region_pl ?_
  refine q_ hf rfl rfl rfl (e_move hf rfl) fun a hf => ?_
  have hM := hM.front (k := 1) rfl
  dsimp only [List.eraseIdx] at hM
  have hM : Mem C _ ([.box b2 [vL A3 (s1.code) c4, vI (s1.at_), vW (s1.seed)] 84] ++ [.box b8 [vL none (([] : (List Str))) 0] 41]) _ := hM
  obtain ⟨y12, hz13, h⟩ := bind_some h
  refine pl_l hf rfl rfl rfl (w_call hf Tryz.call87 rfl (r_spec_l05Draw ⟨_, Sh C _ _, ownB _, hM.sh_lt, sub_dis, C.G, hM.g_lt, hM.g_own, hM.tabs⟩ s1 _ _ _ (hM.dat (k := 0) rfl) hp6 hp7 20 (R64_lit rfl) hM.sub sub_dis _ hz13) ?_)
  rintro _ w21 ⟨A14, c15, A19, c20, rfl, hM2, hv16, hv17, hv18⟩
  obtain ⟨hM, hup23⟩ := hM.backG hM2
  dsimp only [List.cons_append, List.nil_append] at hM hup23
  clear hM2
  have hM := hM.add (y := .dat (sliceRep byteRep) y12.2.code [vL A14 y12.2.code c15]) (hup23 hv16)
  refine ⟨_, rfl, fun a hf => ?_⟩
  refine pl_l hf rfl rfl rfl (w_alloc hM (cs := [vL none (([] : (List Str))) 0]) Tryz.zeroValue41 rfl fun b24 w25 hx26 hM a hf => ?_)
  refine pl_0 hf rfl rfl (w_store hf hM (us := [vL A19 (y12.1.Words) c20]) (cs' := [vL A19 (y12.1.Words) c20]) rfl rfl (k := 0) rfl rfl Tryz.sizeOf41 rfl rfl rfl fun w28 hM => ?_)
  dsimp only [List.set] at hM
  refine pl_nil ?_
  refine then_n ?_
  obtain ⟨x44, h45, h⟩ := bind_some h
  refine seq_join (fun a w => ∃ (l31 : Str) (n34 : Int) (n36 : Int) (xs38 : (List Str)) (A32 : Option Addr) (c33 : Nat) (A39 : Option Addr) (c40 : Nat), (l31, n34, n36, xs38) = x44 ∧ Has 26 a [(2, vP b8 (0)), (3, vP b24 (0))] ∧ Mem C w [.row strRep A39 c40 9 xs38 true, .box b24 [vL A39 (xs38) c40] 41, .box b2 [vL A32 (l31) c33, vI (n34), vW (n36)] 84, .box b8 [vL none (([] : (List Str))) 0] 41] [.dat (sliceRep byteRep) l31 [vL A32 l31 c33], .dat (sliceRep byteRep) y12.2.code [vL A14 y12.2.code c15], .dat (sliceRep byteRep) s1.code [vL A3 s1.code c4]] ∧ R64 n34 ∧ U64 n36) ?_ ?_
  · refine wp_seq ?_
    refine region_pl ?_
    refine q_ hf rfl rfl rfl (e_move hf rfl) fun a hf => ?_
    have hM := hM.front (k := 1) rfl
    dsimp only [List.eraseIdx] at hM
    have hM : Mem C _ ([.box b2 [vL A14 (y12.2.code) c15, vI (y12.2.at_), vW (y12.2.seed)] 84] ++ [.box b24 [vL A19 (y12.1.Words) c20] 41, .row strRep A19 c20 9 y12.1.Words true, .box b8 [vL none (([] : (List Str))) 0] 41]) _ := hM
    obtain ⟨y46, hz47, h45⟩ := bind_some h45
    refine pl_l hf rfl rfl rfl (w_call hf Tryz.call52 rfl (r_spec_l00Src_pick ⟨_, Sh C _ _, ownB _, hM.sh_lt, sub_dis, C.G, hM.g_lt, hM.g_own, hM.tabs⟩ y12.2 _ _ _ (hM.dat (k := 0) rfl) hv17 hv18 20 (R64_lit rfl) hM.sub sub_dis _ hz47) ?_)
    rintro _ w54 ⟨A48, c49, rfl, hM2, hv50, hv51, hv52, hv53⟩
    obtain ⟨hM, hup56⟩ := hM.backG hM2
    dsimp only [List.cons_append, List.nil_append] at hM hup56
    clear hM2
    have hM := hM.add (y := .dat (sliceRep byteRep) y46.2.code [vL A48 y46.2.code c49]) (hup56 hv50)
    refine ⟨_, rfl, fun a hf => ?_⟩
    refine pl_nil ?_
    refine then_n ?_
    refine wp_block ?_
    refine wp_seq ?_
    refine region_pl ?_
    refine q_ hf rfl rfl rfl (e_eq hf (x := y46.1) (y := 0) rfl rfl) fun a hf => ?_
    refine q_ hf rfl rfl rfl (e_assign hf rfl) fun a hf => ?_
    refine pl_nil ?_
    refine then_n ?_
    rcases cond_some h45 with ⟨hc57, h45⟩ | ⟨hc57, h45⟩
    · refine cond_t hf rfl hc57 ?_
      obtain ⟨w58, hw⟩ : ∃ x, x = w54.drew := ⟨_, rfl⟩
      refine region_pi (.q 0 (.q 1 (.q 2 (.l 3 (.l 4 (.l 5 (.l 6 (.q 7 (.l 8 (.nil)))))))))) (ExtM [some b2] w58) rfl (by kernel_rfl) ?_
      have hM := hM.drew
      rw [← hw] at hM ⊢
      clear hw
      refine pi_q hf rfl rfl rfl rfl (ExtM.refl _ _) (e_field hf rfl Tryz.underlying41 rfl Tryz.sizeOf39 (o' := 0) rfl) fun a hf => ?_
      refine pi_q hf rfl rfl rfl rfl (ExtM.refl _ _) (e_load1M hf rfl Tryz.isAgg39 (hM.boxCell (k := 1) rfl rfl) (hM.apart (js := [0]) rfl (k := 1) rfl rfl rfl)) fun a hf => ?_
      refine pi_q hf rfl rfl rfl rfl (ExtM.refl _ _) (e_move hf rfl) fun a hf => ?_
      refine pi_one ?_
      refine pi_l hf rfl rfl rfl rfl (w_slice hf hM (K := strRep) (xs := ([([97] : Str), ([97, 110] : Str), ([122, 111, 111] : Str), ([90, 111, 111] : Str), ([122, 122, 122, 122, 122, 122, 122, 122, 122, 122, 122, 122, 122] : Str)] : (List Str))) (os := [.const (.string ⟨#[97]⟩), .const (.string ⟨#[97, 110]⟩), .const (.string ⟨#[122, 111, 111]⟩), .const (.string ⟨#[90, 111, 111]⟩), .const (.string ⟨#[122, 122, 122, 122, 122, 122, 122, 122, 122, 122, 122, 122, 122]⟩)]) Tryz.underlying39 ei_9 rfl rfl rfl rfl rfl ⟨⟨[vS (([97] : Str))], rfl, ⟨rfl, (lit_len rfl)⟩⟩, ⟨[vS (([97, 110] : Str))], rfl, ⟨rfl, (lit_len rfl)⟩⟩, ⟨[vS (([122, 111, 111] : Str))], rfl, ⟨rfl, (lit_len rfl)⟩⟩, ⟨[vS (([90, 111, 111] : Str))], rfl, ⟨rfl, (lit_len rfl)⟩⟩, ⟨[vS (([122, 122, 122, 122, 122, 122, 122, 122, 122, 122, 122, 122, 122] : Str))], rfl, ⟨rfl, (lit_len rfl)⟩⟩, trivial⟩ rfl fun b59 w60 hx61 hM => ⟨ExtM [some b2] w60, fun _ h => ExtM.trans hx61 h, ExtM.refl _ _, fun a hf => ?_⟩)
      refine pi_one ?_
      have hM := hM.freezeRow (k := 0) rfl rfl
      dsimp only [List.eraseIdx] at hM
      have hM : Mem C _ ([.box b2 [vL A48 (y46.2.code) c49, vI (y46.2.at_), vW (y46.2.seed)] 84] ++ [.box b24 [vL A19 (y12.1.Words) c20] 41, .row strRep A19 c20 9 y12.1.Words true, .box b8 [vL none (([] : (List Str))) 0] 41]) _ := hM
      obtain ⟨y62, hz63, h45⟩ := bind_some h45
      refine pi_l hf rfl rfl rfl rfl (w_call hf Tryz.call25 rfl (r_spec_l00Src_text ⟨_, Sh C _ _, ownB _, hM.sh_lt, sub_dis, C.G, hM.g_lt, hM.g_own, hM.tabs⟩ y46.2 _ _ _ (hM.dat (k := 1) rfl) hv51 hv52 ([([97] : Str), ([97, 110] : Str), ([122, 111, 111] : Str), ([90, 111, 111] : Str), ([122, 122, 122, 122, 122, 122, 122, 122, 122, 122, 122, 122, 122] : Str)] : (List Str)) _ _ (hM.dat (k := 0) rfl) hM.sub sub_dis _ hz63) ?_)
      rintro _ w70 ⟨A64, c65, rfl, hM2, hv66, hv67, hv68, hv69⟩
      have hxm73 := ExtM.ofChg (bs := [some b2]) hM2.chg ⟨List.mem_of_getElem? (i := 0) rfl, trivial⟩
      have hsz74 := hM2.chg.size
      obtain ⟨hM, hup72⟩ := hM.backG hM2
      dsimp only [List.cons_append, List.nil_append] at hM hup72
      clear hM2
      have hM := hM.add (y := .dat (sliceRep byteRep) y62.2.code [vL A64 y62.2.code c65]) (hup72 hv66)
      refine ⟨_, rfl, Ext w70, fun _ h => ExtM.last hxm73 hsz74 h, Ext.refl _, fun a hf => ?_⟩
      refine pi_one ?_
      refine pi_l hf rfl rfl rfl rfl (w_slice hf hM (K := strRep) (xs := ([y62.1] : (List Str))) (os := [.tmp 14]) Tryz.underlying39 ei_9 rfl rfl rfl rfl rfl ⟨⟨[vS (y62.1)], rfl, ⟨rfl, hv69⟩⟩, trivial⟩ rfl fun b75 w76 hx77 hM => ⟨Ext w76, fun _ h => Ext.trans hx77 h, Ext.refl _, fun a hf => ?_⟩)
      refine pi_one ?_
      obtain ⟨xs78, hz79, h45⟩ := bind_some h45
      refine pi_z hf rfl rfl rfl rfl (by kernel_rfl) (w_append hf hM Tryz.underlying39 ei_9 rfl rfl rfl (k := 3) rfl (hM.srcRow (k := 0) rfl) hz79 fun A80 c81 w82 hM a hf => ?_)
      dsimp only [List.set] at hM
      refine pi_q hf rfl rfl rfl rfl (Ext.refl _) (e_field hf rfl Tryz.underlying41 rfl Tryz.sizeOf39 (o' := 0) rfl) fun a hf => ?_
      refine pi_one ?_
      refine pi_z0 hf rfl rfl rfl (by kernel_rfl) (w_store hf hM (us := [vL A80 (xs78) c81]) (cs' := [vL A80 (xs78) c81]) rfl rfl (k := 2) rfl rfl Tryz.sizeOf39 rfl rfl rfl fun w85 hM => ?_)
      dsimp only [List.set] at hM
      refine pi_nil ?_
      refine blk_n ?_
      obtain rfl := some_inj h45
      refine then_n ?_
      have hM := hM.front (k := 4) rfl
      dsimp only [List.eraseIdx] at hM
      have hM := hM.front (k := 2) rfl
      dsimp only [List.eraseIdx] at hM
      have hM := hM.front (k := 3) rfl
      dsimp only [List.eraseIdx] at hM
      have hM := hM.front (k := 4) rfl
      dsimp only [List.eraseIdx] at hM
      exact ⟨y62.2.code, y62.2.at_, y62.2.seed, xs78, A64, c65, A80, c81, rfl, hf.keep ⟨rfl, rfl, trivial⟩, (hM.drop (.cons_cons _ (.cons_cons _ (.cons_cons _ (.cons_cons _ (.cons _ .slnil)))))).pick [0, 3, 4] rfl, hv67, hv68⟩
    · refine cond_f hf rfl hc57 ?_
      refine wp_seq ?_
      refine region_pl ?_
      refine q_ hf rfl rfl rfl (e_eq hf (x := y46.1) (y := 1) rfl rfl) fun a hf => ?_
      refine q_ hf rfl rfl rfl (e_assign hf rfl) fun a hf => ?_
      refine pl_nil ?_
      refine then_n ?_
      rcases cond_some h45 with ⟨hc89, h45⟩ | ⟨hc89, h45⟩
      · refine cond_t hf rfl hc89 ?_
        refine region_pl ?_
        refine q_ hf rfl rfl rfl (e_move hf rfl) fun a hf => ?_
        have hM : Mem C _ ([.box b2 [vL A48 (y46.2.code) c49, vI (y46.2.at_), vW (y46.2.seed)] 84] ++ [.box b24 [vL A19 (y12.1.Words) c20] 41, .row strRep A19 c20 9 y12.1.Words true, .box b8 [vL none (([] : (List Str))) 0] 41]) _ := hM
        obtain ⟨y90, hz91, h45⟩ := bind_some h45
        refine pl_l hf rfl rfl rfl (w_call hf Tryz.call52 rfl (r_spec_l00Src_pick ⟨_, Sh C _ _, ownB _, hM.sh_lt, sub_dis, C.G, hM.g_lt, hM.g_own, hM.tabs⟩ y46.2 _ _ _ (hM.dat (k := 0) rfl) hv51 hv52 2 (R64_lit rfl) hM.sub sub_dis _ hz91) ?_)
        rintro _ w98 ⟨A92, c93, rfl, hM2, hv94, hv95, hv96, hv97⟩
        obtain ⟨hM, hup100⟩ := hM.backG hM2
        dsimp only [List.cons_append, List.nil_append] at hM hup100
        clear hM2
        have hM := hM.add (y := .dat (sliceRep byteRep) y90.2.code [vL A92 y90.2.code c93]) (hup100 hv94)
        refine ⟨_, rfl, fun a hf => ?_⟩
        obtain ⟨z101, hz102, h45⟩ := bind_some h45
        refine q_ hf rfl rfl rfl (e_add hf rfl rfl hz102) fun a hf => ?_
        obtain ⟨y103, hz104, h45⟩ := bind_some h45
        refine pl_l hf rfl rfl rfl (w_call hf Tryz.call88 rfl (r_spec_l05Full ⟨_, Sh C _ _, none_, hM.sh_lt, none_not, C.G, hM.g_lt, g_none, hM.tabs⟩ z101 (chk_R hz102) _ hz104) ?_)
        rintro _ w107 ⟨A105, c106, rfl, hM2⟩
        obtain ⟨hM, hx108, hup109⟩ := hM.back hM2
        dsimp only [List.cons_append, List.nil_append] at hM hup109
        clear hM2
        refine ⟨_, rfl, fun a hf => ?_⟩
        refine q_ hf rfl rfl rfl (e_field hf rfl Tryz.underlying41 rfl Tryz.sizeOf39 (o' := 0) rfl) fun a hf => ?_
        refine pl_0 hf rfl rfl (w_store hf hM (us := [vL A105 (y103) c106]) (cs' := [vL A105 (y103) c106]) rfl rfl (k := 2) rfl rfl Tryz.sizeOf39 rfl rfl rfl fun w110 hM => ?_)
        dsimp only [List.set] at hM
        refine pl_nil ?_
        refine blk_n ?_
        obtain rfl := some_inj h45
        refine then_n ?_
        have hM := hM.front (k := 4) rfl
        dsimp only [List.eraseIdx] at hM
        have hM := hM.front (k := 2) rfl
        dsimp only [List.eraseIdx] at hM
        have hM := hM.front (k := 3) rfl
        dsimp only [List.eraseIdx] at hM
        have hM := hM.front (k := 3) rfl
        dsimp only [List.eraseIdx] at hM
        exact ⟨y90.2.code, y90.2.at_, y90.2.seed, y103, A92, c93, A105, c106, rfl, hf.keep ⟨rfl, rfl, trivial⟩, (hM.drop (.cons_cons _ (.cons_cons _ (.cons_cons _ (.cons_cons _ (.cons _ .slnil)))))).pick [0, 2, 3] rfl, hv95, hv96⟩
      · refine cond_f hf rfl hc89 ?_
        refine wp_skip ?_
        refine blk_n ?_
        obtain rfl := some_inj h45
        refine then_n ?_
        have hM := hM.front (k := 3) rfl
        dsimp only [List.eraseIdx] at hM
        have hM := hM.front (k := 1) rfl
        dsimp only [List.eraseIdx] at hM
        have hM := hM.front (k := 2) rfl
        dsimp only [List.eraseIdx] at hM
        have hM := hM.front (k := 3) rfl
        dsimp only [List.eraseIdx] at hM
        exact ⟨y46.2.code, y46.2.at_, y46.2.seed, y12.1.Words, A48, c49, A19, c20, rfl, hf.keep ⟨rfl, rfl, trivial⟩, hM.pick [0, 1, 2] rfl, hv51, hv52⟩
  · rintro a w115 ⟨l31, n34, n36, xs38, A32, c33, A39, c40, rfl, hf, hM, hv35, hv37⟩
    try dsimp only at h
    refine wp_seq ?_
    refine region_pl ?_
    refine q_ hf rfl rfl rfl (e_loadA hf (us := [vL A39 (xs38) c40]) rfl ⟨Tryz.isAgg41, Tryz.sizeOf41⟩ rfl (hM.boxSub (k := 1) (us := [vL A39 (xs38) c40]) (o := 0) rfl rfl)) fun a hf => ?_
    refine pl_0 hf rfl rfl (w_store hf hM (us := [vL A39 (xs38) c40]) (cs' := [vL A39 (xs38) c40]) rfl rfl (k := 3) rfl rfl Tryz.sizeOf41 rfl rfl rfl fun w116 hM => ?_)
    dsimp only [List.set] at hM
    refine pl_nil ?_
    refine then_n ?_
    refine wp_ret ?_
    obtain rfl := some_inj h
    have hres119 := leaveV1 (P := Tryz.prog) Tryz.results71 (res_agg hf rfl ⟨Tryz.isAgg41, Tryz.sizeOf41⟩ (us := [vL A39 (xs38) c40]) rfl (hM.boxSub (k := 3) (o := 0) rfl rfl))
    have hM := hM.front (k := 0) rfl
    dsimp only [List.eraseIdx] at hM
    have hM := hM.front (k := 2) rfl
    dsimp only [List.eraseIdx] at hM
    have hM := hM.outs (own' := [.box b2 [vL A32 (l31) c33, vI (n34), vW (n36)] 84, .row strRep A39 c40 9 xs38 true]) 2 rfl
    exact bodyPost_ret hres119 hf.defers ⟨A32, c33, A39, c40, rfl, hM.fin, (hM.dat (k := 0) rfl), hv35, hv37⟩

set_option maxRecDepth 100000 in
set_option maxHeartbeats 4000000 in
theorem r_spec_l05Make (C : Cx) (words1 : (List Str)) (A2 : Option Addr) (c3 : Nat) (hp4 : (sliceRep strRep).R C.w0 C.S0 words1 [vL A2 words1 c3]) (r : (List Str)) (h : m_spec_l05Make words1 = some r) :
    Calls Tryz.prog 89 #[vL A2 (words1) c3] C.w0 fun e w => ∃ (A_1 : Option Addr), ∃ (c_1 : Nat), e = .returned (vL A_1 (r) c_1) ∧ Mem C w [.row strRep A_1 c_1 9 r true] [] := by
  have hM := Mem.begin C [.dat (sliceRep strRep) words1 [vL A2 words1 c3]] ⟨hp4, trivial⟩
  refine enter Tryz.func89 rfl Tryz.ntmps89 rfl fun a hf => ?_
  unfold m_spec_l05Make at h
  refine wp_seq ?_
  refine region_pl ?_
  refine q_ hf rfl rfl rfl (e_assign hf rfl) fun a hf => ?_
  refine pl_nil ?_
  refine then_n ?_
  refine wp_seq ?_
  refine region_pl ?_
  refine pl_l hf rfl rfl rfl (w_slice0 (K := strRep) hM Tryz.underlying39 ei_9 fun b5 w6 hx7 hM a hf => ?_)
  refine q_ hf rfl rfl rfl (e_assign hf rfl) fun a hf => ?_
  refine pl_nil ?_
  refine then_n ?_
  obtain ⟨x11, h12, h⟩ := bind_some h
  refine seq_join (fun a w => ∃ (xs8 : (List Str)) (A9 : Option Addr) (c10 : Nat), xs8 = x11 ∧ Has 19 a [(3, vL A9 (xs8) c10)] ∧ Mem C w [.row strRep A9 c10 9 xs8 true] [.dat (sliceRep strRep) words1 [vL A2 words1 c3]]) ?_ ?_
  · refine wp_seq ?_
    refine region_pl ?_
    refine q_ hf rfl rfl rfl (e_assign hf rfl) fun a hf => ?_
    refine pl_nil ?_
    refine then_n ?_
    refine wp_block ?_
    obtain ⟨x22, h23, h12⟩ := bind_some h12
    refine wp_loopM h23 (fun s a w => ∃ (xs13 : (List Str)) (n16 : Int) (A14 : Option Addr) (c15 : Nat), (xs13, n16) = s ∧ Has 19 a [(0, vL A2 (words1) c3), (3, vL A14 (xs13) c15), (4, vI (n16))] ∧ Mem C w [.row strRep A14 c15 9 xs13 true] [.dat (sliceRep strRep) words1 [vL A2 words1 c3]] ∧ R64 n16) ?_ ?_
    · exact ⟨([] : (List Str)), 0, (some ⟨b5, 0, none⟩), 0, rfl, hf.keep ⟨rfl, rfl, rfl, trivial⟩, hM.pick [0] rfl, (R64_lit rfl)⟩
    · rintro s o24 a w18 ⟨xs13, n16, A14, c15, rfl, hf, hM, hv17⟩ h25 hd26
      replace h25 : m_spec_l05Make_l1 words1 xs13 n16 = some o24 := h25
      unfold m_spec_l05Make_l1 at h25
      refine wp_seq ?_
      refine wp_seq ?_
      refine region_pl ?_
      refine q_ hf rfl rfl rfl (e_move hf rfl) fun a hf => ?_
      refine q_ hf rfl rfl rfl (e_move hf rfl) fun a hf => ?_
      have hl27 := slice_len (hM.dat (k := 0) rfl)
      refine q_ hf rfl rfl rfl (e_lenL hf (x := words1) rfl Tryz.underlying39) fun a hf => ?_
      refine q_ hf rfl rfl rfl (e_lt hf (x := n16) (y := (words1.length : Int)) rfl rfl) fun a hf => ?_
      refine pl_nil ?_
      refine then_n ?_
      rcases cond_some h25 with ⟨hc28, h25⟩ | ⟨hc28, h25⟩
      · refine cond_t hf rfl hc28 ?_
        refine wp_skip ?_
        refine then_n ?_
        refine wp_seq ?_
        refine wp_block ?_
        refine region_pl ?_
        refine q_ hf rfl rfl rfl (e_move hf rfl) fun a hf => ?_
        refine q_ hf rfl rfl rfl (e_move hf rfl) fun a hf => ?_
        refine q_ hf rfl rfl rfl (e_move hf rfl) fun a hf => ?_
        obtain ⟨e29, hz30, h25⟩ := bind_some h25
        obtain ⟨b34, o35, _, hA36, h31, h32, hr33, hM⟩ := hM.elem (hM.dat (k := 0) rfl) (n := 1) rfl hz30
        obtain ⟨rfl, hv37⟩ := hr33
        refine q_ hf rfl rfl rfl (e_indexAddr (A := A2) (b := b34) (o := o35) (xs := words1) (i := n16) hf hA36 rfl rfl Tryz.underlying39 Tryz.sizeOf9 h31 h32) fun a hf => ?_
        refine q_ hf rfl rfl rfl (e_load1 hf rfl Tryz.isAgg9 (hM.litCell (k := 0) (j := 0) rfl rfl rfl)) fun a hf => ?_
        have hM : Mem C _ ([.row strRep A14 c15 9 xs13 true] ++ []) _ := hM
        obtain ⟨y38, hz39, h25⟩ := bind_some h25
        refine pl_l hf rfl rfl rfl (w_call hf Tryz.call73 rfl (r_spec_l03Insert ⟨_, Sh C _ _, ownB _, hM.sh_lt, sub_dis, C.G, hM.g_lt, hM.g_own, hM.tabs⟩ xs13 _ _ e29 hv37 hM.sub sub_dis _ hz39) ?_)
        rintro _ w42 ⟨A40, c41, rfl, hM2⟩
        obtain ⟨hM, hup44⟩ := hM.backG hM2
        dsimp only [List.cons_append, List.nil_append] at hM hup44
        clear hM2
        refine ⟨_, rfl, fun a hf => ?_⟩
        refine q_ hf rfl rfl rfl (e_assign hf rfl) fun a hf => ?_
        refine pl_nil ?_
        refine blk_n ?_
        refine then_n ?_
        refine region_pl ?_
        refine q_ hf rfl rfl rfl (e_move hf rfl) fun a hf => ?_
        obtain ⟨z45, hz46, h25⟩ := bind_some h25
        refine q_ hf rfl rfl rfl (e_add hf rfl rfl hz46) fun a hf => ?_
        refine q_ hf rfl rfl rfl (e_assign hf rfl) fun a hf => ?_
        refine pl_nil ?_
        obtain rfl := some_inj h25
        refine then_n ⟨_, rfl, ?_⟩
        exact ⟨y38, z45, A40, c41, rfl, hf.keep ⟨rfl, rfl, rfl, trivial⟩, hM.pick [1] rfl, (chk_R hz46)⟩
      · refine cond_f hf rfl hc28 ?_
        refine wp_exit ?_
        refine then_x ?_
        obtain rfl := some_inj h25
        obtain rfl := hd26 _ rfl
        try dsimp only at h12
        refine then_x ?_
        refine exit_hit ?_
        obtain rfl := some_inj h12
        refine then_n ?_
        exact ⟨xs13, A14, c15, rfl, hf.keep ⟨rfl, trivial⟩, hM.pick [0] rfl⟩
  · rintro a w52 ⟨xs8, A9, c10, rfl, hf, hM⟩
    try dsimp only at h
    refine wp_seq ?_
    refine region_pl ?_
    refine q_ hf rfl rfl rfl (e_move hf rfl) fun a hf => ?_
    refine q_ hf rfl rfl rfl (e_assign hf rfl) fun a hf => ?_
    refine pl_nil ?_
    refine then_n ?_
    refine wp_ret ?_
    obtain rfl := some_inj h
    exact leave1 hf rfl rfl ⟨A9, c10, rfl, hM.fin⟩

set_option maxRecDepth 100000 in
set_option maxHeartbeats 4000000 in
theorem r_spec_l12All (C : Cx)  (r : Lexicon) (h : m_spec_l12All = some r) :
    Calls Tryz.prog 72 #[] C.w0 fun e w => ∃ (A_1 : Option Addr), ∃ (c_1 : Nat), e = .returned (.agg #[vL A_1 (r.Words) c_1]) ∧ Mem C w [.row strRep A_1 c_1 9 r.Words true] [] := by
  have hM := Mem.begin C [] trivial
  refine enter Tryz.func72 rfl Tryz.ntmps72 rfl fun a hf => ?_
  unfold m_spec_l12All at h
  refine wp_seq ?_
  refine region_pl ?_
  refine pl_l hf rfl rfl rfl (w_alloc hM (cs := [vL none (([] : (List Str))) 0]) Tryz.zeroValue41 rfl fun b1 w2 hx3 hM a hf => ?_)
  refine pl_nil ?_
  refine then_n ?_
  refine wp_seq ?_
  refine region_pl ?_
  obtain ⟨y5, hz6, h⟩ := bind_some h
  refine pl_l hf rfl rfl rfl (w_call hf Tryz.call90 rfl (r_spec_l05Some ⟨_, Sh C _ _, none_, hM.sh_lt, none_not, C.G, hM.g_lt, g_none, hM.tabs⟩ _ hz6) ?_)
  rintro _ w9 ⟨A7, c8, rfl, hM2⟩
  obtain ⟨hM, hx10, hup11⟩ := hM.back hM2
  dsimp only [List.cons_append, List.nil_append] at hM hup11
  clear hM2
  refine ⟨_, rfl, fun a hf => ?_⟩
  obtain ⟨y12, hz13, h⟩ := bind_some h
  refine pl_l hf rfl rfl rfl (w_call hf Tryz.call89 rfl (r_spec_l05Make ⟨_, All C _ _, none_, hM.all_lt, none_not, C.G, hM.g_lt, g_none, hM.tabs⟩ y5 _ _ (hM.lendRow (k := 0) rfl) _ hz13) ?_)
  rintro _ w16 ⟨A14, c15, rfl, hM2⟩
  obtain ⟨hM, hx17⟩ := hM.backAF strRep_flat hM2
  clear hM2
  refine ⟨_, rfl, fun a hf => ?_⟩
  refine q_ hf rfl rfl rfl (e_build hf Tryz.zeroValue41 Tryz.underlying41 (bp_41 _ Tryz.underlying41.symm) rfl (cs := #[vL A14 (y12) c15]) (by kernel_rfl)) fun a hf => ?_
  refine pl_0 hf rfl rfl (w_store hf hM (us := [vL A14 (y12) c15]) (cs' := [vL A14 (y12) c15]) rfl rfl (k := 2) rfl rfl Tryz.sizeOf41 rfl rfl rfl fun w19 hM => ?_)
  dsimp only [List.set] at hM
  refine pl_nil ?_
  refine then_n ?_
  refine wp_ret ?_
  obtain rfl := some_inj h
  have hres22 := leaveV1 (P := Tryz.prog) Tryz.results72 (res_agg hf rfl ⟨Tryz.isAgg41, Tryz.sizeOf41⟩ (us := [vL A14 (y12) c15]) rfl (hM.boxSub (k := 2) (o := 0) rfl rfl))
  have hM := hM.outs (own' := [.row strRep A14 c15 9 y12 true]) 1 rfl
  exact bodyPost_ret hres22 hf.defers ⟨A14, c15, rfl, hM.fin⟩

set_option maxRecDepth 100000 in
set_option maxHeartbeats 4000000 in
theorem r_spec_l25Lexicon (C : Cx) (s1 : l00Src) (b2 : Nat) (A3 : Option Addr) (c4 : Nat) (hp5 : (sliceRep byteRep).R C.w0 C.S0 s1.code [vL A3 s1.code c4]) (hp6 : R64 s1.at_) (hp7 : U64 s1.seed) (hO : Mem C C.w0 [.box b2 [vL A3 (s1.code) c4, vI (s1.at_), vW (s1.seed)] 84] []) (hd : ∀ b, C.S0 b → ¬ ownB [.box b2 [vL A3 (s1.code) c4, vI (s1.at_), vW (s1.seed)] 84] b) (r : (Lexicon × l00Src)) (h : m_spec_l25Lexicon s1 = some r) :
    Calls Tryz.prog 47 #[vP b2 (0)] C.w0 fun e w => ∃ (A_1 : Option Addr), ∃ (c_1 : Nat), ∃ (A_2 : Option Addr), ∃ (c_2 : Nat), e = .returned (.agg #[vL A_2 (r.1.Words) c_2]) ∧ Mem C w [.box b2 [vL A_1 (r.2.code) c_1, vI (r.2.at_), vW (r.2.seed)] 84, .row strRep A_2 c_2 9 r.1.Words true] [] ∧ (sliceRep byteRep).R w (Sh C [.box b2 [vL A_1 (r.2.code) c_1, vI (r.2.at_), vW (r.2.seed)] 84, .row strRep A_2 c_2 9 r.1.Words true] w) r.2.code [vL A_1 r.2.code c_1] ∧ R64 r.2.at_ ∧ U64 r.2.seed := by
  have hM := hO
  have hM := hM.addIn hd (y := .dat (sliceRep byteRep) s1.code [vL A3 s1.code c4]) hp5
  refine enter Tryz.func47 rfl Tryz.ntmps47 rfl fun a hf => ?_
  unfold m_spec_l25Lexicon at h
  refine wp_seq ?_
  refine region_pl ?_
  refine pl_l hf rfl rfl rfl (w_alloc hM (cs := [vL none (([] : (List Str))) 0]) Tryz.zeroValue41 rfl fun b8 w9 hx10 hM a hf => ?_)
  refine pl_nil ?_
  refine then_n ?_
  refine wp_seq ?_
  refine wp_seq ?_
  refine region_pl ?_
  refine q_ hf rfl rfl rfl (e_move hf rfl) fun a hf => ?_
  have hM := hM.front (k := 1) rfl
  dsimp only [List.eraseIdx] at hM
  have hM : Mem C _ ([.box b2 [vL A3 (s1.code) c4, vI (s1.at_), vW (s1.seed)] 84] ++ [.box b8 [vL none (([] : (List Str))) 0] 41]) _ := hM
  obtain ⟨y12, hz13, h⟩ := bind_some h
  refine pl_l hf rfl rfl rfl (w_call hf Tryz.call52 rfl (r_spec_l00Src_pick ⟨_, Sh C _ _, ownB _, hM.sh_lt, sub_dis, C.G, hM.g_lt, hM.g_own, hM.tabs⟩ s1 _ _ _ (hM.dat (k := 0) rfl) hp6 hp7 5 (R64_lit rfl) hM.sub sub_dis _ hz13) ?_)
  rintro _ w20 ⟨A14, c15, rfl, hM2, hv16, hv17, hv18, hv19⟩
  obtain ⟨hM, hup22⟩ := hM.backG hM2
  dsimp only [List.cons_append, List.nil_append] at hM hup22
  clear hM2
  have hM := hM.add (y := .dat (sliceRep byteRep) y12.2.code [vL A14 y12.2.code c15]) (hup22 hv16)
  refine ⟨_, rfl, fun a hf => ?_⟩
  refine pl_nil ?_
  refine then_n ?_
  refine wp_block ?_
  refine wp_seq ?_
  refine region_pl ?_
  refine q_ hf rfl rfl rfl (e_eq hf (x := y12.1) (y := 0) rfl rfl) fun a hf => ?_
  refine q_ hf rfl rfl rfl (e_assign hf rfl) fun a hf => ?_
  refine pl_nil ?_
  refine then_n ?_
  rcases cond_some h with ⟨hc23, h⟩ | ⟨hc23, h⟩
  · refine cond_t hf rfl hc23 ?_
    refine wp_seq ?_
    refine region_pl ?_
    refine q_ hf rfl rfl rfl (e_move hf rfl) fun a hf => ?_
    have hM : Mem C _ ([.box b2 [vL A14 (y12.2.code) c15, vI (y12.2.at_), vW (y12.2.seed)] 84] ++ [.box b8 [vL none (([] : (List Str))) 0] 41]) _ := hM
    obtain ⟨y24, hz25, h⟩ := bind_some h
    refine pl_l hf rfl rfl rfl (w_call hf Tryz.call71 rfl (r_spec_l05Bent ⟨_, Sh C _ _, ownB _, hM.sh_lt, sub_dis, C.G, hM.g_lt, hM.g_own, hM.tabs⟩ y12.2 _ _ _ (hM.dat (k := 0) rfl) hv17 hv18 hM.sub sub_dis _ hz25) ?_)
    rintro _ w33 ⟨A26, c27, A31, c32, rfl, hM2, hv28, hv29, hv30⟩
    obtain ⟨hM, hup35⟩ := hM.backG hM2
    dsimp only [List.cons_append, List.nil_append] at hM hup35
    clear hM2
    have hM := hM.add (y := .dat (sliceRep byteRep) y24.2.code [vL A26 y24.2.code c27]) (hup35 hv28)
    refine ⟨_, rfl, fun a hf => ?_⟩
    refine pl_0 hf rfl rfl (w_store hf hM (us := [vL A31 (y24.1.Words) c32]) (cs' := [vL A31 (y24.1.Words) c32]) rfl rfl (k := 2) rfl rfl Tryz.sizeOf41 rfl rfl rfl fun w36 hM => ?_)
    dsimp only [List.set] at hM
    refine pl_nil ?_
    refine then_n ?_
    refine wp_ret ?_
    refine blk_r ?_
    refine then_r ?_
    obtain rfl := some_inj h
    have hres39 := leaveV1 (P := Tryz.prog) Tryz.results47 (res_agg hf rfl ⟨Tryz.isAgg41, Tryz.sizeOf41⟩ (us := [vL A31 (y24.1.Words) c32]) rfl (hM.boxSub (k := 2) (o := 0) rfl rfl))
    have hM := hM.outs (own' := [.box b2 [vL A26 (y24.2.code) c27, vI (y24.2.at_), vW (y24.2.seed)] 84, .row strRep A31 c32 9 y24.1.Words true]) 2 rfl
    exact bodyPost_ret hres39 hf.defers ⟨A26, c27, A31, c32, rfl, hM.fin, (hM.dat (k := 0) rfl), hv29, hv30⟩
  · refine cond_f hf rfl hc23 ?_
    refine wp_seq ?_
    refine region_pl ?_
    refine q_ hf rfl rfl rfl (e_eq hf (x := y12.1) (y := 1) rfl rfl) fun a hf => ?_
    refine q_ hf rfl rfl rfl (e_assign hf rfl) fun a hf => ?_
    refine pl_nil ?_
    refine then_n ?_
    rcases cond_some h with ⟨hc40, h⟩ | ⟨hc40, h⟩
    · refine cond_t hf rfl hc40 ?_
      refine wp_seq ?_
      refine region_pl ?_
      obtain ⟨y41, hz42, h⟩ := bind_some h
      refine pl_l hf rfl rfl rfl (w_call hf Tryz.call72 rfl (r_spec_l12All ⟨_, Sh C _ _, none_, hM.sh_lt, none_not, C.G, hM.g_lt, g_none, hM.tabs⟩ _ hz42) ?_)
      rintro _ w45 ⟨A43, c44, rfl, hM2⟩
      obtain ⟨hM, hx46, hup47⟩ := hM.back hM2
      dsimp only [List.cons_append, List.nil_append] at hM hup47
      clear hM2
      refine ⟨_, rfl, fun a hf => ?_⟩
      refine pl_0 hf rfl rfl (w_store hf hM (us := [vL A43 (y41.Words) c44]) (cs' := [vL A43 (y41.Words) c44]) rfl rfl (k := 2) rfl rfl Tryz.sizeOf41 rfl rfl rfl fun w48 hM => ?_)
      dsimp only [List.set] at hM
      refine pl_nil ?_
      refine then_n ?_
      refine wp_ret ?_
      refine blk_r ?_
      refine then_r ?_
      obtain rfl := some_inj h
      have hres51 := leaveV1 (P := Tryz.prog) Tryz.results47 (res_agg hf rfl ⟨Tryz.isAgg41, Tryz.sizeOf41⟩ (us := [vL A43 (y41.Words) c44]) rfl (hM.boxSub (k := 2) (o := 0) rfl rfl))
      have hM := hM.front (k := 0) rfl
      dsimp only [List.eraseIdx] at hM
      have hM := hM.front (k := 1) rfl
      dsimp only [List.eraseIdx] at hM
      have hM := hM.outs (own' := [.box b2 [vL A14 (y12.2.code) c15, vI (y12.2.at_), vW (y12.2.seed)] 84, .row strRep A43 c44 9 y41.Words true]) 2 rfl
      exact bodyPost_ret hres51 hf.defers ⟨A14, c15, A43, c44, rfl, hM.fin, (hM.dat (k := 0) rfl), hv17, hv18⟩
    · refine cond_f hf rfl hc40 ?_
      refine wp_skip ?_
      refine blk_n ?_
      refine then_n ?_
      refine wp_seq ?_
      refine region_pl ?_
      refine pl_l hf rfl rfl rfl (w_slice0 (K := strRep) hM Tryz.underlying39 ei_9 fun b52 w53 hx54 hM a hf => ?_)
      refine q_ hf rfl rfl rfl (e_assign hf rfl) fun a hf => ?_
      refine pl_nil ?_
      refine then_n ?_
      obtain ⟨x65, h66, h⟩ := bind_some h
      refine seq_join (fun a w => ∃ (l55 : Str) (n58 : Int) (n60 : Int) (xs62 : (List Str)) (A56 : Option Addr) (c57 : Nat) (A63 : Option Addr) (c64 : Nat), (l55, n58, n60, xs62) = x65 ∧ Has 28 a [(2, vP b8 (0)), (3, vL A63 (xs62) c64)] ∧ Mem C w [.row strRep A63 c64 9 xs62 true, .box b2 [vL A56 (l55) c57, vI (n58), vW (n60)] 84, .box b8 [vL none (([] : (List Str))) 0] 41] [.dat (sliceRep byteRep) l55 [vL A56 l55 c57], .dat (sliceRep byteRep) y12.2.code [vL A14 y12.2.code c15], .dat (sliceRep byteRep) s1.code [vL A3 s1.code c4]] ∧ R64 n58 ∧ U64 n60) ?_ ?_
      · refine wp_seq ?_
        refine region_pl ?_
        refine q_ hf rfl rfl rfl (e_move hf rfl) fun a hf => ?_
        have hM := hM.front (k := 1) rfl
        dsimp only [List.eraseIdx] at hM
        have hM : Mem C _ ([.box b2 [vL A14 (y12.2.code) c15, vI (y12.2.at_), vW (y12.2.seed)] 84] ++ [.row strRep (some ⟨b52, 0, none⟩) 0 9 ([] : (List Str)) true, .box b8 [vL none (([] : (List Str))) 0] 41]) _ := hM
        obtain ⟨y67, hz68, h66⟩ := bind_some h66
        refine pl_l hf rfl rfl rfl (w_call hf Tryz.call52 rfl (r_spec_l00Src_pick ⟨_, Sh C _ _, ownB _, hM.sh_lt, sub_dis, C.G, hM.g_lt, hM.g_own, hM.tabs⟩ y12.2 _ _ _ (hM.dat (k := 0) rfl) hv17 hv18 26 (R64_lit rfl) hM.sub sub_dis _ hz68) ?_)
        rintro _ w75 ⟨A69, c70, rfl, hM2, hv71, hv72, hv73, hv74⟩
        obtain ⟨hM, hup77⟩ := hM.backG hM2
        dsimp only [List.cons_append, List.nil_append] at hM hup77
        clear hM2
        have hM := hM.add (y := .dat (sliceRep byteRep) y67.2.code [vL A69 y67.2.code c70]) (hup77 hv71)
        refine ⟨_, rfl, fun a hf => ?_⟩
        refine q_ hf rfl rfl rfl (e_assign hf rfl) fun a hf => ?_
        refine pl_nil ?_
        refine then_n ?_
        refine wp_block ?_
        obtain ⟨x101, h102, h66⟩ := bind_some h66
        refine wp_loopM h102 (fun s a w => ∃ (l78 : Str) (n81 : Int) (n83 : Int) (xs85 : (List Str)) (n88 : Int) (A79 : Option Addr) (c80 : Nat) (A86 : Option Addr) (c87 : Nat), (l78, n81, n83, xs85, n88) = s ∧ Has 28 a [(0, vP b2 (0)), (2, vP b8 (0)), (3, vL A86 (xs85) c87), (4, vI (n88))] ∧ Mem C w [.row strRep A86 c87 9 xs85 true, .box b2 [vL A79 (l78) c80, vI (n81), vW (n83)] 84, .box b8 [vL none (([] : (List Str))) 0] 41] [.dat (sliceRep byteRep) l78 [vL A79 l78 c80], .dat (sliceRep byteRep) y67.2.code [vL A69 y67.2.code c70], .dat (sliceRep byteRep) y12.2.code [vL A14 y12.2.code c15], .dat (sliceRep byteRep) s1.code [vL A3 s1.code c4]] ∧ R64 n81 ∧ U64 n83 ∧ R64 n88) ?_ ?_
        · have hM := hM.front (k := 2) rfl
          dsimp only [List.eraseIdx] at hM
          have hM := hM.front (k := 1) rfl
          dsimp only [List.eraseIdx] at hM
          have hM := hM.front (k := 2) rfl
          dsimp only [List.eraseIdx] at hM
          exact ⟨y67.2.code, y67.2.at_, y67.2.seed, ([] : (List Str)), y67.1, A69, c70, (some ⟨b52, 0, none⟩), 0, rfl, hf.keep ⟨rfl, rfl, rfl, rfl, trivial⟩, hM.pick [0, 0, 1, 2] rfl, hv72, hv73, hv74⟩
        · rintro s o103 a w90 ⟨l78, n81, n83, xs85, n88, A79, c80, A86, c87, rfl, hf, hM, hv82, hv84, hv89⟩ h104 hd105
          replace h104 : m_spec_l25Lexicon_l1 l78 n81 n83 xs85 n88 = some o103 := h104
          unfold m_spec_l25Lexicon_l1 at h104
          refine wp_seq ?_
          refine wp_seq ?_
          refine region_pl ?_
          refine q_ hf rfl rfl rfl (e_move hf rfl) fun a hf => ?_
          refine q_ hf rfl rfl rfl (e_gt hf (x := n88) (y := 0) rfl rfl) fun a hf => ?_
          refine pl_nil ?_
          refine then_n ?_
          rcases cond_some h104 with ⟨hc106, h104⟩ | ⟨hc106, h104⟩
          · refine cond_t hf rfl hc106 ?_
            refine wp_skip ?_
            refine then_n ?_
            refine wp_seq ?_
            refine wp_block ?_
            refine region_pl ?_
            refine q_ hf rfl rfl rfl (e_move hf rfl) fun a hf => ?_
            refine q_ hf rfl rfl rfl (e_move hf rfl) fun a hf => ?_
            refine pl_l hf rfl rfl rfl (w_slice hf hM (K := strRep) (xs := ([([97, 110] : Str), ([97, 116] : Str), ([116, 97] : Str), ([101, 110] : Str), ([101, 116] : Str), ([116, 101] : Str), ([97, 116, 101] : Str), ([101, 97, 116] : Str), ([116, 101, 97] : Str), ([116, 101, 110] : Str), ([110, 101, 116] : Str), ([116, 97, 116] : Str), ([97, 110, 116] : Str), ([110, 97, 116] : Str), ([101, 116, 97] : Str), ([116, 116] : Str), ([97, 97] : Str), ([101, 101] : Str), ([116, 101, 116, 101] : Str), ([97, 110, 116, 97] : Str), ([116, 97, 116, 101] : Str), ([110, 101, 116, 116] : Str)] : (List Str))) (os := [.const (.string ⟨#[97, 110]⟩), .const (.string ⟨#[97, 116]⟩), .const (.string ⟨#[116, 97]⟩), .const (.string ⟨#[101, 110]⟩), .const (.string ⟨#[101, 116]⟩), .const (.string ⟨#[116, 101]⟩), .const (.string ⟨#[97, 116, 101]⟩), .const (.string ⟨#[101, 97, 116]⟩), .const (.string ⟨#[116, 101, 97]⟩), .const (.string ⟨#[116, 101, 110]⟩), .const (.string ⟨#[110, 101, 116]⟩), .const (.string ⟨#[116, 97, 116]⟩), .const (.string ⟨#[97, 110, 116]⟩), .const (.string ⟨#[110, 97, 116]⟩), .const (.string ⟨#[101, 116, 97]⟩), .const (.string ⟨#[116, 116]⟩), .const (.string ⟨#[97, 97]⟩), .const (.string ⟨#[101, 101]⟩), .const (.string ⟨#[116, 101, 116, 101]⟩), .const (.string ⟨#[97, 110, 116, 97]⟩), .const (.string ⟨#[116, 97, 116, 101]⟩), .const (.string ⟨#[110, 101, 116, 116]⟩)]) Tryz.underlying39 ei_9 rfl rfl rfl rfl rfl ⟨⟨[vS (([97, 110] : Str))], rfl, ⟨rfl, (lit_len rfl)⟩⟩, ⟨[vS (([97, 116] : Str))], rfl, ⟨rfl, (lit_len rfl)⟩⟩, ⟨[vS (([116, 97] : Str))], rfl, ⟨rfl, (lit_len rfl)⟩⟩, ⟨[vS (([101, 110] : Str))], rfl, ⟨rfl, (lit_len rfl)⟩⟩, ⟨[vS (([101, 116] : Str))], rfl, ⟨rfl, (lit_len rfl)⟩⟩, ⟨[vS (([116, 101] : Str))], rfl, ⟨rfl, (lit_len rfl)⟩⟩, ⟨[vS (([97, 116, 101] : Str))], rfl, ⟨rfl, (lit_len rfl)⟩⟩, ⟨[vS (([101, 97, 116] : Str))], rfl, ⟨rfl, (lit_len rfl)⟩⟩, ⟨[vS (([116, 101, 97] : Str))], rfl, ⟨rfl, (lit_len rfl)⟩⟩, ⟨[vS (([116, 101, 110] : Str))], rfl, ⟨rfl, (lit_len rfl)⟩⟩, ⟨[vS (([110, 101, 116] : Str))], rfl, ⟨rfl, (lit_len rfl)⟩⟩, ⟨[vS (([116, 97, 116] : Str))], rfl, ⟨rfl, (lit_len rfl)⟩⟩, ⟨[vS (([97, 110, 116] : Str))], rfl, ⟨rfl, (lit_len rfl)⟩⟩, ⟨[vS (([110, 97, 116] : Str))], rfl, ⟨rfl, (lit_len rfl)⟩⟩, ⟨[vS (([101, 116, 97] : Str))], rfl, ⟨rfl, (lit_len rfl)⟩⟩, ⟨[vS (([116, 116] : Str))], rfl, ⟨rfl, (lit_len rfl)⟩⟩, ⟨[vS (([97, 97] : Str))], rfl, ⟨rfl, (lit_len rfl)⟩⟩, ⟨[vS (([101, 101] : Str))], rfl, ⟨rfl, (lit_len rfl)⟩⟩, ⟨[vS (([116, 101, 116, 101] : Str))], rfl, ⟨rfl, (lit_len rfl)⟩⟩, ⟨[vS (([97, 110, 116, 97] : Str))], rfl, ⟨rfl, (lit_len rfl)⟩⟩, ⟨[vS (([116, 97, 116, 101] : Str))], rfl, ⟨rfl, (lit_len rfl)⟩⟩, ⟨[vS (([110, 101, 116, 116] : Str))], rfl, ⟨rfl, (lit_len rfl)⟩⟩, trivial⟩ rfl fun b107 w108 hx109 hM a hf => ?_)
            have hM := hM.freezeRow (k := 0) rfl rfl
            dsimp only [List.eraseIdx] at hM
            have hM := hM.front (k := 1) rfl
            dsimp only [List.eraseIdx] at hM
            have hM : Mem C _ ([.box b2 [vL A79 (l78) c80, vI (n81), vW (n83)] 84] ++ [.row strRep A86 c87 9 xs85 true, .box b8 [vL none (([] : (List Str))) 0] 41]) _ := hM
            obtain ⟨y110, hz111, h104⟩ := bind_some h104
            refine pl_l hf rfl rfl rfl (w_call hf Tryz.call25 rfl (r_spec_l00Src_text ⟨_, Sh C _ _, ownB _, hM.sh_lt, sub_dis, C.G, hM.g_lt, hM.g_own, hM.tabs⟩ (⟨l78, n81, n83⟩ : l00Src) _ _ _ (hM.dat (k := 1) rfl) hv82 hv84 ([([97, 110] : Str), ([97, 116] : Str), ([116, 97] : Str), ([101, 110] : Str), ([101, 116] : Str), ([116, 101] : Str), ([97, 116, 101] : Str), ([101, 97, 116] : Str), ([116, 101, 97] : Str), ([116, 101, 110] : Str), ([110, 101, 116] : Str), ([116, 97, 116] : Str), ([97, 110, 116] : Str), ([110, 97, 116] : Str), ([101, 116, 97] : Str), ([116, 116] : Str), ([97, 97] : Str), ([101, 101] : Str), ([116, 101, 116, 101] : Str), ([97, 110, 116, 97] : Str), ([116, 97, 116, 101] : Str), ([110, 101, 116, 116] : Str)] : (List Str)) _ _ (hM.dat (k := 0) rfl) hM.sub sub_dis _ hz111) ?_)
            rintro _ w118 ⟨A112, c113, rfl, hM2, hv114, hv115, hv116, hv117⟩
            obtain ⟨hM, hup120⟩ := hM.backG hM2
            dsimp only [List.cons_append, List.nil_append] at hM hup120
            clear hM2
            have hM := hM.add (y := .dat (sliceRep byteRep) y110.2.code [vL A112 y110.2.code c113]) (hup120 hv114)
            refine ⟨_, rfl, fun a hf => ?_⟩
            have hM := hM.front (k := 1) rfl
            dsimp only [List.eraseIdx] at hM
            have hM : Mem C _ ([.row strRep A86 c87 9 xs85 true] ++ [.box b2 [vL A112 (y110.2.code) c113, vI (y110.2.at_), vW (y110.2.seed)] 84, .box b8 [vL none (([] : (List Str))) 0] 41]) _ := hM
            obtain ⟨y121, hz122, h104⟩ := bind_some h104
            refine pl_l hf rfl rfl rfl (w_call hf Tryz.call73 rfl (r_spec_l03Insert ⟨_, Sh C _ _, ownB _, hM.sh_lt, sub_dis, C.G, hM.g_lt, hM.g_own, hM.tabs⟩ xs85 _ _ y110.1 hv117 hM.sub sub_dis _ hz122) ?_)
            rintro _ w125 ⟨A123, c124, rfl, hM2⟩
            obtain ⟨hM, hup127⟩ := hM.backG hM2
            dsimp only [List.cons_append, List.nil_append] at hM hup127
            clear hM2
            refine ⟨_, rfl, fun a hf => ?_⟩
            refine q_ hf rfl rfl rfl (e_assign hf rfl) fun a hf => ?_
            refine pl_nil ?_
            refine blk_n ?_
            refine then_n ?_
            refine region_pl ?_
            refine q_ hf rfl rfl rfl (e_move hf rfl) fun a hf => ?_
            obtain ⟨z128, hz129, h104⟩ := bind_some h104
            refine q_ hf rfl rfl rfl (e_sub hf rfl rfl hz129) fun a hf => ?_
            refine q_ hf rfl rfl rfl (e_assign hf rfl) fun a hf => ?_
            refine pl_nil ?_
            obtain rfl := some_inj h104
            refine then_n ⟨_, rfl, ?_⟩
            exact ⟨y110.2.code, y110.2.at_, y110.2.seed, y121, z128, A112, c113, A123, c124, rfl, hf.keep ⟨rfl, rfl, rfl, rfl, trivial⟩, hM.pick [0, 3, 4, 5] rfl, hv115, hv116, (chk_R hz129)⟩
          · refine cond_f hf rfl hc106 ?_
            refine wp_exit ?_
            refine then_x ?_
            obtain rfl := some_inj h104
            obtain rfl := hd105 _ rfl
            try dsimp only at h66
            refine then_x ?_
            refine exit_hit ?_
            obtain rfl := some_inj h66
            refine then_n ?_
            exact ⟨l78, n81, n83, xs85, A79, c80, A86, c87, rfl, hf.keep ⟨rfl, rfl, trivial⟩, hM.pick [0, 2, 3] rfl, hv82, hv84⟩
      · rintro a w135 ⟨l55, n58, n60, xs62, A56, c57, A63, c64, rfl, hf, hM, hv59, hv61⟩
        try dsimp only at h
        refine wp_seq ?_
        refine region_pl ?_
        refine q_ hf rfl rfl rfl (e_move hf rfl) fun a hf => ?_
        refine q_ hf rfl rfl rfl (e_build hf Tryz.zeroValue41 Tryz.underlying41 (bp_41 _ Tryz.underlying41.symm) rfl (cs := #[vL A63 (xs62) c64]) (by kernel_rfl)) fun a hf => ?_
        refine pl_0 hf rfl rfl (w_store hf hM (us := [vL A63 (xs62) c64]) (cs' := [vL A63 (xs62) c64]) rfl rfl (k := 2) rfl rfl Tryz.sizeOf41 rfl rfl rfl fun w136 hM => ?_)
        dsimp only [List.set] at hM
        refine pl_nil ?_
        refine then_n ?_
        refine wp_ret ?_
        obtain rfl := some_inj h
        have hres139 := leaveV1 (P := Tryz.prog) Tryz.results47 (res_agg hf rfl ⟨Tryz.isAgg41, Tryz.sizeOf41⟩ (us := [vL A63 (xs62) c64]) rfl (hM.boxSub (k := 2) (o := 0) rfl rfl))
        have hM := hM.front (k := 0) rfl
        dsimp only [List.eraseIdx] at hM
        have hM := hM.front (k := 1) rfl
        dsimp only [List.eraseIdx] at hM
        have hM := hM.outs (own' := [.box b2 [vL A56 (l55) c57, vI (n58), vW (n60)] 84, .row strRep A63 c64 9 xs62 true]) 2 rfl
        exact bodyPost_ret hres139 hf.defers ⟨A56, c57, A63, c64, rfl, hM.fin, (hM.dat (k := 0) rfl), hv59, hv61⟩

set_option maxRecDepth 100000 in
set_option maxHeartbeats 4000000 in
theorem r_spec_DrawCandidatesOf (C : Cx) (code1 : Str) (A2 : Option Addr) (c3 : Nat) (hp4 : (sliceRep byteRep).R C.w0 C.S0 code1 [vL A2 code1 c3]) (r : (Grid × Lexicon × Int)) (h : m_spec_DrawCandidatesOf code1 = some r) :
    Calls Tryz.prog 16 #[vL A2 (code1) c3] C.w0 fun e w => ∃ (A_1 : Option Addr), ∃ (c_1 : Nat), e = .returned (.tuple #[.agg #[vI (r.1.Rows), vI (r.1.Cols), vS (r.1.Cells)], .agg #[vL A_1 (r.2.1.Words) c_1], vI (r.2.2)]) ∧ Mem C w [.row strRep A_1 c_1 9 r.2.1.Words true] [] ∧ R64 r.1.Rows ∧ R64 r.1.Cols ∧ r.1.Cells.length ≤ maxLen ∧ R64 r.2.2 := by
  have hM := Mem.begin C [.dat (sliceRep byteRep) code1 [vL A2 code1 c3]] ⟨hp4, trivial⟩
  refine enter Tryz.func16 rfl Tryz.ntmps16 rfl fun a hf => ?_
  unfold m_spec_DrawCandidatesOf at h
  refine wp_seq ?_
  refine region_pl ?_
  refine pl_l hf rfl rfl rfl (w_alloc hM (cs := [vI (0), vI (0), vS (([] : Str))]) Tryz.zeroValue25 rfl fun b5 w6 hx7 hM a hf => ?_)
  refine pl_l hf rfl rfl rfl (w_alloc hM (cs := [vL none (([] : (List Str))) 0]) Tryz.zeroValue41 rfl fun b9 w10 hx11 hM a hf => ?_)
  refine q_ hf rfl rfl rfl (e_assign hf rfl) fun a hf => ?_
  refine pl_nil ?_
  refine then_n ?_
  refine wp_seq ?_
  refine region_pl ?_
  refine q_ hf rfl rfl rfl (e_move hf rfl) fun a hf => ?_
  obtain ⟨y13, hz14, h⟩ := bind_some h
  refine pl_l hf rfl rfl rfl (w_call hf Tryz.call22 rfl (r_spec_l00From ⟨_, Sh C _ _, none_, hM.sh_lt, none_not, C.G, hM.g_lt, g_none, hM.tabs⟩ code1 _ _ (hM.dat (k := 0) rfl) _ hz14) ?_)
  rintro _ w21 ⟨b15, A16, c17, rfl, hM2, hv18, hv19, hv20⟩
  obtain ⟨hM, hx22, hup23⟩ := hM.back hM2
  dsimp only [List.cons_append, List.nil_append] at hM hup23
  clear hM2
  have hM := hM.add (y := .dat (sliceRep byteRep) y13.code [vL A16 y13.code c17]) (hup23 hv18)
  refine ⟨_, rfl, fun a hf => ?_⟩
  refine q_ hf rfl rfl rfl (e_assign hf rfl) fun a hf => ?_
  refine pl_nil ?_
  refine then_n ?_
  refine wp_seq ?_
  refine region_pl ?_
  refine q_ hf rfl rfl rfl (e_move hf rfl) fun a hf => ?_
  have hM : Mem C _ ([.box b15 [vL A16 (y13.code) c17, vI (y13.at_), vW (y13.seed)] 84] ++ [.box b9 [vL none (([] : (List Str))) 0] 41, .box b5 [vI (0), vI (0), vS (([] : Str))] 25]) _ := hM
  obtain ⟨y24, hz25, h⟩ := bind_some h
  refine pl_l hf rfl rfl rfl (w_call hf Tryz.call23 rfl (r_spec_l25Bent ⟨_, Sh C _ _, ownB _, hM.sh_lt, sub_dis, C.G, hM.g_lt, hM.g_own, hM.tabs⟩ y13 _ _ _ (hM.dat (k := 0) rfl) hv19 hv20 hM.sub sub_dis _ hz25) ?_)
  rintro _ w34 ⟨A26, c27, rfl, hM2, hv28, hv29, hv30, hv31, hv32, hv33⟩
  obtain ⟨hM, hup36⟩ := hM.backG hM2
  dsimp only [List.cons_append, List.nil_append] at hM hup36
  clear hM2
  have hM := hM.add (y := .dat (sliceRep byteRep) y24.2.code [vL A26 y24.2.code c27]) (hup36 hv28)
  refine ⟨_, rfl, fun a hf => ?_⟩
  refine pl_l hf rfl rfl rfl (w_alloc hM (cs := [vI (0), vI (0), vS (([] : Str))]) Tryz.zeroValue25 rfl fun b37 w38 hx39 hM a hf => ?_)
  refine pl_0 hf rfl rfl (w_store hf hM (us := [vI (y24.1.Rows), vI (y24.1.Cols), vS (y24.1.Cells)]) (cs' := [vI (y24.1.Rows), vI (y24.1.Cols), vS (y24.1.Cells)]) rfl rfl (k := 0) rfl rfl Tryz.sizeOf25 rfl rfl rfl fun w41 hM => ?_)
  dsimp only [List.set] at hM
  refine pl_nil ?_
  refine then_n ?_
  refine wp_seq ?_
  refine region_pl ?_
  refine q_ hf rfl rfl rfl (e_move hf rfl) fun a hf => ?_
  have hM := hM.front (k := 1) rfl
  dsimp only [List.eraseIdx] at hM
  have hM : Mem C _ ([.box b15 [vL A26 (y24.2.code) c27, vI (y24.2.at_), vW (y24.2.seed)] 84] ++ [.box b37 [vI (y24.1.Rows), vI (y24.1.Cols), vS (y24.1.Cells)] 25, .box b9 [vL none (([] : (List Str))) 0] 41, .box b5 [vI (0), vI (0), vS (([] : Str))] 25]) _ := hM
  obtain ⟨y44, hz45, h⟩ := bind_some h
  refine pl_l hf rfl rfl rfl (w_call hf Tryz.call47 rfl (r_spec_l25Lexicon ⟨_, Sh C _ _, ownB _, hM.sh_lt, sub_dis, C.G, hM.g_lt, hM.g_own, hM.tabs⟩ y24.2 _ _ _ (hM.dat (k := 0) rfl) hv29 hv30 hM.sub sub_dis _ hz45) ?_)
  rintro _ w53 ⟨A46, c47, A51, c52, rfl, hM2, hv48, hv49, hv50⟩
  obtain ⟨hM, hup55⟩ := hM.backG hM2
  dsimp only [List.cons_append, List.nil_append] at hM hup55
  clear hM2
  have hM := hM.add (y := .dat (sliceRep byteRep) y44.2.code [vL A46 y44.2.code c47]) (hup55 hv48)
  refine ⟨_, rfl, fun a hf => ?_⟩
  refine pl_l hf rfl rfl rfl (w_alloc hM (cs := [vL none (([] : (List Str))) 0]) Tryz.zeroValue41 rfl fun b56 w57 hx58 hM a hf => ?_)
  refine pl_0 hf rfl rfl (w_store hf hM (us := [vL A51 (y44.1.Words) c52]) (cs' := [vL A51 (y44.1.Words) c52]) rfl rfl (k := 0) rfl rfl Tryz.sizeOf41 rfl rfl rfl fun w60 hM => ?_)
  dsimp only [List.set] at hM
  refine pl_nil ?_
  refine then_n ?_
  refine wp_seq ?_
  obtain ⟨w63, hw⟩ : ∃ x, x = w60.drew := ⟨_, rfl⟩
  refine region_pi (.q 0 (.q 1 (.q 2 (.l 3 (.l 4 (.l 5 (.q 6 (.nil)))))))) (ExtM [some b15, some b5] w63) rfl (by kernel_rfl) ?_
  have hM := hM.drew
  rw [← hw] at hM ⊢
  clear hw
  refine pi_q hf rfl rfl rfl rfl (ExtM.refl _ _) (e_loadAM hf (us := [vI (y24.1.Rows), vI (y24.1.Cols), vS (y24.1.Cells)]) rfl ⟨Tryz.isAgg25, Tryz.sizeOf25⟩ rfl (hM.boxSub (k := 3) (us := [vI (y24.1.Rows), vI (y24.1.Cols), vS (y24.1.Cells)]) (o := 0) rfl rfl) (hM.apart (js := [1, 5]) rfl (k := 3) rfl rfl rfl)) fun a hf => ?_
  refine pi_q hf rfl rfl rfl rfl (ExtM.refl _ _) (e_loadAM hf (us := [vL A51 (y44.1.Words) c52]) rfl ⟨Tryz.isAgg41, Tryz.sizeOf41⟩ rfl (hM.boxSub (k := 0) (us := [vL A51 (y44.1.Words) c52]) (o := 0) rfl rfl) (hM.apart (js := [1, 5]) rfl (k := 0) rfl rfl rfl)) fun a hf => ?_
  refine pi_q hf rfl rfl rfl rfl (ExtM.refl _ _) (e_move hf rfl) fun a hf => ?_
  refine pi_one ?_
  have hM := hM.freezeBox (k := 3) rfl rfl
  dsimp only [List.eraseIdx] at hM
  have hM := hM.front (k := 1) rfl
  dsimp only [List.eraseIdx] at hM
  have hM : Mem C _ ([.box b15 [vL A46 (y44.2.code) c47, vI (y44.2.at_), vW (y44.2.seed)] 84] ++ [.box b56 [vL A51 (y44.1.Words) c52] 41, .row strRep A51 c52 9 y44.1.Words true, .box b9 [vL none (([] : (List Str))) 0] 41, .box b5 [vI (0), vI (0), vS (([] : Str))] 25]) _ := hM
  obtain ⟨y64, hz65, h⟩ := bind_some h
  refine pi_l hf rfl rfl rfl rfl (w_call hf Tryz.call24 rfl (r_spec_l25Slot ⟨_, Sh C _ _, ownB _, hM.sh_lt, sub_dis, C.G, hM.g_lt, hM.g_own, hM.tabs⟩ y44.2 _ _ _ (hM.dat (k := 1) rfl) hv49 hv50 y24.1 _ _ (hM.litPtr (k := 0) (d := 0) (us := [vI (y24.1.Rows), vI (y24.1.Cols), vS (y24.1.Cells)]) rfl rfl rfl (GridRep_mk (x := y24.1) hv31 hv32 hv33)) hM.sub sub_dis _ hz65) ?_)
  rintro _ w72 ⟨A66, c67, rfl, hM2, hv68, hv69, hv70, hv71⟩
  have hxm75 := ExtM.ofChg (bs := [some b15, some b5]) hM2.chg ⟨List.mem_of_getElem? (i := 0) rfl, trivial⟩
  have hsz76 := hM2.chg.size
  obtain ⟨hM, hup74⟩ := hM.backG hM2
  dsimp only [List.cons_append, List.nil_append] at hM hup74
  clear hM2
  have hM := hM.add (y := .dat (sliceRep byteRep) y64.2.code [vL A66 y64.2.code c67]) (hup74 hv68)
  refine ⟨_, rfl, ExtM [some b15, some b5] w72, fun _ h => ExtM.next hxm75 hsz76 h, ExtM.refl _ _, fun a hf => ?_⟩
  refine pi_one ?_
  refine pi_l0 hf rfl rfl rfl (w_storeM hf (List.mem_of_getElem? (i := 1) rfl) hM (us := [vI (y24.1.Rows), vI (y24.1.Cols), vS (y24.1.Cells)]) (cs' := [vI (y24.1.Rows), vI (y24.1.Cols), vS (y24.1.Cells)]) rfl rfl (k := 4) rfl rfl Tryz.sizeOf25 rfl rfl rfl fun w77 hxm78 hsz79 hM => ⟨Ext w77, fun _ h => ExtM.last hxm78 hsz79 h, Ext.refl _, ?_⟩)
  dsimp only [List.set] at hM
  refine pi_one ?_
  refine pi_z0 hf rfl rfl rfl (by kernel_rfl) (w_store hf hM (us := [vL A51 (y44.1.Words) c52]) (cs' := [vL A51 (y44.1.Words) c52]) rfl rfl (k := 3) rfl rfl Tryz.sizeOf41 rfl rfl rfl fun w80 hM => ?_)
  dsimp only [List.set] at hM
  refine pi_q hf rfl rfl rfl rfl (Ext.refl _) (e_assign hf rfl) fun a hf => ?_
  refine pi_nil ?_
  refine then_n ?_
  refine wp_ret ?_
  obtain rfl := some_inj h
  have hres83 := leaveV3 (P := Tryz.prog) Tryz.results16 (res_agg hf rfl ⟨Tryz.isAgg25, Tryz.sizeOf25⟩ (us := [vI (y24.1.Rows), vI (y24.1.Cols), vS (y24.1.Cells)]) rfl (hM.boxSub (k := 4) (o := 0) rfl rfl)) (res_agg hf rfl ⟨Tryz.isAgg41, Tryz.sizeOf41⟩ (us := [vL A51 (y44.1.Words) c52]) rfl (hM.boxSub (k := 3) (o := 0) rfl rfl)) (res_tmp hf rfl)
  have hM := hM.front (k := 2) rfl
  dsimp only [List.eraseIdx] at hM
  have hM := hM.outs (own' := [.row strRep A51 c52 9 y44.1.Words true]) 1 rfl
  exact bodyPost_ret hres83 hf.defers ⟨A51, c52, rfl, hM.fin, hv31, hv32, hv33, hv71⟩

set_option maxRecDepth 100000 in
set_option maxHeartbeats 4000000 in
theorem r_impl_increasing (C : Cx) (list1 : (List Str)) (A2 : Option Addr) (c3 : Nat) (hp4 : (sliceRep strRep).R C.w0 C.S0 list1 [vL A2 list1 c3]) (r : Bool) (h : m_impl_increasing list1 = some r) :
    Calls Tryz.prog 74 #[vL A2 (list1) c3] C.w0 fun e w => e = .returned (.bool (r)) ∧ Mem C w [] [] := by
  have hM := Mem.begin C [.dat (sliceRep strRep) list1 [vL A2 list1 c3]] ⟨hp4, trivial⟩
  refine enter Tryz.func74 rfl Tryz.ntmps74 rfl fun a hf => ?_
  unfold m_impl_increasing at h
  refine wp_seq ?_
  refine region_pl ?_
  refine q_ hf rfl rfl rfl (e_assign hf rfl) fun a hf => ?_
  refine pl_nil ?_
  refine then_n ?_
  obtain ⟨x5, h6, h⟩ := bind_some h
  refine seq_join (fun a w => (.inl ()) = x5 ∧ Has 20 a [] ∧ Mem C w [] [.dat (sliceRep strRep) list1 [vL A2 list1 c3]]) ?_ ?_
  · refine wp_seq ?_
    refine region_pl ?_
    refine q_ hf rfl rfl rfl (e_assign hf rfl) fun a hf => ?_
    refine pl_nil ?_
    refine then_n ?_
    refine wp_block ?_
    obtain ⟨x10, h11, h6⟩ := bind_some h6
    refine wp_loopM h11 (fun s a w => ∃ (n7 : Int), n7 = s ∧ Has 20 a [(0, vL A2 (list1) c3), (3, vI (n7))] ∧ Mem C w [] [.dat (sliceRep strRep) list1 [vL A2 list1 c3]] ∧ R64 n7) ?_ ?_
    · exact ⟨1, rfl, hf.keep ⟨rfl, rfl, trivial⟩, hM.pick [0] rfl, (R64_lit rfl)⟩
    · rintro s o12 a w9 ⟨n7, rfl, hf, hM, hv8⟩ h13 hd14
      replace h13 : m_impl_increasing_l1 list1 n7 = some o12 := h13
      unfold m_impl_increasing_l1 at h13
      refine wp_seq ?_
      refine wp_seq ?_
      refine region_pl ?_
      refine q_ hf rfl rfl rfl (e_move hf rfl) fun a hf => ?_
      refine q_ hf rfl rfl rfl (e_move hf rfl) fun a hf => ?_
      have hl15 := slice_len (hM.dat (k := 0) rfl)
      refine q_ hf rfl rfl rfl (e_lenL hf (x := list1) rfl Tryz.underlying39) fun a hf => ?_
      refine q_ hf rfl rfl rfl (e_lt hf (x := n7) (y := (list1.length : Int)) rfl rfl) fun a hf => ?_
      refine pl_nil ?_
      refine then_n ?_
      rcases cond_some h13 with ⟨hc16, h13⟩ | ⟨hc16, h13⟩
      · refine cond_t hf rfl hc16 ?_
        refine wp_skip ?_
        refine then_n ?_
        refine wp_seq ?_
        refine wp_block ?_
        refine wp_seq ?_
        obtain ⟨w17, hw⟩ : ∃ x, x = w9.drew := ⟨_, rfl⟩
        refine region_pi (.q 0 (.q 1 (.q 2 (.q 3 (.q 4 (.q 5 (.q 6 (.q 7 (.q 8 (.q 9 (.nil))))))))))) (Ext w17) rfl (by kernel_rfl) ?_
        have hM := hM.drew
        rw [← hw] at hM ⊢
        clear hw
        refine pi_q hf rfl rfl rfl rfl (Ext.refl _) (e_move hf rfl) fun a hf => ?_
        refine pi_q hf rfl rfl rfl rfl (Ext.refl _) (e_move hf rfl) fun a hf => ?_
        obtain ⟨z18, hz19, h13⟩ := bind_some h13
        refine pi_q hf rfl rfl rfl rfl (Ext.refl _) (e_sub hf rfl rfl hz19) fun a hf => ?_
        obtain ⟨e20, hz21, h13⟩ := bind_some h13
        obtain ⟨b25, o26, _, hA27, h22, h23, hr24, hM⟩ := hM.elem (hM.dat (k := 0) rfl) (n := 1) rfl hz21
        obtain ⟨rfl, hv28⟩ := hr24
        refine pi_q hf rfl rfl rfl rfl (Ext.refl _) (e_indexAddr (A := A2) (b := b25) (o := o26) (xs := list1) (i := z18) hf hA27 rfl rfl Tryz.underlying39 Tryz.sizeOf9 h22 h23) fun a hf => ?_
        refine pi_q hf rfl rfl rfl rfl (Ext.refl _) (e_load1 hf rfl Tryz.isAgg9 (hM.litCell (k := 0) (j := 0) rfl rfl rfl)) fun a hf => ?_
        refine pi_q hf rfl rfl rfl rfl (Ext.refl _) (e_move hf rfl) fun a hf => ?_
        refine pi_q hf rfl rfl rfl rfl (Ext.refl _) (e_move hf rfl) fun a hf => ?_
        obtain ⟨e29, hz30, h13⟩ := bind_some h13
        obtain ⟨b34, o35, _, hA36, h31, h32, hr33, hM⟩ := hM.elem (hM.dat (k := 1) rfl) (n := 1) rfl hz30
        obtain ⟨rfl, hv37⟩ := hr33
        refine pi_q hf rfl rfl rfl rfl (Ext.refl _) (e_indexAddr (A := A2) (b := b34) (o := o35) (xs := list1) (i := n7) hf hA36 rfl rfl Tryz.underlying39 Tryz.sizeOf9 h31 h32) fun a hf => ?_
        refine pi_q hf rfl rfl rfl rfl (Ext.refl _) (e_load1 hf rfl Tryz.isAgg9 (hM.litCell (k := 0) (j := 0) rfl rfl rfl)) fun a hf => ?_
        refine pi_q hf rfl rfl rfl rfl (Ext.refl _) (e_geS hf (x := e20) (y := e29) rfl rfl) fun a hf => ?_
        refine pi_nil ?_
        refine then_n ?_
        rcases cond_some h13 with ⟨hc38, h13⟩ | ⟨hc38, h13⟩
        · refine cond_t hf rfl hc38 ?_
          refine wp_seq ?_
          refine region_pl ?_
          refine q_ hf rfl rfl rfl (e_assign hf rfl) fun a hf => ?_
          refine pl_nil ?_
          refine then_n ?_
          refine wp_ret ?_
          refine blk_r ?_
          refine then_r ?_
          obtain rfl := some_inj h13
          obtain rfl := hd14 _ rfl
          try dsimp only at h6
          refine then_r ?_
          refine blk_r ?_
          obtain rfl := some_inj h6
          try dsimp only at h
          refine then_r ?_
          obtain rfl := some_inj h
          exact leave1 hf rfl rfl ⟨rfl, hM.fin⟩
        · refine cond_f hf rfl hc38 ?_
          refine wp_skip ?_
          refine blk_n ?_
          refine then_n ?_
          refine region_pl ?_
          refine q_ hf rfl rfl rfl (e_move hf rfl) fun a hf => ?_
          obtain ⟨z39, hz40, h13⟩ := bind_some h13
          refine q_ hf rfl rfl rfl (e_add hf rfl rfl hz40) fun a hf => ?_
          refine q_ hf rfl rfl rfl (e_assign hf rfl) fun a hf => ?_
          refine pl_nil ?_
          obtain rfl := some_inj h13
          refine then_n ⟨_, rfl, ?_⟩
          exact ⟨z39, rfl, hf.keep ⟨rfl, rfl, trivial⟩, hM.pick [2] rfl, (chk_R hz40)⟩
      · refine cond_f hf rfl hc16 ?_
        refine wp_exit ?_
        refine then_x ?_
        obtain rfl := some_inj h13
        obtain rfl := hd14 _ rfl
        try dsimp only at h6
        refine then_x ?_
        refine exit_hit ?_
        obtain rfl := some_inj h6
        refine then_n ?_
        exact ⟨rfl, hf.keep trivial, hM.pick [0] rfl⟩
  · rintro a w47 ⟨rfl, hf, hM⟩
    try dsimp only at h
    refine wp_seq ?_
    refine region_pl ?_
    refine q_ hf rfl rfl rfl (e_assign hf rfl) fun a hf => ?_
    refine pl_nil ?_
    refine then_n ?_
    refine wp_ret ?_
    obtain rfl := some_inj h
    exact leave1 hf rfl rfl ⟨rfl, hM.fin⟩

set_option maxRecDepth 100000 in
set_option maxHeartbeats 4000000 in
theorem r_impl_isLong (C : Cx) (s1 : Str) (hp2 : s1.length ≤ maxLen) (r : Bool) (h : m_impl_isLong s1 = some r) :
    Calls Tryz.prog 75 #[vS (s1)] C.w0 fun e w => e = .returned (.bool (r)) ∧ Mem C w [] [] := by
  have hM := Mem.begin C [] trivial
  refine enter Tryz.func75 rfl Tryz.ntmps75 rfl fun a hf => ?_
  unfold m_impl_isLong at h
  refine wp_seq ?_
  refine region_pl ?_
  refine q_ hf rfl rfl rfl (e_assign hf rfl) fun a hf => ?_
  refine pl_nil ?_
  refine then_n ?_
  obtain ⟨x5, h6, h⟩ := bind_some h
  refine seq_join (fun a w => ∃ (t3 : Bool), t3 = x5 ∧ Has 10 a [(2, .bool (t3))] ∧ Mem C w [] []) ?_ ?_
  · refine region_pl ?_
    refine q_ hf rfl rfl rfl (e_move hf rfl) fun a hf => ?_
    refine q_ hf rfl rfl rfl (e_lenS hf (x := s1) rfl Tryz.underlying9) fun a hf => ?_
    refine q_ hf rfl rfl rfl (e_ge hf (x := (s1.length : Int)) (y := 2) rfl rfl) fun a hf => ?_
    refine q_ hf rfl rfl rfl (e_move hf rfl) fun a hf => ?_
    rcases cond_some h6 with ⟨hc7, h6⟩ | ⟨hc7, h6⟩
    · refine gq (wanted_t hf rfl rfl rfl rfl hc7) hf rfl rfl (e_move hf rfl) fun a hf => ?_
      obtain ⟨y8, hz9, h6⟩ := bind_some h6
      refine pl_gl (wanted_t hf rfl rfl rfl rfl hc7) hf rfl rfl (w_call hf Tryz.call32 rfl (r_impl_IsWord ⟨_, Sh C _ _, none_, hM.sh_lt, none_not, C.G, hM.g_lt, g_none, hM.tabs⟩ s1 hp2 _ hz9) ?_)
      rintro _ w10 ⟨rfl, hM2⟩
      obtain ⟨hM, hx11, hup12⟩ := hM.back hM2
      dsimp only [List.cons_append, List.nil_append] at hM hup12
      clear hM2
      refine ⟨_, rfl, fun a hf => ?_⟩
      refine q_ hf rfl rfl rfl (e_pick_t hf rfl hc7 rfl) fun a hf => ?_
      refine q_ hf rfl rfl rfl (e_assign hf rfl) fun a hf => ?_
      refine pl_nil ?_
      obtain rfl := some_inj h6
      refine then_n ?_
      exact ⟨y8, rfl, hf.keep ⟨rfl, trivial⟩, hM.pick [] rfl⟩
    · refine pl_gs (wanted_f hf rfl rfl rfl rfl hc7) hf rfl rfl fun a hf => ?_
      refine pl_gs (wanted_f hf rfl rfl rfl rfl hc7) hf rfl rfl fun a hf => ?_
      refine q_ hf rfl rfl rfl (e_pick_f hf rfl hc7 rfl) fun a hf => ?_
      refine q_ hf rfl rfl rfl (e_assign hf rfl) fun a hf => ?_
      refine pl_nil ?_
      obtain rfl := some_inj h6
      refine then_n ?_
      exact ⟨false, rfl, hf.keep ⟨rfl, trivial⟩, hM.pick [] rfl⟩
  · rintro a w15 ⟨t3, rfl, hf, hM⟩
    try dsimp only at h
    refine wp_ret ?_
    obtain rfl := some_inj h
    exact leave1 hf rfl rfl ⟨rfl, hM.fin⟩

set_option maxRecDepth 100000 in
set_option maxHeartbeats 4000000 in
theorem r_impl_ValidLexicon (C : Cx) (l1 : Lexicon) (A2 : Option Addr) (c3 : Nat) (hp4 : (sliceRep strRep).R C.w0 C.S0 l1.Words [vL A2 l1.Words c3]) (r : Bool) (h : m_impl_ValidLexicon l1 = some r) :
    Calls Tryz.prog 48 #[.agg #[vL A2 (l1.Words) c3]] C.w0 fun e w => e = .returned (.bool (r)) ∧ Mem C w [] [] := by
  have hM := Mem.begin C [.dat (sliceRep strRep) l1.Words [vL A2 l1.Words c3]] ⟨hp4, trivial⟩
  refine enter Tryz.func48 rfl Tryz.ntmps48 rfl fun a hf => ?_
  unfold m_impl_ValidLexicon at h
  refine wp_seq ?_
  refine region_pl ?_
  refine pl_l hf rfl rfl rfl (w_box hf hM (cs := [vL A2 (l1.Words) c3]) rfl rfl fun b5 w6 hx7 hM a hf => ?_)
  refine q_ hf rfl rfl rfl (e_assign hf rfl) fun a hf => ?_
  refine pl_nil ?_
  refine then_n ?_
  refine wp_seq ?_
  obtain ⟨x11, h12, h⟩ := bind_some h
  refine seq_join (fun a w => ∃ (t9 : Bool), t9 = x11 ∧ Has 26 a [(1, vP b5 (0)), (14, .bool (t9))] ∧ Mem C w [.box b5 [vL A2 (l1.Words) c3] 41] [.dat (sliceRep strRep) l1.Words [vL A2 l1.Words c3]]) ?_ ?_
  · refine region_pl ?_
    refine q_ hf rfl rfl rfl (e_field hf rfl Tryz.underlying41 rfl Tryz.sizeOf39 (o' := 0) rfl) fun a hf => ?_
    refine q_ hf rfl rfl rfl (e_load1 hf rfl Tryz.isAgg39 (hM.boxCell (k := 0) rfl rfl)) fun a hf => ?_
    have hl13 := slice_len (hM.dat (k := 0) rfl)
    refine q_ hf rfl rfl rfl (e_lenL hf (x := l1.Words) rfl Tryz.underlying39) fun a hf => ?_
    refine q_ hf rfl rfl rfl (e_gt hf (x := (l1.Words.length : Int)) (y := 200) rfl rfl) fun a hf => ?_
    refine q_ hf rfl rfl rfl (e_move hf rfl) fun a hf => ?_
    rcases cond_some h12 with ⟨hc14, h12⟩ | ⟨hc14, h12⟩
    · refine pl_gs (wanted_f hf rfl rfl rfl rfl hc14) hf rfl rfl fun a hf => ?_
      refine pl_gs (wanted_f hf rfl rfl rfl rfl hc14) hf rfl rfl fun a hf => ?_
      refine pl_gs (wanted_f hf rfl rfl rfl rfl hc14) hf rfl rfl fun a hf => ?_
      refine pl_gs (wanted_f hf rfl rfl rfl rfl hc14) hf rfl rfl fun a hf => ?_
      refine q_ hf rfl rfl rfl (e_pick_t hf rfl hc14 rfl) fun a hf => ?_
      refine pl_nil ?_
      obtain rfl := some_inj h12
      refine then_n ?_
      exact ⟨true, rfl, hf.keep ⟨rfl, rfl, trivial⟩, hM.pick [0] rfl⟩
    · refine gq (wanted_t hf rfl rfl rfl rfl hc14) hf rfl rfl (e_field hf rfl Tryz.underlying41 rfl Tryz.sizeOf39 (o' := 0) rfl) fun a hf => ?_
      refine gq (wanted_t hf rfl rfl rfl rfl hc14) hf rfl rfl (e_load1 hf rfl Tryz.isAgg39 (hM.boxCell (k := 0) rfl rfl)) fun a hf => ?_
      obtain ⟨y16, hz17, h12⟩ := bind_some h12
      refine pl_gl (wanted_t hf rfl rfl rfl rfl hc14) hf rfl rfl (w_call hf Tryz.call74 rfl (r_impl_increasing ⟨_, Sh C _ _, none_, hM.sh_lt, none_not, C.G, hM.g_lt, g_none, hM.tabs⟩ l1.Words _ _ (hM.dat (k := 0) rfl) _ hz17) ?_)
      rintro _ w18 ⟨rfl, hM2⟩
      obtain ⟨hM, hx19, hup20⟩ := hM.back hM2
      dsimp only [List.cons_append, List.nil_append] at hM hup20
      clear hM2
      refine ⟨_, rfl, fun a hf => ?_⟩
      refine gq (wanted_t hf rfl rfl rfl rfl hc14) hf rfl rfl (e_not hf rfl) fun a hf => ?_
      refine q_ hf rfl rfl rfl (e_pick_f hf rfl hc14 rfl) fun a hf => ?_
      refine pl_nil ?_
      obtain rfl := some_inj h12
      refine then_n ?_
      exact ⟨(!y16), rfl, hf.keep ⟨rfl, rfl, trivial⟩, hM.pick [0] rfl⟩
  · rintro a w22 ⟨t9, rfl, hf, hM⟩
    try dsimp only at h
    rcases cond_some h with ⟨hc23, h⟩ | ⟨hc23, h⟩
    · refine cond_t hf rfl hc23 ?_
      refine wp_seq ?_
      refine region_pl ?_
      refine q_ hf rfl rfl rfl (e_assign hf rfl) fun a hf => ?_
      refine pl_nil ?_
      refine then_n ?_
      refine wp_ret ?_
      refine then_r ?_
      obtain rfl := some_inj h
      have hM := hM.outs (own' := []) 0 rfl
      exact leave1 hf rfl rfl ⟨rfl, hM.fin⟩
    · refine cond_f hf rfl hc23 ?_
      refine wp_skip ?_
      refine then_n ?_
      obtain ⟨x24, h25, h⟩ := bind_some h
      refine seq_join (fun a w => (.inl ()) = x24 ∧ Has 26 a [] ∧ Mem C w [.box b5 [vL A2 (l1.Words) c3] 41] [.dat (sliceRep strRep) l1.Words [vL A2 l1.Words c3]]) ?_ ?_
      · refine wp_seq ?_
        refine region_pl ?_
        refine q_ hf rfl rfl rfl (e_field hf rfl Tryz.underlying41 rfl Tryz.sizeOf39 (o' := 0) rfl) fun a hf => ?_
        refine q_ hf rfl rfl rfl (e_load1 hf rfl Tryz.isAgg39 (hM.boxCell (k := 0) rfl rfl)) fun a hf => ?_
        have hl26 := slice_len (hM.dat (k := 0) rfl)
        refine q_ hf rfl rfl rfl (e_lenL hf (x := l1.Words) rfl Tryz.underlying39) fun a hf => ?_
        refine q_ hf rfl rfl rfl (e_move hf rfl) fun a hf => ?_
        refine pl_nil ?_
        refine then_n ?_
        refine wp_block ?_
        obtain ⟨x30, h31, h25⟩ := bind_some h25
        refine wp_loopM h31 (fun s a w => ∃ (n27 : Int), n27 = s ∧ Has 26 a [(16, vL A2 (l1.Words) c3), (17, vI ((l1.Words.length : Int))), (18, vI (n27))] ∧ Mem C w [.box b5 [vL A2 (l1.Words) c3] 41] [.dat (sliceRep strRep) l1.Words [vL A2 l1.Words c3]] ∧ R64 n27) ?_ ?_
        · exact ⟨0, rfl, hf.keep ⟨rfl, rfl, rfl, trivial⟩, hM.pick [0] rfl, (R64_lit rfl)⟩
        · rintro s o32 a w29 ⟨n27, rfl, hf, hM, hv28⟩ h33 hd34
          replace h33 : m_impl_ValidLexicon_l1 l1 n27 = some o32 := h33
          unfold m_impl_ValidLexicon_l1 at h33
          refine wp_seq ?_
          refine region_pl ?_
          refine q_ hf rfl rfl rfl (e_lt hf (x := n27) (y := (l1.Words.length : Int)) rfl rfl) fun a hf => ?_
          refine pl_nil ?_
          refine then_n ?_
          refine wp_seq ?_
          rcases cond_some h33 with ⟨hc35, h33⟩ | ⟨hc35, h33⟩
          · refine cond_t hf rfl hc35 ?_
            refine wp_skip ?_
            refine then_n ?_
            refine wp_seq ?_
            refine wp_block ?_
            refine wp_seq ?_
            refine region_pl ?_
            obtain ⟨e36, hz37, h33⟩ := bind_some h33
            obtain ⟨b41, o42, _, hA43, h38, h39, hr40, hM⟩ := hM.elem (hM.dat (k := 0) rfl) (n := 1) rfl hz37
            obtain ⟨rfl, hv44⟩ := hr40
            refine q_ hf rfl rfl rfl (e_indexAddr (A := A2) (b := b41) (o := o42) (xs := l1.Words) (i := n27) hf hA43 rfl rfl Tryz.underlying39 Tryz.sizeOf9 h38 h39) fun a hf => ?_
            refine q_ hf rfl rfl rfl (e_load1 hf rfl Tryz.isAgg9 (hM.litCell (k := 0) (j := 0) rfl rfl rfl)) fun a hf => ?_
            refine q_ hf rfl rfl rfl (e_assign hf rfl) fun a hf => ?_
            refine pl_nil ?_
            refine then_n ?_
            refine wp_seq ?_
            refine region_pl ?_
            refine q_ hf rfl rfl rfl (e_move hf rfl) fun a hf => ?_
            obtain ⟨y45, hz46, h33⟩ := bind_some h33
            refine pl_l hf rfl rfl rfl (w_call hf Tryz.call75 rfl (r_impl_isLong ⟨_, Sh C _ _, none_, hM.sh_lt, none_not, C.G, hM.g_lt, g_none, hM.tabs⟩ e36 hv44 _ hz46) ?_)
            rintro _ w47 ⟨rfl, hM2⟩
            obtain ⟨hM, hx48, hup49⟩ := hM.back hM2
            dsimp only [List.cons_append, List.nil_append] at hM hup49
            clear hM2
            refine ⟨_, rfl, fun a hf => ?_⟩
            refine q_ hf rfl rfl rfl (e_not hf rfl) fun a hf => ?_
            refine pl_nil ?_
            refine then_n ?_
            rcases cond_some h33 with ⟨hc50, h33⟩ | ⟨hc50, h33⟩
            · refine cond_t hf rfl hc50 ?_
              refine wp_seq ?_
              refine region_pl ?_
              refine q_ hf rfl rfl rfl (e_assign hf rfl) fun a hf => ?_
              refine pl_nil ?_
              refine then_n ?_
              refine wp_ret ?_
              refine blk_r ?_
              refine then_r ?_
              obtain rfl := some_inj h33
              obtain rfl := hd34 _ rfl
              try dsimp only at h25
              refine then_r ?_
              refine blk_r ?_
              obtain rfl := some_inj h25
              try dsimp only at h
              refine then_r ?_
              obtain rfl := some_inj h
              have hM := hM.outs (own' := []) 0 rfl
              exact leave1 hf rfl rfl ⟨rfl, hM.fin⟩
            · refine cond_f hf rfl hc50 ?_
              refine wp_skip ?_
              refine blk_n ?_
              refine then_n ?_
              refine region_pl ?_
              obtain ⟨z51, hz52, h33⟩ := bind_some h33
              refine q_ hf rfl rfl rfl (e_add hf rfl rfl hz52) fun a hf => ?_
              refine q_ hf rfl rfl rfl (e_move hf rfl) fun a hf => ?_
              refine pl_nil ?_
              obtain rfl := some_inj h33
              refine then_n ⟨_, rfl, ?_⟩
              exact ⟨z51, rfl, hf.keep ⟨rfl, rfl, rfl, trivial⟩, hM.pick [1] rfl, (chk_R hz52)⟩
          · refine cond_f hf rfl hc35 ?_
            refine wp_exit ?_
            refine then_x ?_
            obtain rfl := some_inj h33
            obtain rfl := hd34 _ rfl
            try dsimp only at h25
            refine then_x ?_
            refine exit_hit ?_
            obtain rfl := some_inj h25
            refine then_n ?_
            exact ⟨rfl, hf.keep trivial, hM.pick [0] rfl⟩
      · rintro a w59 ⟨rfl, hf, hM⟩
        try dsimp only at h
        refine wp_seq ?_
        refine region_pl ?_
        refine q_ hf rfl rfl rfl (e_assign hf rfl) fun a hf => ?_
        refine pl_nil ?_
        refine then_n ?_
        refine wp_ret ?_
        obtain rfl := some_inj h
        have hM := hM.outs (own' := []) 0 rfl
        exact leave1 hf rfl rfl ⟨rfl, hM.fin⟩

set_option maxRecDepth 100000 in
set_option maxHeartbeats 4000000 in
theorem r_impl_Grid_candidates_1 (C : Cx) (word1 : Str) (hp2 : word1.length ≤ maxLen) (p3 : Str) (b4 : Nat) (o5 : Nat) (hp6 : (ptrRep strRep).R C.w0 C.S0 p3 [vP b4 o5]) (r : Bool) (h : m_impl_Grid_candidates_1 word1 p3 = some r) :
    Calls Tryz.prog 77 #[vS (word1), vP b4 (o5)] C.w0 fun e w => e = .returned (.bool (r)) ∧ Mem C w [] [] := by
  have hM := Mem.begin C [.dat (ptrRep strRep) p3 [vP b4 o5]] ⟨hp6, trivial⟩
  refine enter Tryz.func77 rfl Tryz.ntmps77 rfl fun a hf => ?_
  unfold m_impl_Grid_candidates_1 at h
  refine wp_seq ?_
  refine region_pl ?_
  refine q_ hf rfl rfl rfl (e_assign hf rfl) fun a hf => ?_
  refine pl_nil ?_
  refine then_n ?_
  refine wp_seq ?_
  refine region_pl ?_
  obtain ⟨_, hr7, hM⟩ := hM.deref (hM.dat (k := 0) rfl)
  obtain ⟨rfl, hv8⟩ := hr7
  refine q_ hf rfl rfl rfl (e_load1 hf rfl Tryz.isAgg9 (hM.litCell (k := 0) (j := 0) rfl rfl rfl)) fun a hf => ?_
  refine q_ hf rfl rfl rfl (e_move hf rfl) fun a hf => ?_
  obtain ⟨y9, hz10, h⟩ := bind_some h
  refine pl_l hf rfl rfl rfl (w_call hf Tryz.call33 rfl (r_impl_fitsPattern ⟨_, Sh C _ _, none_, hM.sh_lt, none_not, C.G, hM.g_lt, g_none, hM.tabs⟩ p3 hv8 word1 hp2 _ hz10) ?_)
  rintro _ w11 ⟨rfl, hM2⟩
  obtain ⟨hM, hx12, hup13⟩ := hM.back hM2
  dsimp only [List.cons_append, List.nil_append] at hM hup13
  clear hM2
  refine ⟨_, rfl, fun a hf => ?_⟩
  refine q_ hf rfl rfl rfl (e_assign hf rfl) fun a hf => ?_
  refine pl_nil ?_
  refine then_n ?_
  refine wp_ret ?_
  obtain rfl := some_inj h
  exact leave1 hf rfl rfl ⟨rfl, hM.fin⟩

set_option maxRecDepth 100000 in
set_option maxHeartbeats 4000000 in
theorem r_impl_selected_string (C : Cx) (list1 : (List Str)) (A2 : Option Addr) (c3 : Nat) (hp4 : (sliceRep strRep).R C.w0 C.S0 list1 [vL A2 list1 c3]) (is5 : (Str → Option Bool)) (fk6 : FuncId) (fc7 : List Value) (hfn8 : FnOk Tryz.prog C fk6 (FnC_Str_to_Bool fk6 fc7 is5)) (r : (List Str)) (h : m_impl_selected_string list1 is5 = some r) :
    Calls Tryz.prog 76 #[vL A2 (list1) c3, .func (.func fk6) #[] fc7.toArray] C.w0 fun e w => ∃ (A_1 : Option Addr), ∃ (c_1 : Nat), e = .returned (vL A_1 (r) c_1) ∧ Mem C w [.row strRep A_1 c_1 9 r true] [] := by
  have hM := Mem.begin C [.dat (sliceRep strRep) list1 [vL A2 list1 c3]] ⟨hp4, trivial⟩
  refine enter Tryz.func76 rfl Tryz.ntmps76 rfl fun a hf => ?_
  unfold m_impl_selected_string at h
  refine wp_seq ?_
  refine region_pl ?_
  refine q_ hf rfl rfl rfl (e_assign hf rfl) fun a hf => ?_
  refine pl_nil ?_
  refine then_n ?_
  refine wp_seq ?_
  refine region_pl ?_
  refine pl_l hf rfl rfl rfl (w_slice0 (K := strRep) hM Tryz.underlying39 ei_9 fun b9 w10 hx11 hM a hf => ?_)
  refine q_ hf rfl rfl rfl (e_assign hf rfl) fun a hf => ?_
  refine pl_nil ?_
  refine then_n ?_
  obtain ⟨x15, h16, h⟩ := bind_some h
  refine seq_join (fun a w => ∃ (xs12 : (List Str)) (A13 : Option Addr) (c14 : Nat), xs12 = x15 ∧ Has 24 a [(5, vL A13 (xs12) c14)] ∧ Mem C w [.row strRep A13 c14 9 xs12 true] [.dat (sliceRep strRep) list1 [vL A2 list1 c3]]) ?_ ?_
  · refine wp_seq ?_
    refine region_pl ?_
    refine q_ hf rfl rfl rfl (e_move hf rfl) fun a hf => ?_
    have hl17 := slice_len (hM.dat (k := 0) rfl)
    refine q_ hf rfl rfl rfl (e_lenL hf (x := list1) rfl Tryz.underlying39) fun a hf => ?_
    refine q_ hf rfl rfl rfl (e_move hf rfl) fun a hf => ?_
    refine pl_nil ?_
    refine then_n ?_
    refine wp_block ?_
    obtain ⟨x27, h28, h16⟩ := bind_some h16
    refine wp_loopM h28 (fun s a w => ∃ (xs18 : (List Str)) (n21 : Int) (A19 : Option Addr) (c20 : Nat), (xs18, n21) = s ∧ Has 24 a [(1, .func (.func fk6) #[] fc7.toArray), (5, vL A19 (xs18) c20), (9, vL A2 (list1) c3), (10, vI ((list1.length : Int))), (11, vI (n21))] ∧ Mem C w [.row strRep A19 c20 9 xs18 true] [.dat (sliceRep strRep) list1 [vL A2 list1 c3]] ∧ R64 n21) ?_ ?_
    · exact ⟨([] : (List Str)), 0, (some ⟨b9, 0, none⟩), 0, rfl, hf.keep ⟨rfl, rfl, rfl, rfl, rfl, trivial⟩, hM.pick [0] rfl, (R64_lit rfl)⟩
    · rintro s o29 a w23 ⟨xs18, n21, A19, c20, rfl, hf, hM, hv22⟩ h30 hd31
      replace h30 : m_impl_selected_string_l1 list1 is5 xs18 n21 = some o29 := h30
      unfold m_impl_selected_string_l1 at h30
      refine wp_seq ?_
      refine region_pl ?_
      refine q_ hf rfl rfl rfl (e_lt hf (x := n21) (y := (list1.length : Int)) rfl rfl) fun a hf => ?_
      refine pl_nil ?_
      refine then_n ?_
      refine wp_seq ?_
      rcases cond_some h30 with ⟨hc32, h30⟩ | ⟨hc32, h30⟩
      · refine cond_t hf rfl hc32 ?_
        refine wp_skip ?_
        refine then_n ?_
        obtain ⟨x36, h37, h30⟩ := bind_some h30
        refine seq_join (fun a w => ∃ (xs33 : (List Str)) (A34 : Option Addr) (c35 : Nat), xs33 = x36 ∧ Has 24 a [(1, .func (.func fk6) #[] fc7.toArray), (5, vL A34 (xs33) c35), (9, vL A2 (list1) c3), (10, vI ((list1.length : Int))), (11, vI (n21))] ∧ Mem C w [.row strRep A34 c35 9 xs33 true] [.dat (sliceRep strRep) list1 [vL A2 list1 c3]]) ?_ ?_
        · refine wp_block ?_
          refine wp_seq ?_
          refine region_pl ?_
          obtain ⟨e38, hz39, h37⟩ := bind_some h37
          obtain ⟨b43, o44, _, hA45, h40, h41, hr42, hM⟩ := hM.elem (hM.dat (k := 0) rfl) (n := 1) rfl hz39
          obtain ⟨rfl, hv46⟩ := hr42
          refine q_ hf rfl rfl rfl (e_indexAddr (A := A2) (b := b43) (o := o44) (xs := list1) (i := n21) hf hA45 rfl rfl Tryz.underlying39 Tryz.sizeOf9 h40 h41) fun a hf => ?_
          refine q_ hf rfl rfl rfl (e_load1 hf rfl Tryz.isAgg9 (hM.litCell (k := 0) (j := 0) rfl rfl rfl)) fun a hf => ?_
          refine q_ hf rfl rfl rfl (e_assign hf rfl) fun a hf => ?_
          refine pl_nil ?_
          refine then_n ?_
          refine wp_seq ?_
          refine region_pl ?_
          refine q_ hf rfl rfl rfl (e_move hf rfl) fun a hf => ?_
          refine q_ hf rfl rfl rfl (e_move hf rfl) fun a hf => ?_
          obtain ⟨y47, hz48, h37⟩ := bind_some h37
          refine pl_l hf rfl rfl rfl (w_callV hf rfl hfn8.1 rfl (hfn8.2 ⟨_, Sh C _ _, none_, hM.sh_lt, none_not, C.G, hM.g_lt, g_none, hM.tabs⟩ hM.sameS hM.s0sh e38 hv46 _ hz48) ?_)
          rintro _ w49 ⟨rfl, hM2⟩
          obtain ⟨hM, hx50, hup51⟩ := hM.back hM2
          dsimp only [List.cons_append, List.nil_append] at hM hup51
          clear hM2
          refine ⟨_, rfl, fun a hf => ?_⟩
          refine pl_nil ?_
          refine then_n ?_
          rcases cond_some h37 with ⟨hc52, h37⟩ | ⟨hc52, h37⟩
          · refine cond_t hf rfl hc52 ?_
            refine region_pl ?_
            refine q_ hf rfl rfl rfl (e_move hf rfl) fun a hf => ?_
            refine q_ hf rfl rfl rfl (e_move hf rfl) fun a hf => ?_
            refine pl_l hf rfl rfl rfl (w_slice hf hM (K := strRep) (xs := ([e38] : (List Str))) (os := [.tmp 19]) Tryz.underlying39 ei_9 rfl rfl rfl rfl rfl ⟨⟨[vS (e38)], rfl, ⟨rfl, hv46⟩⟩, trivial⟩ rfl fun b53 w54 hx55 hM a hf => ?_)
            obtain ⟨xs56, hz57, h37⟩ := bind_some h37
            refine pl_l hf rfl rfl rfl (w_append hf hM Tryz.underlying39 ei_9 rfl rfl rfl (k := 1) rfl (hM.srcRow (k := 0) rfl) hz57 fun A58 c59 w60 hM a hf => ?_)
            dsimp only [List.set] at hM
            refine q_ hf rfl rfl rfl (e_assign hf rfl) fun a hf => ?_
            refine pl_nil ?_
            refine blk_n ?_
            obtain rfl := some_inj h37
            refine then_n ?_
            exact ⟨xs56, A58, c59, rfl, hf.keep ⟨rfl, rfl, rfl, rfl, rfl, trivial⟩, (hM.drop (.cons _ (.cons_cons _ .slnil))).pick [1] rfl⟩
          · refine cond_f hf rfl hc52 ?_
            refine wp_skip ?_
            refine blk_n ?_
            obtain rfl := some_inj h37
            refine then_n ?_
            exact ⟨xs18, A19, c20, rfl, hf.keep ⟨rfl, rfl, rfl, rfl, rfl, trivial⟩, hM.pick [1] rfl⟩
        · rintro a w65 ⟨xs33, A34, c35, rfl, hf, hM⟩
          try dsimp only at h30
          refine region_pl ?_
          obtain ⟨z66, hz67, h30⟩ := bind_some h30
          refine q_ hf rfl rfl rfl (e_add hf rfl rfl hz67) fun a hf => ?_
          refine q_ hf rfl rfl rfl (e_move hf rfl) fun a hf => ?_
          refine pl_nil ?_
          obtain rfl := some_inj h30
          refine then_n ⟨_, rfl, ?_⟩
          exact ⟨xs33, z66, A34, c35, rfl, hf.keep ⟨rfl, rfl, rfl, rfl, rfl, trivial⟩, hM.pick [0] rfl, (chk_R hz67)⟩
      · refine cond_f hf rfl hc32 ?_
        refine wp_exit ?_
        refine then_x ?_
        obtain rfl := some_inj h30
        obtain rfl := hd31 _ rfl
        try dsimp only at h16
        refine then_x ?_
        refine exit_hit ?_
        obtain rfl := some_inj h16
        refine then_n ?_
        exact ⟨xs18, A19, c20, rfl, hf.keep ⟨rfl, trivial⟩, hM.pick [0] rfl⟩
  · rintro a w73 ⟨xs12, A13, c14, rfl, hf, hM⟩
    try dsimp only at h
    refine wp_seq ?_
    refine region_pl ?_
    refine q_ hf rfl rfl rfl (e_move hf rfl) fun a hf => ?_
    refine q_ hf rfl rfl rfl (e_assign hf rfl) fun a hf => ?_
    refine pl_nil ?_
    refine then_n ?_
    refine wp_ret ?_
    obtain rfl := some_inj h
    exact leave1 hf rfl rfl ⟨A13, c14, rfl, hM.fin⟩

set_option maxRecDepth 100000 in
set_option maxHeartbeats 4000000 in
theorem r_impl_Grid_candidates (C : Cx) (g1 : Grid) (hp2 : R64 g1.Rows) (hp3 : R64 g1.Cols) (hp4 : g1.Cells.length ≤ maxLen) (l5 : Lexicon) (A6 : Option Addr) (c7 : Nat) (hp8 : (sliceRep strRep).R C.w0 C.S0 l5.Words [vL A6 l5.Words c7]) (s9 : Slot) (hp10 : R64 s9.Row) (hp11 : R64 s9.Col) (hp12 : R64 s9.Length) (r : (List Str)) (h : m_impl_Grid_candidates g1 l5 s9 = some r) :
    Calls Tryz.prog 49 #[.agg #[vI (g1.Rows), vI (g1.Cols), vS (g1.Cells)], .agg #[vL A6 (l5.Words) c7], .agg #[vI (s9.Row), vI (s9.Col), .bool (s9.Down), vI (s9.Length)]] C.w0 fun e w => ∃ (A_1 : Option Addr), ∃ (c_1 : Nat), e = .returned (vL A_1 (r) c_1) ∧ Mem C w [.row strRep A_1 c_1 9 r true] [] := by
  have hM := Mem.begin C [.dat (sliceRep strRep) l5.Words [vL A6 l5.Words c7]] ⟨hp8, trivial⟩
  refine enter Tryz.func49 rfl Tryz.ntmps49 rfl fun a hf => ?_
  unfold m_impl_Grid_candidates at h
  refine wp_seq ?_
  refine region_pl ?_
  refine pl_l hf rfl rfl rfl (w_box hf hM (cs := [vI (g1.Rows), vI (g1.Cols), vS (g1.Cells)]) rfl rfl fun b13 w14 hx15 hM a hf => ?_)
  refine pl_l hf rfl rfl rfl (w_box hf hM (cs := [vL A6 (l5.Words) c7]) rfl rfl fun b17 w18 hx19 hM a hf => ?_)
  refine pl_l hf rfl rfl rfl (w_box hf hM (cs := [vI (s9.Row), vI (s9.Col), .bool (s9.Down), vI (s9.Length)]) rfl rfl fun b21 w22 hx23 hM a hf => ?_)
  refine q_ hf rfl rfl rfl (e_assign hf rfl) fun a hf => ?_
  refine pl_nil ?_
  refine then_n ?_
  refine wp_seq ?_
  refine region_pl ?_
  refine q_ hf rfl rfl rfl (e_loadA hf (us := [vI (g1.Rows), vI (g1.Cols), vS (g1.Cells)]) rfl ⟨Tryz.isAgg25, Tryz.sizeOf25⟩ rfl (hM.boxSub (k := 2) (us := [vI (g1.Rows), vI (g1.Cols), vS (g1.Cells)]) (o := 0) rfl rfl)) fun a hf => ?_
  refine q_ hf rfl rfl rfl (e_loadA hf (us := [vI (s9.Row), vI (s9.Col), .bool (s9.Down), vI (s9.Length)]) rfl ⟨Tryz.isAgg60, Tryz.sizeOf60⟩ rfl (hM.boxSub (k := 0) (us := [vI (s9.Row), vI (s9.Col), .bool (s9.Down), vI (s9.Length)]) (o := 0) rfl rfl)) fun a hf => ?_
  obtain ⟨y25, hz26, h⟩ := bind_some h
  refine pl_l hf rfl rfl rfl (w_call hf Tryz.call34 rfl (r_impl_Grid_pattern ⟨_, Sh C _ _, none_, hM.sh_lt, none_not, C.G, hM.g_lt, g_none, hM.tabs⟩ g1 hp2 hp3 hp4 s9 hp10 hp11 hp12 _ hz26) ?_)
  rintro _ w28 ⟨rfl, hM2, hv27⟩
  obtain ⟨hM, hx29, hup30⟩ := hM.back hM2
  dsimp only [List.cons_append, List.nil_append] at hM hup30
  clear hM2
  refine ⟨_, rfl, fun a hf => ?_⟩
  refine pl_l hf rfl rfl rfl (w_alloc hM (cs := [vS (([] : Str))]) Tryz.zeroValue9 rfl fun b31 w32 hx33 hM a hf => ?_)
  refine pl_0 hf rfl rfl (w_store hf hM (us := [vS (y25)]) (cs' := [vS (y25)]) rfl rfl (k := 0) rfl rfl Tryz.sizeOf9 rfl rfl rfl fun w35 hM => ?_)
  dsimp only [List.set] at hM
  refine pl_nil ?_
  refine then_n ?_
  refine wp_seq ?_
  refine region_pl ?_
  refine q_ hf rfl rfl rfl (e_field hf rfl Tryz.underlying41 rfl Tryz.sizeOf39 (o' := 0) rfl) fun a hf => ?_
  refine q_ hf rfl rfl rfl (e_load1 hf rfl Tryz.isAgg39 (hM.boxCell (k := 2) rfl rfl)) fun a hf => ?_
  refine q_ hf rfl rfl rfl (w_makeFunc hf rfl) fun a hf => ?_
  obtain ⟨y40, hz41, h⟩ := bind_some h
  refine pl_l hf rfl rfl rfl (w_call hf Tryz.call76 rfl (r_impl_selected_string ⟨_, All C _ _, none_, hM.all_lt, none_not, C.G, hM.g_lt, g_none, hM.tabs⟩ l5.Words _ _ (hM.lendDat (k := 0) rfl) (fun u38 => m_impl_Grid_candidates_1 u38 y25) 77 [vP b31 (0)] ⟨Tryz.call77, fun C1 hs hsub u38 hp39 r h => r_impl_Grid_candidates_1 C1 u38 hp39 y25 _ _ (Rep.to (hM.lendBox (k := 0) rfl ⟨rfl, hv27⟩) hs hsub) r h⟩ _ hz41) ?_)
  rintro _ w44 ⟨A42, c43, rfl, hM2⟩
  obtain ⟨hM, hx45⟩ := hM.backAF strRep_flat hM2
  clear hM2
  refine ⟨_, rfl, fun a hf => ?_⟩
  refine q_ hf rfl rfl rfl (e_assign hf rfl) fun a hf => ?_
  refine pl_nil ?_
  refine then_n ?_
  refine wp_ret ?_
  obtain rfl := some_inj h
  have hM := hM.outs (own' := [.row strRep A42 c43 9 y40 true]) 1 rfl
  exact leave1 hf rfl rfl ⟨A42, c43, rfl, hM.fin⟩

set_option maxRecDepth 100000 in
set_option maxHeartbeats 4000000 in
theorem r_impl_CandidatesOf (C : Cx) (g1 : Grid) (hp2 : R64 g1.Rows) (hp3 : R64 g1.Cols) (hp4 : g1.Cells.length ≤ maxLen) (l5 : Lexicon) (A6 : Option Addr) (c7 : Nat) (hp8 : (sliceRep strRep).R C.w0 C.S0 l5.Words [vL A6 l5.Words c7]) (slot9 : Int) (hp10 : R64 slot9) (r : ((List Str) × Int)) (h : m_impl_CandidatesOf g1 l5 slot9 = some r) :
    Calls Tryz.prog 17 #[.agg #[vI (g1.Rows), vI (g1.Cols), vS (g1.Cells)], .agg #[vL A6 (l5.Words) c7], vI (slot9)] C.w0 fun e w => ∃ (A_1 : Option Addr), ∃ (c_1 : Nat), e = .returned (.tuple #[vL A_1 (r.1) c_1, vI (r.2)]) ∧ Mem C w [.row strRep A_1 c_1 9 r.1 true] [] ∧ R64 r.2 := by
  have hM := Mem.begin C [.dat (sliceRep strRep) l5.Words [vL A6 l5.Words c7]] ⟨hp8, trivial⟩
  refine enter Tryz.func17 rfl Tryz.ntmps17 rfl fun a hf => ?_
  unfold m_impl_CandidatesOf at h
  refine wp_seq ?_
  refine region_pl ?_
  refine pl_l hf rfl rfl rfl (w_box hf hM (cs := [vI (g1.Rows), vI (g1.Cols), vS (g1.Cells)]) rfl rfl fun b11 w12 hx13 hM a hf => ?_)
  refine pl_l hf rfl rfl rfl (w_box hf hM (cs := [vL A6 (l5.Words) c7]) rfl rfl fun b15 w16 hx17 hM a hf => ?_)
  refine q_ hf rfl rfl rfl (e_assign hf rfl) fun a hf => ?_
  refine q_ hf rfl rfl rfl (e_assign hf rfl) fun a hf => ?_
  refine pl_nil ?_
  refine then_n ?_
  refine wp_seq ?_
  obtain ⟨x21, h22, h⟩ := bind_some h
  refine seq_join (fun a w => ∃ (t19 : Bool), t19 = x21 ∧ Has 30 a [(2, vI (slot9)), (3, vP b11 (0)), (4, vP b15 (0)), (17, .bool (t19))] ∧ Mem C w [.box b15 [vL A6 (l5.Words) c7] 41, .box b11 [vI (g1.Rows), vI (g1.Cols), vS (g1.Cells)] 25] [.dat (sliceRep strRep) l5.Words [vL A6 l5.Words c7]]) ?_ ?_
  · refine region_pl ?_
    refine q_ hf rfl rfl rfl (e_loadA hf (us := [vI (g1.Rows), vI (g1.Cols), vS (g1.Cells)]) rfl ⟨Tryz.isAgg25, Tryz.sizeOf25⟩ rfl (hM.boxSub (k := 1) (us := [vI (g1.Rows), vI (g1.Cols), vS (g1.Cells)]) (o := 0) rfl rfl)) fun a hf => ?_
    obtain ⟨y23, hz24, h22⟩ := bind_some h22
    refine pl_l hf rfl rfl rfl (w_call hf Tryz.call30 rfl (r_impl_ValidGrid ⟨_, Sh C _ _, none_, hM.sh_lt, none_not, C.G, hM.g_lt, g_none, hM.tabs⟩ g1 hp2 hp3 hp4 _ hz24) ?_)
    rintro _ w25 ⟨rfl, hM2⟩
    obtain ⟨hM, hx26, hup27⟩ := hM.back hM2
    dsimp only [List.cons_append, List.nil_append] at hM hup27
    clear hM2
    refine ⟨_, rfl, fun a hf => ?_⟩
    refine q_ hf rfl rfl rfl (e_not hf rfl) fun a hf => ?_
    refine q_ hf rfl rfl rfl (e_move hf rfl) fun a hf => ?_
    rcases cond_some h22 with ⟨hc28, h22⟩ | ⟨hc28, h22⟩
    · refine pl_gs (wanted_f hf rfl rfl rfl rfl hc28) hf rfl rfl fun a hf => ?_
      refine pl_gs (wanted_f hf rfl rfl rfl rfl hc28) hf rfl rfl fun a hf => ?_
      refine pl_gs (wanted_f hf rfl rfl rfl rfl hc28) hf rfl rfl fun a hf => ?_
      refine q_ hf rfl rfl rfl (e_pick_t hf rfl hc28 rfl) fun a hf => ?_
      refine pl_nil ?_
      obtain rfl := some_inj h22
      refine then_n ?_
      exact ⟨true, rfl, hf.keep ⟨rfl, rfl, rfl, rfl, trivial⟩, hM.pick [0] rfl⟩
    · refine gq (wanted_t hf rfl rfl rfl rfl hc28) hf rfl rfl (e_loadA hf (us := [vL A6 (l5.Words) c7]) rfl ⟨Tryz.isAgg41, Tryz.sizeOf41⟩ rfl (hM.boxSub (k := 0) (us := [vL A6 (l5.Words) c7]) (o := 0) rfl rfl)) fun a hf => ?_
      obtain ⟨y30, hz31, h22⟩ := bind_some h22
      refine pl_gl (wanted_t hf rfl rfl rfl rfl hc28) hf rfl rfl (w_call hf Tryz.call48 rfl (r_impl_ValidLexicon ⟨_, Sh C _ _, none_, hM.sh_lt, none_not, C.G, hM.g_lt, g_none, hM.tabs⟩ l5 _ _ (hM.dat (k := 0) rfl) _ hz31) ?_)
      rintro _ w32 ⟨rfl, hM2⟩
      obtain ⟨hM, hx33, hup34⟩ := hM.back hM2
      dsimp only [List.cons_append, List.nil_append] at hM hup34
      clear hM2
      refine ⟨_, rfl, fun a hf => ?_⟩
      refine gq (wanted_t hf rfl rfl rfl rfl hc28) hf rfl rfl (e_not hf rfl) fun a hf => ?_
      refine q_ hf rfl rfl rfl (e_pick_f hf rfl hc28 rfl) fun a hf => ?_
      refine pl_nil ?_
      obtain rfl := some_inj h22
      refine then_n ?_
      exact ⟨(!y30), rfl, hf.keep ⟨rfl, rfl, rfl, rfl, trivial⟩, hM.pick [0] rfl⟩
  · rintro a w36 ⟨t19, rfl, hf, hM⟩
    try dsimp only at h
    rcases cond_some h with ⟨hc37, h⟩ | ⟨hc37, h⟩
    · refine cond_t hf rfl hc37 ?_
      refine wp_seq ?_
      refine region_pl ?_
      refine q_ hf rfl rfl rfl (e_assign hf rfl) fun a hf => ?_
      refine q_ hf rfl rfl rfl (e_assign hf rfl) fun a hf => ?_
      refine pl_nil ?_
      refine then_n ?_
      refine wp_ret ?_
      refine then_r ?_
      obtain rfl := some_inj h
      have hM := hM.nilRow strRep 9
      have hM := hM.outs (own' := [.row strRep none 0 9 ([] : (List Str)) true]) 1 rfl
      exact leave2 hf rfl rfl rfl ⟨none, 0, rfl, hM.fin, (R64_lit rfl)⟩
    · refine cond_f hf rfl hc37 ?_
      refine wp_skip ?_
      refine then_n ?_
      refine wp_seq ?_
      refine region_pl ?_
      refine q_ hf rfl rfl rfl (e_loadA hf (us := [vI (g1.Rows), vI (g1.Cols), vS (g1.Cells)]) rfl ⟨Tryz.isAgg25, Tryz.sizeOf25⟩ rfl (hM.boxSub (k := 1) (us := [vI (g1.Rows), vI (g1.Cols), vS (g1.Cells)]) (o := 0) rfl rfl)) fun a hf => ?_
      refine q_ hf rfl rfl rfl (e_move hf rfl) fun a hf => ?_
      obtain ⟨y38, hz39, h⟩ := bind_some h
      refine pl_l hf rfl rfl rfl (w_call hf Tryz.call31 rfl (r_impl_Grid_slotAt ⟨_, Sh C _ _, none_, hM.sh_lt, none_not, C.G, hM.g_lt, g_none, hM.tabs⟩ g1 hp2 hp3 hp4 slot9 hp10 _ hz39) ?_)
      rintro _ w43 ⟨rfl, hM2, hv40, hv41, hv42⟩
      obtain ⟨hM, hx44, hup45⟩ := hM.back hM2
      dsimp only [List.cons_append, List.nil_append] at hM hup45
      clear hM2
      refine ⟨_, rfl, fun a hf => ?_⟩
      refine q_ hf rfl rfl rfl (e_move hf rfl) fun a hf => ?_
      refine q_ hf rfl rfl rfl (e_extract hf rfl rfl) fun a hf => ?_
      refine q_ hf rfl rfl rfl (e_extract hf rfl rfl) fun a hf => ?_
      refine pl_l hf rfl rfl rfl (w_alloc hM (cs := [vI (0), vI (0), .bool (false), vI (0)]) Tryz.zeroValue60 rfl fun b46 w47 hx48 hM a hf => ?_)
      refine pl_0 hf rfl rfl (w_store hf hM (us := [vI (y38.1.Row), vI (y38.1.Col), .bool (y38.1.Down), vI (y38.1.Length)]) (cs' := [vI (y38.1.Row), vI (y38.1.Col), .bool (y38.1.Down), vI (y38.1.Length)]) rfl rfl (k := 0) rfl rfl Tryz.sizeOf60 rfl rfl rfl fun w50 hM => ?_)
      dsimp only [List.set] at hM
      refine q_ hf rfl rfl rfl (e_assign hf rfl) fun a hf => ?_
      refine pl_nil ?_
      refine then_n ?_
      refine wp_seq ?_
      refine wp_seq ?_
      refine region_pl ?_
      refine q_ hf rfl rfl rfl (e_move hf rfl) fun a hf => ?_
      refine q_ hf rfl rfl rfl (e_not hf rfl) fun a hf => ?_
      refine pl_nil ?_
      refine then_n ?_
      rcases cond_some h with ⟨hc53, h⟩ | ⟨hc53, h⟩
      · refine cond_t hf rfl hc53 ?_
        refine wp_seq ?_
        refine region_pl ?_
        refine q_ hf rfl rfl rfl (e_assign hf rfl) fun a hf => ?_
        refine q_ hf rfl rfl rfl (e_assign hf rfl) fun a hf => ?_
        refine pl_nil ?_
        refine then_n ?_
        refine wp_ret ?_
        refine then_r ?_
        obtain rfl := some_inj h
        have hM := hM.nilRow strRep 9
        have hM := hM.outs (own' := [.row strRep none 0 9 ([] : (List Str)) true]) 1 rfl
        exact leave2 hf rfl rfl rfl ⟨none, 0, rfl, hM.fin, (R64_lit rfl)⟩
      · refine cond_f hf rfl hc53 ?_
        refine wp_skip ?_
        refine then_n ?_
        refine wp_seq ?_
        refine region_pl ?_
        refine q_ hf rfl rfl rfl (e_loadA hf (us := [vI (g1.Rows), vI (g1.Cols), vS (g1.Cells)]) rfl ⟨Tryz.isAgg25, Tryz.sizeOf25⟩ rfl (hM.boxSub (k := 2) (us := [vI (g1.Rows), vI (g1.Cols), vS (g1.Cells)]) (o := 0) rfl rfl)) fun a hf => ?_
        refine q_ hf rfl rfl rfl (e_loadA hf (us := [vL A6 (l5.Words) c7]) rfl ⟨Tryz.isAgg41, Tryz.sizeOf41⟩ rfl (hM.boxSub (k := 1) (us := [vL A6 (l5.Words) c7]) (o := 0) rfl rfl)) fun a hf => ?_
        refine q_ hf rfl rfl rfl (e_loadA hf (us := [vI (y38.1.Row), vI (y38.1.Col), .bool (y38.1.Down), vI (y38.1.Length)]) rfl ⟨Tryz.isAgg60, Tryz.sizeOf60⟩ rfl (hM.boxSub (k := 0) (us := [vI (y38.1.Row), vI (y38.1.Col), .bool (y38.1.Down), vI (y38.1.Length)]) (o := 0) rfl rfl)) fun a hf => ?_
        obtain ⟨y54, hz55, h⟩ := bind_some h
        refine pl_l hf rfl rfl rfl (w_call hf Tryz.call49 rfl (r_impl_Grid_candidates ⟨_, Sh C _ _, none_, hM.sh_lt, none_not, C.G, hM.g_lt, g_none, hM.tabs⟩ g1 hp2 hp3 hp4 l5 _ _ (hM.dat (k := 0) rfl) y38.1 hv40 hv41 hv42 _ hz55) ?_)
        rintro _ w58 ⟨A56, c57, rfl, hM2⟩
        obtain ⟨hM, hx59, hup60⟩ := hM.back hM2
        dsimp only [List.cons_append, List.nil_append] at hM hup60
        clear hM2
        refine ⟨_, rfl, fun a hf => ?_⟩
        refine q_ hf rfl rfl rfl (e_assign hf rfl) fun a hf => ?_
        refine q_ hf rfl rfl rfl (e_assign hf rfl) fun a hf => ?_
        refine pl_nil ?_
        refine then_n ?_
        refine wp_ret ?_
        obtain rfl := some_inj h
        have hM := hM.outs (own' := [.row strRep A56 c57 9 y54 true]) 1 rfl
        exact leave2 hf rfl rfl rfl ⟨A56, c57, rfl, hM.fin, (R64_lit rfl)⟩

set_option maxRecDepth 100000 in
set_option maxHeartbeats 4000000 in
theorem r_spec_l05Long (C : Cx) (s1 : Str) (hp2 : s1.length ≤ maxLen) (r : Bool) (h : m_spec_l05Long s1 = some r) :
    Calls Tryz.prog 78 #[vS (s1)] C.w0 fun e w => e = .returned (.bool (r)) ∧ Mem C w [] [] := by
  have hM := Mem.begin C [] trivial
  refine enter Tryz.func78 rfl Tryz.ntmps78 rfl fun a hf => ?_
  unfold m_spec_l05Long at h
  refine wp_seq ?_
  refine region_pl ?_
  refine q_ hf rfl rfl rfl (e_assign hf rfl) fun a hf => ?_
  refine pl_nil ?_
  refine then_n ?_
  obtain ⟨x5, h6, h⟩ := bind_some h
  refine seq_join (fun a w => ∃ (t3 : Bool), t3 = x5 ∧ Has 10 a [(2, .bool (t3))] ∧ Mem C w [] []) ?_ ?_
  · refine region_pl ?_
    refine q_ hf rfl rfl rfl (e_move hf rfl) fun a hf => ?_
    refine q_ hf rfl rfl rfl (e_lenS hf (x := s1) rfl Tryz.underlying9) fun a hf => ?_
    refine q_ hf rfl rfl rfl (e_gt hf (x := (s1.length : Int)) (y := 1) rfl rfl) fun a hf => ?_
    refine q_ hf rfl rfl rfl (e_move hf rfl) fun a hf => ?_
    rcases cond_some h6 with ⟨hc7, h6⟩ | ⟨hc7, h6⟩
    · refine gq (wanted_t hf rfl rfl rfl rfl hc7) hf rfl rfl (e_move hf rfl) fun a hf => ?_
      obtain ⟨y8, hz9, h6⟩ := bind_some h6
      refine pl_gl (wanted_t hf rfl rfl rfl rfl hc7) hf rfl rfl (w_call hf Tryz.call36 rfl (r_spec_IsWord ⟨_, Sh C _ _, none_, hM.sh_lt, none_not, C.G, hM.g_lt, g_none, hM.tabs⟩ s1 hp2 _ hz9) ?_)
      rintro _ w10 ⟨rfl, hM2⟩
      obtain ⟨hM, hx11, hup12⟩ := hM.back hM2
      dsimp only [List.cons_append, List.nil_append] at hM hup12
      clear hM2
      refine ⟨_, rfl, fun a hf => ?_⟩
      refine q_ hf rfl rfl rfl (e_pick_t hf rfl hc7 rfl) fun a hf => ?_
      refine q_ hf rfl rfl rfl (e_assign hf rfl) fun a hf => ?_
      refine pl_nil ?_
      obtain rfl := some_inj h6
      refine then_n ?_
      exact ⟨y8, rfl, hf.keep ⟨rfl, trivial⟩, hM.pick [] rfl⟩
    · refine pl_gs (wanted_f hf rfl rfl rfl rfl hc7) hf rfl rfl fun a hf => ?_
      refine pl_gs (wanted_f hf rfl rfl rfl rfl hc7) hf rfl rfl fun a hf => ?_
      refine q_ hf rfl rfl rfl (e_pick_f hf rfl hc7 rfl) fun a hf => ?_
      refine q_ hf rfl rfl rfl (e_assign hf rfl) fun a hf => ?_
      refine pl_nil ?_
      obtain rfl := some_inj h6
      refine then_n ?_
      exact ⟨false, rfl, hf.keep ⟨rfl, trivial⟩, hM.pick [] rfl⟩
  · rintro a w15 ⟨t3, rfl, hf, hM⟩
    try dsimp only at h
    refine wp_ret ?_
    obtain rfl := some_inj h
    exact leave1 hf rfl rfl ⟨rfl, hM.fin⟩

set_option maxRecDepth 100000 in
set_option maxHeartbeats 4000000 in
theorem r_spec_l05Ok (C : Cx) (l1 : Lexicon) (b2 : Nat) (o3 : Nat) (hp4 : (ptrRep LexiconRep).R C.w0 C.S0 l1 [vP b2 o3]) (r : Bool) (h : m_spec_l05Ok l1 = some r) :
    Calls Tryz.prog 50 #[vP b2 (o3)] C.w0 fun e w => e = .returned (.bool (r)) ∧ Mem C w [] [] := by
  have hM := Mem.begin C [.dat (ptrRep LexiconRep) l1 [vP b2 o3]] ⟨hp4, trivial⟩
  refine enter Tryz.func50 rfl Tryz.ntmps50 rfl fun a hf => ?_
  unfold m_spec_l05Ok at h
  refine wp_seq ?_
  refine region_pl ?_
  refine q_ hf rfl rfl rfl (e_assign hf rfl) fun a hf => ?_
  refine pl_nil ?_
  refine then_n ?_
  obtain ⟨x5, h6, h⟩ := bind_some h
  refine seq_join (fun a w => (.inl ()) = x5 ∧ Has 50 a [(0, vP b2 (o3))] ∧ Mem C w [] [.dat (ptrRep LexiconRep) l1 [vP b2 o3]]) ?_ ?_
  · refine wp_seq ?_
    refine region_pl ?_
    refine q_ hf rfl rfl rfl (e_assign hf rfl) fun a hf => ?_
    refine pl_nil ?_
    refine then_n ?_
    refine wp_block ?_
    obtain ⟨x10, h11, h6⟩ := bind_some h6
    refine wp_loopM h11 (fun s a w => ∃ (n7 : Int), n7 = s ∧ Has 50 a [(0, vP b2 (o3)), (3, vI (n7))] ∧ Mem C w [] [.dat (ptrRep LexiconRep) l1 [vP b2 o3]] ∧ R64 n7) ?_ ?_
    · exact ⟨0, rfl, hf.keep ⟨rfl, rfl, trivial⟩, hM.pick [0] rfl, (R64_lit rfl)⟩
    · rintro s o12 a w9 ⟨n7, rfl, hf, hM, hv8⟩ h13 hd14
      replace h13 : m_spec_l05Ok_l1 l1 n7 = some o12 := h13
      unfold m_spec_l05Ok_l1 at h13
      refine wp_seq ?_
      refine wp_seq ?_
      refine region_pl ?_
      refine q_ hf rfl rfl rfl (e_move hf rfl) fun a hf => ?_
      refine q_ hf rfl rfl rfl (e_move hf rfl) fun a hf => ?_
      refine q_ hf rfl rfl rfl (e_nil hf rfl) fun a hf => ?_
      obtain ⟨_, hr15, hM⟩ := hM.deref (hM.dat (k := 0) rfl)
      obtain ⟨A16, c17, rfl, hv18⟩ := LexiconRep_open hr15
      have hM := hM.add (y := .dat (sliceRep strRep) l1.Words [vL A16 l1.Words c17]) hv18
      refine q_ hf rfl rfl rfl (e_field hf rfl Tryz.underlying41 rfl Tryz.sizeOf39 (o' := o3 + 0) rfl) fun a hf => ?_
      refine q_ hf rfl rfl rfl (e_load1 hf rfl Tryz.isAgg39 (hM.litCell (k := 1) (j := 0) rfl rfl rfl)) fun a hf => ?_
      have hl19 := slice_len (hM.dat (k := 0) rfl)
      refine q_ hf rfl rfl rfl (e_lenL hf (x := l1.Words) rfl Tryz.underlying39) fun a hf => ?_
      refine q_ hf rfl rfl rfl (e_lt hf (x := n7) (y := (l1.Words.length : Int)) rfl rfl) fun a hf => ?_
      refine pl_nil ?_
      refine then_n ?_
      rcases cond_some h13 with ⟨hc20, h13⟩ | ⟨hc20, h13⟩
      · refine cond_t hf rfl hc20 ?_
        refine wp_skip ?_
        refine then_n ?_
        refine wp_seq ?_
        refine wp_block ?_
        obtain ⟨x23, h24, h13⟩ := bind_some h13
        refine seq_join (fun a w => ∃ (t21 : Bool), t21 = x23 ∧ Has 50 a [(0, vP b2 (o3)), (3, vI (n7)), (43, .bool (t21))] ∧ Mem C w [] [.dat (sliceRep strRep) l1.Words [vL A16 l1.Words c17], .lit b2 (o3) [vL A16 (l1.Words) c17], .dat (ptrRep LexiconRep) l1 [vP b2 o3]]) ?_ ?_
        · obtain ⟨w25, hw⟩ : ∃ x, x = w9.drew := ⟨_, rfl⟩
          refine region_pi (.q 0 (.q 1 (.q 2 (.q 3 (.q 4 (.q 5 (.q 6 (.l 7 (.q 8 (.q 9 (.q 10 (.q 11 (.q 12 (.q 13 (.q 14 (.q 15 (.q 16 (.q 17 (.q 18 (.q 19 (.q 20 (.q 21 (.q 22 (.q 23 (.q 24 (.q 25 (.q 26 (.q 27 (.q 28 (.q 29 (.q 30 (.nil)))))))))))))))))))))))))))))))) (Ext w25) rfl (by kernel_rfl) ?_
          have hM := hM.drew
          rw [← hw] at hM ⊢
          clear hw
          refine pi_q hf rfl rfl rfl rfl (Ext.refl _) (e_move hf rfl) fun a hf => ?_
          refine pi_q hf rfl rfl rfl rfl (Ext.refl _) (e_nil hf rfl) fun a hf => ?_
          refine pi_q hf rfl rfl rfl rfl (Ext.refl _) (e_field hf rfl Tryz.underlying41 rfl Tryz.sizeOf39 (o' := o3 + 0) rfl) fun a hf => ?_
          refine pi_q hf rfl rfl rfl rfl (Ext.refl _) (e_load1 hf rfl Tryz.isAgg39 (hM.litCell (k := 1) (j := 0) rfl rfl rfl)) fun a hf => ?_
          refine pi_q hf rfl rfl rfl rfl (Ext.refl _) (e_move hf rfl) fun a hf => ?_
          obtain ⟨e26, hz27, h24⟩ := bind_some h24
          obtain ⟨b31, o32, _, hA33, h28, h29, hr30, hM⟩ := hM.elem (hM.dat (k := 0) rfl) (n := 1) rfl hz27
          obtain ⟨rfl, hv34⟩ := hr30
          refine pi_q hf rfl rfl rfl rfl (Ext.refl _) (e_indexAddr (A := A16) (b := b31) (o := o32) (xs := l1.Words) (i := n7) hf hA33 rfl rfl Tryz.underlying39 Tryz.sizeOf9 h28 h29) fun a hf => ?_
          refine pi_q hf rfl rfl rfl rfl (Ext.refl _) (e_load1 hf rfl Tryz.isAgg9 (hM.litCell (k := 0) (j := 0) rfl rfl rfl)) fun a hf => ?_
          refine pi_one ?_
          obtain ⟨y35, hz36, h24⟩ := bind_some h24
          refine pi_l hf rfl rfl rfl rfl (w_call hf Tryz.call78 rfl (r_spec_l05Long ⟨_, Sh C _ _, none_, hM.sh_lt, none_not, C.G, hM.g_lt, g_none, hM.tabs⟩ e26 hv34 _ hz36) ?_)
          rintro _ w37 ⟨rfl, hM2⟩
          obtain ⟨hM, hx38, hup39⟩ := hM.back hM2
          dsimp only [List.cons_append, List.nil_append] at hM hup39
          clear hM2
          refine ⟨_, rfl, Ext w37, fun _ h => Ext.trans hx38 h, Ext.refl _, fun a hf => ?_⟩
          refine pi_q hf rfl rfl rfl rfl (Ext.refl _) (e_not hf rfl) fun a hf => ?_
          refine pi_q hf rfl rfl rfl rfl (Ext.refl _) (e_move hf rfl) fun a hf => ?_
          rcases cond_some h24 with ⟨hc40, h24⟩ | ⟨hc40, h24⟩
          · refine pi_gs hf rfl (wanted_f hf rfl rfl rfl rfl hc40) rfl rfl (Ext.refl _) fun a hf => ?_
            refine pi_gs hf rfl (wanted_f hf rfl rfl rfl rfl hc40) rfl rfl (Ext.refl _) fun a hf => ?_
            refine pi_gs hf rfl (wanted_f hf rfl rfl rfl rfl hc40) rfl rfl (Ext.refl _) fun a hf => ?_
            refine pi_gs hf rfl (wanted_u hf rfl rfl rfl rfl) rfl rfl (Ext.refl _) fun a hf => ?_
            refine pi_gs hf rfl (wanted_u hf rfl rfl rfl rfl) rfl rfl (Ext.refl _) fun a hf => ?_
            refine pi_gs hf rfl (wanted_u hf rfl rfl rfl rfl) rfl rfl (Ext.refl _) fun a hf => ?_
            refine pi_gs hf rfl (wanted_u hf rfl rfl rfl rfl) rfl rfl (Ext.refl _) fun a hf => ?_
            refine pi_gs hf rfl (wanted_u hf rfl rfl rfl rfl) rfl rfl (Ext.refl _) fun a hf => ?_
            refine pi_gs hf rfl (wanted_u hf rfl rfl rfl rfl) rfl rfl (Ext.refl _) fun a hf => ?_
            refine pi_gs hf rfl (wanted_u hf rfl rfl rfl rfl) rfl rfl (Ext.refl _) fun a hf => ?_
            refine pi_gs hf rfl (wanted_u hf rfl rfl rfl rfl) rfl rfl (Ext.refl _) fun a hf => ?_
            refine pi_gs hf rfl (wanted_u hf rfl rfl rfl rfl) rfl rfl (Ext.refl _) fun a hf => ?_
            refine pi_gs hf rfl (wanted_u hf rfl rfl rfl rfl) rfl rfl (Ext.refl _) fun a hf => ?_
            refine pi_gs hf rfl (wanted_u hf rfl rfl rfl rfl) rfl rfl (Ext.refl _) fun a hf => ?_
            refine pi_gs hf rfl (wanted_u hf rfl rfl rfl rfl) rfl rfl (Ext.refl _) fun a hf => ?_
            refine pi_gs hf rfl (wanted_u hf rfl rfl rfl rfl) rfl rfl (Ext.refl _) fun a hf => ?_
            refine pi_gs hf rfl (wanted_u hf rfl rfl rfl rfl) rfl rfl (Ext.refl _) fun a hf => ?_
            refine pi_gs hf rfl (wanted_u hf rfl rfl rfl rfl) rfl rfl (Ext.refl _) fun a hf => ?_
            refine pi_gs hf rfl (wanted_u hf rfl rfl rfl rfl) rfl rfl (Ext.refl _) fun a hf => ?_
            refine pi_gs hf rfl (wanted_f hf rfl rfl rfl rfl hc40) rfl rfl (Ext.refl _) fun a hf => ?_
            refine pi_q hf rfl rfl rfl rfl (Ext.refl _) (e_pick_t hf rfl hc40 rfl) fun a hf => ?_
            refine pi_nil ?_
            obtain rfl := some_inj h24
            refine then_n ?_
            exact ⟨true, rfl, hf.keep ⟨rfl, rfl, rfl, trivial⟩, hM.pick [1, 2, 3] rfl⟩
          · refine pi_gq hf rfl (wanted_t hf rfl rfl rfl rfl hc40) rfl rfl (Ext.refl _) (e_move hf rfl) fun a hf => ?_
            refine pi_gq hf rfl (wanted_t hf rfl rfl rfl rfl hc40) rfl rfl (Ext.refl _) (e_gt hf (x := n7) (y := 0) rfl rfl) fun a hf => ?_
            refine pi_gq hf rfl (wanted_t hf rfl rfl rfl rfl hc40) rfl rfl (Ext.refl _) (e_move hf rfl) fun a hf => ?_
            rcases cond_some h24 with ⟨hc42, h24⟩ | ⟨hc42, h24⟩
            · refine pi_gq hf rfl (wanted_t hf rfl rfl rfl rfl hc42) rfl rfl (Ext.refl _) (e_move hf rfl) fun a hf => ?_
              refine pi_gq hf rfl (wanted_t hf rfl rfl rfl rfl hc42) rfl rfl (Ext.refl _) (e_nil hf rfl) fun a hf => ?_
              refine pi_gq hf rfl (wanted_t hf rfl rfl rfl rfl hc42) rfl rfl (Ext.refl _) (e_field hf rfl Tryz.underlying41 rfl Tryz.sizeOf39 (o' := o3 + 0) rfl) fun a hf => ?_
              refine pi_gq hf rfl (wanted_t hf rfl rfl rfl rfl hc42) rfl rfl (Ext.refl _) (e_load1 hf rfl Tryz.isAgg39 (hM.litCell (k := 2) (j := 0) rfl rfl rfl)) fun a hf => ?_
              refine pi_gq hf rfl (wanted_t hf rfl rfl rfl rfl hc42) rfl rfl (Ext.refl _) (e_move hf rfl) fun a hf => ?_
              obtain ⟨e43, hz44, h24⟩ := bind_some h24
              obtain ⟨b48, o49, _, hA50, h45, h46, hr47, hM⟩ := hM.elem (hM.dat (k := 1) rfl) (n := 1) rfl hz44
              obtain ⟨rfl, hv51⟩ := hr47
              refine pi_gq hf rfl (wanted_t hf rfl rfl rfl rfl hc42) rfl rfl (Ext.refl _) (e_indexAddr (A := A16) (b := b48) (o := o49) (xs := l1.Words) (i := n7) hf hA50 rfl rfl Tryz.underlying39 Tryz.sizeOf9 h45 h46) fun a hf => ?_
              refine pi_gq hf rfl (wanted_t hf rfl rfl rfl rfl hc42) rfl rfl (Ext.refl _) (e_load1 hf rfl Tryz.isAgg9 (hM.litCell (k := 0) (j := 0) rfl rfl rfl)) fun a hf => ?_
              refine pi_gq hf rfl (wanted_t hf rfl rfl rfl rfl hc42) rfl rfl (Ext.refl _) (e_move hf rfl) fun a hf => ?_
              refine pi_gq hf rfl (wanted_t hf rfl rfl rfl rfl hc42) rfl rfl (Ext.refl _) (e_nil hf rfl) fun a hf => ?_
              refine pi_gq hf rfl (wanted_t hf rfl rfl rfl rfl hc42) rfl rfl (Ext.refl _) (e_field hf rfl Tryz.underlying41 rfl Tryz.sizeOf39 (o' := o3 + 0) rfl) fun a hf => ?_
              refine pi_gq hf rfl (wanted_t hf rfl rfl rfl rfl hc42) rfl rfl (Ext.refl _) (e_load1 hf rfl Tryz.isAgg39 (hM.litCell (k := 3) (j := 0) rfl rfl rfl)) fun a hf => ?_
              refine pi_gq hf rfl (wanted_t hf rfl rfl rfl rfl hc42) rfl rfl (Ext.refl _) (e_move hf rfl) fun a hf => ?_
              obtain ⟨z52, hz53, h24⟩ := bind_some h24
              refine pi_gq hf rfl (wanted_t hf rfl rfl rfl rfl hc42) rfl rfl (Ext.refl _) (e_sub hf rfl rfl hz53) fun a hf => ?_
              obtain ⟨e54, hz55, h24⟩ := bind_some h24
              obtain ⟨b59, o60, _, hA61, h56, h57, hr58, hM⟩ := hM.elem (hM.dat (k := 2) rfl) (n := 1) rfl hz55
              obtain ⟨rfl, hv62⟩ := hr58
              refine pi_gq hf rfl (wanted_t hf rfl rfl rfl rfl hc42) rfl rfl (Ext.refl _) (e_indexAddr (A := A16) (b := b59) (o := o60) (xs := l1.Words) (i := z52) hf hA61 rfl rfl Tryz.underlying39 Tryz.sizeOf9 h56 h57) fun a hf => ?_
              refine pi_gq hf rfl (wanted_t hf rfl rfl rfl rfl hc42) rfl rfl (Ext.refl _) (e_load1 hf rfl Tryz.isAgg9 (hM.litCell (k := 0) (j := 0) rfl rfl rfl)) fun a hf => ?_
              refine pi_gq hf rfl (wanted_t hf rfl rfl rfl rfl hc42) rfl rfl (Ext.refl _) (e_leS hf (x := e43) (y := e54) rfl rfl) fun a hf => ?_
              refine pi_gq hf rfl (wanted_t hf rfl rfl rfl rfl hc40) rfl rfl (Ext.refl _) (e_pick_t hf rfl hc42 rfl) fun a hf => ?_
              refine pi_q hf rfl rfl rfl rfl (Ext.refl _) (e_pick_f hf rfl hc40 rfl) fun a hf => ?_
              refine pi_nil ?_
              obtain rfl := some_inj h24
              refine then_n ?_
              exact ⟨(ltS e43 e54 || e43 == e54), rfl, hf.keep ⟨rfl, rfl, rfl, trivial⟩, hM.pick [3, 4, 5] rfl⟩
            · refine pi_gs hf rfl (wanted_f hf rfl rfl rfl rfl hc42) rfl rfl (Ext.refl _) fun a hf => ?_
              refine pi_gs hf rfl (wanted_f hf rfl rfl rfl rfl hc42) rfl rfl (Ext.refl _) fun a hf => ?_
              refine pi_gs hf rfl (wanted_f hf rfl rfl rfl rfl hc42) rfl rfl (Ext.refl _) fun a hf => ?_
              refine pi_gs hf rfl (wanted_f hf rfl rfl rfl rfl hc42) rfl rfl (Ext.refl _) fun a hf => ?_
              refine pi_gs hf rfl (wanted_f hf rfl rfl rfl rfl hc42) rfl rfl (Ext.refl _) fun a hf => ?_
              refine pi_gs hf rfl (wanted_f hf rfl rfl rfl rfl hc42) rfl rfl (Ext.refl _) fun a hf => ?_
              refine pi_gs hf rfl (wanted_f hf rfl rfl rfl rfl hc42) rfl rfl (Ext.refl _) fun a hf => ?_
              refine pi_gs hf rfl (wanted_f hf rfl rfl rfl rfl hc42) rfl rfl (Ext.refl _) fun a hf => ?_
              refine pi_gs hf rfl (wanted_f hf rfl rfl rfl rfl hc42) rfl rfl (Ext.refl _) fun a hf => ?_
              refine pi_gs hf rfl (wanted_f hf rfl rfl rfl rfl hc42) rfl rfl (Ext.refl _) fun a hf => ?_
              refine pi_gs hf rfl (wanted_f hf rfl rfl rfl rfl hc42) rfl rfl (Ext.refl _) fun a hf => ?_
              refine pi_gs hf rfl (wanted_f hf rfl rfl rfl rfl hc42) rfl rfl (Ext.refl _) fun a hf => ?_
              refine pi_gs hf rfl (wanted_f hf rfl rfl rfl rfl hc42) rfl rfl (Ext.refl _) fun a hf => ?_
              refine pi_gs hf rfl (wanted_f hf rfl rfl rfl rfl hc42) rfl rfl (Ext.refl _) fun a hf => ?_
              refine pi_gs hf rfl (wanted_f hf rfl rfl rfl rfl hc42) rfl rfl (Ext.refl _) fun a hf => ?_
              refine pi_gs hf rfl (wanted_f hf rfl rfl rfl rfl hc42) rfl rfl (Ext.refl _) fun a hf => ?_
              refine pi_gq hf rfl (wanted_t hf rfl rfl rfl rfl hc40) rfl rfl (Ext.refl _) (e_pick_f hf rfl hc42 rfl) fun a hf => ?_
              refine pi_q hf rfl rfl rfl rfl (Ext.refl _) (e_pick_f hf rfl hc40 rfl) fun a hf => ?_
              refine pi_nil ?_
              obtain rfl := some_inj h24
              refine then_n ?_
              exact ⟨false, rfl, hf.keep ⟨rfl, rfl, rfl, trivial⟩, hM.pick [1, 2, 3] rfl⟩
        · rintro a w65 ⟨t21, rfl, hf, hM⟩
          try dsimp only at h13
          rcases cond_some h13 with ⟨hc66, h13⟩ | ⟨hc66, h13⟩
          · refine cond_t hf rfl hc66 ?_
            refine wp_seq ?_
            refine region_pl ?_
            refine q_ hf rfl rfl rfl (e_assign hf rfl) fun a hf => ?_
            refine pl_nil ?_
            refine then_n ?_
            refine wp_ret ?_
            refine blk_r ?_
            refine then_r ?_
            obtain rfl := some_inj h13
            obtain rfl := hd14 _ rfl
            try dsimp only at h6
            refine then_r ?_
            refine blk_r ?_
            obtain rfl := some_inj h6
            try dsimp only at h
            refine then_r ?_
            obtain rfl := some_inj h
            exact leave1 hf rfl rfl ⟨rfl, hM.fin⟩
          · refine cond_f hf rfl hc66 ?_
            refine wp_skip ?_
            refine blk_n ?_
            refine then_n ?_
            refine region_pl ?_
            refine q_ hf rfl rfl rfl (e_move hf rfl) fun a hf => ?_
            obtain ⟨z67, hz68, h13⟩ := bind_some h13
            refine q_ hf rfl rfl rfl (e_add hf rfl rfl hz68) fun a hf => ?_
            refine q_ hf rfl rfl rfl (e_assign hf rfl) fun a hf => ?_
            refine pl_nil ?_
            obtain rfl := some_inj h13
            refine then_n ⟨_, rfl, ?_⟩
            exact ⟨z67, rfl, hf.keep ⟨rfl, rfl, trivial⟩, hM.pick [2] rfl, (chk_R hz68)⟩
      · refine cond_f hf rfl hc20 ?_
        refine wp_exit ?_
        refine then_x ?_
        obtain rfl := some_inj h13
        obtain rfl := hd14 _ rfl
        try dsimp only at h6
        refine then_x ?_
        refine exit_hit ?_
        obtain rfl := some_inj h6
        refine then_n ?_
        exact ⟨rfl, hf.keep ⟨rfl, trivial⟩, hM.pick [2] rfl⟩
  · rintro a w75 ⟨rfl, hf, hM⟩
    try dsimp only at h
    refine wp_seq ?_
    refine region_pl ?_
    refine q_ hf rfl rfl rfl (e_move hf rfl) fun a hf => ?_
    refine q_ hf rfl rfl rfl (e_nil hf rfl) fun a hf => ?_
    obtain ⟨_, hr76, hM⟩ := hM.deref (hM.dat (k := 0) rfl)
    obtain ⟨A77, c78, rfl, hv79⟩ := LexiconRep_open hr76
    have hM := hM.add (y := .dat (sliceRep strRep) l1.Words [vL A77 l1.Words c78]) hv79
    refine q_ hf rfl rfl rfl (e_field hf rfl Tryz.underlying41 rfl Tryz.sizeOf39 (o' := o3 + 0) rfl) fun a hf => ?_
    refine q_ hf rfl rfl rfl (e_load1 hf rfl Tryz.isAgg39 (hM.litCell (k := 1) (j := 0) rfl rfl rfl)) fun a hf => ?_
    have hl80 := slice_len (hM.dat (k := 0) rfl)
    refine q_ hf rfl rfl rfl (e_lenL hf (x := l1.Words) rfl Tryz.underlying39) fun a hf => ?_
    refine q_ hf rfl rfl rfl (e_le hf (x := (l1.Words.length : Int)) (y := 200) rfl rfl) fun a hf => ?_
    refine q_ hf rfl rfl rfl (e_assign hf rfl) fun a hf => ?_
    refine pl_nil ?_
    refine then_n ?_
    refine wp_ret ?_
    obtain rfl := some_inj h
    exact leave1 hf rfl rfl ⟨rfl, hM.fin⟩

set_option maxRecDepth 100000 in
set_option maxHeartbeats 4000000 in
theorem r_spec_l25Words (C : Cx) (g1 : Grid) (b2 : Nat) (o3 : Nat) (hp4 : (ptrRep GridRep).R C.w0 C.S0 g1 [vP b2 o3]) (words5 : (List Str)) (A6 : Option Addr) (c7 : Nat) (hp8 : (sliceRep strRep).R C.w0 C.S0 words5 [vL A6 words5 c7]) (s9 : Slot) (b10 : Nat) (o11 : Nat) (hp12 : (ptrRep SlotRep).R C.w0 C.S0 s9 [vP b10 o11]) (r : (List Str)) (h : m_spec_l25Words g1 words5 s9 = some r) :
    Calls Tryz.prog 51 #[vP b2 (o3), vL A6 (words5) c7, vP b10 (o11)] C.w0 fun e w => ∃ (A_1 : Option Addr), ∃ (c_1 : Nat), e = .returned (vL A_1 (r) c_1) ∧ Mem C w [.row strRep A_1 c_1 9 r true] [] := by
  have hM := Mem.begin C [.dat (ptrRep SlotRep) s9 [vP b10 o11], .dat (sliceRep strRep) words5 [vL A6 words5 c7], .dat (ptrRep GridRep) g1 [vP b2 o3]] ⟨hp12, hp8, hp4, trivial⟩
  refine enter Tryz.func51 rfl Tryz.ntmps51 rfl fun a hf => ?_
  unfold m_spec_l25Words at h
  refine wp_seq ?_
  refine region_pl ?_
  refine q_ hf rfl rfl rfl (e_assign hf rfl) fun a hf => ?_
  refine pl_nil ?_
  refine then_n ?_
  refine wp_seq ?_
  refine region_pl ?_
  refine q_ hf rfl rfl rfl (e_move hf rfl) fun a hf => ?_
  refine q_ hf rfl rfl rfl (e_move hf rfl) fun a hf => ?_
  obtain ⟨y13, hz14, h⟩ := bind_some h
  refine pl_l hf rfl rfl rfl (w_call hf Tryz.call29 rfl (r_spec_l25Pattern ⟨_, Sh C _ _, none_, hM.sh_lt, none_not, C.G, hM.g_lt, g_none, hM.tabs⟩ g1 _ _ (hM.dat (k := 2) rfl) s9 _ _ (hM.dat (k := 0) rfl) _ hz14) ?_)
  rintro _ w16 ⟨rfl, hM2, hv15⟩
  obtain ⟨hM, hx17, hup18⟩ := hM.back hM2
  dsimp only [List.cons_append, List.nil_append] at hM hup18
  clear hM2
  refine ⟨_, rfl, fun a hf => ?_⟩
  refine q_ hf rfl rfl rfl (e_assign hf rfl) fun a hf => ?_
  refine pl_nil ?_
  refine then_n ?_
  refine wp_seq ?_
  refine region_pl ?_
  refine pl_l hf rfl rfl rfl (w_slice0 (K := strRep) hM Tryz.underlying39 ei_9 fun b19 w20 hx21 hM a hf => ?_)
  refine q_ hf rfl rfl rfl (e_assign hf rfl) fun a hf => ?_
  refine pl_nil ?_
  refine then_n ?_
  obtain ⟨x25, h26, h⟩ := bind_some h
  refine seq_join (fun a w => ∃ (xs22 : (List Str)) (A23 : Option Addr) (c24 : Nat), xs22 = x25 ∧ Has 34 a [(8, vL A23 (xs22) c24)] ∧ Mem C w [.row strRep A23 c24 9 xs22 true] [.dat (ptrRep SlotRep) s9 [vP b10 o11], .dat (sliceRep strRep) words5 [vL A6 words5 c7], .dat (ptrRep GridRep) g1 [vP b2 o3]]) ?_ ?_
  · refine wp_seq ?_
    refine region_pl ?_
    refine q_ hf rfl rfl rfl (e_assign hf rfl) fun a hf => ?_
    refine pl_nil ?_
    refine then_n ?_
    refine wp_block ?_
    obtain ⟨x36, h37, h26⟩ := bind_some h26
    refine wp_loopM h37 (fun s a w => ∃ (xs27 : (List Str)) (n30 : Int) (A28 : Option Addr) (c29 : Nat), (xs27, n30) = s ∧ Has 34 a [(1, vL A6 (words5) c7), (7, vS (y13)), (8, vL A28 (xs27) c29), (9, vI (n30))] ∧ Mem C w [.row strRep A28 c29 9 xs27 true] [.dat (ptrRep SlotRep) s9 [vP b10 o11], .dat (sliceRep strRep) words5 [vL A6 words5 c7], .dat (ptrRep GridRep) g1 [vP b2 o3]] ∧ R64 n30) ?_ ?_
    · exact ⟨([] : (List Str)), 0, (some ⟨b19, 0, none⟩), 0, rfl, hf.keep ⟨rfl, rfl, rfl, rfl, trivial⟩, hM.pick [0, 1, 2] rfl, (R64_lit rfl)⟩
    · rintro s o38 a w32 ⟨xs27, n30, A28, c29, rfl, hf, hM, hv31⟩ h39 hd40
      replace h39 : m_spec_l25Words_l1 words5 y13 xs27 n30 = some o38 := h39
      unfold m_spec_l25Words_l1 at h39
      refine wp_seq ?_
      refine wp_seq ?_
      refine region_pl ?_
      refine q_ hf rfl rfl rfl (e_move hf rfl) fun a hf => ?_
      refine q_ hf rfl rfl rfl (e_move hf rfl) fun a hf => ?_
      have hl41 := slice_len (hM.dat (k := 1) rfl)
      refine q_ hf rfl rfl rfl (e_lenL hf (x := words5) rfl Tryz.underlying39) fun a hf => ?_
      refine q_ hf rfl rfl rfl (e_lt hf (x := n30) (y := (words5.length : Int)) rfl rfl) fun a hf => ?_
      refine pl_nil ?_
      refine then_n ?_
      rcases cond_some h39 with ⟨hc42, h39⟩ | ⟨hc42, h39⟩
      · refine cond_t hf rfl hc42 ?_
        refine wp_skip ?_
        refine then_n ?_
        obtain ⟨x46, h47, h39⟩ := bind_some h39
        refine seq_join (fun a w => ∃ (xs43 : (List Str)) (A44 : Option Addr) (c45 : Nat), xs43 = x46 ∧ Has 34 a [(1, vL A6 (words5) c7), (7, vS (y13)), (8, vL A44 (xs43) c45), (9, vI (n30))] ∧ Mem C w [.row strRep A44 c45 9 xs43 true] [.dat (ptrRep SlotRep) s9 [vP b10 o11], .dat (sliceRep strRep) words5 [vL A6 words5 c7], .dat (ptrRep GridRep) g1 [vP b2 o3]]) ?_ ?_
        · refine wp_block ?_
          refine wp_seq ?_
          refine region_pl ?_
          refine q_ hf rfl rfl rfl (e_move hf rfl) fun a hf => ?_
          refine q_ hf rfl rfl rfl (e_move hf rfl) fun a hf => ?_
          refine q_ hf rfl rfl rfl (e_move hf rfl) fun a hf => ?_
          obtain ⟨e48, hz49, h47⟩ := bind_some h47
          obtain ⟨b53, o54, _, hA55, h50, h51, hr52, hM⟩ := hM.elem (hM.dat (k := 1) rfl) (n := 1) rfl hz49
          obtain ⟨rfl, hv56⟩ := hr52
          refine q_ hf rfl rfl rfl (e_indexAddr (A := A6) (b := b53) (o := o54) (xs := words5) (i := n30) hf hA55 rfl rfl Tryz.underlying39 Tryz.sizeOf9 h50 h51) fun a hf => ?_
          refine q_ hf rfl rfl rfl (e_load1 hf rfl Tryz.isAgg9 (hM.litCell (k := 0) (j := 0) rfl rfl rfl)) fun a hf => ?_
          obtain ⟨y57, hz58, h47⟩ := bind_some h47
          refine pl_l hf rfl rfl rfl (w_call hf Tryz.call37 rfl (r_spec_l25Fits ⟨_, Sh C _ _, none_, hM.sh_lt, none_not, C.G, hM.g_lt, g_none, hM.tabs⟩ y13 hv15 e48 hv56 _ hz58) ?_)
          rintro _ w59 ⟨rfl, hM2⟩
          obtain ⟨hM, hx60, hup61⟩ := hM.back hM2
          dsimp only [List.cons_append, List.nil_append] at hM hup61
          clear hM2
          refine ⟨_, rfl, fun a hf => ?_⟩
          refine pl_nil ?_
          refine then_n ?_
          rcases cond_some h47 with ⟨hc62, h47⟩ | ⟨hc62, h47⟩
          · refine cond_t hf rfl hc62 ?_
            refine region_pl ?_
            refine q_ hf rfl rfl rfl (e_move hf rfl) fun a hf => ?_
            refine q_ hf rfl rfl rfl (e_move hf rfl) fun a hf => ?_
            refine q_ hf rfl rfl rfl (e_move hf rfl) fun a hf => ?_
            obtain ⟨e63, hz64, h47⟩ := bind_some h47
            obtain ⟨b68, o69, _, hA70, h65, h66, hr67, hM⟩ := hM.elem (hM.dat (k := 2) rfl) (n := 1) rfl hz64
            obtain ⟨rfl, hv71⟩ := hr67
            refine q_ hf rfl rfl rfl (e_indexAddr (A := A6) (b := b68) (o := o69) (xs := words5) (i := n30) hf hA70 rfl rfl Tryz.underlying39 Tryz.sizeOf9 h65 h66) fun a hf => ?_
            refine q_ hf rfl rfl rfl (e_load1 hf rfl Tryz.isAgg9 (hM.litCell (k := 0) (j := 0) rfl rfl rfl)) fun a hf => ?_
            refine pl_l hf rfl rfl rfl (w_slice hf hM (K := strRep) (xs := ([e63] : (List Str))) (os := [.tmp 30]) Tryz.underlying39 ei_9 rfl rfl rfl rfl rfl ⟨⟨[vS (e63)], rfl, ⟨rfl, hv71⟩⟩, trivial⟩ rfl fun b72 w73 hx74 hM a hf => ?_)
            obtain ⟨xs75, hz76, h47⟩ := bind_some h47
            refine pl_l hf rfl rfl rfl (w_append hf hM Tryz.underlying39 ei_9 rfl rfl rfl (k := 1) rfl (hM.srcRow (k := 0) rfl) hz76 fun A77 c78 w79 hM a hf => ?_)
            dsimp only [List.set] at hM
            refine q_ hf rfl rfl rfl (e_assign hf rfl) fun a hf => ?_
            refine pl_nil ?_
            refine blk_n ?_
            obtain rfl := some_inj h47
            refine then_n ?_
            exact ⟨xs75, A77, c78, rfl, hf.keep ⟨rfl, rfl, rfl, rfl, trivial⟩, (hM.drop (.cons _ (.cons_cons _ .slnil))).pick [2, 3, 4] rfl⟩
          · refine cond_f hf rfl hc62 ?_
            refine wp_skip ?_
            refine blk_n ?_
            obtain rfl := some_inj h47
            refine then_n ?_
            exact ⟨xs27, A28, c29, rfl, hf.keep ⟨rfl, rfl, rfl, rfl, trivial⟩, hM.pick [1, 2, 3] rfl⟩
        · rintro a w84 ⟨xs43, A44, c45, rfl, hf, hM⟩
          try dsimp only at h39
          refine region_pl ?_
          refine q_ hf rfl rfl rfl (e_move hf rfl) fun a hf => ?_
          obtain ⟨z85, hz86, h39⟩ := bind_some h39
          refine q_ hf rfl rfl rfl (e_add hf rfl rfl hz86) fun a hf => ?_
          refine q_ hf rfl rfl rfl (e_assign hf rfl) fun a hf => ?_
          refine pl_nil ?_
          obtain rfl := some_inj h39
          refine then_n ⟨_, rfl, ?_⟩
          exact ⟨xs43, z85, A44, c45, rfl, hf.keep ⟨rfl, rfl, rfl, rfl, trivial⟩, hM.pick [0, 1, 2] rfl, (chk_R hz86)⟩
      · refine cond_f hf rfl hc42 ?_
        refine wp_exit ?_
        refine then_x ?_
        obtain rfl := some_inj h39
        obtain rfl := hd40 _ rfl
        try dsimp only at h26
        refine then_x ?_
        refine exit_hit ?_
        obtain rfl := some_inj h26
        refine then_n ?_
        exact ⟨xs27, A28, c29, rfl, hf.keep ⟨rfl, trivial⟩, hM.pick [0, 1, 2] rfl⟩
  · rintro a w92 ⟨xs22, A23, c24, rfl, hf, hM⟩
    try dsimp only at h
    refine wp_seq ?_
    refine region_pl ?_
    refine q_ hf rfl rfl rfl (e_move hf rfl) fun a hf => ?_
    refine q_ hf rfl rfl rfl (e_assign hf rfl) fun a hf => ?_
    refine pl_nil ?_
    refine then_n ?_
    refine wp_ret ?_
    obtain rfl := some_inj h
    exact leave1 hf rfl rfl ⟨A23, c24, rfl, hM.fin⟩

set_option maxRecDepth 100000 in
set_option maxHeartbeats 4000000 in
theorem r_spec_CandidatesOf (C : Cx) (g1 : Grid) (hp2 : R64 g1.Rows) (hp3 : R64 g1.Cols) (hp4 : g1.Cells.length ≤ maxLen) (l5 : Lexicon) (A6 : Option Addr) (c7 : Nat) (hp8 : (sliceRep strRep).R C.w0 C.S0 l5.Words [vL A6 l5.Words c7]) (slot9 : Int) (hp10 : R64 slot9) (r : ((List Str) × Int)) (h : m_spec_CandidatesOf g1 l5 slot9 = some r) :
    Calls Tryz.prog 18 #[.agg #[vI (g1.Rows), vI (g1.Cols), vS (g1.Cells)], .agg #[vL A6 (l5.Words) c7], vI (slot9)] C.w0 fun e w => ∃ (A_1 : Option Addr), ∃ (c_1 : Nat), e = .returned (.tuple #[vL A_1 (r.1) c_1, vI (r.2)]) ∧ Mem C w [.row strRep A_1 c_1 9 r.1 true] [] ∧ R64 r.2 := by
  have hM := Mem.begin C [.dat (sliceRep strRep) l5.Words [vL A6 l5.Words c7]] ⟨hp8, trivial⟩
  refine enter Tryz.func18 rfl Tryz.ntmps18 rfl fun a hf => ?_
  unfold m_spec_CandidatesOf at h
  refine wp_seq ?_
  refine region_pl ?_
  refine pl_l hf rfl rfl rfl (w_box hf hM (cs := [vI (g1.Rows), vI (g1.Cols), vS (g1.Cells)]) rfl rfl fun b11 w12 hx13 hM a hf => ?_)
  refine pl_l hf rfl rfl rfl (w_box hf hM (cs := [vL A6 (l5.Words) c7]) rfl rfl fun b15 w16 hx17 hM a hf => ?_)
  refine q_ hf rfl rfl rfl (e_assign hf rfl) fun a hf => ?_
  refine q_ hf rfl rfl rfl (e_assign hf rfl) fun a hf => ?_
  refine pl_nil ?_
  refine then_n ?_
  refine wp_seq ?_
  refine wp_seq ?_
  refine region_pl ?_
  obtain ⟨y19, hz20, h⟩ := bind_some h
  refine pl_l hf rfl rfl rfl (w_call hf Tryz.call50 rfl (r_spec_l05Ok ⟨_, All C _ _, none_, hM.all_lt, none_not, C.G, hM.g_lt, g_none, hM.tabs⟩ l5 _ _ (hM.lendBox (k := 0) rfl (LexiconRep_mk (x := l5) (hM.lendDat (k := 0) rfl))) _ hz20) ?_)
  rintro _ w21 ⟨rfl, hM2⟩
  obtain ⟨hM, hx22⟩ := hM.backA hM2
  clear hM2
  refine ⟨_, rfl, fun a hf => ?_⟩
  refine q_ hf rfl rfl rfl (e_not hf rfl) fun a hf => ?_
  refine pl_nil ?_
  refine then_n ?_
  rcases cond_some h with ⟨hc24, h⟩ | ⟨hc24, h⟩
  · refine cond_t hf rfl hc24 ?_
    refine wp_seq ?_
    refine region_pl ?_
    refine q_ hf rfl rfl rfl (e_assign hf rfl) fun a hf => ?_
    refine q_ hf rfl rfl rfl (e_assign hf rfl) fun a hf => ?_
    refine pl_nil ?_
    refine then_n ?_
    refine wp_ret ?_
    refine then_r ?_
    obtain rfl := some_inj h
    have hM := hM.nilRow strRep 9
    have hM := hM.outs (own' := [.row strRep none 0 9 ([] : (List Str)) true]) 1 rfl
    exact leave2 hf rfl rfl rfl ⟨none, 0, rfl, hM.fin, (R64_lit rfl)⟩
  · refine cond_f hf rfl hc24 ?_
    refine wp_skip ?_
    refine then_n ?_
    refine wp_seq ?_
    refine region_pl ?_
    refine q_ hf rfl rfl rfl (e_move hf rfl) fun a hf => ?_
    obtain ⟨y25, hz26, h⟩ := bind_some h
    refine pl_l hf rfl rfl rfl (w_call hf Tryz.call27 rfl (r_spec_l25Code ⟨_, All C _ _, none_, hM.all_lt, none_not, C.G, hM.g_lt, g_none, hM.tabs⟩ g1 _ _ (hM.lendBox (k := 1) rfl (GridRep_mk (x := g1) hp2 hp3 hp4)) slot9 hp10 _ hz26) ?_)
    rintro _ w28 ⟨rfl, hM2, hv27⟩
    obtain ⟨hM, hx29⟩ := hM.backA hM2
    clear hM2
    refine ⟨_, rfl, fun a hf => ?_⟩
    refine q_ hf rfl rfl rfl (e_assign hf rfl) fun a hf => ?_
    refine pl_nil ?_
    refine then_n ?_
    refine wp_seq ?_
    refine wp_seq ?_
    refine region_pl ?_
    refine q_ hf rfl rfl rfl (e_move hf rfl) fun a hf => ?_
    refine q_ hf rfl rfl rfl (e_ne hf (x := y25) (y := 0) rfl rfl) fun a hf => ?_
    refine pl_nil ?_
    refine then_n ?_
    rcases cond_some h with ⟨hc31, h⟩ | ⟨hc31, h⟩
    · refine cond_t hf rfl hc31 ?_
      refine wp_seq ?_
      refine region_pl ?_
      refine q_ hf rfl rfl rfl (e_move hf rfl) fun a hf => ?_
      refine q_ hf rfl rfl rfl (e_assign hf rfl) fun a hf => ?_
      refine q_ hf rfl rfl rfl (e_assign hf rfl) fun a hf => ?_
      refine pl_nil ?_
      refine then_n ?_
      refine wp_ret ?_
      refine then_r ?_
      obtain rfl := some_inj h
      have hM := hM.nilRow strRep 9
      have hM := hM.outs (own' := [.row strRep none 0 9 ([] : (List Str)) true]) 1 rfl
      exact leave2 hf rfl rfl rfl ⟨none, 0, rfl, hM.fin, hv27⟩
    · refine cond_f hf rfl hc31 ?_
      refine wp_skip ?_
      refine then_n ?_
      refine wp_seq ?_
      refine region_pl ?_
      obtain ⟨y32, hz33, h⟩ := bind_some h
      refine pl_l hf rfl rfl rfl (w_call hf Tryz.call28 rfl (r_spec_l25Slots ⟨_, All C _ _, none_, hM.all_lt, none_not, C.G, hM.g_lt, g_none, hM.tabs⟩ g1 _ _ (hM.lendBox (k := 1) rfl (GridRep_mk (x := g1) hp2 hp3 hp4)) _ hz33) ?_)
      rintro _ w36 ⟨A34, c35, rfl, hM2⟩
      obtain ⟨hM, hx37⟩ := hM.backAF SlotRep_flat hM2
      clear hM2
      refine ⟨_, rfl, fun a hf => ?_⟩
      refine q_ hf rfl rfl rfl (e_assign hf rfl) fun a hf => ?_
      refine pl_nil ?_
      refine then_n ?_
      refine wp_seq ?_
      obtain ⟨w39, hw⟩ : ∃ x, x = w36.drew := ⟨_, rfl⟩
      refine region_pi (.q 0 (.q 1 (.q 2 (.q 3 (.q 4 (.l 5 (.q 6 (.q 7 (.nil))))))))) (Ext w39) rfl (by kernel_rfl) ?_
      have hM := hM.drew
      rw [← hw] at hM ⊢
      clear hw
      refine pi_q hf rfl rfl rfl rfl (Ext.refl _) (e_field hf rfl Tryz.underlying41 rfl Tryz.sizeOf39 (o' := 0) rfl) fun a hf => ?_
      refine pi_q hf rfl rfl rfl rfl (Ext.refl _) (e_load1 hf rfl Tryz.isAgg39 (hM.boxCell (k := 1) rfl rfl)) fun a hf => ?_
      refine pi_q hf rfl rfl rfl rfl (Ext.refl _) (e_move hf rfl) fun a hf => ?_
      refine pi_q hf rfl rfl rfl rfl (Ext.refl _) (e_move hf rfl) fun a hf => ?_
      obtain ⟨e40, hz41, h⟩ := bind_some h
      obtain ⟨b46, _, hA47, h42, h43, hr44, hcell45⟩ := hM.rowElemN (k := 0) rfl (n := 4) rfl hz41
      obtain ⟨rfl, hv48, hv49, hv50⟩ := SlotRep_open hr44
      refine pi_q hf rfl rfl rfl rfl (Ext.refl _) (e_indexAddr (A := A34) (b := b46) (o := 0) (xs := y32) (i := slot9) hf hA47 rfl rfl Tryz.underlying30 Tryz.sizeOf60 h42 h43) fun a hf => ?_
      refine pi_one ?_
      obtain ⟨y51, hz52, h⟩ := bind_some h
      refine pi_l hf rfl rfl rfl rfl (w_call hf Tryz.call51 rfl (r_spec_l25Words ⟨_, All C _ _, none_, hM.all_lt, none_not, C.G, hM.g_lt, g_none, hM.tabs⟩ g1 _ _ (hM.lendBox (k := 2) rfl (GridRep_mk (x := g1) hp2 hp3 hp4)) l5.Words _ _ (hM.lendDat (k := 0) rfl) e40 _ _ (hM.lendElem hA47 (k := 0) rfl (n := 4) rfl hz41) _ hz52) ?_)
      rintro _ w55 ⟨A53, c54, rfl, hM2⟩
      obtain ⟨hM, hx56⟩ := hM.backAF strRep_flat hM2
      clear hM2
      refine ⟨_, rfl, Ext w55, fun _ h => Ext.trans hx56 h, Ext.refl _, fun a hf => ?_⟩
      refine pi_q hf rfl rfl rfl rfl (Ext.refl _) (e_assign hf rfl) fun a hf => ?_
      refine pi_q hf rfl rfl rfl rfl (Ext.refl _) (e_assign hf rfl) fun a hf => ?_
      refine pi_nil ?_
      refine then_n ?_
      refine wp_ret ?_
      obtain rfl := some_inj h
      have hM := hM.outs (own' := [.row strRep A53 c54 9 y51 true]) 1 rfl
      exact leave2 hf rfl rfl rfl ⟨A53, c54, rfl, hM.fin, (R64_lit rfl)⟩

set_option maxRecDepth 100000 in
set_option maxHeartbeats 4000000 in
theorem r_laws_f6slots (C : Cx) (a1 : (List Slot)) (A2 : Option Addr) (c3 : Nat) (hp4 : (sliceRep SlotRep).R C.w0 C.S0 a1 [vL A2 a1 c3]) (b5 : (List Slot)) (A6 : Option Addr) (c7 : Nat) (hp8 : (sliceRep SlotRep).R C.w0 C.S0 b5 [vL A6 b5 c7]) (r : Bool) (h : m_laws_f6slots a1 b5 = some r) :
    Calls Tryz.prog 19 #[vL A2 (a1) c3, vL A6 (b5) c7] C.w0 fun e w => e = .returned (.bool (r)) ∧ Mem C w [] [] := by
  have hM := Mem.begin C [.dat (sliceRep SlotRep) b5 [vL A6 b5 c7], .dat (sliceRep SlotRep) a1 [vL A2 a1 c3]] ⟨hp8, hp4, trivial⟩
  refine enter Tryz.func19 rfl Tryz.ntmps19 rfl fun a hf => ?_
  unfold m_laws_f6slots at h
  refine wp_seq ?_
  refine region_pl ?_
  refine q_ hf rfl rfl rfl (e_assign hf rfl) fun a hf => ?_
  refine pl_nil ?_
  refine then_n ?_
  refine wp_seq ?_
  refine wp_seq ?_
  refine region_pl ?_
  refine q_ hf rfl rfl rfl (e_move hf rfl) fun a hf => ?_
  have hl9 := slice_len (hM.dat (k := 1) rfl)
  refine q_ hf rfl rfl rfl (e_lenL hf (x := a1) rfl Tryz.underlying30) fun a hf => ?_
  refine q_ hf rfl rfl rfl (e_move hf rfl) fun a hf => ?_
  have hl10 := slice_len (hM.dat (k := 0) rfl)
  refine q_ hf rfl rfl rfl (e_lenL hf (x := b5) rfl Tryz.underlying30) fun a hf => ?_
  refine q_ hf rfl rfl rfl (e_ne hf (x := (a1.length : Int)) (y := (b5.length : Int)) rfl rfl) fun a hf => ?_
  refine pl_nil ?_
  refine then_n ?_
  rcases cond_some h with ⟨hc11, h⟩ | ⟨hc11, h⟩
  · refine cond_t hf rfl hc11 ?_
    refine wp_seq ?_
    refine region_pl ?_
    refine q_ hf rfl rfl rfl (e_assign hf rfl) fun a hf => ?_
    refine pl_nil ?_
    refine then_n ?_
    refine wp_ret ?_
    refine then_r ?_
    obtain rfl := some_inj h
    exact leave1 hf rfl rfl ⟨rfl, hM.fin⟩
  · refine cond_f hf rfl hc11 ?_
    refine wp_skip ?_
    refine then_n ?_
    obtain ⟨x12, h13, h⟩ := bind_some h
    refine seq_join (fun a w => (.inl ()) = x12 ∧ Has 26 a [] ∧ Mem C w [] [.dat (sliceRep SlotRep) b5 [vL A6 b5 c7], .dat (sliceRep SlotRep) a1 [vL A2 a1 c3]]) ?_ ?_
    · refine wp_seq ?_
      refine region_pl ?_
      refine q_ hf rfl rfl rfl (e_assign hf rfl) fun a hf => ?_
      refine pl_nil ?_
      refine then_n ?_
      refine wp_block ?_
      obtain ⟨x17, h18, h13⟩ := bind_some h13
      refine wp_loopM h18 (fun s a w => ∃ (n14 : Int), n14 = s ∧ Has 26 a [(0, vL A2 (a1) c3), (1, vL A6 (b5) c7), (5, vI (n14))] ∧ Mem C w [] [.dat (sliceRep SlotRep) b5 [vL A6 b5 c7], .dat (sliceRep SlotRep) a1 [vL A2 a1 c3]] ∧ R64 n14) ?_ ?_
      · exact ⟨0, rfl, hf.keep ⟨rfl, rfl, rfl, trivial⟩, hM.pick [0, 1] rfl, (R64_lit rfl)⟩
      · rintro s o19 a w16 ⟨n14, rfl, hf, hM, hv15⟩ h20 hd21
        replace h20 : m_laws_f6slots_l1 a1 b5 n14 = some o19 := h20
        unfold m_laws_f6slots_l1 at h20
        refine wp_seq ?_
        refine wp_seq ?_
        refine region_pl ?_
        refine q_ hf rfl rfl rfl (e_move hf rfl) fun a hf => ?_
        refine q_ hf rfl rfl rfl (e_move hf rfl) fun a hf => ?_
        have hl22 := slice_len (hM.dat (k := 1) rfl)
        refine q_ hf rfl rfl rfl (e_lenL hf (x := a1) rfl Tryz.underlying30) fun a hf => ?_
        refine q_ hf rfl rfl rfl (e_lt hf (x := n14) (y := (a1.length : Int)) rfl rfl) fun a hf => ?_
        refine pl_nil ?_
        refine then_n ?_
        rcases cond_some h20 with ⟨hc23, h20⟩ | ⟨hc23, h20⟩
        · refine cond_t hf rfl hc23 ?_
          refine wp_skip ?_
          refine then_n ?_
          refine wp_seq ?_
          refine wp_block ?_
          refine wp_seq ?_
          obtain ⟨w24, hw⟩ : ∃ x, x = w16.drew := ⟨_, rfl⟩
          refine region_pi (.q 0 (.q 1 (.q 2 (.q 3 (.q 4 (.q 5 (.q 6 (.q 7 (.q 8 (.nil)))))))))) (Ext w24) rfl (by kernel_rfl) ?_
          have hM := hM.drew
          rw [← hw] at hM ⊢
          clear hw
          refine pi_q hf rfl rfl rfl rfl (Ext.refl _) (e_move hf rfl) fun a hf => ?_
          refine pi_q hf rfl rfl rfl rfl (Ext.refl _) (e_move hf rfl) fun a hf => ?_
          obtain ⟨e25, hz26, h20⟩ := bind_some h20
          obtain ⟨b30, o31, _, hA32, h27, h28, hr29, hM⟩ := hM.elem (hM.dat (k := 1) rfl) (n := 4) rfl hz26
          obtain ⟨rfl, hv33, hv34, hv35⟩ := SlotRep_open hr29
          refine pi_q hf rfl rfl rfl rfl (Ext.refl _) (e_indexAddr (A := A2) (b := b30) (o := o31) (xs := a1) (i := n14) hf hA32 rfl rfl Tryz.underlying30 Tryz.sizeOf60 h27 h28) fun a hf => ?_
          refine pi_q hf rfl rfl rfl rfl (Ext.refl _) (e_loadA hf (us := [vI (e25.Row), vI (e25.Col), .bool (e25.Down), vI (e25.Length)]) rfl ⟨Tryz.isAgg60, Tryz.sizeOf60⟩ rfl (hM.litSub (k := 0) (d := 0) (us := [vI (e25.Row), vI (e25.Col), .bool (e25.Down), vI (e25.Length)]) rfl rfl rfl)) fun a hf => ?_
          refine pi_q hf rfl rfl rfl rfl (Ext.refl _) (e_move hf rfl) fun a hf => ?_
          refine pi_q hf rfl rfl rfl rfl (Ext.refl _) (e_move hf rfl) fun a hf => ?_
          obtain ⟨e36, hz37, h20⟩ := bind_some h20
          obtain ⟨b41, o42, _, hA43, h38, h39, hr40, hM⟩ := hM.elem (hM.dat (k := 1) rfl) (n := 4) rfl hz37
          obtain ⟨rfl, hv44, hv45, hv46⟩ := SlotRep_open hr40
          refine pi_q hf rfl rfl rfl rfl (Ext.refl _) (e_indexAddr (A := A6) (b := b41) (o := o42) (xs := b5) (i := n14) hf hA43 rfl rfl Tryz.underlying30 Tryz.sizeOf60 h38 h39) fun a hf => ?_
          refine pi_q hf rfl rfl rfl rfl (Ext.refl _) (e_loadA hf (us := [vI (e36.Row), vI (e36.Col), .bool (e36.Down), vI (e36.Length)]) rfl ⟨Tryz.isAgg60, Tryz.sizeOf60⟩ rfl (hM.litSub (k := 0) (d := 0) (us := [vI (e36.Row), vI (e36.Col), .bool (e36.Down), vI (e36.Length)]) rfl rfl rfl)) fun a hf => ?_
          refine pi_q hf rfl rfl rfl rfl (Ext.refl _) (Slot_neq hf (x := e25) (y := e36) rfl rfl) fun a hf => ?_
          refine pi_nil ?_
          refine then_n ?_
          rcases cond_some h20 with ⟨hc47, h20⟩ | ⟨hc47, h20⟩
          · refine cond_t hf rfl hc47 ?_
            refine wp_seq ?_
            refine region_pl ?_
            refine q_ hf rfl rfl rfl (e_assign hf rfl) fun a hf => ?_
            refine pl_nil ?_
            refine then_n ?_
            refine wp_ret ?_
            refine blk_r ?_
            refine then_r ?_
            obtain rfl := some_inj h20
            obtain rfl := hd21 _ rfl
            try dsimp only at h13
            refine then_r ?_
            refine blk_r ?_
            obtain rfl := some_inj h13
            try dsimp only at h
            refine then_r ?_
            obtain rfl := some_inj h
            exact leave1 hf rfl rfl ⟨rfl, hM.fin⟩
          · refine cond_f hf rfl hc47 ?_
            refine wp_skip ?_
            refine blk_n ?_
            refine then_n ?_
            refine region_pl ?_
            refine q_ hf rfl rfl rfl (e_move hf rfl) fun a hf => ?_
            obtain ⟨z48, hz49, h20⟩ := bind_some h20
            refine q_ hf rfl rfl rfl (e_add hf rfl rfl hz49) fun a hf => ?_
            refine q_ hf rfl rfl rfl (e_assign hf rfl) fun a hf => ?_
            refine pl_nil ?_
            obtain rfl := some_inj h20
            refine then_n ⟨_, rfl, ?_⟩
            exact ⟨z48, rfl, hf.keep ⟨rfl, rfl, rfl, trivial⟩, hM.pick [2, 3] rfl, (chk_R hz49)⟩
        · refine cond_f hf rfl hc23 ?_
          refine wp_exit ?_
          refine then_x ?_
          obtain rfl := some_inj h20
          obtain rfl := hd21 _ rfl
          try dsimp only at h13
          refine then_x ?_
          refine exit_hit ?_
          obtain rfl := some_inj h13
          refine then_n ?_
          exact ⟨rfl, hf.keep trivial, hM.pick [0, 1] rfl⟩
    · rintro a w56 ⟨rfl, hf, hM⟩
      try dsimp only at h
      refine wp_seq ?_
      refine region_pl ?_
      refine q_ hf rfl rfl rfl (e_assign hf rfl) fun a hf => ?_
      refine pl_nil ?_
      refine then_n ?_
      refine wp_ret ?_
      obtain rfl := some_inj h
      exact leave1 hf rfl rfl ⟨rfl, hM.fin⟩

set_option maxRecDepth 100000 in
set_option maxHeartbeats 4000000 in
theorem r_spec_GridText (C : Cx) (g1 : Grid) (hp2 : R64 g1.Rows) (hp3 : R64 g1.Cols) (hp4 : g1.Cells.length ≤ maxLen) (r : Str) (h : m_spec_GridText g1 = some r) :
    Calls Tryz.prog 20 #[.agg #[vI (g1.Rows), vI (g1.Cols), vS (g1.Cells)]] C.w0 fun e w => e = .returned (vS (r)) ∧ Mem C w [] [] ∧ r.length ≤ maxLen := by
  have hM := Mem.begin C [] trivial
  refine enter Tryz.func20 rfl Tryz.ntmps20 rfl fun a hf => ?_
  unfold m_spec_GridText at h
  refine wp_seq ?_
  refine region_pl ?_
  refine pl_l hf rfl rfl rfl (w_box hf hM (cs := [vI (g1.Rows), vI (g1.Cols), vS (g1.Cells)]) rfl rfl fun b5 w6 hx7 hM a hf => ?_)
  refine q_ hf rfl rfl rfl (e_assign hf rfl) fun a hf => ?_
  refine pl_nil ?_
  refine then_n ?_
  refine wp_seq ?_
  refine wp_seq ?_
  refine region_pl ?_
  obtain ⟨y9, hz10, h⟩ := bind_some h
  refine pl_l hf rfl rfl rfl (w_call hf Tryz.call40 rfl (r_spec_l25Ok ⟨_, All C _ _, none_, hM.all_lt, none_not, C.G, hM.g_lt, g_none, hM.tabs⟩ g1 _ _ (hM.lendBox (k := 0) rfl (GridRep_mk (x := g1) hp2 hp3 hp4)) _ hz10) ?_)
  rintro _ w11 ⟨rfl, hM2⟩
  obtain ⟨hM, hx12⟩ := hM.backA hM2
  clear hM2
  refine ⟨_, rfl, fun a hf => ?_⟩
  refine q_ hf rfl rfl rfl (e_not hf rfl) fun a hf => ?_
  refine pl_nil ?_
  refine then_n ?_
  rcases cond_some h with ⟨hc14, h⟩ | ⟨hc14, h⟩
  · refine cond_t hf rfl hc14 ?_
    refine wp_seq ?_
    refine region_pl ?_
    refine q_ hf rfl rfl rfl (e_assign hf rfl) fun a hf => ?_
    refine pl_nil ?_
    refine then_n ?_
    refine wp_ret ?_
    refine then_r ?_
    obtain rfl := some_inj h
    have hM := hM.outs (own' := []) 0 rfl
    exact leave1 hf rfl rfl ⟨rfl, hM.fin, (lit_len rfl)⟩
  · refine cond_f hf rfl hc14 ?_
    refine wp_skip ?_
    refine then_n ?_
    refine wp_seq ?_
    refine region_pl ?_
    obtain ⟨y15, hz16, h⟩ := bind_some h
    refine pl_l hf rfl rfl rfl (w_call hf Tryz.call44 rfl (r_spec_l25Text ⟨_, All C _ _, none_, hM.all_lt, none_not, C.G, hM.g_lt, g_none, hM.tabs⟩ g1 _ _ (hM.lendBox (k := 0) rfl (GridRep_mk (x := g1) hp2 hp3 hp4)) _ hz16) ?_)
    rintro _ w18 ⟨rfl, hM2, hv17⟩
    obtain ⟨hM, hx19⟩ := hM.backA hM2
    clear hM2
    refine ⟨_, rfl, fun a hf => ?_⟩
    refine q_ hf rfl rfl rfl (e_assign hf rfl) fun a hf => ?_
    refine pl_nil ?_
    refine then_n ?_
    refine wp_ret ?_
    obtain rfl := some_inj h
    have hM := hM.outs (own' := []) 0 rfl
    exact leave1 hf rfl rfl ⟨rfl, hM.fin, hv17⟩

set_option maxRecDepth 100000 in
set_option maxHeartbeats 4000000 in
theorem r_laws_f6same (C : Cx) (a1 : (List Str)) (A2 : Option Addr) (c3 : Nat) (hp4 : (sliceRep strRep).R C.w0 C.S0 a1 [vL A2 a1 c3]) (b5 : (List Str)) (A6 : Option Addr) (c7 : Nat) (hp8 : (sliceRep strRep).R C.w0 C.S0 b5 [vL A6 b5 c7]) (r : Bool) (h : m_laws_f6same a1 b5 = some r) :
    Calls Tryz.prog 21 #[vL A2 (a1) c3, vL A6 (b5) c7] C.w0 fun e w => e = .returned (.bool (r)) ∧ Mem C w [] [] := by
  have hM := Mem.begin C [.dat (sliceRep strRep) b5 [vL A6 b5 c7], .dat (sliceRep strRep) a1 [vL A2 a1 c3]] ⟨hp8, hp4, trivial⟩
  refine enter Tryz.func21 rfl Tryz.ntmps21 rfl fun a hf => ?_
  unfold m_laws_f6same at h
  refine wp_seq ?_
  refine region_pl ?_
  refine q_ hf rfl rfl rfl (e_assign hf rfl) fun a hf => ?_
  refine pl_nil ?_
  refine then_n ?_
  refine wp_seq ?_
  refine wp_seq ?_
  refine region_pl ?_
  refine q_ hf rfl rfl rfl (e_move hf rfl) fun a hf => ?_
  have hl9 := slice_len (hM.dat (k := 1) rfl)
  refine q_ hf rfl rfl rfl (e_lenL hf (x := a1) rfl Tryz.underlying39) fun a hf => ?_
  refine q_ hf rfl rfl rfl (e_move hf rfl) fun a hf => ?_
  have hl10 := slice_len (hM.dat (k := 0) rfl)
  refine q_ hf rfl rfl rfl (e_lenL hf (x := b5) rfl Tryz.underlying39) fun a hf => ?_
  refine q_ hf rfl rfl rfl (e_ne hf (x := (a1.length : Int)) (y := (b5.length : Int)) rfl rfl) fun a hf => ?_
  refine pl_nil ?_
  refine then_n ?_
  rcases cond_some h with ⟨hc11, h⟩ | ⟨hc11, h⟩
  · refine cond_t hf rfl hc11 ?_
    refine wp_seq ?_
    refine region_pl ?_
    refine q_ hf rfl rfl rfl (e_assign hf rfl) fun a hf => ?_
    refine pl_nil ?_
    refine then_n ?_
    refine wp_ret ?_
    refine then_r ?_
    obtain rfl := some_inj h
    exact leave1 hf rfl rfl ⟨rfl, hM.fin⟩
  · refine cond_f hf rfl hc11 ?_
    refine wp_skip ?_
    refine then_n ?_
    obtain ⟨x12, h13, h⟩ := bind_some h
    refine seq_join (fun a w => (.inl ()) = x12 ∧ Has 26 a [] ∧ Mem C w [] [.dat (sliceRep strRep) b5 [vL A6 b5 c7], .dat (sliceRep strRep) a1 [vL A2 a1 c3]]) ?_ ?_
    · refine wp_seq ?_
      refine region_pl ?_
      refine q_ hf rfl rfl rfl (e_assign hf rfl) fun a hf => ?_
      refine pl_nil ?_
      refine then_n ?_
      refine wp_block ?_
      obtain ⟨x17, h18, h13⟩ := bind_some h13
      refine wp_loopM h18 (fun s a w => ∃ (n14 : Int), n14 = s ∧ Has 26 a [(0, vL A2 (a1) c3), (1, vL A6 (b5) c7), (5, vI (n14))] ∧ Mem C w [] [.dat (sliceRep strRep) b5 [vL A6 b5 c7], .dat (sliceRep strRep) a1 [vL A2 a1 c3]] ∧ R64 n14) ?_ ?_
      · exact ⟨0, rfl, hf.keep ⟨rfl, rfl, rfl, trivial⟩, hM.pick [0, 1] rfl, (R64_lit rfl)⟩
      · rintro s o19 a w16 ⟨n14, rfl, hf, hM, hv15⟩ h20 hd21
        replace h20 : m_laws_f6same_l1 a1 b5 n14 = some o19 := h20
        unfold m_laws_f6same_l1 at h20
        refine wp_seq ?_
        refine wp_seq ?_
        refine region_pl ?_
        refine q_ hf rfl rfl rfl (e_move hf rfl) fun a hf => ?_
        refine q_ hf rfl rfl rfl (e_move hf rfl) fun a hf => ?_
        have hl22 := slice_len (hM.dat (k := 1) rfl)
        refine q_ hf rfl rfl rfl (e_lenL hf (x := a1) rfl Tryz.underlying39) fun a hf => ?_
        refine q_ hf rfl rfl rfl (e_lt hf (x := n14) (y := (a1.length : Int)) rfl rfl) fun a hf => ?_
        refine pl_nil ?_
        refine then_n ?_
        rcases cond_some h20 with ⟨hc23, h20⟩ | ⟨hc23, h20⟩
        · refine cond_t hf rfl hc23 ?_
          refine wp_skip ?_
          refine then_n ?_
          refine wp_seq ?_
          refine wp_block ?_
          refine wp_seq ?_
          obtain ⟨w24, hw⟩ : ∃ x, x = w16.drew := ⟨_, rfl⟩
          refine region_pi (.q 0 (.q 1 (.q 2 (.q 3 (.q 4 (.q 5 (.q 6 (.q 7 (.q 8 (.nil)))))))))) (Ext w24) rfl (by kernel_rfl) ?_
          have hM := hM.drew
          rw [← hw] at hM ⊢
          clear hw
          refine pi_q hf rfl rfl rfl rfl (Ext.refl _) (e_move hf rfl) fun a hf => ?_
          refine pi_q hf rfl rfl rfl rfl (Ext.refl _) (e_move hf rfl) fun a hf => ?_
          obtain ⟨e25, hz26, h20⟩ := bind_some h20
          obtain ⟨b30, o31, _, hA32, h27, h28, hr29, hM⟩ := hM.elem (hM.dat (k := 1) rfl) (n := 1) rfl hz26
          obtain ⟨rfl, hv33⟩ := hr29
          refine pi_q hf rfl rfl rfl rfl (Ext.refl _) (e_indexAddr (A := A2) (b := b30) (o := o31) (xs := a1) (i := n14) hf hA32 rfl rfl Tryz.underlying39 Tryz.sizeOf9 h27 h28) fun a hf => ?_
          refine pi_q hf rfl rfl rfl rfl (Ext.refl _) (e_load1 hf rfl Tryz.isAgg9 (hM.litCell (k := 0) (j := 0) rfl rfl rfl)) fun a hf => ?_
          refine pi_q hf rfl rfl rfl rfl (Ext.refl _) (e_move hf rfl) fun a hf => ?_
          refine pi_q hf rfl rfl rfl rfl (Ext.refl _) (e_move hf rfl) fun a hf => ?_
          obtain ⟨e34, hz35, h20⟩ := bind_some h20
          obtain ⟨b39, o40, _, hA41, h36, h37, hr38, hM⟩ := hM.elem (hM.dat (k := 1) rfl) (n := 1) rfl hz35
          obtain ⟨rfl, hv42⟩ := hr38
          refine pi_q hf rfl rfl rfl rfl (Ext.refl _) (e_indexAddr (A := A6) (b := b39) (o := o40) (xs := b5) (i := n14) hf hA41 rfl rfl Tryz.underlying39 Tryz.sizeOf9 h36 h37) fun a hf => ?_
          refine pi_q hf rfl rfl rfl rfl (Ext.refl _) (e_load1 hf rfl Tryz.isAgg9 (hM.litCell (k := 0) (j := 0) rfl rfl rfl)) fun a hf => ?_
          refine pi_q hf rfl rfl rfl rfl (Ext.refl _) (e_neS hf (x := e25) (y := e34) rfl rfl) fun a hf => ?_
          refine pi_nil ?_
          refine then_n ?_
          rcases cond_some h20 with ⟨hc43, h20⟩ | ⟨hc43, h20⟩
          · refine cond_t hf rfl hc43 ?_
            refine wp_seq ?_
            refine region_pl ?_
            refine q_ hf rfl rfl rfl (e_assign hf rfl) fun a hf => ?_
            refine pl_nil ?_
            refine then_n ?_
            refine wp_ret ?_
            refine blk_r ?_
            refine then_r ?_
            obtain rfl := some_inj h20
            obtain rfl := hd21 _ rfl
            try dsimp only at h13
            refine then_r ?_
            refine blk_r ?_
            obtain rfl := some_inj h13
            try dsimp only at h
            refine then_r ?_
            obtain rfl := some_inj h
            exact leave1 hf rfl rfl ⟨rfl, hM.fin⟩
          · refine cond_f hf rfl hc43 ?_
            refine wp_skip ?_
            refine blk_n ?_
            refine then_n ?_
            refine region_pl ?_
            refine q_ hf rfl rfl rfl (e_move hf rfl) fun a hf => ?_
            obtain ⟨z44, hz45, h20⟩ := bind_some h20
            refine q_ hf rfl rfl rfl (e_add hf rfl rfl hz45) fun a hf => ?_
            refine q_ hf rfl rfl rfl (e_assign hf rfl) fun a hf => ?_
            refine pl_nil ?_
            obtain rfl := some_inj h20
            refine then_n ⟨_, rfl, ?_⟩
            exact ⟨z44, rfl, hf.keep ⟨rfl, rfl, rfl, trivial⟩, hM.pick [2, 3] rfl, (chk_R hz45)⟩
        · refine cond_f hf rfl hc23 ?_
          refine wp_exit ?_
          refine then_x ?_
          obtain rfl := some_inj h20
          obtain rfl := hd21 _ rfl
          try dsimp only at h13
          refine then_x ?_
          refine exit_hit ?_
          obtain rfl := some_inj h13
          refine then_n ?_
          exact ⟨rfl, hf.keep trivial, hM.pick [0, 1] rfl⟩
    · rintro a w52 ⟨rfl, hf, hM⟩
      try dsimp only at h
      refine wp_seq ?_
      refine region_pl ?_
      refine q_ hf rfl rfl rfl (e_assign hf rfl) fun a hf => ?_
      refine pl_nil ?_
      refine then_n ?_
      refine wp_ret ?_
      obtain rfl := some_inj h
      exact leave1 hf rfl rfl ⟨rfl, hM.fin⟩

end Go.Proofs.YtgmikhdealhlfaaGreatDoor
