/- The functions that this law reaches do what their models say. Printed by gen.py. -/
import Derived.Test.YtdaoecpkgobelaaDoorMod
import Derived.Test.YtdaoecpkgobelaaDoorLib
import Derived.Test.YtdaoecpkgobelaaDoorNumberOfRef
namespace Go.Proofs.YtdaoecpkgobelaaDoor
open Go Go.RowKit
set_option linter.unusedSimpArgs false
set_option linter.unusedVariables false

set_option maxRecDepth 100000 in
set_option maxHeartbeats 4000000 in
theorem r_spec_l06Step (C : Cx) (d1 : Dawg) (b2 : Nat) (o3 : Nat) (hp4 : (ptrRep DawgRep).R C.w0 C.S0 d1 [vP b2 o3]) (node5 : Int) (hp6 : R64 node5) (letter7 : UInt8) (r : Int) (h : m_spec_l06Step d1 node5 letter7 = some r) :
    Calls Tryd.prog 89 #[vP b2 (o3), vI (node5), vB (letter7)] C.w0 fun e w => e = .returned (vI (r)) ∧ Mem C w [] [] ∧ R64 r := by
 have hM := Mem.begin C [.dat (ptrRep DawgRep) d1 [vP b2 o3]] ⟨hp4, trivial⟩
 refine enter Tryd.func89 rfl Tryd.ntmps89 rfl fun a hf => ?_
 unfold m_spec_l06Step at h
 refine wp_seq ?_
 refine region_pl ?_
 refine q_ hf rfl rfl rfl (e_assign hf rfl) fun a hf => ?_
 refine pl_nil ?_
 refine then_n ?_
 refine wp_seq ?_
 refine region_pl ?_
 refine q_ hf rfl rfl rfl (e_move hf rfl) fun a hf => ?_
 refine q_ hf rfl rfl rfl (e_nil hf rfl) fun a hf => ?_
 obtain ⟨_, hr8, hM⟩ := hM.deref (hM.dat (k := 0) rfl)
 obtain ⟨A9, c10, rfl, hv11⟩ := DawgRep_open hr8
 have hM := hM.add (y := .dat (sliceRep NodeRep) d1.Nodes [vL A9 d1.Nodes c10]) hv11
 refine q_ hf rfl rfl rfl (e_field hf rfl Tryd.underlying26 rfl Tryd.sizeOf24 (o' := o3 + 0) rfl) fun a hf => ?_
 refine q_ hf rfl rfl rfl (e_load1 hf rfl Tryd.isAgg24 (hM.litCell (k := 1) (j := 0) rfl rfl rfl)) fun a hf => ?_
 refine q_ hf rfl rfl rfl (e_move hf rfl) fun a hf => ?_
 obtain ⟨e12, hz13, h⟩ := bind_some h
 obtain ⟨b17, o18, _, hA19, h14, h15, hr16, hM⟩ := hM.elem (hM.dat (k := 0) rfl) (n := 3) rfl hz13
 obtain ⟨A21, c22, rfl, hv20, hv23⟩ := NodeRep_open hr16
 have hM := hM.add (y := .dat (sliceRep intRep) e12.Next [vL A21 e12.Next c22]) hv23
 refine q_ hf rfl rfl rfl (e_indexAddr (A := A9) (b := b17) (o := o18) (xs := d1.Nodes) (i := node5) hf hA19 rfl rfl Tryd.underlying24 Tryd.sizeOf76 h14 h15) fun a hf => ?_
 refine q_ hf rfl rfl rfl (e_assign hf rfl) fun a hf => ?_
 refine pl_nil ?_
 refine then_n ?_
 obtain ⟨x24, h25, h⟩ := bind_some h
 refine seq_join (fun a w => (.inl ()) = x24 ∧ Has 48 a [] ∧ Mem C w [] [.dat (sliceRep intRep) e12.Next [vL A21 e12.Next c22], .lit b17 (o18 + (node5 : Int).toNat * 3) [.bool (e12.Final), vS (e12.Letters), vL A21 (e12.Next) c22], .dat (sliceRep NodeRep) d1.Nodes [vL A9 d1.Nodes c10], .lit b2 (o3) [vL A9 (d1.Nodes) c10], .dat (ptrRep DawgRep) d1 [vP b2 o3]]) ?_ ?_
 ·refine wp_seq ?_
  refine region_pl ?_
  refine q_ hf rfl rfl rfl (e_assign hf rfl) fun a hf => ?_
  refine pl_nil ?_
  refine then_n ?_
  refine wp_block ?_
  obtain ⟨x29, h30, h25⟩ := bind_some h25
  refine wp_loopM h30 (fun s a w => ∃ (n26 : Int), n26 = s ∧ Has 48 a [(2, vB (letter7)), (7, vP b17 (o18 + (node5 : Int).toNat * 3)), (8, vI (n26))] ∧ Mem C w [] [.dat (sliceRep intRep) e12.Next [vL A21 e12.Next c22], .lit b17 (o18 + (node5 : Int).toNat * 3) [.bool (e12.Final), vS (e12.Letters), vL A21 (e12.Next) c22], .dat (sliceRep NodeRep) d1.Nodes [vL A9 d1.Nodes c10], .lit b2 (o3) [vL A9 (d1.Nodes) c10], .dat (ptrRep DawgRep) d1 [vP b2 o3]] ∧ R64 n26) ?_ ?_
  ·exact ⟨0, rfl, hf.keep ⟨rfl, rfl, rfl, trivial⟩, hM.pick [0, 1, 2, 3, 4] rfl, (R64_lit rfl)⟩
  rintro s o31 a w28 ⟨n26, rfl, hf, hM, hv27⟩ h32 hd33
  replace h32 : m_spec_l06Step_l1 e12 letter7 n26 = some o31 := h32
  unfold m_spec_l06Step_l1 at h32
  refine wp_seq ?_
  obtain ⟨x36, h37, h32⟩ := bind_some h32
  refine seq_join (fun a w => ∃ (t34 : Bool), t34 = x36 ∧ Has 48 a [(2, vB (letter7)), (7, vP b17 (o18 + (node5 : Int).toNat * 3)), (8, vI (n26)), (30, .bool (t34))] ∧ Mem C w [] [.dat (sliceRep intRep) e12.Next [vL A21 e12.Next c22], .lit b17 (o18 + (node5 : Int).toNat * 3) [.bool (e12.Final), vS (e12.Letters), vL A21 (e12.Next) c22], .dat (sliceRep NodeRep) d1.Nodes [vL A9 d1.Nodes c10], .lit b2 (o3) [vL A9 (d1.Nodes) c10], .dat (ptrRep DawgRep) d1 [vP b2 o3]]) ?_ ?_
  ·refine region_pl ?_
   iterate 2 refine q_ hf rfl rfl rfl (e_move hf rfl) fun a hf => ?_
   refine q_ hf rfl rfl rfl (e_nil hf rfl) fun a hf => ?_
   refine q_ hf rfl rfl rfl (e_field hf rfl Tryd.underlying76 rfl Tryd.sizeOf9 (o' := (o18 + (node5 : Int).toNat * 3) + 1) rfl) fun a hf => ?_
   refine q_ hf rfl rfl rfl (e_load1 hf rfl Tryd.isAgg9 (hM.litCell (k := 1) (j := 1) rfl rfl rfl)) fun a hf => ?_
   refine q_ hf rfl rfl rfl (e_lenS hf (x := e12.Letters) rfl Tryd.underlying9) fun a hf => ?_
   refine q_ hf rfl rfl rfl (e_lt hf (x := n26) (y := (e12.Letters.length : Int)) rfl rfl) fun a hf => ?_
   refine q_ hf rfl rfl rfl (e_move hf rfl) fun a hf => ?_
   rcases cond_some h37 with ⟨hc38, h37⟩ | ⟨hc38, h37⟩
   ·iterate 2 refine gq (wanted_t hf rfl rfl rfl rfl hc38) hf rfl rfl (e_move hf rfl) fun a hf => ?_
    refine gq (wanted_t hf rfl rfl rfl rfl hc38) hf rfl rfl (e_nil hf rfl) fun a hf => ?_
    refine gq (wanted_t hf rfl rfl rfl rfl hc38) hf rfl rfl (e_field hf rfl Tryd.underlying76 rfl Tryd.sizeOf31 (o' := (o18 + (node5 : Int).toNat * 3) + 2) rfl) fun a hf => ?_
    refine gq (wanted_t hf rfl rfl rfl rfl hc38) hf rfl rfl (e_load1 hf rfl Tryd.isAgg31 (hM.litCell (k := 1) (j := 2) rfl rfl rfl)) fun a hf => ?_
    have hl39 := slice_len (hM.dat (k := 0) rfl)
    refine gq (wanted_t hf rfl rfl rfl rfl hc38) hf rfl rfl (e_lenL hf (x := e12.Next) rfl Tryd.underlying31) fun a hf => ?_
    refine gq (wanted_t hf rfl rfl rfl rfl hc38) hf rfl rfl (e_lt hf (x := n26) (y := (e12.Next.length : Int)) rfl rfl) fun a hf => ?_
    refine q_ hf rfl rfl rfl (e_pick_t hf rfl hc38 rfl) fun a hf => ?_
    refine pl_nil ?_
    obtain rfl := some_inj h37
    refine then_n ?_
    exact ⟨(decide (n26 < (e12.Next.length : Int))), rfl, hf.keep ⟨rfl, rfl, rfl, rfl, trivial⟩, hM.pick [0, 1, 2, 3, 4] rfl⟩
   iterate 7 refine pl_gs (wanted_f hf rfl rfl rfl rfl hc38) hf rfl rfl fun a hf => ?_
   refine q_ hf rfl rfl rfl (e_pick_f hf rfl hc38 rfl) fun a hf => ?_
   refine pl_nil ?_
   obtain rfl := some_inj h37
   refine then_n ?_
   exact ⟨false, rfl, hf.keep ⟨rfl, rfl, rfl, rfl, trivial⟩, hM.pick [0, 1, 2, 3, 4] rfl⟩
  rintro a w42 ⟨t34, rfl, hf, hM⟩
  try dsimp only at h32
  rcases cond_some h32 with ⟨hc43, h32⟩ | ⟨hc43, h32⟩
  ·refine cond_t hf rfl hc43 ?_
   refine wp_skip ?_
   refine then_n ?_
   refine wp_seq ?_
   refine wp_block ?_
   refine wp_seq ?_
   refine region_pl ?_
   refine q_ hf rfl rfl rfl (e_move hf rfl) fun a hf => ?_
   refine q_ hf rfl rfl rfl (e_nil hf rfl) fun a hf => ?_
   refine q_ hf rfl rfl rfl (e_field hf rfl Tryd.underlying76 rfl Tryd.sizeOf9 (o' := (o18 + (node5 : Int).toNat * 3) + 1) rfl) fun a hf => ?_
   refine q_ hf rfl rfl rfl (e_load1 hf rfl Tryd.isAgg9 (hM.litCell (k := 1) (j := 1) rfl rfl rfl)) fun a hf => ?_
   refine q_ hf rfl rfl rfl (e_move hf rfl) fun a hf => ?_
   obtain ⟨c44, hz45, h32⟩ := bind_some h32
   refine q_ hf rfl rfl rfl (e_indexS hf (x := e12.Letters) rfl rfl Tryd.underlying9 hz45) fun a hf => ?_
   refine q_ hf rfl rfl rfl (e_move hf rfl) fun a hf => ?_
   refine q_ hf rfl rfl rfl (e_eqB hf (x := c44) (y := letter7) rfl rfl) fun a hf => ?_
   refine pl_nil ?_
   refine then_n ?_
   rcases cond_some h32 with ⟨hc46, h32⟩ | ⟨hc46, h32⟩
   ·refine cond_t hf rfl hc46 ?_
    refine wp_seq ?_
    refine region_pl ?_
    refine q_ hf rfl rfl rfl (e_move hf rfl) fun a hf => ?_
    refine q_ hf rfl rfl rfl (e_nil hf rfl) fun a hf => ?_
    refine q_ hf rfl rfl rfl (e_field hf rfl Tryd.underlying76 rfl Tryd.sizeOf31 (o' := (o18 + (node5 : Int).toNat * 3) + 2) rfl) fun a hf => ?_
    refine q_ hf rfl rfl rfl (e_load1 hf rfl Tryd.isAgg31 (hM.litCell (k := 1) (j := 2) rfl rfl rfl)) fun a hf => ?_
    refine q_ hf rfl rfl rfl (e_move hf rfl) fun a hf => ?_
    obtain ⟨e47, hz48, h32⟩ := bind_some h32
    obtain ⟨b52, o53, _, hA54, h49, h50, hr51, hM⟩ := hM.elem (hM.dat (k := 0) rfl) (n := 1) rfl hz48
    obtain ⟨rfl, hv55⟩ := hr51
    refine q_ hf rfl rfl rfl (e_indexAddr (A := A21) (b := b52) (o := o53) (xs := e12.Next) (i := n26) hf hA54 rfl rfl Tryd.underlying31 Tryd.sizeOf2 h49 h50) fun a hf => ?_
    refine q_ hf rfl rfl rfl (e_load1 hf rfl Tryd.isAgg2 (hM.litCell (k := 0) (j := 0) rfl rfl rfl)) fun a hf => ?_
    refine q_ hf rfl rfl rfl (e_assign hf rfl) fun a hf => ?_
    refine pl_nil ?_
    refine then_n ?_
    refine wp_ret ?_
    refine blk_r ?_
    refine then_r ?_
    obtain rfl := some_inj h32
    obtain rfl := hd33 _ rfl
    try dsimp only at h25
    refine then_r ?_
    refine blk_r ?_
    obtain rfl := some_inj h25
    try dsimp only at h
    refine then_r ?_
    obtain rfl := some_inj h
    exact leave1 hf rfl rfl ⟨rfl, hM.fin, hv55⟩
   refine cond_f hf rfl hc46 ?_
   refine wp_skip ?_
   refine blk_n ?_
   refine then_n ?_
   refine region_pl ?_
   refine q_ hf rfl rfl rfl (e_move hf rfl) fun a hf => ?_
   obtain ⟨z56, hz57, h32⟩ := bind_some h32
   refine q_ hf rfl rfl rfl (e_add hf rfl rfl hz57) fun a hf => ?_
   refine q_ hf rfl rfl rfl (e_assign hf rfl) fun a hf => ?_
   refine pl_nil ?_
   obtain rfl := some_inj h32
   refine then_n ⟨_, rfl, ?_⟩
   exact ⟨z56, rfl, hf.keep ⟨rfl, rfl, rfl, trivial⟩, hM.pick [0, 1, 2, 3, 4] rfl, (chk_R hz57)⟩
  refine cond_f hf rfl hc43 ?_
  refine wp_exit ?_
  refine then_x ?_
  obtain rfl := some_inj h32
  obtain rfl := hd33 _ rfl
  try dsimp only at h25
  refine then_x ?_
  refine exit_hit ?_
  obtain rfl := some_inj h25
  refine then_n ?_
  exact ⟨rfl, hf.keep trivial, hM.pick [0, 1, 2, 3, 4] rfl⟩
 rintro a w64 ⟨rfl, hf, hM⟩
 try dsimp only at h
 refine wp_seq ?_
 refine region_pl ?_
 refine q_ hf rfl rfl rfl (e_assign hf rfl) fun a hf => ?_
 refine pl_nil ?_
 refine then_n ?_
 refine wp_ret ?_
 obtain rfl := some_inj h
 exact leave1 hf rfl rfl ⟨rfl, hM.fin, (R64_lit rfl)⟩

set_option maxRecDepth 100000 in
set_option maxHeartbeats 4000000 in
theorem r_spec_l06After (C : Cx) (d1 : Dawg) (b2 : Nat) (o3 : Nat) (hp4 : (ptrRep DawgRep).R C.w0 C.S0 d1 [vP b2 o3]) (node5 : Int) (hp6 : R64 node5) (s7 : Str) (hp8 : s7.length ≤ maxLen) (r : Int) (h : m_spec_l06After d1 node5 s7 = some r) :
    Calls Tryd.prog 61 #[vP b2 (o3), vI (node5), vS (s7)] C.w0 fun e w => e = .returned (vI (r)) ∧ Mem C w [] [] ∧ R64 r := by
 have hM := Mem.begin C [.dat (ptrRep DawgRep) d1 [vP b2 o3]] ⟨hp4, trivial⟩
 refine enter Tryd.func61 rfl Tryd.ntmps61 rfl fun a hf => ?_
 unfold m_spec_l06After at h
 refine wp_seq ?_
 refine region_pl ?_
 refine q_ hf rfl rfl rfl (e_assign hf rfl) fun a hf => ?_
 refine pl_nil ?_
 refine then_n ?_
 obtain ⟨x11, h12, h⟩ := bind_some h
 refine seq_join (fun a w => ∃ (node9 : Int), node9 = x11 ∧ Has 25 a [(1, vI (node9))] ∧ Mem C w [] [.dat (ptrRep DawgRep) d1 [vP b2 o3]] ∧ R64 node9) ?_ ?_
 ·refine wp_seq ?_
  refine region_pl ?_
  refine q_ hf rfl rfl rfl (e_assign hf rfl) fun a hf => ?_
  refine pl_nil ?_
  refine then_n ?_
  refine wp_block ?_
  obtain ⟨x20, h21, h12⟩ := bind_some h12
  refine wp_loopM h21 (fun s a w => ∃ (node13 : Int) (n15 : Int), (node13, n15) = s ∧ Has 25 a [(0, vP b2 (o3)), (1, vI (node13)), (2, vS (s7)), (7, vI (n15))] ∧ Mem C w [] [.dat (ptrRep DawgRep) d1 [vP b2 o3]] ∧ R64 node13 ∧ R64 n15) ?_ ?_
  ·exact ⟨node5, 0, rfl, hf.keep ⟨rfl, rfl, rfl, rfl, trivial⟩, hM.pick [0] rfl, hp6, (R64_lit rfl)⟩
  rintro s o22 a w17 ⟨node13, n15, rfl, hf, hM, hv14, hv16⟩ h23 hd24
  replace h23 : m_spec_l06After_l1 s7 d1 node13 n15 = some o22 := h23
  unfold m_spec_l06After_l1 at h23
  refine wp_seq ?_
  obtain ⟨x27, h28, h23⟩ := bind_some h23
  refine seq_join (fun a w => ∃ (t25 : Bool), t25 = x27 ∧ Has 25 a [(0, vP b2 (o3)), (1, vI (node13)), (2, vS (s7)), (7, vI (n15)), (15, .bool (t25))] ∧ Mem C w [] [.dat (ptrRep DawgRep) d1 [vP b2 o3]]) ?_ ?_
  ·refine region_pl ?_
   iterate 2 refine q_ hf rfl rfl rfl (e_move hf rfl) fun a hf => ?_
   refine q_ hf rfl rfl rfl (e_lenS hf (x := s7) rfl Tryd.underlying9) fun a hf => ?_
   refine q_ hf rfl rfl rfl (e_lt hf (x := n15) (y := (s7.length : Int)) rfl rfl) fun a hf => ?_
   refine q_ hf rfl rfl rfl (e_move hf rfl) fun a hf => ?_
   rcases cond_some h28 with ⟨hc29, h28⟩ | ⟨hc29, h28⟩
   ·refine gq (wanted_t hf rfl rfl rfl rfl hc29) hf rfl rfl (e_move hf rfl) fun a hf => ?_
    refine gq (wanted_t hf rfl rfl rfl rfl hc29) hf rfl rfl (e_ge hf (x := node13) (y := 0) rfl rfl) fun a hf => ?_
    refine q_ hf rfl rfl rfl (e_pick_t hf rfl hc29 rfl) fun a hf => ?_
    refine pl_nil ?_
    obtain rfl := some_inj h28
    refine then_n ?_
    exact ⟨(decide (0 ≤ node13)), rfl, hf.keep ⟨rfl, rfl, rfl, rfl, rfl, trivial⟩, hM.pick [0] rfl⟩
   iterate 2 refine pl_gs (wanted_f hf rfl rfl rfl rfl hc29) hf rfl rfl fun a hf => ?_
   refine q_ hf rfl rfl rfl (e_pick_f hf rfl hc29 rfl) fun a hf => ?_
   refine pl_nil ?_
   obtain rfl := some_inj h28
   refine then_n ?_
   exact ⟨false, rfl, hf.keep ⟨rfl, rfl, rfl, rfl, rfl, trivial⟩, hM.pick [0] rfl⟩
  rintro a w32 ⟨t25, rfl, hf, hM⟩
  try dsimp only at h23
  rcases cond_some h23 with ⟨hc33, h23⟩ | ⟨hc33, h23⟩
  ·refine cond_t hf rfl hc33 ?_
   refine wp_skip ?_
   refine then_n ?_
   refine wp_seq ?_
   refine wp_block ?_
   refine region_pl ?_
   iterate 4 refine q_ hf rfl rfl rfl (e_move hf rfl) fun a hf => ?_
   obtain ⟨c34, hz35, h23⟩ := bind_some h23
   refine q_ hf rfl rfl rfl (e_indexS hf (x := s7) rfl rfl Tryd.underlying9 hz35) fun a hf => ?_
   obtain ⟨y36, hz37, h23⟩ := bind_some h23
   refine pl_l hf rfl rfl rfl (w_call hf Tryd.call89 rfl (r_spec_l06Step ⟨_, Sh C _ _, none_, hM.sh_lt, none_not, C.G, hM.g_lt, g_none, hM.tabs⟩ d1 _ _ (hM.dat (k := 0) rfl) node13 hv14 c34 _ hz37) ?_)
   rintro _ w39 ⟨rfl, hM2, hv38⟩
   obtain ⟨hM, hx40, hup41⟩ := hM.back hM2
   dsimp only [List.cons_append, List.nil_append] at hM hup41
   clear hM2
   refine ⟨_, rfl, fun a hf => ?_⟩
   refine q_ hf rfl rfl rfl (e_assign hf rfl) fun a hf => ?_
   refine pl_nil ?_
   refine blk_n ?_
   refine then_n ?_
   refine region_pl ?_
   refine q_ hf rfl rfl rfl (e_move hf rfl) fun a hf => ?_
   obtain ⟨z42, hz43, h23⟩ := bind_some h23
   refine q_ hf rfl rfl rfl (e_add hf rfl rfl hz43) fun a hf => ?_
   refine q_ hf rfl rfl rfl (e_assign hf rfl) fun a hf => ?_
   refine pl_nil ?_
   obtain rfl := some_inj h23
   refine then_n ⟨_, rfl, ?_⟩
   exact ⟨y36, z42, rfl, hf.keep ⟨rfl, rfl, rfl, rfl, trivial⟩, hM.pick [0] rfl, hv38, (chk_R hz43)⟩
  refine cond_f hf rfl hc33 ?_
  refine wp_exit ?_
  refine then_x ?_
  obtain rfl := some_inj h23
  obtain rfl := hd24 _ rfl
  try dsimp only at h12
  refine then_x ?_
  refine exit_hit ?_
  obtain rfl := some_inj h12
  refine then_n ?_
  exact ⟨node13, rfl, hf.keep ⟨rfl, trivial⟩, hM.pick [0] rfl, hv14⟩
 rintro a w49 ⟨node9, rfl, hf, hM, hv10⟩
 try dsimp only at h
 refine wp_seq ?_
 refine region_pl ?_
 refine q_ hf rfl rfl rfl (e_move hf rfl) fun a hf => ?_
 refine q_ hf rfl rfl rfl (e_assign hf rfl) fun a hf => ?_
 refine pl_nil ?_
 refine then_n ?_
 refine wp_ret ?_
 obtain rfl := some_inj h
 exact leave1 hf rfl rfl ⟨rfl, hM.fin, hv10⟩

set_option maxRecDepth 100000 in
set_option maxHeartbeats 4000000 in
theorem r_spec_l06Accepts (C : Cx) (d1 : Dawg) (b2 : Nat) (o3 : Nat) (hp4 : (ptrRep DawgRep).R C.w0 C.S0 d1 [vP b2 o3]) (s5 : Str) (hp6 : s5.length ≤ maxLen) (r : Bool) (h : m_spec_l06Accepts d1 s5 = some r) :
    Calls Tryd.prog 58 #[vP b2 (o3), vS (s5)] C.w0 fun e w => e = .returned (.bool (r)) ∧ Mem C w [] [] := by
 have hM := Mem.begin C [.dat (ptrRep DawgRep) d1 [vP b2 o3]] ⟨hp4, trivial⟩
 refine enter Tryd.func58 rfl Tryd.ntmps58 rfl fun a hf => ?_
 unfold m_spec_l06Accepts at h
 refine wp_seq ?_
 refine region_pl ?_
 refine q_ hf rfl rfl rfl (e_assign hf rfl) fun a hf => ?_
 refine pl_nil ?_
 refine then_n ?_
 refine wp_seq ?_
 refine region_pl ?_
 iterate 2 refine q_ hf rfl rfl rfl (e_move hf rfl) fun a hf => ?_
 obtain ⟨y7, hz8, h⟩ := bind_some h
 refine pl_l hf rfl rfl rfl (w_call hf Tryd.call61 rfl (r_spec_l06After ⟨_, Sh C _ _, none_, hM.sh_lt, none_not, C.G, hM.g_lt, g_none, hM.tabs⟩ d1 _ _ (hM.dat (k := 0) rfl) 0 (R64_lit rfl) s5 hp6 _ hz8) ?_)
 rintro _ w10 ⟨rfl, hM2, hv9⟩
 obtain ⟨hM, hx11, hup12⟩ := hM.back hM2
 dsimp only [List.cons_append, List.nil_append] at hM hup12
 clear hM2
 refine ⟨_, rfl, fun a hf => ?_⟩
 refine q_ hf rfl rfl rfl (e_assign hf rfl) fun a hf => ?_
 refine pl_nil ?_
 refine then_n ?_
 obtain ⟨x15, h16, h⟩ := bind_some h
 refine seq_join (fun a w => ∃ (t13 : Bool), t13 = x15 ∧ Has 21 a [(4, .bool (t13))] ∧ Mem C w [] [.dat (ptrRep DawgRep) d1 [vP b2 o3]]) ?_ ?_
 ·refine region_pl ?_
  refine q_ hf rfl rfl rfl (e_move hf rfl) fun a hf => ?_
  refine q_ hf rfl rfl rfl (e_ge hf (x := y7) (y := 0) rfl rfl) fun a hf => ?_
  refine q_ hf rfl rfl rfl (e_move hf rfl) fun a hf => ?_
  rcases cond_some h16 with ⟨hc17, h16⟩ | ⟨hc17, h16⟩
  ·refine gq (wanted_t hf rfl rfl rfl rfl hc17) hf rfl rfl (e_move hf rfl) fun a hf => ?_
   refine gq (wanted_t hf rfl rfl rfl rfl hc17) hf rfl rfl (e_nil hf rfl) fun a hf => ?_
   obtain ⟨_, hr18, hM⟩ := hM.deref (hM.dat (k := 0) rfl)
   obtain ⟨A19, c20, rfl, hv21⟩ := DawgRep_open hr18
   have hM := hM.add (y := .dat (sliceRep NodeRep) d1.Nodes [vL A19 d1.Nodes c20]) hv21
   refine gq (wanted_t hf rfl rfl rfl rfl hc17) hf rfl rfl (e_field hf rfl Tryd.underlying26 rfl Tryd.sizeOf24 (o' := o3 + 0) rfl) fun a hf => ?_
   refine gq (wanted_t hf rfl rfl rfl rfl hc17) hf rfl rfl (e_load1 hf rfl Tryd.isAgg24 (hM.litCell (k := 1) (j := 0) rfl rfl rfl)) fun a hf => ?_
   refine gq (wanted_t hf rfl rfl rfl rfl hc17) hf rfl rfl (e_move hf rfl) fun a hf => ?_
   obtain ⟨e22, hz23, h16⟩ := bind_some h16
   obtain ⟨b27, o28, _, hA29, h24, h25, hr26, hM⟩ := hM.elem (hM.dat (k := 0) rfl) (n := 3) rfl hz23
   obtain ⟨A31, c32, rfl, hv30, hv33⟩ := NodeRep_open hr26
   have hM := hM.add (y := .dat (sliceRep intRep) e22.Next [vL A31 e22.Next c32]) hv33
   refine gq (wanted_t hf rfl rfl rfl rfl hc17) hf rfl rfl (e_indexAddr (A := A19) (b := b27) (o := o28) (xs := d1.Nodes) (i := y7) hf hA29 rfl rfl Tryd.underlying24 Tryd.sizeOf76 h24 h25) fun a hf => ?_
   refine gq (wanted_t hf rfl rfl rfl rfl hc17) hf rfl rfl (e_field hf rfl Tryd.underlying76 rfl Tryd.sizeOf4 (o' := (o28 + (y7 : Int).toNat * 3) + 0) rfl) fun a hf => ?_
   refine gq (wanted_t hf rfl rfl rfl rfl hc17) hf rfl rfl (e_load1 hf rfl Tryd.isAgg4 (hM.litCell (k := 1) (j := 0) rfl rfl rfl)) fun a hf => ?_
   refine q_ hf rfl rfl rfl (e_pick_t hf rfl hc17 rfl) fun a hf => ?_
   refine q_ hf rfl rfl rfl (e_assign hf rfl) fun a hf => ?_
   refine pl_nil ?_
   obtain rfl := some_inj h16
   refine then_n ?_
   exact ⟨e22.Final, rfl, hf.keep ⟨rfl, trivial⟩, hM.pick [4] rfl⟩
  iterate 8 refine pl_gs (wanted_f hf rfl rfl rfl rfl hc17) hf rfl rfl fun a hf => ?_
  refine q_ hf rfl rfl rfl (e_pick_f hf rfl hc17 rfl) fun a hf => ?_
  refine q_ hf rfl rfl rfl (e_assign hf rfl) fun a hf => ?_
  refine pl_nil ?_
  obtain rfl := some_inj h16
  refine then_n ?_
  exact ⟨false, rfl, hf.keep ⟨rfl, trivial⟩, hM.pick [0] rfl⟩
 rintro a w36 ⟨t13, rfl, hf, hM⟩
 try dsimp only at h
 refine wp_ret ?_
 obtain rfl := some_inj h
 exact leave1 hf rfl rfl ⟨rfl, hM.fin⟩

def Ct_spec_l07C_count (rc : l07C → Int → Option (Int × l07C)) : Prop := ∀ (C : Cx) (c1 : l07C) (b2 : Nat) (b3 : Nat) (o4 : Nat) (hp5 : (ptrRep DawgRep).R C.w0 C.S0 c1.d [vP b3 o4]) (A6 : Option Addr) (c7 : Nat) (node8 : Int) (hp9 : R64 node8) (hO : Mem C C.w0 [.box b2 [vP b3 (o4), vL A6 (c1.out) c7] 128, .row intRep A6 c7 2 c1.out true] []) (hd : ∀ b, C.S0 b → ¬ ownB [.box b2 [vP b3 (o4), vL A6 (c1.out) c7] 128, .row intRep A6 c7 2 c1.out true] b) (r : (Int × l07C)) (h : rc c1 node8 = some r),
    Calls Tryd.prog 91 #[vP b2 (0), vI (node8)] C.w0 fun e w => ∃ (A_1 : Option Addr), ∃ (c_1 : Nat), e = .returned (vI (r.1)) ∧ Mem C w [.box b2 [vP b3 (o4), vL A_1 (r.2.out) c_1] 128, .row intRep A_1 c_1 2 r.2.out true] [] ∧ R64 r.1

set_option maxRecDepth 100000 in
set_option maxHeartbeats 4000000 in
theorem r_spec_l07C_count_b (rc : l07C → Int → Option (Int × l07C)) (ih : Ct_spec_l07C_count rc) : Ct_spec_l07C_count (m_spec_l07C_count_b rc) := by
 intro C c1 b2 b3 o4 hp5 A6 c7 node8 hp9 hO hd r h
 have hM := hO
 have hM := hM.addIn hd (y := .dat (ptrRep DawgRep) c1.d [vP b3 o4]) hp5
 refine enter Tryd.func91 rfl Tryd.ntmps91 rfl fun a hf => ?_
 unfold m_spec_l07C_count_b at h
 refine wp_seq ?_
 refine region_pl ?_
 refine q_ hf rfl rfl rfl (e_assign hf rfl) fun a hf => ?_
 refine pl_nil ?_
 refine then_n ?_
 iterate 2 refine wp_seq ?_
 refine region_pl ?_
 refine q_ hf rfl rfl rfl (e_move hf rfl) fun a hf => ?_
 refine q_ hf rfl rfl rfl (e_nil hf rfl) fun a hf => ?_
 refine q_ hf rfl rfl rfl (e_field hf rfl Tryd.underlying128 rfl Tryd.sizeOf31 (o' := 1) rfl) fun a hf => ?_
 refine q_ hf rfl rfl rfl (e_load1 hf rfl Tryd.isAgg31 (hM.boxCell (k := 0) rfl rfl)) fun a hf => ?_
 refine q_ hf rfl rfl rfl (e_move hf rfl) fun a hf => ?_
 obtain ⟨e10, hz11, h⟩ := bind_some h
 obtain ⟨b16, _, hA17, h12, h13, hr14, hcell15⟩ := hM.rowElemN (k := 1) rfl (n := 1) rfl hz11
 obtain ⟨rfl, hv18⟩ := hr14
 refine q_ hf rfl rfl rfl (e_indexAddr (A := A6) (b := b16) (o := 0) (xs := c1.out) (i := node8) hf hA17 rfl rfl Tryd.underlying31 Tryd.sizeOf2 h12 h13) fun a hf => ?_
 refine q_ hf rfl rfl rfl (e_load1 hf rfl Tryd.isAgg2 (hcell15 0 _ rfl)) fun a hf => ?_
 refine q_ hf rfl rfl rfl (e_ge hf (x := e10) (y := 0) rfl rfl) fun a hf => ?_
 refine pl_nil ?_
 refine then_n ?_
 rcases cond_some h with ⟨hc19, h⟩ | ⟨hc19, h⟩
 ·refine cond_t hf rfl hc19 ?_
  refine wp_seq ?_
  refine region_pl ?_
  refine q_ hf rfl rfl rfl (e_move hf rfl) fun a hf => ?_
  refine q_ hf rfl rfl rfl (e_nil hf rfl) fun a hf => ?_
  refine q_ hf rfl rfl rfl (e_field hf rfl Tryd.underlying128 rfl Tryd.sizeOf31 (o' := 1) rfl) fun a hf => ?_
  refine q_ hf rfl rfl rfl (e_load1 hf rfl Tryd.isAgg31 (hM.boxCell (k := 0) rfl rfl)) fun a hf => ?_
  refine q_ hf rfl rfl rfl (e_move hf rfl) fun a hf => ?_
  obtain ⟨e20, hz21, h⟩ := bind_some h
  obtain ⟨b26, _, hA27, h22, h23, hr24, hcell25⟩ := hM.rowElemN (k := 1) rfl (n := 1) rfl hz21
  obtain ⟨rfl, hv28⟩ := hr24
  refine q_ hf rfl rfl rfl (e_indexAddr (A := A6) (b := b26) (o := 0) (xs := c1.out) (i := node8) hf hA27 rfl rfl Tryd.underlying31 Tryd.sizeOf2 h22 h23) fun a hf => ?_
  refine q_ hf rfl rfl rfl (e_load1 hf rfl Tryd.isAgg2 (hcell25 0 _ rfl)) fun a hf => ?_
  refine q_ hf rfl rfl rfl (e_assign hf rfl) fun a hf => ?_
  refine pl_nil ?_
  refine then_n ?_
  refine wp_ret ?_
  refine then_r ?_
  obtain rfl := some_inj h
  exact leave1 hf rfl rfl ⟨A6, c7, rfl, hM.fin, hv28⟩
 refine cond_f hf rfl hc19 ?_
 refine wp_skip ?_
 refine then_n ?_
 refine wp_seq ?_
 refine region_pl ?_
 refine q_ hf rfl rfl rfl (e_move hf rfl) fun a hf => ?_
 refine q_ hf rfl rfl rfl (e_nil hf rfl) fun a hf => ?_
 refine q_ hf rfl rfl rfl (e_field hf rfl Tryd.underlying128 rfl Tryd.sizeOf66 (o' := 0) rfl) fun a hf => ?_
 refine q_ hf rfl rfl rfl (e_load1 hf rfl Tryd.isAgg66 (hM.boxCell (k := 0) rfl rfl)) fun a hf => ?_
 refine q_ hf rfl rfl rfl (e_nil hf rfl) fun a hf => ?_
 obtain ⟨_, hr29, hM⟩ := hM.deref (hM.dat (k := 0) rfl)
 obtain ⟨A30, c31, rfl, hv32⟩ := DawgRep_open hr29
 have hM := hM.add (y := .dat (sliceRep NodeRep) c1.d.Nodes [vL A30 c1.d.Nodes c31]) hv32
 refine q_ hf rfl rfl rfl (e_field hf rfl Tryd.underlying26 rfl Tryd.sizeOf24 (o' := o4 + 0) rfl) fun a hf => ?_
 refine q_ hf rfl rfl rfl (e_load1 hf rfl Tryd.isAgg24 (hM.litCell (k := 1) (j := 0) rfl rfl rfl)) fun a hf => ?_
 refine q_ hf rfl rfl rfl (e_move hf rfl) fun a hf => ?_
 obtain ⟨e33, hz34, h⟩ := bind_some h
 obtain ⟨b38, o39, _, hA40, h35, h36, hr37, hM⟩ := hM.elem (hM.dat (k := 0) rfl) (n := 3) rfl hz34
 obtain ⟨A42, c43, rfl, hv41, hv44⟩ := NodeRep_open hr37
 have hM := hM.add (y := .dat (sliceRep intRep) e33.Next [vL A42 e33.Next c43]) hv44
 refine q_ hf rfl rfl rfl (e_indexAddr (A := A30) (b := b38) (o := o39) (xs := c1.d.Nodes) (i := node8) hf hA40 rfl rfl Tryd.underlying24 Tryd.sizeOf76 h35 h36) fun a hf => ?_
 refine q_ hf rfl rfl rfl (e_assign hf rfl) fun a hf => ?_
 refine pl_nil ?_
 refine then_n ?_
 refine wp_seq ?_
 refine region_pl ?_
 refine q_ hf rfl rfl rfl (e_assign hf rfl) fun a hf => ?_
 refine pl_nil ?_
 refine then_n ?_
 obtain ⟨x47, h48, h⟩ := bind_some h
 refine seq_join (fun a w => ∃ (n45 : Int), n45 = x47 ∧ Has 64 a [(0, vP b2 (0)), (1, vI (node8)), (5, vP b38 (o39 + (node8 : Int).toNat * 3)), (6, vI (n45))] ∧ Mem C w [.box b2 [vP b3 (o4), vL A6 (c1.out) c7] 128, .row intRep A6 c7 2 c1.out true] [.dat (sliceRep intRep) e33.Next [vL A42 e33.Next c43], .lit b38 (o39 + (node8 : Int).toNat * 3) [.bool (e33.Final), vS (e33.Letters), vL A42 (e33.Next) c43], .dat (sliceRep NodeRep) c1.d.Nodes [vL A30 c1.d.Nodes c31], .lit b3 (o4) [vL A30 (c1.d.Nodes) c31], .dat (ptrRep DawgRep) c1.d [vP b3 o4]] ∧ R64 n45) ?_ ?_
 ·refine wp_seq ?_
  refine region_pl ?_
  refine q_ hf rfl rfl rfl (e_move hf rfl) fun a hf => ?_
  refine q_ hf rfl rfl rfl (e_nil hf rfl) fun a hf => ?_
  refine q_ hf rfl rfl rfl (e_field hf rfl Tryd.underlying76 rfl Tryd.sizeOf4 (o' := (o39 + (node8 : Int).toNat * 3) + 0) rfl) fun a hf => ?_
  refine q_ hf rfl rfl rfl (e_load1 hf rfl Tryd.isAgg4 (hM.litCell (k := 1) (j := 0) rfl rfl rfl)) fun a hf => ?_
  refine pl_nil ?_
  refine then_n ?_
  rcases cond_some h48 with ⟨hc49, h48⟩ | ⟨hc49, h48⟩
  ·refine cond_t hf rfl hc49 ?_
   refine region_pl ?_
   refine q_ hf rfl rfl rfl (e_assign hf rfl) fun a hf => ?_
   refine pl_nil ?_
   obtain rfl := some_inj h48
   refine then_n ?_
   exact ⟨1, rfl, hf.keep ⟨rfl, rfl, rfl, rfl, trivial⟩, hM.pick [0, 1, 2, 3, 4] rfl, (R64_lit rfl)⟩
  refine cond_f hf rfl hc49 ?_
  refine wp_skip ?_
  obtain rfl := some_inj h48
  refine then_n ?_
  exact ⟨0, rfl, hf.keep ⟨rfl, rfl, rfl, rfl, trivial⟩, hM.pick [0, 1, 2, 3, 4] rfl, (R64_lit rfl)⟩
 rintro a w52 ⟨n45, rfl, hf, hM, hv46⟩
 try dsimp only at h
 obtain ⟨x58, h59, h⟩ := bind_some h
 refine seq_join (fun a w => ∃ (xs53 : (List Int)) (n56 : Int) (A54 : Option Addr) (c55 : Nat), (xs53, n56) = x58 ∧ Has 64 a [(0, vP b2 (0)), (1, vI (node8)), (6, vI (n56))] ∧ Mem C w [.box b2 [vP b3 (o4), vL A54 (xs53) c55] 128, .row intRep A54 c55 2 xs53 true] [.dat (sliceRep intRep) e33.Next [vL A42 e33.Next c43], .lit b38 (o39 + (node8 : Int).toNat * 3) [.bool (e33.Final), vS (e33.Letters), vL A42 (e33.Next) c43], .dat (sliceRep NodeRep) c1.d.Nodes [vL A30 c1.d.Nodes c31], .lit b3 (o4) [vL A30 (c1.d.Nodes) c31], .dat (ptrRep DawgRep) c1.d [vP b3 o4]] ∧ R64 n56) ?_ ?_
 ·refine wp_seq ?_
  refine region_pl ?_
  refine q_ hf rfl rfl rfl (e_assign hf rfl) fun a hf => ?_
  refine pl_nil ?_
  refine then_n ?_
  refine wp_block ?_
  obtain ⟨x73, h74, h59⟩ := bind_some h59
  refine wp_loopM h74 (fun s a w => ∃ (xs60 : (List Int)) (n63 : Int) (n65 : Int) (A61 : Option Addr) (c62 : Nat), (xs60, n63, n65) = s ∧ Has 64 a [(0, vP b2 (0)), (1, vI (node8)), (5, vP b38 (o39 + (node8 : Int).toNat * 3)), (6, vI (n63)), (7, vI (n65))] ∧ Mem C w [.box b2 [vP b3 (o4), vL A61 (xs60) c62] 128, .row intRep A61 c62 2 xs60 true] [.dat (sliceRep intRep) e33.Next [vL A42 e33.Next c43], .lit b38 (o39 + (node8 : Int).toNat * 3) [.bool (e33.Final), vS (e33.Letters), vL A42 (e33.Next) c43], .dat (sliceRep NodeRep) c1.d.Nodes [vL A30 c1.d.Nodes c31], .lit b3 (o4) [vL A30 (c1.d.Nodes) c31], .dat (ptrRep DawgRep) c1.d [vP b3 o4]] ∧ R64 n63 ∧ R64 n65) ?_ ?_
  ·exact ⟨c1.out, n45, 0, A6, c7, rfl, hf.keep ⟨rfl, rfl, rfl, rfl, rfl, trivial⟩, hM.pick [0, 1, 2, 3, 4] rfl, hv46, (R64_lit rfl)⟩
  rintro s o75 a w67 ⟨xs60, n63, n65, A61, c62, rfl, hf, hM, hv64, hv66⟩ h76 hd77
  replace h76 : m_spec_l07C_count_l1 e33 rc c1 xs60 n63 n65 = some o75 := h76
  unfold m_spec_l07C_count_l1 at h76
  iterate 2 refine wp_seq ?_
  refine region_pl ?_
  iterate 2 refine q_ hf rfl rfl rfl (e_move hf rfl) fun a hf => ?_
  refine q_ hf rfl rfl rfl (e_nil hf rfl) fun a hf => ?_
  refine q_ hf rfl rfl rfl (e_field hf rfl Tryd.underlying76 rfl Tryd.sizeOf31 (o' := (o39 + (node8 : Int).toNat * 3) + 2) rfl) fun a hf => ?_
  refine q_ hf rfl rfl rfl (e_load1 hf rfl Tryd.isAgg31 (hM.litCell (k := 1) (j := 2) rfl rfl rfl)) fun a hf => ?_
  have hl78 := slice_len (hM.dat (k := 0) rfl)
  refine q_ hf rfl rfl rfl (e_lenL hf (x := e33.Next) rfl Tryd.underlying31) fun a hf => ?_
  refine q_ hf rfl rfl rfl (e_lt hf (x := n65) (y := (e33.Next.length : Int)) rfl rfl) fun a hf => ?_
  refine pl_nil ?_
  refine then_n ?_
  rcases cond_some h76 with ⟨hc79, h76⟩ | ⟨hc79, h76⟩
  ·refine cond_t hf rfl hc79 ?_
   refine wp_skip ?_
   refine then_n ?_
   refine wp_seq ?_
   refine wp_block ?_
   refine region_pl ?_
   iterate 3 refine q_ hf rfl rfl rfl (e_move hf rfl) fun a hf => ?_
   refine q_ hf rfl rfl rfl (e_nil hf rfl) fun a hf => ?_
   refine q_ hf rfl rfl rfl (e_field hf rfl Tryd.underlying76 rfl Tryd.sizeOf31 (o' := (o39 + (node8 : Int).toNat * 3) + 2) rfl) fun a hf => ?_
   refine q_ hf rfl rfl rfl (e_load1 hf rfl Tryd.isAgg31 (hM.litCell (k := 1) (j := 2) rfl rfl rfl)) fun a hf => ?_
   refine q_ hf rfl rfl rfl (e_move hf rfl) fun a hf => ?_
   obtain ⟨e80, hz81, h76⟩ := bind_some h76
   obtain ⟨b85, o86, _, hA87, h82, h83, hr84, hM⟩ := hM.elem (hM.dat (k := 0) rfl) (n := 1) rfl hz81
   obtain ⟨rfl, hv88⟩ := hr84
   refine q_ hf rfl rfl rfl (e_indexAddr (A := A42) (b := b85) (o := o86) (xs := e33.Next) (i := n65) hf hA87 rfl rfl Tryd.underlying31 Tryd.sizeOf2 h82 h83) fun a hf => ?_
   refine q_ hf rfl rfl rfl (e_load1 hf rfl Tryd.isAgg2 (hM.litCell (k := 0) (j := 0) rfl rfl rfl)) fun a hf => ?_
   have hM : Mem C _ ([.box b2 [vP b3 (o4), vL A61 (xs60) c62] 128, .row intRep A61 c62 2 xs60 true] ++ []) _ := hM
   obtain ⟨y89, hz90, h76⟩ := bind_some h76
   refine pl_l hf rfl rfl rfl (w_call hf Tryd.call91 rfl (ih ⟨_, Sh C _ _, ownB _, hM.sh_lt, sub_dis, C.G, hM.g_lt, hM.g_own, hM.tabs⟩ (⟨c1.d, xs60⟩ : l07C) _ _ _ (hM.dat (k := 5) rfl) _ _ e80 hv88 hM.sub sub_dis _ hz90) ?_)
   rintro _ w94 ⟨A91, c92, rfl, hM2, hv93⟩
   obtain ⟨hM, hup96⟩ := hM.backG hM2
   dsimp only [List.cons_append, List.nil_append] at hM hup96
   clear hM2
   refine ⟨_, rfl, fun a hf => ?_⟩
   obtain ⟨z97, hz98, h76⟩ := bind_some h76
   refine q_ hf rfl rfl rfl (e_add hf rfl rfl hz98) fun a hf => ?_
   refine q_ hf rfl rfl rfl (e_assign hf rfl) fun a hf => ?_
   refine pl_nil ?_
   refine blk_n ?_
   refine then_n ?_
   refine region_pl ?_
   refine q_ hf rfl rfl rfl (e_move hf rfl) fun a hf => ?_
   obtain ⟨z99, hz100, h76⟩ := bind_some h76
   refine q_ hf rfl rfl rfl (e_add hf rfl rfl hz100) fun a hf => ?_
   refine q_ hf rfl rfl rfl (e_assign hf rfl) fun a hf => ?_
   refine pl_nil ?_
   obtain rfl := some_inj h76
   refine then_n ⟨_, rfl, ?_⟩
   exact ⟨y89.2.out, z97, z99, A91, c92, rfl, hf.keep ⟨rfl, rfl, rfl, rfl, rfl, trivial⟩, hM.pick [1, 2, 3, 4, 5] rfl, (chk_R hz98), (chk_R hz100)⟩
  refine cond_f hf rfl hc79 ?_
  refine wp_exit ?_
  refine then_x ?_
  obtain rfl := some_inj h76
  obtain rfl := hd77 _ rfl
  try dsimp only at h59
  refine then_x ?_
  refine exit_hit ?_
  obtain rfl := some_inj h59
  refine then_n ?_
  exact ⟨xs60, n63, A61, c62, rfl, hf.keep ⟨rfl, rfl, rfl, trivial⟩, hM.pick [0, 1, 2, 3, 4] rfl, hv64⟩
 rintro a w106 ⟨xs53, n56, A54, c55, rfl, hf, hM, hv57⟩
 try dsimp only at h
 refine wp_seq ?_
 refine region_pl ?_
 refine q_ hf rfl rfl rfl (e_move hf rfl) fun a hf => ?_
 refine q_ hf rfl rfl rfl (e_nil hf rfl) fun a hf => ?_
 refine q_ hf rfl rfl rfl (e_field hf rfl Tryd.underlying128 rfl Tryd.sizeOf31 (o' := 1) rfl) fun a hf => ?_
 refine q_ hf rfl rfl rfl (e_load1 hf rfl Tryd.isAgg31 (hM.boxCell (k := 0) rfl rfl)) fun a hf => ?_
 iterate 2 refine q_ hf rfl rfl rfl (e_move hf rfl) fun a hf => ?_
 obtain ⟨e107, hz108, h⟩ := bind_some h
 obtain ⟨b113, _, hA114, h109, h110, hr111, hcell112⟩ := hM.rowElemN (k := 1) rfl (n := 1) rfl hz108
 obtain ⟨rfl, hv115⟩ := hr111
 refine q_ hf rfl rfl rfl (e_indexAddr (A := A54) (b := b113) (o := 0) (xs := xs53) (i := node8) hf hA114 rfl rfl Tryd.underlying31 Tryd.sizeOf2 h109 h110) fun a hf => ?_
 obtain ⟨xs117, hz118, h⟩ := bind_some h
 refine pl_0 hf rfl rfl (w_storeElem hf hM (x := n56) (row := [vI (n56)]) (i := node8) rfl rfl rfl hA114 (k := 1) rfl rfl Tryd.sizeOf2 ⟨rfl, hv57⟩ hz118 fun w116 hM => ?_)
 dsimp only [List.set] at hM
 have hf := hf.alter (d := 59) (v := vL A54 (xs117) c55) rfl (vL_len (setL_len hz118))
 rw [vL_len (A := A54) (c := c55) (setL_len hz118)] at hM
 refine pl_nil ?_
 refine then_n ?_
 refine wp_seq ?_
 refine region_pl ?_
 refine q_ hf rfl rfl rfl (e_move hf rfl) fun a hf => ?_
 refine q_ hf rfl rfl rfl (e_assign hf rfl) fun a hf => ?_
 refine pl_nil ?_
 refine then_n ?_
 refine wp_ret ?_
 obtain rfl := some_inj h
 exact leave1 hf rfl rfl ⟨A54, c55, rfl, hM.fin, hv57⟩

theorem r_spec_l07C_count_n : ∀ n, Ct_spec_l07C_count (m_spec_l07C_count_n n)
  | 0 => fun C c1 b2 b3 o4 hp5 A6 c7 node8 hp9 hO hd r h => by cases h
  | n + 1 => r_spec_l07C_count_b _ (r_spec_l07C_count_n n)

theorem r_spec_l07C_count : Ct_spec_l07C_count (m_spec_l07C_count) := r_spec_l07C_count_n fuelN

set_option maxRecDepth 100000 in
set_option maxHeartbeats 4000000 in
theorem r_spec_l07Counts (C : Cx) (d1 : Dawg) (b2 : Nat) (o3 : Nat) (hp4 : (ptrRep DawgRep).R C.w0 C.S0 d1 [vP b2 o3]) (r : (List Int)) (h : m_spec_l07Counts d1 = some r) :
    Calls Tryd.prog 63 #[vP b2 (o3)] C.w0 fun e w => ∃ (A_1 : Option Addr), ∃ (c_1 : Nat), e = .returned (vL A_1 (r) c_1) ∧ Mem C w [.row intRep A_1 c_1 2 r true] [] := by
 have hM := Mem.begin C [.dat (ptrRep DawgRep) d1 [vP b2 o3]] ⟨hp4, trivial⟩
 refine enter Tryd.func63 rfl Tryd.ntmps63 rfl fun a hf => ?_
 unfold m_spec_l07Counts at h
 refine wp_seq ?_
 refine region_pl ?_
 refine q_ hf rfl rfl rfl (e_assign hf rfl) fun a hf => ?_
 refine pl_nil ?_
 refine then_n ?_
 refine wp_seq ?_
 refine region_pl ?_
 refine q_ hf rfl rfl rfl (e_move hf rfl) fun a hf => ?_
 refine q_ hf rfl rfl rfl (e_build hf Tryd.zeroValue128 Tryd.underlying128 (bp_128 _ Tryd.underlying128.symm) rfl (cs := #[vP b2 (o3), vL none (([] : (List Int))) 0]) (by kernel_rfl)) fun a hf => ?_
 refine pl_l hf rfl rfl rfl (w_box hf hM (cs := [vP b2 (o3), vL none (([] : (List Int))) 0]) rfl rfl fun b5 w6 hx7 hM a hf => ?_)
 refine q_ hf rfl rfl rfl (e_assign hf rfl) fun a hf => ?_
 refine pl_nil ?_
 refine then_n ?_
 obtain ⟨x12, h13, h⟩ := bind_some h
 refine seq_join (fun a w => ∃ (xs9 : (List Int)) (A10 : Option Addr) (c11 : Nat), xs9 = x12 ∧ Has 41 a [(0, vP b2 (o3)), (3, vP b5 (0))] ∧ Mem C w [.row intRep A10 c11 2 xs9 true, .box b5 [vP b2 (o3), vL A10 (xs9) c11] 128] [.dat (ptrRep DawgRep) d1 [vP b2 o3]]) ?_ ?_
 ·refine wp_seq ?_
  refine region_pl ?_
  refine q_ hf rfl rfl rfl (e_move hf rfl) fun a hf => ?_
  refine q_ hf rfl rfl rfl (e_nil hf rfl) fun a hf => ?_
  obtain ⟨_, hr14, hM⟩ := hM.deref (hM.dat (k := 0) rfl)
  obtain ⟨A15, c16, rfl, hv17⟩ := DawgRep_open hr14
  have hM := hM.add (y := .dat (sliceRep NodeRep) d1.Nodes [vL A15 d1.Nodes c16]) hv17
  refine q_ hf rfl rfl rfl (e_field hf rfl Tryd.underlying26 rfl Tryd.sizeOf24 (o' := o3 + 0) rfl) fun a hf => ?_
  refine q_ hf rfl rfl rfl (e_load1 hf rfl Tryd.isAgg24 (hM.litCell (k := 1) (j := 0) rfl rfl rfl)) fun a hf => ?_
  have hl18 := slice_len (hM.dat (k := 0) rfl)
  refine q_ hf rfl rfl rfl (e_lenL hf (x := d1.Nodes) rfl Tryd.underlying24) fun a hf => ?_
  refine q_ hf rfl rfl rfl (e_move hf rfl) fun a hf => ?_
  refine pl_nil ?_
  refine then_n ?_
  refine wp_block ?_
  have hM := hM.nilRow intRep 2
  obtain ⟨x28, h29, h13⟩ := bind_some h13
  refine wp_loopM h29 (fun s a w => ∃ (xs19 : (List Int)) (n22 : Int) (A20 : Option Addr) (c21 : Nat), (xs19, n22) = s ∧ Has 41 a [(0, vP b2 (o3)), (3, vP b5 (0)), (12, vI ((d1.Nodes.length : Int))), (13, vI (n22))] ∧ Mem C w [.row intRep A20 c21 2 xs19 true, .box b5 [vP b2 (o3), vL A20 (xs19) c21] 128] [.dat (sliceRep NodeRep) d1.Nodes [vL A15 d1.Nodes c16], .lit b2 (o3) [vL A15 (d1.Nodes) c16], .dat (ptrRep DawgRep) d1 [vP b2 o3]] ∧ R64 n22) ?_ ?_
  ·exact ⟨([] : (List Int)), 0, none, 0, rfl, hf.keep ⟨rfl, rfl, rfl, rfl, trivial⟩, hM.pick [0, 1, 2] rfl, (R64_lit rfl)⟩
  rintro s o30 a w24 ⟨xs19, n22, A20, c21, rfl, hf, hM, hv23⟩ h31 hd32
  replace h31 : m_spec_l07Counts_l1 d1 xs19 n22 = some o30 := h31
  unfold m_spec_l07Counts_l1 at h31
  refine wp_seq ?_
  refine region_pl ?_
  refine q_ hf rfl rfl rfl (e_lt hf (x := n22) (y := (d1.Nodes.length : Int)) rfl rfl) fun a hf => ?_
  refine pl_nil ?_
  refine then_n ?_
  refine wp_seq ?_
  rcases cond_some h31 with ⟨hc33, h31⟩ | ⟨hc33, h31⟩
  ·refine cond_t hf rfl hc33 ?_
   refine wp_skip ?_
   refine then_n ?_
   refine wp_seq ?_
   refine wp_block ?_
   refine region_pl ?_
   iterate 2 refine q_ hf rfl rfl rfl (e_move hf rfl) fun a hf => ?_
   refine q_ hf rfl rfl rfl (e_nil hf rfl) fun a hf => ?_
   refine q_ hf rfl rfl rfl (e_field hf rfl Tryd.underlying128 rfl Tryd.sizeOf31 (o' := 1) rfl) fun a hf => ?_
   refine q_ hf rfl rfl rfl (e_load1 hf rfl Tryd.isAgg31 (hM.boxCell (k := 1) rfl rfl)) fun a hf => ?_
   refine pl_l hf rfl rfl rfl (w_slice hf hM (K := intRep) (xs := ([(-1)] : (List Int))) (os := [.const (.int .i64 (-1))]) Tryd.underlying31 ei_2 rfl rfl rfl rfl rfl ⟨⟨[vI ((-1))], rfl, ⟨rfl, (R64_lit rfl)⟩⟩, trivial⟩ rfl fun b34 w35 hx36 hM a hf => ?_)
   obtain ⟨xs37, hz38, h31⟩ := bind_some h31
   refine pl_l hf rfl rfl rfl (w_append hf hM Tryd.underlying31 ei_2 rfl rfl rfl (k := 1) rfl (hM.srcRow (k := 0) rfl) hz38 fun A39 c40 w41 hM a hf => ?_)
   dsimp only [List.set] at hM
   refine q_ hf rfl rfl rfl (e_nil hf rfl) fun a hf => ?_
   refine q_ hf rfl rfl rfl (e_field hf rfl Tryd.underlying128 rfl Tryd.sizeOf31 (o' := 1) rfl) fun a hf => ?_
   refine pl_0 hf rfl rfl (w_store hf hM (us := [vL A39 (xs37) c40]) (cs' := [vP b2 (o3), vL A39 (xs37) c40]) rfl rfl (k := 2) rfl rfl Tryd.sizeOf31 rfl rfl rfl fun w44 hM => ?_)
   dsimp only [List.set] at hM
   refine pl_nil ?_
   refine blk_n ?_
   refine then_n ?_
   refine region_pl ?_
   obtain ⟨z47, hz48, h31⟩ := bind_some h31
   refine q_ hf rfl rfl rfl (e_add hf rfl rfl hz48) fun a hf => ?_
   refine q_ hf rfl rfl rfl (e_move hf rfl) fun a hf => ?_
   refine pl_nil ?_
   obtain rfl := some_inj h31
   refine then_n ⟨_, rfl, ?_⟩
   exact ⟨xs37, z47, A39, c40, rfl, hf.keep ⟨rfl, rfl, rfl, rfl, trivial⟩, (hM.drop (.cons _ (.cons_cons _ (.cons_cons _ .slnil)))).pick [0, 1, 2] rfl, (chk_R hz48)⟩
  refine cond_f hf rfl hc33 ?_
  refine wp_exit ?_
  refine then_x ?_
  obtain rfl := some_inj h31
  obtain rfl := hd32 _ rfl
  try dsimp only at h13
  refine then_x ?_
  refine exit_hit ?_
  obtain rfl := some_inj h13
  refine then_n ?_
  exact ⟨xs19, A20, c21, rfl, hf.keep ⟨rfl, rfl, trivial⟩, hM.pick [2] rfl⟩
 rintro a w54 ⟨xs9, A10, c11, rfl, hf, hM⟩
 try dsimp only at h
 obtain ⟨x58, h59, h⟩ := bind_some h
 refine seq_join (fun a w => ∃ (xs55 : (List Int)) (A56 : Option Addr) (c57 : Nat), xs55 = x58 ∧ Has 41 a [(3, vP b5 (0))] ∧ Mem C w [.row intRep A56 c57 2 xs55 true, .box b5 [vP b2 (o3), vL A56 (xs55) c57] 128] [.dat (ptrRep DawgRep) d1 [vP b2 o3]]) ?_ ?_
 ·refine wp_seq ?_
  refine region_pl ?_
  refine q_ hf rfl rfl rfl (e_assign hf rfl) fun a hf => ?_
  refine pl_nil ?_
  refine then_n ?_
  refine wp_block ?_
  obtain ⟨x69, h70, h59⟩ := bind_some h59
  refine wp_loopM h70 (fun s a w => ∃ (xs60 : (List Int)) (n63 : Int) (A61 : Option Addr) (c62 : Nat), (xs60, n63) = s ∧ Has 41 a [(0, vP b2 (o3)), (3, vP b5 (0)), (4, vI (n63))] ∧ Mem C w [.row intRep A61 c62 2 xs60 true, .box b5 [vP b2 (o3), vL A61 (xs60) c62] 128] [.dat (ptrRep DawgRep) d1 [vP b2 o3]] ∧ R64 n63) ?_ ?_
  ·exact ⟨xs9, 0, A10, c11, rfl, hf.keep ⟨rfl, rfl, rfl, trivial⟩, hM.pick [0] rfl, (R64_lit rfl)⟩
  rintro s o71 a w65 ⟨xs60, n63, A61, c62, rfl, hf, hM, hv64⟩ h72 hd73
  replace h72 : m_spec_l07Counts_l2 d1 xs60 n63 = some o71 := h72
  unfold m_spec_l07Counts_l2 at h72
  iterate 2 refine wp_seq ?_
  refine region_pl ?_
  iterate 2 refine q_ hf rfl rfl rfl (e_move hf rfl) fun a hf => ?_
  refine q_ hf rfl rfl rfl (e_nil hf rfl) fun a hf => ?_
  obtain ⟨_, hr74, hM⟩ := hM.deref (hM.dat (k := 0) rfl)
  obtain ⟨A75, c76, rfl, hv77⟩ := DawgRep_open hr74
  have hM := hM.add (y := .dat (sliceRep NodeRep) d1.Nodes [vL A75 d1.Nodes c76]) hv77
  refine q_ hf rfl rfl rfl (e_field hf rfl Tryd.underlying26 rfl Tryd.sizeOf24 (o' := o3 + 0) rfl) fun a hf => ?_
  refine q_ hf rfl rfl rfl (e_load1 hf rfl Tryd.isAgg24 (hM.litCell (k := 1) (j := 0) rfl rfl rfl)) fun a hf => ?_
  have hl78 := slice_len (hM.dat (k := 0) rfl)
  refine q_ hf rfl rfl rfl (e_lenL hf (x := d1.Nodes) rfl Tryd.underlying24) fun a hf => ?_
  refine q_ hf rfl rfl rfl (e_lt hf (x := n63) (y := (d1.Nodes.length : Int)) rfl rfl) fun a hf => ?_
  refine pl_nil ?_
  refine then_n ?_
  rcases cond_some h72 with ⟨hc79, h72⟩ | ⟨hc79, h72⟩
  ·refine cond_t hf rfl hc79 ?_
   refine wp_skip ?_
   refine then_n ?_
   refine wp_seq ?_
   refine wp_block ?_
   refine region_pl ?_
   iterate 2 refine q_ hf rfl rfl rfl (e_move hf rfl) fun a hf => ?_
   have hM := hM.front (k := 0) rfl
   dsimp only [List.eraseIdx] at hM
   have hM := hM.front (k := 1) rfl
   dsimp only [List.eraseIdx] at hM
   have hM : Mem C _ ([.box b5 [vP b2 (o3), vL A61 (xs60) c62] 128, .row intRep A61 c62 2 xs60 true] ++ []) _ := hM
   obtain ⟨y80, hz81, h72⟩ := bind_some h72
   refine pl_l hf rfl rfl rfl (w_call hf Tryd.call91 rfl (r_spec_l07C_count ⟨_, Sh C _ _, ownB _, hM.sh_lt, sub_dis, C.G, hM.g_lt, hM.g_own, hM.tabs⟩ (⟨d1, xs60⟩ : l07C) _ _ _ (hM.dat (k := 2) rfl) _ _ n63 hv64 hM.sub sub_dis _ hz81) ?_)
   rintro _ w85 ⟨A82, c83, rfl, hM2, hv84⟩
   obtain ⟨hM, hup87⟩ := hM.backG hM2
   dsimp only [List.cons_append, List.nil_append] at hM hup87
   clear hM2
   refine ⟨_, rfl, fun a hf => ?_⟩
   refine pl_nil ?_
   refine blk_n ?_
   refine then_n ?_
   refine region_pl ?_
   refine q_ hf rfl rfl rfl (e_move hf rfl) fun a hf => ?_
   obtain ⟨z88, hz89, h72⟩ := bind_some h72
   refine q_ hf rfl rfl rfl (e_add hf rfl rfl hz89) fun a hf => ?_
   refine q_ hf rfl rfl rfl (e_assign hf rfl) fun a hf => ?_
   refine pl_nil ?_
   obtain rfl := some_inj h72
   refine then_n ⟨_, rfl, ?_⟩
   have hM := hM.front (k := 0) rfl
   dsimp only [List.eraseIdx] at hM
   have hM := hM.front (k := 1) rfl
   dsimp only [List.eraseIdx] at hM
   exact ⟨y80.2.out, z88, A82, c83, rfl, hf.keep ⟨rfl, rfl, rfl, trivial⟩, hM.pick [2] rfl, (chk_R hz89)⟩
  refine cond_f hf rfl hc79 ?_
  refine wp_exit ?_
  refine then_x ?_
  obtain rfl := some_inj h72
  obtain rfl := hd73 _ rfl
  try dsimp only at h59
  refine then_x ?_
  refine exit_hit ?_
  obtain rfl := some_inj h59
  refine then_n ?_
  exact ⟨xs60, A61, c62, rfl, hf.keep ⟨rfl, trivial⟩, hM.pick [2] rfl⟩
 rintro a w95 ⟨xs55, A56, c57, rfl, hf, hM⟩
 try dsimp only at h
 refine wp_seq ?_
 refine region_pl ?_
 refine q_ hf rfl rfl rfl (e_move hf rfl) fun a hf => ?_
 refine q_ hf rfl rfl rfl (e_nil hf rfl) fun a hf => ?_
 refine q_ hf rfl rfl rfl (e_field hf rfl Tryd.underlying128 rfl Tryd.sizeOf31 (o' := 1) rfl) fun a hf => ?_
 refine q_ hf rfl rfl rfl (e_load1 hf rfl Tryd.isAgg31 (hM.boxCell (k := 1) rfl rfl)) fun a hf => ?_
 refine q_ hf rfl rfl rfl (e_assign hf rfl) fun a hf => ?_
 refine pl_nil ?_
 refine then_n ?_
 refine wp_ret ?_
 obtain rfl := some_inj h
 have hM := hM.outs (own' := [.row intRep A56 c57 2 xs55 true]) 1 rfl
 exact leave1 hf rfl rfl ⟨A56, c57, rfl, hM.fin⟩

set_option maxRecDepth 100000 in
set_option maxHeartbeats 4000000 in
theorem r_spec_l07Less (C : Cx) (d1 : Dawg) (b2 : Nat) (o3 : Nat) (hp4 : (ptrRep DawgRep).R C.w0 C.S0 d1 [vP b2 o3]) (s5 : Str) (hp6 : s5.length ≤ maxLen) (r : Int) (h : m_spec_l07Less d1 s5 = some r) :
    Calls Tryd.prog 67 #[vP b2 (o3), vS (s5)] C.w0 fun e w => e = .returned (vI (r)) ∧ Mem C w [] [] ∧ R64 r := by
 have hM := Mem.begin C [.dat (ptrRep DawgRep) d1 [vP b2 o3]] ⟨hp4, trivial⟩
 refine enter Tryd.func67 rfl Tryd.ntmps67 rfl fun a hf => ?_
 unfold m_spec_l07Less at h
 refine wp_seq ?_
 refine region_pl ?_
 refine q_ hf rfl rfl rfl (e_assign hf rfl) fun a hf => ?_
 refine pl_nil ?_
 refine then_n ?_
 refine wp_seq ?_
 refine region_pl ?_
 refine q_ hf rfl rfl rfl (e_move hf rfl) fun a hf => ?_
 obtain ⟨y7, hz8, h⟩ := bind_some h
 refine pl_l hf rfl rfl rfl (w_call hf Tryd.call63 rfl (r_spec_l07Counts ⟨_, Sh C _ _, none_, hM.sh_lt, none_not, C.G, hM.g_lt, g_none, hM.tabs⟩ d1 _ _ (hM.dat (k := 0) rfl) _ hz8) ?_)
 rintro _ w11 ⟨A9, c10, rfl, hM2⟩
 obtain ⟨hM, hx12, hup13⟩ := hM.back hM2
 dsimp only [List.cons_append, List.nil_append] at hM hup13
 clear hM2
 refine ⟨_, rfl, fun a hf => ?_⟩
 refine q_ hf rfl rfl rfl (e_assign hf rfl) fun a hf => ?_
 refine pl_nil ?_
 refine then_n ?_
 refine wp_seq ?_
 refine region_pl ?_
 refine q_ hf rfl rfl rfl (e_assign hf rfl) fun a hf => ?_
 refine pl_nil ?_
 refine then_n ?_
 refine wp_seq ?_
 refine region_pl ?_
 refine q_ hf rfl rfl rfl (e_assign hf rfl) fun a hf => ?_
 refine pl_nil ?_
 refine then_n ?_
 obtain ⟨x16, h17, h⟩ := bind_some h
 refine seq_join (fun a w => ∃ (i14 : Int), (.inl i14) = x16 ∧ Has 85 a [(6, vI (i14))] ∧ Mem C w [.row intRep A9 c10 2 y7 true] [.dat (ptrRep DawgRep) d1 [vP b2 o3]] ∧ R64 i14) ?_ ?_
 ·refine wp_seq ?_
  refine region_pl ?_
  refine q_ hf rfl rfl rfl (e_assign hf rfl) fun a hf => ?_
  refine pl_nil ?_
  refine then_n ?_
  refine wp_block ?_
  obtain ⟨x27, h28, h17⟩ := bind_some h17
  refine wp_loopM h28 (fun s a w => ∃ (i18 : Int) (x20 : Int) (next22 : Int), (i18, x20, next22) = s ∧ Has 85 a [(0, vP b2 (o3)), (1, vS (s5)), (5, vL A9 (y7) c10), (6, vI (i18)), (7, vI (x20)), (8, vI (next22))] ∧ Mem C w [.row intRep A9 c10 2 y7 true] [.dat (ptrRep DawgRep) d1 [vP b2 o3]] ∧ R64 i18 ∧ R64 x20 ∧ R64 next22) ?_ ?_
  ·exact ⟨0, 0, 0, rfl, hf.keep ⟨rfl, rfl, rfl, rfl, rfl, rfl, trivial⟩, hM.pick [0] rfl, (R64_lit rfl), (R64_lit rfl), (R64_lit rfl)⟩
  rintro s o29 a w24 ⟨i18, x20, next22, rfl, hf, hM, hv19, hv21, hv23⟩ h30 hd31
  replace h30 : m_spec_l07Less_l1 s5 d1 y7 i18 x20 next22 = some o29 := h30
  unfold m_spec_l07Less_l1 at h30
  iterate 2 refine wp_seq ?_
  refine region_pl ?_
  iterate 2 refine q_ hf rfl rfl rfl (e_move hf rfl) fun a hf => ?_
  refine q_ hf rfl rfl rfl (e_lenS hf (x := s5) rfl Tryd.underlying9) fun a hf => ?_
  refine q_ hf rfl rfl rfl (e_lt hf (x := next22) (y := (s5.length : Int)) rfl rfl) fun a hf => ?_
  refine pl_nil ?_
  refine then_n ?_
  rcases cond_some h30 with ⟨hc32, h30⟩ | ⟨hc32, h30⟩
  ·refine cond_t hf rfl hc32 ?_
   refine wp_skip ?_
   refine then_n ?_
   obtain ⟨x37, h38, h30⟩ := bind_some h30
   refine seq_join (fun a w => ∃ (i33 : Int) (x35 : Int), (.inl (i33, x35)) = x37 ∧ Has 85 a [(0, vP b2 (o3)), (1, vS (s5)), (5, vL A9 (y7) c10), (6, vI (i33)), (7, vI (x35)), (8, vI (next22))] ∧ Mem C w [.row intRep A9 c10 2 y7 true] [.dat (ptrRep DawgRep) d1 [vP b2 o3]] ∧ R64 i33 ∧ R64 x35) ?_ ?_
   ·refine wp_block ?_
    refine wp_seq ?_
    refine region_pl ?_
    refine q_ hf rfl rfl rfl (e_move hf rfl) fun a hf => ?_
    refine q_ hf rfl rfl rfl (e_nil hf rfl) fun a hf => ?_
    obtain ⟨_, hr39, hM⟩ := hM.deref (hM.dat (k := 0) rfl)
    obtain ⟨A40, c41, rfl, hv42⟩ := DawgRep_open hr39
    have hM := hM.add (y := .dat (sliceRep NodeRep) d1.Nodes [vL A40 d1.Nodes c41]) hv42
    refine q_ hf rfl rfl rfl (e_field hf rfl Tryd.underlying26 rfl Tryd.sizeOf24 (o' := o3 + 0) rfl) fun a hf => ?_
    refine q_ hf rfl rfl rfl (e_load1 hf rfl Tryd.isAgg24 (hM.litCell (k := 1) (j := 0) rfl rfl rfl)) fun a hf => ?_
    refine q_ hf rfl rfl rfl (e_move hf rfl) fun a hf => ?_
    obtain ⟨e43, hz44, h38⟩ := bind_some h38
    obtain ⟨b48, o49, _, hA50, h45, h46, hr47, hM⟩ := hM.elem (hM.dat (k := 0) rfl) (n := 3) rfl hz44
    obtain ⟨A52, c53, rfl, hv51, hv54⟩ := NodeRep_open hr47
    have hM := hM.add (y := .dat (sliceRep intRep) e43.Next [vL A52 e43.Next c53]) hv54
    refine q_ hf rfl rfl rfl (e_indexAddr (A := A40) (b := b48) (o := o49) (xs := d1.Nodes) (i := x20) hf hA50 rfl rfl Tryd.underlying24 Tryd.sizeOf76 h45 h46) fun a hf => ?_
    refine q_ hf rfl rfl rfl (e_assign hf rfl) fun a hf => ?_
    refine pl_nil ?_
    refine then_n ?_
    obtain ⟨x57, h58, h38⟩ := bind_some h38
    refine seq_join (fun a w => ∃ (i55 : Int), i55 = x57 ∧ Has 85 a [(0, vP b2 (o3)), (1, vS (s5)), (5, vL A9 (y7) c10), (6, vI (i55)), (8, vI (next22)), (9, vP b48 (o49 + (x20 : Int).toNat * 3))] ∧ Mem C w [.row intRep A9 c10 2 y7 true] [.dat (sliceRep intRep) e43.Next [vL A52 e43.Next c53], .lit b48 (o49 + (x20 : Int).toNat * 3) [.bool (e43.Final), vS (e43.Letters), vL A52 (e43.Next) c53], .dat (sliceRep NodeRep) d1.Nodes [vL A40 d1.Nodes c41], .lit b2 (o3) [vL A40 (d1.Nodes) c41], .dat (ptrRep DawgRep) d1 [vP b2 o3]] ∧ R64 i55) ?_ ?_
    ·refine wp_seq ?_
     refine region_pl ?_
     refine q_ hf rfl rfl rfl (e_move hf rfl) fun a hf => ?_
     refine q_ hf rfl rfl rfl (e_nil hf rfl) fun a hf => ?_
     refine q_ hf rfl rfl rfl (e_field hf rfl Tryd.underlying76 rfl Tryd.sizeOf4 (o' := (o49 + (x20 : Int).toNat * 3) + 0) rfl) fun a hf => ?_
     refine q_ hf rfl rfl rfl (e_load1 hf rfl Tryd.isAgg4 (hM.litCell (k := 1) (j := 0) rfl rfl rfl)) fun a hf => ?_
     refine pl_nil ?_
     refine then_n ?_
     rcases cond_some h58 with ⟨hc59, h58⟩ | ⟨hc59, h58⟩
     ·refine cond_t hf rfl hc59 ?_
      refine region_pl ?_
      refine q_ hf rfl rfl rfl (e_move hf rfl) fun a hf => ?_
      obtain ⟨z60, hz61, h58⟩ := bind_some h58
      refine q_ hf rfl rfl rfl (e_add hf rfl rfl hz61) fun a hf => ?_
      refine q_ hf rfl rfl rfl (e_assign hf rfl) fun a hf => ?_
      refine pl_nil ?_
      obtain rfl := some_inj h58
      refine then_n ?_
      exact ⟨z60, rfl, hf.keep ⟨rfl, rfl, rfl, rfl, rfl, rfl, trivial⟩, hM.pick [0, 1, 2, 3, 4] rfl, (chk_R hz61)⟩
     refine cond_f hf rfl hc59 ?_
     refine wp_skip ?_
     obtain rfl := some_inj h58
     refine then_n ?_
     exact ⟨i18, rfl, hf.keep ⟨rfl, rfl, rfl, rfl, rfl, rfl, trivial⟩, hM.pick [0, 1, 2, 3, 4] rfl, hv19⟩
    rintro a w64 ⟨i55, rfl, hf, hM, hv56⟩
    try dsimp only at h38
    refine wp_seq ?_
    refine region_pl ?_
    refine q_ hf rfl rfl rfl (e_assign hf rfl) fun a hf => ?_
    refine pl_nil ?_
    refine then_n ?_
    obtain ⟨x69, h70, h38⟩ := bind_some h38
    refine seq_join (fun a w => ∃ (n65 : Int) (i67 : Int), (n65, i67) = x69 ∧ Has 85 a [(0, vP b2 (o3)), (1, vS (s5)), (5, vL A9 (y7) c10), (6, vI (i67)), (8, vI (next22)), (10, vI (n65))] ∧ Mem C w [.row intRep A9 c10 2 y7 true] [.dat (sliceRep intRep) e43.Next [vL A52 e43.Next c53], .lit b48 (o49 + (x20 : Int).toNat * 3) [.bool (e43.Final), vS (e43.Letters), vL A52 (e43.Next) c53], .dat (sliceRep NodeRep) d1.Nodes [vL A40 d1.Nodes c41], .lit b2 (o3) [vL A40 (d1.Nodes) c41], .dat (ptrRep DawgRep) d1 [vP b2 o3]] ∧ R64 n65 ∧ R64 i67) ?_ ?_
    ·refine wp_seq ?_
     refine region_pl ?_
     refine q_ hf rfl rfl rfl (e_assign hf rfl) fun a hf => ?_
     refine pl_nil ?_
     refine then_n ?_
     refine wp_block ?_
     obtain ⟨x82, h83, h70⟩ := bind_some h70
     refine wp_loopM h83 (fun s a w => ∃ (n71 : Int) (n73 : Int) (i75 : Int), (n71, n73, i75) = s ∧ Has 85 a [(0, vP b2 (o3)), (1, vS (s5)), (5, vL A9 (y7) c10), (6, vI (i75)), (8, vI (next22)), (9, vP b48 (o49 + (x20 : Int).toNat * 3)), (10, vI (n71)), (11, vI (n73))] ∧ Mem C w [.row intRep A9 c10 2 y7 true] [.dat (sliceRep intRep) e43.Next [vL A52 e43.Next c53], .lit b48 (o49 + (x20 : Int).toNat * 3) [.bool (e43.Final), vS (e43.Letters), vL A52 (e43.Next) c53], .dat (sliceRep NodeRep) d1.Nodes [vL A40 d1.Nodes c41], .lit b2 (o3) [vL A40 (d1.Nodes) c41], .dat (ptrRep DawgRep) d1 [vP b2 o3]] ∧ R64 n71 ∧ R64 n73 ∧ R64 i75) ?_ ?_
     ·exact ⟨(-1), 0, i55, rfl, hf.keep ⟨rfl, rfl, rfl, rfl, rfl, rfl, rfl, rfl, trivial⟩, hM.pick [0, 1, 2, 3, 4] rfl, (R64_lit rfl), (R64_lit rfl), hv56⟩
     rintro s o84 a w77 ⟨n71, n73, i75, rfl, hf, hM, hv72, hv74, hv76⟩ h85 hd86
     replace h85 : m_spec_l07Less_l2 e43 s5 next22 y7 n71 n73 i75 = some o84 := h85
     unfold m_spec_l07Less_l2 at h85
     iterate 2 refine wp_seq ?_
     refine region_pl ?_
     iterate 2 refine q_ hf rfl rfl rfl (e_move hf rfl) fun a hf => ?_
     refine q_ hf rfl rfl rfl (e_nil hf rfl) fun a hf => ?_
     refine q_ hf rfl rfl rfl (e_field hf rfl Tryd.underlying76 rfl Tryd.sizeOf31 (o' := (o49 + (x20 : Int).toNat * 3) + 2) rfl) fun a hf => ?_
     refine q_ hf rfl rfl rfl (e_load1 hf rfl Tryd.isAgg31 (hM.litCell (k := 1) (j := 2) rfl rfl rfl)) fun a hf => ?_
     have hl87 := slice_len (hM.dat (k := 0) rfl)
     refine q_ hf rfl rfl rfl (e_lenL hf (x := e43.Next) rfl Tryd.underlying31) fun a hf => ?_
     refine q_ hf rfl rfl rfl (e_lt hf (x := n73) (y := (e43.Next.length : Int)) rfl rfl) fun a hf => ?_
     refine pl_nil ?_
     refine then_n ?_
     rcases cond_some h85 with ⟨hc88, h85⟩ | ⟨hc88, h85⟩
     ·refine cond_t hf rfl hc88 ?_
      refine wp_skip ?_
      refine then_n ?_
      obtain ⟨x93, h94, h85⟩ := bind_some h85
      refine seq_join (fun a w => ∃ (n89 : Int) (i91 : Int), (n89, i91) = x93 ∧ Has 85 a [(0, vP b2 (o3)), (1, vS (s5)), (5, vL A9 (y7) c10), (6, vI (i91)), (8, vI (next22)), (9, vP b48 (o49 + (x20 : Int).toNat * 3)), (10, vI (n89)), (11, vI (n73))] ∧ Mem C w [.row intRep A9 c10 2 y7 true] [.dat (sliceRep intRep) e43.Next [vL A52 e43.Next c53], .lit b48 (o49 + (x20 : Int).toNat * 3) [.bool (e43.Final), vS (e43.Letters), vL A52 (e43.Next) c53], .dat (sliceRep NodeRep) d1.Nodes [vL A40 d1.Nodes c41], .lit b2 (o3) [vL A40 (d1.Nodes) c41], .dat (ptrRep DawgRep) d1 [vP b2 o3]] ∧ R64 n89 ∧ R64 i91) ?_ ?_
      ·refine wp_block ?_
       obtain ⟨x97, h98, h94⟩ := bind_some h94
       refine seq_join (fun a w => ∃ (i95 : Int), i95 = x97 ∧ Has 85 a [(0, vP b2 (o3)), (1, vS (s5)), (5, vL A9 (y7) c10), (6, vI (i95)), (8, vI (next22)), (9, vP b48 (o49 + (x20 : Int).toNat * 3)), (10, vI (n71)), (11, vI (n73))] ∧ Mem C w [.row intRep A9 c10 2 y7 true] [.dat (sliceRep intRep) e43.Next [vL A52 e43.Next c53], .lit b48 (o49 + (x20 : Int).toNat * 3) [.bool (e43.Final), vS (e43.Letters), vL A52 (e43.Next) c53], .dat (sliceRep NodeRep) d1.Nodes [vL A40 d1.Nodes c41], .lit b2 (o3) [vL A40 (d1.Nodes) c41], .dat (ptrRep DawgRep) d1 [vP b2 o3]] ∧ R64 i95) ?_ ?_
       ·refine wp_seq ?_
        obtain ⟨w99, hw⟩ : ∃ x, x = w77.drew := ⟨_, rfl⟩
        refine region_pi (.q 0 (.q 1 (.q 2 (.q 3 (.q 4 (.q 5 (.q 6 (.q 7 (.q 8 (.q 9 (.nil))))))))))) (Ext w99) rfl (by kernel_rfl) ?_
        have hM := hM.drew
        rw [← hw] at hM ⊢
        clear hw
        refine pi_q hf rfl rfl rfl rfl (Ext.refl _) (e_move hf rfl) fun a hf => ?_
        refine pi_q hf rfl rfl rfl rfl (Ext.refl _) (e_nil hf rfl) fun a hf => ?_
        refine pi_q hf rfl rfl rfl rfl (Ext.refl _) (e_field hf rfl Tryd.underlying76 rfl Tryd.sizeOf9 (o' := (o49 + (x20 : Int).toNat * 3) + 1) rfl) fun a hf => ?_
        refine pi_q hf rfl rfl rfl rfl (Ext.refl _) (e_load1 hf rfl Tryd.isAgg9 (hM.litCell (k := 1) (j := 1) rfl rfl rfl)) fun a hf => ?_
        refine pi_q hf rfl rfl rfl rfl (Ext.refl _) (e_move hf rfl) fun a hf => ?_
        obtain ⟨c100, hz101, h98⟩ := bind_some h98
        refine pi_q hf rfl rfl rfl rfl (Ext.refl _) (e_indexS hf (x := e43.Letters) rfl rfl Tryd.underlying9 hz101) fun a hf => ?_
        iterate 2 refine pi_q hf rfl rfl rfl rfl (Ext.refl _) (e_move hf rfl) fun a hf => ?_
        obtain ⟨c102, hz103, h98⟩ := bind_some h98
        refine pi_q hf rfl rfl rfl rfl (Ext.refl _) (e_indexS hf (x := s5) rfl rfl Tryd.underlying9 hz103) fun a hf => ?_
        refine pi_q hf rfl rfl rfl rfl (Ext.refl _) (e_ltB hf (x := c100) (y := c102) rfl rfl) fun a hf => ?_
        refine pi_nil ?_
        refine then_n ?_
        rcases cond_some h98 with ⟨hc104, h98⟩ | ⟨hc104, h98⟩
        ·refine cond_t hf rfl hc104 ?_
         refine region_pl ?_
         iterate 3 refine q_ hf rfl rfl rfl (e_move hf rfl) fun a hf => ?_
         refine q_ hf rfl rfl rfl (e_nil hf rfl) fun a hf => ?_
         refine q_ hf rfl rfl rfl (e_field hf rfl Tryd.underlying76 rfl Tryd.sizeOf31 (o' := (o49 + (x20 : Int).toNat * 3) + 2) rfl) fun a hf => ?_
         refine q_ hf rfl rfl rfl (e_load1 hf rfl Tryd.isAgg31 (hM.litCell (k := 1) (j := 2) rfl rfl rfl)) fun a hf => ?_
         refine q_ hf rfl rfl rfl (e_move hf rfl) fun a hf => ?_
         obtain ⟨e105, hz106, h98⟩ := bind_some h98
         obtain ⟨b110, o111, _, hA112, h107, h108, hr109, hM⟩ := hM.elem (hM.dat (k := 0) rfl) (n := 1) rfl hz106
         obtain ⟨rfl, hv113⟩ := hr109
         refine q_ hf rfl rfl rfl (e_indexAddr (A := A52) (b := b110) (o := o111) (xs := e43.Next) (i := n73) hf hA112 rfl rfl Tryd.underlying31 Tryd.sizeOf2 h107 h108) fun a hf => ?_
         refine q_ hf rfl rfl rfl (e_load1 hf rfl Tryd.isAgg2 (hM.litCell (k := 0) (j := 0) rfl rfl rfl)) fun a hf => ?_
         obtain ⟨e114, hz115, h98⟩ := bind_some h98
         obtain ⟨b120, _, hA121, h116, h117, hr118, hcell119⟩ := hM.rowElemN (k := 0) rfl (n := 1) rfl hz115
         obtain ⟨rfl, hv122⟩ := hr118
         refine q_ hf rfl rfl rfl (e_indexAddr (A := A9) (b := b120) (o := 0) (xs := y7) (i := e105) hf hA121 rfl rfl Tryd.underlying31 Tryd.sizeOf2 h116 h117) fun a hf => ?_
         refine q_ hf rfl rfl rfl (e_load1 hf rfl Tryd.isAgg2 (hcell119 0 _ rfl)) fun a hf => ?_
         obtain ⟨z123, hz124, h98⟩ := bind_some h98
         refine q_ hf rfl rfl rfl (e_add hf rfl rfl hz124) fun a hf => ?_
         refine q_ hf rfl rfl rfl (e_assign hf rfl) fun a hf => ?_
         refine pl_nil ?_
         obtain rfl := some_inj h98
         refine then_n ?_
         exact ⟨z123, rfl, hf.keep ⟨rfl, rfl, rfl, rfl, rfl, rfl, rfl, rfl, trivial⟩, hM.pick [1, 2, 3, 4, 5] rfl, (chk_R hz124)⟩
        refine cond_f hf rfl hc104 ?_
        refine wp_skip ?_
        obtain rfl := some_inj h98
        refine then_n ?_
        exact ⟨i75, rfl, hf.keep ⟨rfl, rfl, rfl, rfl, rfl, rfl, rfl, rfl, trivial⟩, hM.pick [0, 1, 2, 3, 4] rfl, hv76⟩
       rintro a w127 ⟨i95, rfl, hf, hM, hv96⟩
       try dsimp only at h94
       refine wp_seq ?_
       obtain ⟨w128, hw⟩ : ∃ x, x = w127.drew := ⟨_, rfl⟩
       refine region_pi (.q 0 (.q 1 (.q 2 (.q 3 (.q 4 (.q 5 (.q 6 (.q 7 (.q 8 (.q 9 (.nil))))))))))) (Ext w128) rfl (by kernel_rfl) ?_
       have hM := hM.drew
       rw [← hw] at hM ⊢
       clear hw
       refine pi_q hf rfl rfl rfl rfl (Ext.refl _) (e_move hf rfl) fun a hf => ?_
       refine pi_q hf rfl rfl rfl rfl (Ext.refl _) (e_nil hf rfl) fun a hf => ?_
       refine pi_q hf rfl rfl rfl rfl (Ext.refl _) (e_field hf rfl Tryd.underlying76 rfl Tryd.sizeOf9 (o' := (o49 + (x20 : Int).toNat * 3) + 1) rfl) fun a hf => ?_
       refine pi_q hf rfl rfl rfl rfl (Ext.refl _) (e_load1 hf rfl Tryd.isAgg9 (hM.litCell (k := 1) (j := 1) rfl rfl rfl)) fun a hf => ?_
       refine pi_q hf rfl rfl rfl rfl (Ext.refl _) (e_move hf rfl) fun a hf => ?_
       obtain ⟨c129, hz130, h94⟩ := bind_some h94
       refine pi_q hf rfl rfl rfl rfl (Ext.refl _) (e_indexS hf (x := e43.Letters) rfl rfl Tryd.underlying9 hz130) fun a hf => ?_
       iterate 2 refine pi_q hf rfl rfl rfl rfl (Ext.refl _) (e_move hf rfl) fun a hf => ?_
       obtain ⟨c131, hz132, h94⟩ := bind_some h94
       refine pi_q hf rfl rfl rfl rfl (Ext.refl _) (e_indexS hf (x := s5) rfl rfl Tryd.underlying9 hz132) fun a hf => ?_
       refine pi_q hf rfl rfl rfl rfl (Ext.refl _) (e_eqB hf (x := c129) (y := c131) rfl rfl) fun a hf => ?_
       refine pi_nil ?_
       refine then_n ?_
       rcases cond_some h94 with ⟨hc133, h94⟩ | ⟨hc133, h94⟩
       ·refine cond_t hf rfl hc133 ?_
        refine region_pl ?_
        refine q_ hf rfl rfl rfl (e_move hf rfl) fun a hf => ?_
        refine q_ hf rfl rfl rfl (e_nil hf rfl) fun a hf => ?_
        refine q_ hf rfl rfl rfl (e_field hf rfl Tryd.underlying76 rfl Tryd.sizeOf31 (o' := (o49 + (x20 : Int).toNat * 3) + 2) rfl) fun a hf => ?_
        refine q_ hf rfl rfl rfl (e_load1 hf rfl Tryd.isAgg31 (hM.litCell (k := 1) (j := 2) rfl rfl rfl)) fun a hf => ?_
        refine q_ hf rfl rfl rfl (e_move hf rfl) fun a hf => ?_
        obtain ⟨e134, hz135, h94⟩ := bind_some h94
        obtain ⟨b139, o140, _, hA141, h136, h137, hr138, hM⟩ := hM.elem (hM.dat (k := 0) rfl) (n := 1) rfl hz135
        obtain ⟨rfl, hv142⟩ := hr138
        refine q_ hf rfl rfl rfl (e_indexAddr (A := A52) (b := b139) (o := o140) (xs := e43.Next) (i := n73) hf hA141 rfl rfl Tryd.underlying31 Tryd.sizeOf2 h136 h137) fun a hf => ?_
        refine q_ hf rfl rfl rfl (e_load1 hf rfl Tryd.isAgg2 (hM.litCell (k := 0) (j := 0) rfl rfl rfl)) fun a hf => ?_
        refine q_ hf rfl rfl rfl (e_assign hf rfl) fun a hf => ?_
        refine pl_nil ?_
        refine blk_n ?_
        obtain rfl := some_inj h94
        refine then_n ?_
        exact ⟨e134, i95, rfl, hf.keep ⟨rfl, rfl, rfl, rfl, rfl, rfl, rfl, rfl, trivial⟩, hM.pick [1, 2, 3, 4, 5] rfl, hv142, hv96⟩
       refine cond_f hf rfl hc133 ?_
       refine wp_skip ?_
       refine blk_n ?_
       obtain rfl := some_inj h94
       refine then_n ?_
       exact ⟨n71, i95, rfl, hf.keep ⟨rfl, rfl, rfl, rfl, rfl, rfl, rfl, rfl, trivial⟩, hM.pick [0, 1, 2, 3, 4] rfl, hv72, hv96⟩
      rintro a w145 ⟨n89, i91, rfl, hf, hM, hv90, hv92⟩
      try dsimp only at h85
      refine region_pl ?_
      refine q_ hf rfl rfl rfl (e_move hf rfl) fun a hf => ?_
      obtain ⟨z146, hz147, h85⟩ := bind_some h85
      refine q_ hf rfl rfl rfl (e_add hf rfl rfl hz147) fun a hf => ?_
      refine q_ hf rfl rfl rfl (e_assign hf rfl) fun a hf => ?_
      refine pl_nil ?_
      obtain rfl := some_inj h85
      refine then_n ⟨_, rfl, ?_⟩
      exact ⟨n89, z146, i91, rfl, hf.keep ⟨rfl, rfl, rfl, rfl, rfl, rfl, rfl, rfl, trivial⟩, hM.pick [0, 1, 2, 3, 4] rfl, hv90, (chk_R hz147), hv92⟩
     refine cond_f hf rfl hc88 ?_
     refine wp_exit ?_
     refine then_x ?_
     obtain rfl := some_inj h85
     obtain rfl := hd86 _ rfl
     try dsimp only at h70
     refine then_x ?_
     refine exit_hit ?_
     obtain rfl := some_inj h70
     refine then_n ?_
     exact ⟨n71, i75, rfl, hf.keep ⟨rfl, rfl, rfl, rfl, rfl, rfl, trivial⟩, hM.pick [0, 1, 2, 3, 4] rfl, hv72, hv76⟩
    rintro a w153 ⟨n65, i67, rfl, hf, hM, hv66, hv68⟩
    try dsimp only at h38
    iterate 2 refine wp_seq ?_
    refine region_pl ?_
    refine q_ hf rfl rfl rfl (e_move hf rfl) fun a hf => ?_
    refine q_ hf rfl rfl rfl (e_lt hf (x := n65) (y := 0) rfl rfl) fun a hf => ?_
    refine pl_nil ?_
    refine then_n ?_
    rcases cond_some h38 with ⟨hc154, h38⟩ | ⟨hc154, h38⟩
    ·refine cond_t hf rfl hc154 ?_
     refine wp_seq ?_
     refine region_pl ?_
     refine q_ hf rfl rfl rfl (e_move hf rfl) fun a hf => ?_
     refine q_ hf rfl rfl rfl (e_assign hf rfl) fun a hf => ?_
     refine pl_nil ?_
     refine then_n ?_
     refine wp_ret ?_
     refine then_r ?_
     refine blk_r ?_
     obtain rfl := some_inj h38
     try dsimp only at h30
     refine then_r ?_
     obtain rfl := some_inj h30
     obtain rfl := hd31 _ rfl
     try dsimp only at h17
     refine then_r ?_
     refine blk_r ?_
     obtain rfl := some_inj h17
     try dsimp only at h
     refine then_r ?_
     obtain rfl := some_inj h
     have hM := hM.outs (own' := []) 0 rfl
     exact leave1 hf rfl rfl ⟨rfl, hM.fin, hv68⟩
    refine cond_f hf rfl hc154 ?_
    refine wp_skip ?_
    refine then_n ?_
    refine region_pl ?_
    refine q_ hf rfl rfl rfl (e_move hf rfl) fun a hf => ?_
    refine q_ hf rfl rfl rfl (e_assign hf rfl) fun a hf => ?_
    refine pl_nil ?_
    refine blk_n ?_
    obtain rfl := some_inj h38
    refine then_n ?_
    exact ⟨i67, n65, rfl, hf.keep ⟨rfl, rfl, rfl, rfl, rfl, rfl, trivial⟩, hM.pick [4] rfl, hv68, hv66⟩
   rintro a w156 ⟨i33, x35, rfl, hf, hM, hv34, hv36⟩
   try dsimp only at h30
   refine region_pl ?_
   refine q_ hf rfl rfl rfl (e_move hf rfl) fun a hf => ?_
   obtain ⟨z157, hz158, h30⟩ := bind_some h30
   refine q_ hf rfl rfl rfl (e_add hf rfl rfl hz158) fun a hf => ?_
   refine q_ hf rfl rfl rfl (e_assign hf rfl) fun a hf => ?_
   refine pl_nil ?_
   obtain rfl := some_inj h30
   refine then_n ⟨_, rfl, ?_⟩
   exact ⟨i33, x35, z157, rfl, hf.keep ⟨rfl, rfl, rfl, rfl, rfl, rfl, trivial⟩, hM.pick [0] rfl, hv34, hv36, (chk_R hz158)⟩
  refine cond_f hf rfl hc32 ?_
  refine wp_exit ?_
  refine then_x ?_
  obtain rfl := some_inj h30
  obtain rfl := hd31 _ rfl
  try dsimp only at h17
  refine then_x ?_
  refine exit_hit ?_
  obtain rfl := some_inj h17
  refine then_n ?_
  exact ⟨i18, rfl, hf.keep ⟨rfl, trivial⟩, hM.pick [0] rfl, hv19⟩
 rintro a w166 ⟨i14, rfl, hf, hM, hv15⟩
 try dsimp only at h
 refine wp_seq ?_
 refine region_pl ?_
 refine q_ hf rfl rfl rfl (e_move hf rfl) fun a hf => ?_
 refine q_ hf rfl rfl rfl (e_assign hf rfl) fun a hf => ?_
 refine pl_nil ?_
 refine then_n ?_
 refine wp_ret ?_
 obtain rfl := some_inj h
 have hM := hM.outs (own' := []) 0 rfl
 exact leave1 hf rfl rfl ⟨rfl, hM.fin, hv15⟩

set_option maxRecDepth 100000 in
set_option maxHeartbeats 4000000 in
theorem r_spec_NumberOf (C : Cx) (d1 : Dawg) (A2 : Option Addr) (c3 : Nat) (hp4 : (sliceRep NodeRep).R C.w0 C.S0 d1.Nodes [vL A2 d1.Nodes c3]) (s5 : Str) (hp6 : s5.length ≤ maxLen) (r : (Int × Int)) (h : m_spec_NumberOf d1 s5 = some r) :
    Calls Tryd.prog 40 #[.agg #[vL A2 (d1.Nodes) c3], vS (s5)] C.w0 fun e w => e = .returned (.tuple #[vI (r.1), vI (r.2)]) ∧ Mem C w [] [] ∧ R64 r.1 ∧ R64 r.2 := by
 have hM := Mem.begin C [.dat (sliceRep NodeRep) d1.Nodes [vL A2 d1.Nodes c3]] ⟨hp4, trivial⟩
 refine enter Tryd.func40 rfl Tryd.ntmps40 rfl fun a hf => ?_
 unfold m_spec_NumberOf at h
 refine wp_seq ?_
 refine region_pl ?_
 refine pl_l hf rfl rfl rfl (w_box hf hM (cs := [vL A2 (d1.Nodes) c3]) rfl rfl fun b7 w8 hx9 hM a hf => ?_)
 iterate 2 refine q_ hf rfl rfl rfl (e_assign hf rfl) fun a hf => ?_
 refine pl_nil ?_
 refine then_n ?_
 iterate 2 refine wp_seq ?_
 refine region_pl ?_
 obtain ⟨y11, hz12, h⟩ := bind_some h
 refine pl_l hf rfl rfl rfl (w_call hf Tryd.call43 rfl (r_spec_l06Ok ⟨_, All C _ _, none_, hM.all_lt, none_not, C.G, hM.g_lt, g_none, hM.tabs⟩ d1 _ _ (hM.lendBox (k := 0) rfl (DawgRep_mk (x := d1) (hM.lendDat (k := 0) rfl))) _ hz12) ?_)
 rintro _ w13 ⟨rfl, hM2⟩
 obtain ⟨hM, hx14⟩ := hM.backA hM2
 clear hM2
 refine ⟨_, rfl, fun a hf => ?_⟩
 refine q_ hf rfl rfl rfl (e_not hf rfl) fun a hf => ?_
 refine pl_nil ?_
 refine then_n ?_
 rcases cond_some h with ⟨hc16, h⟩ | ⟨hc16, h⟩
 ·refine cond_t hf rfl hc16 ?_
  refine wp_seq ?_
  refine region_pl ?_
  iterate 2 refine q_ hf rfl rfl rfl (e_assign hf rfl) fun a hf => ?_
  refine pl_nil ?_
  refine then_n ?_
  refine wp_ret ?_
  refine then_r ?_
  obtain rfl := some_inj h
  have hM := hM.outs (own' := []) 0 rfl
  exact leave2 hf rfl rfl rfl ⟨rfl, hM.fin, (R64_lit rfl), (R64_lit rfl)⟩
 refine cond_f hf rfl hc16 ?_
 refine wp_skip ?_
 refine then_n ?_
 iterate 2 refine wp_seq ?_
 refine region_pl ?_
 refine q_ hf rfl rfl rfl (e_move hf rfl) fun a hf => ?_
 obtain ⟨y17, hz18, h⟩ := bind_some h
 refine pl_l hf rfl rfl rfl (w_call hf Tryd.call58 rfl (r_spec_l06Accepts ⟨_, All C _ _, none_, hM.all_lt, none_not, C.G, hM.g_lt, g_none, hM.tabs⟩ d1 _ _ (hM.lendBox (k := 0) rfl (DawgRep_mk (x := d1) (hM.lendDat (k := 0) rfl))) s5 hp6 _ hz18) ?_)
 rintro _ w19 ⟨rfl, hM2⟩
 obtain ⟨hM, hx20⟩ := hM.backA hM2
 clear hM2
 refine ⟨_, rfl, fun a hf => ?_⟩
 refine q_ hf rfl rfl rfl (e_not hf rfl) fun a hf => ?_
 refine pl_nil ?_
 refine then_n ?_
 rcases cond_some h with ⟨hc22, h⟩ | ⟨hc22, h⟩
 ·refine cond_t hf rfl hc22 ?_
  refine wp_seq ?_
  refine region_pl ?_
  iterate 2 refine q_ hf rfl rfl rfl (e_assign hf rfl) fun a hf => ?_
  refine pl_nil ?_
  refine then_n ?_
  refine wp_ret ?_
  refine then_r ?_
  obtain rfl := some_inj h
  have hM := hM.outs (own' := []) 0 rfl
  exact leave2 hf rfl rfl rfl ⟨rfl, hM.fin, (R64_lit rfl), (R64_lit rfl)⟩
 refine cond_f hf rfl hc22 ?_
 refine wp_skip ?_
 refine then_n ?_
 refine wp_seq ?_
 refine region_pl ?_
 refine q_ hf rfl rfl rfl (e_move hf rfl) fun a hf => ?_
 obtain ⟨y23, hz24, h⟩ := bind_some h
 refine pl_l hf rfl rfl rfl (w_call hf Tryd.call67 rfl (r_spec_l07Less ⟨_, All C _ _, none_, hM.all_lt, none_not, C.G, hM.g_lt, g_none, hM.tabs⟩ d1 _ _ (hM.lendBox (k := 0) rfl (DawgRep_mk (x := d1) (hM.lendDat (k := 0) rfl))) s5 hp6 _ hz24) ?_)
 rintro _ w26 ⟨rfl, hM2, hv25⟩
 obtain ⟨hM, hx27⟩ := hM.backA hM2
 clear hM2
 refine ⟨_, rfl, fun a hf => ?_⟩
 iterate 2 refine q_ hf rfl rfl rfl (e_assign hf rfl) fun a hf => ?_
 refine pl_nil ?_
 refine then_n ?_
 refine wp_ret ?_
 obtain rfl := some_inj h
 have hM := hM.outs (own' := []) 0 rfl
 exact leave2 hf rfl rfl rfl ⟨rfl, hM.fin, hv25, (R64_lit rfl)⟩

set_option maxRecDepth 100000 in
set_option maxHeartbeats 4000000 in
theorem r_impl_small (C : Cx) (c1 : UInt8) (r : Bool) (h : m_impl_small c1 = some r) :
    Calls Tryd.prog 118 #[vB (c1)] C.w0 fun e w => e = .returned (.bool (r)) ∧ Mem C w [] [] := by
 have hM := Mem.begin C [] trivial
 refine enter Tryd.func118 rfl Tryd.ntmps118 rfl fun a hf => ?_
 unfold m_impl_small at h
 refine wp_seq ?_
 refine region_pl ?_
 refine q_ hf rfl rfl rfl (e_assign hf rfl) fun a hf => ?_
 refine pl_nil ?_
 refine then_n ?_
 obtain ⟨x4, h5, h⟩ := bind_some h
 refine seq_join (fun a w => ∃ (t2 : Bool), t2 = x4 ∧ Has 9 a [(2, .bool (t2))] ∧ Mem C w [] []) ?_ ?_
 ·refine region_pl ?_
  refine q_ hf rfl rfl rfl (e_move hf rfl) fun a hf => ?_
  refine q_ hf rfl rfl rfl (e_leB hf (x := 97) (y := c1) rfl rfl) fun a hf => ?_
  refine q_ hf rfl rfl rfl (e_move hf rfl) fun a hf => ?_
  rcases cond_some h5 with ⟨hc6, h5⟩ | ⟨hc6, h5⟩
  ·refine gq (wanted_t hf rfl rfl rfl rfl hc6) hf rfl rfl (e_move hf rfl) fun a hf => ?_
   refine gq (wanted_t hf rfl rfl rfl rfl hc6) hf rfl rfl (e_leB hf (x := c1) (y := 122) rfl rfl) fun a hf => ?_
   refine q_ hf rfl rfl rfl (e_pick_t hf rfl hc6 rfl) fun a hf => ?_
   refine q_ hf rfl rfl rfl (e_assign hf rfl) fun a hf => ?_
   refine pl_nil ?_
   obtain rfl := some_inj h5
   refine then_n ?_
   exact ⟨(decide (c1 ≤ 122)), rfl, hf.keep ⟨rfl, trivial⟩, hM.pick [] rfl⟩
  iterate 2 refine pl_gs (wanted_f hf rfl rfl rfl rfl hc6) hf rfl rfl fun a hf => ?_
  refine q_ hf rfl rfl rfl (e_pick_f hf rfl hc6 rfl) fun a hf => ?_
  refine q_ hf rfl rfl rfl (e_assign hf rfl) fun a hf => ?_
  refine pl_nil ?_
  obtain rfl := some_inj h5
  refine then_n ?_
  exact ⟨false, rfl, hf.keep ⟨rfl, trivial⟩, hM.pick [] rfl⟩
 rintro a w9 ⟨t2, rfl, hf, hM⟩
 try dsimp only at h
 refine wp_ret ?_
 obtain rfl := some_inj h
 exact leave1 hf rfl rfl ⟨rfl, hM.fin⟩

set_option maxRecDepth 100000 in
set_option maxHeartbeats 4000000 in
theorem r_impl_formByte (C : Cx) (c1 : UInt8) (r : Bool) (h : m_impl_formByte c1 = some r) :
    Calls Tryd.prog 101 #[vB (c1)] C.w0 fun e w => e = .returned (.bool (r)) ∧ Mem C w [] [] := by
 have hM := Mem.begin C [] trivial
 refine enter Tryd.func101 rfl Tryd.ntmps101 rfl fun a hf => ?_
 unfold m_impl_formByte at h
 refine wp_seq ?_
 refine region_pl ?_
 refine q_ hf rfl rfl rfl (e_assign hf rfl) fun a hf => ?_
 refine pl_nil ?_
 refine then_n ?_
 obtain ⟨x4, h5, h⟩ := bind_some h
 refine seq_join (fun a w => ∃ (t2 : Bool), t2 = x4 ∧ Has 9 a [(2, .bool (t2))] ∧ Mem C w [] []) ?_ ?_
 ·refine region_pl ?_
  refine q_ hf rfl rfl rfl (e_move hf rfl) fun a hf => ?_
  obtain ⟨y6, hz7, h5⟩ := bind_some h5
  refine pl_l hf rfl rfl rfl (w_call hf Tryd.call118 rfl (r_impl_small ⟨_, Sh C _ _, none_, hM.sh_lt, none_not, C.G, hM.g_lt, g_none, hM.tabs⟩ c1 _ hz7) ?_)
  rintro _ w8 ⟨rfl, hM2⟩
  obtain ⟨hM, hx9, hup10⟩ := hM.back hM2
  dsimp only [List.cons_append, List.nil_append] at hM hup10
  clear hM2
  refine ⟨_, rfl, fun a hf => ?_⟩
  refine q_ hf rfl rfl rfl (e_move hf rfl) fun a hf => ?_
  rcases cond_some h5 with ⟨hc11, h5⟩ | ⟨hc11, h5⟩
  ·iterate 2 refine pl_gs (wanted_f hf rfl rfl rfl rfl hc11) hf rfl rfl fun a hf => ?_
   refine q_ hf rfl rfl rfl (e_pick_t hf rfl hc11 rfl) fun a hf => ?_
   refine q_ hf rfl rfl rfl (e_assign hf rfl) fun a hf => ?_
   refine pl_nil ?_
   obtain rfl := some_inj h5
   refine then_n ?_
   exact ⟨true, rfl, hf.keep ⟨rfl, trivial⟩, hM.pick [] rfl⟩
  refine gq (wanted_t hf rfl rfl rfl rfl hc11) hf rfl rfl (e_move hf rfl) fun a hf => ?_
  refine gq (wanted_t hf rfl rfl rfl rfl hc11) hf rfl rfl (e_eqB hf (x := c1) (y := 62) rfl rfl) fun a hf => ?_
  refine q_ hf rfl rfl rfl (e_pick_f hf rfl hc11 rfl) fun a hf => ?_
  refine q_ hf rfl rfl rfl (e_assign hf rfl) fun a hf => ?_
  refine pl_nil ?_
  obtain rfl := some_inj h5
  refine then_n ?_
  exact ⟨(c1 == 62), rfl, hf.keep ⟨rfl, trivial⟩, hM.pick [] rfl⟩
 rintro a w14 ⟨t2, rfl, hf, hM⟩
 try dsimp only at h
 refine wp_ret ?_
 obtain rfl := some_inj h
 exact leave1 hf rfl rfl ⟨rfl, hM.fin⟩

set_option maxRecDepth 100000 in
set_option maxHeartbeats 4000000 in
theorem r_impl_within (C : Cx) (x1 : Int) (hp2 : R64 x1) (low3 : Int) (hp4 : R64 low3) (high5 : Int) (hp6 : R64 high5) (r : Bool) (h : m_impl_within x1 low3 high5 = some r) :
    Calls Tryd.prog 50 #[vI (x1), vI (low3), vI (high5)] C.w0 fun e w => e = .returned (.bool (r)) ∧ Mem C w [] [] := by
 have hM := Mem.begin C [] trivial
 refine enter Tryd.func50 rfl Tryd.ntmps50 rfl fun a hf => ?_
 unfold m_impl_within at h
 refine wp_seq ?_
 refine region_pl ?_
 refine q_ hf rfl rfl rfl (e_assign hf rfl) fun a hf => ?_
 refine pl_nil ?_
 refine then_n ?_
 obtain ⟨x9, h10, h⟩ := bind_some h
 refine seq_join (fun a w => ∃ (t7 : Bool), t7 = x9 ∧ Has 15 a [(6, .bool (t7))] ∧ Mem C w [] []) ?_ ?_
 ·refine region_pl ?_
  iterate 2 refine q_ hf rfl rfl rfl (e_move hf rfl) fun a hf => ?_
  refine q_ hf rfl rfl rfl (e_le hf (x := low3) (y := x1) rfl rfl) fun a hf => ?_
  refine q_ hf rfl rfl rfl (e_move hf rfl) fun a hf => ?_
  rcases cond_some h10 with ⟨hc11, h10⟩ | ⟨hc11, h10⟩
  ·iterate 2 refine gq (wanted_t hf rfl rfl rfl rfl hc11) hf rfl rfl (e_move hf rfl) fun a hf => ?_
   refine gq (wanted_t hf rfl rfl rfl rfl hc11) hf rfl rfl (e_le hf (x := x1) (y := high5) rfl rfl) fun a hf => ?_
   refine q_ hf rfl rfl rfl (e_pick_t hf rfl hc11 rfl) fun a hf => ?_
   refine q_ hf rfl rfl rfl (e_assign hf rfl) fun a hf => ?_
   refine pl_nil ?_
   obtain rfl := some_inj h10
   refine then_n ?_
   exact ⟨(decide (x1 ≤ high5)), rfl, hf.keep ⟨rfl, trivial⟩, hM.pick [] rfl⟩
  iterate 3 refine pl_gs (wanted_f hf rfl rfl rfl rfl hc11) hf rfl rfl fun a hf => ?_
  refine q_ hf rfl rfl rfl (e_pick_f hf rfl hc11 rfl) fun a hf => ?_
  refine q_ hf rfl rfl rfl (e_assign hf rfl) fun a hf => ?_
  refine pl_nil ?_
  obtain rfl := some_inj h10
  refine then_n ?_
  exact ⟨false, rfl, hf.keep ⟨rfl, trivial⟩, hM.pick [] rfl⟩
 rintro a w14 ⟨t7, rfl, hf, hM⟩
 try dsimp only at h
 refine wp_ret ?_
 obtain rfl := some_inj h
 exact leave1 hf rfl rfl ⟨rfl, hM.fin⟩

set_option maxRecDepth 100000 in
set_option maxHeartbeats 4000000 in
theorem r_impl_nodesOk (C : Cx) (d1 : Dawg) (A2 : Option Addr) (c3 : Nat) (hp4 : (sliceRep NodeRep).R C.w0 C.S0 d1.Nodes [vL A2 d1.Nodes c3]) (r : Bool) (h : m_impl_nodesOk d1 = some r) :
    Calls Tryd.prog 76 #[.agg #[vL A2 (d1.Nodes) c3]] C.w0 fun e w => e = .returned (.bool (r)) ∧ Mem C w [] [] := by
 have hM := Mem.begin C [.dat (sliceRep NodeRep) d1.Nodes [vL A2 d1.Nodes c3]] ⟨hp4, trivial⟩
 refine enter Tryd.func76 rfl Tryd.ntmps76 rfl fun a hf => ?_
 unfold m_impl_nodesOk at h
 refine wp_seq ?_
 refine region_pl ?_
 refine pl_l hf rfl rfl rfl (w_box hf hM (cs := [vL A2 (d1.Nodes) c3]) rfl rfl fun b5 w6 hx7 hM a hf => ?_)
 refine q_ hf rfl rfl rfl (e_assign hf rfl) fun a hf => ?_
 refine pl_nil ?_
 refine then_n ?_
 refine wp_seq ?_
 obtain ⟨x11, h12, h⟩ := bind_some h
 refine seq_join (fun a w => ∃ (t9 : Bool), t9 = x11 ∧ Has 72 a [(1, vP b5 (0)), (16, .bool (t9))] ∧ Mem C w [.box b5 [vL A2 (d1.Nodes) c3] 26] [.dat (sliceRep NodeRep) d1.Nodes [vL A2 d1.Nodes c3]]) ?_ ?_
 ·refine region_pl ?_
  refine q_ hf rfl rfl rfl (e_field hf rfl Tryd.underlying26 rfl Tryd.sizeOf24 (o' := 0) rfl) fun a hf => ?_
  refine q_ hf rfl rfl rfl (e_load1 hf rfl Tryd.isAgg24 (hM.boxCell (k := 0) rfl rfl)) fun a hf => ?_
  have hl13 := slice_len (hM.dat (k := 0) rfl)
  refine q_ hf rfl rfl rfl (e_lenL hf (x := d1.Nodes) rfl Tryd.underlying24) fun a hf => ?_
  refine q_ hf rfl rfl rfl (e_lt hf (x := (d1.Nodes.length : Int)) (y := 1) rfl rfl) fun a hf => ?_
  refine q_ hf rfl rfl rfl (e_move hf rfl) fun a hf => ?_
  rcases cond_some h12 with ⟨hc14, h12⟩ | ⟨hc14, h12⟩
  ·iterate 4 refine pl_gs (wanted_f hf rfl rfl rfl rfl hc14) hf rfl rfl fun a hf => ?_
   refine q_ hf rfl rfl rfl (e_pick_t hf rfl hc14 rfl) fun a hf => ?_
   refine pl_nil ?_
   obtain rfl := some_inj h12
   refine then_n ?_
   exact ⟨true, rfl, hf.keep ⟨rfl, rfl, trivial⟩, hM.pick [0] rfl⟩
  refine gq (wanted_t hf rfl rfl rfl rfl hc14) hf rfl rfl (e_field hf rfl Tryd.underlying26 rfl Tryd.sizeOf24 (o' := 0) rfl) fun a hf => ?_
  refine gq (wanted_t hf rfl rfl rfl rfl hc14) hf rfl rfl (e_load1 hf rfl Tryd.isAgg24 (hM.boxCell (k := 0) rfl rfl)) fun a hf => ?_
  have hl16 := slice_len (hM.dat (k := 0) rfl)
  refine gq (wanted_t hf rfl rfl rfl rfl hc14) hf rfl rfl (e_lenL hf (x := d1.Nodes) rfl Tryd.underlying24) fun a hf => ?_
  refine gq (wanted_t hf rfl rfl rfl rfl hc14) hf rfl rfl (e_gt hf (x := (d1.Nodes.length : Int)) (y := 3000) rfl rfl) fun a hf => ?_
  refine q_ hf rfl rfl rfl (e_pick_f hf rfl hc14 rfl) fun a hf => ?_
  refine pl_nil ?_
  obtain rfl := some_inj h12
  refine then_n ?_
  exact ⟨(decide (3000 < (d1.Nodes.length : Int))), rfl, hf.keep ⟨rfl, rfl, trivial⟩, hM.pick [0] rfl⟩
 rintro a w18 ⟨t9, rfl, hf, hM⟩
 try dsimp only at h
 rcases cond_some h with ⟨hc19, h⟩ | ⟨hc19, h⟩
 ·refine cond_t hf rfl hc19 ?_
  refine wp_seq ?_
  refine region_pl ?_
  refine q_ hf rfl rfl rfl (e_assign hf rfl) fun a hf => ?_
  refine pl_nil ?_
  refine then_n ?_
  refine wp_ret ?_
  refine then_r ?_
  obtain rfl := some_inj h
  have hM := hM.outs (own' := []) 0 rfl
  exact leave1 hf rfl rfl ⟨rfl, hM.fin⟩
 refine cond_f hf rfl hc19 ?_
 refine wp_skip ?_
 refine then_n ?_
 obtain ⟨x20, h21, h⟩ := bind_some h
 refine seq_join (fun a w => (.inl ()) = x20 ∧ Has 72 a [] ∧ Mem C w [.box b5 [vL A2 (d1.Nodes) c3] 26] [.dat (sliceRep NodeRep) d1.Nodes [vL A2 d1.Nodes c3]]) ?_ ?_
 ·refine wp_seq ?_
  refine region_pl ?_
  refine q_ hf rfl rfl rfl (e_field hf rfl Tryd.underlying26 rfl Tryd.sizeOf24 (o' := 0) rfl) fun a hf => ?_
  refine q_ hf rfl rfl rfl (e_load1 hf rfl Tryd.isAgg24 (hM.boxCell (k := 0) rfl rfl)) fun a hf => ?_
  have hl22 := slice_len (hM.dat (k := 0) rfl)
  refine q_ hf rfl rfl rfl (e_lenL hf (x := d1.Nodes) rfl Tryd.underlying24) fun a hf => ?_
  refine q_ hf rfl rfl rfl (e_move hf rfl) fun a hf => ?_
  refine pl_nil ?_
  refine then_n ?_
  refine wp_block ?_
  obtain ⟨x26, h27, h21⟩ := bind_some h21
  refine wp_loopM h27 (fun s a w => ∃ (n23 : Int), n23 = s ∧ Has 72 a [(1, vP b5 (0)), (18, vL A2 (d1.Nodes) c3), (19, vI ((d1.Nodes.length : Int))), (20, vI (n23))] ∧ Mem C w [.box b5 [vL A2 (d1.Nodes) c3] 26] [.dat (sliceRep NodeRep) d1.Nodes [vL A2 d1.Nodes c3]] ∧ R64 n23) ?_ ?_
  ·exact ⟨0, rfl, hf.keep ⟨rfl, rfl, rfl, rfl, trivial⟩, hM.pick [0] rfl, (R64_lit rfl)⟩
  rintro s o28 a w25 ⟨n23, rfl, hf, hM, hv24⟩ h29 hd30
  replace h29 : m_impl_nodesOk_l1 d1 n23 = some o28 := h29
  unfold m_impl_nodesOk_l1 at h29
  refine wp_seq ?_
  refine region_pl ?_
  refine q_ hf rfl rfl rfl (e_lt hf (x := n23) (y := (d1.Nodes.length : Int)) rfl rfl) fun a hf => ?_
  refine pl_nil ?_
  refine then_n ?_
  refine wp_seq ?_
  rcases cond_some h29 with ⟨hc31, h29⟩ | ⟨hc31, h29⟩
  ·refine cond_t hf rfl hc31 ?_
   refine wp_skip ?_
   refine then_n ?_
   obtain ⟨x32, h33, h29⟩ := bind_some h29
   refine seq_join (fun a w => (.inl ()) = x32 ∧ Has 72 a [(1, vP b5 (0)), (18, vL A2 (d1.Nodes) c3), (19, vI ((d1.Nodes.length : Int))), (20, vI (n23))] ∧ Mem C w [.box b5 [vL A2 (d1.Nodes) c3] 26] [.dat (sliceRep NodeRep) d1.Nodes [vL A2 d1.Nodes c3]]) ?_ ?_
   ·refine wp_block ?_
    refine wp_seq ?_
    refine region_pl ?_
    obtain ⟨e34, hz35, h33⟩ := bind_some h33
    obtain ⟨b39, o40, _, hA41, h36, h37, hr38, hM⟩ := hM.elem (hM.dat (k := 0) rfl) (n := 3) rfl hz35
    obtain ⟨A43, c44, rfl, hv42, hv45⟩ := NodeRep_open hr38
    have hM := hM.add (y := .dat (sliceRep intRep) e34.Next [vL A43 e34.Next c44]) hv45
    refine q_ hf rfl rfl rfl (e_indexAddr (A := A2) (b := b39) (o := o40) (xs := d1.Nodes) (i := n23) hf hA41 rfl rfl Tryd.underlying24 Tryd.sizeOf76 h36 h37) fun a hf => ?_
    refine q_ hf rfl rfl rfl (e_loadA hf (us := [.bool (e34.Final), vS (e34.Letters), vL A43 (e34.Next) c44]) rfl ⟨Tryd.isAgg76, Tryd.sizeOf76⟩ rfl (hM.litSub (k := 1) (d := 0) (us := [.bool (e34.Final), vS (e34.Letters), vL A43 (e34.Next) c44]) rfl rfl rfl)) fun a hf => ?_
    refine pl_l hf rfl rfl rfl (w_alloc hM (cs := [.bool (false), vS (([] : Str)), vL none (([] : (List Int))) 0]) Tryd.zeroValue76 rfl fun b46 w47 hx48 hM a hf => ?_)
    refine pl_0 hf rfl rfl (w_store hf hM (us := [.bool (e34.Final), vS (e34.Letters), vL A43 (e34.Next) c44]) (cs' := [.bool (e34.Final), vS (e34.Letters), vL A43 (e34.Next) c44]) rfl rfl (k := 0) rfl rfl Tryd.sizeOf76 rfl rfl rfl fun w50 hM => ?_)
    dsimp only [List.set] at hM
    refine pl_nil ?_
    refine then_n ?_
    iterate 2 refine wp_seq ?_
    refine region_pl ?_
    refine q_ hf rfl rfl rfl (e_field hf rfl Tryd.underlying76 rfl Tryd.sizeOf9 (o' := 1) rfl) fun a hf => ?_
    refine q_ hf rfl rfl rfl (e_load1 hf rfl Tryd.isAgg9 (hM.boxCell (k := 0) rfl rfl)) fun a hf => ?_
    refine q_ hf rfl rfl rfl (e_lenS hf (x := e34.Letters) rfl Tryd.underlying9) fun a hf => ?_
    refine q_ hf rfl rfl rfl (e_field hf rfl Tryd.underlying76 rfl Tryd.sizeOf31 (o' := 2) rfl) fun a hf => ?_
    refine q_ hf rfl rfl rfl (e_load1 hf rfl Tryd.isAgg31 (hM.boxCell (k := 0) rfl rfl)) fun a hf => ?_
    have hl53 := slice_len (hM.dat (k := 0) rfl)
    refine q_ hf rfl rfl rfl (e_lenL hf (x := e34.Next) rfl Tryd.underlying31) fun a hf => ?_
    refine q_ hf rfl rfl rfl (e_ne hf (x := (e34.Letters.length : Int)) (y := (e34.Next.length : Int)) rfl rfl) fun a hf => ?_
    refine pl_nil ?_
    refine then_n ?_
    rcases cond_some h33 with ⟨hc54, h33⟩ | ⟨hc54, h33⟩
    ·refine cond_t hf rfl hc54 ?_
     refine wp_seq ?_
     refine region_pl ?_
     refine q_ hf rfl rfl rfl (e_assign hf rfl) fun a hf => ?_
     refine pl_nil ?_
     refine then_n ?_
     refine wp_ret ?_
     refine then_r ?_
     refine blk_r ?_
     obtain rfl := some_inj h33
     try dsimp only at h29
     refine then_r ?_
     obtain rfl := some_inj h29
     obtain rfl := hd30 _ rfl
     try dsimp only at h21
     refine then_r ?_
     refine blk_r ?_
     obtain rfl := some_inj h21
     try dsimp only at h
     refine then_r ?_
     obtain rfl := some_inj h
     have hM := hM.outs (own' := []) 0 rfl
     exact leave1 hf rfl rfl ⟨rfl, hM.fin⟩
    refine cond_f hf rfl hc54 ?_
    refine wp_skip ?_
    refine then_n ?_
    refine wp_seq ?_
    refine region_pl ?_
    refine q_ hf rfl rfl rfl (e_field hf rfl Tryd.underlying76 rfl Tryd.sizeOf31 (o' := 2) rfl) fun a hf => ?_
    refine q_ hf rfl rfl rfl (e_load1 hf rfl Tryd.isAgg31 (hM.boxCell (k := 0) rfl rfl)) fun a hf => ?_
    have hl55 := slice_len (hM.dat (k := 0) rfl)
    refine q_ hf rfl rfl rfl (e_lenL hf (x := e34.Next) rfl Tryd.underlying31) fun a hf => ?_
    refine q_ hf rfl rfl rfl (e_move hf rfl) fun a hf => ?_
    refine pl_nil ?_
    refine then_n ?_
    refine wp_block ?_
    obtain ⟨x59, h60, h33⟩ := bind_some h33
    refine wp_loopM h60 (fun s a w => ∃ (n56 : Int), n56 = s ∧ Has 72 a [(1, vP b5 (0)), (4, vP b46 (0)), (18, vL A2 (d1.Nodes) c3), (19, vI ((d1.Nodes.length : Int))), (20, vI (n23)), (32, vL A43 (e34.Next) c44), (33, vI ((e34.Next.length : Int))), (34, vI (n56))] ∧ Mem C w [.box b46 [.bool (e34.Final), vS (e34.Letters), vL A43 (e34.Next) c44] 76, .box b5 [vL A2 (d1.Nodes) c3] 26] [.dat (sliceRep intRep) e34.Next [vL A43 e34.Next c44], .lit b39 (o40 + (n23 : Int).toNat * 3) [.bool (e34.Final), vS (e34.Letters), vL A43 (e34.Next) c44], .dat (sliceRep NodeRep) d1.Nodes [vL A2 d1.Nodes c3]] ∧ R64 n56) ?_ ?_
    ·exact ⟨0, rfl, hf.keep ⟨rfl, rfl, rfl, rfl, rfl, rfl, rfl, rfl, trivial⟩, hM.pick [0, 1, 2] rfl, (R64_lit rfl)⟩
    rintro s o61 a w58 ⟨n56, rfl, hf, hM, hv57⟩ h62 hd63
    replace h62 : m_impl_nodesOk_l2 e34 d1 n56 = some o61 := h62
    unfold m_impl_nodesOk_l2 at h62
    refine wp_seq ?_
    refine region_pl ?_
    refine q_ hf rfl rfl rfl (e_lt hf (x := n56) (y := (e34.Next.length : Int)) rfl rfl) fun a hf => ?_
    refine pl_nil ?_
    refine then_n ?_
    refine wp_seq ?_
    rcases cond_some h62 with ⟨hc64, h62⟩ | ⟨hc64, h62⟩
    ·refine cond_t hf rfl hc64 ?_
     refine wp_skip ?_
     refine then_n ?_
     refine wp_seq ?_
     refine wp_block ?_
     refine wp_seq ?_
     refine region_pl ?_
     refine q_ hf rfl rfl rfl (e_move hf rfl) fun a hf => ?_
     obtain ⟨e65, hz66, h62⟩ := bind_some h62
     obtain ⟨b70, o71, _, hA72, h67, h68, hr69, hM⟩ := hM.elem (hM.dat (k := 0) rfl) (n := 1) rfl hz66
     obtain ⟨rfl, hv73⟩ := hr69
     refine q_ hf rfl rfl rfl (e_indexAddr (A := A43) (b := b70) (o := o71) (xs := e34.Next) (i := n56) hf hA72 rfl rfl Tryd.underlying31 Tryd.sizeOf2 h67 h68) fun a hf => ?_
     refine q_ hf rfl rfl rfl (e_load1 hf rfl Tryd.isAgg2 (hM.litCell (k := 0) (j := 0) rfl rfl rfl)) fun a hf => ?_
     iterate 2 refine q_ hf rfl rfl rfl (e_assign hf rfl) fun a hf => ?_
     refine pl_nil ?_
     refine then_n ?_
     obtain ⟨x76, h77, h62⟩ := bind_some h62
     refine seq_join (fun a w => ∃ (t74 : Bool), t74 = x76 ∧ Has 72 a [(1, vP b5 (0)), (4, vP b46 (0)), (18, vL A2 (d1.Nodes) c3), (19, vI ((d1.Nodes.length : Int))), (20, vI (n23)), (32, vL A43 (e34.Next) c44), (33, vI ((e34.Next.length : Int))), (34, vI (n56)), (69, .bool (t74))] ∧ Mem C w [.box b46 [.bool (e34.Final), vS (e34.Letters), vL A43 (e34.Next) c44] 76, .box b5 [vL A2 (d1.Nodes) c3] 26] [.lit b70 (o71 + (n56 : Int).toNat * 1) [vI (e65)], .dat (sliceRep intRep) e34.Next [vL A43 e34.Next c44], .lit b39 (o40 + (n23 : Int).toNat * 3) [.bool (e34.Final), vS (e34.Letters), vL A43 (e34.Next) c44], .dat (sliceRep NodeRep) d1.Nodes [vL A2 d1.Nodes c3]]) ?_ ?_
     ·obtain ⟨w78, hw⟩ : ∃ x, x = w58.drew := ⟨_, rfl⟩
      refine region_pi (.q 0 (.q 1 (.q 2 (.q 3 (.l 4 (.q 5 (.q 6 (.q 7 (.q 8 (.q 9 (.q 10 (.q 11 (.q 12 (.q 13 (.q 14 (.q 15 (.q 16 (.q 17 (.q 18 (.q 19 (.q 20 (.q 21 (.q 22 (.q 23 (.q 24 (.q 25 (.q 26 (.q 27 (.l 28 (.q 29 (.q 30 (.nil)))))))))))))))))))))))))))))))) (Ext w78) rfl (by kernel_rfl) ?_
      have hM := hM.drew
      rw [← hw] at hM ⊢
      clear hw
      refine pi_q hf rfl rfl rfl rfl (Ext.refl _) (e_field hf rfl Tryd.underlying76 rfl Tryd.sizeOf9 (o' := 1) rfl) fun a hf => ?_
      refine pi_q hf rfl rfl rfl rfl (Ext.refl _) (e_load1 hf rfl Tryd.isAgg9 (hM.boxCell (k := 0) rfl rfl)) fun a hf => ?_
      refine pi_q hf rfl rfl rfl rfl (Ext.refl _) (e_move hf rfl) fun a hf => ?_
      obtain ⟨c79, hz80, h77⟩ := bind_some h77
      refine pi_q hf rfl rfl rfl rfl (Ext.refl _) (e_indexS hf (x := e34.Letters) rfl rfl Tryd.underlying9 hz80) fun a hf => ?_
      refine pi_one ?_
      obtain ⟨y81, hz82, h77⟩ := bind_some h77
      refine pi_l hf rfl rfl rfl rfl (w_call hf Tryd.call101 rfl (r_impl_formByte ⟨_, Sh C _ _, none_, hM.sh_lt, none_not, C.G, hM.g_lt, g_none, hM.tabs⟩ c79 _ hz82) ?_)
      rintro _ w83 ⟨rfl, hM2⟩
      obtain ⟨hM, hx84, hup85⟩ := hM.back hM2
      dsimp only [List.cons_append, List.nil_append] at hM hup85
      clear hM2
      refine ⟨_, rfl, Ext w83, fun _ h => Ext.trans hx84 h, Ext.refl _, fun a hf => ?_⟩
      refine pi_q hf rfl rfl rfl rfl (Ext.refl _) (e_not hf rfl) fun a hf => ?_
      refine pi_q hf rfl rfl rfl rfl (Ext.refl _) (e_move hf rfl) fun a hf => ?_
      rcases cond_some h77 with ⟨hc86, h77⟩ | ⟨hc86, h77⟩
      ·iterate 3 refine pi_gs hf rfl (wanted_f hf rfl rfl rfl rfl hc86) rfl rfl (Ext.refl _) fun a hf => ?_
       iterate 10 refine pi_gs hf rfl (wanted_u hf rfl rfl rfl rfl) rfl rfl (Ext.refl _) fun a hf => ?_
       refine pi_gs hf rfl (wanted_f hf rfl rfl rfl rfl hc86) rfl rfl (Ext.refl _) fun a hf => ?_
       refine pi_q hf rfl rfl rfl rfl (Ext.refl _) (e_pick_t hf rfl hc86 rfl) fun a hf => ?_
       refine pi_q hf rfl rfl rfl rfl (Ext.refl _) (e_move hf rfl) fun a hf => ?_
       iterate 5 refine pi_gs hf rfl (wanted_f hf rfl rfl rfl rfl rfl) rfl rfl (Ext.refl _) fun a hf => ?_
       refine pi_one ?_
       refine pi_ls hf rfl (wanted_f hf rfl rfl rfl rfl rfl) rfl rfl (Ext.refl _) fun a hf => ?_
       refine pi_gs hf rfl (wanted_f hf rfl rfl rfl rfl rfl) rfl rfl (Ext.refl _) fun a hf => ?_
       refine pi_q hf rfl rfl rfl rfl (Ext.refl _) (e_pick_t hf rfl rfl rfl) fun a hf => ?_
       refine pi_nil ?_
       obtain rfl := some_inj h77
       refine then_n ?_
       exact ⟨true, rfl, hf.keep ⟨rfl, rfl, rfl, rfl, rfl, rfl, rfl, rfl, rfl, trivial⟩, hM.pick [0, 1, 2, 3] rfl⟩
      refine pi_gq hf rfl (wanted_t hf rfl rfl rfl rfl hc86) rfl rfl (Ext.refl _) (e_move hf rfl) fun a hf => ?_
      refine pi_gq hf rfl (wanted_t hf rfl rfl rfl rfl hc86) rfl rfl (Ext.refl _) (e_gt hf (x := n56) (y := 0) rfl rfl) fun a hf => ?_
      refine pi_gq hf rfl (wanted_t hf rfl rfl rfl rfl hc86) rfl rfl (Ext.refl _) (e_move hf rfl) fun a hf => ?_
      rcases cond_some h77 with ⟨hc88, h77⟩ | ⟨hc88, h77⟩
      ·refine pi_gq hf rfl (wanted_t hf rfl rfl rfl rfl hc88) rfl rfl (Ext.refl _) (e_field hf rfl Tryd.underlying76 rfl Tryd.sizeOf9 (o' := 1) rfl) fun a hf => ?_
       refine pi_gq hf rfl (wanted_t hf rfl rfl rfl rfl hc88) rfl rfl (Ext.refl _) (e_load1 hf rfl Tryd.isAgg9 (hM.boxCell (k := 0) rfl rfl)) fun a hf => ?_
       refine pi_gq hf rfl (wanted_t hf rfl rfl rfl rfl hc88) rfl rfl (Ext.refl _) (e_move hf rfl) fun a hf => ?_
       obtain ⟨z89, hz90, h77⟩ := bind_some h77
       refine pi_gq hf rfl (wanted_t hf rfl rfl rfl rfl hc88) rfl rfl (Ext.refl _) (e_sub hf rfl rfl hz90) fun a hf => ?_
       obtain ⟨c91, hz92, h77⟩ := bind_some h77
       refine pi_gq hf rfl (wanted_t hf rfl rfl rfl rfl hc88) rfl rfl (Ext.refl _) (e_indexS hf (x := e34.Letters) rfl rfl Tryd.underlying9 hz92) fun a hf => ?_
       refine pi_gq hf rfl (wanted_t hf rfl rfl rfl rfl hc88) rfl rfl (Ext.refl _) (e_field hf rfl Tryd.underlying76 rfl Tryd.sizeOf9 (o' := 1) rfl) fun a hf => ?_
       refine pi_gq hf rfl (wanted_t hf rfl rfl rfl rfl hc88) rfl rfl (Ext.refl _) (e_load1 hf rfl Tryd.isAgg9 (hM.boxCell (k := 0) rfl rfl)) fun a hf => ?_
       refine pi_gq hf rfl (wanted_t hf rfl rfl rfl rfl hc88) rfl rfl (Ext.refl _) (e_move hf rfl) fun a hf => ?_
       obtain ⟨c93, hz94, h77⟩ := bind_some h77
       refine pi_gq hf rfl (wanted_t hf rfl rfl rfl rfl hc88) rfl rfl (Ext.refl _) (e_indexS hf (x := e34.Letters) rfl rfl Tryd.underlying9 hz94) fun a hf => ?_
       refine pi_gq hf rfl (wanted_t hf rfl rfl rfl rfl hc88) rfl rfl (Ext.refl _) (e_geB hf (x := c91) (y := c93) rfl rfl) fun a hf => ?_
       refine pi_gq hf rfl (wanted_t hf rfl rfl rfl rfl hc86) rfl rfl (Ext.refl _) (e_pick_t hf rfl hc88 rfl) fun a hf => ?_
       refine pi_q hf rfl rfl rfl rfl (Ext.refl _) (e_pick_f hf rfl hc86 rfl) fun a hf => ?_
       refine pi_q hf rfl rfl rfl rfl (Ext.refl _) (e_move hf rfl) fun a hf => ?_
       rcases cond_some h77 with ⟨hc95, h77⟩ | ⟨hc95, h77⟩
       ·iterate 5 refine pi_gs hf rfl (wanted_f hf rfl rfl rfl rfl hc95) rfl rfl (Ext.refl _) fun a hf => ?_
        refine pi_one ?_
        refine pi_ls hf rfl (wanted_f hf rfl rfl rfl rfl hc95) rfl rfl (Ext.refl _) fun a hf => ?_
        refine pi_gs hf rfl (wanted_f hf rfl rfl rfl rfl hc95) rfl rfl (Ext.refl _) fun a hf => ?_
        refine pi_q hf rfl rfl rfl rfl (Ext.refl _) (e_pick_t hf rfl hc95 rfl) fun a hf => ?_
        refine pi_nil ?_
        obtain rfl := some_inj h77
        refine then_n ?_
        exact ⟨true, rfl, hf.keep ⟨rfl, rfl, rfl, rfl, rfl, rfl, rfl, rfl, rfl, trivial⟩, hM.pick [0, 1, 2, 3] rfl⟩
       refine pi_gq hf rfl (wanted_t hf rfl rfl rfl rfl hc95) rfl rfl (Ext.refl _) (e_move hf rfl) fun a hf => ?_
       refine pi_gq hf rfl (wanted_t hf rfl rfl rfl rfl hc95) rfl rfl (Ext.refl _) (e_field hf rfl Tryd.underlying26 rfl Tryd.sizeOf24 (o' := 0) rfl) fun a hf => ?_
       refine pi_gq hf rfl (wanted_t hf rfl rfl rfl rfl hc95) rfl rfl (Ext.refl _) (e_load1 hf rfl Tryd.isAgg24 (hM.boxCell (k := 1) rfl rfl)) fun a hf => ?_
       have hl97 := slice_len (hM.dat (k := 3) rfl)
       refine pi_gq hf rfl (wanted_t hf rfl rfl rfl rfl hc95) rfl rfl (Ext.refl _) (e_lenL hf (x := d1.Nodes) rfl Tryd.underlying24) fun a hf => ?_
       obtain ⟨z98, hz99, h77⟩ := bind_some h77
       refine pi_gq hf rfl (wanted_t hf rfl rfl rfl rfl hc95) rfl rfl (Ext.refl _) (e_sub hf rfl rfl hz99) fun a hf => ?_
       refine pi_one ?_
       obtain ⟨y100, hz101, h77⟩ := bind_some h77
       refine pi_gl hf rfl (wanted_t hf rfl rfl rfl rfl hc95) rfl rfl (w_call hf Tryd.call50 rfl (r_impl_within ⟨_, Sh C _ _, none_, hM.sh_lt, none_not, C.G, hM.g_lt, g_none, hM.tabs⟩ e65 hv73 0 (R64_lit rfl) z98 (chk_R hz99) _ hz101) ?_)
       rintro _ w102 ⟨rfl, hM2⟩
       obtain ⟨hM, hx103, hup104⟩ := hM.back hM2
       dsimp only [List.cons_append, List.nil_append] at hM hup104
       clear hM2
       refine ⟨_, rfl, Ext w102, fun _ h => Ext.trans hx103 h, Ext.refl _, fun a hf => ?_⟩
       refine pi_gq hf rfl (wanted_t hf rfl rfl rfl rfl hc95) rfl rfl (Ext.refl _) (e_not hf rfl) fun a hf => ?_
       refine pi_q hf rfl rfl rfl rfl (Ext.refl _) (e_pick_f hf rfl hc95 rfl) fun a hf => ?_
       refine pi_nil ?_
       obtain rfl := some_inj h77
       refine then_n ?_
       exact ⟨(!y100), rfl, hf.keep ⟨rfl, rfl, rfl, rfl, rfl, rfl, rfl, rfl, rfl, trivial⟩, hM.pick [0, 1, 2, 3] rfl⟩
      iterate 10 refine pi_gs hf rfl (wanted_f hf rfl rfl rfl rfl hc88) rfl rfl (Ext.refl _) fun a hf => ?_
      refine pi_gq hf rfl (wanted_t hf rfl rfl rfl rfl hc86) rfl rfl (Ext.refl _) (e_pick_f hf rfl hc88 rfl) fun a hf => ?_
      refine pi_q hf rfl rfl rfl rfl (Ext.refl _) (e_pick_f hf rfl hc86 rfl) fun a hf => ?_
      refine pi_q hf rfl rfl rfl rfl (Ext.refl _) (e_move hf rfl) fun a hf => ?_
      refine pi_gq hf rfl (wanted_t hf rfl rfl rfl rfl rfl) rfl rfl (Ext.refl _) (e_move hf rfl) fun a hf => ?_
      refine pi_gq hf rfl (wanted_t hf rfl rfl rfl rfl rfl) rfl rfl (Ext.refl _) (e_field hf rfl Tryd.underlying26 rfl Tryd.sizeOf24 (o' := 0) rfl) fun a hf => ?_
      refine pi_gq hf rfl (wanted_t hf rfl rfl rfl rfl rfl) rfl rfl (Ext.refl _) (e_load1 hf rfl Tryd.isAgg24 (hM.boxCell (k := 1) rfl rfl)) fun a hf => ?_
      have hl106 := slice_len (hM.dat (k := 3) rfl)
      refine pi_gq hf rfl (wanted_t hf rfl rfl rfl rfl rfl) rfl rfl (Ext.refl _) (e_lenL hf (x := d1.Nodes) rfl Tryd.underlying24) fun a hf => ?_
      obtain ⟨z107, hz108, h77⟩ := bind_some h77
      refine pi_gq hf rfl (wanted_t hf rfl rfl rfl rfl rfl) rfl rfl (Ext.refl _) (e_sub hf rfl rfl hz108) fun a hf => ?_
      refine pi_one ?_
      obtain ⟨y109, hz110, h77⟩ := bind_some h77
      refine pi_gl hf rfl (wanted_t hf rfl rfl rfl rfl rfl) rfl rfl (w_call hf Tryd.call50 rfl (r_impl_within ⟨_, Sh C _ _, none_, hM.sh_lt, none_not, C.G, hM.g_lt, g_none, hM.tabs⟩ e65 hv73 0 (R64_lit rfl) z107 (chk_R hz108) _ hz110) ?_)
      rintro _ w111 ⟨rfl, hM2⟩
      obtain ⟨hM, hx112, hup113⟩ := hM.back hM2
      dsimp only [List.cons_append, List.nil_append] at hM hup113
      clear hM2
      refine ⟨_, rfl, Ext w111, fun _ h => Ext.trans hx112 h, Ext.refl _, fun a hf => ?_⟩
      refine pi_gq hf rfl (wanted_t hf rfl rfl rfl rfl rfl) rfl rfl (Ext.refl _) (e_not hf rfl) fun a hf => ?_
      refine pi_q hf rfl rfl rfl rfl (Ext.refl _) (e_pick_f hf rfl rfl rfl) fun a hf => ?_
      refine pi_nil ?_
      obtain rfl := some_inj h77
      refine then_n ?_
      exact ⟨(!y109), rfl, hf.keep ⟨rfl, rfl, rfl, rfl, rfl, rfl, rfl, rfl, rfl, trivial⟩, hM.pick [0, 1, 2, 3] rfl⟩
     rintro a w115 ⟨t74, rfl, hf, hM⟩
     try dsimp only at h62
     rcases cond_some h62 with ⟨hc116, h62⟩ | ⟨hc116, h62⟩
     ·refine cond_t hf rfl hc116 ?_
      refine wp_seq ?_
      refine region_pl ?_
      refine q_ hf rfl rfl rfl (e_assign hf rfl) fun a hf => ?_
      refine pl_nil ?_
      refine then_n ?_
      refine wp_ret ?_
      refine blk_r ?_
      refine then_r ?_
      obtain rfl := some_inj h62
      obtain rfl := hd63 _ rfl
      try dsimp only at h33
      refine then_r ?_
      iterate 2 refine blk_r ?_
      obtain rfl := some_inj h33
      try dsimp only at h29
      refine then_r ?_
      obtain rfl := some_inj h29
      obtain rfl := hd30 _ rfl
      try dsimp only at h21
      refine then_r ?_
      refine blk_r ?_
      obtain rfl := some_inj h21
      try dsimp only at h
      refine then_r ?_
      obtain rfl := some_inj h
      have hM := hM.outs (own' := []) 0 rfl
      exact leave1 hf rfl rfl ⟨rfl, hM.fin⟩
     refine cond_f hf rfl hc116 ?_
     refine wp_skip ?_
     refine blk_n ?_
     refine then_n ?_
     refine region_pl ?_
     obtain ⟨z117, hz118, h62⟩ := bind_some h62
     refine q_ hf rfl rfl rfl (e_add hf rfl rfl hz118) fun a hf => ?_
     refine q_ hf rfl rfl rfl (e_move hf rfl) fun a hf => ?_
     refine pl_nil ?_
     obtain rfl := some_inj h62
     refine then_n ⟨_, rfl, ?_⟩
     exact ⟨z117, rfl, hf.keep ⟨rfl, rfl, rfl, rfl, rfl, rfl, rfl, rfl, trivial⟩, hM.pick [1, 2, 3] rfl, (chk_R hz118)⟩
    refine cond_f hf rfl hc64 ?_
    refine wp_exit ?_
    refine then_x ?_
    obtain rfl := some_inj h62
    obtain rfl := hd63 _ rfl
    try dsimp only at h33
    refine then_x ?_
    refine exit_hit ?_
    refine blk_n ?_
    obtain rfl := some_inj h33
    refine then_n ?_
    exact ⟨rfl, hf.keep ⟨rfl, rfl, rfl, rfl, trivial⟩, (hM.drop (.cons _ (.cons_cons _ .slnil))).pick [2] rfl⟩
   rintro a w125 ⟨rfl, hf, hM⟩
   try dsimp only at h29
   refine region_pl ?_
   obtain ⟨z126, hz127, h29⟩ := bind_some h29
   refine q_ hf rfl rfl rfl (e_add hf rfl rfl hz127) fun a hf => ?_
   refine q_ hf rfl rfl rfl (e_move hf rfl) fun a hf => ?_
   refine pl_nil ?_
   obtain rfl := some_inj h29
   refine then_n ⟨_, rfl, ?_⟩
   exact ⟨z126, rfl, hf.keep ⟨rfl, rfl, rfl, rfl, trivial⟩, hM.pick [0] rfl, (chk_R hz127)⟩
  refine cond_f hf rfl hc31 ?_
  refine wp_exit ?_
  refine then_x ?_
  obtain rfl := some_inj h29
  obtain rfl := hd30 _ rfl
  try dsimp only at h21
  refine then_x ?_
  refine exit_hit ?_
  obtain rfl := some_inj h21
  refine then_n ?_
  exact ⟨rfl, hf.keep trivial, hM.pick [0] rfl⟩
 rintro a w135 ⟨rfl, hf, hM⟩
 try dsimp only at h
 refine wp_seq ?_
 refine region_pl ?_
 refine q_ hf rfl rfl rfl (e_assign hf rfl) fun a hf => ?_
 refine pl_nil ?_
 refine then_n ?_
 refine wp_ret ?_
 obtain rfl := some_inj h
 have hM := hM.outs (own' := []) 0 rfl
 exact leave1 hf rfl rfl ⟨rfl, hM.fin⟩

def Ct_impl_inspector_visit (rc : inspector → Int → Option (Bool × inspector)) : Prop := ∀ (C : Cx) (x1 : inspector) (b2 : Nat) (A3 : Option Addr) (c4 : Nat) (hp5 : (sliceRep NodeRep).R C.w0 C.S0 x1.d.Nodes [vL A3 x1.d.Nodes c4]) (hp6 : R64 x1.met) (A7 : Option Addr) (c8 : Nat) (A9 : Option Addr) (c10 : Nat) (A11 : Option Addr) (c12 : Nat) (k13 : Int) (hp14 : R64 k13) (hO : Mem C C.w0 [.box b2 [vL A3 (x1.d.Nodes) c4, vI (x1.met), vL A7 (x1.open_) c8, vL A9 (x1.strings) c10, vL A11 (x1.longest) c12] 111, .row boolRep A7 c8 4 x1.open_ true, .row intRep A9 c10 2 x1.strings true, .row intRep A11 c12 3 x1.longest true] []) (hd : ∀ b, C.S0 b → ¬ ownB [.box b2 [vL A3 (x1.d.Nodes) c4, vI (x1.met), vL A7 (x1.open_) c8, vL A9 (x1.strings) c10, vL A11 (x1.longest) c12] 111, .row boolRep A7 c8 4 x1.open_ true, .row intRep A9 c10 2 x1.strings true, .row intRep A11 c12 3 x1.longest true] b) (r : (Bool × inspector)) (h : rc x1 k13 = some r),
    Calls Tryd.prog 77 #[vP b2 (0), vI (k13)] C.w0 fun e w => ∃ (A_1 : Option Addr), ∃ (c_1 : Nat), ∃ (A_2 : Option Addr), ∃ (c_2 : Nat), ∃ (A_3 : Option Addr), ∃ (c_3 : Nat), e = .returned (.bool (r.1)) ∧ Mem C w [.box b2 [vL A3 (x1.d.Nodes) c4, vI (r.2.met), vL A_1 (r.2.open_) c_1, vL A_2 (r.2.strings) c_2, vL A_3 (r.2.longest) c_3] 111, .row boolRep A_1 c_1 4 r.2.open_ true, .row intRep A_2 c_2 2 r.2.strings true, .row intRep A_3 c_3 3 r.2.longest true] [] ∧ R64 r.2.met

set_option maxRecDepth 100000 in
set_option maxHeartbeats 4000000 in
theorem r_impl_inspector_visit_b (rc : inspector → Int → Option (Bool × inspector)) (ih : Ct_impl_inspector_visit rc) : Ct_impl_inspector_visit (m_impl_inspector_visit_b rc) := by
 intro C x1 b2 A3 c4 hp5 hp6 A7 c8 A9 c10 A11 c12 k13 hp14 hO hd r h
 have hM := hO
 have hM := hM.addIn hd (y := .dat (sliceRep NodeRep) x1.d.Nodes [vL A3 x1.d.Nodes c4]) hp5
 refine enter Tryd.func77 rfl Tryd.ntmps77 rfl fun a hf => ?_
 unfold m_impl_inspector_visit_b at h
 refine wp_seq ?_
 refine region_pl ?_
 refine q_ hf rfl rfl rfl (e_assign hf rfl) fun a hf => ?_
 refine pl_nil ?_
 refine then_n ?_
 iterate 2 refine wp_seq ?_
 refine region_pl ?_
 iterate 2 refine q_ hf rfl rfl rfl (e_move hf rfl) fun a hf => ?_
 refine q_ hf rfl rfl rfl (e_nil hf rfl) fun a hf => ?_
 refine q_ hf rfl rfl rfl (e_field hf rfl Tryd.underlying111 rfl Tryd.sizeOf2 (o' := 1) rfl) fun a hf => ?_
 refine q_ hf rfl rfl rfl (e_load1 hf rfl Tryd.isAgg2 (hM.boxCell (k := 0) rfl rfl)) fun a hf => ?_
 refine q_ hf rfl rfl rfl (e_lt hf (x := k13) (y := x1.met) rfl rfl) fun a hf => ?_
 refine pl_nil ?_
 refine then_n ?_
 rcases cond_some h with ⟨hc15, h⟩ | ⟨hc15, h⟩
 ·refine cond_t hf rfl hc15 ?_
  refine wp_seq ?_
  refine region_pl ?_
  refine q_ hf rfl rfl rfl (e_move hf rfl) fun a hf => ?_
  refine q_ hf rfl rfl rfl (e_nil hf rfl) fun a hf => ?_
  refine q_ hf rfl rfl rfl (e_field hf rfl Tryd.underlying111 rfl Tryd.sizeOf108 (o' := 2) rfl) fun a hf => ?_
  refine q_ hf rfl rfl rfl (e_load1 hf rfl Tryd.isAgg108 (hM.boxCell (k := 0) rfl rfl)) fun a hf => ?_
  refine q_ hf rfl rfl rfl (e_move hf rfl) fun a hf => ?_
  obtain ⟨e16, hz17, h⟩ := bind_some h
  obtain ⟨b22, _, hA23, h18, h19, hr20, hcell21⟩ := hM.rowElemN (k := 1) rfl (n := 1) rfl hz17
  obtain rfl : _ = _ := hr20
  refine q_ hf rfl rfl rfl (e_indexAddr (A := A7) (b := b22) (o := 0) (xs := x1.open_) (i := k13) hf hA23 rfl rfl Tryd.underlying108 Tryd.sizeOf4 h18 h19) fun a hf => ?_
  refine q_ hf rfl rfl rfl (e_load1 hf rfl Tryd.isAgg4 (hcell21 0 _ rfl)) fun a hf => ?_
  refine q_ hf rfl rfl rfl (e_not hf rfl) fun a hf => ?_
  refine q_ hf rfl rfl rfl (e_assign hf rfl) fun a hf => ?_
  refine pl_nil ?_
  refine then_n ?_
  refine wp_ret ?_
  refine then_r ?_
  obtain rfl := some_inj h
  exact leave1 hf rfl rfl ⟨A7, c8, A9, c10, A11, c12, rfl, hM.fin, hp6⟩
 refine cond_f hf rfl hc15 ?_
 refine wp_skip ?_
 refine then_n ?_
 iterate 2 refine wp_seq ?_
 refine region_pl ?_
 iterate 2 refine q_ hf rfl rfl rfl (e_move hf rfl) fun a hf => ?_
 refine q_ hf rfl rfl rfl (e_nil hf rfl) fun a hf => ?_
 refine q_ hf rfl rfl rfl (e_field hf rfl Tryd.underlying111 rfl Tryd.sizeOf2 (o' := 1) rfl) fun a hf => ?_
 refine q_ hf rfl rfl rfl (e_load1 hf rfl Tryd.isAgg2 (hM.boxCell (k := 0) rfl rfl)) fun a hf => ?_
 refine q_ hf rfl rfl rfl (e_gt hf (x := k13) (y := x1.met) rfl rfl) fun a hf => ?_
 refine pl_nil ?_
 refine then_n ?_
 rcases cond_some h with ⟨hc24, h⟩ | ⟨hc24, h⟩
 ·refine cond_t hf rfl hc24 ?_
  refine wp_seq ?_
  refine region_pl ?_
  refine q_ hf rfl rfl rfl (e_assign hf rfl) fun a hf => ?_
  refine pl_nil ?_
  refine then_n ?_
  refine wp_ret ?_
  refine then_r ?_
  obtain rfl := some_inj h
  exact leave1 hf rfl rfl ⟨A7, c8, A9, c10, A11, c12, rfl, hM.fin, hp6⟩
 refine cond_f hf rfl hc24 ?_
 refine wp_skip ?_
 refine then_n ?_
 refine wp_seq ?_
 refine region_pl ?_
 refine q_ hf rfl rfl rfl (e_move hf rfl) fun a hf => ?_
 refine q_ hf rfl rfl rfl (e_nil hf rfl) fun a hf => ?_
 refine q_ hf rfl rfl rfl (e_field hf rfl Tryd.underlying111 rfl Tryd.sizeOf2 (o' := 1) rfl) fun a hf => ?_
 refine q_ hf rfl rfl rfl (e_load1 hf rfl Tryd.isAgg2 (hM.boxCell (k := 0) rfl rfl)) fun a hf => ?_
 obtain ⟨z25, hz26, h⟩ := bind_some h
 refine q_ hf rfl rfl rfl (e_add hf rfl rfl hz26) fun a hf => ?_
 refine q_ hf rfl rfl rfl (e_nil hf rfl) fun a hf => ?_
 refine q_ hf rfl rfl rfl (e_field hf rfl Tryd.underlying111 rfl Tryd.sizeOf2 (o' := 1) rfl) fun a hf => ?_
 refine pl_0 hf rfl rfl (w_store hf hM (us := [vI (z25)]) (cs' := [vL A3 (x1.d.Nodes) c4, vI (z25), vL A7 (x1.open_) c8, vL A9 (x1.strings) c10, vL A11 (x1.longest) c12]) rfl rfl (k := 0) rfl rfl Tryd.sizeOf2 rfl rfl rfl fun w27 hM => ?_)
 dsimp only [List.set] at hM
 refine pl_nil ?_
 refine then_n ?_
 refine wp_seq ?_
 refine region_pl ?_
 refine q_ hf rfl rfl rfl (e_move hf rfl) fun a hf => ?_
 refine q_ hf rfl rfl rfl (e_nil hf rfl) fun a hf => ?_
 refine q_ hf rfl rfl rfl (e_field hf rfl Tryd.underlying111 rfl Tryd.sizeOf108 (o' := 2) rfl) fun a hf => ?_
 refine q_ hf rfl rfl rfl (e_load1 hf rfl Tryd.isAgg108 (hM.boxCell (k := 0) rfl rfl)) fun a hf => ?_
 refine q_ hf rfl rfl rfl (e_move hf rfl) fun a hf => ?_
 obtain ⟨e30, hz31, h⟩ := bind_some h
 obtain ⟨b36, _, hA37, h32, h33, hr34, hcell35⟩ := hM.rowElemN (k := 1) rfl (n := 1) rfl hz31
 obtain rfl : _ = _ := hr34
 refine q_ hf rfl rfl rfl (e_indexAddr (A := A7) (b := b36) (o := 0) (xs := x1.open_) (i := k13) hf hA37 rfl rfl Tryd.underlying108 Tryd.sizeOf4 h32 h33) fun a hf => ?_
 obtain ⟨xs39, hz40, h⟩ := bind_some h
 refine pl_0 hf rfl rfl (w_storeElem hf hM (x := true) (row := [.bool (true)]) (i := k13) rfl rfl rfl hA37 (k := 1) rfl rfl Tryd.sizeOf4 rfl hz40 fun w38 hM => ?_)
 dsimp only [List.set] at hM
 have hf := hf.alter (d := 38) (v := vL A7 (xs39) c8) rfl (vL_len (setL_len hz40))
 rw [vL_len (A := A7) (c := c8) (setL_len hz40)] at hM
 refine pl_nil ?_
 refine then_n ?_
 refine wp_seq ?_
 refine region_pl ?_
 refine q_ hf rfl rfl rfl (e_move hf rfl) fun a hf => ?_
 refine q_ hf rfl rfl rfl (e_nil hf rfl) fun a hf => ?_
 refine q_ hf rfl rfl rfl (e_field hf rfl Tryd.underlying111 rfl Tryd.sizeOf26 (o' := 0) rfl) fun a hf => ?_
 refine q_ hf rfl rfl rfl (e_field hf rfl Tryd.underlying26 rfl Tryd.sizeOf24 (o' := 0) rfl) fun a hf => ?_
 refine q_ hf rfl rfl rfl (e_load1 hf rfl Tryd.isAgg24 (hM.boxCell (k := 0) rfl rfl)) fun a hf => ?_
 refine q_ hf rfl rfl rfl (e_move hf rfl) fun a hf => ?_
 obtain ⟨e41, hz42, h⟩ := bind_some h
 obtain ⟨b46, o47, _, hA48, h43, h44, hr45, hM⟩ := hM.elem (hM.dat (k := 0) rfl) (n := 3) rfl hz42
 obtain ⟨A50, c51, rfl, hv49, hv52⟩ := NodeRep_open hr45
 have hM := hM.add (y := .dat (sliceRep intRep) e41.Next [vL A50 e41.Next c51]) hv52
 refine q_ hf rfl rfl rfl (e_indexAddr (A := A3) (b := b46) (o := o47) (xs := x1.d.Nodes) (i := k13) hf hA48 rfl rfl Tryd.underlying24 Tryd.sizeOf76 h43 h44) fun a hf => ?_
 refine q_ hf rfl rfl rfl (e_loadA hf (us := [.bool (e41.Final), vS (e41.Letters), vL A50 (e41.Next) c51]) rfl ⟨Tryd.isAgg76, Tryd.sizeOf76⟩ rfl (hM.litSub (k := 1) (d := 0) (us := [.bool (e41.Final), vS (e41.Letters), vL A50 (e41.Next) c51]) rfl rfl rfl)) fun a hf => ?_
 refine pl_l hf rfl rfl rfl (w_alloc hM (cs := [.bool (false), vS (([] : Str)), vL none (([] : (List Int))) 0]) Tryd.zeroValue76 rfl fun b53 w54 hx55 hM a hf => ?_)
 refine pl_0 hf rfl rfl (w_store hf hM (us := [.bool (e41.Final), vS (e41.Letters), vL A50 (e41.Next) c51]) (cs' := [.bool (e41.Final), vS (e41.Letters), vL A50 (e41.Next) c51]) rfl rfl (k := 0) rfl rfl Tryd.sizeOf76 rfl rfl rfl fun w57 hM => ?_)
 dsimp only [List.set] at hM
 refine pl_nil ?_
 refine then_n ?_
 obtain ⟨x62, h63, h⟩ := bind_some h
 refine seq_join (fun a w => ∃ (xs60 : (List Int)), xs60 = x62 ∧ Has 131 a [(0, vP b2 (0)), (1, vI (k13)), (5, vP b53 (0))] ∧ Mem C w [.box b53 [.bool (e41.Final), vS (e41.Letters), vL A50 (e41.Next) c51] 76, .box b2 [vL A3 (x1.d.Nodes) c4, vI (z25), vL A7 (xs39) c8, vL A9 (xs60) c10, vL A11 (x1.longest) c12] 111, .row boolRep A7 c8 4 xs39 true, .row intRep A9 c10 2 xs60 true, .row intRep A11 c12 3 x1.longest true] [.dat (sliceRep intRep) e41.Next [vL A50 e41.Next c51], .lit b46 (o47 + (k13 : Int).toNat * 3) [.bool (e41.Final), vS (e41.Letters), vL A50 (e41.Next) c51], .dat (sliceRep NodeRep) x1.d.Nodes [vL A3 x1.d.Nodes c4]] ∧ xs60.length = x1.strings.length) ?_ ?_
 ·refine wp_seq ?_
  refine region_pl ?_
  refine q_ hf rfl rfl rfl (e_field hf rfl Tryd.underlying76 rfl Tryd.sizeOf4 (o' := 0) rfl) fun a hf => ?_
  refine q_ hf rfl rfl rfl (e_load1 hf rfl Tryd.isAgg4 (hM.boxCell (k := 0) rfl rfl)) fun a hf => ?_
  refine pl_nil ?_
  refine then_n ?_
  rcases cond_some h63 with ⟨hc64, h63⟩ | ⟨hc64, h63⟩
  ·refine cond_t hf rfl hc64 ?_
   refine region_pl ?_
   refine q_ hf rfl rfl rfl (e_move hf rfl) fun a hf => ?_
   refine q_ hf rfl rfl rfl (e_nil hf rfl) fun a hf => ?_
   refine q_ hf rfl rfl rfl (e_field hf rfl Tryd.underlying111 rfl Tryd.sizeOf31 (o' := 3) rfl) fun a hf => ?_
   refine q_ hf rfl rfl rfl (e_load1 hf rfl Tryd.isAgg31 (hM.boxCell (k := 1) rfl rfl)) fun a hf => ?_
   refine q_ hf rfl rfl rfl (e_move hf rfl) fun a hf => ?_
   obtain ⟨e65, hz66, h63⟩ := bind_some h63
   obtain ⟨b71, _, hA72, h67, h68, hr69, hcell70⟩ := hM.rowElemN (k := 3) rfl (n := 1) rfl hz66
   obtain ⟨rfl, hv73⟩ := hr69
   refine q_ hf rfl rfl rfl (e_indexAddr (A := A9) (b := b71) (o := 0) (xs := x1.strings) (i := k13) hf hA72 rfl rfl Tryd.underlying31 Tryd.sizeOf2 h67 h68) fun a hf => ?_
   obtain ⟨xs75, hz76, h63⟩ := bind_some h63
   refine pl_0 hf rfl rfl (w_storeElem hf hM (x := 1) (row := [vI (1)]) (i := k13) rfl rfl rfl hA72 (k := 3) rfl rfl Tryd.sizeOf2 ⟨rfl, (R64_lit rfl)⟩ hz76 fun w74 hM => ?_)
   dsimp only [List.set] at hM
   have hf := hf.alter (d := 54) (v := vL A9 (xs75) c10) rfl (vL_len (setL_len hz76))
   rw [vL_len (A := A9) (c := c10) (setL_len hz76)] at hM
   refine pl_nil ?_
   obtain rfl := some_inj h63
   refine then_n ?_
   exact ⟨xs75, rfl, hf.keep ⟨rfl, rfl, rfl, trivial⟩, hM.pick [0, 1, 2] rfl, (setL_len hz76)⟩
  refine cond_f hf rfl hc64 ?_
  refine wp_skip ?_
  obtain rfl := some_inj h63
  refine then_n ?_
  exact ⟨x1.strings, rfl, hf.keep ⟨rfl, rfl, rfl, trivial⟩, hM.pick [0, 1, 2] rfl, rfl⟩
 rintro a w79 ⟨xs60, rfl, hf, hM, hl61⟩
 try dsimp only at h
 obtain ⟨x91, h92, h⟩ := bind_some h
 refine seq_join (fun a w => ∃ (n80 : Int) (xs82 : (List Bool)) (xs85 : (List Int)) (xs88 : (List Int)) (A83 : Option Addr) (c84 : Nat) (A86 : Option Addr) (c87 : Nat) (A89 : Option Addr) (c90 : Nat), (.inl (n80, xs82, xs85, xs88)) = x91 ∧ Has 131 a [(0, vP b2 (0)), (1, vI (k13))] ∧ Mem C w [.box b53 [.bool (e41.Final), vS (e41.Letters), vL A50 (e41.Next) c51] 76, .box b2 [vL A3 (x1.d.Nodes) c4, vI (n80), vL A83 (xs82) c84, vL A86 (xs85) c87, vL A89 (xs88) c90] 111, .row boolRep A83 c84 4 xs82 true, .row intRep A86 c87 2 xs85 true, .row intRep A89 c90 3 xs88 true] [.dat (sliceRep intRep) e41.Next [vL A50 e41.Next c51], .lit b46 (o47 + (k13 : Int).toNat * 3) [.bool (e41.Final), vS (e41.Letters), vL A50 (e41.Next) c51], .dat (sliceRep NodeRep) x1.d.Nodes [vL A3 x1.d.Nodes c4]] ∧ R64 n80) ?_ ?_
 ·refine wp_seq ?_
  refine region_pl ?_
  refine q_ hf rfl rfl rfl (e_field hf rfl Tryd.underlying76 rfl Tryd.sizeOf31 (o' := 2) rfl) fun a hf => ?_
  refine q_ hf rfl rfl rfl (e_load1 hf rfl Tryd.isAgg31 (hM.boxCell (k := 0) rfl rfl)) fun a hf => ?_
  have hl93 := slice_len (hM.dat (k := 0) rfl)
  refine q_ hf rfl rfl rfl (e_lenL hf (x := e41.Next) rfl Tryd.underlying31) fun a hf => ?_
  refine q_ hf rfl rfl rfl (e_move hf rfl) fun a hf => ?_
  refine pl_nil ?_
  refine then_n ?_
  refine wp_block ?_
  obtain ⟨x119, h120, h92⟩ := bind_some h92
  refine wp_loopM h120 (fun s a w => ∃ (n94 : Int) (xs96 : (List Bool)) (xs99 : (List Int)) (xs102 : (List Int)) (n105 : Int) (A97 : Option Addr) (c98 : Nat) (A100 : Option Addr) (c101 : Nat) (A103 : Option Addr) (c104 : Nat), (n94, xs96, xs99, xs102, n105) = s ∧ Has 131 a [(0, vP b2 (0)), (1, vI (k13)), (58, vL A50 (e41.Next) c51), (59, vI ((e41.Next.length : Int))), (60, vI (n105))] ∧ Mem C w [.box b53 [.bool (e41.Final), vS (e41.Letters), vL A50 (e41.Next) c51] 76, .box b2 [vL A3 (x1.d.Nodes) c4, vI (n94), vL A97 (xs96) c98, vL A100 (xs99) c101, vL A103 (xs102) c104] 111, .row boolRep A97 c98 4 xs96 true, .row intRep A100 c101 2 xs99 true, .row intRep A103 c104 3 xs102 true] [.dat (sliceRep intRep) e41.Next [vL A50 e41.Next c51], .lit b46 (o47 + (k13 : Int).toNat * 3) [.bool (e41.Final), vS (e41.Letters), vL A50 (e41.Next) c51], .dat (sliceRep NodeRep) x1.d.Nodes [vL A3 x1.d.Nodes c4]] ∧ R64 n94 ∧ R64 n105) ?_ ?_
  ·exact ⟨z25, xs39, xs60, x1.longest, 0, A7, c8, A9, c10, A11, c12, rfl, hf.keep ⟨rfl, rfl, rfl, rfl, rfl, trivial⟩, hM.pick [0, 1, 2] rfl, (chk_R hz26), (R64_lit rfl)⟩
  rintro s o121 a w107 ⟨n94, xs96, xs99, xs102, n105, A97, c98, A100, c101, A103, c104, rfl, hf, hM, hv95, hv106⟩ h122 hd123
  replace h122 : m_impl_inspector_visit_l1 e41 rc x1 k13 n94 xs96 xs99 xs102 n105 = some o121 := h122
  unfold m_impl_inspector_visit_l1 at h122
  refine wp_seq ?_
  refine region_pl ?_
  refine q_ hf rfl rfl rfl (e_lt hf (x := n105) (y := (e41.Next.length : Int)) rfl rfl) fun a hf => ?_
  refine pl_nil ?_
  refine then_n ?_
  refine wp_seq ?_
  rcases cond_some h122 with ⟨hc124, h122⟩ | ⟨hc124, h122⟩
  ·refine cond_t hf rfl hc124 ?_
   refine wp_skip ?_
   refine then_n ?_
   refine wp_seq ?_
   refine wp_block ?_
   refine wp_seq ?_
   refine region_pl ?_
   obtain ⟨e125, hz126, h122⟩ := bind_some h122
   obtain ⟨b130, o131, _, hA132, h127, h128, hr129, hM⟩ := hM.elem (hM.dat (k := 0) rfl) (n := 1) rfl hz126
   obtain ⟨rfl, hv133⟩ := hr129
   refine q_ hf rfl rfl rfl (e_indexAddr (A := A50) (b := b130) (o := o131) (xs := e41.Next) (i := n105) hf hA132 rfl rfl Tryd.underlying31 Tryd.sizeOf2 h127 h128) fun a hf => ?_
   refine q_ hf rfl rfl rfl (e_load1 hf rfl Tryd.isAgg2 (hM.litCell (k := 0) (j := 0) rfl rfl rfl)) fun a hf => ?_
   refine q_ hf rfl rfl rfl (e_assign hf rfl) fun a hf => ?_
   refine pl_nil ?_
   refine then_n ?_
   iterate 2 refine wp_seq ?_
   refine region_pl ?_
   iterate 2 refine q_ hf rfl rfl rfl (e_move hf rfl) fun a hf => ?_
   have hM := hM.front (k := 4) rfl
   dsimp only [List.eraseIdx] at hM
   have hM := hM.front (k := 4) rfl
   dsimp only [List.eraseIdx] at hM
   have hM := hM.front (k := 4) rfl
   dsimp only [List.eraseIdx] at hM
   have hM := hM.front (k := 4) rfl
   dsimp only [List.eraseIdx] at hM
   have hM : Mem C _ ([.box b2 [vL A3 (x1.d.Nodes) c4, vI (n94), vL A97 (xs96) c98, vL A100 (xs99) c101, vL A103 (xs102) c104] 111, .row boolRep A97 c98 4 xs96 true, .row intRep A100 c101 2 xs99 true, .row intRep A103 c104 3 xs102 true] ++ [.box b53 [.bool (e41.Final), vS (e41.Letters), vL A50 (e41.Next) c51] 76]) _ := hM
   obtain ⟨y134, hz135, h122⟩ := bind_some h122
   refine pl_l hf rfl rfl rfl (w_call hf Tryd.call77 rfl (ih ⟨_, Sh C _ _, ownB _, hM.sh_lt, sub_dis, C.G, hM.g_lt, hM.g_own, hM.tabs⟩ (⟨⟨x1.d.Nodes⟩, n94, xs96, xs99, xs102⟩ : inspector) _ _ _ (hM.dat (k := 3) rfl) hv95 _ _ _ _ _ _ e125 hv133 hM.sub sub_dis _ hz135) ?_)
   rintro _ w143 ⟨A137, c138, A139, c140, A141, c142, rfl, hM2, hv136⟩
   obtain ⟨hM, hup145⟩ := hM.backG hM2
   dsimp only [List.cons_append, List.nil_append] at hM hup145
   clear hM2
   refine ⟨_, rfl, fun a hf => ?_⟩
   refine q_ hf rfl rfl rfl (e_not hf rfl) fun a hf => ?_
   refine pl_nil ?_
   refine then_n ?_
   rcases cond_some h122 with ⟨hc146, h122⟩ | ⟨hc146, h122⟩
   ·refine cond_t hf rfl hc146 ?_
    refine wp_seq ?_
    refine region_pl ?_
    refine q_ hf rfl rfl rfl (e_assign hf rfl) fun a hf => ?_
    refine pl_nil ?_
    refine then_n ?_
    refine wp_ret ?_
    refine then_r ?_
    refine blk_r ?_
    refine then_r ?_
    obtain rfl := some_inj h122
    obtain rfl := hd123 _ rfl
    try dsimp only at h92
    refine then_r ?_
    refine blk_r ?_
    obtain rfl := some_inj h92
    try dsimp only at h
    refine then_r ?_
    obtain rfl := some_inj h
    have hM := hM.outs (own' := [.box b2 [vL A3 (x1.d.Nodes) c4, vI (y134.2.met), vL A137 (y134.2.open_) c138, vL A139 (y134.2.strings) c140, vL A141 (y134.2.longest) c142] 111, .row boolRep A137 c138 4 y134.2.open_ true, .row intRep A139 c140 2 y134.2.strings true, .row intRep A141 c142 3 y134.2.longest true]) 4 rfl
    exact leave1 hf rfl rfl ⟨A137, c138, A139, c140, A141, c142, rfl, hM.fin, hv136⟩
   refine cond_f hf rfl hc146 ?_
   refine wp_skip ?_
   refine then_n ?_
   refine wp_seq ?_
   obtain ⟨w147, hw⟩ : ∃ x, x = w143.drew := ⟨_, rfl⟩
   refine region_pi (.q 0 (.q 1 (.q 2 (.q 3 (.q 4 (.q 5 (.q 6 (.q 7 (.q 8 (.q 9 (.q 10 (.q 11 (.q 12 (.q 13 (.q 14 (.q 15 (.q 16 (.q 17 (.q 18 (.q 19 (.q 20 (.q 21 (.l 22 (.nil)))))))))))))))))))))))) (Ext w147) rfl (by kernel_rfl) ?_
   have hM := hM.drew
   rw [← hw] at hM ⊢
   clear hw
   refine pi_q hf rfl rfl rfl rfl (Ext.refl _) (e_move hf rfl) fun a hf => ?_
   refine pi_q hf rfl rfl rfl rfl (Ext.refl _) (e_nil hf rfl) fun a hf => ?_
   refine pi_q hf rfl rfl rfl rfl (Ext.refl _) (e_field hf rfl Tryd.underlying111 rfl Tryd.sizeOf31 (o' := 3) rfl) fun a hf => ?_
   refine pi_q hf rfl rfl rfl rfl (Ext.refl _) (e_load1 hf rfl Tryd.isAgg31 (hM.boxCell (k := 0) rfl rfl)) fun a hf => ?_
   iterate 2 refine pi_q hf rfl rfl rfl rfl (Ext.refl _) (e_move hf rfl) fun a hf => ?_
   refine pi_q hf rfl rfl rfl rfl (Ext.refl _) (e_nil hf rfl) fun a hf => ?_
   refine pi_q hf rfl rfl rfl rfl (Ext.refl _) (e_field hf rfl Tryd.underlying111 rfl Tryd.sizeOf31 (o' := 3) rfl) fun a hf => ?_
   refine pi_q hf rfl rfl rfl rfl (Ext.refl _) (e_load1 hf rfl Tryd.isAgg31 (hM.boxCell (k := 0) rfl rfl)) fun a hf => ?_
   refine pi_q hf rfl rfl rfl rfl (Ext.refl _) (e_move hf rfl) fun a hf => ?_
   obtain ⟨e148, hz149, h122⟩ := bind_some h122
   obtain ⟨b154, _, hA155, h150, h151, hr152, hcell153⟩ := hM.rowElemN (k := 2) rfl (n := 1) rfl hz149
   obtain ⟨rfl, hv156⟩ := hr152
   refine pi_q hf rfl rfl rfl rfl (Ext.refl _) (e_indexAddr (A := A139) (b := b154) (o := 0) (xs := y134.2.strings) (i := k13) hf hA155 rfl rfl Tryd.underlying31 Tryd.sizeOf2 h150 h151) fun a hf => ?_
   refine pi_q hf rfl rfl rfl rfl (Ext.refl _) (e_load1 hf rfl Tryd.isAgg2 (hcell153 0 _ rfl)) fun a hf => ?_
   refine pi_q hf rfl rfl rfl rfl (Ext.refl _) (e_move hf rfl) fun a hf => ?_
   refine pi_q hf rfl rfl rfl rfl (Ext.refl _) (e_nil hf rfl) fun a hf => ?_
   refine pi_q hf rfl rfl rfl rfl (Ext.refl _) (e_field hf rfl Tryd.underlying111 rfl Tryd.sizeOf31 (o' := 3) rfl) fun a hf => ?_
   refine pi_q hf rfl rfl rfl rfl (Ext.refl _) (e_load1 hf rfl Tryd.isAgg31 (hM.boxCell (k := 0) rfl rfl)) fun a hf => ?_
   refine pi_q hf rfl rfl rfl rfl (Ext.refl _) (e_move hf rfl) fun a hf => ?_
   obtain ⟨e157, hz158, h122⟩ := bind_some h122
   obtain ⟨b163, _, hA164, h159, h160, hr161, hcell162⟩ := hM.rowElemN (k := 2) rfl (n := 1) rfl hz158
   obtain ⟨rfl, hv165⟩ := hr161
   refine pi_q hf rfl rfl rfl rfl (Ext.refl _) (e_indexAddr (A := A139) (b := b163) (o := 0) (xs := y134.2.strings) (i := e125) hf hA164 rfl rfl Tryd.underlying31 Tryd.sizeOf2 h159 h160) fun a hf => ?_
   refine pi_q hf rfl rfl rfl rfl (Ext.refl _) (e_load1 hf rfl Tryd.isAgg2 (hcell162 0 _ rfl)) fun a hf => ?_
   obtain ⟨z166, hz167, h122⟩ := bind_some h122
   refine pi_q hf rfl rfl rfl rfl (Ext.refl _) (e_add hf rfl rfl hz167) fun a hf => ?_
   refine pi_q hf rfl rfl rfl rfl (Ext.refl _) (e_min hf rfl rfl) fun a hf => ?_
   obtain ⟨e168, hz169, h122⟩ := bind_some h122
   obtain ⟨b174, _, hA175, h170, h171, hr172, hcell173⟩ := hM.rowElemN (k := 2) rfl (n := 1) rfl hz169
   obtain ⟨rfl, hv176⟩ := hr172
   refine pi_q hf rfl rfl rfl rfl (Ext.refl _) (e_indexAddr (A := A139) (b := b174) (o := 0) (xs := y134.2.strings) (i := k13) hf hA175 rfl rfl Tryd.underlying31 Tryd.sizeOf2 h170 h171) fun a hf => ?_
   refine pi_one ?_
   obtain ⟨xs178, hz179, h122⟩ := bind_some h122
   refine pi_z0 hf rfl rfl rfl (by kernel_rfl) (w_storeElem hf hM (x := min z166 3001) (row := [vI (min z166 3001)]) (i := k13) rfl rfl rfl hA175 (k := 2) rfl rfl Tryd.sizeOf2 ⟨rfl, (R64_min (chk_R hz167) (R64_lit rfl))⟩ hz179 fun w177 hM => ?_)
   dsimp only [List.set] at hM
   have hf := hf.alter (d := 71) (v := vL A139 (xs178) c140) rfl (vL_len (setL_len hz179))
   have hf := hf.alter (d := 76) (v := vL A139 (xs178) c140) rfl (vL_len (setL_len hz179))
   have hf := hf.alter (d := 83) (v := vL A139 (xs178) c140) rfl (vL_len (setL_len hz179))
   rw [vL_len (A := A139) (c := c140) (setL_len hz179)] at hM
   refine pi_nil ?_
   refine then_n ?_
   obtain ⟨w180, hw⟩ : ∃ x, x = w177.drew := ⟨_, rfl⟩
   refine region_pi (.q 0 (.q 1 (.q 2 (.q 3 (.q 4 (.q 5 (.q 6 (.q 7 (.q 8 (.q 9 (.q 10 (.q 11 (.q 12 (.q 13 (.q 14 (.q 15 (.q 16 (.q 17 (.q 18 (.q 19 (.q 20 (.q 21 (.l 22 (.nil)))))))))))))))))))))))) (Ext w180) rfl (by kernel_rfl) ?_
   have hM := hM.drew
   rw [← hw] at hM ⊢
   clear hw
   refine pi_q hf rfl rfl rfl rfl (Ext.refl _) (e_move hf rfl) fun a hf => ?_
   refine pi_q hf rfl rfl rfl rfl (Ext.refl _) (e_nil hf rfl) fun a hf => ?_
   refine pi_q hf rfl rfl rfl rfl (Ext.refl _) (e_field hf rfl Tryd.underlying111 rfl Tryd.sizeOf109 (o' := 4) rfl) fun a hf => ?_
   refine pi_q hf rfl rfl rfl rfl (Ext.refl _) (e_load1 hf rfl Tryd.isAgg109 (hM.boxCell (k := 0) rfl rfl)) fun a hf => ?_
   iterate 2 refine pi_q hf rfl rfl rfl rfl (Ext.refl _) (e_move hf rfl) fun a hf => ?_
   refine pi_q hf rfl rfl rfl rfl (Ext.refl _) (e_nil hf rfl) fun a hf => ?_
   refine pi_q hf rfl rfl rfl rfl (Ext.refl _) (e_field hf rfl Tryd.underlying111 rfl Tryd.sizeOf109 (o' := 4) rfl) fun a hf => ?_
   refine pi_q hf rfl rfl rfl rfl (Ext.refl _) (e_load1 hf rfl Tryd.isAgg109 (hM.boxCell (k := 0) rfl rfl)) fun a hf => ?_
   refine pi_q hf rfl rfl rfl rfl (Ext.refl _) (e_move hf rfl) fun a hf => ?_
   obtain ⟨e181, hz182, h122⟩ := bind_some h122
   obtain ⟨b187, _, hA188, h183, h184, hr185, hcell186⟩ := hM.rowElemN (k := 3) rfl (n := 1) rfl hz182
   obtain ⟨rfl, hv189⟩ := hr185
   refine pi_q hf rfl rfl rfl rfl (Ext.refl _) (e_indexAddr (A := A141) (b := b187) (o := 0) (xs := y134.2.longest) (i := k13) hf hA188 rfl rfl Tryd.underlying109 Tryd.sizeOf3 h183 h184) fun a hf => ?_
   refine pi_q hf rfl rfl rfl rfl (Ext.refl _) (e_load1 hf rfl Tryd.isAgg3 (hcell186 0 _ rfl)) fun a hf => ?_
   refine pi_q hf rfl rfl rfl rfl (Ext.refl _) (e_move hf rfl) fun a hf => ?_
   refine pi_q hf rfl rfl rfl rfl (Ext.refl _) (e_nil hf rfl) fun a hf => ?_
   refine pi_q hf rfl rfl rfl rfl (Ext.refl _) (e_field hf rfl Tryd.underlying111 rfl Tryd.sizeOf109 (o' := 4) rfl) fun a hf => ?_
   refine pi_q hf rfl rfl rfl rfl (Ext.refl _) (e_load1 hf rfl Tryd.isAgg109 (hM.boxCell (k := 0) rfl rfl)) fun a hf => ?_
   refine pi_q hf rfl rfl rfl rfl (Ext.refl _) (e_move hf rfl) fun a hf => ?_
   obtain ⟨e190, hz191, h122⟩ := bind_some h122
   obtain ⟨b196, _, hA197, h192, h193, hr194, hcell195⟩ := hM.rowElemN (k := 3) rfl (n := 1) rfl hz191
   obtain ⟨rfl, hv198⟩ := hr194
   refine pi_q hf rfl rfl rfl rfl (Ext.refl _) (e_indexAddr (A := A141) (b := b196) (o := 0) (xs := y134.2.longest) (i := e125) hf hA197 rfl rfl Tryd.underlying109 Tryd.sizeOf3 h192 h193) fun a hf => ?_
   refine pi_q hf rfl rfl rfl rfl (Ext.refl _) (e_load1 hf rfl Tryd.isAgg3 (hcell195 0 _ rfl)) fun a hf => ?_
   obtain ⟨z199, hz200, h122⟩ := bind_some h122
   refine pi_q hf rfl rfl rfl rfl (Ext.refl _) (e_add hf rfl rfl hz200) fun a hf => ?_
   refine pi_q hf rfl rfl rfl rfl (Ext.refl _) (e_max hf rfl rfl) fun a hf => ?_
   obtain ⟨e201, hz202, h122⟩ := bind_some h122
   obtain ⟨b207, _, hA208, h203, h204, hr205, hcell206⟩ := hM.rowElemN (k := 3) rfl (n := 1) rfl hz202
   obtain ⟨rfl, hv209⟩ := hr205
   refine pi_q hf rfl rfl rfl rfl (Ext.refl _) (e_indexAddr (A := A141) (b := b207) (o := 0) (xs := y134.2.longest) (i := k13) hf hA208 rfl rfl Tryd.underlying109 Tryd.sizeOf3 h203 h204) fun a hf => ?_
   refine pi_one ?_
   obtain ⟨xs211, hz212, h122⟩ := bind_some h122
   refine pi_z0 hf rfl rfl rfl (by kernel_rfl) (w_storeElem hf hM (x := max e181 z199) (row := [vI (max e181 z199)]) (i := k13) rfl rfl rfl hA208 (k := 3) rfl rfl Tryd.sizeOf3 ⟨rfl, (R64_max hv189 (chk_R hz200))⟩ hz212 fun w210 hM => ?_)
   dsimp only [List.set] at hM
   have hf := hf.alter (d := 93) (v := vL A141 (xs211) c142) rfl (vL_len (setL_len hz212))
   have hf := hf.alter (d := 98) (v := vL A141 (xs211) c142) rfl (vL_len (setL_len hz212))
   have hf := hf.alter (d := 105) (v := vL A141 (xs211) c142) rfl (vL_len (setL_len hz212))
   rw [vL_len (A := A141) (c := c142) (setL_len hz212)] at hM
   refine pi_nil ?_
   refine blk_n ?_
   refine then_n ?_
   refine region_pl ?_
   obtain ⟨z213, hz214, h122⟩ := bind_some h122
   refine q_ hf rfl rfl rfl (e_add hf rfl rfl hz214) fun a hf => ?_
   refine q_ hf rfl rfl rfl (e_move hf rfl) fun a hf => ?_
   refine pl_nil ?_
   obtain rfl := some_inj h122
   refine then_n ⟨_, rfl, ?_⟩
   have hM := hM.front (k := 3) rfl
   dsimp only [List.eraseIdx] at hM
   have hM := hM.front (k := 3) rfl
   dsimp only [List.eraseIdx] at hM
   have hM := hM.front (k := 3) rfl
   dsimp only [List.eraseIdx] at hM
   have hM := hM.front (k := 3) rfl
   dsimp only [List.eraseIdx] at hM
   have hM := hM.front (k := 4) rfl
   dsimp only [List.eraseIdx] at hM
   exact ⟨y134.2.met, y134.2.open_, xs178, xs211, z213, A137, c138, A139, c140, A141, c142, rfl, hf.keep ⟨rfl, rfl, rfl, rfl, rfl, trivial⟩, hM.pick [1, 2, 3] rfl, hv136, (chk_R hz214)⟩
  refine cond_f hf rfl hc124 ?_
  refine wp_exit ?_
  refine then_x ?_
  obtain rfl := some_inj h122
  obtain rfl := hd123 _ rfl
  try dsimp only at h92
  refine then_x ?_
  refine exit_hit ?_
  obtain rfl := some_inj h92
  refine then_n ?_
  exact ⟨n94, xs96, xs99, xs102, A97, c98, A100, c101, A103, c104, rfl, hf.keep ⟨rfl, rfl, trivial⟩, hM.pick [0, 1, 2] rfl, hv95⟩
 rintro a w221 ⟨n80, xs82, xs85, xs88, A83, c84, A86, c87, A89, c90, rfl, hf, hM, hv81⟩
 try dsimp only at h
 refine wp_seq ?_
 refine region_pl ?_
 refine q_ hf rfl rfl rfl (e_move hf rfl) fun a hf => ?_
 refine q_ hf rfl rfl rfl (e_nil hf rfl) fun a hf => ?_
 refine q_ hf rfl rfl rfl (e_field hf rfl Tryd.underlying111 rfl Tryd.sizeOf108 (o' := 2) rfl) fun a hf => ?_
 refine q_ hf rfl rfl rfl (e_load1 hf rfl Tryd.isAgg108 (hM.boxCell (k := 1) rfl rfl)) fun a hf => ?_
 refine q_ hf rfl rfl rfl (e_move hf rfl) fun a hf => ?_
 obtain ⟨e222, hz223, h⟩ := bind_some h
 obtain ⟨b228, _, hA229, h224, h225, hr226, hcell227⟩ := hM.rowElemN (k := 2) rfl (n := 1) rfl hz223
 obtain rfl : _ = _ := hr226
 refine q_ hf rfl rfl rfl (e_indexAddr (A := A83) (b := b228) (o := 0) (xs := xs82) (i := k13) hf hA229 rfl rfl Tryd.underlying108 Tryd.sizeOf4 h224 h225) fun a hf => ?_
 obtain ⟨xs231, hz232, h⟩ := bind_some h
 refine pl_0 hf rfl rfl (w_storeElem hf hM (x := false) (row := [.bool (false)]) (i := k13) rfl rfl rfl hA229 (k := 2) rfl rfl Tryd.sizeOf4 rfl hz232 fun w230 hM => ?_)
 dsimp only [List.set] at hM
 have hf := hf.alter (d := 116) (v := vL A83 (xs231) c84) rfl (vL_len (setL_len hz232))
 rw [vL_len (A := A83) (c := c84) (setL_len hz232)] at hM
 refine pl_nil ?_
 refine then_n ?_
 obtain ⟨x235, h236, h⟩ := bind_some h
 refine seq_join (fun a w => ∃ (t233 : Bool), t233 = x235 ∧ Has 131 a [(4, .bool (t233))] ∧ Mem C w [.box b53 [.bool (e41.Final), vS (e41.Letters), vL A50 (e41.Next) c51] 76, .box b2 [vL A3 (x1.d.Nodes) c4, vI (n80), vL A83 (xs231) c84, vL A86 (xs85) c87, vL A89 (xs88) c90] 111, .row boolRep A83 c84 4 xs231 true, .row intRep A86 c87 2 xs85 true, .row intRep A89 c90 3 xs88 true] [.dat (sliceRep intRep) e41.Next [vL A50 e41.Next c51], .lit b46 (o47 + (k13 : Int).toNat * 3) [.bool (e41.Final), vS (e41.Letters), vL A50 (e41.Next) c51], .dat (sliceRep NodeRep) x1.d.Nodes [vL A3 x1.d.Nodes c4]]) ?_ ?_
 ·refine region_pl ?_
  refine q_ hf rfl rfl rfl (e_move hf rfl) fun a hf => ?_
  refine q_ hf rfl rfl rfl (e_nil hf rfl) fun a hf => ?_
  refine q_ hf rfl rfl rfl (e_field hf rfl Tryd.underlying111 rfl Tryd.sizeOf31 (o' := 3) rfl) fun a hf => ?_
  refine q_ hf rfl rfl rfl (e_load1 hf rfl Tryd.isAgg31 (hM.boxCell (k := 1) rfl rfl)) fun a hf => ?_
  refine q_ hf rfl rfl rfl (e_move hf rfl) fun a hf => ?_
  obtain ⟨e237, hz238, h236⟩ := bind_some h236
  obtain ⟨b243, _, hA244, h239, h240, hr241, hcell242⟩ := hM.rowElemN (k := 3) rfl (n := 1) rfl hz238
  obtain ⟨rfl, hv245⟩ := hr241
  refine q_ hf rfl rfl rfl (e_indexAddr (A := A86) (b := b243) (o := 0) (xs := xs85) (i := k13) hf hA244 rfl rfl Tryd.underlying31 Tryd.sizeOf2 h239 h240) fun a hf => ?_
  refine q_ hf rfl rfl rfl (e_load1 hf rfl Tryd.isAgg2 (hcell242 0 _ rfl)) fun a hf => ?_
  refine q_ hf rfl rfl rfl (e_gt hf (x := e237) (y := 0) rfl rfl) fun a hf => ?_
  refine q_ hf rfl rfl rfl (e_move hf rfl) fun a hf => ?_
  rcases cond_some h236 with ⟨hc246, h236⟩ | ⟨hc246, h236⟩
  ·iterate 2 refine pl_gs (wanted_f hf rfl rfl rfl rfl hc246) hf rfl rfl fun a hf => ?_
   refine q_ hf rfl rfl rfl (e_pick_t hf rfl hc246 rfl) fun a hf => ?_
   refine q_ hf rfl rfl rfl (e_assign hf rfl) fun a hf => ?_
   refine pl_nil ?_
   obtain rfl := some_inj h236
   refine then_n ?_
   exact ⟨true, rfl, hf.keep ⟨rfl, trivial⟩, hM.pick [0, 1, 2] rfl⟩
  refine gq (wanted_t hf rfl rfl rfl rfl hc246) hf rfl rfl (e_move hf rfl) fun a hf => ?_
  refine gq (wanted_t hf rfl rfl rfl rfl hc246) hf rfl rfl (e_eq hf (x := k13) (y := 0) rfl rfl) fun a hf => ?_
  refine q_ hf rfl rfl rfl (e_pick_f hf rfl hc246 rfl) fun a hf => ?_
  refine q_ hf rfl rfl rfl (e_assign hf rfl) fun a hf => ?_
  refine pl_nil ?_
  obtain rfl := some_inj h236
  refine then_n ?_
  exact ⟨(k13 == 0), rfl, hf.keep ⟨rfl, trivial⟩, hM.pick [0, 1, 2] rfl⟩
 rintro a w249 ⟨t233, rfl, hf, hM⟩
 try dsimp only at h
 refine wp_ret ?_
 obtain rfl := some_inj h
 have hM := hM.front (k := 4) rfl
 dsimp only [List.eraseIdx] at hM
 have hM := hM.front (k := 4) rfl
 dsimp only [List.eraseIdx] at hM
 have hM := hM.front (k := 4) rfl
 dsimp only [List.eraseIdx] at hM
 have hM := hM.front (k := 4) rfl
 dsimp only [List.eraseIdx] at hM
 have hM := hM.outs (own' := [.box b2 [vL A3 (x1.d.Nodes) c4, vI (n80), vL A83 (xs231) c84, vL A86 (xs85) c87, vL A89 (xs88) c90] 111, .row boolRep A83 c84 4 xs231 true, .row intRep A86 c87 2 xs85 true, .row intRep A89 c90 3 xs88 true]) 4 rfl
 exact leave1 hf rfl rfl ⟨A83, c84, A86, c87, A89, c90, rfl, hM.fin, hv81⟩

theorem r_impl_inspector_visit_n : ∀ n, Ct_impl_inspector_visit (m_impl_inspector_visit_n n)
  | 0 => fun C x1 b2 A3 c4 hp5 hp6 A7 c8 A9 c10 A11 c12 k13 hp14 hO hd r h => by cases h
  | n + 1 => r_impl_inspector_visit_b _ (r_impl_inspector_visit_n n)

theorem r_impl_inspector_visit : Ct_impl_inspector_visit (m_impl_inspector_visit) := r_impl_inspector_visit_n fuelN

set_option maxRecDepth 100000 in
set_option maxHeartbeats 4000000 in
theorem r_strings_Builder_copyCheck (C : Cx) (b1 : Str) (b2 : Nat) (p3 : Value) (hp4 : AddrOk b2 p3) (A5 : Option Addr) (c6 : Nat) (hO : Mem C C.w0 [.box b2 [p3, vL A5 (b1) c6] 147, .row byteRep A5 c6 5 b1 true] []) (hd : ∀ b, C.S0 b → ¬ ownB [.box b2 [p3, vL A5 (b1) c6] 147, .row byteRep A5 c6 5 b1 true] b) (r : Str) (h : m_strings_Builder_copyCheck b1 = some r) :
    Calls Tryd.prog 119 #[vP b2 (0)] C.w0 fun e w => ∃ (p_1 : Value), ∃ (A_1 : Option Addr), ∃ (c_1 : Nat), e = .returned (.tuple #[]) ∧ Mem C w [.box b2 [p_1, vL A_1 (r) c_1] 147, .row byteRep A_1 c_1 5 r true] [] ∧ AddrOk b2 p_1 := by
 have hM := hO
 refine enter Tryd.func119 rfl Tryd.ntmps119 rfl fun a hf => ?_
 unfold m_strings_Builder_copyCheck at h
 rcases hp4 with rfl | rfl
 ·refine wp_seq ?_
  refine region_pl ?_
  refine q_ hf rfl rfl rfl (e_move hf rfl) fun a hf => ?_
  refine q_ hf rfl rfl rfl (e_nil hf rfl) fun a hf => ?_
  refine q_ hf rfl rfl rfl (e_field hf rfl Tryd.underlying147 rfl Tryd.sizeOf145 (o' := 0) rfl) fun a hf => ?_
  refine q_ hf rfl rfl rfl (e_load1 hf rfl Tryd.isAgg145 (hM.boxCell (k := 0) rfl rfl)) fun a hf => ?_
  refine q_ hf rfl rfl rfl (e_eqPN hf rfl rfl Tryd.underlying145) fun a hf => ?_
  refine pl_nil ?_
  refine then_n ?_
  refine cond_t hf rfl rfl ?_
  refine region_pl ?_
  iterate 2 refine q_ hf rfl rfl rfl (e_move hf rfl) fun a hf => ?_
  refine q_ hf rfl rfl rfl (e_toUnsafe hf hM (k := 0) (n := 2) rfl rfl Tryd.underlying145 Tryd.underlying166 (by kernel_rfl) rfl rfl) fun a hf => ?_
  refine q_ hf rfl rfl rfl (e_noEscape hf (f := 122) rfl Tryd.func122 rfl rfl (by kernel_rfl) (by kernel_rfl)) fun a hf => ?_
  refine q_ hf rfl rfl rfl (e_fromUnsafe hf hM (k := 0) (n := 2) rfl rfl Tryd.underlying166 Tryd.underlying145 (by kernel_rfl) (by kernel_rfl)) fun a hf => ?_
  refine q_ hf rfl rfl rfl (e_nil hf rfl) fun a hf => ?_
  refine q_ hf rfl rfl rfl (e_field hf rfl Tryd.underlying147 rfl Tryd.sizeOf145 (o' := 0) rfl) fun a hf => ?_
  refine pl_0 hf rfl rfl (w_store hf hM (us := [vP b2 0]) (cs' := [vP b2 0, vL A5 (b1) c6]) rfl rfl (k := 0) rfl rfl Tryd.sizeOf145 rfl rfl rfl fun w7 hM => ?_)
  dsimp only [List.set] at hM
  refine pl_nil ?_
  obtain rfl := some_inj h
  exact leave0n hf rfl ⟨(vP b2 0), A5, c6, rfl, hM.fin, (AddrOk.self _)⟩
 refine wp_seq ?_
 refine region_pl ?_
 refine q_ hf rfl rfl rfl (e_move hf rfl) fun a hf => ?_
 refine q_ hf rfl rfl rfl (e_nil hf rfl) fun a hf => ?_
 refine q_ hf rfl rfl rfl (e_field hf rfl Tryd.underlying147 rfl Tryd.sizeOf145 (o' := 0) rfl) fun a hf => ?_
 refine q_ hf rfl rfl rfl (e_load1 hf rfl Tryd.isAgg145 (hM.boxCell (k := 0) rfl rfl)) fun a hf => ?_
 refine q_ hf rfl rfl rfl (e_eqPS hf rfl rfl Tryd.underlying145) fun a hf => ?_
 refine pl_nil ?_
 refine then_n ?_
 refine cond_f hf rfl rfl ?_
 refine wp_seq ?_
 refine region_pl ?_
 refine q_ hf rfl rfl rfl (e_move hf rfl) fun a hf => ?_
 refine q_ hf rfl rfl rfl (e_nil hf rfl) fun a hf => ?_
 refine q_ hf rfl rfl rfl (e_field hf rfl Tryd.underlying147 rfl Tryd.sizeOf145 (o' := 0) rfl) fun a hf => ?_
 refine q_ hf rfl rfl rfl (e_load1 hf rfl Tryd.isAgg145 (hM.boxCell (k := 0) rfl rfl)) fun a hf => ?_
 refine q_ hf rfl rfl rfl (e_move hf rfl) fun a hf => ?_
 refine q_ hf rfl rfl rfl (e_nePS hf (n := 2) rfl rfl Tryd.underlying145 (by kernel_rfl)) fun a hf => ?_
 refine pl_nil ?_
 refine then_n ?_
 refine cond_f hf rfl rfl ?_
 refine wp_skip ?_
 obtain rfl := some_inj h
 exact leave0n hf rfl ⟨(vP b2 0), A5, c6, rfl, hM.fin, (AddrOk.self _)⟩

set_option maxRecDepth 100000 in
set_option maxHeartbeats 4000000 in
theorem r_strings_Builder_WriteByte (C : Cx) (b1 : Str) (b2 : Nat) (p3 : Value) (hp4 : AddrOk b2 p3) (A5 : Option Addr) (c6 : Nat) (c7 : UInt8) (hO : Mem C C.w0 [.box b2 [p3, vL A5 (b1) c6] 147, .row byteRep A5 c6 5 b1 true] []) (hd : ∀ b, C.S0 b → ¬ ownB [.box b2 [p3, vL A5 (b1) c6] 147, .row byteRep A5 c6 5 b1 true] b) (r : (Unit × Str)) (h : m_strings_Builder_WriteByte b1 c7 = some r) :
    Calls Tryd.prog 102 #[vP b2 (0), vB (c7)] C.w0 fun e w => ∃ (p_1 : Value), ∃ (A_1 : Option Addr), ∃ (c_1 : Nat), e = .returned (.nilIface) ∧ Mem C w [.box b2 [p_1, vL A_1 (r.2) c_1] 147, .row byteRep A_1 c_1 5 r.2 true] [] ∧ AddrOk b2 p_1 := by
 have hM := hO
 refine enter Tryd.func102 rfl Tryd.ntmps102 rfl fun a hf => ?_
 unfold m_strings_Builder_WriteByte at h
 refine wp_seq ?_
 refine region_pl ?_
 refine q_ hf rfl rfl rfl (e_assign hf rfl) fun a hf => ?_
 refine pl_nil ?_
 refine then_n ?_
 refine wp_seq ?_
 refine region_pl ?_
 refine q_ hf rfl rfl rfl (e_move hf rfl) fun a hf => ?_
 have hM : Mem C _ ([.box b2 [p3, vL A5 (b1) c6] 147, .row byteRep A5 c6 5 b1 true] ++ []) _ := hM
 obtain ⟨y8, hz9, h⟩ := bind_some h
 refine pl_l hf rfl rfl rfl (w_call hf Tryd.call119 rfl (r_strings_Builder_copyCheck ⟨_, Sh C _ _, ownB _, hM.sh_lt, sub_dis, C.G, hM.g_lt, hM.g_own, hM.tabs⟩ b1 _ _ hp4 _ _ hM.sub sub_dis _ hz9) ?_)
 rintro _ w14 ⟨p10, A12, c13, rfl, hM2, hv11⟩
 obtain ⟨hM, hup16⟩ := hM.backG hM2
 dsimp only [List.cons_append, List.nil_append] at hM hup16
 clear hM2
 refine ⟨_, rfl, fun a hf => ?_⟩
 refine pl_nil ?_
 refine then_n ?_
 refine wp_seq ?_
 refine region_pl ?_
 iterate 2 refine q_ hf rfl rfl rfl (e_move hf rfl) fun a hf => ?_
 refine q_ hf rfl rfl rfl (e_nil hf rfl) fun a hf => ?_
 refine q_ hf rfl rfl rfl (e_field hf rfl Tryd.underlying147 rfl Tryd.sizeOf22 (o' := 1) rfl) fun a hf => ?_
 refine q_ hf rfl rfl rfl (e_load1 hf rfl Tryd.isAgg22 (hM.boxCell (k := 0) rfl rfl)) fun a hf => ?_
 refine q_ hf rfl rfl rfl (e_move hf rfl) fun a hf => ?_
 refine pl_l hf rfl rfl rfl (w_slice hf hM (K := byteRep) (xs := ([c7] : Str)) (os := [.tmp 12]) Tryd.underlying22 ei_5 rfl rfl rfl rfl rfl ⟨⟨[vB (c7)], rfl, rfl⟩, trivial⟩ rfl fun b17 w18 hx19 hM a hf => ?_)
 obtain ⟨xs20, hz21, h⟩ := bind_some h
 refine pl_l hf rfl rfl rfl (w_append hf hM Tryd.underlying22 ei_5 rfl rfl rfl (k := 2) rfl (hM.srcRow (k := 0) rfl) hz21 fun A22 c23 w24 hM a hf => ?_)
 dsimp only [List.set] at hM
 refine q_ hf rfl rfl rfl (e_nil hf rfl) fun a hf => ?_
 refine q_ hf rfl rfl rfl (e_field hf rfl Tryd.underlying147 rfl Tryd.sizeOf22 (o' := 1) rfl) fun a hf => ?_
 refine pl_0 hf rfl rfl (w_store hf hM (us := [vL A22 (xs20) c23]) (cs' := [p10, vL A22 (xs20) c23]) rfl rfl (k := 1) rfl rfl Tryd.sizeOf22 rfl rfl rfl fun w27 hM => ?_)
 dsimp only [List.set] at hM
 refine pl_nil ?_
 refine then_n ?_
 refine wp_seq ?_
 refine region_pl ?_
 refine q_ hf rfl rfl rfl (e_assign hf rfl) fun a hf => ?_
 refine pl_nil ?_
 refine then_n ?_
 refine wp_ret ?_
 obtain rfl := some_inj h
 have hM := hM.front (k := 2) rfl
 dsimp only [List.eraseIdx] at hM
 have hM := hM.front (k := 2) rfl
 dsimp only [List.eraseIdx] at hM
 have hM := hM.outs (own' := [.box b2 [p10, vL A22 (xs20) c23] 147, .row byteRep A22 c23 5 xs20 true]) 2 rfl
 exact leave1 hf rfl rfl ⟨p10, A22, c23, rfl, hM.fin, hv11⟩

set_option maxRecDepth 100000 in
set_option maxHeartbeats 4000000 in
theorem r_impl_Decimal (C : Cx) (n1 : Int) (hp2 : R64 n1) (r : Str) (h : m_impl_Decimal n1 = some r) :
    Calls Tryd.prog 104 #[vI (n1)] C.w0 fun e w => e = .returned (vS (r)) ∧ Mem C w [] [] ∧ r.length ≤ maxLen := by
 have hM := Mem.begin C [] trivial
 refine enter Tryd.func104 rfl Tryd.ntmps104 rfl fun a hf => ?_
 unfold m_impl_Decimal at h
 refine wp_seq ?_
 refine region_pl ?_
 refine q_ hf rfl rfl rfl (e_assign hf rfl) fun a hf => ?_
 refine pl_nil ?_
 refine then_n ?_
 refine wp_seq ?_
 refine region_pl ?_
 refine q_ hf rfl rfl rfl (e_move hf rfl) fun a hf => ?_
 obtain ⟨y3, hz4, h⟩ := bind_some h
 refine pl_l hf rfl rfl rfl (w_call hf Tryd.call120 rfl (r_strconv_FormatInt ⟨_, Sh C _ _, none_, hM.sh_lt, none_not, C.G, hM.g_lt, g_none, hM.tabs⟩ n1 hp2 10 (R64_lit rfl) _ hz4) ?_)
 rintro _ w6 ⟨rfl, hM2, hv5⟩
 obtain ⟨hM, hx7, hup8⟩ := hM.back hM2
 dsimp only [List.cons_append, List.nil_append] at hM hup8
 clear hM2
 refine ⟨_, rfl, fun a hf => ?_⟩
 refine q_ hf rfl rfl rfl (e_assign hf rfl) fun a hf => ?_
 refine pl_nil ?_
 refine then_n ?_
 refine wp_ret ?_
 obtain rfl := some_inj h
 exact leave1 hf rfl rfl ⟨rfl, hM.fin, hv5⟩

set_option maxRecDepth 100000 in
set_option maxHeartbeats 4000000 in
theorem r_strings_Builder_WriteString (C : Cx) (b1 : Str) (b2 : Nat) (p3 : Value) (hp4 : AddrOk b2 p3) (A5 : Option Addr) (c6 : Nat) (s7 : Str) (hp8 : s7.length ≤ maxLen) (hO : Mem C C.w0 [.box b2 [p3, vL A5 (b1) c6] 147, .row byteRep A5 c6 5 b1 true] []) (hd : ∀ b, C.S0 b → ¬ ownB [.box b2 [p3, vL A5 (b1) c6] 147, .row byteRep A5 c6 5 b1 true] b) (r : (Int × Unit × Str)) (h : m_strings_Builder_WriteString b1 s7 = some r) :
    Calls Tryd.prog 103 #[vP b2 (0), vS (s7)] C.w0 fun e w => ∃ (p_1 : Value), ∃ (A_1 : Option Addr), ∃ (c_1 : Nat), e = .returned (.tuple #[vI (r.1), .nilIface]) ∧ Mem C w [.box b2 [p_1, vL A_1 (r.2.2) c_1] 147, .row byteRep A_1 c_1 5 r.2.2 true] [] ∧ AddrOk b2 p_1 ∧ R64 r.1 := by
 have hM := hO
 refine enter Tryd.func103 rfl Tryd.ntmps103 rfl fun a hf => ?_
 unfold m_strings_Builder_WriteString at h
 refine wp_seq ?_
 refine region_pl ?_
 iterate 2 refine q_ hf rfl rfl rfl (e_assign hf rfl) fun a hf => ?_
 refine pl_nil ?_
 refine then_n ?_
 refine wp_seq ?_
 refine region_pl ?_
 refine q_ hf rfl rfl rfl (e_move hf rfl) fun a hf => ?_
 have hM : Mem C _ ([.box b2 [p3, vL A5 (b1) c6] 147, .row byteRep A5 c6 5 b1 true] ++ []) _ := hM
 obtain ⟨y9, hz10, h⟩ := bind_some h
 refine pl_l hf rfl rfl rfl (w_call hf Tryd.call119 rfl (r_strings_Builder_copyCheck ⟨_, Sh C _ _, ownB _, hM.sh_lt, sub_dis, C.G, hM.g_lt, hM.g_own, hM.tabs⟩ b1 _ _ hp4 _ _ hM.sub sub_dis _ hz10) ?_)
 rintro _ w15 ⟨p11, A13, c14, rfl, hM2, hv12⟩
 obtain ⟨hM, hup17⟩ := hM.backG hM2
 dsimp only [List.cons_append, List.nil_append] at hM hup17
 clear hM2
 refine ⟨_, rfl, fun a hf => ?_⟩
 refine pl_nil ?_
 refine then_n ?_
 refine wp_seq ?_
 refine region_pl ?_
 iterate 2 refine q_ hf rfl rfl rfl (e_move hf rfl) fun a hf => ?_
 refine q_ hf rfl rfl rfl (e_nil hf rfl) fun a hf => ?_
 refine q_ hf rfl rfl rfl (e_field hf rfl Tryd.underlying147 rfl Tryd.sizeOf22 (o' := 1) rfl) fun a hf => ?_
 refine q_ hf rfl rfl rfl (e_load1 hf rfl Tryd.isAgg22 (hM.boxCell (k := 0) rfl rfl)) fun a hf => ?_
 refine q_ hf rfl rfl rfl (e_move hf rfl) fun a hf => ?_
 obtain ⟨xs18, hz19, h⟩ := bind_some h
 refine pl_l hf rfl rfl rfl (w_appendS hf hM Tryd.underlying22 Tryd.underlying9 (by kernel_rfl) rfl rfl (k := 1) rfl hz19 fun A20 c21 w22 hM a hf => ?_)
 dsimp only [List.set] at hM
 refine q_ hf rfl rfl rfl (e_nil hf rfl) fun a hf => ?_
 refine q_ hf rfl rfl rfl (e_field hf rfl Tryd.underlying147 rfl Tryd.sizeOf22 (o' := 1) rfl) fun a hf => ?_
 refine pl_0 hf rfl rfl (w_store hf hM (us := [vL A20 (xs18) c21]) (cs' := [p11, vL A20 (xs18) c21]) rfl rfl (k := 0) rfl rfl Tryd.sizeOf22 rfl rfl rfl fun w23 hM => ?_)
 dsimp only [List.set] at hM
 refine pl_nil ?_
 refine then_n ?_
 refine wp_seq ?_
 refine region_pl ?_
 refine q_ hf rfl rfl rfl (e_move hf rfl) fun a hf => ?_
 refine q_ hf rfl rfl rfl (e_lenS hf (x := s7) rfl Tryd.underlying9) fun a hf => ?_
 iterate 2 refine q_ hf rfl rfl rfl (e_assign hf rfl) fun a hf => ?_
 refine pl_nil ?_
 refine then_n ?_
 refine wp_ret ?_
 obtain rfl := some_inj h
 exact leave2 hf rfl rfl rfl ⟨p11, A20, c21, rfl, hM.fin, hv12, (R64_len hp8)⟩

set_option maxRecDepth 100000 in
set_option maxHeartbeats 4000000 in
theorem r_strings_Builder_String (C : Cx) (b1 : Str) (b2 : Nat) (p3 : Value) (hp4 : AddrOk b2 p3) (A5 : Option Addr) (c6 : Nat) (hO : Mem C C.w0 [.box b2 [p3, vL A5 (b1) c6] 147, .row byteRep A5 c6 5 b1 true] []) (hd : ∀ b, C.S0 b → ¬ ownB [.box b2 [p3, vL A5 (b1) c6] 147, .row byteRep A5 c6 5 b1 true] b) (r : Str) (h : m_strings_Builder_String b1 = some r) :
    Calls Tryd.prog 105 #[vP b2 (0)] C.w0 fun e w => e = .returned (vS (r)) ∧ Mem C w [] [] ∧ r.length ≤ maxLen := by
 have hM := hO
 refine enter Tryd.func105 rfl Tryd.ntmps105 rfl fun a hf => ?_
 unfold m_strings_Builder_String at h
 refine wp_seq ?_
 refine region_pl ?_
 refine q_ hf rfl rfl rfl (e_assign hf rfl) fun a hf => ?_
 refine pl_nil ?_
 refine then_n ?_
 refine wp_seq ?_
 obtain ⟨w7, hw⟩ : ∃ x, x = C.w0.drew := ⟨_, rfl⟩
 refine region_pi (.q 0 (.q 1 (.q 2 (.q 3 (.q 5 (.q 6 (.q 7 (.q 8 (.q 9 (.l 4 (.l 10 (.q 11 (.nil))))))))))))) (Ext w7) rfl (by kernel_rfl) ?_
 have hM := hM.drew
 rw [← hw] at hM ⊢
 clear hw
 refine pi_q hf rfl rfl rfl rfl (Ext.refl _) (e_move hf rfl) fun a hf => ?_
 refine pi_q hf rfl rfl rfl rfl (Ext.refl _) (e_nil hf rfl) fun a hf => ?_
 refine pi_q hf rfl rfl rfl rfl (Ext.refl _) (e_field hf rfl Tryd.underlying147 rfl Tryd.sizeOf22 (o' := 1) rfl) fun a hf => ?_
 refine pi_q hf rfl rfl rfl rfl (Ext.refl _) (e_load1 hf rfl Tryd.isAgg22 (hM.boxCell (k := 0) rfl rfl)) fun a hf => ?_
 refine pi_q hf rfl rfl rfl rfl (Ext.refl _) (e_move hf rfl) fun a hf => ?_
 refine pi_q hf rfl rfl rfl rfl (Ext.refl _) (e_nil hf rfl) fun a hf => ?_
 refine pi_q hf rfl rfl rfl rfl (Ext.refl _) (e_field hf rfl Tryd.underlying147 rfl Tryd.sizeOf22 (o' := 1) rfl) fun a hf => ?_
 refine pi_q hf rfl rfl rfl rfl (Ext.refl _) (e_load1 hf rfl Tryd.isAgg22 (hM.boxCell (k := 0) rfl rfl)) fun a hf => ?_
 have hl8 := row_len (hM.ownAt (k := 1) rfl)
 refine pi_q hf rfl rfl rfl rfl (Ext.refl _) (e_lenL hf (x := b1) rfl Tryd.underlying22) fun a hf => ?_
 refine pi_one ?_
 refine pi_l hf rfl rfl rfl rfl (w_sliceData hf hM (k := 1) rfl rfl Tryd.underlying165 fun q9 w10 hx11 hM hq12 => ⟨Ext w10, fun _ h => Ext.trans hx11 h, Ext.refl _, fun a hf => ?_⟩)
 refine pi_one ?_
 have hl14 := row_len (hM.ownAt (k := 1) rfl)
 refine pi_z hf rfl rfl rfl rfl (by kernel_rfl) (w_unsafeString hf hM (k := 1) rfl hq12 rfl rfl Tryd.underlying165 (by kernel_rfl) fun w13 hM a hf => ?_)
 dsimp only [List.eraseIdx] at hM
 refine pi_q hf rfl rfl rfl rfl (Ext.refl _) (e_assign hf rfl) fun a hf => ?_
 refine pi_nil ?_
 refine then_n ?_
 refine wp_ret ?_
 obtain rfl := some_inj h
 have hM := hM.outs (own' := []) 0 rfl
 exact leave1 hf rfl rfl ⟨rfl, hM.fin, hl14⟩

set_option maxRecDepth 100000 in
set_option maxHeartbeats 4000000 in
theorem r_impl_keyOf (C : Cx) (n1 : Node) (hp2 : n1.Letters.length ≤ maxLen) (A3 : Option Addr) (c4 : Nat) (hp5 : (sliceRep intRep).R C.w0 C.S0 n1.Next [vL A3 n1.Next c4]) (r : Str) (h : m_impl_keyOf n1 = some r) :
    Calls Tryd.prog 78 #[.agg #[.bool (n1.Final), vS (n1.Letters), vL A3 (n1.Next) c4]] C.w0 fun e w => e = .returned (vS (r)) ∧ Mem C w [] [] ∧ r.length ≤ maxLen := by
 have hM := Mem.begin C [.dat (sliceRep intRep) n1.Next [vL A3 n1.Next c4]] ⟨hp5, trivial⟩
 refine enter Tryd.func78 rfl Tryd.ntmps78 rfl fun a hf => ?_
 unfold m_impl_keyOf at h
 refine wp_seq ?_
 refine region_pl ?_
 refine pl_l hf rfl rfl rfl (w_box hf hM (cs := [.bool (n1.Final), vS (n1.Letters), vL A3 (n1.Next) c4]) rfl rfl fun b6 w7 hx8 hM a hf => ?_)
 refine q_ hf rfl rfl rfl (e_assign hf rfl) fun a hf => ?_
 refine pl_nil ?_
 refine then_n ?_
 refine wp_seq ?_
 refine region_pl ?_
 refine pl_l hf rfl rfl rfl (w_alloc hM (cs := [.pointer none, vL none (([] : Str)) 0]) Tryd.zeroValue147 rfl fun b10 w11 hx12 hM a hf => ?_)
 have hM := hM.nilRow byteRep 5
 refine pl_nil ?_
 refine then_n ?_
 obtain ⟨x19, h20, h⟩ := bind_some h
 refine seq_join (fun a w => ∃ (xs16 : Str) (p14 : Value) (A17 : Option Addr) (c18 : Nat), xs16 = x19 ∧ Has 30 a [(1, vP b6 (0)), (3, vP b10 (0))] ∧ Mem C w [.row byteRep A17 c18 5 xs16 true, .box b10 [p14, vL A17 (xs16) c18] 147, .box b6 [.bool (n1.Final), vS (n1.Letters), vL A3 (n1.Next) c4] 76] [.dat (sliceRep intRep) n1.Next [vL A3 n1.Next c4]] ∧ AddrOk b10 p14) ?_ ?_
 ·refine wp_seq ?_
  refine region_pl ?_
  refine q_ hf rfl rfl rfl (e_field hf rfl Tryd.underlying76 rfl Tryd.sizeOf4 (o' := 0) rfl) fun a hf => ?_
  refine q_ hf rfl rfl rfl (e_load1 hf rfl Tryd.isAgg4 (hM.boxCell (k := 2) rfl rfl)) fun a hf => ?_
  refine pl_nil ?_
  refine then_n ?_
  rcases cond_some h20 with ⟨hc21, h20⟩ | ⟨hc21, h20⟩
  ·refine cond_t hf rfl hc21 ?_
   refine region_pl ?_
   have hM := hM.front (k := 0) rfl
   dsimp only [List.eraseIdx] at hM
   have hM := hM.front (k := 1) rfl
   dsimp only [List.eraseIdx] at hM
   have hM : Mem C _ ([.box b10 [.pointer none, vL none (([] : Str)) 0] 147, .row byteRep none 0 5 ([] : Str) true] ++ [.box b6 [.bool (n1.Final), vS (n1.Letters), vL A3 (n1.Next) c4] 76]) _ := hM
   obtain ⟨y22, hz23, h20⟩ := bind_some h20
   refine pl_l hf rfl rfl rfl (w_call hf Tryd.call102 rfl (r_strings_Builder_WriteByte ⟨_, Sh C _ _, ownB _, hM.sh_lt, sub_dis, C.G, hM.g_lt, hM.g_own, hM.tabs⟩ ([] : Str) _ _ (AddrOk.nil _) _ _ 43 hM.sub sub_dis _ hz23) ?_)
   rintro _ w28 ⟨p24, A26, c27, rfl, hM2, hv25⟩
   obtain ⟨hM, hup30⟩ := hM.backG hM2
   dsimp only [List.cons_append, List.nil_append] at hM hup30
   clear hM2
   refine ⟨_, rfl, fun a hf => ?_⟩
   refine pl_nil ?_
   obtain rfl := some_inj h20
   refine then_n ?_
   have hM := hM.front (k := 2) rfl
   dsimp only [List.eraseIdx] at hM
   have hM := hM.front (k := 1) rfl
   dsimp only [List.eraseIdx] at hM
   have hM := hM.front (k := 2) rfl
   dsimp only [List.eraseIdx] at hM
   exact ⟨y22.2, p24, A26, c27, rfl, hf.keep ⟨rfl, rfl, trivial⟩, hM.pick [0] rfl, hv25⟩
  refine cond_f hf rfl hc21 ?_
  refine wp_skip ?_
  obtain rfl := some_inj h20
  refine then_n ?_
  exact ⟨([] : Str), (.pointer none), none, 0, rfl, hf.keep ⟨rfl, rfl, trivial⟩, hM.pick [0] rfl, (AddrOk.nil _)⟩
 rintro a w33 ⟨xs16, p14, A17, c18, rfl, hf, hM, hv15⟩
 try dsimp only at h
 obtain ⟨x39, h40, h⟩ := bind_some h
 refine seq_join (fun a w => ∃ (xs36 : Str) (p34 : Value) (A37 : Option Addr) (c38 : Nat), xs36 = x39 ∧ Has 30 a [(3, vP b10 (0))] ∧ Mem C w [.row byteRep A37 c38 5 xs36 true, .box b10 [p34, vL A37 (xs36) c38] 147, .box b6 [.bool (n1.Final), vS (n1.Letters), vL A3 (n1.Next) c4] 76] [.dat (sliceRep intRep) n1.Next [vL A3 n1.Next c4]] ∧ AddrOk b10 p34) ?_ ?_
 ·refine wp_seq ?_
  refine region_pl ?_
  refine q_ hf rfl rfl rfl (e_field hf rfl Tryd.underlying76 rfl Tryd.sizeOf31 (o' := 2) rfl) fun a hf => ?_
  refine q_ hf rfl rfl rfl (e_load1 hf rfl Tryd.isAgg31 (hM.boxCell (k := 2) rfl rfl)) fun a hf => ?_
  have hl41 := slice_len (hM.dat (k := 0) rfl)
  refine q_ hf rfl rfl rfl (e_lenL hf (x := n1.Next) rfl Tryd.underlying31) fun a hf => ?_
  refine q_ hf rfl rfl rfl (e_move hf rfl) fun a hf => ?_
  refine pl_nil ?_
  refine then_n ?_
  refine wp_block ?_
  obtain ⟨x55, h56, h40⟩ := bind_some h40
  refine wp_loopM h56 (fun s a w => ∃ (xs44 : Str) (n47 : Int) (p42 : Value) (A45 : Option Addr) (c46 : Nat), (xs44, n47) = s ∧ Has 30 a [(1, vP b6 (0)), (3, vP b10 (0)), (10, vL A3 (n1.Next) c4), (11, vI ((n1.Next.length : Int))), (12, vI (n47))] ∧ Mem C w [.row byteRep A45 c46 5 xs44 true, .box b10 [p42, vL A45 (xs44) c46] 147, .box b6 [.bool (n1.Final), vS (n1.Letters), vL A3 (n1.Next) c4] 76] [.dat (sliceRep intRep) n1.Next [vL A3 n1.Next c4]] ∧ AddrOk b10 p42 ∧ R64 n47) ?_ ?_
  ·exact ⟨xs16, 0, p14, A17, c18, rfl, hf.keep ⟨rfl, rfl, rfl, rfl, rfl, trivial⟩, hM.pick [0] rfl, hv15, (R64_lit rfl)⟩
  rintro s o57 a w49 ⟨xs44, n47, p42, A45, c46, rfl, hf, hM, hv43, hv48⟩ h58 hd59
  replace h58 : m_impl_keyOf_l1 n1 xs44 n47 = some o57 := h58
  unfold m_impl_keyOf_l1 at h58
  refine wp_seq ?_
  refine region_pl ?_
  refine q_ hf rfl rfl rfl (e_lt hf (x := n47) (y := (n1.Next.length : Int)) rfl rfl) fun a hf => ?_
  refine pl_nil ?_
  refine then_n ?_
  refine wp_seq ?_
  rcases cond_some h58 with ⟨hc60, h58⟩ | ⟨hc60, h58⟩
  ·refine cond_t hf rfl hc60 ?_
   refine wp_skip ?_
   refine then_n ?_
   refine wp_seq ?_
   refine wp_block ?_
   refine wp_seq ?_
   refine region_pl ?_
   refine q_ hf rfl rfl rfl (e_move hf rfl) fun a hf => ?_
   obtain ⟨e61, hz62, h58⟩ := bind_some h58
   obtain ⟨b66, o67, _, hA68, h63, h64, hr65, hM⟩ := hM.elem (hM.dat (k := 0) rfl) (n := 1) rfl hz62
   obtain ⟨rfl, hv69⟩ := hr65
   refine q_ hf rfl rfl rfl (e_indexAddr (A := A3) (b := b66) (o := o67) (xs := n1.Next) (i := n47) hf hA68 rfl rfl Tryd.underlying31 Tryd.sizeOf2 h63 h64) fun a hf => ?_
   refine q_ hf rfl rfl rfl (e_load1 hf rfl Tryd.isAgg2 (hM.litCell (k := 0) (j := 0) rfl rfl rfl)) fun a hf => ?_
   iterate 2 refine q_ hf rfl rfl rfl (e_assign hf rfl) fun a hf => ?_
   refine pl_nil ?_
   refine then_n ?_
   obtain ⟨w70, hw⟩ : ∃ x, x = w49.drew := ⟨_, rfl⟩
   refine region_pi (.q 0 (.q 1 (.q 2 (.q 3 (.q 4 (.q 5 (.q 6 (.l 7 (.q 8 (.q 9 (.l 10 (.nil)))))))))))) (Ext w70) rfl (by kernel_rfl) ?_
   have hM := hM.drew
   rw [← hw] at hM ⊢
   clear hw
   refine pi_q hf rfl rfl rfl rfl (Ext.refl _) (e_field hf rfl Tryd.underlying76 rfl Tryd.sizeOf9 (o' := 1) rfl) fun a hf => ?_
   refine pi_q hf rfl rfl rfl rfl (Ext.refl _) (e_load1 hf rfl Tryd.isAgg9 (hM.boxCell (k := 2) rfl rfl)) fun a hf => ?_
   iterate 2 refine pi_q hf rfl rfl rfl rfl (Ext.refl _) (e_move hf rfl) fun a hf => ?_
   obtain ⟨z71, hz72, h58⟩ := bind_some h58
   refine pi_q hf rfl rfl rfl rfl (Ext.refl _) (e_add hf rfl rfl hz72) fun a hf => ?_
   obtain ⟨s73, hz74, h58⟩ := bind_some h58
   refine pi_q hf rfl rfl rfl rfl (Ext.refl _) (e_subS hf (x := n1.Letters) rfl rfl rfl Tryd.underlying9 hz74) fun a hf => ?_
   refine pi_q hf rfl rfl rfl rfl (Ext.refl _) (e_move hf rfl) fun a hf => ?_
   refine pi_one ?_
   obtain ⟨y75, hz76, h58⟩ := bind_some h58
   refine pi_l hf rfl rfl rfl rfl (w_call hf Tryd.call104 rfl (r_impl_Decimal ⟨_, Sh C _ _, none_, hM.sh_lt, none_not, C.G, hM.g_lt, g_none, hM.tabs⟩ e61 hv69 _ hz76) ?_)
   rintro _ w78 ⟨rfl, hM2, hv77⟩
   obtain ⟨hM, hx79, hup80⟩ := hM.back hM2
   dsimp only [List.cons_append, List.nil_append] at hM hup80
   clear hM2
   refine ⟨_, rfl, Ext w78, fun _ h => Ext.trans hx79 h, Ext.refl _, fun a hf => ?_⟩
   obtain ⟨s81, hz82, h58⟩ := bind_some h58
   refine pi_q hf rfl rfl rfl rfl (Ext.refl _) (e_cat hf (x := s73) (y := y75) rfl rfl hz82) fun a hf => ?_
   obtain ⟨s83, hz84, h58⟩ := bind_some h58
   refine pi_q hf rfl rfl rfl rfl (Ext.refl _) (e_cat hf (x := s81) (y := ([32] : Str)) rfl rfl hz84) fun a hf => ?_
   refine pi_one ?_
   have hM := hM.front (k := 0) rfl
   dsimp only [List.eraseIdx] at hM
   have hM := hM.front (k := 1) rfl
   dsimp only [List.eraseIdx] at hM
   have hM : Mem C _ ([.box b10 [p42, vL A45 (xs44) c46] 147, .row byteRep A45 c46 5 xs44 true] ++ [.box b6 [.bool (n1.Final), vS (n1.Letters), vL A3 (n1.Next) c4] 76]) _ := hM
   obtain ⟨y85, hz86, h58⟩ := bind_some h58
   refine pi_z hf rfl rfl rfl rfl (by kernel_rfl) (w_call hf Tryd.call103 rfl (r_strings_Builder_WriteString ⟨_, Sh C _ _, ownB _, hM.sh_lt, sub_dis, C.G, hM.g_lt, hM.g_own, hM.tabs⟩ xs44 _ _ hv43 _ _ s83 (cat_len hz84) hM.sub sub_dis _ hz86) ?_)
   rintro _ w92 ⟨p87, A89, c90, rfl, hM2, hv88, hv91⟩
   obtain ⟨hM, hup94⟩ := hM.backG hM2
   dsimp only [List.cons_append, List.nil_append] at hM hup94
   clear hM2
   refine ⟨_, rfl, fun a hf => ?_⟩
   refine pi_nil ?_
   refine blk_n ?_
   refine then_n ?_
   refine region_pl ?_
   obtain ⟨z95, hz96, h58⟩ := bind_some h58
   refine q_ hf rfl rfl rfl (e_add hf rfl rfl hz96) fun a hf => ?_
   refine q_ hf rfl rfl rfl (e_move hf rfl) fun a hf => ?_
   refine pl_nil ?_
   obtain rfl := some_inj h58
   refine then_n ⟨_, rfl, ?_⟩
   have hM := hM.front (k := 2) rfl
   dsimp only [List.eraseIdx] at hM
   have hM := hM.front (k := 1) rfl
   dsimp only [List.eraseIdx] at hM
   have hM := hM.front (k := 2) rfl
   dsimp only [List.eraseIdx] at hM
   exact ⟨y85.2.2, z95, p87, A89, c90, rfl, hf.keep ⟨rfl, rfl, rfl, rfl, rfl, trivial⟩, hM.pick [1] rfl, hv88, (chk_R hz96)⟩
  refine cond_f hf rfl hc60 ?_
  refine wp_exit ?_
  refine then_x ?_
  obtain rfl := some_inj h58
  obtain rfl := hd59 _ rfl
  try dsimp only at h40
  refine then_x ?_
  refine exit_hit ?_
  obtain rfl := some_inj h40
  refine then_n ?_
  exact ⟨xs44, p42, A45, c46, rfl, hf.keep ⟨rfl, trivial⟩, hM.pick [0] rfl, hv43⟩
 rintro a w102 ⟨xs36, p34, A37, c38, rfl, hf, hM, hv35⟩
 try dsimp only at h
 refine wp_seq ?_
 refine region_pl ?_
 have hM := hM.front (k := 0) rfl
 dsimp only [List.eraseIdx] at hM
 have hM := hM.front (k := 1) rfl
 dsimp only [List.eraseIdx] at hM
 have hM : Mem C _ ([.box b10 [p34, vL A37 (xs36) c38] 147, .row byteRep A37 c38 5 xs36 true] ++ [.box b6 [.bool (n1.Final), vS (n1.Letters), vL A3 (n1.Next) c4] 76]) _ := hM
 obtain ⟨y103, hz104, h⟩ := bind_some h
 refine pl_l hf rfl rfl rfl (w_call hf Tryd.call105 rfl (r_strings_Builder_String ⟨_, Sh C _ _, ownB _, hM.sh_lt, sub_dis, C.G, hM.g_lt, hM.g_own, hM.tabs⟩ xs36 _ _ hv35 _ _ hM.sub sub_dis _ hz104) ?_)
 rintro _ w106 ⟨rfl, hM2, hv105⟩
 obtain ⟨hM, hup108⟩ := hM.backG hM2
 dsimp only [List.cons_append, List.nil_append] at hM hup108
 clear hM2
 refine ⟨_, rfl, fun a hf => ?_⟩
 refine q_ hf rfl rfl rfl (e_assign hf rfl) fun a hf => ?_
 refine pl_nil ?_
 refine then_n ?_
 refine wp_ret ?_
 obtain rfl := some_inj h
 have hM := hM.outs (own' := []) 0 rfl
 exact leave1 hf rfl rfl ⟨rfl, hM.fin, hv105⟩

end Go.Proofs.YtdaoecpkgobelaaDoor
