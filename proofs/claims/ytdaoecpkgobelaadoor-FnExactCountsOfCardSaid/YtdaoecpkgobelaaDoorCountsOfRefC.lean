/- The functions that this law reaches do what their models say. Printed by gen.py. -/
import Derived.Test.YtdaoecpkgobelaaDoorMod
import Derived.Test.YtdaoecpkgobelaaDoorLib
import Derived.Test.YtdaoecpkgobelaaDoorCountsOfRefB
namespace Go.Proofs.YtdaoecpkgobelaaDoor
open Go Go.RowKit
set_option linter.unusedSimpArgs false
set_option linter.unusedVariables false

def Ct_impl_Dawg_behind_1 (rc : Int → (List (Int × Int)) → Dawg → Option (Int × (List (Int × Int)))) : Prop := ∀ (C : Cx) (node1 : Int) (hp2 : R64 node1) (p3 : (List (Int × Int))) (b4 : Nat) (b5 : Nat) (hp6 : MapR p3) (p7 : Dawg) (b8 : Nat) (o9 : Nat) (hp10 : (ptrRep DawgRep).R C.w0 C.S0 p7 [vP b8 o9]) (b12 : Nat) (o13 : Nat) (hp14 : Shr.good C.w0 C.S0 (.lit b12 (o13) [.func (.func 79) #[] #[vP b4 (0), vP b8 (o9), vP b12 (o13)]])) (hO : Mem C C.w0 [.box b4 [vM b5] 115, .obj b5 (mapO fI fI p3)] []) (hd : ∀ b, C.S0 b → ¬ ownB [.box b4 [vM b5] 115, .obj b5 (mapO fI fI p3)] b) (r : (Int × (List (Int × Int)))) (h : rc node1 p3 p7 = some r),
    Calls Tryd.prog 79 #[vI (node1), vP b4 (0), vP b8 (o9), vP b12 (o13)] C.w0 fun e w => ∃ (b_1 : Nat), e = .returned (vI (r.1)) ∧ Mem C w [.box b4 [vM b_1] 115, .obj b_1 (mapO fI fI r.2)] [] ∧ MapR r.2 ∧ R64 r.1

set_option maxRecDepth 100000 in
set_option maxHeartbeats 4000000 in
theorem r_impl_Dawg_behind_1_b (rc : Int → (List (Int × Int)) → Dawg → Option (Int × (List (Int × Int)))) (ih : Ct_impl_Dawg_behind_1 rc) : Ct_impl_Dawg_behind_1 (m_impl_Dawg_behind_1_b rc) := by
 intro C node1 hp2 p3 b4 b5 hp6 p7 b8 o9 hp10 b12 o13 hp14 hO hd r h
 have hM := hO
 have hM := hM.addIn hd (y := .dat (ptrRep DawgRep) p7 [vP b8 o9]) hp10
 have hM := hM.addIn hd (y := .lit b12 (o13) [.func (.func 79) #[] #[vP b4 (0), vP b8 (o9), vP b12 (o13)]]) hp14
 refine enter Tryd.func79 rfl Tryd.ntmps79 rfl fun a hf => ?_
 unfold m_impl_Dawg_behind_1_b at h
 refine wp_seq ?_
 refine region_pl ?_
 refine q_ hf rfl rfl rfl (e_assign hf rfl) fun a hf => ?_
 refine pl_nil ?_
 refine then_n ?_
 iterate 2 refine wp_seq ?_
 refine region_pl ?_
 refine q_ hf rfl rfl rfl (e_load1 hf rfl Tryd.isAgg115 (hM.boxCell (k := 0) rfl rfl)) fun a hf => ?_
 refine q_ hf rfl rfl rfl (e_move hf rfl) fun a hf => ?_
 refine q_ hf rfl rfl rfl (e_lookupOk (fk := fI) (fv := fI) hf (keyI Tryd.underlying2) Tryd.underlying115 (k := node1) (z := 0) rfl rfl Tryd.zeroValue2 (hM.ownAt (k := 1) rfl)) fun a hf => ?_
 refine q_ hf rfl rfl rfl (e_move hf rfl) fun a hf => ?_
 iterate 2 refine q_ hf rfl rfl rfl (e_extract hf rfl rfl) fun a hf => ?_
 iterate 2 refine q_ hf rfl rfl rfl (e_assign hf rfl) fun a hf => ?_
 refine pl_nil ?_
 refine then_n ?_
 refine wp_seq ?_
 refine region_pl ?_
 refine q_ hf rfl rfl rfl (e_move hf rfl) fun a hf => ?_
 refine pl_nil ?_
 refine then_n ?_
 rcases cond_some h with ⟨hc15, h⟩ | ⟨hc15, h⟩
 ·refine cond_t hf rfl hc15 ?_
  refine wp_seq ?_
  refine region_pl ?_
  refine q_ hf rfl rfl rfl (e_move hf rfl) fun a hf => ?_
  refine q_ hf rfl rfl rfl (e_assign hf rfl) fun a hf => ?_
  refine pl_nil ?_
  refine then_n ?_
  refine wp_ret ?_
  refine then_r ?_
  obtain rfl := some_inj h
  exact leave1 hf rfl rfl ⟨b5, rfl, hM.fin, hp6, (hp6.get _)⟩
 refine cond_f hf rfl hc15 ?_
 refine wp_skip ?_
 refine then_n ?_
 refine wp_seq ?_
 refine region_pl ?_
 refine q_ hf rfl rfl rfl (e_assign hf rfl) fun a hf => ?_
 refine pl_nil ?_
 refine then_n ?_
 obtain ⟨x18, h19, h⟩ := bind_some h
 refine seq_join (fun a w => ∃ (n16 : Int), n16 = x18 ∧ Has 46 a [(0, vI (node1)), (1, vP b4 (0)), (2, vP b8 (o9)), (3, vP b12 (o13)), (8, vI (n16))] ∧ Mem C w [.box b4 [vM b5] 115, .obj b5 (mapO fI fI p3)] [.lit b12 (o13) [.func (.func 79) #[] #[vP b4 (0), vP b8 (o9), vP b12 (o13)]], .dat (ptrRep DawgRep) p7 [vP b8 o9]] ∧ R64 n16) ?_ ?_
 ·refine wp_seq ?_
  refine region_pl ?_
  obtain ⟨_, hr20, hM⟩ := hM.deref (hM.dat (k := 1) rfl)
  obtain ⟨A21, c22, rfl, hv23⟩ := DawgRep_open hr20
  have hM := hM.add (y := .dat (sliceRep NodeRep) p7.Nodes [vL A21 p7.Nodes c22]) hv23
  refine q_ hf rfl rfl rfl (e_field hf rfl Tryd.underlying26 rfl Tryd.sizeOf24 (o' := o9 + 0) rfl) fun a hf => ?_
  refine q_ hf rfl rfl rfl (e_load1 hf rfl Tryd.isAgg24 (hM.litCell (k := 1) (j := 0) rfl rfl rfl)) fun a hf => ?_
  refine q_ hf rfl rfl rfl (e_move hf rfl) fun a hf => ?_
  obtain ⟨e24, hz25, h19⟩ := bind_some h19
  obtain ⟨b29, o30, _, hA31, h26, h27, hr28, hM⟩ := hM.elem (hM.dat (k := 0) rfl) (n := 3) rfl hz25
  obtain ⟨A33, c34, rfl, hv32, hv35⟩ := NodeRep_open hr28
  have hM := hM.add (y := .dat (sliceRep intRep) e24.Next [vL A33 e24.Next c34]) hv35
  refine q_ hf rfl rfl rfl (e_indexAddr (A := A21) (b := b29) (o := o30) (xs := p7.Nodes) (i := node1) hf hA31 rfl rfl Tryd.underlying24 Tryd.sizeOf76 h26 h27) fun a hf => ?_
  refine q_ hf rfl rfl rfl (e_field hf rfl Tryd.underlying76 rfl Tryd.sizeOf4 (o' := (o30 + (node1 : Int).toNat * 3) + 0) rfl) fun a hf => ?_
  refine q_ hf rfl rfl rfl (e_load1 hf rfl Tryd.isAgg4 (hM.litCell (k := 1) (j := 0) rfl rfl rfl)) fun a hf => ?_
  refine pl_nil ?_
  refine then_n ?_
  rcases cond_some h19 with ⟨hc36, h19⟩ | ⟨hc36, h19⟩
  ·refine cond_t hf rfl hc36 ?_
   refine region_pl ?_
   refine q_ hf rfl rfl rfl (e_assign hf rfl) fun a hf => ?_
   refine pl_nil ?_
   obtain rfl := some_inj h19
   refine then_n ?_
   exact ⟨1, rfl, hf.keep ⟨rfl, rfl, rfl, rfl, rfl, trivial⟩, hM.pick [4, 5] rfl, (R64_lit rfl)⟩
  refine cond_f hf rfl hc36 ?_
  refine wp_skip ?_
  obtain rfl := some_inj h19
  refine then_n ?_
  exact ⟨0, rfl, hf.keep ⟨rfl, rfl, rfl, rfl, rfl, trivial⟩, hM.pick [4, 5] rfl, (R64_lit rfl)⟩
 rintro a w39 ⟨n16, rfl, hf, hM, hv17⟩
 try dsimp only at h
 obtain ⟨x45, h46, h⟩ := bind_some h
 refine seq_join (fun a w => ∃ (mp40 : (List (Int × Int))) (n43 : Int) (b41 : Nat), (mp40, n43) = x45 ∧ Has 46 a [(0, vI (node1)), (1, vP b4 (0)), (8, vI (n43))] ∧ Mem C w [.box b4 [vM b41] 115, .obj b41 (mapO fI fI mp40)] [.lit b12 (o13) [.func (.func 79) #[] #[vP b4 (0), vP b8 (o9), vP b12 (o13)]], .dat (ptrRep DawgRep) p7 [vP b8 o9]] ∧ MapR mp40 ∧ R64 n43) ?_ ?_
 ·refine wp_seq ?_
  refine region_pl ?_
  obtain ⟨_, hr47, hM⟩ := hM.deref (hM.dat (k := 1) rfl)
  obtain ⟨A48, c49, rfl, hv50⟩ := DawgRep_open hr47
  have hM := hM.add (y := .dat (sliceRep NodeRep) p7.Nodes [vL A48 p7.Nodes c49]) hv50
  refine q_ hf rfl rfl rfl (e_field hf rfl Tryd.underlying26 rfl Tryd.sizeOf24 (o' := o9 + 0) rfl) fun a hf => ?_
  refine q_ hf rfl rfl rfl (e_load1 hf rfl Tryd.isAgg24 (hM.litCell (k := 1) (j := 0) rfl rfl rfl)) fun a hf => ?_
  refine q_ hf rfl rfl rfl (e_move hf rfl) fun a hf => ?_
  obtain ⟨e51, hz52, h46⟩ := bind_some h46
  obtain ⟨b56, o57, _, hA58, h53, h54, hr55, hM⟩ := hM.elem (hM.dat (k := 0) rfl) (n := 3) rfl hz52
  obtain ⟨A60, c61, rfl, hv59, hv62⟩ := NodeRep_open hr55
  have hM := hM.add (y := .dat (sliceRep intRep) e51.Next [vL A60 e51.Next c61]) hv62
  refine q_ hf rfl rfl rfl (e_indexAddr (A := A48) (b := b56) (o := o57) (xs := p7.Nodes) (i := node1) hf hA58 rfl rfl Tryd.underlying24 Tryd.sizeOf76 h53 h54) fun a hf => ?_
  refine q_ hf rfl rfl rfl (e_field hf rfl Tryd.underlying76 rfl Tryd.sizeOf31 (o' := (o57 + (node1 : Int).toNat * 3) + 2) rfl) fun a hf => ?_
  refine q_ hf rfl rfl rfl (e_load1 hf rfl Tryd.isAgg31 (hM.litCell (k := 1) (j := 2) rfl rfl rfl)) fun a hf => ?_
  have hl63 := slice_len (hM.dat (k := 0) rfl)
  refine q_ hf rfl rfl rfl (e_lenL hf (x := e51.Next) rfl Tryd.underlying31) fun a hf => ?_
  refine q_ hf rfl rfl rfl (e_move hf rfl) fun a hf => ?_
  refine pl_nil ?_
  refine then_n ?_
  refine wp_block ?_
  obtain ⟨x77, h78, h46⟩ := bind_some h46
  refine wp_loopM h78 (fun s a w => ∃ (mp64 : (List (Int × Int))) (n67 : Int) (n69 : Int) (b65 : Nat), (mp64, n67, n69) = s ∧ Has 46 a [(0, vI (node1)), (1, vP b4 (0)), (3, vP b12 (o13)), (8, vI (n69)), (30, vL A60 (e51.Next) c61), (31, vI ((e51.Next.length : Int))), (32, vI (n67))] ∧ Mem C w [.box b4 [vM b65] 115, .obj b65 (mapO fI fI mp64)] [.dat (sliceRep intRep) e51.Next [vL A60 e51.Next c61], .lit b56 (o57 + (node1 : Int).toNat * 3) [.bool (e51.Final), vS (e51.Letters), vL A60 (e51.Next) c61], .dat (sliceRep NodeRep) p7.Nodes [vL A48 p7.Nodes c49], .lit b8 (o9) [vL A48 (p7.Nodes) c49], .lit b12 (o13) [.func (.func 79) #[] #[vP b4 (0), vP b8 (o9), vP b12 (o13)]], .dat (ptrRep DawgRep) p7 [vP b8 o9]] ∧ MapR mp64 ∧ R64 n67 ∧ R64 n69) ?_ ?_
  ·exact ⟨p3, 0, n16, b5, rfl, hf.keep ⟨rfl, rfl, rfl, rfl, rfl, rfl, rfl, trivial⟩, hM.pick [0, 1, 2, 3, 4, 5] rfl, hp6, (R64_lit rfl), hv17⟩
  rintro s o79 a w71 ⟨mp64, n67, n69, b65, rfl, hf, hM, hv66, hv68, hv70⟩ h80 hd81
  replace h80 : m_impl_Dawg_behind_1_l1 e51 rc p7 mp64 n67 n69 = some o79 := h80
  unfold m_impl_Dawg_behind_1_l1 at h80
  refine wp_seq ?_
  refine region_pl ?_
  refine q_ hf rfl rfl rfl (e_lt hf (x := n67) (y := (e51.Next.length : Int)) rfl rfl) fun a hf => ?_
  refine pl_nil ?_
  refine then_n ?_
  refine wp_seq ?_
  rcases cond_some h80 with ⟨hc82, h80⟩ | ⟨hc82, h80⟩
  ·refine cond_t hf rfl hc82 ?_
   refine wp_skip ?_
   refine then_n ?_
   refine wp_seq ?_
   refine wp_block ?_
   refine wp_seq ?_
   refine region_pl ?_
   obtain ⟨e83, hz84, h80⟩ := bind_some h80
   obtain ⟨b88, o89, _, hA90, h85, h86, hr87, hM⟩ := hM.elem (hM.dat (k := 0) rfl) (n := 1) rfl hz84
   obtain ⟨rfl, hv91⟩ := hr87
   refine q_ hf rfl rfl rfl (e_indexAddr (A := A60) (b := b88) (o := o89) (xs := e51.Next) (i := n67) hf hA90 rfl rfl Tryd.underlying31 Tryd.sizeOf2 h85 h86) fun a hf => ?_
   refine q_ hf rfl rfl rfl (e_load1 hf rfl Tryd.isAgg2 (hM.litCell (k := 0) (j := 0) rfl rfl rfl)) fun a hf => ?_
   refine q_ hf rfl rfl rfl (e_assign hf rfl) fun a hf => ?_
   refine pl_nil ?_
   refine then_n ?_
   refine region_pl ?_
   refine q_ hf rfl rfl rfl (e_move hf rfl) fun a hf => ?_
   refine q_ hf rfl rfl rfl (e_load1 hf rfl Tryd.isAgg116 (hM.litCell (k := 5) (j := 0) rfl rfl rfl)) fun a hf => ?_
   refine q_ hf rfl rfl rfl (e_move hf rfl) fun a hf => ?_
   have hM : Mem C _ ([.box b4 [vM b65] 115, .obj b65 (mapO fI fI mp64)] ++ []) _ := hM
   obtain ⟨y92, hz93, h80⟩ := bind_some h80
   refine pl_l hf rfl rfl rfl (w_callV hf (fk := 79) (fc := [vP b4 (0), vP b8 (o9), vP b12 (o13)]) rfl Tryd.call79 rfl (ih ⟨_, Sh C _ _, ownB _, hM.sh_lt, sub_dis, C.G, hM.g_lt, hM.g_own, hM.tabs⟩ e83 hv91 mp64 _ _ hv66 p7 _ _ (hM.dat (k := 6) rfl) _ _ (hM.at_ (k := 5) rfl) hM.sub sub_dis _ hz93) ?_)
   rintro _ w97 ⟨b94, rfl, hM2, hv95, hv96⟩
   obtain ⟨hM, hup99⟩ := hM.backG hM2
   dsimp only [List.cons_append, List.nil_append] at hM hup99
   clear hM2
   refine ⟨_, rfl, fun a hf => ?_⟩
   obtain ⟨z100, hz101, h80⟩ := bind_some h80
   refine q_ hf rfl rfl rfl (e_add hf rfl rfl hz101) fun a hf => ?_
   refine q_ hf rfl rfl rfl (e_assign hf rfl) fun a hf => ?_
   refine pl_nil ?_
   refine blk_n ?_
   refine then_n ?_
   refine region_pl ?_
   obtain ⟨z102, hz103, h80⟩ := bind_some h80
   refine q_ hf rfl rfl rfl (e_add hf rfl rfl hz103) fun a hf => ?_
   refine q_ hf rfl rfl rfl (e_move hf rfl) fun a hf => ?_
   refine pl_nil ?_
   obtain rfl := some_inj h80
   refine then_n ⟨_, rfl, ?_⟩
   exact ⟨y92.2, z102, z100, b94, rfl, hf.keep ⟨rfl, rfl, rfl, rfl, rfl, rfl, rfl, trivial⟩, hM.pick [1, 2, 3, 4, 5, 6] rfl, hv95, (chk_R hz103), (chk_R hz101)⟩
  refine cond_f hf rfl hc82 ?_
  refine wp_exit ?_
  refine then_x ?_
  obtain rfl := some_inj h80
  obtain rfl := hd81 _ rfl
  try dsimp only at h46
  refine then_x ?_
  refine exit_hit ?_
  obtain rfl := some_inj h46
  refine then_n ?_
  exact ⟨mp64, n69, b65, rfl, hf.keep ⟨rfl, rfl, rfl, trivial⟩, hM.pick [4, 5] rfl, hv66, hv70⟩
 rintro a w109 ⟨mp40, n43, b41, rfl, hf, hM, hv42, hv44⟩
 try dsimp only at h
 refine wp_seq ?_
 refine region_pl ?_
 refine q_ hf rfl rfl rfl (e_load1 hf rfl Tryd.isAgg115 (hM.boxCell (k := 0) rfl rfl)) fun a hf => ?_
 iterate 2 refine q_ hf rfl rfl rfl (e_move hf rfl) fun a hf => ?_
 refine pl_0 hf rfl rfl (w_mapUpdate (fk := fI) (fv := fI) hf hM (keyI Tryd.underlying2) Tryd.underlying115 (k := node1) (v := n43) rfl rfl rfl (n := 1) rfl fun w110 hM => ?_)
 dsimp only [List.set] at hM
 refine pl_nil ?_
 refine then_n ?_
 refine wp_seq ?_
 refine region_pl ?_
 refine q_ hf rfl rfl rfl (e_move hf rfl) fun a hf => ?_
 refine q_ hf rfl rfl rfl (e_assign hf rfl) fun a hf => ?_
 refine pl_nil ?_
 refine then_n ?_
 refine wp_ret ?_
 obtain rfl := some_inj h
 exact leave1 hf rfl rfl ⟨b41, rfl, hM.fin, (hv42.put hv44), hv44⟩

theorem r_impl_Dawg_behind_1_n : ∀ n, Ct_impl_Dawg_behind_1 (m_impl_Dawg_behind_1_n n)
  | 0 => fun C node1 hp2 p3 b4 b5 hp6 p7 b8 o9 hp10 b12 o13 hp14 hO hd r h => by cases h
  | n + 1 => r_impl_Dawg_behind_1_b _ (r_impl_Dawg_behind_1_n n)

theorem r_impl_Dawg_behind_1 : Ct_impl_Dawg_behind_1 (m_impl_Dawg_behind_1) := r_impl_Dawg_behind_1_n fuelN

set_option maxRecDepth 100000 in
set_option maxHeartbeats 4000000 in
theorem r_impl_Dawg_behind (C : Cx) (d1 : Dawg) (A2 : Option Addr) (c3 : Nat) (hp4 : (sliceRep NodeRep).R C.w0 C.S0 d1.Nodes [vL A2 d1.Nodes c3]) (r : (List Int)) (h : m_impl_Dawg_behind d1 = some r) :
    Calls Tryd.prog 46 #[.agg #[vL A2 (d1.Nodes) c3]] C.w0 fun e w => ∃ (A_1 : Option Addr), ∃ (c_1 : Nat), e = .returned (vL A_1 (r) c_1) ∧ Mem C w [.row intRep A_1 c_1 2 r true] [] := by
 have hM := Mem.begin C [.dat (sliceRep NodeRep) d1.Nodes [vL A2 d1.Nodes c3]] ⟨hp4, trivial⟩
 refine enter Tryd.func46 rfl Tryd.ntmps46 rfl fun a hf => ?_
 unfold m_impl_Dawg_behind at h
 refine wp_seq ?_
 refine region_pl ?_
 refine pl_l hf rfl rfl rfl (w_box hf hM (cs := [vL A2 (d1.Nodes) c3]) rfl rfl fun b5 w6 hx7 hM a hf => ?_)
 refine q_ hf rfl rfl rfl (e_assign hf rfl) fun a hf => ?_
 refine pl_nil ?_
 refine then_n ?_
 refine wp_seq ?_
 refine region_pl ?_
 refine pl_l hf rfl rfl rfl (w_makeMap fI fI hM fun b9 w10 hx11 hM a hf => ?_)
 refine pl_l hf rfl rfl rfl (w_alloc hM (cs := [.map none]) Tryd.zeroValue115 rfl fun b12 w13 hx14 hM a hf => ?_)
 refine pl_0 hf rfl rfl (w_store hf hM (us := [vM b9]) (cs' := [vM b9]) rfl rfl (k := 0) rfl rfl Tryd.sizeOf115 rfl rfl rfl fun w16 hM => ?_)
 dsimp only [List.set] at hM
 refine pl_nil ?_
 refine then_n ?_
 refine wp_seq ?_
 refine region_pl ?_
 refine pl_l hf rfl rfl rfl (w_alloc hM (cs := [.nilFunc]) Tryd.zeroValue116 rfl fun b19 w20 hx21 hM a hf => ?_)
 refine pl_nil ?_
 refine then_n ?_
 refine wp_seq ?_
 refine region_pl ?_
 refine q_ hf rfl rfl rfl (w_makeFunc hf rfl) fun a hf => ?_
 refine pl_0 hf rfl rfl (w_store hf hM (us := [.func (.func 79) #[] #[vP b12 (0), vP b5 (0), vP b19 (0)]]) (cs' := [.func (.func 79) #[] #[vP b12 (0), vP b5 (0), vP b19 (0)]]) rfl rfl (k := 0) rfl rfl Tryd.sizeOf116 rfl rfl rfl fun w23 hM => ?_)
 dsimp only [List.set] at hM
 refine pl_nil ?_
 refine then_n ?_
 refine wp_seq ?_
 refine region_pl ?_
 refine q_ hf rfl rfl rfl (e_field hf rfl Tryd.underlying26 rfl Tryd.sizeOf24 (o' := 0) rfl) fun a hf => ?_
 refine q_ hf rfl rfl rfl (e_load1 hf rfl Tryd.isAgg24 (hM.boxCell (k := 3) rfl rfl)) fun a hf => ?_
 have hl26 := slice_len (hM.dat (k := 0) rfl)
 refine q_ hf rfl rfl rfl (e_lenL hf (x := d1.Nodes) rfl Tryd.underlying24) fun a hf => ?_
 obtain ⟨xs27, hz28, h⟩ := bind_some h
 refine pl_l hf rfl rfl rfl (w_make hf hM (K := intRep) Tryd.underlying31 ei_2 Tryd.zeroValue2 rfl rfl rfl ⟨rfl, (R64_lit rfl)⟩ hz28 fun b29 w30 hx31 hM a hf => ?_)
 refine q_ hf rfl rfl rfl (e_assign hf rfl) fun a hf => ?_
 refine pl_nil ?_
 refine then_n ?_
 obtain ⟨x36, h37, h⟩ := bind_some h
 refine seq_join (fun a w => ∃ (mp32 : (List (Int × Int))) (xs35 : (List Int)) (b33 : Nat), (mp32, xs35) = x36 ∧ Has 26 a [(5, vL (some ⟨b29, 0, none⟩) (xs35) (((d1.Nodes.length : Int) : Int).toNat))] ∧ Mem C w [.row intRep (some ⟨b29, 0, none⟩) (((d1.Nodes.length : Int) : Int).toNat) 2 xs35 true, .box b12 [vM b33] 115, .obj b33 (mapO fI fI mp32)] [.dat (sliceRep NodeRep) d1.Nodes [vL A2 d1.Nodes c3]] ∧ MapR mp32) ?_ ?_
 ·refine wp_seq ?_
  refine region_pl ?_
  refine q_ hf rfl rfl rfl (e_move hf rfl) fun a hf => ?_
  have hl38 := row_len (hM.ownAt (k := 0) rfl)
  refine q_ hf rfl rfl rfl (e_lenL hf (x := xs27) rfl Tryd.underlying31) fun a hf => ?_
  refine q_ hf rfl rfl rfl (e_move hf rfl) fun a hf => ?_
  refine pl_nil ?_
  refine then_n ?_
  refine wp_block ?_
  have hM := hM.freezeBox (k := 4) rfl rfl
  dsimp only [List.eraseIdx] at hM
  have hM := hM.freezeBox (k := 1) rfl rfl
  dsimp only [List.eraseIdx] at hM
  obtain ⟨x50, h51, h37⟩ := bind_some h37
  refine wp_loopM h51 (fun s a w => ∃ (mp39 : (List (Int × Int))) (xs42 : (List Int)) (n43 : Int) (b40 : Nat), (mp39, xs42, n43) = s ∧ Has 26 a [(4, vP b19 (0)), (5, vL (some ⟨b29, 0, none⟩) (xs42) (((d1.Nodes.length : Int) : Int).toNat)), (14, vI ((xs27.length : Int))), (15, vI (n43))] ∧ Mem C w [.row intRep (some ⟨b29, 0, none⟩) (((d1.Nodes.length : Int) : Int).toNat) 2 xs42 true, .box b12 [vM b40] 115, .obj b40 (mapO fI fI mp39)] [.lit b19 (0) [.func (.func 79) #[] #[vP b12 (0), vP b5 (0), vP b19 (0)]], .lit b5 (0) [vL A2 (d1.Nodes) c3], .dat (sliceRep NodeRep) d1.Nodes [vL A2 d1.Nodes c3]] ∧ MapR mp39 ∧ R64 n43) ?_ ?_
  ·exact ⟨([] : (List (Int × Int))), xs27, 0, b9, rfl, hf.keep ⟨rfl, rfl, rfl, rfl, trivial⟩, hM.pick [0, 1, 2] rfl, MapR.nil, (R64_lit rfl)⟩
  rintro s o52 a w45 ⟨mp39, xs42, n43, b40, rfl, hf, hM, hv41, hv44⟩ h53 hd54
  replace h53 : m_impl_Dawg_behind_l1 xs27 d1 mp39 xs42 n43 = some o52 := h53
  unfold m_impl_Dawg_behind_l1 at h53
  refine wp_seq ?_
  refine region_pl ?_
  refine q_ hf rfl rfl rfl (e_lt hf (x := n43) (y := (xs27.length : Int)) rfl rfl) fun a hf => ?_
  refine pl_nil ?_
  refine then_n ?_
  refine wp_seq ?_
  rcases cond_some h53 with ⟨hc55, h53⟩ | ⟨hc55, h53⟩
  ·refine cond_t hf rfl hc55 ?_
   refine wp_skip ?_
   refine then_n ?_
   refine wp_seq ?_
   refine wp_block ?_
   refine wp_seq ?_
   refine region_pl ?_
   refine q_ hf rfl rfl rfl (e_move hf rfl) fun a hf => ?_
   refine q_ hf rfl rfl rfl (e_assign hf rfl) fun a hf => ?_
   refine pl_nil ?_
   refine then_n ?_
   refine region_pl ?_
   iterate 2 refine q_ hf rfl rfl rfl (e_move hf rfl) fun a hf => ?_
   refine q_ hf rfl rfl rfl (e_load1 hf rfl Tryd.isAgg116 (hM.litCell (k := 0) (j := 0) rfl rfl rfl)) fun a hf => ?_
   refine q_ hf rfl rfl rfl (e_move hf rfl) fun a hf => ?_
   have hM := hM.front (k := 2) rfl
   dsimp only [List.eraseIdx] at hM
   have hM := hM.front (k := 2) rfl
   dsimp only [List.eraseIdx] at hM
   have hM : Mem C _ ([.box b12 [vM b40] 115, .obj b40 (mapO fI fI mp39)] ++ [.row intRep (some ⟨b29, 0, none⟩) (((d1.Nodes.length : Int) : Int).toNat) 2 xs42 true]) _ := hM
   obtain ⟨y56, hz57, h53⟩ := bind_some h53
   refine pl_l hf rfl rfl rfl (w_callV hf (fk := 79) (fc := [vP b12 (0), vP b5 (0), vP b19 (0)]) rfl Tryd.call79 rfl (r_impl_Dawg_behind_1 ⟨_, Sh C _ _, ownB _, hM.sh_lt, sub_dis, C.G, hM.g_lt, hM.g_own, hM.tabs⟩ n43 hv44 mp39 _ _ hv41 d1 _ _ (hM.litPtr (k := 1) (d := 0) (us := [vL A2 (d1.Nodes) c3]) rfl rfl rfl (DawgRep_mk (x := d1) (hM.dat (k := 2) rfl))) _ _ (hM.at_ (k := 0) rfl) hM.sub sub_dis _ hz57) ?_)
   rintro _ w61 ⟨b58, rfl, hM2, hv59, hv60⟩
   obtain ⟨hM, hup63⟩ := hM.backG hM2
   dsimp only [List.cons_append, List.nil_append] at hM hup63
   clear hM2
   refine ⟨_, rfl, fun a hf => ?_⟩
   obtain ⟨e64, hz65, h53⟩ := bind_some h53
   obtain ⟨_, h66, h67, hr68, hcell69⟩ := hM.rowElem' (k := 2) rfl (n := 1) rfl hz65
   obtain ⟨rfl, hv70⟩ := hr68
   refine q_ hf rfl rfl rfl (e_indexAddr (A := (some ⟨b29, 0, none⟩)) (b := b29) (o := 0) (xs := xs42) (i := n43) hf rfl rfl rfl Tryd.underlying31 Tryd.sizeOf2 h66 h67) fun a hf => ?_
   obtain ⟨xs72, hz73, h53⟩ := bind_some h53
   refine pl_0 hf rfl rfl (w_storeElem hf hM (x := y56.1) (row := [vI (y56.1)]) (i := n43) rfl rfl rfl rfl (k := 2) rfl rfl Tryd.sizeOf2 ⟨rfl, hv60⟩ hz73 fun w71 hM => ?_)
   dsimp only [List.set] at hM
   have hf := hf.alter (d := 5) (v := vL (some ⟨b29, 0, none⟩) (xs72) (((d1.Nodes.length : Int) : Int).toNat)) rfl (vL_len (setL_len hz73))
   have hf := hf.alter (d := 18) (v := vL (some ⟨b29, 0, none⟩) (xs72) (((d1.Nodes.length : Int) : Int).toNat)) rfl (vL_len (setL_len hz73))
   refine pl_nil ?_
   refine blk_n ?_
   refine then_n ?_
   refine region_pl ?_
   obtain ⟨z74, hz75, h53⟩ := bind_some h53
   refine q_ hf rfl rfl rfl (e_add hf rfl rfl hz75) fun a hf => ?_
   refine q_ hf rfl rfl rfl (e_move hf rfl) fun a hf => ?_
   refine pl_nil ?_
   obtain rfl := some_inj h53
   refine then_n ⟨_, rfl, ?_⟩
   have hM := hM.front (k := 1) rfl
   dsimp only [List.eraseIdx] at hM
   have hM := hM.front (k := 1) rfl
   dsimp only [List.eraseIdx] at hM
   have hM := hM.front (k := 2) rfl
   dsimp only [List.eraseIdx] at hM
   exact ⟨y56.2, xs72, z74, b58, rfl, hf.keep ⟨rfl, rfl, rfl, rfl, trivial⟩, hM.pick [0, 1, 2] rfl, hv59, (chk_R hz75)⟩
  refine cond_f hf rfl hc55 ?_
  refine wp_exit ?_
  refine then_x ?_
  obtain rfl := some_inj h53
  obtain rfl := hd54 _ rfl
  try dsimp only at h37
  refine then_x ?_
  refine exit_hit ?_
  obtain rfl := some_inj h37
  refine then_n ?_
  exact ⟨mp39, xs42, b40, rfl, hf.keep ⟨rfl, trivial⟩, hM.pick [2] rfl, hv41⟩
 rintro a w81 ⟨mp32, xs35, b33, rfl, hf, hM, hv34⟩
 try dsimp only at h
 refine wp_seq ?_
 refine region_pl ?_
 refine q_ hf rfl rfl rfl (e_move hf rfl) fun a hf => ?_
 refine q_ hf rfl rfl rfl (e_assign hf rfl) fun a hf => ?_
 refine pl_nil ?_
 refine then_n ?_
 refine wp_ret ?_
 obtain rfl := some_inj h
 have hM := hM.outs (own' := [.row intRep (some ⟨b29, 0, none⟩) (((d1.Nodes.length : Int) : Int).toNat) 2 xs35 true]) 1 rfl
 exact leave1 hf rfl rfl ⟨(some ⟨b29, 0, none⟩), (((d1.Nodes.length : Int) : Int).toNat), rfl, hM.fin⟩

set_option maxRecDepth 100000 in
set_option maxHeartbeats 4000000 in
theorem r_impl_CountsOf (C : Cx) (d1 : Dawg) (A2 : Option Addr) (c3 : Nat) (hp4 : (sliceRep NodeRep).R C.w0 C.S0 d1.Nodes [vL A2 d1.Nodes c3]) (r : ((List Int) × Int)) (h : m_impl_CountsOf d1 = some r) :
    Calls Tryd.prog 15 #[.agg #[vL A2 (d1.Nodes) c3]] C.w0 fun e w => ∃ (A_1 : Option Addr), ∃ (c_1 : Nat), e = .returned (.tuple #[vL A_1 (r.1) c_1, vI (r.2)]) ∧ Mem C w [.row intRep A_1 c_1 2 r.1 true] [] ∧ R64 r.2 := by
 have hM := Mem.begin C [.dat (sliceRep NodeRep) d1.Nodes [vL A2 d1.Nodes c3]] ⟨hp4, trivial⟩
 refine enter Tryd.func15 rfl Tryd.ntmps15 rfl fun a hf => ?_
 unfold m_impl_CountsOf at h
 refine wp_seq ?_
 refine region_pl ?_
 refine pl_l hf rfl rfl rfl (w_box hf hM (cs := [vL A2 (d1.Nodes) c3]) rfl rfl fun b5 w6 hx7 hM a hf => ?_)
 iterate 2 refine q_ hf rfl rfl rfl (e_assign hf rfl) fun a hf => ?_
 refine pl_nil ?_
 refine then_n ?_
 iterate 2 refine wp_seq ?_
 refine region_pl ?_
 refine q_ hf rfl rfl rfl (e_loadA hf (us := [vL A2 (d1.Nodes) c3]) rfl ⟨Tryd.isAgg26, Tryd.sizeOf26⟩ rfl (hM.boxSub (k := 0) (us := [vL A2 (d1.Nodes) c3]) (o := 0) rfl rfl)) fun a hf => ?_
 obtain ⟨y9, hz10, h⟩ := bind_some h
 refine pl_l hf rfl rfl rfl (w_call hf Tryd.call45 rfl (r_impl_ValidDawg ⟨_, Sh C _ _, none_, hM.sh_lt, none_not, C.G, hM.g_lt, g_none, hM.tabs⟩ d1 _ _ (hM.dat (k := 0) rfl) _ hz10) ?_)
 rintro _ w11 ⟨rfl, hM2⟩
 obtain ⟨hM, hx12, hup13⟩ := hM.back hM2
 dsimp only [List.cons_append, List.nil_append] at hM hup13
 clear hM2
 refine ⟨_, rfl, fun a hf => ?_⟩
 refine q_ hf rfl rfl rfl (e_not hf rfl) fun a hf => ?_
 refine pl_nil ?_
 refine then_n ?_
 rcases cond_some h with ⟨hc14, h⟩ | ⟨hc14, h⟩
 ·refine cond_t hf rfl hc14 ?_
  refine wp_seq ?_
  refine region_pl ?_
  iterate 2 refine q_ hf rfl rfl rfl (e_assign hf rfl) fun a hf => ?_
  refine pl_nil ?_
  refine then_n ?_
  refine wp_ret ?_
  refine then_r ?_
  obtain rfl := some_inj h
  have hM := hM.nilRow intRep 2
  have hM := hM.outs (own' := [.row intRep none 0 2 ([] : (List Int)) true]) 1 rfl
  exact leave2 hf rfl rfl rfl ⟨none, 0, rfl, hM.fin, (R64_lit rfl)⟩
 refine cond_f hf rfl hc14 ?_
 refine wp_skip ?_
 refine then_n ?_
 refine wp_seq ?_
 refine region_pl ?_
 refine q_ hf rfl rfl rfl (e_loadA hf (us := [vL A2 (d1.Nodes) c3]) rfl ⟨Tryd.isAgg26, Tryd.sizeOf26⟩ rfl (hM.boxSub (k := 0) (us := [vL A2 (d1.Nodes) c3]) (o := 0) rfl rfl)) fun a hf => ?_
 obtain ⟨y15, hz16, h⟩ := bind_some h
 refine pl_l hf rfl rfl rfl (w_call hf Tryd.call46 rfl (r_impl_Dawg_behind ⟨_, Sh C _ _, none_, hM.sh_lt, none_not, C.G, hM.g_lt, g_none, hM.tabs⟩ d1 _ _ (hM.dat (k := 0) rfl) _ hz16) ?_)
 rintro _ w19 ⟨A17, c18, rfl, hM2⟩
 obtain ⟨hM, hx20, hup21⟩ := hM.back hM2
 dsimp only [List.cons_append, List.nil_append] at hM hup21
 clear hM2
 refine ⟨_, rfl, fun a hf => ?_⟩
 iterate 2 refine q_ hf rfl rfl rfl (e_assign hf rfl) fun a hf => ?_
 refine pl_nil ?_
 refine then_n ?_
 refine wp_ret ?_
 obtain rfl := some_inj h
 have hM := hM.outs (own' := [.row intRep A17 c18 2 y15 true]) 1 rfl
 exact leave2 hf rfl rfl rfl ⟨A17, c18, rfl, hM.fin, (R64_lit rfl)⟩

set_option maxRecDepth 100000 in
set_option maxHeartbeats 4000000 in
theorem r_laws_eqInt64S (C : Cx) (a1 : (List Int)) (A2 : Option Addr) (c3 : Nat) (hp4 : (sliceRep intRep).R C.w0 C.S0 a1 [vL A2 a1 c3]) (b5 : (List Int)) (A6 : Option Addr) (c7 : Nat) (hp8 : (sliceRep intRep).R C.w0 C.S0 b5 [vL A6 b5 c7]) (r : Bool) (h : m_laws_eqInt64S a1 b5 = some r) :
    Calls Tryd.prog 31 #[vL A2 (a1) c3, vL A6 (b5) c7] C.w0 fun e w => e = .returned (.bool (r)) ∧ Mem C w [] [] := by
 have hM := Mem.begin C [.dat (sliceRep intRep) b5 [vL A6 b5 c7], .dat (sliceRep intRep) a1 [vL A2 a1 c3]] ⟨hp8, hp4, trivial⟩
 refine enter Tryd.func31 rfl Tryd.ntmps31 rfl fun a hf => ?_
 unfold m_laws_eqInt64S at h
 refine wp_seq ?_
 refine region_pl ?_
 refine q_ hf rfl rfl rfl (e_assign hf rfl) fun a hf => ?_
 refine pl_nil ?_
 refine then_n ?_
 iterate 2 refine wp_seq ?_
 refine region_pl ?_
 refine q_ hf rfl rfl rfl (e_move hf rfl) fun a hf => ?_
 have hl9 := slice_len (hM.dat (k := 1) rfl)
 refine q_ hf rfl rfl rfl (e_lenL hf (x := a1) rfl Tryd.underlying31) fun a hf => ?_
 refine q_ hf rfl rfl rfl (e_move hf rfl) fun a hf => ?_
 have hl10 := slice_len (hM.dat (k := 0) rfl)
 refine q_ hf rfl rfl rfl (e_lenL hf (x := b5) rfl Tryd.underlying31) fun a hf => ?_
 refine q_ hf rfl rfl rfl (e_ne hf (x := (a1.length : Int)) (y := (b5.length : Int)) rfl rfl) fun a hf => ?_
 refine pl_nil ?_
 refine then_n ?_
 rcases cond_some h with ⟨hc11, h⟩ | ⟨hc11, h⟩
 ·refine cond_t hf rfl hc11 ?_
  refine wp_seq ?_
  refine region_pl ?_
  refine q_ hf rfl rfl rfl (e_assign hf rfl) fun a hf => ?_
  refine pl_nil ?_
  refine then_n ?_
  refine wp_ret ?_
  refine then_r ?_
  obtain rfl := some_inj h
  exact leave1 hf rfl rfl ⟨rfl, hM.fin⟩
 refine cond_f hf rfl hc11 ?_
 refine wp_skip ?_
 refine then_n ?_
 obtain ⟨x12, h13, h⟩ := bind_some h
 refine seq_join (fun a w => (.inl ()) = x12 ∧ Has 26 a [] ∧ Mem C w [] [.dat (sliceRep intRep) b5 [vL A6 b5 c7], .dat (sliceRep intRep) a1 [vL A2 a1 c3]]) ?_ ?_
 ·refine wp_seq ?_
  refine region_pl ?_
  refine q_ hf rfl rfl rfl (e_assign hf rfl) fun a hf => ?_
  refine pl_nil ?_
  refine then_n ?_
  refine wp_block ?_
  obtain ⟨x17, h18, h13⟩ := bind_some h13
  refine wp_loopM h18 (fun s a w => ∃ (n14 : Int), n14 = s ∧ Has 26 a [(0, vL A2 (a1) c3), (1, vL A6 (b5) c7), (5, vI (n14))] ∧ Mem C w [] [.dat (sliceRep intRep) b5 [vL A6 b5 c7], .dat (sliceRep intRep) a1 [vL A2 a1 c3]] ∧ R64 n14) ?_ ?_
  ·exact ⟨0, rfl, hf.keep ⟨rfl, rfl, rfl, trivial⟩, hM.pick [0, 1] rfl, (R64_lit rfl)⟩
  rintro s o19 a w16 ⟨n14, rfl, hf, hM, hv15⟩ h20 hd21
  replace h20 : m_laws_eqInt64S_l1 a1 b5 n14 = some o19 := h20
  unfold m_laws_eqInt64S_l1 at h20
  iterate 2 refine wp_seq ?_
  refine region_pl ?_
  iterate 2 refine q_ hf rfl rfl rfl (e_move hf rfl) fun a hf => ?_
  have hl22 := slice_len (hM.dat (k := 1) rfl)
  refine q_ hf rfl rfl rfl (e_lenL hf (x := a1) rfl Tryd.underlying31) fun a hf => ?_
  refine q_ hf rfl rfl rfl (e_lt hf (x := n14) (y := (a1.length : Int)) rfl rfl) fun a hf => ?_
  refine pl_nil ?_
  refine then_n ?_
  rcases cond_some h20 with ⟨hc23, h20⟩ | ⟨hc23, h20⟩
  ·refine cond_t hf rfl hc23 ?_
   refine wp_skip ?_
   refine then_n ?_
   refine wp_seq ?_
   refine wp_block ?_
   refine wp_seq ?_
   obtain ⟨w24, hw⟩ : ∃ x, x = w16.drew := ⟨_, rfl⟩
   refine region_pi (.q 0 (.q 1 (.q 2 (.q 3 (.q 4 (.q 5 (.q 6 (.q 7 (.q 8 (.nil)))))))))) (Ext w24) rfl (by kernel_rfl) ?_
   have hM := hM.drew
   rw [← hw] at hM ⊢
   clear hw
   iterate 2 refine pi_q hf rfl rfl rfl rfl (Ext.refl _) (e_move hf rfl) fun a hf => ?_
   obtain ⟨e25, hz26, h20⟩ := bind_some h20
   obtain ⟨b30, o31, _, hA32, h27, h28, hr29, hM⟩ := hM.elem (hM.dat (k := 1) rfl) (n := 1) rfl hz26
   obtain ⟨rfl, hv33⟩ := hr29
   refine pi_q hf rfl rfl rfl rfl (Ext.refl _) (e_indexAddr (A := A2) (b := b30) (o := o31) (xs := a1) (i := n14) hf hA32 rfl rfl Tryd.underlying31 Tryd.sizeOf2 h27 h28) fun a hf => ?_
   refine pi_q hf rfl rfl rfl rfl (Ext.refl _) (e_load1 hf rfl Tryd.isAgg2 (hM.litCell (k := 0) (j := 0) rfl rfl rfl)) fun a hf => ?_
   iterate 2 refine pi_q hf rfl rfl rfl rfl (Ext.refl _) (e_move hf rfl) fun a hf => ?_
   obtain ⟨e34, hz35, h20⟩ := bind_some h20
   obtain ⟨b39, o40, _, hA41, h36, h37, hr38, hM⟩ := hM.elem (hM.dat (k := 1) rfl) (n := 1) rfl hz35
   obtain ⟨rfl, hv42⟩ := hr38
   refine pi_q hf rfl rfl rfl rfl (Ext.refl _) (e_indexAddr (A := A6) (b := b39) (o := o40) (xs := b5) (i := n14) hf hA41 rfl rfl Tryd.underlying31 Tryd.sizeOf2 h36 h37) fun a hf => ?_
   refine pi_q hf rfl rfl rfl rfl (Ext.refl _) (e_load1 hf rfl Tryd.isAgg2 (hM.litCell (k := 0) (j := 0) rfl rfl rfl)) fun a hf => ?_
   refine pi_q hf rfl rfl rfl rfl (Ext.refl _) (e_ne hf (x := e25) (y := e34) rfl rfl) fun a hf => ?_
   refine pi_nil ?_
   refine then_n ?_
   rcases cond_some h20 with ⟨hc43, h20⟩ | ⟨hc43, h20⟩
   ·refine cond_t hf rfl hc43 ?_
    refine wp_seq ?_
    refine region_pl ?_
    refine q_ hf rfl rfl rfl (e_assign hf rfl) fun a hf => ?_
    refine pl_nil ?_
    refine then_n ?_
    refine wp_ret ?_
    refine blk_r ?_
    refine then_r ?_
    obtain rfl := some_inj h20
    obtain rfl := hd21 _ rfl
    try dsimp only at h13
    refine then_r ?_
    refine blk_r ?_
    obtain rfl := some_inj h13
    try dsimp only at h
    refine then_r ?_
    obtain rfl := some_inj h
    exact leave1 hf rfl rfl ⟨rfl, hM.fin⟩
   refine cond_f hf rfl hc43 ?_
   refine wp_skip ?_
   refine blk_n ?_
   refine then_n ?_
   refine region_pl ?_
   refine q_ hf rfl rfl rfl (e_move hf rfl) fun a hf => ?_
   obtain ⟨z44, hz45, h20⟩ := bind_some h20
   refine q_ hf rfl rfl rfl (e_add hf rfl rfl hz45) fun a hf => ?_
   refine q_ hf rfl rfl rfl (e_assign hf rfl) fun a hf => ?_
   refine pl_nil ?_
   obtain rfl := some_inj h20
   refine then_n ⟨_, rfl, ?_⟩
   exact ⟨z44, rfl, hf.keep ⟨rfl, rfl, rfl, trivial⟩, hM.pick [2, 3] rfl, (chk_R hz45)⟩
  refine cond_f hf rfl hc23 ?_
  refine wp_exit ?_
  refine then_x ?_
  obtain rfl := some_inj h20
  obtain rfl := hd21 _ rfl
  try dsimp only at h13
  refine then_x ?_
  refine exit_hit ?_
  obtain rfl := some_inj h13
  refine then_n ?_
  exact ⟨rfl, hf.keep trivial, hM.pick [0, 1] rfl⟩
 rintro a w52 ⟨rfl, hf, hM⟩
 try dsimp only at h
 refine wp_seq ?_
 refine region_pl ?_
 refine q_ hf rfl rfl rfl (e_assign hf rfl) fun a hf => ?_
 refine pl_nil ?_
 refine then_n ?_
 refine wp_ret ?_
 obtain rfl := some_inj h
 exact leave1 hf rfl rfl ⟨rfl, hM.fin⟩

set_option maxRecDepth 100000 in
set_option maxHeartbeats 4000000 in
theorem r_laws_eqNode (C : Cx) (a1 : Node) (hp2 : a1.Letters.length ≤ maxLen) (A3 : Option Addr) (c4 : Nat) (hp5 : (sliceRep intRep).R C.w0 C.S0 a1.Next [vL A3 a1.Next c4]) (b6 : Node) (hp7 : b6.Letters.length ≤ maxLen) (A8 : Option Addr) (c9 : Nat) (hp10 : (sliceRep intRep).R C.w0 C.S0 b6.Next [vL A8 b6.Next c9]) (r : Bool) (h : m_laws_eqNode a1 b6 = some r) :
    Calls Tryd.prog 88 #[.agg #[.bool (a1.Final), vS (a1.Letters), vL A3 (a1.Next) c4], .agg #[.bool (b6.Final), vS (b6.Letters), vL A8 (b6.Next) c9]] C.w0 fun e w => e = .returned (.bool (r)) ∧ Mem C w [] [] := by
 have hM := Mem.begin C [.dat (sliceRep intRep) b6.Next [vL A8 b6.Next c9], .dat (sliceRep intRep) a1.Next [vL A3 a1.Next c4]] ⟨hp10, hp5, trivial⟩
 refine enter Tryd.func88 rfl Tryd.ntmps88 rfl fun a hf => ?_
 unfold m_laws_eqNode at h
 refine wp_seq ?_
 refine region_pl ?_
 refine pl_l hf rfl rfl rfl (w_box hf hM (cs := [.bool (a1.Final), vS (a1.Letters), vL A3 (a1.Next) c4]) rfl rfl fun b11 w12 hx13 hM a hf => ?_)
 refine pl_l hf rfl rfl rfl (w_box hf hM (cs := [.bool (b6.Final), vS (b6.Letters), vL A8 (b6.Next) c9]) rfl rfl fun b15 w16 hx17 hM a hf => ?_)
 refine q_ hf rfl rfl rfl (e_assign hf rfl) fun a hf => ?_
 refine pl_nil ?_
 refine then_n ?_
 iterate 2 refine wp_seq ?_
 refine region_pl ?_
 refine q_ hf rfl rfl rfl (e_field hf rfl Tryd.underlying76 rfl Tryd.sizeOf4 (o' := 0) rfl) fun a hf => ?_
 refine q_ hf rfl rfl rfl (e_load1 hf rfl Tryd.isAgg4 (hM.boxCell (k := 1) rfl rfl)) fun a hf => ?_
 refine q_ hf rfl rfl rfl (e_field hf rfl Tryd.underlying76 rfl Tryd.sizeOf4 (o' := 0) rfl) fun a hf => ?_
 refine q_ hf rfl rfl rfl (e_load1 hf rfl Tryd.isAgg4 (hM.boxCell (k := 0) rfl rfl)) fun a hf => ?_
 refine q_ hf rfl rfl rfl (e_neT hf rfl rfl Tryd.underlying4) fun a hf => ?_
 refine pl_nil ?_
 refine then_n ?_
 rcases cond_some h with ⟨hc19, h⟩ | ⟨hc19, h⟩
 ·refine cond_t hf rfl hc19 ?_
  refine wp_seq ?_
  refine region_pl ?_
  refine q_ hf rfl rfl rfl (e_assign hf rfl) fun a hf => ?_
  refine pl_nil ?_
  refine then_n ?_
  refine wp_ret ?_
  refine then_r ?_
  obtain rfl := some_inj h
  have hM := hM.outs (own' := []) 0 rfl
  exact leave1 hf rfl rfl ⟨rfl, hM.fin⟩
 refine cond_f hf rfl hc19 ?_
 refine wp_skip ?_
 refine then_n ?_
 iterate 2 refine wp_seq ?_
 refine region_pl ?_
 refine q_ hf rfl rfl rfl (e_field hf rfl Tryd.underlying76 rfl Tryd.sizeOf9 (o' := 1) rfl) fun a hf => ?_
 refine q_ hf rfl rfl rfl (e_load1 hf rfl Tryd.isAgg9 (hM.boxCell (k := 1) rfl rfl)) fun a hf => ?_
 refine q_ hf rfl rfl rfl (e_field hf rfl Tryd.underlying76 rfl Tryd.sizeOf9 (o' := 1) rfl) fun a hf => ?_
 refine q_ hf rfl rfl rfl (e_load1 hf rfl Tryd.isAgg9 (hM.boxCell (k := 0) rfl rfl)) fun a hf => ?_
 refine q_ hf rfl rfl rfl (e_neS hf (x := a1.Letters) (y := b6.Letters) rfl rfl) fun a hf => ?_
 refine pl_nil ?_
 refine then_n ?_
 rcases cond_some h with ⟨hc20, h⟩ | ⟨hc20, h⟩
 ·refine cond_t hf rfl hc20 ?_
  refine wp_seq ?_
  refine region_pl ?_
  refine q_ hf rfl rfl rfl (e_assign hf rfl) fun a hf => ?_
  refine pl_nil ?_
  refine then_n ?_
  refine wp_ret ?_
  refine then_r ?_
  obtain rfl := some_inj h
  have hM := hM.outs (own' := []) 0 rfl
  exact leave1 hf rfl rfl ⟨rfl, hM.fin⟩
 refine cond_f hf rfl hc20 ?_
 refine wp_skip ?_
 refine then_n ?_
 iterate 2 refine wp_seq ?_
 refine region_pl ?_
 refine q_ hf rfl rfl rfl (e_field hf rfl Tryd.underlying76 rfl Tryd.sizeOf31 (o' := 2) rfl) fun a hf => ?_
 refine q_ hf rfl rfl rfl (e_load1 hf rfl Tryd.isAgg31 (hM.boxCell (k := 1) rfl rfl)) fun a hf => ?_
 refine q_ hf rfl rfl rfl (e_field hf rfl Tryd.underlying76 rfl Tryd.sizeOf31 (o' := 2) rfl) fun a hf => ?_
 refine q_ hf rfl rfl rfl (e_load1 hf rfl Tryd.isAgg31 (hM.boxCell (k := 0) rfl rfl)) fun a hf => ?_
 obtain ⟨y21, hz22, h⟩ := bind_some h
 refine pl_l hf rfl rfl rfl (w_call hf Tryd.call31 rfl (r_laws_eqInt64S ⟨_, Sh C _ _, none_, hM.sh_lt, none_not, C.G, hM.g_lt, g_none, hM.tabs⟩ a1.Next _ _ (hM.dat (k := 1) rfl) b6.Next _ _ (hM.dat (k := 0) rfl) _ hz22) ?_)
 rintro _ w23 ⟨rfl, hM2⟩
 obtain ⟨hM, hx24, hup25⟩ := hM.back hM2
 dsimp only [List.cons_append, List.nil_append] at hM hup25
 clear hM2
 refine ⟨_, rfl, fun a hf => ?_⟩
 refine q_ hf rfl rfl rfl (e_not hf rfl) fun a hf => ?_
 refine pl_nil ?_
 refine then_n ?_
 rcases cond_some h with ⟨hc26, h⟩ | ⟨hc26, h⟩
 ·refine cond_t hf rfl hc26 ?_
  refine wp_seq ?_
  refine region_pl ?_
  refine q_ hf rfl rfl rfl (e_assign hf rfl) fun a hf => ?_
  refine pl_nil ?_
  refine then_n ?_
  refine wp_ret ?_
  refine then_r ?_
  obtain rfl := some_inj h
  have hM := hM.outs (own' := []) 0 rfl
  exact leave1 hf rfl rfl ⟨rfl, hM.fin⟩
 refine cond_f hf rfl hc26 ?_
 refine wp_skip ?_
 refine then_n ?_
 refine wp_seq ?_
 refine region_pl ?_
 refine q_ hf rfl rfl rfl (e_assign hf rfl) fun a hf => ?_
 refine pl_nil ?_
 refine then_n ?_
 refine wp_ret ?_
 obtain rfl := some_inj h
 have hM := hM.outs (own' := []) 0 rfl
 exact leave1 hf rfl rfl ⟨rfl, hM.fin⟩

set_option maxRecDepth 100000 in
set_option maxHeartbeats 4000000 in
theorem r_laws_eqNodeS (C : Cx) (a1 : (List Node)) (A2 : Option Addr) (c3 : Nat) (hp4 : (sliceRep NodeRep).R C.w0 C.S0 a1 [vL A2 a1 c3]) (b5 : (List Node)) (A6 : Option Addr) (c7 : Nat) (hp8 : (sliceRep NodeRep).R C.w0 C.S0 b5 [vL A6 b5 c7]) (r : Bool) (h : m_laws_eqNodeS a1 b5 = some r) :
    Calls Tryd.prog 60 #[vL A2 (a1) c3, vL A6 (b5) c7] C.w0 fun e w => e = .returned (.bool (r)) ∧ Mem C w [] [] := by
 have hM := Mem.begin C [.dat (sliceRep NodeRep) b5 [vL A6 b5 c7], .dat (sliceRep NodeRep) a1 [vL A2 a1 c3]] ⟨hp8, hp4, trivial⟩
 refine enter Tryd.func60 rfl Tryd.ntmps60 rfl fun a hf => ?_
 unfold m_laws_eqNodeS at h
 refine wp_seq ?_
 refine region_pl ?_
 refine q_ hf rfl rfl rfl (e_assign hf rfl) fun a hf => ?_
 refine pl_nil ?_
 refine then_n ?_
 iterate 2 refine wp_seq ?_
 refine region_pl ?_
 refine q_ hf rfl rfl rfl (e_move hf rfl) fun a hf => ?_
 have hl9 := slice_len (hM.dat (k := 1) rfl)
 refine q_ hf rfl rfl rfl (e_lenL hf (x := a1) rfl Tryd.underlying24) fun a hf => ?_
 refine q_ hf rfl rfl rfl (e_move hf rfl) fun a hf => ?_
 have hl10 := slice_len (hM.dat (k := 0) rfl)
 refine q_ hf rfl rfl rfl (e_lenL hf (x := b5) rfl Tryd.underlying24) fun a hf => ?_
 refine q_ hf rfl rfl rfl (e_ne hf (x := (a1.length : Int)) (y := (b5.length : Int)) rfl rfl) fun a hf => ?_
 refine pl_nil ?_
 refine then_n ?_
 rcases cond_some h with ⟨hc11, h⟩ | ⟨hc11, h⟩
 ·refine cond_t hf rfl hc11 ?_
  refine wp_seq ?_
  refine region_pl ?_
  refine q_ hf rfl rfl rfl (e_assign hf rfl) fun a hf => ?_
  refine pl_nil ?_
  refine then_n ?_
  refine wp_ret ?_
  refine then_r ?_
  obtain rfl := some_inj h
  exact leave1 hf rfl rfl ⟨rfl, hM.fin⟩
 refine cond_f hf rfl hc11 ?_
 refine wp_skip ?_
 refine then_n ?_
 obtain ⟨x12, h13, h⟩ := bind_some h
 refine seq_join (fun a w => (.inl ()) = x12 ∧ Has 27 a [] ∧ Mem C w [] [.dat (sliceRep NodeRep) b5 [vL A6 b5 c7], .dat (sliceRep NodeRep) a1 [vL A2 a1 c3]]) ?_ ?_
 ·refine wp_seq ?_
  refine region_pl ?_
  refine q_ hf rfl rfl rfl (e_assign hf rfl) fun a hf => ?_
  refine pl_nil ?_
  refine then_n ?_
  refine wp_block ?_
  obtain ⟨x17, h18, h13⟩ := bind_some h13
  refine wp_loopM h18 (fun s a w => ∃ (n14 : Int), n14 = s ∧ Has 27 a [(0, vL A2 (a1) c3), (1, vL A6 (b5) c7), (5, vI (n14))] ∧ Mem C w [] [.dat (sliceRep NodeRep) b5 [vL A6 b5 c7], .dat (sliceRep NodeRep) a1 [vL A2 a1 c3]] ∧ R64 n14) ?_ ?_
  ·exact ⟨0, rfl, hf.keep ⟨rfl, rfl, rfl, trivial⟩, hM.pick [0, 1] rfl, (R64_lit rfl)⟩
  rintro s o19 a w16 ⟨n14, rfl, hf, hM, hv15⟩ h20 hd21
  replace h20 : m_laws_eqNodeS_l1 a1 b5 n14 = some o19 := h20
  unfold m_laws_eqNodeS_l1 at h20
  iterate 2 refine wp_seq ?_
  refine region_pl ?_
  iterate 2 refine q_ hf rfl rfl rfl (e_move hf rfl) fun a hf => ?_
  have hl22 := slice_len (hM.dat (k := 1) rfl)
  refine q_ hf rfl rfl rfl (e_lenL hf (x := a1) rfl Tryd.underlying24) fun a hf => ?_
  refine q_ hf rfl rfl rfl (e_lt hf (x := n14) (y := (a1.length : Int)) rfl rfl) fun a hf => ?_
  refine pl_nil ?_
  refine then_n ?_
  rcases cond_some h20 with ⟨hc23, h20⟩ | ⟨hc23, h20⟩
  ·refine cond_t hf rfl hc23 ?_
   refine wp_skip ?_
   refine then_n ?_
   refine wp_seq ?_
   refine wp_block ?_
   refine wp_seq ?_
   obtain ⟨w24, hw⟩ : ∃ x, x = w16.drew := ⟨_, rfl⟩
   refine region_pi (.q 0 (.q 1 (.q 2 (.q 3 (.q 4 (.q 5 (.q 6 (.q 7 (.l 8 (.q 9 (.nil))))))))))) (Ext w24) rfl (by kernel_rfl) ?_
   have hM := hM.drew
   rw [← hw] at hM ⊢
   clear hw
   iterate 2 refine pi_q hf rfl rfl rfl rfl (Ext.refl _) (e_move hf rfl) fun a hf => ?_
   obtain ⟨e25, hz26, h20⟩ := bind_some h20
   obtain ⟨b30, o31, _, hA32, h27, h28, hr29, hM⟩ := hM.elem (hM.dat (k := 1) rfl) (n := 3) rfl hz26
   obtain ⟨A34, c35, rfl, hv33, hv36⟩ := NodeRep_open hr29
   have hM := hM.add (y := .dat (sliceRep intRep) e25.Next [vL A34 e25.Next c35]) hv36
   refine pi_q hf rfl rfl rfl rfl (Ext.refl _) (e_indexAddr (A := A2) (b := b30) (o := o31) (xs := a1) (i := n14) hf hA32 rfl rfl Tryd.underlying24 Tryd.sizeOf76 h27 h28) fun a hf => ?_
   refine pi_q hf rfl rfl rfl rfl (Ext.refl _) (e_loadA hf (us := [.bool (e25.Final), vS (e25.Letters), vL A34 (e25.Next) c35]) rfl ⟨Tryd.isAgg76, Tryd.sizeOf76⟩ rfl (hM.litSub (k := 1) (d := 0) (us := [.bool (e25.Final), vS (e25.Letters), vL A34 (e25.Next) c35]) rfl rfl rfl)) fun a hf => ?_
   iterate 2 refine pi_q hf rfl rfl rfl rfl (Ext.refl _) (e_move hf rfl) fun a hf => ?_
   obtain ⟨e37, hz38, h20⟩ := bind_some h20
   obtain ⟨b42, o43, _, hA44, h39, h40, hr41, hM⟩ := hM.elem (hM.dat (k := 2) rfl) (n := 3) rfl hz38
   obtain ⟨A46, c47, rfl, hv45, hv48⟩ := NodeRep_open hr41
   have hM := hM.add (y := .dat (sliceRep intRep) e37.Next [vL A46 e37.Next c47]) hv48
   refine pi_q hf rfl rfl rfl rfl (Ext.refl _) (e_indexAddr (A := A6) (b := b42) (o := o43) (xs := b5) (i := n14) hf hA44 rfl rfl Tryd.underlying24 Tryd.sizeOf76 h39 h40) fun a hf => ?_
   refine pi_q hf rfl rfl rfl rfl (Ext.refl _) (e_loadA hf (us := [.bool (e37.Final), vS (e37.Letters), vL A46 (e37.Next) c47]) rfl ⟨Tryd.isAgg76, Tryd.sizeOf76⟩ rfl (hM.litSub (k := 1) (d := 0) (us := [.bool (e37.Final), vS (e37.Letters), vL A46 (e37.Next) c47]) rfl rfl rfl)) fun a hf => ?_
   refine pi_one ?_
   obtain ⟨y49, hz50, h20⟩ := bind_some h20
   refine pi_l hf rfl rfl rfl rfl (w_call hf Tryd.call88 rfl (r_laws_eqNode ⟨_, Sh C _ _, none_, hM.sh_lt, none_not, C.G, hM.g_lt, g_none, hM.tabs⟩ e25 hv33 _ _ (hM.dat (k := 2) rfl) e37 hv45 _ _ (hM.dat (k := 0) rfl) _ hz50) ?_)
   rintro _ w51 ⟨rfl, hM2⟩
   obtain ⟨hM, hx52, hup53⟩ := hM.back hM2
   dsimp only [List.cons_append, List.nil_append] at hM hup53
   clear hM2
   refine ⟨_, rfl, Ext w51, fun _ h => Ext.trans hx52 h, Ext.refl _, fun a hf => ?_⟩
   refine pi_q hf rfl rfl rfl rfl (Ext.refl _) (e_not hf rfl) fun a hf => ?_
   refine pi_nil ?_
   refine then_n ?_
   rcases cond_some h20 with ⟨hc54, h20⟩ | ⟨hc54, h20⟩
   ·refine cond_t hf rfl hc54 ?_
    refine wp_seq ?_
    refine region_pl ?_
    refine q_ hf rfl rfl rfl (e_assign hf rfl) fun a hf => ?_
    refine pl_nil ?_
    refine then_n ?_
    refine wp_ret ?_
    refine blk_r ?_
    refine then_r ?_
    obtain rfl := some_inj h20
    obtain rfl := hd21 _ rfl
    try dsimp only at h13
    refine then_r ?_
    refine blk_r ?_
    obtain rfl := some_inj h13
    try dsimp only at h
    refine then_r ?_
    obtain rfl := some_inj h
    exact leave1 hf rfl rfl ⟨rfl, hM.fin⟩
   refine cond_f hf rfl hc54 ?_
   refine wp_skip ?_
   refine blk_n ?_
   refine then_n ?_
   refine region_pl ?_
   refine q_ hf rfl rfl rfl (e_move hf rfl) fun a hf => ?_
   obtain ⟨z55, hz56, h20⟩ := bind_some h20
   refine q_ hf rfl rfl rfl (e_add hf rfl rfl hz56) fun a hf => ?_
   refine q_ hf rfl rfl rfl (e_assign hf rfl) fun a hf => ?_
   refine pl_nil ?_
   obtain rfl := some_inj h20
   refine then_n ⟨_, rfl, ?_⟩
   exact ⟨z55, rfl, hf.keep ⟨rfl, rfl, rfl, trivial⟩, hM.pick [4, 5] rfl, (chk_R hz56)⟩
  refine cond_f hf rfl hc23 ?_
  refine wp_exit ?_
  refine then_x ?_
  obtain rfl := some_inj h20
  obtain rfl := hd21 _ rfl
  try dsimp only at h13
  refine then_x ?_
  refine exit_hit ?_
  obtain rfl := some_inj h13
  refine then_n ?_
  exact ⟨rfl, hf.keep trivial, hM.pick [0, 1] rfl⟩
 rintro a w63 ⟨rfl, hf, hM⟩
 try dsimp only at h
 refine wp_seq ?_
 refine region_pl ?_
 refine q_ hf rfl rfl rfl (e_assign hf rfl) fun a hf => ?_
 refine pl_nil ?_
 refine then_n ?_
 refine wp_ret ?_
 obtain rfl := some_inj h
 exact leave1 hf rfl rfl ⟨rfl, hM.fin⟩

set_option maxRecDepth 100000 in
set_option maxHeartbeats 4000000 in
theorem r_laws_eqDawg (C : Cx) (a1 : Dawg) (A2 : Option Addr) (c3 : Nat) (hp4 : (sliceRep NodeRep).R C.w0 C.S0 a1.Nodes [vL A2 a1.Nodes c3]) (b5 : Dawg) (A6 : Option Addr) (c7 : Nat) (hp8 : (sliceRep NodeRep).R C.w0 C.S0 b5.Nodes [vL A6 b5.Nodes c7]) (r : Bool) (h : m_laws_eqDawg a1 b5 = some r) :
    Calls Tryd.prog 27 #[.agg #[vL A2 (a1.Nodes) c3], .agg #[vL A6 (b5.Nodes) c7]] C.w0 fun e w => e = .returned (.bool (r)) ∧ Mem C w [] [] := by
 have hM := Mem.begin C [.dat (sliceRep NodeRep) b5.Nodes [vL A6 b5.Nodes c7], .dat (sliceRep NodeRep) a1.Nodes [vL A2 a1.Nodes c3]] ⟨hp8, hp4, trivial⟩
 refine enter Tryd.func27 rfl Tryd.ntmps27 rfl fun a hf => ?_
 unfold m_laws_eqDawg at h
 refine wp_seq ?_
 refine region_pl ?_
 refine pl_l hf rfl rfl rfl (w_box hf hM (cs := [vL A2 (a1.Nodes) c3]) rfl rfl fun b9 w10 hx11 hM a hf => ?_)
 refine pl_l hf rfl rfl rfl (w_box hf hM (cs := [vL A6 (b5.Nodes) c7]) rfl rfl fun b13 w14 hx15 hM a hf => ?_)
 refine q_ hf rfl rfl rfl (e_assign hf rfl) fun a hf => ?_
 refine pl_nil ?_
 refine then_n ?_
 iterate 2 refine wp_seq ?_
 refine region_pl ?_
 refine q_ hf rfl rfl rfl (e_field hf rfl Tryd.underlying26 rfl Tryd.sizeOf24 (o' := 0) rfl) fun a hf => ?_
 refine q_ hf rfl rfl rfl (e_load1 hf rfl Tryd.isAgg24 (hM.boxCell (k := 1) rfl rfl)) fun a hf => ?_
 refine q_ hf rfl rfl rfl (e_field hf rfl Tryd.underlying26 rfl Tryd.sizeOf24 (o' := 0) rfl) fun a hf => ?_
 refine q_ hf rfl rfl rfl (e_load1 hf rfl Tryd.isAgg24 (hM.boxCell (k := 0) rfl rfl)) fun a hf => ?_
 obtain ⟨y17, hz18, h⟩ := bind_some h
 refine pl_l hf rfl rfl rfl (w_call hf Tryd.call60 rfl (r_laws_eqNodeS ⟨_, Sh C _ _, none_, hM.sh_lt, none_not, C.G, hM.g_lt, g_none, hM.tabs⟩ a1.Nodes _ _ (hM.dat (k := 1) rfl) b5.Nodes _ _ (hM.dat (k := 0) rfl) _ hz18) ?_)
 rintro _ w19 ⟨rfl, hM2⟩
 obtain ⟨hM, hx20, hup21⟩ := hM.back hM2
 dsimp only [List.cons_append, List.nil_append] at hM hup21
 clear hM2
 refine ⟨_, rfl, fun a hf => ?_⟩
 refine q_ hf rfl rfl rfl (e_not hf rfl) fun a hf => ?_
 refine pl_nil ?_
 refine then_n ?_
 rcases cond_some h with ⟨hc22, h⟩ | ⟨hc22, h⟩
 ·refine cond_t hf rfl hc22 ?_
  refine wp_seq ?_
  refine region_pl ?_
  refine q_ hf rfl rfl rfl (e_assign hf rfl) fun a hf => ?_
  refine pl_nil ?_
  refine then_n ?_
  refine wp_ret ?_
  refine then_r ?_
  obtain rfl := some_inj h
  have hM := hM.outs (own' := []) 0 rfl
  exact leave1 hf rfl rfl ⟨rfl, hM.fin⟩
 refine cond_f hf rfl hc22 ?_
 refine wp_skip ?_
 refine then_n ?_
 refine wp_seq ?_
 refine region_pl ?_
 refine q_ hf rfl rfl rfl (e_assign hf rfl) fun a hf => ?_
 refine pl_nil ?_
 refine then_n ?_
 refine wp_ret ?_
 obtain rfl := some_inj h
 have hM := hM.outs (own' := []) 0 rfl
 exact leave1 hf rfl rfl ⟨rfl, hM.fin⟩

set_option maxRecDepth 100000 in
set_option maxHeartbeats 4000000 in
theorem r_laws_markText (C : Cx) (k1 : Int) (hp2 : R64 k1) (r : Str) (h : m_laws_markText k1 = some r) :
    Calls Tryd.prog 92 #[vI (k1)] C.w0 fun e w => e = .returned (vS (r)) ∧ Mem C w [] [] ∧ r.length ≤ maxLen := by
 have hM := Mem.begin C [] trivial
 refine enter Tryd.func92 rfl Tryd.ntmps92 rfl fun a hf => ?_
 unfold m_laws_markText at h
 refine wp_seq ?_
 refine region_pl ?_
 refine q_ hf rfl rfl rfl (e_assign hf rfl) fun a hf => ?_
 refine pl_nil ?_
 refine then_n ?_
 iterate 2 refine wp_seq ?_
 refine region_pl ?_
 refine q_ hf rfl rfl rfl (e_move hf rfl) fun a hf => ?_
 refine q_ hf rfl rfl rfl (e_le hf (x := k1) (y := 0) rfl rfl) fun a hf => ?_
 refine pl_nil ?_
 refine then_n ?_
 rcases cond_some h with ⟨hc3, h⟩ | ⟨hc3, h⟩
 ·refine cond_t hf rfl hc3 ?_
  refine wp_seq ?_
  refine region_pl ?_
  refine q_ hf rfl rfl rfl (e_assign hf rfl) fun a hf => ?_
  refine pl_nil ?_
  refine then_n ?_
  refine wp_ret ?_
  refine then_r ?_
  obtain rfl := some_inj h
  exact leave1 hf rfl rfl ⟨rfl, hM.fin, (lit_len rfl)⟩
 refine cond_f hf rfl hc3 ?_
 refine wp_skip ?_
 refine then_n ?_
 refine wp_seq ?_
 refine region_pl ?_
 refine q_ hf rfl rfl rfl (e_assign hf rfl) fun a hf => ?_
 refine pl_nil ?_
 refine then_n ?_
 obtain ⟨x6, h7, h⟩ := bind_some h
 refine seq_join (fun a w => ∃ (s4 : Str), s4 = x6 ∧ Has 20 a [(3, vS (s4))] ∧ Mem C w [] [] ∧ s4.length ≤ maxLen) ?_ ?_
 ·refine wp_block ?_
  obtain ⟨x15, h16, h7⟩ := bind_some h7
  refine wp_loopM h16 (fun s a w => ∃ (k8 : Int) (s10 : Str), (k8, s10) = s ∧ Has 20 a [(0, vI (k8)), (3, vS (s10))] ∧ Mem C w [] [] ∧ R64 k8 ∧ s10.length ≤ maxLen) ?_ ?_
  ·exact ⟨k1, ([] : Str), rfl, hf.keep ⟨rfl, rfl, trivial⟩, hM.pick [] rfl, hp2, (lit_len rfl)⟩
  rintro s o17 a w12 ⟨k8, s10, rfl, hf, hM, hv9, hv11⟩ h18 hd19
  replace h18 : m_laws_markText_l1 k8 s10 = some o17 := h18
  unfold m_laws_markText_l1 at h18
  iterate 2 refine wp_seq ?_
  refine region_pl ?_
  refine q_ hf rfl rfl rfl (e_move hf rfl) fun a hf => ?_
  refine q_ hf rfl rfl rfl (e_gt hf (x := k8) (y := 0) rfl rfl) fun a hf => ?_
  refine pl_nil ?_
  refine then_n ?_
  rcases cond_some h18 with ⟨hc20, h18⟩ | ⟨hc20, h18⟩
  ·refine cond_t hf rfl hc20 ?_
   refine wp_skip ?_
   refine then_n ?_
   refine wp_block ?_
   refine wp_seq ?_
   refine region_pl ?_
   refine q_ hf rfl rfl rfl (e_move hf rfl) fun a hf => ?_
   obtain ⟨z21, hz22, h18⟩ := bind_some h18
   refine q_ hf rfl rfl rfl (e_rem hf rfl rfl hz22) fun a hf => ?_
   obtain ⟨z23, hz24, h18⟩ := bind_some h18
   refine q_ hf rfl rfl rfl (e_add hf rfl rfl hz24) fun a hf => ?_
   refine q_ hf rfl rfl rfl (e_convIB hf rfl Tryd.underlying3 Tryd.underlying5) fun a hf => ?_
   refine pl_l hf rfl rfl rfl (w_slice hf hM (K := byteRep) (xs := ([UInt8.ofNat (z23 % 256).toNat] : Str)) (os := [.tmp 11]) Tryd.underlying22 ei_5 rfl rfl rfl rfl rfl ⟨⟨[vB (UInt8.ofNat (z23 % 256).toNat)], rfl, rfl⟩, trivial⟩ rfl fun b25 w26 hx27 hM a hf => ?_)
   have hl28 := row_len (hM.ownAt (k := 0) rfl)
   refine q_ hf rfl rfl rfl (e_bytesStr hf (xs := ([UInt8.ofNat (z23 % 256).toNat] : Str)) rfl Tryd.underlying22 Tryd.underlying5 Tryd.underlying9 (hM.lendRow (k := 0) rfl)) fun a hf => ?_
   refine q_ hf rfl rfl rfl (e_move hf rfl) fun a hf => ?_
   obtain ⟨s29, hz30, h18⟩ := bind_some h18
   refine q_ hf rfl rfl rfl (e_cat hf (x := ([UInt8.ofNat (z23 % 256).toNat] : Str)) (y := s10) rfl rfl hz30) fun a hf => ?_
   refine q_ hf rfl rfl rfl (e_assign hf rfl) fun a hf => ?_
   refine pl_nil ?_
   refine then_n ?_
   refine region_pl ?_
   refine q_ hf rfl rfl rfl (e_move hf rfl) fun a hf => ?_
   obtain ⟨z31, hz32, h18⟩ := bind_some h18
   refine q_ hf rfl rfl rfl (e_quo hf rfl rfl hz32) fun a hf => ?_
   refine q_ hf rfl rfl rfl (e_assign hf rfl) fun a hf => ?_
   refine pl_nil ?_
   refine blk_n ?_
   obtain rfl := some_inj h18
   refine then_n ⟨_, rfl, ?_⟩
   exact ⟨z31, s29, rfl, hf.keep ⟨rfl, rfl, trivial⟩, (hM.drop (.cons _ .slnil)).pick [] rfl, (quoI_R hz32), (cat_len hz30)⟩
  refine cond_f hf rfl hc20 ?_
  refine wp_exit ?_
  refine then_x ?_
  obtain rfl := some_inj h18
  obtain rfl := hd19 _ rfl
  try dsimp only at h7
  refine then_x ?_
  refine exit_hit ?_
  obtain rfl := some_inj h7
  refine then_n ?_
  exact ⟨s10, rfl, hf.keep ⟨rfl, trivial⟩, hM.pick [] rfl, hv11⟩
 rintro a w38 ⟨s4, rfl, hf, hM, hv5⟩
 try dsimp only at h
 refine wp_seq ?_
 refine region_pl ?_
 refine q_ hf rfl rfl rfl (e_move hf rfl) fun a hf => ?_
 obtain ⟨s39, hz40, h⟩ := bind_some h
 refine q_ hf rfl rfl rfl (e_cat hf (x := ([109] : Str)) (y := s4) rfl rfl hz40) fun a hf => ?_
 refine q_ hf rfl rfl rfl (e_assign hf rfl) fun a hf => ?_
 refine pl_nil ?_
 refine then_n ?_
 refine wp_ret ?_
 obtain rfl := some_inj h
 exact leave1 hf rfl rfl ⟨rfl, hM.fin, (cat_len hz40)⟩

set_option maxRecDepth 100000 in
set_option maxHeartbeats 4000000 in
theorem r_laws_markInt64S (C : Cx) (a1 : (List Int)) (A2 : Option Addr) (c3 : Nat) (k4 : Int) (hp5 : R64 k4) (hO : Mem C C.w0 [.row intRep A2 c3 2 a1 true] []) (hd : ∀ b, C.S0 b → ¬ ownB [.row intRep A2 c3 2 a1 true] b) (r : (Int × (List Int))) (h : m_laws_markInt64S a1 k4 = some r) :
    Calls Tryd.prog 33 #[vL A2 (a1) c3, vI (k4)] C.w0 fun e w => e = .returned (vI (r.1)) ∧ Mem C w [.row intRep A2 c3 2 r.2 true] [] ∧ r.2.length = a1.length ∧ R64 r.1 := by
 have hM := hO
 refine enter Tryd.func33 rfl Tryd.ntmps33 rfl fun a hf => ?_
 unfold m_laws_markInt64S at h
 refine wp_seq ?_
 refine region_pl ?_
 refine q_ hf rfl rfl rfl (e_assign hf rfl) fun a hf => ?_
 refine pl_nil ?_
 refine then_n ?_
 obtain ⟨x10, h11, h⟩ := bind_some h
 refine seq_join (fun a w => ∃ (xs6 : (List Int)) (k8 : Int), (xs6, k8) = x10 ∧ Has 19 a [(1, vI (k8))] ∧ Mem C w [.row intRep A2 c3 2 xs6 true] [] ∧ xs6.length = a1.length ∧ R64 k8) ?_ ?_
 ·refine wp_seq ?_
  refine region_pl ?_
  refine q_ hf rfl rfl rfl (e_assign hf rfl) fun a hf => ?_
  refine pl_nil ?_
  refine then_n ?_
  refine wp_block ?_
  obtain ⟨x23, h24, h11⟩ := bind_some h11
  refine wp_loopM h24 (fun s a w => ∃ (xs12 : (List Int)) (k14 : Int) (n16 : Int), (xs12, k14, n16) = s ∧ Has 19 a [(0, vL A2 (xs12) c3), (1, vI (k14)), (5, vI (n16))] ∧ Mem C w [.row intRep A2 c3 2 xs12 true] [] ∧ xs12.length = a1.length ∧ R64 k14 ∧ R64 n16) ?_ ?_
  ·exact ⟨a1, k4, 0, rfl, hf.keep ⟨rfl, rfl, rfl, trivial⟩, hM.pick [] rfl, rfl, hp5, (R64_lit rfl)⟩
  rintro s o25 a w18 ⟨xs12, k14, n16, rfl, hf, hM, hl13, hv15, hv17⟩ h26 hd27
  replace h26 : m_laws_markInt64S_l1 xs12 k14 n16 = some o25 := h26
  unfold m_laws_markInt64S_l1 at h26
  iterate 2 refine wp_seq ?_
  refine region_pl ?_
  iterate 2 refine q_ hf rfl rfl rfl (e_move hf rfl) fun a hf => ?_
  have hl28 := row_len (hM.ownAt (k := 0) rfl)
  refine q_ hf rfl rfl rfl (e_lenL hf (x := xs12) rfl Tryd.underlying31) fun a hf => ?_
  refine q_ hf rfl rfl rfl (e_lt hf (x := n16) (y := (xs12.length : Int)) rfl rfl) fun a hf => ?_
  refine pl_nil ?_
  refine then_n ?_
  rcases cond_some h26 with ⟨hc29, h26⟩ | ⟨hc29, h26⟩
  ·refine cond_t hf rfl hc29 ?_
   refine wp_skip ?_
   refine then_n ?_
   refine wp_seq ?_
   refine wp_block ?_
   refine wp_seq ?_
   refine region_pl ?_
   iterate 3 refine q_ hf rfl rfl rfl (e_move hf rfl) fun a hf => ?_
   obtain ⟨e30, hz31, h26⟩ := bind_some h26
   obtain ⟨b36, _, hA37, h32, h33, hr34, hcell35⟩ := hM.rowElemN (k := 0) rfl (n := 1) rfl hz31
   obtain ⟨rfl, hv38⟩ := hr34
   refine q_ hf rfl rfl rfl (e_indexAddr (A := A2) (b := b36) (o := 0) (xs := xs12) (i := n16) hf hA37 rfl rfl Tryd.underlying31 Tryd.sizeOf2 h32 h33) fun a hf => ?_
   obtain ⟨xs40, hz41, h26⟩ := bind_some h26
   refine pl_0 hf rfl rfl (w_storeElem hf hM (x := k14) (row := [vI (k14)]) (i := n16) rfl rfl rfl hA37 (k := 0) rfl rfl Tryd.sizeOf2 ⟨rfl, hv15⟩ hz41 fun w39 hM => ?_)
   dsimp only [List.set] at hM
   have hf := hf.alter (d := 0) (v := vL A2 (xs40) c3) rfl (vL_len (setL_len hz41))
   have hf := hf.alter (d := 7) (v := vL A2 (xs40) c3) rfl (vL_len (setL_len hz41))
   have hf := hf.alter (d := 12) (v := vL A2 (xs40) c3) rfl (vL_len (setL_len hz41))
   refine pl_nil ?_
   refine then_n ?_
   refine region_pl ?_
   refine q_ hf rfl rfl rfl (e_move hf rfl) fun a hf => ?_
   obtain ⟨z42, hz43, h26⟩ := bind_some h26
   refine q_ hf rfl rfl rfl (e_add hf rfl rfl hz43) fun a hf => ?_
   refine q_ hf rfl rfl rfl (e_assign hf rfl) fun a hf => ?_
   refine pl_nil ?_
   refine blk_n ?_
   refine then_n ?_
   refine region_pl ?_
   refine q_ hf rfl rfl rfl (e_move hf rfl) fun a hf => ?_
   obtain ⟨z44, hz45, h26⟩ := bind_some h26
   refine q_ hf rfl rfl rfl (e_add hf rfl rfl hz45) fun a hf => ?_
   refine q_ hf rfl rfl rfl (e_assign hf rfl) fun a hf => ?_
   refine pl_nil ?_
   obtain rfl := some_inj h26
   refine then_n ⟨_, rfl, ?_⟩
   exact ⟨xs40, z42, z44, rfl, hf.keep ⟨rfl, rfl, rfl, trivial⟩, hM.pick [] rfl, ((setL_len hz41).trans hl13), (chk_R hz43), (chk_R hz45)⟩
  refine cond_f hf rfl hc29 ?_
  refine wp_exit ?_
  refine then_x ?_
  obtain rfl := some_inj h26
  obtain rfl := hd27 _ rfl
  try dsimp only at h11
  refine then_x ?_
  refine exit_hit ?_
  obtain rfl := some_inj h11
  refine then_n ?_
  exact ⟨xs12, k14, rfl, hf.keep ⟨rfl, trivial⟩, hM.pick [] rfl, hl13, hv15⟩
 rintro a w51 ⟨xs6, k8, rfl, hf, hM, hl7, hv9⟩
 try dsimp only at h
 refine wp_seq ?_
 refine region_pl ?_
 refine q_ hf rfl rfl rfl (e_move hf rfl) fun a hf => ?_
 refine q_ hf rfl rfl rfl (e_assign hf rfl) fun a hf => ?_
 refine pl_nil ?_
 refine then_n ?_
 refine wp_ret ?_
 obtain rfl := some_inj h
 exact leave1 hf rfl rfl ⟨rfl, hM.fin, hl7, hv9⟩

set_option maxRecDepth 100000 in
set_option maxHeartbeats 4000000 in
theorem r_laws_markNodeS (C : Cx) (a1 : (List Node)) (A2 : Option Addr) (c3 : Nat) (ws0 : List NodeW) (hw0 : ws0.map NodeW.to = a1) (k4 : Int) (hp5 : R64 k4) (hO : Mem C C.w0 ((nestW A2 c3 76 2 ws0)) []) (hd : ∀ b, C.S0 b → ¬ ownB ((nestW A2 c3 76 2 ws0)) b) (r : (Int × (List Node))) (h : m_laws_markNodeS a1 k4 = some r) :
    Calls Tryd.prog 64 #[vL A2 (a1) c3, vI (k4)] C.w0 fun e w => ∃ (ws_1 : List NodeW), e = .returned (vI (r.1)) ∧ Mem C w ((nestW A2 c3 76 2 ws_1)) [] ∧ ws_1.map NodeW.to = r.2 ∧ r.2.length = a1.length ∧ R64 r.1 := by
 have hM : Mem C C.w0 (.row NodeWRep A2 c3 76 ws0 true :: nestO 2 ws0) [] := hO
 refine enter Tryd.func64 rfl Tryd.ntmps64 rfl fun a hf => ?_
 unfold m_laws_markNodeS at h
 refine wp_seq ?_
 refine region_pl ?_
 refine q_ hf rfl rfl rfl (e_assign hf rfl) fun a hf => ?_
 refine pl_nil ?_
 refine then_n ?_
 obtain ⟨x10, h11, h⟩ := bind_some h
 refine seq_join (fun a w => ∃ (xs6 : (List Node)) (ws : List NodeW) (k8 : Int), (xs6, k8) = x10 ∧ ws.map NodeW.to = xs6 ∧ Has 37 a [(1, vI (k8))] ∧ Mem C w (.row NodeWRep A2 c3 76 ws true :: nestO 2 ws) [] ∧ xs6.length = a1.length ∧ R64 k8) ?_ ?_
 ·refine wp_seq ?_
  refine region_pl ?_
  refine q_ hf rfl rfl rfl (e_assign hf rfl) fun a hf => ?_
  refine pl_nil ?_
  refine then_n ?_
  refine wp_block ?_
  refine wp_loopM h11 (fun s a w => ∃ (xs12 : (List Node)) (ws : List NodeW) (k14 : Int) (n16 : Int), (xs12, k14, n16) = s ∧ ws.map NodeW.to = xs12 ∧ Has 37 a [(0, vL A2 (xs12) c3), (1, vI (k14)), (5, vI (n16))] ∧ Mem C w (.row NodeWRep A2 c3 76 ws true :: nestO 2 ws) [] ∧ xs12.length = a1.length ∧ R64 k14 ∧ R64 n16) ?_ ?_
  ·exact ⟨a1, ws0, k4, 0, rfl, hw0, hf.keep ⟨rfl, rfl, rfl, trivial⟩, hM.pick [] rfl, rfl, hp5, (R64_lit rfl)⟩
  rintro s o25 a w18 ⟨xs12, ws, k14, n16, rfl, hw, hf, hM, hl13, hv15, hv17⟩ h26 hd27
  replace h26 : m_laws_markNodeS_l1 xs12 k14 n16 = some o25 := h26
  unfold m_laws_markNodeS_l1 at h26
  have hlx : ws.length = xs12.length := by rw [← hw, List.length_map]
  iterate 2 refine wp_seq ?_
  refine region_pl ?_
  iterate 2 refine q_ hf rfl rfl rfl (e_move hf rfl) fun a hf => ?_
  have hl28 := row_len (hM.ownAt (k := 0) rfl)
  rw [hlx] at hl28
  refine q_ hf rfl rfl rfl (e_lenL hf (x := xs12) rfl Tryd.underlying24) fun a hf => ?_
  refine q_ hf rfl rfl rfl (e_lt hf (x := n16) (y := (xs12.length : Int)) rfl rfl) fun a hf => ?_
  refine pl_nil ?_
  refine then_n ?_
  rcases cond_some h26 with ⟨hc29, h26⟩ | ⟨hc29, h26⟩
  ·refine cond_t hf rfl hc29 ?_
   refine wp_skip ?_
   refine then_n ?_
   refine wp_seq ?_
   refine wp_block ?_
   refine wp_seq ?_
   refine region_pl ?_
   iterate 3 refine q_ hf rfl rfl rfl (e_move hf rfl) fun a hf => ?_
   obtain ⟨z, hz, h26⟩ := bind_some h26
   refine q_ hf rfl rfl rfl (e_rem hf rfl rfl hz) fun a hf => ?_
   refine q_ hf rfl rfl rfl (e_eq hf (x := z) (y := 0) rfl rfl) fun a hf => ?_
   obtain ⟨e30, hz31, h26⟩ := bind_some h26
   obtain ⟨A35, c36, hzx⟩ := nest_get hw hz31
   obtain ⟨b37, _, hA38, h32, h33, hr34, hcell35⟩ := hM.rowElemN (k := 0) rfl (n := 3) rfl hzx
   obtain ⟨rfl, hv39⟩ := hr34
   refine q_ hf rfl rfl rfl (e_indexAddr (A := A2) (b := b37) (o := 0) (xs := xs12) (i := n16) hf hA38 rfl rfl Tryd.underlying24 Tryd.sizeOf76 h32 (by rw [← hlx]; exact h33)) fun a hf => ?_
   refine q_ hf rfl rfl rfl (e_field hf rfl Tryd.underlying76 rfl Tryd.sizeOf4 (o' := (0 + (n16 : Int).toNat * 3) + 0) rfl) fun a hf => ?_
   obtain ⟨xs1, hz1, h26⟩ := bind_some h26
   refine pl_0 hf rfl rfl (w_storePart hf hM (K := NodeWRep) (x := (⟨z == 0, e30.Letters, A35, c36, e30.Next⟩ : NodeW)) (us := [.bool (z == 0)]) (row := [.bool (e30.Final), vS (e30.Letters), vL A35 (e30.Next) c36]) (i := n16) (d := 0) rfl rfl rfl hA38 (k := 0) rfl rfl Tryd.sizeOf4 hcell35 ⟨rfl, hv39⟩ (setL_nest hzx) rfl rfl fun w40 hM => ?_)
   have hM : Mem C w40 (.row NodeWRep A2 c3 76 (ws.set n16.toNat ⟨z == 0, e30.Letters, A35, c36, e30.Next⟩) true :: nestO 2 ws) _ := hM
   rw [← nest_keep (E := 2) (y := (⟨z == 0, e30.Letters, A35, c36, e30.Next⟩ : NodeW)) hzx rfl rfl rfl] at hM
   have hw1 := nest_to hw hz1 (y := (⟨z == 0, e30.Letters, A35, c36, e30.Next⟩ : NodeW)) rfl
   generalize hws1 : ws.set n16.toNat (⟨z == 0, e30.Letters, A35, c36, e30.Next⟩ : NodeW) = ws1 at hM hw1
   have hl1 : xs1.length = xs12.length := setL_len hz1
   have hlx1 : ws1.length = xs1.length := by rw [← hw1, List.length_map]
   have hf := hf.alter (d := 0) (v := vL A2 (xs1) c3) rfl (vL_len (setL_len hz1))
   refine pl_nil ?_
   refine then_n ?_
   refine wp_seq ?_
   refine region_pl ?_
   refine q_ hf rfl rfl rfl (e_move hf rfl) fun a hf => ?_
   obtain ⟨k1, hk1, h26⟩ := bind_some h26
   refine q_ hf rfl rfl rfl (e_add hf rfl rfl hk1) fun a hf => ?_
   refine q_ hf rfl rfl rfl (e_assign hf rfl) fun a hf => ?_
   refine pl_nil ?_
   refine then_n ?_
   refine wp_seq ?_
   refine region_pl ?_
   iterate 3 refine q_ hf rfl rfl rfl (e_move hf rfl) fun a hf => ?_
   obtain ⟨t108, hz109, h26⟩ := bind_some h26
   refine pl_l hf rfl rfl rfl (w_call hf Tryd.call92 rfl (r_laws_markText ⟨_, Sh C _ _, none_, hM.sh_lt, none_not, C.G, hM.g_lt, g_none, hM.tabs⟩ k1 (chk_R hk1) _ hz109) ?_)
   rintro _ w111 ⟨rfl, hM2, hv110⟩
   obtain ⟨hM, hx112, hup113⟩ := hM.back hM2
   dsimp only [List.cons_append, List.nil_append] at hM hup113
   clear hM2
   refine ⟨_, rfl, fun a hf => ?_⟩
   obtain ⟨e50, hz51, h26⟩ := bind_some h26
   obtain ⟨A55, c56, hzx1⟩ := nest_get hw1 hz51
   obtain ⟨b57, _, hA58, h52, h53, hr54, hcell55⟩ := hM.rowElemN (k := 0) rfl (n := 3) rfl hzx1
   obtain ⟨rfl, hv59⟩ := hr54
   refine q_ hf rfl rfl rfl (e_indexAddr (A := A2) (b := b57) (o := 0) (xs := xs1) (i := n16) hf hA58 rfl rfl Tryd.underlying24 Tryd.sizeOf76 h52 (by rw [← hlx1]; exact h53)) fun a hf => ?_
   refine q_ hf rfl rfl rfl (e_field hf rfl Tryd.underlying76 rfl Tryd.sizeOf9 (o' := (0 + (n16 : Int).toNat * 3) + 1) rfl) fun a hf => ?_
   obtain ⟨xs2, hz2, h26⟩ := bind_some h26
   refine pl_0 hf rfl rfl (w_storePart hf hM (K := NodeWRep) (x := (⟨e50.Final, t108, A55, c56, e50.Next⟩ : NodeW)) (us := [vS (t108)]) (row := [.bool (e50.Final), vS (e50.Letters), vL A55 (e50.Next) c56]) (i := n16) (d := 1) rfl rfl rfl hA58 (k := 0) rfl rfl Tryd.sizeOf9 hcell55 ⟨rfl, hv110⟩ (setL_nest hzx1) rfl rfl fun w60 hM => ?_)
   have hM : Mem C w60 (.row NodeWRep A2 c3 76 (ws1.set n16.toNat ⟨e50.Final, t108, A55, c56, e50.Next⟩) true :: nestO 2 ws1) _ := hM
   rw [← nest_keep (E := 2) (y := (⟨e50.Final, t108, A55, c56, e50.Next⟩ : NodeW)) hzx1 rfl rfl rfl] at hM
   have hw2 := nest_to hw1 hz2 (y := (⟨e50.Final, t108, A55, c56, e50.Next⟩ : NodeW)) rfl
   generalize hws2 : ws1.set n16.toNat (⟨e50.Final, t108, A55, c56, e50.Next⟩ : NodeW) = ws2 at hM hw2
   have hl2 : xs2.length = xs1.length := setL_len hz2
   have hlx2 : ws2.length = xs2.length := by rw [← hw2, List.length_map]
   have hf := hf.alter (d := 0) (v := vL A2 (xs2) c3) rfl (vL_len (setL_len hz2))
   refine pl_nil ?_
   refine then_n ?_
   refine wp_seq ?_
   refine region_pl ?_
   refine q_ hf rfl rfl rfl (e_move hf rfl) fun a hf => ?_
   obtain ⟨k2, hk2, h26⟩ := bind_some h26
   refine q_ hf rfl rfl rfl (e_add hf rfl rfl hk2) fun a hf => ?_
   refine q_ hf rfl rfl rfl (e_assign hf rfl) fun a hf => ?_
   refine pl_nil ?_
   refine then_n ?_
   refine region_pl ?_
   iterate 2 refine q_ hf rfl rfl rfl (e_move hf rfl) fun a hf => ?_
   obtain ⟨e70, hz71, h26⟩ := bind_some h26
   obtain ⟨A75, c76, hzx2⟩ := nest_get hw2 hz71
   obtain ⟨b77, _, hA78, h72, h73, hr74, hcell75⟩ := hM.rowElemN (k := 0) rfl (n := 3) rfl hzx2
   obtain ⟨rfl, hv79⟩ := hr74
   refine q_ hf rfl rfl rfl (e_indexAddr (A := A2) (b := b77) (o := 0) (xs := xs2) (i := n16) hf hA78 rfl rfl Tryd.underlying24 Tryd.sizeOf76 h72 (by rw [← hlx2]; exact h73)) fun a hf => ?_
   refine q_ hf rfl rfl rfl (e_field hf rfl Tryd.underlying76 rfl Tryd.sizeOf31 (o' := (0 + (n16 : Int).toNat * 3) + 2) rfl) fun a hf => ?_
   refine q_ hf rfl rfl rfl (e_load1 hf rfl Tryd.isAgg31 (hcell75 2 _ rfl)) fun a hf => ?_
   refine q_ hf rfl rfl rfl (e_move hf rfl) fun a hf => ?_
   have hat := nest_at 2 [Own.row NodeWRep A2 c3 76 ws2 true] hzx2
   have hkl : 1 + n16.toNat < ([Own.row NodeWRep A2 c3 76 ws2 true] ++ nestO 2 ws2).length := (List.getElem?_eq_some_iff.1 hat).1
   have hM : Mem C w60 ([Own.row NodeWRep A2 c3 76 ws2 true] ++ nestO 2 ws2) _ := hM
   have hM := hM.front (k := 1 + n16.toNat) hat
   have hM : Mem C w60 ([Own.row intRep A75 c76 2 e70.Next true] ++ ([Own.row NodeWRep A2 c3 76 ws2 true] ++ nestO 2 ws2).eraseIdx (1 + n16.toNat)) _ := hM
   obtain ⟨y80, hz81, h26⟩ := bind_some h26
   refine pl_l hf rfl rfl rfl (w_call hf Tryd.call33 rfl (r_laws_markInt64S ⟨_, Sh C _ _, ownB _, hM.sh_lt, sub_dis, C.G, hM.g_lt, hM.g_own, hM.tabs⟩ e70.Next _ _ k2 (chk_R hk2) hM.sub sub_dis _ hz81) ?_)
   rintro _ w82 ⟨rfl, hM2, hl83, hv84⟩
   obtain ⟨hM, hup85⟩ := hM.backG hM2
   clear hM2
   have hM := Mem.backAt (own := [Own.row NodeWRep A2 c3 76 ws2 true] ++ nestO 2 ws2) (k := 1 + n16.toNat) (y := .row intRep A75 c76 2 y80.2 true) hkl hM
   have hM : Mem C w82 ([Own.row NodeWRep A2 c3 76 ws2 true] ++ nestO 2 (ws2.set n16.toNat ⟨e70.Final, e70.Letters, A75, c76, y80.2⟩)) _ := (nest_set 2 [Own.row NodeWRep A2 c3 76 ws2 true] (ws := ws2) (i := n16) (⟨e70.Final, e70.Letters, A75, c76, y80.2⟩ : NodeW)) ▸ hM
   have hM := Mem.rerow (y := (⟨e70.Final, e70.Letters, A75, c76, y80.2⟩ : NodeW)) (own := nestO 2 (ws2.set n16.toNat ⟨e70.Final, e70.Letters, A75, c76, y80.2⟩)) hM hzx2 rfl rfl rfl rfl hl83
   refine ⟨_, rfl, fun a hf => ?_⟩
   refine q_ hf rfl rfl rfl (e_assign hf rfl) fun a hf => ?_
   refine pl_nil ?_
   refine blk_n ?_
   refine then_n ?_
   refine region_pl ?_
   refine q_ hf rfl rfl rfl (e_move hf rfl) fun a hf => ?_
   obtain ⟨xs3, hz3, h26⟩ := bind_some h26
   have hf := hf.alter (d := 0) (v := vL A2 (xs3) c3) rfl (vL_len (setL_len hz3))
   obtain ⟨z44, hz45, h26⟩ := bind_some h26
   refine q_ hf rfl rfl rfl (e_add hf rfl rfl hz45) fun a hf => ?_
   refine q_ hf rfl rfl rfl (e_assign hf rfl) fun a hf => ?_
   refine pl_nil ?_
   obtain rfl := some_inj h26
   refine then_n ⟨_, rfl, ?_⟩
   exact ⟨xs3, _, y80.1, z44, rfl, nest_to hw2 hz3 rfl, hf.keep ⟨rfl, rfl, rfl, trivial⟩, hM.pick [] rfl, (((setL_len hz3).trans hl2).trans hl1).trans hl13, hv84, (chk_R hz45)⟩
  refine cond_f hf rfl hc29 ?_
  refine wp_exit ?_
  refine then_x ?_
  obtain rfl := some_inj h26
  obtain rfl := hd27 _ rfl
  refine then_x ?_
  refine exit_hit ?_
  refine then_n ?_
  exact ⟨xs12, ws, k14, rfl, hw, hf.keep ⟨rfl, trivial⟩, hM.pick [] rfl, hl13, hv15⟩
 rintro a w51 ⟨xs6, ws, k8, rfl, hw6, hf, hM, hl7, hv9⟩
 try dsimp only at h
 refine wp_seq ?_
 refine region_pl ?_
 refine q_ hf rfl rfl rfl (e_move hf rfl) fun a hf => ?_
 refine q_ hf rfl rfl rfl (e_assign hf rfl) fun a hf => ?_
 refine pl_nil ?_
 refine then_n ?_
 refine wp_ret ?_
 obtain rfl := some_inj h
 exact leave1 hf rfl rfl ⟨ws, rfl, hM.fin, hw6, hl7, hv9⟩

set_option maxRecDepth 100000 in
set_option maxHeartbeats 4000000 in
theorem r_laws_markDawg (C : Cx) (a1 : Dawg) (A2 : Option Addr) (c3 : Nat) (ws0 : List NodeW) (hw0 : ws0.map NodeW.to = a1.Nodes) (k4 : Int) (hp5 : R64 k4) (hO : Mem C C.w0 ((nestW A2 c3 76 2 ws0)) []) (hd : ∀ b, C.S0 b → ¬ ownB ((nestW A2 c3 76 2 ws0)) b) (r : (Int × (List Node))) (h : m_laws_markDawg a1 k4 = some r) :
    Calls Tryd.prog 32 #[.agg #[vL A2 (a1.Nodes) c3], vI (k4)] C.w0 fun e w => ∃ (ws_1 : List NodeW), e = .returned (vI (r.1)) ∧ Mem C w ((nestW A2 c3 76 2 ws_1)) [] ∧ ws_1.map NodeW.to = r.2 ∧ r.2.length = a1.Nodes.length ∧ R64 r.1 := by
 have hM := hO
 refine enter Tryd.func32 rfl Tryd.ntmps32 rfl fun a hf => ?_
 unfold m_laws_markDawg at h
 refine wp_seq ?_
 refine region_pl ?_
 refine pl_l hf rfl rfl rfl (w_box hf hM (cs := [vL A2 (a1.Nodes) c3]) rfl rfl fun b6 w7 hx8 hM a hf => ?_)
 refine q_ hf rfl rfl rfl (e_assign hf rfl) fun a hf => ?_
 refine pl_nil ?_
 refine then_n ?_
 refine wp_seq ?_
 refine region_pl ?_
 refine q_ hf rfl rfl rfl (e_field hf rfl Tryd.underlying26 rfl Tryd.sizeOf24 (o' := 0) rfl) fun a hf => ?_
 refine q_ hf rfl rfl rfl (e_load1 hf rfl Tryd.isAgg24 (hM.boxCell (k := 0) rfl rfl)) fun a hf => ?_
 refine q_ hf rfl rfl rfl (e_move hf rfl) fun a hf => ?_
 have hM : Mem C w7 (nestW A2 c3 76 2 ws0 ++ [.box b6 [vL A2 (a1.Nodes) c3] 26]) _ := hM.permP (List.perm_append_comm (l₁ := [Own.box b6 [vL A2 (a1.Nodes) c3] 26]))
 obtain ⟨y9, hz10, h⟩ := bind_some h
 refine pl_l hf rfl rfl rfl (w_call hf Tryd.call64 rfl (r_laws_markNodeS ⟨_, Sh C _ _, ownB _, hM.sh_lt, sub_dis, C.G, hM.g_lt, hM.g_own, hM.tabs⟩ a1.Nodes _ _ _ hw0 k4 hp5 hM.sub sub_dis _ hz10) ?_)
 rintro _ w11 ⟨ws1, rfl, hM2, hw1, hl1, hv12⟩
 obtain ⟨hM, hup13⟩ := hM.backG hM2
 clear hM2
 refine ⟨_, rfl, fun a hf => ?_⟩
 refine q_ hf rfl rfl rfl (e_assign hf rfl) fun a hf => ?_
 refine pl_nil ?_
 refine then_n ?_
 refine wp_seq ?_
 refine region_pl ?_
 refine q_ hf rfl rfl rfl (e_move hf rfl) fun a hf => ?_
 refine q_ hf rfl rfl rfl (e_assign hf rfl) fun a hf => ?_
 refine pl_nil ?_
 refine then_n ?_
 refine wp_ret ?_
 obtain rfl := some_inj h
 exact leave1 hf rfl rfl ⟨ws1, rfl, (hM.drop (List.sublist_append_left _ _)).fin, hw1, hl1, hv12⟩

set_option maxRecDepth 100000 in
set_option maxHeartbeats 4000000 in
theorem r_laws_heldInt64S (C : Cx) (a1 : (List Int)) (A2 : Option Addr) (c3 : Nat) (hp4 : (sliceRep intRep).R C.w0 C.S0 a1 [vL A2 a1 c3]) (k5 : Int) (hp6 : R64 k5) (r : Int) (h : m_laws_heldInt64S a1 k5 = some r) :
    Calls Tryd.prog 34 #[vL A2 (a1) c3, vI (k5)] C.w0 fun e w => e = .returned (vI (r)) ∧ Mem C w [] [] ∧ R64 r := by
 have hM := Mem.begin C [.dat (sliceRep intRep) a1 [vL A2 a1 c3]] ⟨hp4, trivial⟩
 refine enter Tryd.func34 rfl Tryd.ntmps34 rfl fun a hf => ?_
 unfold m_laws_heldInt64S at h
 refine wp_seq ?_
 refine region_pl ?_
 refine q_ hf rfl rfl rfl (e_assign hf rfl) fun a hf => ?_
 refine pl_nil ?_
 refine then_n ?_
 obtain ⟨x9, h10, h⟩ := bind_some h
 refine seq_join (fun a w => ∃ (k7 : Int), (.inl k7) = x9 ∧ Has 21 a [(1, vI (k7))] ∧ Mem C w [] [.dat (sliceRep intRep) a1 [vL A2 a1 c3]] ∧ R64 k7) ?_ ?_
 ·refine wp_seq ?_
  refine region_pl ?_
  refine q_ hf rfl rfl rfl (e_assign hf rfl) fun a hf => ?_
  refine pl_nil ?_
  refine then_n ?_
  refine wp_block ?_
  obtain ⟨x18, h19, h10⟩ := bind_some h10
  refine wp_loopM h19 (fun s a w => ∃ (k11 : Int) (n13 : Int), (k11, n13) = s ∧ Has 21 a [(0, vL A2 (a1) c3), (1, vI (k11)), (5, vI (n13))] ∧ Mem C w [] [.dat (sliceRep intRep) a1 [vL A2 a1 c3]] ∧ R64 k11 ∧ R64 n13) ?_ ?_
  ·exact ⟨k5, 0, rfl, hf.keep ⟨rfl, rfl, rfl, trivial⟩, hM.pick [0] rfl, hp6, (R64_lit rfl)⟩
  rintro s o20 a w15 ⟨k11, n13, rfl, hf, hM, hv12, hv14⟩ h21 hd22
  replace h21 : m_laws_heldInt64S_l1 a1 k11 n13 = some o20 := h21
  unfold m_laws_heldInt64S_l1 at h21
  iterate 2 refine wp_seq ?_
  refine region_pl ?_
  iterate 2 refine q_ hf rfl rfl rfl (e_move hf rfl) fun a hf => ?_
  have hl23 := slice_len (hM.dat (k := 0) rfl)
  refine q_ hf rfl rfl rfl (e_lenL hf (x := a1) rfl Tryd.underlying31) fun a hf => ?_
  refine q_ hf rfl rfl rfl (e_lt hf (x := n13) (y := (a1.length : Int)) rfl rfl) fun a hf => ?_
  refine pl_nil ?_
  refine then_n ?_
  rcases cond_some h21 with ⟨hc24, h21⟩ | ⟨hc24, h21⟩
  ·refine cond_t hf rfl hc24 ?_
   refine wp_skip ?_
   refine then_n ?_
   refine wp_seq ?_
   refine wp_block ?_
   iterate 2 refine wp_seq ?_
   refine region_pl ?_
   iterate 2 refine q_ hf rfl rfl rfl (e_move hf rfl) fun a hf => ?_
   obtain ⟨e25, hz26, h21⟩ := bind_some h21
   obtain ⟨b30, o31, _, hA32, h27, h28, hr29, hM⟩ := hM.elem (hM.dat (k := 0) rfl) (n := 1) rfl hz26
   obtain ⟨rfl, hv33⟩ := hr29
   refine q_ hf rfl rfl rfl (e_indexAddr (A := A2) (b := b30) (o := o31) (xs := a1) (i := n13) hf hA32 rfl rfl Tryd.underlying31 Tryd.sizeOf2 h27 h28) fun a hf => ?_
   refine q_ hf rfl rfl rfl (e_load1 hf rfl Tryd.isAgg2 (hM.litCell (k := 0) (j := 0) rfl rfl rfl)) fun a hf => ?_
   refine q_ hf rfl rfl rfl (e_move hf rfl) fun a hf => ?_
   refine q_ hf rfl rfl rfl (e_ne hf (x := e25) (y := k11) rfl rfl) fun a hf => ?_
   refine pl_nil ?_
   refine then_n ?_
   rcases cond_some h21 with ⟨hc34, h21⟩ | ⟨hc34, h21⟩
   ·refine cond_t hf rfl hc34 ?_
    refine wp_seq ?_
    refine region_pl ?_
    refine q_ hf rfl rfl rfl (e_assign hf rfl) fun a hf => ?_
    refine pl_nil ?_
    refine then_n ?_
    refine wp_ret ?_
    refine then_r ?_
    refine blk_r ?_
    refine then_r ?_
    obtain rfl := some_inj h21
    obtain rfl := hd22 _ rfl
    try dsimp only at h10
    refine then_r ?_
    refine blk_r ?_
    obtain rfl := some_inj h10
    try dsimp only at h
    refine then_r ?_
    obtain rfl := some_inj h
    exact leave1 hf rfl rfl ⟨rfl, hM.fin, (R64_lit rfl)⟩
   refine cond_f hf rfl hc34 ?_
   refine wp_skip ?_
   refine then_n ?_
   refine region_pl ?_
   refine q_ hf rfl rfl rfl (e_move hf rfl) fun a hf => ?_
   obtain ⟨z35, hz36, h21⟩ := bind_some h21
   refine q_ hf rfl rfl rfl (e_add hf rfl rfl hz36) fun a hf => ?_
   refine q_ hf rfl rfl rfl (e_assign hf rfl) fun a hf => ?_
   refine pl_nil ?_
   refine blk_n ?_
   refine then_n ?_
   refine region_pl ?_
   refine q_ hf rfl rfl rfl (e_move hf rfl) fun a hf => ?_
   obtain ⟨z37, hz38, h21⟩ := bind_some h21
   refine q_ hf rfl rfl rfl (e_add hf rfl rfl hz38) fun a hf => ?_
   refine q_ hf rfl rfl rfl (e_assign hf rfl) fun a hf => ?_
   refine pl_nil ?_
   obtain rfl := some_inj h21
   refine then_n ⟨_, rfl, ?_⟩
   exact ⟨z35, z37, rfl, hf.keep ⟨rfl, rfl, rfl, trivial⟩, hM.pick [1] rfl, (chk_R hz36), (chk_R hz38)⟩
  refine cond_f hf rfl hc24 ?_
  refine wp_exit ?_
  refine then_x ?_
  obtain rfl := some_inj h21
  obtain rfl := hd22 _ rfl
  try dsimp only at h10
  refine then_x ?_
  refine exit_hit ?_
  obtain rfl := some_inj h10
  refine then_n ?_
  exact ⟨k11, rfl, hf.keep ⟨rfl, trivial⟩, hM.pick [0] rfl, hv12⟩
 rintro a w45 ⟨k7, rfl, hf, hM, hv8⟩
 try dsimp only at h
 refine wp_seq ?_
 refine region_pl ?_
 refine q_ hf rfl rfl rfl (e_move hf rfl) fun a hf => ?_
 refine q_ hf rfl rfl rfl (e_assign hf rfl) fun a hf => ?_
 refine pl_nil ?_
 refine then_n ?_
 refine wp_ret ?_
 obtain rfl := some_inj h
 exact leave1 hf rfl rfl ⟨rfl, hM.fin, hv8⟩

set_option maxRecDepth 100000 in
set_option maxHeartbeats 4000000 in
theorem r_laws_FnExactCountsOf (C : Cx) (aD1 : Dawg) (A2 : Option Addr) (c3 : Nat) (hp4 : (sliceRep NodeRep).R C.w0 C.S0 aD1.Nodes [vL A2 aD1.Nodes c3]) (r : Bool) (h : m_laws_FnExactCountsOf aD1 = some r) :
    Calls Tryd.prog 6 #[.agg #[vL A2 (aD1.Nodes) c3]] C.w0 fun e w => e = .returned (.bool (r)) ∧ Mem C w [] [] := by
 have hM := Mem.begin C [.dat (sliceRep NodeRep) aD1.Nodes [vL A2 aD1.Nodes c3]] ⟨hp4, trivial⟩
 refine enter Tryd.func6 rfl Tryd.ntmps6 rfl fun a hf => ?_
 unfold m_laws_FnExactCountsOf at h
 refine wp_seq ?_
 refine region_pl ?_
 refine pl_l hf rfl rfl rfl (w_box hf hM (cs := [vL A2 (aD1.Nodes) c3]) rfl rfl fun b5 w6 hx7 hM a hf => ?_)
 refine q_ hf rfl rfl rfl (e_assign hf rfl) fun a hf => ?_
 refine pl_nil ?_
 refine then_n ?_
 refine wp_seq ?_
 refine region_pl ?_
 refine q_ hf rfl rfl rfl (e_assign hf rfl) fun a hf => ?_
 refine pl_nil ?_
 refine then_n ?_
 refine wp_seq ?_
 refine region_pl ?_
 refine q_ hf rfl rfl rfl (e_loadA hf (us := [vL A2 (aD1.Nodes) c3]) rfl ⟨Tryd.isAgg48, Tryd.sizeOf48⟩ rfl (hM.boxSub (k := 0) (us := [vL A2 (aD1.Nodes) c3]) (o := 0) rfl rfl)) fun a hf => ?_
 refine q_ hf rfl rfl rfl (e_move hf rfl) fun a hf => ?_
 obtain ⟨y9, hz10, h⟩ := bind_some h
 refine pl_l hf rfl rfl rfl (w_call hf Tryd.call23 rfl (r_laws_szDawg ⟨_, Sh C _ _, none_, hM.sh_lt, none_not, C.G, hM.g_lt, g_none, hM.tabs⟩ aD1 _ _ (hM.dat (k := 0) rfl) 1048576 (R64_lit rfl) _ hz10) ?_)
 rintro _ w12 ⟨rfl, hM2, hv11⟩
 obtain ⟨hM, hx13, hup14⟩ := hM.back hM2
 dsimp only [List.cons_append, List.nil_append] at hM hup14
 clear hM2
 refine ⟨_, rfl, fun a hf => ?_⟩
 refine q_ hf rfl rfl rfl (e_assign hf rfl) fun a hf => ?_
 refine pl_nil ?_
 refine then_n ?_
 iterate 2 refine wp_seq ?_
 refine region_pl ?_
 refine q_ hf rfl rfl rfl (e_move hf rfl) fun a hf => ?_
 refine q_ hf rfl rfl rfl (e_lt hf (x := y9) (y := 0) rfl rfl) fun a hf => ?_
 refine pl_nil ?_
 refine then_n ?_
 rcases cond_some h with ⟨hc15, h⟩ | ⟨hc15, h⟩
 ·refine cond_t hf rfl hc15 ?_
  refine wp_seq ?_
  refine region_pl ?_
  refine q_ hf rfl rfl rfl (e_assign hf rfl) fun a hf => ?_
  refine pl_nil ?_
  refine then_n ?_
  refine wp_ret ?_
  refine then_r ?_
  obtain rfl := some_inj h
  have hM := hM.outs (own' := []) 0 rfl
  exact leave1 hf rfl rfl ⟨rfl, hM.fin⟩
 refine cond_f hf rfl hc15 ?_
 refine wp_skip ?_
 refine then_n ?_
 refine wp_seq ?_
 refine region_pl ?_
 refine q_ hf rfl rfl rfl (e_loadA hf (us := [vL A2 (aD1.Nodes) c3]) rfl ⟨Tryd.isAgg48, Tryd.sizeOf48⟩ rfl (hM.boxSub (k := 0) (us := [vL A2 (aD1.Nodes) c3]) (o := 0) rfl rfl)) fun a hf => ?_
 obtain ⟨y16, hz17, h⟩ := bind_some h
 refine pl_l hf rfl rfl rfl (w_call hf Tryd.call25 rfl (r_laws_toDawg ⟨_, Sh C _ _, none_, hM.sh_lt, none_not, C.G, hM.g_lt, g_none, hM.tabs⟩ aD1 _ _ (hM.dat (k := 0) rfl) _ hz17) ?_)
 rintro _ w22 ⟨A18, c19, ws20, rfl, hM2, hw21⟩
 obtain ⟨hM, hx23, hup24⟩ := hM.back hM2
 try dsimp only [List.cons_append, List.nil_append] at hM hup24
 clear hM2
 have hM : Mem C _ (.box b5 [vL A2 (aD1.Nodes) c3] 48 :: (nestW A18 c19 76 2 ws20)) _ := Mem.perm (own := (nestW A18 c19 76 2 ws20) ++ [.box b5 [vL A2 (aD1.Nodes) c3] 48]) (own' := ([] ++ [.box b5 [vL A2 (aD1.Nodes) c3] 48]) ++ (nestW A18 c19 76 2 ws20)) hM (fun a => by simp only [List.count_append, List.count_nil]; omega)
 refine ⟨_, rfl, fun a hf => ?_⟩
 obtain ⟨y25, hz26, h⟩ := bind_some h
 refine pl_l hf rfl rfl rfl (w_call hf Tryd.call30 rfl (r_spec_CountsOf ⟨_, All C _ _, none_, hM.all_lt, none_not, C.G, hM.g_lt, g_none, hM.tabs⟩ y16 _ _ (hM.lendNest (A := A18) (c := c19) (E := 76) (E2 := 2) (ws := ws20) (fun q hq => by simp [hq]) hw21) _ hz26) ?_)
 rintro _ w30 ⟨A27, c28, rfl, hM2, hv29⟩
 obtain ⟨hM, hx31⟩ := hM.backAF intRep_flat hM2
 clear hM2
 refine ⟨_, rfl, fun a hf => ?_⟩
 refine q_ hf rfl rfl rfl (e_move hf rfl) fun a hf => ?_
 iterate 2 refine q_ hf rfl rfl rfl (e_extract hf rfl rfl) fun a hf => ?_
 iterate 2 refine q_ hf rfl rfl rfl (e_assign hf rfl) fun a hf => ?_
 refine pl_nil ?_
 refine then_n ?_
 refine wp_seq ?_
 refine region_pl ?_
 refine q_ hf rfl rfl rfl (e_loadA hf (us := [vL A2 (aD1.Nodes) c3]) rfl ⟨Tryd.isAgg48, Tryd.sizeOf48⟩ rfl (hM.boxSub (k := 1) (us := [vL A2 (aD1.Nodes) c3]) (o := 0) rfl rfl)) fun a hf => ?_
 obtain ⟨y33, hz34, h⟩ := bind_some h
 refine pl_l hf rfl rfl rfl (w_call hf Tryd.call25 rfl (r_laws_toDawg ⟨_, Sh C _ _, none_, hM.sh_lt, none_not, C.G, hM.g_lt, g_none, hM.tabs⟩ aD1 _ _ (hM.dat (k := 0) rfl) _ hz34) ?_)
 rintro _ w39 ⟨A35, c36, ws37, rfl, hM2, hw38⟩
 obtain ⟨hM, hx40, hup41⟩ := hM.back hM2
 try dsimp only [List.cons_append, List.nil_append] at hM hup41
 clear hM2
 have hM : Mem C _ (.row intRep A27 c28 2 y25.1 true :: .box b5 [vL A2 (aD1.Nodes) c3] 48 :: ((nestW A18 c19 76 2 ws20) ++ nestW A35 c36 76 2 ws37)) _ := Mem.perm (own := (nestW A35 c36 76 2 ws37) ++ ([.row intRep A27 c28 2 y25.1 true, .box b5 [vL A2 (aD1.Nodes) c3] 48] ++ (nestW A18 c19 76 2 ws20))) (own' := ([] ++ [.row intRep A27 c28 2 y25.1 true, .box b5 [vL A2 (aD1.Nodes) c3] 48]) ++ ((nestW A18 c19 76 2 ws20) ++ nestW A35 c36 76 2 ws37)) hM (fun a => by simp only [List.count_append, List.count_nil]; omega)
 refine ⟨_, rfl, fun a hf => ?_⟩
 refine pl_l hf rfl rfl rfl (w_alloc hM (cs := [vL none (([] : (List Node))) 0]) Tryd.zeroValue26 rfl fun b42 w43 hx44 hM a hf => ?_)
 refine pl_0 hf rfl rfl (w_store hf hM (us := [vL A35 (y33.Nodes) c36]) (cs' := [vL A35 (y33.Nodes) c36]) rfl rfl (k := 0) rfl rfl Tryd.sizeOf26 rfl rfl rfl fun w46 hM => ?_)
 dsimp only [List.set] at hM
 refine pl_nil ?_
 refine then_n ?_
 refine wp_seq ?_
 refine region_pl ?_
 refine q_ hf rfl rfl rfl (e_loadA hf (us := [vL A35 (y33.Nodes) c36]) rfl ⟨Tryd.isAgg26, Tryd.sizeOf26⟩ rfl (hM.boxSub (k := 0) (us := [vL A35 (y33.Nodes) c36]) (o := 0) rfl rfl)) fun a hf => ?_
 obtain ⟨y49, hz50, h⟩ := bind_some h
 refine pl_l hf rfl rfl rfl (w_call hf Tryd.call15 rfl (r_impl_CountsOf ⟨_, All C _ _, none_, hM.all_lt, none_not, C.G, hM.g_lt, g_none, hM.tabs⟩ y33 _ _ (hM.lendNest (A := A35) (c := c36) (E := 76) (E2 := 2) (ws := ws37) (fun q hq => by simp [hq]) hw38) _ hz50) ?_)
 rintro _ w54 ⟨A51, c52, rfl, hM2, hv53⟩
 obtain ⟨hM, hx55⟩ := hM.backAF intRep_flat hM2
 clear hM2
 refine ⟨_, rfl, fun a hf => ?_⟩
 refine q_ hf rfl rfl rfl (e_move hf rfl) fun a hf => ?_
 iterate 2 refine q_ hf rfl rfl rfl (e_extract hf rfl rfl) fun a hf => ?_
 iterate 2 refine q_ hf rfl rfl rfl (e_assign hf rfl) fun a hf => ?_
 refine pl_nil ?_
 refine then_n ?_
 refine wp_seq ?_
 obtain ⟨x59, h60, h⟩ := bind_some h
 refine seq_join (fun a w => ∃ (t57 : Bool), t57 = x59 ∧ Has 96 a [(1, vP b5 (0)), (4, vL A27 (y25.1) c28), (5, vI (y25.2)), (6, vP b42 (0)), (7, vL A51 (y49.1) c52), (8, vI (y49.2)), (40, .bool (t57))] ∧ Mem C w (.row intRep A51 c52 2 y49.1 true :: .box b42 [vL A35 (y33.Nodes) c36] 26 :: .row intRep A27 c28 2 y25.1 true :: .box b5 [vL A2 (aD1.Nodes) c3] 48 :: ((nestW A18 c19 76 2 ws20) ++ nestW A35 c36 76 2 ws37)) [.dat (sliceRep NodeRep) aD1.Nodes [vL A2 aD1.Nodes c3]]) ?_ ?_
 ·refine region_pl ?_
  iterate 2 refine q_ hf rfl rfl rfl (e_move hf rfl) fun a hf => ?_
  obtain ⟨y61, hz62, h60⟩ := bind_some h60
  refine pl_l hf rfl rfl rfl (w_call hf Tryd.call31 rfl (r_laws_eqInt64S ⟨_, All C _ _, none_, hM.all_lt, none_not, C.G, hM.g_lt, g_none, hM.tabs⟩ y49.1 _ _ (hM.lendRow (k := 0) rfl) y25.1 _ _ (hM.lendRow (k := 2) rfl) _ hz62) ?_)
  rintro _ w63 ⟨rfl, hM2⟩
  obtain ⟨hM, hx64⟩ := hM.backA hM2
  clear hM2
  refine ⟨_, rfl, fun a hf => ?_⟩
  refine q_ hf rfl rfl rfl (e_not hf rfl) fun a hf => ?_
  refine q_ hf rfl rfl rfl (e_move hf rfl) fun a hf => ?_
  rcases cond_some h60 with ⟨hc66, h60⟩ | ⟨hc66, h60⟩
  ·iterate 3 refine pl_gs (wanted_f hf rfl rfl rfl rfl hc66) hf rfl rfl fun a hf => ?_
   refine q_ hf rfl rfl rfl (e_pick_t hf rfl hc66 rfl) fun a hf => ?_
   refine pl_nil ?_
   obtain rfl := some_inj h60
   refine then_n ?_
   exact ⟨true, rfl, hf.keep ⟨rfl, rfl, rfl, rfl, rfl, rfl, rfl, trivial⟩, hM.pick [0] rfl⟩
  iterate 2 refine gq (wanted_t hf rfl rfl rfl rfl hc66) hf rfl rfl (e_move hf rfl) fun a hf => ?_
  refine gq (wanted_t hf rfl rfl rfl rfl hc66) hf rfl rfl (e_ne hf (x := y49.2) (y := y25.2) rfl rfl) fun a hf => ?_
  refine q_ hf rfl rfl rfl (e_pick_f hf rfl hc66 rfl) fun a hf => ?_
  refine pl_nil ?_
  obtain rfl := some_inj h60
  refine then_n ?_
  exact ⟨(y49.2 != y25.2), rfl, hf.keep ⟨rfl, rfl, rfl, rfl, rfl, rfl, rfl, trivial⟩, hM.pick [0] rfl⟩
 rintro a w69 ⟨t57, rfl, hf, hM⟩
 try dsimp only at h
 rcases cond_some h with ⟨hc70, h⟩ | ⟨hc70, h⟩
 ·refine cond_t hf rfl hc70 ?_
  refine wp_seq ?_
  refine region_pl ?_
  refine q_ hf rfl rfl rfl (e_assign hf rfl) fun a hf => ?_
  refine pl_nil ?_
  refine then_n ?_
  refine wp_ret ?_
  refine then_r ?_
  obtain rfl := some_inj h
  have hM := hM.outs (own' := []) 0 rfl
  exact leave1 hf rfl rfl ⟨rfl, hM.fin⟩
 refine cond_f hf rfl hc70 ?_
 refine wp_skip ?_
 refine then_n ?_
 iterate 2 refine wp_seq ?_
 obtain ⟨w71, hw⟩ : ∃ x, x = w69.drew := ⟨_, rfl⟩
 refine region_pi (.q 0 (.q 1 (.l 2 (.l 3 (.q 4 (.nil)))))) (Ext w71) rfl (by kernel_rfl) ?_
 have hM := hM.drew
 rw [← hw] at hM ⊢
 clear hw
 refine pi_q hf rfl rfl rfl rfl (Ext.refl _) (e_loadA hf (us := [vL A35 (y33.Nodes) c36]) rfl ⟨Tryd.isAgg26, Tryd.sizeOf26⟩ rfl (hM.boxSub (k := 1) (us := [vL A35 (y33.Nodes) c36]) (o := 0) rfl rfl)) fun a hf => ?_
 refine pi_q hf rfl rfl rfl rfl (Ext.refl _) (e_loadA hf (us := [vL A2 (aD1.Nodes) c3]) rfl ⟨Tryd.isAgg48, Tryd.sizeOf48⟩ rfl (hM.boxSub (k := 3) (us := [vL A2 (aD1.Nodes) c3]) (o := 0) rfl rfl)) fun a hf => ?_
 refine pi_one ?_
 obtain ⟨y72, hz73, h⟩ := bind_some h
 refine pi_l hf rfl rfl rfl rfl (w_call hf Tryd.call25 rfl (r_laws_toDawg ⟨_, Sh C _ _, none_, hM.sh_lt, none_not, C.G, hM.g_lt, g_none, hM.tabs⟩ aD1 _ _ (hM.dat (k := 0) rfl) _ hz73) ?_)
 rintro _ w78 ⟨A74, c75, ws76, rfl, hM2, hw77⟩
 obtain ⟨hM, hx79, hup80⟩ := hM.back hM2
 try dsimp only [List.cons_append, List.nil_append] at hM hup80
 clear hM2
 have hM : Mem C _ (.row intRep A51 c52 2 y49.1 true :: .box b42 [vL A35 (y33.Nodes) c36] 26 :: .row intRep A27 c28 2 y25.1 true :: .box b5 [vL A2 (aD1.Nodes) c3] 48 :: (((nestW A18 c19 76 2 ws20) ++ nestW A35 c36 76 2 ws37) ++ nestW A74 c75 76 2 ws76)) _ := Mem.perm (own := (nestW A74 c75 76 2 ws76) ++ ([.row intRep A51 c52 2 y49.1 true, .box b42 [vL A35 (y33.Nodes) c36] 26, .row intRep A27 c28 2 y25.1 true, .box b5 [vL A2 (aD1.Nodes) c3] 48] ++ ((nestW A18 c19 76 2 ws20) ++ nestW A35 c36 76 2 ws37))) (own' := ([] ++ [.row intRep A51 c52 2 y49.1 true, .box b42 [vL A35 (y33.Nodes) c36] 26, .row intRep A27 c28 2 y25.1 true, .box b5 [vL A2 (aD1.Nodes) c3] 48]) ++ (((nestW A18 c19 76 2 ws20) ++ nestW A35 c36 76 2 ws37) ++ nestW A74 c75 76 2 ws76)) hM (fun a => by simp only [List.count_append, List.count_nil]; omega)
 refine ⟨_, rfl, Ext w78, fun _ h => Ext.trans hx79 h, Ext.refl _, fun a hf => ?_⟩
 refine pi_one ?_
 obtain ⟨y81, hz82, h⟩ := bind_some h
 refine pi_l hf rfl rfl rfl rfl (w_call hf Tryd.call27 rfl (r_laws_eqDawg ⟨_, All C _ _, none_, hM.all_lt, none_not, C.G, hM.g_lt, g_none, hM.tabs⟩ y33 _ _ (hM.lendNest (A := A35) (c := c36) (E := 76) (E2 := 2) (ws := ws37) (fun q hq => by simp [hq]) hw38) y72 _ _ (hM.lendNest (A := A74) (c := c75) (E := 76) (E2 := 2) (ws := ws76) (fun q hq => by simp [hq]) hw77) _ hz82) ?_)
 rintro _ w83 ⟨rfl, hM2⟩
 obtain ⟨hM, hx84⟩ := hM.backA hM2
 clear hM2
 refine ⟨_, rfl, Ext w83, fun _ h => Ext.trans hx84 h, Ext.refl _, fun a hf => ?_⟩
 refine pi_q hf rfl rfl rfl rfl (Ext.refl _) (e_not hf rfl) fun a hf => ?_
 refine pi_nil ?_
 refine then_n ?_
 rcases cond_some h with ⟨hc86, h⟩ | ⟨hc86, h⟩
 ·refine cond_t hf rfl hc86 ?_
  refine wp_seq ?_
  refine region_pl ?_
  refine q_ hf rfl rfl rfl (e_assign hf rfl) fun a hf => ?_
  refine pl_nil ?_
  refine then_n ?_
  refine wp_ret ?_
  refine then_r ?_
  obtain rfl := some_inj h
  have hM := hM.outs (own' := []) 0 rfl
  exact leave1 hf rfl rfl ⟨rfl, hM.fin⟩
 refine cond_f hf rfl hc86 ?_
 refine wp_skip ?_
 refine then_n ?_
 refine wp_seq ?_
 refine region_pl ?_
 refine q_ hf rfl rfl rfl (e_assign hf rfl) fun a hf => ?_
 refine pl_nil ?_
 refine then_n ?_
 refine wp_seq ?_
 refine region_pl ?_
 refine q_ hf rfl rfl rfl (e_loadA hf (us := [vL A35 (y33.Nodes) c36]) rfl ⟨Tryd.isAgg26, Tryd.sizeOf26⟩ rfl (hM.boxSub (k := 1) (us := [vL A35 (y33.Nodes) c36]) (o := 0) rfl rfl)) fun a hf => ?_
 refine q_ hf rfl rfl rfl (e_move hf rfl) fun a hf => ?_
 have hM : Mem C _ ((nestW A35 c36 76 2 ws37) ++ ([.row intRep A51 c52 2 y49.1 true, .box b42 [vL A35 (y33.Nodes) c36] 26, .row intRep A27 c28 2 y25.1 true, .box b5 [vL A2 (aD1.Nodes) c3] 48] ++ ((nestW A18 c19 76 2 ws20) ++ nestW A74 c75 76 2 ws76))) _ := Mem.perm (own := ([.row intRep A51 c52 2 y49.1 true, .box b42 [vL A35 (y33.Nodes) c36] 26, .row intRep A27 c28 2 y25.1 true, .box b5 [vL A2 (aD1.Nodes) c3] 48] ++ (((nestW A18 c19 76 2 ws20) ++ nestW A35 c36 76 2 ws37) ++ nestW A74 c75 76 2 ws76))) hM (fun a => by simp only [List.count_append, List.count_nil]; omega)
 obtain ⟨y87, hz88, h⟩ := bind_some h
 refine pl_l hf rfl rfl rfl (w_call hf Tryd.call32 rfl (r_laws_markDawg ⟨_, Sh C _ _, ownB _, hM.sh_lt, sub_dis, C.G, hM.g_lt, hM.g_own, hM.tabs⟩ y33 _ _ _ hw38 1 (R64_lit rfl) hM.sub sub_dis _ hz88) ?_)
 rintro _ w93 ⟨ws89, rfl, hM2, hw90, hl91, hv92⟩
 obtain ⟨hM, hup95⟩ := hM.backG hM2
 try dsimp only [List.cons_append, List.nil_append] at hM hup95
 clear hM2
 have hM : Mem C _ (.row intRep A51 c52 2 y49.1 true :: .box b42 [vL A35 (y33.Nodes) c36] 26 :: .row intRep A27 c28 2 y25.1 true :: .box b5 [vL A2 (aD1.Nodes) c3] 48 :: (((nestW A18 c19 76 2 ws20) ++ nestW A74 c75 76 2 ws76) ++ nestW A35 c36 76 2 ws89)) _ := Mem.perm (own := (nestW A35 c36 76 2 ws89) ++ ([.row intRep A51 c52 2 y49.1 true, .box b42 [vL A35 (y33.Nodes) c36] 26, .row intRep A27 c28 2 y25.1 true, .box b5 [vL A2 (aD1.Nodes) c3] 48] ++ ((nestW A18 c19 76 2 ws20) ++ nestW A74 c75 76 2 ws76))) (own' := ([] ++ [.row intRep A51 c52 2 y49.1 true, .box b42 [vL A35 (y33.Nodes) c36] 26, .row intRep A27 c28 2 y25.1 true, .box b5 [vL A2 (aD1.Nodes) c3] 48]) ++ (((nestW A18 c19 76 2 ws20) ++ nestW A74 c75 76 2 ws76) ++ nestW A35 c36 76 2 ws89)) hM (fun a => by simp only [List.count_append, List.count_nil]; omega)
 refine ⟨_, rfl, fun a hf => ?_⟩
 have hf := hf.alter (d := 41) (v := .agg #[vL A35 (y87.2) c36]) rfl (by rw [vL_len (A := A35) (c := c36) hl91])
 have hf := hf.alter (d := 46) (v := .agg #[vL A35 (y87.2) c36]) rfl (by rw [vL_len (A := A35) (c := c36) hl91])
 rw [vL_len (A := A35) (c := c36) hl91] at hM
 refine q_ hf rfl rfl rfl (e_assign hf rfl) fun a hf => ?_
 refine pl_nil ?_
 refine then_n ?_
 refine wp_seq ?_
 obtain ⟨x98, h99, h⟩ := bind_some h
 refine seq_join (fun a w => ∃ (t96 : Bool), t96 = x98 ∧ Has 96 a [(1, vP b5 (0)), (4, vL A27 (y25.1) c28), (5, vI (y25.2)), (7, vL A51 (y49.1) c52), (61, .bool (t96))] ∧ Mem C w (.row intRep A51 c52 2 y49.1 true :: .box b42 [vL A35 (y87.2) c36] 26 :: .row intRep A27 c28 2 y25.1 true :: .box b5 [vL A2 (aD1.Nodes) c3] 48 :: (((nestW A18 c19 76 2 ws20) ++ nestW A74 c75 76 2 ws76) ++ nestW A35 c36 76 2 ws89)) [.dat (sliceRep NodeRep) aD1.Nodes [vL A2 aD1.Nodes c3]]) ?_ ?_
 ·refine region_pl ?_
  refine q_ hf rfl rfl rfl (e_move hf rfl) fun a hf => ?_
  refine q_ hf rfl rfl rfl (e_lt hf (x := y87.1) (y := 0) rfl rfl) fun a hf => ?_
  refine q_ hf rfl rfl rfl (e_move hf rfl) fun a hf => ?_
  rcases cond_some h99 with ⟨hc100, h99⟩ | ⟨hc100, h99⟩
  ·iterate 4 refine pl_gs (wanted_f hf rfl rfl rfl rfl hc100) hf rfl rfl fun a hf => ?_
   refine q_ hf rfl rfl rfl (e_pick_t hf rfl hc100 rfl) fun a hf => ?_
   refine q_ hf rfl rfl rfl (e_move hf rfl) fun a hf => ?_
   iterate 3 refine pl_gs (wanted_f hf rfl rfl rfl rfl rfl) hf rfl rfl fun a hf => ?_
   refine q_ hf rfl rfl rfl (e_pick_t hf rfl rfl rfl) fun a hf => ?_
   refine pl_nil ?_
   obtain rfl := some_inj h99
   refine then_n ?_
   exact ⟨true, rfl, hf.keep ⟨rfl, rfl, rfl, rfl, rfl, trivial⟩, hM.pick [0] rfl⟩
  iterate 2 refine gq (wanted_t hf rfl rfl rfl rfl hc100) hf rfl rfl (e_move hf rfl) fun a hf => ?_
  obtain ⟨y102, hz103, h99⟩ := bind_some h99
  refine pl_gl (wanted_t hf rfl rfl rfl rfl hc100) hf rfl rfl (w_call hf Tryd.call31 rfl (r_laws_eqInt64S ⟨_, All C _ _, none_, hM.all_lt, none_not, C.G, hM.g_lt, g_none, hM.tabs⟩ y49.1 _ _ (hM.lendRow (k := 0) rfl) y25.1 _ _ (hM.lendRow (k := 2) rfl) _ hz103) ?_)
  rintro _ w104 ⟨rfl, hM2⟩
  obtain ⟨hM, hx105⟩ := hM.backA hM2
  clear hM2
  refine ⟨_, rfl, fun a hf => ?_⟩
  refine gq (wanted_t hf rfl rfl rfl rfl hc100) hf rfl rfl (e_not hf rfl) fun a hf => ?_
  refine q_ hf rfl rfl rfl (e_pick_f hf rfl hc100 rfl) fun a hf => ?_
  refine q_ hf rfl rfl rfl (e_move hf rfl) fun a hf => ?_
  rcases cond_some h99 with ⟨hc107, h99⟩ | ⟨hc107, h99⟩
  ·iterate 3 refine pl_gs (wanted_f hf rfl rfl rfl rfl hc107) hf rfl rfl fun a hf => ?_
   refine q_ hf rfl rfl rfl (e_pick_t hf rfl hc107 rfl) fun a hf => ?_
   refine pl_nil ?_
   obtain rfl := some_inj h99
   refine then_n ?_
   exact ⟨true, rfl, hf.keep ⟨rfl, rfl, rfl, rfl, rfl, trivial⟩, hM.pick [0] rfl⟩
  iterate 2 refine gq (wanted_t hf rfl rfl rfl rfl hc107) hf rfl rfl (e_move hf rfl) fun a hf => ?_
  refine gq (wanted_t hf rfl rfl rfl rfl hc107) hf rfl rfl (e_ne hf (x := y49.2) (y := y25.2) rfl rfl) fun a hf => ?_
  refine q_ hf rfl rfl rfl (e_pick_f hf rfl hc107 rfl) fun a hf => ?_
  refine pl_nil ?_
  obtain rfl := some_inj h99
  refine then_n ?_
  exact ⟨(y49.2 != y25.2), rfl, hf.keep ⟨rfl, rfl, rfl, rfl, rfl, trivial⟩, hM.pick [0] rfl⟩
 rintro a w110 ⟨t96, rfl, hf, hM⟩
 try dsimp only at h
 rcases cond_some h with ⟨hc111, h⟩ | ⟨hc111, h⟩
 ·refine cond_t hf rfl hc111 ?_
  refine wp_seq ?_
  refine region_pl ?_
  refine q_ hf rfl rfl rfl (e_assign hf rfl) fun a hf => ?_
  refine pl_nil ?_
  refine then_n ?_
  refine wp_ret ?_
  refine then_r ?_
  obtain rfl := some_inj h
  have hM := hM.outs (own' := []) 0 rfl
  exact leave1 hf rfl rfl ⟨rfl, hM.fin⟩
 refine cond_f hf rfl hc111 ?_
 refine wp_skip ?_
 refine then_n ?_
 refine wp_seq ?_
 refine region_pl ?_
 refine q_ hf rfl rfl rfl (e_assign hf rfl) fun a hf => ?_
 refine pl_nil ?_
 refine then_n ?_
 refine wp_seq ?_
 refine region_pl ?_
 iterate 2 refine q_ hf rfl rfl rfl (e_move hf rfl) fun a hf => ?_
 have hM : Mem C _ ([.row intRep A51 c52 2 y49.1 true] ++ (.box b42 [vL A35 (y87.2) c36] 26 :: .row intRep A27 c28 2 y25.1 true :: .box b5 [vL A2 (aD1.Nodes) c3] 48 :: (((nestW A18 c19 76 2 ws20) ++ nestW A74 c75 76 2 ws76) ++ nestW A35 c36 76 2 ws89))) _ := hM
 obtain ⟨y112, hz113, h⟩ := bind_some h
 refine pl_l hf rfl rfl rfl (w_call hf Tryd.call33 rfl (r_laws_markInt64S ⟨_, Sh C _ _, ownB _, hM.sh_lt, sub_dis, C.G, hM.g_lt, hM.g_own, hM.tabs⟩ y49.1 _ _ 1 (R64_lit rfl) hM.sub sub_dis _ hz113) ?_)
 rintro _ w116 ⟨rfl, hM2, hl114, hv115⟩
 obtain ⟨hM, hup118⟩ := hM.backG hM2
 try dsimp only [List.cons_append, List.nil_append] at hM hup118
 clear hM2
 refine ⟨_, rfl, fun a hf => ?_⟩
 have hf := hf.alter (d := 7) (v := vL A51 (y112.2) c52) rfl (vL_len hl114)
 have hf := hf.alter (d := 62) (v := vL A51 (y112.2) c52) rfl (vL_len hl114)
 refine q_ hf rfl rfl rfl (e_assign hf rfl) fun a hf => ?_
 refine pl_nil ?_
 refine then_n ?_
 refine wp_seq ?_
 refine region_pl ?_
 refine q_ hf rfl rfl rfl (e_assign hf rfl) fun a hf => ?_
 refine pl_nil ?_
 refine then_n ?_
 refine wp_seq ?_
 refine region_pl ?_
 iterate 2 refine q_ hf rfl rfl rfl (e_move hf rfl) fun a hf => ?_
 obtain ⟨y119, hz120, h⟩ := bind_some h
 refine pl_l hf rfl rfl rfl (w_call hf Tryd.call34 rfl (r_laws_heldInt64S ⟨_, All C _ _, none_, hM.all_lt, none_not, C.G, hM.g_lt, g_none, hM.tabs⟩ y112.2 _ _ (hM.lendRow (k := 0) rfl) 1 (R64_lit rfl) _ hz120) ?_)
 rintro _ w122 ⟨rfl, hM2, hv121⟩
 obtain ⟨hM, hx123⟩ := hM.backA hM2
 clear hM2
 refine ⟨_, rfl, fun a hf => ?_⟩
 refine q_ hf rfl rfl rfl (e_assign hf rfl) fun a hf => ?_
 refine pl_nil ?_
 refine then_n ?_
 iterate 2 refine wp_seq ?_
 refine region_pl ?_
 refine q_ hf rfl rfl rfl (e_move hf rfl) fun a hf => ?_
 refine q_ hf rfl rfl rfl (e_lt hf (x := y119) (y := 0) rfl rfl) fun a hf => ?_
 refine pl_nil ?_
 refine then_n ?_
 rcases cond_some h with ⟨hc125, h⟩ | ⟨hc125, h⟩
 ·refine cond_t hf rfl hc125 ?_
  refine wp_seq ?_
  refine region_pl ?_
  refine q_ hf rfl rfl rfl (e_assign hf rfl) fun a hf => ?_
  refine pl_nil ?_
  refine then_n ?_
  refine wp_ret ?_
  refine then_r ?_
  obtain rfl := some_inj h
  have hM := hM.outs (own' := []) 0 rfl
  exact leave1 hf rfl rfl ⟨rfl, hM.fin⟩
 refine cond_f hf rfl hc125 ?_
 refine wp_skip ?_
 refine then_n ?_
 iterate 2 refine wp_seq ?_
 refine region_pl ?_
 iterate 2 refine q_ hf rfl rfl rfl (e_move hf rfl) fun a hf => ?_
 refine q_ hf rfl rfl rfl (e_ne hf (x := y119) (y := y112.1) rfl rfl) fun a hf => ?_
 refine pl_nil ?_
 refine then_n ?_
 rcases cond_some h with ⟨hc126, h⟩ | ⟨hc126, h⟩
 ·refine cond_t hf rfl hc126 ?_
  refine wp_seq ?_
  refine region_pl ?_
  refine q_ hf rfl rfl rfl (e_assign hf rfl) fun a hf => ?_
  refine pl_nil ?_
  refine then_n ?_
  refine wp_ret ?_
  refine then_r ?_
  obtain rfl := some_inj h
  have hM := hM.outs (own' := []) 0 rfl
  exact leave1 hf rfl rfl ⟨rfl, hM.fin⟩
 refine cond_f hf rfl hc126 ?_
 refine wp_skip ?_
 refine then_n ?_
 refine wp_seq ?_
 refine region_pl ?_
 refine q_ hf rfl rfl rfl (e_loadA hf (us := [vL A2 (aD1.Nodes) c3]) rfl ⟨Tryd.isAgg48, Tryd.sizeOf48⟩ rfl (hM.boxSub (k := 3) (us := [vL A2 (aD1.Nodes) c3]) (o := 0) rfl rfl)) fun a hf => ?_
 obtain ⟨y127, hz128, h⟩ := bind_some h
 refine pl_l hf rfl rfl rfl (w_call hf Tryd.call25 rfl (r_laws_toDawg ⟨_, Sh C _ _, none_, hM.sh_lt, none_not, C.G, hM.g_lt, g_none, hM.tabs⟩ aD1 _ _ (hM.dat (k := 0) rfl) _ hz128) ?_)
 rintro _ w133 ⟨A129, c130, ws131, rfl, hM2, hw132⟩
 obtain ⟨hM, hx134, hup135⟩ := hM.back hM2
 try dsimp only [List.cons_append, List.nil_append] at hM hup135
 clear hM2
 have hM : Mem C _ (.row intRep A51 c52 2 y112.2 true :: .box b42 [vL A35 (y87.2) c36] 26 :: .row intRep A27 c28 2 y25.1 true :: .box b5 [vL A2 (aD1.Nodes) c3] 48 :: ((((nestW A18 c19 76 2 ws20) ++ nestW A74 c75 76 2 ws76) ++ nestW A35 c36 76 2 ws89) ++ nestW A129 c130 76 2 ws131)) _ := Mem.perm (own := (nestW A129 c130 76 2 ws131) ++ ([.row intRep A51 c52 2 y112.2 true, .box b42 [vL A35 (y87.2) c36] 26, .row intRep A27 c28 2 y25.1 true, .box b5 [vL A2 (aD1.Nodes) c3] 48] ++ (((nestW A18 c19 76 2 ws20) ++ nestW A74 c75 76 2 ws76) ++ nestW A35 c36 76 2 ws89))) (own' := ([] ++ [.row intRep A51 c52 2 y112.2 true, .box b42 [vL A35 (y87.2) c36] 26, .row intRep A27 c28 2 y25.1 true, .box b5 [vL A2 (aD1.Nodes) c3] 48]) ++ ((((nestW A18 c19 76 2 ws20) ++ nestW A74 c75 76 2 ws76) ++ nestW A35 c36 76 2 ws89) ++ nestW A129 c130 76 2 ws131)) hM (fun a => by simp only [List.count_append, List.count_nil]; omega)
 refine ⟨_, rfl, fun a hf => ?_⟩
 obtain ⟨y136, hz137, h⟩ := bind_some h
 refine pl_l hf rfl rfl rfl (w_call hf Tryd.call15 rfl (r_impl_CountsOf ⟨_, All C _ _, none_, hM.all_lt, none_not, C.G, hM.g_lt, g_none, hM.tabs⟩ y127 _ _ (hM.lendNest (A := A129) (c := c130) (E := 76) (E2 := 2) (ws := ws131) (fun q hq => by simp [hq]) hw132) _ hz137) ?_)
 rintro _ w141 ⟨A138, c139, rfl, hM2, hv140⟩
 obtain ⟨hM, hx142⟩ := hM.backAF intRep_flat hM2
 clear hM2
 refine ⟨_, rfl, fun a hf => ?_⟩
 refine q_ hf rfl rfl rfl (e_move hf rfl) fun a hf => ?_
 iterate 2 refine q_ hf rfl rfl rfl (e_extract hf rfl rfl) fun a hf => ?_
 iterate 2 refine q_ hf rfl rfl rfl (e_assign hf rfl) fun a hf => ?_
 refine pl_nil ?_
 refine then_n ?_
 refine wp_seq ?_
 obtain ⟨x146, h147, h⟩ := bind_some h
 refine seq_join (fun a w => ∃ (t144 : Bool), t144 = x146 ∧ Has 96 a [(7, vL A51 (y112.2) c52), (10, vI (y112.1)), (87, .bool (t144))] ∧ Mem C w (.row intRep A138 c139 2 y136.1 true :: .row intRep A51 c52 2 y112.2 true :: .box b42 [vL A35 (y87.2) c36] 26 :: .row intRep A27 c28 2 y25.1 true :: .box b5 [vL A2 (aD1.Nodes) c3] 48 :: ((((nestW A18 c19 76 2 ws20) ++ nestW A74 c75 76 2 ws76) ++ nestW A35 c36 76 2 ws89) ++ nestW A129 c130 76 2 ws131)) [.dat (sliceRep NodeRep) aD1.Nodes [vL A2 aD1.Nodes c3]]) ?_ ?_
 ·refine region_pl ?_
  iterate 2 refine q_ hf rfl rfl rfl (e_move hf rfl) fun a hf => ?_
  obtain ⟨y148, hz149, h147⟩ := bind_some h147
  refine pl_l hf rfl rfl rfl (w_call hf Tryd.call31 rfl (r_laws_eqInt64S ⟨_, All C _ _, none_, hM.all_lt, none_not, C.G, hM.g_lt, g_none, hM.tabs⟩ y136.1 _ _ (hM.lendRow (k := 0) rfl) y25.1 _ _ (hM.lendRow (k := 3) rfl) _ hz149) ?_)
  rintro _ w150 ⟨rfl, hM2⟩
  obtain ⟨hM, hx151⟩ := hM.backA hM2
  clear hM2
  refine ⟨_, rfl, fun a hf => ?_⟩
  refine q_ hf rfl rfl rfl (e_not hf rfl) fun a hf => ?_
  refine q_ hf rfl rfl rfl (e_move hf rfl) fun a hf => ?_
  rcases cond_some h147 with ⟨hc153, h147⟩ | ⟨hc153, h147⟩
  ·iterate 3 refine pl_gs (wanted_f hf rfl rfl rfl rfl hc153) hf rfl rfl fun a hf => ?_
   refine q_ hf rfl rfl rfl (e_pick_t hf rfl hc153 rfl) fun a hf => ?_
   refine pl_nil ?_
   obtain rfl := some_inj h147
   refine then_n ?_
   exact ⟨true, rfl, hf.keep ⟨rfl, rfl, rfl, trivial⟩, hM.pick [0] rfl⟩
  iterate 2 refine gq (wanted_t hf rfl rfl rfl rfl hc153) hf rfl rfl (e_move hf rfl) fun a hf => ?_
  refine gq (wanted_t hf rfl rfl rfl rfl hc153) hf rfl rfl (e_ne hf (x := y136.2) (y := y25.2) rfl rfl) fun a hf => ?_
  refine q_ hf rfl rfl rfl (e_pick_f hf rfl hc153 rfl) fun a hf => ?_
  refine pl_nil ?_
  obtain rfl := some_inj h147
  refine then_n ?_
  exact ⟨(y136.2 != y25.2), rfl, hf.keep ⟨rfl, rfl, rfl, trivial⟩, hM.pick [0] rfl⟩
 rintro a w156 ⟨t144, rfl, hf, hM⟩
 try dsimp only at h
 rcases cond_some h with ⟨hc157, h⟩ | ⟨hc157, h⟩
 ·refine cond_t hf rfl hc157 ?_
  refine wp_seq ?_
  refine region_pl ?_
  refine q_ hf rfl rfl rfl (e_assign hf rfl) fun a hf => ?_
  refine pl_nil ?_
  refine then_n ?_
  refine wp_ret ?_
  refine then_r ?_
  obtain rfl := some_inj h
  have hM := hM.outs (own' := []) 0 rfl
  exact leave1 hf rfl rfl ⟨rfl, hM.fin⟩
 refine cond_f hf rfl hc157 ?_
 refine wp_skip ?_
 refine then_n ?_
 refine wp_seq ?_
 refine region_pl ?_
 refine q_ hf rfl rfl rfl (e_assign hf rfl) fun a hf => ?_
 refine pl_nil ?_
 refine then_n ?_
 refine wp_seq ?_
 refine region_pl ?_
 iterate 2 refine q_ hf rfl rfl rfl (e_move hf rfl) fun a hf => ?_
 obtain ⟨y158, hz159, h⟩ := bind_some h
 refine pl_l hf rfl rfl rfl (w_call hf Tryd.call34 rfl (r_laws_heldInt64S ⟨_, All C _ _, none_, hM.all_lt, none_not, C.G, hM.g_lt, g_none, hM.tabs⟩ y112.2 _ _ (hM.lendRow (k := 1) rfl) 1 (R64_lit rfl) _ hz159) ?_)
 rintro _ w161 ⟨rfl, hM2, hv160⟩
 obtain ⟨hM, hx162⟩ := hM.backA hM2
 clear hM2
 refine ⟨_, rfl, fun a hf => ?_⟩
 refine q_ hf rfl rfl rfl (e_assign hf rfl) fun a hf => ?_
 refine pl_nil ?_
 refine then_n ?_
 iterate 2 refine wp_seq ?_
 refine region_pl ?_
 refine q_ hf rfl rfl rfl (e_move hf rfl) fun a hf => ?_
 refine q_ hf rfl rfl rfl (e_lt hf (x := y158) (y := 0) rfl rfl) fun a hf => ?_
 refine pl_nil ?_
 refine then_n ?_
 rcases cond_some h with ⟨hc164, h⟩ | ⟨hc164, h⟩
 ·refine cond_t hf rfl hc164 ?_
  refine wp_seq ?_
  refine region_pl ?_
  refine q_ hf rfl rfl rfl (e_assign hf rfl) fun a hf => ?_
  refine pl_nil ?_
  refine then_n ?_
  refine wp_ret ?_
  refine then_r ?_
  obtain rfl := some_inj h
  have hM := hM.outs (own' := []) 0 rfl
  exact leave1 hf rfl rfl ⟨rfl, hM.fin⟩
 refine cond_f hf rfl hc164 ?_
 refine wp_skip ?_
 refine then_n ?_
 iterate 2 refine wp_seq ?_
 refine region_pl ?_
 iterate 2 refine q_ hf rfl rfl rfl (e_move hf rfl) fun a hf => ?_
 refine q_ hf rfl rfl rfl (e_ne hf (x := y158) (y := y112.1) rfl rfl) fun a hf => ?_
 refine pl_nil ?_
 refine then_n ?_
 rcases cond_some h with ⟨hc165, h⟩ | ⟨hc165, h⟩
 ·refine cond_t hf rfl hc165 ?_
  refine wp_seq ?_
  refine region_pl ?_
  refine q_ hf rfl rfl rfl (e_assign hf rfl) fun a hf => ?_
  refine pl_nil ?_
  refine then_n ?_
  refine wp_ret ?_
  refine then_r ?_
  obtain rfl := some_inj h
  have hM := hM.outs (own' := []) 0 rfl
  exact leave1 hf rfl rfl ⟨rfl, hM.fin⟩
 refine cond_f hf rfl hc165 ?_
 refine wp_skip ?_
 refine then_n ?_
 refine wp_seq ?_
 refine region_pl ?_
 refine q_ hf rfl rfl rfl (e_assign hf rfl) fun a hf => ?_
 refine pl_nil ?_
 refine then_n ?_
 refine wp_ret ?_
 obtain rfl := some_inj h
 have hM := hM.outs (own' := []) 0 rfl
 exact leave1 hf rfl rfl ⟨rfl, hM.fin⟩

end Go.Proofs.YtdaoecpkgobelaaDoor
