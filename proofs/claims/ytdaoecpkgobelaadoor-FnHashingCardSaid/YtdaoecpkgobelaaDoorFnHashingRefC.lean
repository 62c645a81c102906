/- The functions that this law reaches do what their models say. Printed by gen.py. -/
import Derived.Test.YtdaoecpkgobelaaDoorMod
import Derived.Test.YtdaoecpkgobelaaDoorLib
import Derived.Test.YtdaoecpkgobelaaDoorFnHashingRefB
namespace Go.Proofs.YtdaoecpkgobelaaDoor
open Go Go.RowKit
set_option linter.unusedSimpArgs false
set_option linter.unusedVariables false

def Ct_impl_Dawg_behind_1 (rc : Int → (List (Int × Int)) → Dawg → Option (Int × (List (Int × Int)))) : Prop := ∀ (C : Cx) (node1 : Int) (hp2 : R64 node1) (p3 : (List (Int × Int))) (b4 : Nat) (b5 : Nat) (hp6 : MapR p3) (p7 : Dawg) (b8 : Nat) (o9 : Nat) (hp10 : (ptrRep DawgRep).R C.w0 C.S0 p7 [vP b8 o9]) (b12 : Nat) (o13 : Nat) (hp14 : Shr.good C.w0 C.S0 (.lit b12 (o13) [.func (.func 79) #[] #[vP b4 (0), vP b8 (o9), vP b12 (o13)]])) (hO : Mem C C.w0 [.box b4 [vM b5] 115, .obj b5 (mapO fI fI p3)] []) (hd : ∀ b, C.S0 b → ¬ ownB [.box b4 [vM b5] 115, .obj b5 (mapO fI fI p3)] b) (r : (Int × (List (Int × Int)))) (h : rc node1 p3 p7 = some r),
    Calls Tryd.prog 79 #[vI (node1), vP b4 (0), vP b8 (o9), vP b12 (o13)] C.w0 fun e w => ∃ (b_1 : Nat), e = .returned (vI (r.1)) ∧ Mem C w [.box b4 [vM b_1] 115, .obj b_1 (mapO fI fI r.2)] [] ∧ MapR r.2 ∧ R64 r.1

set_option maxRecDepth 100000 in
set_option maxHeartbeats 4000000 in
theorem r_impl_Dawg_behind_1_b (rc : Int → (List (Int × Int)) → Dawg → Option (Int × (List (Int × Int)))) (ih : Ct_impl_Dawg_behind_1 rc) : Ct_impl_Dawg_behind_1 (m_impl_Dawg_behind_1_b rc) := by
 intro C node1 hp2 p3 b4 b5 hp6 p7 b8 o9 hp10 b12 o13 hp14 hO hd r h
 have hM := hO
 have hM := hM.addIn hd (y := .dat (ptrRep DawgRep) p7 [vP b8 o9]) hp10
 have hM := hM.addIn hd (y := .lit b12 (o13) [.func (.func 79) #[] #[vP b4 (0), vP b8 (o9), vP b12 (o13)]]) hp14
 refine enter Tryd.func79 rfl Tryd.ntmps79 rfl fun a hf => ?_
 unfold m_impl_Dawg_behind_1_b at h
 refine wp_seq ?_
 refine region_pl ?_
 refine q_ hf rfl rfl rfl (e_assign hf rfl) fun a hf => ?_
 refine pl_nil ?_
 refine then_n ?_
 iterate 2 refine wp_seq ?_
 refine region_pl ?_
 refine q_ hf rfl rfl rfl (e_load1 hf rfl Tryd.isAgg115 (hM.boxCell (k := 0) rfl rfl)) fun a hf => ?_
 refine q_ hf rfl rfl rfl (e_move hf rfl) fun a hf => ?_
 refine q_ hf rfl rfl rfl (e_lookupOk (fk := fI) (fv := fI) hf (keyI Tryd.underlying2) Tryd.underlying115 (k := node1) (z := 0) rfl rfl Tryd.zeroValue2 (hM.ownAt (k := 1) rfl)) fun a hf => ?_
 refine q_ hf rfl rfl rfl (e_move hf rfl) fun a hf => ?_
 iterate 2 refine q_ hf rfl rfl rfl (e_extract hf rfl rfl) fun a hf => ?_
 iterate 2 refine q_ hf rfl rfl rfl (e_assign hf rfl) fun a hf => ?_
 refine pl_nil ?_
 refine then_n ?_
 refine wp_seq ?_
 refine region_pl ?_
 refine q_ hf rfl rfl rfl (e_move hf rfl) fun a hf => ?_
 refine pl_nil ?_
 refine then_n ?_
 rcases cond_some h with ⟨hc15, h⟩ | ⟨hc15, h⟩
 ·refine cond_t hf rfl hc15 ?_
  refine wp_seq ?_
  refine region_pl ?_
  refine q_ hf rfl rfl rfl (e_move hf rfl) fun a hf => ?_
  refine q_ hf rfl rfl rfl (e_assign hf rfl) fun a hf => ?_
  refine pl_nil ?_
  refine then_n ?_
  refine wp_ret ?_
  refine then_r ?_
  obtain rfl := some_inj h
  exact leave1 hf rfl rfl ⟨b5, rfl, hM.fin, hp6, (hp6.get _)⟩
 refine cond_f hf rfl hc15 ?_
 refine wp_skip ?_
 refine then_n ?_
 refine wp_seq ?_
 refine region_pl ?_
 refine q_ hf rfl rfl rfl (e_assign hf rfl) fun a hf => ?_
 refine pl_nil ?_
 refine then_n ?_
 obtain ⟨x18, h19, h⟩ := bind_some h
 refine seq_join (fun a w => ∃ (n16 : Int), n16 = x18 ∧ Has 46 a [(0, vI (node1)), (1, vP b4 (0)), (2, vP b8 (o9)), (3, vP b12 (o13)), (8, vI (n16))] ∧ Mem C w [.box b4 [vM b5] 115, .obj b5 (mapO fI fI p3)] [.lit b12 (o13) [.func (.func 79) #[] #[vP b4 (0), vP b8 (o9), vP b12 (o13)]], .dat (ptrRep DawgRep) p7 [vP b8 o9]] ∧ R64 n16) ?_ ?_
 ·refine wp_seq ?_
  refine region_pl ?_
  obtain ⟨_, hr20, hM⟩ := hM.deref (hM.dat (k := 1) rfl)
  obtain ⟨A21, c22, rfl, hv23⟩ := DawgRep_open hr20
  have hM := hM.add (y := .dat (sliceRep NodeRep) p7.Nodes [vL A21 p7.Nodes c22]) hv23
  refine q_ hf rfl rfl rfl (e_field hf rfl Tryd.underlying26 rfl Tryd.sizeOf24 (o' := o9 + 0) rfl) fun a hf => ?_
  refine q_ hf rfl rfl rfl (e_load1 hf rfl Tryd.isAgg24 (hM.litCell (k := 1) (j := 0) rfl rfl rfl)) fun a hf => ?_
  refine q_ hf rfl rfl rfl (e_move hf rfl) fun a hf => ?_
  obtain ⟨e24, hz25, h19⟩ := bind_some h19
  obtain ⟨b29, o30, _, hA31, h26, h27, hr28, hM⟩ := hM.elem (hM.dat (k := 0) rfl) (n := 3) rfl hz25
  obtain ⟨A33, c34, rfl, hv32, hv35⟩ := NodeRep_open hr28
  have hM := hM.add (y := .dat (sliceRep intRep) e24.Next [vL A33 e24.Next c34]) hv35
  refine q_ hf rfl rfl rfl (e_indexAddr (A := A21) (b := b29) (o := o30) (xs := p7.Nodes) (i := node1) hf hA31 rfl rfl Tryd.underlying24 Tryd.sizeOf76 h26 h27) fun a hf => ?_
  refine q_ hf rfl rfl rfl (e_field hf rfl Tryd.underlying76 rfl Tryd.sizeOf4 (o' := (o30 + (node1 : Int).toNat * 3) + 0) rfl) fun a hf => ?_
  refine q_ hf rfl rfl rfl (e_load1 hf rfl Tryd.isAgg4 (hM.litCell (k := 1) (j := 0) rfl rfl rfl)) fun a hf => ?_
  refine pl_nil ?_
  refine then_n ?_
  rcases cond_some h19 with ⟨hc36, h19⟩ | ⟨hc36, h19⟩
  ·refine cond_t hf rfl hc36 ?_
   refine region_pl ?_
   refine q_ hf rfl rfl rfl (e_assign hf rfl) fun a hf => ?_
   refine pl_nil ?_
   obtain rfl := some_inj h19
   refine then_n ?_
   exact ⟨1, rfl, hf.keep ⟨rfl, rfl, rfl, rfl, rfl, trivial⟩, hM.pick [4, 5] rfl, (R64_lit rfl)⟩
  refine cond_f hf rfl hc36 ?_
  refine wp_skip ?_
  obtain rfl := some_inj h19
  refine then_n ?_
  exact ⟨0, rfl, hf.keep ⟨rfl, rfl, rfl, rfl, rfl, trivial⟩, hM.pick [4, 5] rfl, (R64_lit rfl)⟩
 rintro a w39 ⟨n16, rfl, hf, hM, hv17⟩
 try dsimp only at h
 obtain ⟨x45, h46, h⟩ := bind_some h
 refine seq_join (fun a w => ∃ (mp40 : (List (Int × Int))) (n43 : Int) (b41 : Nat), (mp40, n43) = x45 ∧ Has 46 a [(0, vI (node1)), (1, vP b4 (0)), (8, vI (n43))] ∧ Mem C w [.box b4 [vM b41] 115, .obj b41 (mapO fI fI mp40)] [.lit b12 (o13) [.func (.func 79) #[] #[vP b4 (0), vP b8 (o9), vP b12 (o13)]], .dat (ptrRep DawgRep) p7 [vP b8 o9]] ∧ MapR mp40 ∧ R64 n43) ?_ ?_
 ·refine wp_seq ?_
  refine region_pl ?_
  obtain ⟨_, hr47, hM⟩ := hM.deref (hM.dat (k := 1) rfl)
  obtain ⟨A48, c49, rfl, hv50⟩ := DawgRep_open hr47
  have hM := hM.add (y := .dat (sliceRep NodeRep) p7.Nodes [vL A48 p7.Nodes c49]) hv50
  refine q_ hf rfl rfl rfl (e_field hf rfl Tryd.underlying26 rfl Tryd.sizeOf24 (o' := o9 + 0) rfl) fun a hf => ?_
  refine q_ hf rfl rfl rfl (e_load1 hf rfl Tryd.isAgg24 (hM.litCell (k := 1) (j := 0) rfl rfl rfl)) fun a hf => ?_
  refine q_ hf rfl rfl rfl (e_move hf rfl) fun a hf => ?_
  obtain ⟨e51, hz52, h46⟩ := bind_some h46
  obtain ⟨b56, o57, _, hA58, h53, h54, hr55, hM⟩ := hM.elem (hM.dat (k := 0) rfl) (n := 3) rfl hz52
  obtain ⟨A60, c61, rfl, hv59, hv62⟩ := NodeRep_open hr55
  have hM := hM.add (y := .dat (sliceRep intRep) e51.Next [vL A60 e51.Next c61]) hv62
  refine q_ hf rfl rfl rfl (e_indexAddr (A := A48) (b := b56) (o := o57) (xs := p7.Nodes) (i := node1) hf hA58 rfl rfl Tryd.underlying24 Tryd.sizeOf76 h53 h54) fun a hf => ?_
  refine q_ hf rfl rfl rfl (e_field hf rfl Tryd.underlying76 rfl Tryd.sizeOf31 (o' := (o57 + (node1 : Int).toNat * 3) + 2) rfl) fun a hf => ?_
  refine q_ hf rfl rfl rfl (e_load1 hf rfl Tryd.isAgg31 (hM.litCell (k := 1) (j := 2) rfl rfl rfl)) fun a hf => ?_
  have hl63 := slice_len (hM.dat (k := 0) rfl)
  refine q_ hf rfl rfl rfl (e_lenL hf (x := e51.Next) rfl Tryd.underlying31) fun a hf => ?_
  refine q_ hf rfl rfl rfl (e_move hf rfl) fun a hf => ?_
  refine pl_nil ?_
  refine then_n ?_
  refine wp_block ?_
  obtain ⟨x77, h78, h46⟩ := bind_some h46
  refine wp_loopM h78 (fun s a w => ∃ (mp64 : (List (Int × Int))) (n67 : Int) (n69 : Int) (b65 : Nat), (mp64, n67, n69) = s ∧ Has 46 a [(0, vI (node1)), (1, vP b4 (0)), (3, vP b12 (o13)), (8, vI (n69)), (30, vL A60 (e51.Next) c61), (31, vI ((e51.Next.length : Int))), (32, vI (n67))] ∧ Mem C w [.box b4 [vM b65] 115, .obj b65 (mapO fI fI mp64)] [.dat (sliceRep intRep) e51.Next [vL A60 e51.Next c61], .lit b56 (o57 + (node1 : Int).toNat * 3) [.bool (e51.Final), vS (e51.Letters), vL A60 (e51.Next) c61], .dat (sliceRep NodeRep) p7.Nodes [vL A48 p7.Nodes c49], .lit b8 (o9) [vL A48 (p7.Nodes) c49], .lit b12 (o13) [.func (.func 79) #[] #[vP b4 (0), vP b8 (o9), vP b12 (o13)]], .dat (ptrRep DawgRep) p7 [vP b8 o9]] ∧ MapR mp64 ∧ R64 n67 ∧ R64 n69) ?_ ?_
  ·exact ⟨p3, 0, n16, b5, rfl, hf.keep ⟨rfl, rfl, rfl, rfl, rfl, rfl, rfl, trivial⟩, hM.pick [0, 1, 2, 3, 4, 5] rfl, hp6, (R64_lit rfl), hv17⟩
  rintro s o79 a w71 ⟨mp64, n67, n69, b65, rfl, hf, hM, hv66, hv68, hv70⟩ h80 hd81
  replace h80 : m_impl_Dawg_behind_1_l1 e51 rc p7 mp64 n67 n69 = some o79 := h80
  unfold m_impl_Dawg_behind_1_l1 at h80
  refine wp_seq ?_
  refine region_pl ?_
  refine q_ hf rfl rfl rfl (e_lt hf (x := n67) (y := (e51.Next.length : Int)) rfl rfl) fun a hf => ?_
  refine pl_nil ?_
  refine then_n ?_
  refine wp_seq ?_
  rcases cond_some h80 with ⟨hc82, h80⟩ | ⟨hc82, h80⟩
  ·refine cond_t hf rfl hc82 ?_
   refine wp_skip ?_
   refine then_n ?_
   refine wp_seq ?_
   refine wp_block ?_
   refine wp_seq ?_
   refine region_pl ?_
   obtain ⟨e83, hz84, h80⟩ := bind_some h80
   obtain ⟨b88, o89, _, hA90, h85, h86, hr87, hM⟩ := hM.elem (hM.dat (k := 0) rfl) (n := 1) rfl hz84
   obtain ⟨rfl, hv91⟩ := hr87
   refine q_ hf rfl rfl rfl (e_indexAddr (A := A60) (b := b88) (o := o89) (xs := e51.Next) (i := n67) hf hA90 rfl rfl Tryd.underlying31 Tryd.sizeOf2 h85 h86) fun a hf => ?_
   refine q_ hf rfl rfl rfl (e_load1 hf rfl Tryd.isAgg2 (hM.litCell (k := 0) (j := 0) rfl rfl rfl)) fun a hf => ?_
   refine q_ hf rfl rfl rfl (e_assign hf rfl) fun a hf => ?_
   refine pl_nil ?_
   refine then_n ?_
   refine region_pl ?_
   refine q_ hf rfl rfl rfl (e_move hf rfl) fun a hf => ?_
   refine q_ hf rfl rfl rfl (e_load1 hf rfl Tryd.isAgg116 (hM.litCell (k := 5) (j := 0) rfl rfl rfl)) fun a hf => ?_
   refine q_ hf rfl rfl rfl (e_move hf rfl) fun a hf => ?_
   have hM : Mem C _ ([.box b4 [vM b65] 115, .obj b65 (mapO fI fI mp64)] ++ []) _ := hM
   obtain ⟨y92, hz93, h80⟩ := bind_some h80
   refine pl_l hf rfl rfl rfl (w_callV hf (fk := 79) (fc := [vP b4 (0), vP b8 (o9), vP b12 (o13)]) rfl Tryd.call79 rfl (ih ⟨_, Sh C _ _, ownB _, hM.sh_lt, sub_dis, C.G, hM.g_lt, hM.g_own, hM.tabs⟩ e83 hv91 mp64 _ _ hv66 p7 _ _ (hM.dat (k := 6) rfl) _ _ (hM.at_ (k := 5) rfl) hM.sub sub_dis _ hz93) ?_)
   rintro _ w97 ⟨b94, rfl, hM2, hv95, hv96⟩
   obtain ⟨hM, hup99⟩ := hM.backG hM2
   dsimp only [List.cons_append, List.nil_append] at hM hup99
   clear hM2
   refine ⟨_, rfl, fun a hf => ?_⟩
   obtain ⟨z100, hz101, h80⟩ := bind_some h80
   refine q_ hf rfl rfl rfl (e_add hf rfl rfl hz101) fun a hf => ?_
   refine q_ hf rfl rfl rfl (e_assign hf rfl) fun a hf => ?_
   refine pl_nil ?_
   refine blk_n ?_
   refine then_n ?_
   refine region_pl ?_
   obtain ⟨z102, hz103, h80⟩ := bind_some h80
   refine q_ hf rfl rfl rfl (e_add hf rfl rfl hz103) fun a hf => ?_
   refine q_ hf rfl rfl rfl (e_move hf rfl) fun a hf => ?_
   refine pl_nil ?_
   obtain rfl := some_inj h80
   refine then_n ⟨_, rfl, ?_⟩
   exact ⟨y92.2, z102, z100, b94, rfl, hf.keep ⟨rfl, rfl, rfl, rfl, rfl, rfl, rfl, trivial⟩, hM.pick [1, 2, 3, 4, 5, 6] rfl, hv95, (chk_R hz103), (chk_R hz101)⟩
  refine cond_f hf rfl hc82 ?_
  refine wp_exit ?_
  refine then_x ?_
  obtain rfl := some_inj h80
  obtain rfl := hd81 _ rfl
  try dsimp only at h46
  refine then_x ?_
  refine exit_hit ?_
  obtain rfl := some_inj h46
  refine then_n ?_
  exact ⟨mp64, n69, b65, rfl, hf.keep ⟨rfl, rfl, rfl, trivial⟩, hM.pick [4, 5] rfl, hv66, hv70⟩
 rintro a w109 ⟨mp40, n43, b41, rfl, hf, hM, hv42, hv44⟩
 try dsimp only at h
 refine wp_seq ?_
 refine region_pl ?_
 refine q_ hf rfl rfl rfl (e_load1 hf rfl Tryd.isAgg115 (hM.boxCell (k := 0) rfl rfl)) fun a hf => ?_
 iterate 2 refine q_ hf rfl rfl rfl (e_move hf rfl) fun a hf => ?_
 refine pl_0 hf rfl rfl (w_mapUpdate (fk := fI) (fv := fI) hf hM (keyI Tryd.underlying2) Tryd.underlying115 (k := node1) (v := n43) rfl rfl rfl (n := 1) rfl fun w110 hM => ?_)
 dsimp only [List.set] at hM
 refine pl_nil ?_
 refine then_n ?_
 refine wp_seq ?_
 refine region_pl ?_
 refine q_ hf rfl rfl rfl (e_move hf rfl) fun a hf => ?_
 refine q_ hf rfl rfl rfl (e_assign hf rfl) fun a hf => ?_
 refine pl_nil ?_
 refine then_n ?_
 refine wp_ret ?_
 obtain rfl := some_inj h
 exact leave1 hf rfl rfl ⟨b41, rfl, hM.fin, (hv42.put hv44), hv44⟩

theorem r_impl_Dawg_behind_1_n : ∀ n, Ct_impl_Dawg_behind_1 (m_impl_Dawg_behind_1_n n)
  | 0 => fun C node1 hp2 p3 b4 b5 hp6 p7 b8 o9 hp10 b12 o13 hp14 hO hd r h => by cases h
  | n + 1 => r_impl_Dawg_behind_1_b _ (r_impl_Dawg_behind_1_n n)

theorem r_impl_Dawg_behind_1 : Ct_impl_Dawg_behind_1 (m_impl_Dawg_behind_1) := r_impl_Dawg_behind_1_n fuelN

set_option maxRecDepth 100000 in
set_option maxHeartbeats 4000000 in
theorem r_impl_Dawg_behind (C : Cx) (d1 : Dawg) (A2 : Option Addr) (c3 : Nat) (hp4 : (sliceRep NodeRep).R C.w0 C.S0 d1.Nodes [vL A2 d1.Nodes c3]) (r : (List Int)) (h : m_impl_Dawg_behind d1 = some r) :
    Calls Tryd.prog 46 #[.agg #[vL A2 (d1.Nodes) c3]] C.w0 fun e w => ∃ (A_1 : Option Addr), ∃ (c_1 : Nat), e = .returned (vL A_1 (r) c_1) ∧ Mem C w [.row intRep A_1 c_1 2 r true] [] := by
 have hM := Mem.begin C [.dat (sliceRep NodeRep) d1.Nodes [vL A2 d1.Nodes c3]] ⟨hp4, trivial⟩
 refine enter Tryd.func46 rfl Tryd.ntmps46 rfl fun a hf => ?_
 unfold m_impl_Dawg_behind at h
 refine wp_seq ?_
 refine region_pl ?_
 refine pl_l hf rfl rfl rfl (w_box hf hM (cs := [vL A2 (d1.Nodes) c3]) rfl rfl fun b5 w6 hx7 hM a hf => ?_)
 refine q_ hf rfl rfl rfl (e_assign hf rfl) fun a hf => ?_
 refine pl_nil ?_
 refine then_n ?_
 refine wp_seq ?_
 refine region_pl ?_
 refine pl_l hf rfl rfl rfl (w_makeMap fI fI hM fun b9 w10 hx11 hM a hf => ?_)
 refine pl_l hf rfl rfl rfl (w_alloc hM (cs := [.map none]) Tryd.zeroValue115 rfl fun b12 w13 hx14 hM a hf => ?_)
 refine pl_0 hf rfl rfl (w_store hf hM (us := [vM b9]) (cs' := [vM b9]) rfl rfl (k := 0) rfl rfl Tryd.sizeOf115 rfl rfl rfl fun w16 hM => ?_)
 dsimp only [List.set] at hM
 refine pl_nil ?_
 refine then_n ?_
 refine wp_seq ?_
 refine region_pl ?_
 refine pl_l hf rfl rfl rfl (w_alloc hM (cs := [.nilFunc]) Tryd.zeroValue116 rfl fun b19 w20 hx21 hM a hf => ?_)
 refine pl_nil ?_
 refine then_n ?_
 refine wp_seq ?_
 refine region_pl ?_
 refine q_ hf rfl rfl rfl (w_makeFunc hf rfl) fun a hf => ?_
 refine pl_0 hf rfl rfl (w_store hf hM (us := [.func (.func 79) #[] #[vP b12 (0), vP b5 (0), vP b19 (0)]]) (cs' := [.func (.func 79) #[] #[vP b12 (0), vP b5 (0), vP b19 (0)]]) rfl rfl (k := 0) rfl rfl Tryd.sizeOf116 rfl rfl rfl fun w23 hM => ?_)
 dsimp only [List.set] at hM
 refine pl_nil ?_
 refine then_n ?_
 refine wp_seq ?_
 refine region_pl ?_
 refine q_ hf rfl rfl rfl (e_field hf rfl Tryd.underlying26 rfl Tryd.sizeOf24 (o' := 0) rfl) fun a hf => ?_
 refine q_ hf rfl rfl rfl (e_load1 hf rfl Tryd.isAgg24 (hM.boxCell (k := 3) rfl rfl)) fun a hf => ?_
 have hl26 := slice_len (hM.dat (k := 0) rfl)
 refine q_ hf rfl rfl rfl (e_lenL hf (x := d1.Nodes) rfl Tryd.underlying24) fun a hf => ?_
 obtain ⟨xs27, hz28, h⟩ := bind_some h
 refine pl_l hf rfl rfl rfl (w_make hf hM (K := intRep) Tryd.underlying31 ei_2 Tryd.zeroValue2 rfl rfl rfl ⟨rfl, (R64_lit rfl)⟩ hz28 fun b29 w30 hx31 hM a hf => ?_)
 refine q_ hf rfl rfl rfl (e_assign hf rfl) fun a hf => ?_
 refine pl_nil ?_
 refine then_n ?_
 obtain ⟨x36, h37, h⟩ := bind_some h
 refine seq_join (fun a w => ∃ (mp32 : (List (Int × Int))) (xs35 : (List Int)) (b33 : Nat), (mp32, xs35) = x36 ∧ Has 26 a [(5, vL (some ⟨b29, 0, none⟩) (xs35) (((d1.Nodes.length : Int) : Int).toNat))] ∧ Mem C w [.row intRep (some ⟨b29, 0, none⟩) (((d1.Nodes.length : Int) : Int).toNat) 2 xs35 true, .box b12 [vM b33] 115, .obj b33 (mapO fI fI mp32)] [.dat (sliceRep NodeRep) d1.Nodes [vL A2 d1.Nodes c3]] ∧ MapR mp32) ?_ ?_
 ·refine wp_seq ?_
  refine region_pl ?_
  refine q_ hf rfl rfl rfl (e_move hf rfl) fun a hf => ?_
  have hl38 := row_len (hM.ownAt (k := 0) rfl)
  refine q_ hf rfl rfl rfl (e_lenL hf (x := xs27) rfl Tryd.underlying31) fun a hf => ?_
  refine q_ hf rfl rfl rfl (e_move hf rfl) fun a hf => ?_
  refine pl_nil ?_
  refine then_n ?_
  refine wp_block ?_
  have hM := hM.freezeBox (k := 4) rfl rfl
  dsimp only [List.eraseIdx] at hM
  have hM := hM.freezeBox (k := 1) rfl rfl
  dsimp only [List.eraseIdx] at hM
  obtain ⟨x50, h51, h37⟩ := bind_some h37
  refine wp_loopM h51 (fun s a w => ∃ (mp39 : (List (Int × Int))) (xs42 : (List Int)) (n43 : Int) (b40 : Nat), (mp39, xs42, n43) = s ∧ Has 26 a [(4, vP b19 (0)), (5, vL (some ⟨b29, 0, none⟩) (xs42) (((d1.Nodes.length : Int) : Int).toNat)), (14, vI ((xs27.length : Int))), (15, vI (n43))] ∧ Mem C w [.row intRep (some ⟨b29, 0, none⟩) (((d1.Nodes.length : Int) : Int).toNat) 2 xs42 true, .box b12 [vM b40] 115, .obj b40 (mapO fI fI mp39)] [.lit b19 (0) [.func (.func 79) #[] #[vP b12 (0), vP b5 (0), vP b19 (0)]], .lit b5 (0) [vL A2 (d1.Nodes) c3], .dat (sliceRep NodeRep) d1.Nodes [vL A2 d1.Nodes c3]] ∧ MapR mp39 ∧ R64 n43) ?_ ?_
  ·exact ⟨([] : (List (Int × Int))), xs27, 0, b9, rfl, hf.keep ⟨rfl, rfl, rfl, rfl, trivial⟩, hM.pick [0, 1, 2] rfl, MapR.nil, (R64_lit rfl)⟩
  rintro s o52 a w45 ⟨mp39, xs42, n43, b40, rfl, hf, hM, hv41, hv44⟩ h53 hd54
  replace h53 : m_impl_Dawg_behind_l1 xs27 d1 mp39 xs42 n43 = some o52 := h53
  unfold m_impl_Dawg_behind_l1 at h53
  refine wp_seq ?_
  refine region_pl ?_
  refine q_ hf rfl rfl rfl (e_lt hf (x := n43) (y := (xs27.length : Int)) rfl rfl) fun a hf => ?_
  refine pl_nil ?_
  refine then_n ?_
  refine wp_seq ?_
  rcases cond_some h53 with ⟨hc55, h53⟩ | ⟨hc55, h53⟩
  ·refine cond_t hf rfl hc55 ?_
   refine wp_skip ?_
   refine then_n ?_
   refine wp_seq ?_
   refine wp_block ?_
   refine wp_seq ?_
   refine region_pl ?_
   refine q_ hf rfl rfl rfl (e_move hf rfl) fun a hf => ?_
   refine q_ hf rfl rfl rfl (e_assign hf rfl) fun a hf => ?_
   refine pl_nil ?_
   refine then_n ?_
   refine region_pl ?_
   iterate 2 refine q_ hf rfl rfl rfl (e_move hf rfl) fun a hf => ?_
   refine q_ hf rfl rfl rfl (e_load1 hf rfl Tryd.isAgg116 (hM.litCell (k := 0) (j := 0) rfl rfl rfl)) fun a hf => ?_
   refine q_ hf rfl rfl rfl (e_move hf rfl) fun a hf => ?_
   have hM := hM.front (k := 2) rfl
   dsimp only [List.eraseIdx] at hM
   have hM := hM.front (k := 2) rfl
   dsimp only [List.eraseIdx] at hM
   have hM : Mem C _ ([.box b12 [vM b40] 115, .obj b40 (mapO fI fI mp39)] ++ [.row intRep (some ⟨b29, 0, none⟩) (((d1.Nodes.length : Int) : Int).toNat) 2 xs42 true]) _ := hM
   obtain ⟨y56, hz57, h53⟩ := bind_some h53
   refine pl_l hf rfl rfl rfl (w_callV hf (fk := 79) (fc := [vP b12 (0), vP b5 (0), vP b19 (0)]) rfl Tryd.call79 rfl (r_impl_Dawg_behind_1 ⟨_, Sh C _ _, ownB _, hM.sh_lt, sub_dis, C.G, hM.g_lt, hM.g_own, hM.tabs⟩ n43 hv44 mp39 _ _ hv41 d1 _ _ (hM.litPtr (k := 1) (d := 0) (us := [vL A2 (d1.Nodes) c3]) rfl rfl rfl (DawgRep_mk (x := d1) (hM.dat (k := 2) rfl))) _ _ (hM.at_ (k := 0) rfl) hM.sub sub_dis _ hz57) ?_)
   rintro _ w61 ⟨b58, rfl, hM2, hv59, hv60⟩
   obtain ⟨hM, hup63⟩ := hM.backG hM2
   dsimp only [List.cons_append, List.nil_append] at hM hup63
   clear hM2
   refine ⟨_, rfl, fun a hf => ?_⟩
   obtain ⟨e64, hz65, h53⟩ := bind_some h53
   obtain ⟨_, h66, h67, hr68, hcell69⟩ := hM.rowElem' (k := 2) rfl (n := 1) rfl hz65
   obtain ⟨rfl, hv70⟩ := hr68
   refine q_ hf rfl rfl rfl (e_indexAddr (A := (some ⟨b29, 0, none⟩)) (b := b29) (o := 0) (xs := xs42) (i := n43) hf rfl rfl rfl Tryd.underlying31 Tryd.sizeOf2 h66 h67) fun a hf => ?_
   obtain ⟨xs72, hz73, h53⟩ := bind_some h53
   refine pl_0 hf rfl rfl (w_storeElem hf hM (x := y56.1) (row := [vI (y56.1)]) (i := n43) rfl rfl rfl rfl (k := 2) rfl rfl Tryd.sizeOf2 ⟨rfl, hv60⟩ hz73 fun w71 hM => ?_)
   dsimp only [List.set] at hM
   have hf := hf.alter (d := 5) (v := vL (some ⟨b29, 0, none⟩) (xs72) (((d1.Nodes.length : Int) : Int).toNat)) rfl (vL_len (setL_len hz73))
   have hf := hf.alter (d := 18) (v := vL (some ⟨b29, 0, none⟩) (xs72) (((d1.Nodes.length : Int) : Int).toNat)) rfl (vL_len (setL_len hz73))
   refine pl_nil ?_
   refine blk_n ?_
   refine then_n ?_
   refine region_pl ?_
   obtain ⟨z74, hz75, h53⟩ := bind_some h53
   refine q_ hf rfl rfl rfl (e_add hf rfl rfl hz75) fun a hf => ?_
   refine q_ hf rfl rfl rfl (e_move hf rfl) fun a hf => ?_
   refine pl_nil ?_
   obtain rfl := some_inj h53
   refine then_n ⟨_, rfl, ?_⟩
   have hM := hM.front (k := 1) rfl
   dsimp only [List.eraseIdx] at hM
   have hM := hM.front (k := 1) rfl
   dsimp only [List.eraseIdx] at hM
   have hM := hM.front (k := 2) rfl
   dsimp only [List.eraseIdx] at hM
   exact ⟨y56.2, xs72, z74, b58, rfl, hf.keep ⟨rfl, rfl, rfl, rfl, trivial⟩, hM.pick [0, 1, 2] rfl, hv59, (chk_R hz75)⟩
  refine cond_f hf rfl hc55 ?_
  refine wp_exit ?_
  refine then_x ?_
  obtain rfl := some_inj h53
  obtain rfl := hd54 _ rfl
  try dsimp only at h37
  refine then_x ?_
  refine exit_hit ?_
  obtain rfl := some_inj h37
  refine then_n ?_
  exact ⟨mp39, xs42, b40, rfl, hf.keep ⟨rfl, trivial⟩, hM.pick [2] rfl, hv41⟩
 rintro a w81 ⟨mp32, xs35, b33, rfl, hf, hM, hv34⟩
 try dsimp only at h
 refine wp_seq ?_
 refine region_pl ?_
 refine q_ hf rfl rfl rfl (e_move hf rfl) fun a hf => ?_
 refine q_ hf rfl rfl rfl (e_assign hf rfl) fun a hf => ?_
 refine pl_nil ?_
 refine then_n ?_
 refine wp_ret ?_
 obtain rfl := some_inj h
 have hM := hM.outs (own' := [.row intRep (some ⟨b29, 0, none⟩) (((d1.Nodes.length : Int) : Int).toNat) 2 xs35 true]) 1 rfl
 exact leave1 hf rfl rfl ⟨(some ⟨b29, 0, none⟩), (((d1.Nodes.length : Int) : Int).toNat), rfl, hM.fin⟩

set_option maxRecDepth 100000 in
set_option maxHeartbeats 4000000 in
theorem r_impl_CountsOf (C : Cx) (d1 : Dawg) (A2 : Option Addr) (c3 : Nat) (hp4 : (sliceRep NodeRep).R C.w0 C.S0 d1.Nodes [vL A2 d1.Nodes c3]) (r : ((List Int) × Int)) (h : m_impl_CountsOf d1 = some r) :
    Calls Tryd.prog 15 #[.agg #[vL A2 (d1.Nodes) c3]] C.w0 fun e w => ∃ (A_1 : Option Addr), ∃ (c_1 : Nat), e = .returned (.tuple #[vL A_1 (r.1) c_1, vI (r.2)]) ∧ Mem C w [.row intRep A_1 c_1 2 r.1 true] [] ∧ R64 r.2 := by
 have hM := Mem.begin C [.dat (sliceRep NodeRep) d1.Nodes [vL A2 d1.Nodes c3]] ⟨hp4, trivial⟩
 refine enter Tryd.func15 rfl Tryd.ntmps15 rfl fun a hf => ?_
 unfold m_impl_CountsOf at h
 refine wp_seq ?_
 refine region_pl ?_
 refine pl_l hf rfl rfl rfl (w_box hf hM (cs := [vL A2 (d1.Nodes) c3]) rfl rfl fun b5 w6 hx7 hM a hf => ?_)
 iterate 2 refine q_ hf rfl rfl rfl (e_assign hf rfl) fun a hf => ?_
 refine pl_nil ?_
 refine then_n ?_
 iterate 2 refine wp_seq ?_
 refine region_pl ?_
 refine q_ hf rfl rfl rfl (e_loadA hf (us := [vL A2 (d1.Nodes) c3]) rfl ⟨Tryd.isAgg26, Tryd.sizeOf26⟩ rfl (hM.boxSub (k := 0) (us := [vL A2 (d1.Nodes) c3]) (o := 0) rfl rfl)) fun a hf => ?_
 obtain ⟨y9, hz10, h⟩ := bind_some h
 refine pl_l hf rfl rfl rfl (w_call hf Tryd.call45 rfl (r_impl_ValidDawg ⟨_, Sh C _ _, none_, hM.sh_lt, none_not, C.G, hM.g_lt, g_none, hM.tabs⟩ d1 _ _ (hM.dat (k := 0) rfl) _ hz10) ?_)
 rintro _ w11 ⟨rfl, hM2⟩
 obtain ⟨hM, hx12, hup13⟩ := hM.back hM2
 dsimp only [List.cons_append, List.nil_append] at hM hup13
 clear hM2
 refine ⟨_, rfl, fun a hf => ?_⟩
 refine q_ hf rfl rfl rfl (e_not hf rfl) fun a hf => ?_
 refine pl_nil ?_
 refine then_n ?_
 rcases cond_some h with ⟨hc14, h⟩ | ⟨hc14, h⟩
 ·refine cond_t hf rfl hc14 ?_
  refine wp_seq ?_
  refine region_pl ?_
  iterate 2 refine q_ hf rfl rfl rfl (e_assign hf rfl) fun a hf => ?_
  refine pl_nil ?_
  refine then_n ?_
  refine wp_ret ?_
  refine then_r ?_
  obtain rfl := some_inj h
  have hM := hM.nilRow intRep 2
  have hM := hM.outs (own' := [.row intRep none 0 2 ([] : (List Int)) true]) 1 rfl
  exact leave2 hf rfl rfl rfl ⟨none, 0, rfl, hM.fin, (R64_lit rfl)⟩
 refine cond_f hf rfl hc14 ?_
 refine wp_skip ?_
 refine then_n ?_
 refine wp_seq ?_
 refine region_pl ?_
 refine q_ hf rfl rfl rfl (e_loadA hf (us := [vL A2 (d1.Nodes) c3]) rfl ⟨Tryd.isAgg26, Tryd.sizeOf26⟩ rfl (hM.boxSub (k := 0) (us := [vL A2 (d1.Nodes) c3]) (o := 0) rfl rfl)) fun a hf => ?_
 obtain ⟨y15, hz16, h⟩ := bind_some h
 refine pl_l hf rfl rfl rfl (w_call hf Tryd.call46 rfl (r_impl_Dawg_behind ⟨_, Sh C _ _, none_, hM.sh_lt, none_not, C.G, hM.g_lt, g_none, hM.tabs⟩ d1 _ _ (hM.dat (k := 0) rfl) _ hz16) ?_)
 rintro _ w19 ⟨A17, c18, rfl, hM2⟩
 obtain ⟨hM, hx20, hup21⟩ := hM.back hM2
 dsimp only [List.cons_append, List.nil_append] at hM hup21
 clear hM2
 refine ⟨_, rfl, fun a hf => ?_⟩
 iterate 2 refine q_ hf rfl rfl rfl (e_assign hf rfl) fun a hf => ?_
 refine pl_nil ?_
 refine then_n ?_
 refine wp_ret ?_
 obtain rfl := some_inj h
 have hM := hM.outs (own' := [.row intRep A17 c18 2 y15 true]) 1 rfl
 exact leave2 hf rfl rfl rfl ⟨A17, c18, rfl, hM.fin, (R64_lit rfl)⟩

set_option maxRecDepth 100000 in
set_option maxHeartbeats 4000000 in
theorem r_impl_Dawg_step (C : Cx) (d1 : Dawg) (A2 : Option Addr) (c3 : Nat) (hp4 : (sliceRep NodeRep).R C.w0 C.S0 d1.Nodes [vL A2 d1.Nodes c3]) (node5 : Int) (hp6 : R64 node5) (letter7 : UInt8) (r : Int) (h : m_impl_Dawg_step d1 node5 letter7 = some r) :
    Calls Tryd.prog 90 #[.agg #[vL A2 (d1.Nodes) c3], vI (node5), vB (letter7)] C.w0 fun e w => e = .returned (vI (r)) ∧ Mem C w [] [] ∧ R64 r := by
 have hM := Mem.begin C [.dat (sliceRep NodeRep) d1.Nodes [vL A2 d1.Nodes c3]] ⟨hp4, trivial⟩
 refine enter Tryd.func90 rfl Tryd.ntmps90 rfl fun a hf => ?_
 unfold m_impl_Dawg_step at h
 refine wp_seq ?_
 refine region_pl ?_
 refine pl_l hf rfl rfl rfl (w_box hf hM (cs := [vL A2 (d1.Nodes) c3]) rfl rfl fun b8 w9 hx10 hM a hf => ?_)
 refine q_ hf rfl rfl rfl (e_assign hf rfl) fun a hf => ?_
 refine pl_nil ?_
 refine then_n ?_
 iterate 2 refine wp_seq ?_
 refine region_pl ?_
 refine q_ hf rfl rfl rfl (e_move hf rfl) fun a hf => ?_
 refine q_ hf rfl rfl rfl (e_field hf rfl Tryd.underlying26 rfl Tryd.sizeOf24 (o' := 0) rfl) fun a hf => ?_
 refine q_ hf rfl rfl rfl (e_load1 hf rfl Tryd.isAgg24 (hM.boxCell (k := 0) rfl rfl)) fun a hf => ?_
 have hl12 := slice_len (hM.dat (k := 0) rfl)
 refine q_ hf rfl rfl rfl (e_lenL hf (x := d1.Nodes) rfl Tryd.underlying24) fun a hf => ?_
 obtain ⟨z13, hz14, h⟩ := bind_some h
 refine q_ hf rfl rfl rfl (e_sub hf rfl rfl hz14) fun a hf => ?_
 obtain ⟨y15, hz16, h⟩ := bind_some h
 refine pl_l hf rfl rfl rfl (w_call hf Tryd.call50 rfl (r_impl_within ⟨_, Sh C _ _, none_, hM.sh_lt, none_not, C.G, hM.g_lt, g_none, hM.tabs⟩ node5 hp6 0 (R64_lit rfl) z13 (chk_R hz14) _ hz16) ?_)
 rintro _ w17 ⟨rfl, hM2⟩
 obtain ⟨hM, hx18, hup19⟩ := hM.back hM2
 dsimp only [List.cons_append, List.nil_append] at hM hup19
 clear hM2
 refine ⟨_, rfl, fun a hf => ?_⟩
 refine q_ hf rfl rfl rfl (e_not hf rfl) fun a hf => ?_
 refine pl_nil ?_
 refine then_n ?_
 rcases cond_some h with ⟨hc20, h⟩ | ⟨hc20, h⟩
 ·refine cond_t hf rfl hc20 ?_
  refine wp_seq ?_
  refine region_pl ?_
  refine q_ hf rfl rfl rfl (e_assign hf rfl) fun a hf => ?_
  refine pl_nil ?_
  refine then_n ?_
  refine wp_ret ?_
  refine then_r ?_
  obtain rfl := some_inj h
  have hM := hM.outs (own' := []) 0 rfl
  exact leave1 hf rfl rfl ⟨rfl, hM.fin, (R64_lit rfl)⟩
 refine cond_f hf rfl hc20 ?_
 refine wp_skip ?_
 refine then_n ?_
 refine wp_seq ?_
 refine region_pl ?_
 refine q_ hf rfl rfl rfl (e_field hf rfl Tryd.underlying26 rfl Tryd.sizeOf24 (o' := 0) rfl) fun a hf => ?_
 refine q_ hf rfl rfl rfl (e_load1 hf rfl Tryd.isAgg24 (hM.boxCell (k := 0) rfl rfl)) fun a hf => ?_
 refine q_ hf rfl rfl rfl (e_move hf rfl) fun a hf => ?_
 obtain ⟨e21, hz22, h⟩ := bind_some h
 obtain ⟨b26, o27, _, hA28, h23, h24, hr25, hM⟩ := hM.elem (hM.dat (k := 0) rfl) (n := 3) rfl hz22
 obtain ⟨A30, c31, rfl, hv29, hv32⟩ := NodeRep_open hr25
 have hM := hM.add (y := .dat (sliceRep intRep) e21.Next [vL A30 e21.Next c31]) hv32
 refine q_ hf rfl rfl rfl (e_indexAddr (A := A2) (b := b26) (o := o27) (xs := d1.Nodes) (i := node5) hf hA28 rfl rfl Tryd.underlying24 Tryd.sizeOf76 h23 h24) fun a hf => ?_
 refine q_ hf rfl rfl rfl (e_loadA hf (us := [.bool (e21.Final), vS (e21.Letters), vL A30 (e21.Next) c31]) rfl ⟨Tryd.isAgg76, Tryd.sizeOf76⟩ rfl (hM.litSub (k := 1) (d := 0) (us := [.bool (e21.Final), vS (e21.Letters), vL A30 (e21.Next) c31]) rfl rfl rfl)) fun a hf => ?_
 refine pl_l hf rfl rfl rfl (w_alloc hM (cs := [.bool (false), vS (([] : Str)), vL none (([] : (List Int))) 0]) Tryd.zeroValue76 rfl fun b33 w34 hx35 hM a hf => ?_)
 refine pl_0 hf rfl rfl (w_store hf hM (us := [.bool (e21.Final), vS (e21.Letters), vL A30 (e21.Next) c31]) (cs' := [.bool (e21.Final), vS (e21.Letters), vL A30 (e21.Next) c31]) rfl rfl (k := 0) rfl rfl Tryd.sizeOf76 rfl rfl rfl fun w37 hM => ?_)
 dsimp only [List.set] at hM
 refine pl_nil ?_
 refine then_n ?_
 iterate 2 refine wp_seq ?_
 refine region_pl ?_
 refine q_ hf rfl rfl rfl (e_field hf rfl Tryd.underlying76 rfl Tryd.sizeOf9 (o' := 1) rfl) fun a hf => ?_
 refine q_ hf rfl rfl rfl (e_load1 hf rfl Tryd.isAgg9 (hM.boxCell (k := 0) rfl rfl)) fun a hf => ?_
 refine q_ hf rfl rfl rfl (e_move hf rfl) fun a hf => ?_
 obtain ⟨y40, hz41, h⟩ := bind_some h
 refine pl_l hf rfl rfl rfl (w_call hf Tryd.call112 rfl (r_strings_IndexByte ⟨_, Sh C _ _, none_, hM.sh_lt, none_not, C.G, hM.g_lt, g_none, hM.tabs⟩ e21.Letters hv29 letter7 _ hz41) ?_)
 rintro _ w43 ⟨rfl, hM2, hv42⟩
 obtain ⟨hM, hx44, hup45⟩ := hM.back hM2
 dsimp only [List.cons_append, List.nil_append] at hM hup45
 clear hM2
 refine ⟨_, rfl, fun a hf => ?_⟩
 refine q_ hf rfl rfl rfl (e_assign hf rfl) fun a hf => ?_
 refine pl_nil ?_
 refine then_n ?_
 refine wp_seq ?_
 refine region_pl ?_
 refine q_ hf rfl rfl rfl (e_move hf rfl) fun a hf => ?_
 refine q_ hf rfl rfl rfl (e_ge hf (x := y40) (y := 0) rfl rfl) fun a hf => ?_
 refine pl_nil ?_
 refine then_n ?_
 rcases cond_some h with ⟨hc46, h⟩ | ⟨hc46, h⟩
 ·refine cond_t hf rfl hc46 ?_
  refine wp_seq ?_
  refine region_pl ?_
  refine q_ hf rfl rfl rfl (e_field hf rfl Tryd.underlying76 rfl Tryd.sizeOf31 (o' := 2) rfl) fun a hf => ?_
  refine q_ hf rfl rfl rfl (e_load1 hf rfl Tryd.isAgg31 (hM.boxCell (k := 0) rfl rfl)) fun a hf => ?_
  refine q_ hf rfl rfl rfl (e_move hf rfl) fun a hf => ?_
  obtain ⟨e47, hz48, h⟩ := bind_some h
  obtain ⟨b52, o53, _, hA54, h49, h50, hr51, hM⟩ := hM.elem (hM.dat (k := 0) rfl) (n := 1) rfl hz48
  obtain ⟨rfl, hv55⟩ := hr51
  refine q_ hf rfl rfl rfl (e_indexAddr (A := A30) (b := b52) (o := o53) (xs := e21.Next) (i := y40) hf hA54 rfl rfl Tryd.underlying31 Tryd.sizeOf2 h49 h50) fun a hf => ?_
  refine q_ hf rfl rfl rfl (e_load1 hf rfl Tryd.isAgg2 (hM.litCell (k := 0) (j := 0) rfl rfl rfl)) fun a hf => ?_
  refine q_ hf rfl rfl rfl (e_assign hf rfl) fun a hf => ?_
  refine pl_nil ?_
  refine then_n ?_
  refine wp_ret ?_
  refine then_r ?_
  obtain rfl := some_inj h
  have hM := hM.outs (own' := []) 0 rfl
  exact leave1 hf rfl rfl ⟨rfl, hM.fin, hv55⟩
 refine cond_f hf rfl hc46 ?_
 refine wp_skip ?_
 refine then_n ?_
 refine wp_seq ?_
 refine region_pl ?_
 refine q_ hf rfl rfl rfl (e_assign hf rfl) fun a hf => ?_
 refine pl_nil ?_
 refine then_n ?_
 refine wp_ret ?_
 obtain rfl := some_inj h
 have hM := hM.outs (own' := []) 0 rfl
 exact leave1 hf rfl rfl ⟨rfl, hM.fin, (R64_lit rfl)⟩

set_option maxRecDepth 100000 in
set_option maxHeartbeats 4000000 in
theorem r_impl_Dawg_after (C : Cx) (d1 : Dawg) (A2 : Option Addr) (c3 : Nat) (hp4 : (sliceRep NodeRep).R C.w0 C.S0 d1.Nodes [vL A2 d1.Nodes c3]) (s5 : Str) (hp6 : s5.length ≤ maxLen) (r : Int) (h : m_impl_Dawg_after d1 s5 = some r) :
    Calls Tryd.prog 62 #[.agg #[vL A2 (d1.Nodes) c3], vS (s5)] C.w0 fun e w => e = .returned (vI (r)) ∧ Mem C w [] [] ∧ R64 r := by
 have hM := Mem.begin C [.dat (sliceRep NodeRep) d1.Nodes [vL A2 d1.Nodes c3]] ⟨hp4, trivial⟩
 refine enter Tryd.func62 rfl Tryd.ntmps62 rfl fun a hf => ?_
 unfold m_impl_Dawg_after at h
 refine wp_seq ?_
 refine region_pl ?_
 refine pl_l hf rfl rfl rfl (w_box hf hM (cs := [vL A2 (d1.Nodes) c3]) rfl rfl fun b7 w8 hx9 hM a hf => ?_)
 refine q_ hf rfl rfl rfl (e_assign hf rfl) fun a hf => ?_
 refine pl_nil ?_
 refine then_n ?_
 refine wp_seq ?_
 refine region_pl ?_
 refine q_ hf rfl rfl rfl (e_assign hf rfl) fun a hf => ?_
 refine pl_nil ?_
 refine then_n ?_
 obtain ⟨x13, h14, h⟩ := bind_some h
 refine seq_join (fun a w => ∃ (n11 : Int), n11 = x13 ∧ Has 24 a [(5, vI (n11))] ∧ Mem C w [.box b7 [vL A2 (d1.Nodes) c3] 26] [.dat (sliceRep NodeRep) d1.Nodes [vL A2 d1.Nodes c3]] ∧ R64 n11) ?_ ?_
 ·refine wp_seq ?_
  refine region_pl ?_
  refine q_ hf rfl rfl rfl (e_assign hf rfl) fun a hf => ?_
  refine pl_nil ?_
  refine then_n ?_
  refine wp_block ?_
  obtain ⟨x22, h23, h14⟩ := bind_some h14
  refine wp_loopM h23 (fun s a w => ∃ (n15 : Int) (n17 : Int), (n15, n17) = s ∧ Has 24 a [(1, vS (s5)), (2, vP b7 (0)), (5, vI (n15)), (6, vI (n17))] ∧ Mem C w [.box b7 [vL A2 (d1.Nodes) c3] 26] [.dat (sliceRep NodeRep) d1.Nodes [vL A2 d1.Nodes c3]] ∧ R64 n15 ∧ R64 n17) ?_ ?_
  ·exact ⟨0, 0, rfl, hf.keep ⟨rfl, rfl, rfl, rfl, trivial⟩, hM.pick [0] rfl, (R64_lit rfl), (R64_lit rfl)⟩
  rintro s o24 a w19 ⟨n15, n17, rfl, hf, hM, hv16, hv18⟩ h25 hd26
  replace h25 : m_impl_Dawg_after_l1 s5 d1 n15 n17 = some o24 := h25
  unfold m_impl_Dawg_after_l1 at h25
  refine wp_seq ?_
  obtain ⟨x29, h30, h25⟩ := bind_some h25
  refine seq_join (fun a w => ∃ (t27 : Bool), t27 = x29 ∧ Has 24 a [(1, vS (s5)), (2, vP b7 (0)), (5, vI (n15)), (6, vI (n17)), (14, .bool (t27))] ∧ Mem C w [.box b7 [vL A2 (d1.Nodes) c3] 26] [.dat (sliceRep NodeRep) d1.Nodes [vL A2 d1.Nodes c3]]) ?_ ?_
  ·refine region_pl ?_
   iterate 2 refine q_ hf rfl rfl rfl (e_move hf rfl) fun a hf => ?_
   refine q_ hf rfl rfl rfl (e_lenS hf (x := s5) rfl Tryd.underlying9) fun a hf => ?_
   refine q_ hf rfl rfl rfl (e_lt hf (x := n17) (y := (s5.length : Int)) rfl rfl) fun a hf => ?_
   refine q_ hf rfl rfl rfl (e_move hf rfl) fun a hf => ?_
   rcases cond_some h30 with ⟨hc31, h30⟩ | ⟨hc31, h30⟩
   ·refine gq (wanted_t hf rfl rfl rfl rfl hc31) hf rfl rfl (e_move hf rfl) fun a hf => ?_
    refine gq (wanted_t hf rfl rfl rfl rfl hc31) hf rfl rfl (e_ge hf (x := n15) (y := 0) rfl rfl) fun a hf => ?_
    refine q_ hf rfl rfl rfl (e_pick_t hf rfl hc31 rfl) fun a hf => ?_
    refine pl_nil ?_
    obtain rfl := some_inj h30
    refine then_n ?_
    exact ⟨(decide (0 ≤ n15)), rfl, hf.keep ⟨rfl, rfl, rfl, rfl, rfl, trivial⟩, hM.pick [0] rfl⟩
   iterate 2 refine pl_gs (wanted_f hf rfl rfl rfl rfl hc31) hf rfl rfl fun a hf => ?_
   refine q_ hf rfl rfl rfl (e_pick_f hf rfl hc31 rfl) fun a hf => ?_
   refine pl_nil ?_
   obtain rfl := some_inj h30
   refine then_n ?_
   exact ⟨false, rfl, hf.keep ⟨rfl, rfl, rfl, rfl, rfl, trivial⟩, hM.pick [0] rfl⟩
  rintro a w34 ⟨t27, rfl, hf, hM⟩
  try dsimp only at h25
  rcases cond_some h25 with ⟨hc35, h25⟩ | ⟨hc35, h25⟩
  ·refine cond_t hf rfl hc35 ?_
   refine wp_skip ?_
   refine then_n ?_
   refine wp_seq ?_
   refine wp_block ?_
   obtain ⟨w36, hw⟩ : ∃ x, x = w34.drew := ⟨_, rfl⟩
   refine region_pi (.q 0 (.q 1 (.q 2 (.q 3 (.q 4 (.l 5 (.q 6 (.nil)))))))) (Ext w36) rfl (by kernel_rfl) ?_
   have hM := hM.drew
   rw [← hw] at hM ⊢
   clear hw
   refine pi_q hf rfl rfl rfl rfl (Ext.refl _) (e_loadA hf (us := [vL A2 (d1.Nodes) c3]) rfl ⟨Tryd.isAgg26, Tryd.sizeOf26⟩ rfl (hM.boxSub (k := 0) (us := [vL A2 (d1.Nodes) c3]) (o := 0) rfl rfl)) fun a hf => ?_
   iterate 3 refine pi_q hf rfl rfl rfl rfl (Ext.refl _) (e_move hf rfl) fun a hf => ?_
   obtain ⟨c37, hz38, h25⟩ := bind_some h25
   refine pi_q hf rfl rfl rfl rfl (Ext.refl _) (e_indexS hf (x := s5) rfl rfl Tryd.underlying9 hz38) fun a hf => ?_
   refine pi_one ?_
   obtain ⟨y39, hz40, h25⟩ := bind_some h25
   refine pi_l hf rfl rfl rfl rfl (w_call hf Tryd.call90 rfl (r_impl_Dawg_step ⟨_, Sh C _ _, none_, hM.sh_lt, none_not, C.G, hM.g_lt, g_none, hM.tabs⟩ d1 _ _ (hM.dat (k := 0) rfl) n15 hv16 c37 _ hz40) ?_)
   rintro _ w42 ⟨rfl, hM2, hv41⟩
   obtain ⟨hM, hx43, hup44⟩ := hM.back hM2
   dsimp only [List.cons_append, List.nil_append] at hM hup44
   clear hM2
   refine ⟨_, rfl, Ext w42, fun _ h => Ext.trans hx43 h, Ext.refl _, fun a hf => ?_⟩
   refine pi_q hf rfl rfl rfl rfl (Ext.refl _) (e_assign hf rfl) fun a hf => ?_
   refine pi_nil ?_
   refine blk_n ?_
   refine then_n ?_
   refine region_pl ?_
   refine q_ hf rfl rfl rfl (e_move hf rfl) fun a hf => ?_
   obtain ⟨z45, hz46, h25⟩ := bind_some h25
   refine q_ hf rfl rfl rfl (e_add hf rfl rfl hz46) fun a hf => ?_
   refine q_ hf rfl rfl rfl (e_assign hf rfl) fun a hf => ?_
   refine pl_nil ?_
   obtain rfl := some_inj h25
   refine then_n ⟨_, rfl, ?_⟩
   exact ⟨y39, z45, rfl, hf.keep ⟨rfl, rfl, rfl, rfl, trivial⟩, hM.pick [0] rfl, hv41, (chk_R hz46)⟩
  refine cond_f hf rfl hc35 ?_
  refine wp_exit ?_
  refine then_x ?_
  obtain rfl := some_inj h25
  obtain rfl := hd26 _ rfl
  try dsimp only at h14
  refine then_x ?_
  refine exit_hit ?_
  obtain rfl := some_inj h14
  refine then_n ?_
  exact ⟨n15, rfl, hf.keep ⟨rfl, trivial⟩, hM.pick [0] rfl, hv16⟩
 rintro a w52 ⟨n11, rfl, hf, hM, hv12⟩
 try dsimp only at h
 refine wp_seq ?_
 refine region_pl ?_
 refine q_ hf rfl rfl rfl (e_move hf rfl) fun a hf => ?_
 refine q_ hf rfl rfl rfl (e_assign hf rfl) fun a hf => ?_
 refine pl_nil ?_
 refine then_n ?_
 refine wp_ret ?_
 obtain rfl := some_inj h
 have hM := hM.outs (own' := []) 0 rfl
 exact leave1 hf rfl rfl ⟨rfl, hM.fin, hv12⟩

set_option maxRecDepth 100000 in
set_option maxHeartbeats 4000000 in
theorem r_impl_Dawg_accepts (C : Cx) (d1 : Dawg) (A2 : Option Addr) (c3 : Nat) (hp4 : (sliceRep NodeRep).R C.w0 C.S0 d1.Nodes [vL A2 d1.Nodes c3]) (s5 : Str) (hp6 : s5.length ≤ maxLen) (r : Bool) (h : m_impl_Dawg_accepts d1 s5 = some r) :
    Calls Tryd.prog 47 #[.agg #[vL A2 (d1.Nodes) c3], vS (s5)] C.w0 fun e w => e = .returned (.bool (r)) ∧ Mem C w [] [] := by
 have hM := Mem.begin C [.dat (sliceRep NodeRep) d1.Nodes [vL A2 d1.Nodes c3]] ⟨hp4, trivial⟩
 refine enter Tryd.func47 rfl Tryd.ntmps47 rfl fun a hf => ?_
 unfold m_impl_Dawg_accepts at h
 refine wp_seq ?_
 refine region_pl ?_
 refine pl_l hf rfl rfl rfl (w_box hf hM (cs := [vL A2 (d1.Nodes) c3]) rfl rfl fun b7 w8 hx9 hM a hf => ?_)
 refine q_ hf rfl rfl rfl (e_assign hf rfl) fun a hf => ?_
 refine pl_nil ?_
 refine then_n ?_
 refine wp_seq ?_
 refine region_pl ?_
 refine q_ hf rfl rfl rfl (e_loadA hf (us := [vL A2 (d1.Nodes) c3]) rfl ⟨Tryd.isAgg26, Tryd.sizeOf26⟩ rfl (hM.boxSub (k := 0) (us := [vL A2 (d1.Nodes) c3]) (o := 0) rfl rfl)) fun a hf => ?_
 refine q_ hf rfl rfl rfl (e_move hf rfl) fun a hf => ?_
 obtain ⟨y11, hz12, h⟩ := bind_some h
 refine pl_l hf rfl rfl rfl (w_call hf Tryd.call62 rfl (r_impl_Dawg_after ⟨_, Sh C _ _, none_, hM.sh_lt, none_not, C.G, hM.g_lt, g_none, hM.tabs⟩ d1 _ _ (hM.dat (k := 0) rfl) s5 hp6 _ hz12) ?_)
 rintro _ w14 ⟨rfl, hM2, hv13⟩
 obtain ⟨hM, hx15, hup16⟩ := hM.back hM2
 dsimp only [List.cons_append, List.nil_append] at hM hup16
 clear hM2
 refine ⟨_, rfl, fun a hf => ?_⟩
 refine q_ hf rfl rfl rfl (e_assign hf rfl) fun a hf => ?_
 refine pl_nil ?_
 refine then_n ?_
 obtain ⟨x19, h20, h⟩ := bind_some h
 refine seq_join (fun a w => ∃ (t17 : Bool), t17 = x19 ∧ Has 19 a [(4, .bool (t17))] ∧ Mem C w [.box b7 [vL A2 (d1.Nodes) c3] 26] [.dat (sliceRep NodeRep) d1.Nodes [vL A2 d1.Nodes c3]]) ?_ ?_
 ·refine region_pl ?_
  refine q_ hf rfl rfl rfl (e_move hf rfl) fun a hf => ?_
  refine q_ hf rfl rfl rfl (e_ge hf (x := y11) (y := 0) rfl rfl) fun a hf => ?_
  refine q_ hf rfl rfl rfl (e_move hf rfl) fun a hf => ?_
  rcases cond_some h20 with ⟨hc21, h20⟩ | ⟨hc21, h20⟩
  ·refine gq (wanted_t hf rfl rfl rfl rfl hc21) hf rfl rfl (e_field hf rfl Tryd.underlying26 rfl Tryd.sizeOf24 (o' := 0) rfl) fun a hf => ?_
   refine gq (wanted_t hf rfl rfl rfl rfl hc21) hf rfl rfl (e_load1 hf rfl Tryd.isAgg24 (hM.boxCell (k := 0) rfl rfl)) fun a hf => ?_
   refine gq (wanted_t hf rfl rfl rfl rfl hc21) hf rfl rfl (e_move hf rfl) fun a hf => ?_
   obtain ⟨e22, hz23, h20⟩ := bind_some h20
   obtain ⟨b27, o28, _, hA29, h24, h25, hr26, hM⟩ := hM.elem (hM.dat (k := 0) rfl) (n := 3) rfl hz23
   obtain ⟨A31, c32, rfl, hv30, hv33⟩ := NodeRep_open hr26
   have hM := hM.add (y := .dat (sliceRep intRep) e22.Next [vL A31 e22.Next c32]) hv33
   refine gq (wanted_t hf rfl rfl rfl rfl hc21) hf rfl rfl (e_indexAddr (A := A2) (b := b27) (o := o28) (xs := d1.Nodes) (i := y11) hf hA29 rfl rfl Tryd.underlying24 Tryd.sizeOf76 h24 h25) fun a hf => ?_
   refine gq (wanted_t hf rfl rfl rfl rfl hc21) hf rfl rfl (e_field hf rfl Tryd.underlying76 rfl Tryd.sizeOf4 (o' := (o28 + (y11 : Int).toNat * 3) + 0) rfl) fun a hf => ?_
   refine gq (wanted_t hf rfl rfl rfl rfl hc21) hf rfl rfl (e_load1 hf rfl Tryd.isAgg4 (hM.litCell (k := 1) (j := 0) rfl rfl rfl)) fun a hf => ?_
   refine q_ hf rfl rfl rfl (e_pick_t hf rfl hc21 rfl) fun a hf => ?_
   refine q_ hf rfl rfl rfl (e_assign hf rfl) fun a hf => ?_
   refine pl_nil ?_
   obtain rfl := some_inj h20
   refine then_n ?_
   exact ⟨e22.Final, rfl, hf.keep ⟨rfl, trivial⟩, hM.pick [2] rfl⟩
  iterate 6 refine pl_gs (wanted_f hf rfl rfl rfl rfl hc21) hf rfl rfl fun a hf => ?_
  refine q_ hf rfl rfl rfl (e_pick_f hf rfl hc21 rfl) fun a hf => ?_
  refine q_ hf rfl rfl rfl (e_assign hf rfl) fun a hf => ?_
  refine pl_nil ?_
  obtain rfl := some_inj h20
  refine then_n ?_
  exact ⟨false, rfl, hf.keep ⟨rfl, trivial⟩, hM.pick [0] rfl⟩
 rintro a w36 ⟨t17, rfl, hf, hM⟩
 try dsimp only at h
 refine wp_ret ?_
 obtain rfl := some_inj h
 have hM := hM.outs (own' := []) 0 rfl
 exact leave1 hf rfl rfl ⟨rfl, hM.fin⟩

def Ct_impl_Dawg_words_1 (rc : Int → Dawg → (List Str) → Str → Option ((List Str) × Str)) : Prop := ∀ (C : Cx) (node1 : Int) (hp2 : R64 node1) (p3 : Dawg) (b4 : Nat) (o5 : Nat) (hp6 : (ptrRep DawgRep).R C.w0 C.S0 p3 [vP b4 o5]) (p7 : (List Str)) (b8 : Nat) (A9 : Option Addr) (c10 : Nat) (p11 : Str) (b12 : Nat) (A13 : Option Addr) (c14 : Nat) (b16 : Nat) (o17 : Nat) (hp18 : Shr.good C.w0 C.S0 (.lit b16 (o17) [.func (.func 81) #[] #[vP b4 (o5), vP b8 (0), vP b12 (0), vP b16 (o17)]])) (hO : Mem C C.w0 [.box b8 [vL A9 (p7) c10] 28, .row strRep A9 c10 9 p7 true, .box b12 [vL A13 (p11) c14] 22, .row byteRep A13 c14 5 p11 true] []) (hd : ∀ b, C.S0 b → ¬ ownB [.box b8 [vL A9 (p7) c10] 28, .row strRep A9 c10 9 p7 true, .box b12 [vL A13 (p11) c14] 22, .row byteRep A13 c14 5 p11 true] b) (r : ((List Str) × Str)) (h : rc node1 p3 p7 p11 = some r),
    Calls Tryd.prog 81 #[vI (node1), vP b4 (o5), vP b8 (0), vP b12 (0), vP b16 (o17)] C.w0 fun e w => ∃ (A_1 : Option Addr), ∃ (c_1 : Nat), ∃ (A_2 : Option Addr), ∃ (c_2 : Nat), e = .returned (.tuple #[]) ∧ Mem C w [.box b8 [vL A_1 (r.1) c_1] 28, .row strRep A_1 c_1 9 r.1 true, .box b12 [vL A_2 (r.2) c_2] 22, .row byteRep A_2 c_2 5 r.2 true] []

set_option maxRecDepth 100000 in
set_option maxHeartbeats 4000000 in
theorem r_impl_Dawg_words_1_b (rc : Int → Dawg → (List Str) → Str → Option ((List Str) × Str)) (ih : Ct_impl_Dawg_words_1 rc) : Ct_impl_Dawg_words_1 (m_impl_Dawg_words_1_b rc) := by
 intro C node1 hp2 p3 b4 o5 hp6 p7 b8 A9 c10 p11 b12 A13 c14 b16 o17 hp18 hO hd r h
 have hM := hO
 have hM := hM.addIn hd (y := .dat (ptrRep DawgRep) p3 [vP b4 o5]) hp6
 have hM := hM.addIn hd (y := .lit b16 (o17) [.func (.func 81) #[] #[vP b4 (o5), vP b8 (0), vP b12 (0), vP b16 (o17)]]) hp18
 refine enter Tryd.func81 rfl Tryd.ntmps81 rfl fun a hf => ?_
 unfold m_impl_Dawg_words_1_b at h
 refine wp_seq ?_
 refine region_pl ?_
 obtain ⟨_, hr19, hM⟩ := hM.deref (hM.dat (k := 1) rfl)
 obtain ⟨A20, c21, rfl, hv22⟩ := DawgRep_open hr19
 have hM := hM.add (y := .dat (sliceRep NodeRep) p3.Nodes [vL A20 p3.Nodes c21]) hv22
 refine q_ hf rfl rfl rfl (e_field hf rfl Tryd.underlying26 rfl Tryd.sizeOf24 (o' := o5 + 0) rfl) fun a hf => ?_
 refine q_ hf rfl rfl rfl (e_load1 hf rfl Tryd.isAgg24 (hM.litCell (k := 1) (j := 0) rfl rfl rfl)) fun a hf => ?_
 refine q_ hf rfl rfl rfl (e_move hf rfl) fun a hf => ?_
 obtain ⟨e23, hz24, h⟩ := bind_some h
 obtain ⟨b28, o29, _, hA30, h25, h26, hr27, hM⟩ := hM.elem (hM.dat (k := 0) rfl) (n := 3) rfl hz24
 obtain ⟨A32, c33, rfl, hv31, hv34⟩ := NodeRep_open hr27
 have hM := hM.add (y := .dat (sliceRep intRep) e23.Next [vL A32 e23.Next c33]) hv34
 refine q_ hf rfl rfl rfl (e_indexAddr (A := A20) (b := b28) (o := o29) (xs := p3.Nodes) (i := node1) hf hA30 rfl rfl Tryd.underlying24 Tryd.sizeOf76 h25 h26) fun a hf => ?_
 refine q_ hf rfl rfl rfl (e_loadA hf (us := [.bool (e23.Final), vS (e23.Letters), vL A32 (e23.Next) c33]) rfl ⟨Tryd.isAgg76, Tryd.sizeOf76⟩ rfl (hM.litSub (k := 1) (d := 0) (us := [.bool (e23.Final), vS (e23.Letters), vL A32 (e23.Next) c33]) rfl rfl rfl)) fun a hf => ?_
 refine pl_l hf rfl rfl rfl (w_alloc hM (cs := [.bool (false), vS (([] : Str)), vL none (([] : (List Int))) 0]) Tryd.zeroValue76 rfl fun b35 w36 hx37 hM a hf => ?_)
 refine pl_0 hf rfl rfl (w_store hf hM (us := [.bool (e23.Final), vS (e23.Letters), vL A32 (e23.Next) c33]) (cs' := [.bool (e23.Final), vS (e23.Letters), vL A32 (e23.Next) c33]) rfl rfl (k := 0) rfl rfl Tryd.sizeOf76 rfl rfl rfl fun w39 hM => ?_)
 dsimp only [List.set] at hM
 refine pl_nil ?_
 refine then_n ?_
 obtain ⟨x45, h46, h⟩ := bind_some h
 refine seq_join (fun a w => ∃ (xs42 : (List Str)) (A43 : Option Addr) (c44 : Nat), xs42 = x45 ∧ Has 45 a [(3, vP b12 (0)), (4, vP b16 (o17)), (6, vP b35 (0))] ∧ Mem C w [.box b35 [.bool (e23.Final), vS (e23.Letters), vL A32 (e23.Next) c33] 76, .box b8 [vL A43 (xs42) c44] 28, .row strRep A43 c44 9 xs42 true, .box b12 [vL A13 (p11) c14] 22, .row byteRep A13 c14 5 p11 true] [.dat (sliceRep intRep) e23.Next [vL A32 e23.Next c33], .lit b28 (o29 + (node1 : Int).toNat * 3) [.bool (e23.Final), vS (e23.Letters), vL A32 (e23.Next) c33], .dat (sliceRep NodeRep) p3.Nodes [vL A20 p3.Nodes c21], .lit b4 (o5) [vL A20 (p3.Nodes) c21], .lit b16 (o17) [.func (.func 81) #[] #[vP b4 (o5), vP b8 (0), vP b12 (0), vP b16 (o17)]], .dat (ptrRep DawgRep) p3 [vP b4 o5]]) ?_ ?_
 ·refine wp_seq ?_
  refine region_pl ?_
  refine q_ hf rfl rfl rfl (e_field hf rfl Tryd.underlying76 rfl Tryd.sizeOf4 (o' := 0) rfl) fun a hf => ?_
  refine q_ hf rfl rfl rfl (e_load1 hf rfl Tryd.isAgg4 (hM.boxCell (k := 0) rfl rfl)) fun a hf => ?_
  refine pl_nil ?_
  refine then_n ?_
  rcases cond_some h46 with ⟨hc47, h46⟩ | ⟨hc47, h46⟩
  ·refine cond_t hf rfl hc47 ?_
   refine region_pl ?_
   refine q_ hf rfl rfl rfl (e_load1 hf rfl Tryd.isAgg28 (hM.boxCell (k := 1) rfl rfl)) fun a hf => ?_
   refine q_ hf rfl rfl rfl (e_load1 hf rfl Tryd.isAgg22 (hM.boxCell (k := 3) rfl rfl)) fun a hf => ?_
   have hl48 := row_len (hM.ownAt (k := 4) rfl)
   refine q_ hf rfl rfl rfl (e_bytesStr hf (xs := p11) rfl Tryd.underlying22 Tryd.underlying5 Tryd.underlying9 (hM.lendRow (k := 4) rfl)) fun a hf => ?_
   refine pl_l hf rfl rfl rfl (w_slice hf hM (K := strRep) (xs := ([p11] : (List Str))) (os := [.tmp 18]) Tryd.underlying28 ei_9 rfl rfl rfl rfl rfl ⟨⟨[vS (p11)], rfl, ⟨rfl, hl48⟩⟩, trivial⟩ rfl fun b49 w50 hx51 hM a hf => ?_)
   obtain ⟨xs52, hz53, h46⟩ := bind_some h46
   refine pl_l hf rfl rfl rfl (w_append hf hM Tryd.underlying28 ei_9 rfl rfl rfl (k := 3) rfl (hM.srcRow (k := 0) rfl) hz53 fun A54 c55 w56 hM a hf => ?_)
   dsimp only [List.set] at hM
   refine pl_0 hf rfl rfl (w_store hf hM (us := [vL A54 (xs52) c55]) (cs' := [vL A54 (xs52) c55]) rfl rfl (k := 2) rfl rfl Tryd.sizeOf28 rfl rfl rfl fun w59 hM => ?_)
   dsimp only [List.set] at hM
   refine pl_nil ?_
   obtain rfl := some_inj h46
   refine then_n ?_
   exact ⟨xs52, A54, c55, rfl, hf.keep ⟨rfl, rfl, rfl, trivial⟩, (hM.drop (.cons _ (.cons_cons _ (.cons_cons _ (.cons_cons _ (.cons_cons _ (.cons_cons _ .slnil))))))).pick [0, 1, 2, 3, 4, 5] rfl⟩
  refine cond_f hf rfl hc47 ?_
  refine wp_skip ?_
  obtain rfl := some_inj h46
  refine then_n ?_
  exact ⟨p7, A9, c10, rfl, hf.keep ⟨rfl, rfl, rfl, trivial⟩, hM.pick [0, 1, 2, 3, 4, 5] rfl⟩
 rintro a w64 ⟨xs42, A43, c44, rfl, hf, hM⟩
 try dsimp only at h
 refine wp_seq ?_
 refine region_pl ?_
 refine q_ hf rfl rfl rfl (e_field hf rfl Tryd.underlying76 rfl Tryd.sizeOf31 (o' := 2) rfl) fun a hf => ?_
 refine q_ hf rfl rfl rfl (e_load1 hf rfl Tryd.isAgg31 (hM.boxCell (k := 0) rfl rfl)) fun a hf => ?_
 have hl65 := slice_len (hM.dat (k := 0) rfl)
 refine q_ hf rfl rfl rfl (e_lenL hf (x := e23.Next) rfl Tryd.underlying31) fun a hf => ?_
 refine q_ hf rfl rfl rfl (e_move hf rfl) fun a hf => ?_
 refine pl_nil ?_
 refine then_n ?_
 refine wp_block ?_
 obtain ⟨x81, h82, h⟩ := bind_some h
 refine wp_loopM h82 (fun s a w => ∃ (xs66 : (List Str)) (xs69 : Str) (n72 : Int) (A67 : Option Addr) (c68 : Nat) (A70 : Option Addr) (c71 : Nat), (xs66, xs69, n72) = s ∧ Has 45 a [(3, vP b12 (0)), (4, vP b16 (o17)), (6, vP b35 (0)), (22, vL A32 (e23.Next) c33), (23, vI ((e23.Next.length : Int))), (24, vI (n72))] ∧ Mem C w [.box b35 [.bool (e23.Final), vS (e23.Letters), vL A32 (e23.Next) c33] 76, .box b8 [vL A67 (xs66) c68] 28, .row strRep A67 c68 9 xs66 true, .box b12 [vL A70 (xs69) c71] 22, .row byteRep A70 c71 5 xs69 true] [.dat (sliceRep intRep) e23.Next [vL A32 e23.Next c33], .lit b28 (o29 + (node1 : Int).toNat * 3) [.bool (e23.Final), vS (e23.Letters), vL A32 (e23.Next) c33], .dat (sliceRep NodeRep) p3.Nodes [vL A20 p3.Nodes c21], .lit b4 (o5) [vL A20 (p3.Nodes) c21], .lit b16 (o17) [.func (.func 81) #[] #[vP b4 (o5), vP b8 (0), vP b12 (0), vP b16 (o17)]], .dat (ptrRep DawgRep) p3 [vP b4 o5]] ∧ R64 n72) ?_ ?_
 ·exact ⟨xs42, p11, 0, A43, c44, A13, c14, rfl, hf.keep ⟨rfl, rfl, rfl, rfl, rfl, rfl, trivial⟩, hM.pick [0, 1, 2, 3, 4, 5] rfl, (R64_lit rfl)⟩
 rintro s o83 a w74 ⟨xs66, xs69, n72, A67, c68, A70, c71, rfl, hf, hM, hv73⟩ h84 hd85
 replace h84 : m_impl_Dawg_words_1_l1 e23 rc p3 xs66 xs69 n72 = some o83 := h84
 unfold m_impl_Dawg_words_1_l1 at h84
 refine wp_seq ?_
 refine region_pl ?_
 refine q_ hf rfl rfl rfl (e_lt hf (x := n72) (y := (e23.Next.length : Int)) rfl rfl) fun a hf => ?_
 refine pl_nil ?_
 refine then_n ?_
 refine wp_seq ?_
 rcases cond_some h84 with ⟨hc86, h84⟩ | ⟨hc86, h84⟩
 ·refine cond_t hf rfl hc86 ?_
  refine wp_skip ?_
  refine then_n ?_
  refine wp_seq ?_
  refine wp_block ?_
  refine wp_seq ?_
  refine region_pl ?_
  refine q_ hf rfl rfl rfl (e_move hf rfl) fun a hf => ?_
  obtain ⟨e87, hz88, h84⟩ := bind_some h84
  obtain ⟨b92, o93, _, hA94, h89, h90, hr91, hM⟩ := hM.elem (hM.dat (k := 0) rfl) (n := 1) rfl hz88
  obtain ⟨rfl, hv95⟩ := hr91
  refine q_ hf rfl rfl rfl (e_indexAddr (A := A32) (b := b92) (o := o93) (xs := e23.Next) (i := n72) hf hA94 rfl rfl Tryd.underlying31 Tryd.sizeOf2 h89 h90) fun a hf => ?_
  refine q_ hf rfl rfl rfl (e_load1 hf rfl Tryd.isAgg2 (hM.litCell (k := 0) (j := 0) rfl rfl rfl)) fun a hf => ?_
  iterate 2 refine q_ hf rfl rfl rfl (e_assign hf rfl) fun a hf => ?_
  refine pl_nil ?_
  refine then_n ?_
  refine wp_seq ?_
  obtain ⟨w96, hw⟩ : ∃ x, x = w74.drew := ⟨_, rfl⟩
  refine region_pi (.q 0 (.q 1 (.q 2 (.q 3 (.q 4 (.l 5 (.l 6 (.l 7 (.nil))))))))) (Ext w96) rfl (by kernel_rfl) ?_
  have hM := hM.drew
  rw [← hw] at hM ⊢
  clear hw
  refine pi_q hf rfl rfl rfl rfl (Ext.refl _) (e_load1 hf rfl Tryd.isAgg22 (hM.boxCell (k := 3) rfl rfl)) fun a hf => ?_
  refine pi_q hf rfl rfl rfl rfl (Ext.refl _) (e_field hf rfl Tryd.underlying76 rfl Tryd.sizeOf9 (o' := 1) rfl) fun a hf => ?_
  refine pi_q hf rfl rfl rfl rfl (Ext.refl _) (e_load1 hf rfl Tryd.isAgg9 (hM.boxCell (k := 0) rfl rfl)) fun a hf => ?_
  refine pi_q hf rfl rfl rfl rfl (Ext.refl _) (e_move hf rfl) fun a hf => ?_
  obtain ⟨c97, hz98, h84⟩ := bind_some h84
  refine pi_q hf rfl rfl rfl rfl (Ext.refl _) (e_indexS hf (x := e23.Letters) rfl rfl Tryd.underlying9 hz98) fun a hf => ?_
  refine pi_one ?_
  refine pi_l hf rfl rfl rfl rfl (w_slice hf hM (K := byteRep) (xs := ([c97] : Str)) (os := [.tmp 33]) Tryd.underlying22 ei_5 rfl rfl rfl rfl rfl ⟨⟨[vB (c97)], rfl, rfl⟩, trivial⟩ rfl fun b99 w100 hx101 hM => ⟨Ext w100, fun _ h => Ext.trans hx101 h, Ext.refl _, fun a hf => ?_⟩)
  refine pi_one ?_
  obtain ⟨xs102, hz103, h84⟩ := bind_some h84
  refine pi_z hf rfl rfl rfl rfl (by kernel_rfl) (w_append hf hM Tryd.underlying22 ei_5 rfl rfl rfl (k := 5) rfl (hM.srcRow (k := 0) rfl) hz103 fun A104 c105 w106 hM a hf => ?_)
  dsimp only [List.set] at hM
  refine pi_one ?_
  refine pi_z0 hf rfl rfl rfl (by kernel_rfl) (w_store hf hM (us := [vL A104 (xs102) c105]) (cs' := [vL A104 (xs102) c105]) rfl rfl (k := 4) rfl rfl Tryd.sizeOf22 rfl rfl rfl fun w109 hM => ?_)
  dsimp only [List.set] at hM
  refine pi_nil ?_
  refine then_n ?_
  refine wp_seq ?_
  refine region_pl ?_
  refine q_ hf rfl rfl rfl (e_load1 hf rfl Tryd.isAgg118 (hM.litCell (k := 5) (j := 0) rfl rfl rfl)) fun a hf => ?_
  refine q_ hf rfl rfl rfl (e_move hf rfl) fun a hf => ?_
  have hM := hM.front (k := 5) rfl
  dsimp only [List.eraseIdx] at hM
  have hM := hM.front (k := 5) rfl
  dsimp only [List.eraseIdx] at hM
  have hM := hM.front (k := 5) rfl
  dsimp only [List.eraseIdx] at hM
  have hM := hM.front (k := 5) rfl
  dsimp only [List.eraseIdx] at hM
  have hM : Mem C _ ([.box b8 [vL A67 (xs66) c68] 28, .row strRep A67 c68 9 xs66 true, .box b12 [vL A104 (xs102) c105] 22, .row byteRep A104 c105 5 xs102 true] ++ [.row byteRep (some ⟨b99, 0, none⟩) 1 5 ([c97] : Str) true, .box b35 [.bool (e23.Final), vS (e23.Letters), vL A32 (e23.Next) c33] 76]) _ := hM
  obtain ⟨y112, hz113, h84⟩ := bind_some h84
  refine pl_l hf rfl rfl rfl (w_callV hf (fk := 81) (fc := [vP b4 (o5), vP b8 (0), vP b12 (0), vP b16 (o17)]) rfl Tryd.call81 rfl (ih ⟨_, Sh C _ _, ownB _, hM.sh_lt, sub_dis, C.G, hM.g_lt, hM.g_own, hM.tabs⟩ e87 hv95 p3 _ _ (hM.dat (k := 6) rfl) xs66 _ _ _ xs102 _ _ _ _ _ (hM.at_ (k := 5) rfl) hM.sub sub_dis _ hz113) ?_)
  rintro _ w118 ⟨A114, c115, A116, c117, rfl, hM2⟩
  obtain ⟨hM, hup120⟩ := hM.backG hM2
  dsimp only [List.cons_append, List.nil_append] at hM hup120
  clear hM2
  refine ⟨_, rfl, fun a hf => ?_⟩
  refine pl_nil ?_
  refine then_n ?_
  refine region_pl ?_
  iterate 2 refine q_ hf rfl rfl rfl (e_load1 hf rfl Tryd.isAgg22 (hM.boxCell (k := 2) rfl rfl)) fun a hf => ?_
  have hl121 := row_len (hM.ownAt (k := 3) rfl)
  refine q_ hf rfl rfl rfl (e_lenL hf (x := y112.2) rfl Tryd.underlying22) fun a hf => ?_
  obtain ⟨z122, hz123, h84⟩ := bind_some h84
  refine q_ hf rfl rfl rfl (e_sub hf rfl rfl hz123) fun a hf => ?_
  obtain ⟨l124, hz125, h84⟩ := bind_some h84
  have hr126 := hM.rowForm (k := 3) rfl
  have hM := hM.truncRow (k := 3) rfl hz125
  dsimp only [List.set] at hM
  refine q_ hf rfl rfl rfl (e_trunc hf (xs := y112.2) rfl rfl Tryd.underlying22 Tryd.sizeOf5 hr126 hz125) fun a hf => ?_
  refine pl_0 hf rfl rfl (w_store hf hM (us := [vL A116 (l124) c117]) (cs' := [vL A116 (l124) c117]) rfl rfl (k := 2) rfl rfl Tryd.sizeOf22 rfl rfl rfl fun w127 hM => ?_)
  dsimp only [List.set] at hM
  refine pl_nil ?_
  refine blk_n ?_
  refine then_n ?_
  refine region_pl ?_
  obtain ⟨z130, hz131, h84⟩ := bind_some h84
  refine q_ hf rfl rfl rfl (e_add hf rfl rfl hz131) fun a hf => ?_
  refine q_ hf rfl rfl rfl (e_move hf rfl) fun a hf => ?_
  refine pl_nil ?_
  obtain rfl := some_inj h84
  refine then_n ⟨_, rfl, ?_⟩
  have hM := hM.front (k := 3) rfl
  dsimp only [List.eraseIdx] at hM
  have hM := hM.front (k := 3) rfl
  dsimp only [List.eraseIdx] at hM
  have hM := hM.front (k := 3) rfl
  dsimp only [List.eraseIdx] at hM
  have hM := hM.front (k := 3) rfl
  dsimp only [List.eraseIdx] at hM
  have hM := hM.front (k := 5) rfl
  dsimp only [List.eraseIdx] at hM
  exact ⟨y112.1, l124, z130, A114, c115, A116, c117, rfl, hf.keep ⟨rfl, rfl, rfl, rfl, rfl, rfl, trivial⟩, (hM.drop (.cons_cons _ (.cons_cons _ (.cons_cons _ (.cons_cons _ (.cons_cons _ (.cons _ .slnil))))))).pick [1, 2, 3, 4, 5, 6] rfl, (chk_R hz131)⟩
 refine cond_f hf rfl hc86 ?_
 refine wp_exit ?_
 refine then_x ?_
 obtain rfl := some_inj h84
 obtain rfl := hd85 _ rfl
 try dsimp only at h
 refine then_x ?_
 refine exit_hit ?_
 obtain rfl := some_inj h
 have hM := hM.front (k := 4) rfl
 dsimp only [List.eraseIdx] at hM
 have hM := hM.front (k := 4) rfl
 dsimp only [List.eraseIdx] at hM
 have hM := hM.front (k := 4) rfl
 dsimp only [List.eraseIdx] at hM
 have hM := hM.front (k := 4) rfl
 dsimp only [List.eraseIdx] at hM
 have hM := hM.outs (own' := [.box b8 [vL A67 (xs66) c68] 28, .row strRep A67 c68 9 xs66 true, .box b12 [vL A70 (xs69) c71] 22, .row byteRep A70 c71 5 xs69 true]) 4 rfl
 exact leave0n hf rfl ⟨A67, c68, A70, c71, rfl, hM.fin⟩

theorem r_impl_Dawg_words_1_n : ∀ n, Ct_impl_Dawg_words_1 (m_impl_Dawg_words_1_n n)
  | 0 => fun C node1 hp2 p3 b4 o5 hp6 p7 b8 A9 c10 p11 b12 A13 c14 b16 o17 hp18 hO hd r h => by cases h
  | n + 1 => r_impl_Dawg_words_1_b _ (r_impl_Dawg_words_1_n n)

theorem r_impl_Dawg_words_1 : Ct_impl_Dawg_words_1 (m_impl_Dawg_words_1) := r_impl_Dawg_words_1_n fuelN

set_option maxRecDepth 100000 in
set_option maxHeartbeats 4000000 in
theorem r_impl_Dawg_words (C : Cx) (d1 : Dawg) (A2 : Option Addr) (c3 : Nat) (hp4 : (sliceRep NodeRep).R C.w0 C.S0 d1.Nodes [vL A2 d1.Nodes c3]) (r : (List Str)) (h : m_impl_Dawg_words d1 = some r) :
    Calls Tryd.prog 49 #[.agg #[vL A2 (d1.Nodes) c3]] C.w0 fun e w => ∃ (A_1 : Option Addr), ∃ (c_1 : Nat), e = .returned (vL A_1 (r) c_1) ∧ Mem C w [.row strRep A_1 c_1 9 r true] [] := by
 have hM := Mem.begin C [.dat (sliceRep NodeRep) d1.Nodes [vL A2 d1.Nodes c3]] ⟨hp4, trivial⟩
 refine enter Tryd.func49 rfl Tryd.ntmps49 rfl fun a hf => ?_
 unfold m_impl_Dawg_words at h
 refine wp_seq ?_
 refine region_pl ?_
 refine pl_l hf rfl rfl rfl (w_box hf hM (cs := [vL A2 (d1.Nodes) c3]) rfl rfl fun b5 w6 hx7 hM a hf => ?_)
 refine q_ hf rfl rfl rfl (e_assign hf rfl) fun a hf => ?_
 refine pl_nil ?_
 refine then_n ?_
 refine wp_seq ?_
 refine region_pl ?_
 refine pl_l hf rfl rfl rfl (w_slice0 (K := strRep) hM Tryd.underlying28 ei_9 fun b9 w10 hx11 hM a hf => ?_)
 refine pl_l hf rfl rfl rfl (w_slice0 (K := byteRep) hM Tryd.underlying22 ei_5 fun b12 w13 hx14 hM a hf => ?_)
 refine pl_l hf rfl rfl rfl (w_alloc hM (cs := [vL none (([] : (List Str))) 0]) Tryd.zeroValue28 rfl fun b15 w16 hx17 hM a hf => ?_)
 refine pl_l hf rfl rfl rfl (w_alloc hM (cs := [vL none (([] : Str)) 0]) Tryd.zeroValue22 rfl fun b19 w20 hx21 hM a hf => ?_)
 refine pl_0 hf rfl rfl (w_store hf hM (us := [vL (some ⟨b9, 0, none⟩) (([] : (List Str))) 0]) (cs' := [vL (some ⟨b9, 0, none⟩) (([] : (List Str))) 0]) rfl rfl (k := 1) rfl rfl Tryd.sizeOf28 rfl rfl rfl fun w23 hM => ?_)
 dsimp only [List.set] at hM
 refine pl_0 hf rfl rfl (w_store hf hM (us := [vL (some ⟨b12, 0, none⟩) (([] : Str)) 0]) (cs' := [vL (some ⟨b12, 0, none⟩) (([] : Str)) 0]) rfl rfl (k := 0) rfl rfl Tryd.sizeOf22 rfl rfl rfl fun w26 hM => ?_)
 dsimp only [List.set] at hM
 refine pl_nil ?_
 refine then_n ?_
 refine wp_seq ?_
 refine region_pl ?_
 refine pl_l hf rfl rfl rfl (w_alloc hM (cs := [.nilFunc]) Tryd.zeroValue118 rfl fun b29 w30 hx31 hM a hf => ?_)
 refine pl_nil ?_
 refine then_n ?_
 refine wp_seq ?_
 refine region_pl ?_
 refine q_ hf rfl rfl rfl (w_makeFunc hf rfl) fun a hf => ?_
 refine pl_0 hf rfl rfl (w_store hf hM (us := [.func (.func 81) #[] #[vP b5 (0), vP b15 (0), vP b19 (0), vP b29 (0)]]) (cs' := [.func (.func 81) #[] #[vP b5 (0), vP b15 (0), vP b19 (0), vP b29 (0)]]) rfl rfl (k := 0) rfl rfl Tryd.sizeOf118 rfl rfl rfl fun w33 hM => ?_)
 dsimp only [List.set] at hM
 refine pl_nil ?_
 refine then_n ?_
 refine wp_seq ?_
 refine region_pl ?_
 refine q_ hf rfl rfl rfl (e_load1 hf rfl Tryd.isAgg118 (hM.boxCell (k := 0) rfl rfl)) fun a hf => ?_
 have hM := hM.freezeBox (k := 0) rfl rfl
 dsimp only [List.eraseIdx] at hM
 have hM := hM.freezeBox (k := 4) rfl rfl
 dsimp only [List.eraseIdx] at hM
 have hM := hM.front (k := 2) rfl
 dsimp only [List.eraseIdx] at hM
 have hM := hM.front (k := 1) rfl
 dsimp only [List.eraseIdx] at hM
 have hM := hM.front (k := 3) rfl
 dsimp only [List.eraseIdx] at hM
 have hM := hM.front (k := 3) rfl
 dsimp only [List.eraseIdx] at hM
 have hM : Mem C _ ([.box b15 [vL (some ⟨b9, 0, none⟩) (([] : (List Str))) 0] 28, .row strRep (some ⟨b9, 0, none⟩) 0 9 ([] : (List Str)) true, .box b19 [vL (some ⟨b12, 0, none⟩) (([] : Str)) 0] 22, .row byteRep (some ⟨b12, 0, none⟩) 0 5 ([] : Str) true] ++ []) _ := hM
 obtain ⟨y36, hz37, h⟩ := bind_some h
 refine pl_l hf rfl rfl rfl (w_callV hf (fk := 81) (fc := [vP b5 (0), vP b15 (0), vP b19 (0), vP b29 (0)]) rfl Tryd.call81 rfl (r_impl_Dawg_words_1 ⟨_, Sh C _ _, ownB _, hM.sh_lt, sub_dis, C.G, hM.g_lt, hM.g_own, hM.tabs⟩ 0 (R64_lit rfl) d1 _ _ (hM.litPtr (k := 0) (d := 0) (us := [vL A2 (d1.Nodes) c3]) rfl rfl rfl (DawgRep_mk (x := d1) (hM.dat (k := 2) rfl))) ([] : (List Str)) _ _ _ ([] : Str) _ _ _ _ _ (hM.at_ (k := 1) rfl) hM.sub sub_dis _ hz37) ?_)
 rintro _ w42 ⟨A38, c39, A40, c41, rfl, hM2⟩
 obtain ⟨hM, hup44⟩ := hM.backG hM2
 dsimp only [List.cons_append, List.nil_append] at hM hup44
 clear hM2
 refine ⟨_, rfl, fun a hf => ?_⟩
 refine pl_nil ?_
 refine then_n ?_
 refine wp_seq ?_
 refine region_pl ?_
 refine q_ hf rfl rfl rfl (e_load1 hf rfl Tryd.isAgg28 (hM.boxCell (k := 0) rfl rfl)) fun a hf => ?_
 refine q_ hf rfl rfl rfl (e_assign hf rfl) fun a hf => ?_
 refine pl_nil ?_
 refine then_n ?_
 refine wp_ret ?_
 obtain rfl := some_inj h
 have hM := hM.front (k := 1) rfl
 dsimp only [List.eraseIdx] at hM
 have hM := hM.outs (own' := [.row strRep A38 c39 9 y36.1 true]) 1 rfl
 exact leave1 hf rfl rfl ⟨A38, c39, rfl, hM.fin⟩

set_option maxRecDepth 100000 in
set_option maxHeartbeats 4000000 in
theorem r_cmp_isNaN_string (C : Cx) (x1 : Str) (hp2 : x1.length ≤ maxLen) (r : Bool) (h : m_cmp_isNaN_string x1 = some r) :
    Calls Tryd.prog 107 #[vS (x1)] C.w0 fun e w => e = .returned (.bool (r)) ∧ Mem C w [] [] := by
 have hM := Mem.begin C [] trivial
 refine enter Tryd.func107 rfl Tryd.ntmps107 rfl fun a hf => ?_
 unfold m_cmp_isNaN_string at h
 refine wp_seq ?_
 refine region_pl ?_
 refine q_ hf rfl rfl rfl (e_assign hf rfl) fun a hf => ?_
 refine pl_nil ?_
 refine then_n ?_
 refine wp_seq ?_
 refine region_pl ?_
 iterate 2 refine q_ hf rfl rfl rfl (e_move hf rfl) fun a hf => ?_
 refine q_ hf rfl rfl rfl (e_neS hf (x := x1) (y := x1) rfl rfl) fun a hf => ?_
 refine q_ hf rfl rfl rfl (e_assign hf rfl) fun a hf => ?_
 refine pl_nil ?_
 refine then_n ?_
 refine wp_ret ?_
 obtain rfl := some_inj h
 exact leave1 hf rfl rfl ⟨rfl, hM.fin⟩

set_option maxRecDepth 100000 in
set_option maxHeartbeats 4000000 in
theorem r_cmp_Less_string (C : Cx) (x1 : Str) (hp2 : x1.length ≤ maxLen) (y3 : Str) (hp4 : y3.length ≤ maxLen) (r : Bool) (h : m_cmp_Less_string x1 y3 = some r) :
    Calls Tryd.prog 82 #[vS (x1), vS (y3)] C.w0 fun e w => e = .returned (.bool (r)) ∧ Mem C w [] [] := by
 have hM := Mem.begin C [] trivial
 refine enter Tryd.func82 rfl Tryd.ntmps82 rfl fun a hf => ?_
 unfold m_cmp_Less_string at h
 refine wp_seq ?_
 refine region_pl ?_
 refine q_ hf rfl rfl rfl (e_assign hf rfl) fun a hf => ?_
 refine pl_nil ?_
 refine then_n ?_
 obtain ⟨x7, h8, h⟩ := bind_some h
 refine seq_join (fun a w => ∃ (t5 : Bool), t5 = x7 ∧ Has 17 a [(4, .bool (t5))] ∧ Mem C w [] []) ?_ ?_
 ·refine region_pl ?_
  refine q_ hf rfl rfl rfl (e_move hf rfl) fun a hf => ?_
  obtain ⟨y9, hz10, h8⟩ := bind_some h8
  refine pl_l hf rfl rfl rfl (w_call hf Tryd.call107 rfl (r_cmp_isNaN_string ⟨_, Sh C _ _, none_, hM.sh_lt, none_not, C.G, hM.g_lt, g_none, hM.tabs⟩ x1 hp2 _ hz10) ?_)
  rintro _ w11 ⟨rfl, hM2⟩
  obtain ⟨hM, hx12, hup13⟩ := hM.back hM2
  dsimp only [List.cons_append, List.nil_append] at hM hup13
  clear hM2
  refine ⟨_, rfl, fun a hf => ?_⟩
  refine q_ hf rfl rfl rfl (e_move hf rfl) fun a hf => ?_
  rcases cond_some h8 with ⟨hc14, h8⟩ | ⟨hc14, h8⟩
  ·refine gq (wanted_t hf rfl rfl rfl rfl hc14) hf rfl rfl (e_move hf rfl) fun a hf => ?_
   obtain ⟨y15, hz16, h8⟩ := bind_some h8
   refine pl_gl (wanted_t hf rfl rfl rfl rfl hc14) hf rfl rfl (w_call hf Tryd.call107 rfl (r_cmp_isNaN_string ⟨_, Sh C _ _, none_, hM.sh_lt, none_not, C.G, hM.g_lt, g_none, hM.tabs⟩ y3 hp4 _ hz16) ?_)
   rintro _ w17 ⟨rfl, hM2⟩
   obtain ⟨hM, hx18, hup19⟩ := hM.back hM2
   dsimp only [List.cons_append, List.nil_append] at hM hup19
   clear hM2
   refine ⟨_, rfl, fun a hf => ?_⟩
   refine gq (wanted_t hf rfl rfl rfl rfl hc14) hf rfl rfl (e_not hf rfl) fun a hf => ?_
   refine q_ hf rfl rfl rfl (e_pick_t hf rfl hc14 rfl) fun a hf => ?_
   refine q_ hf rfl rfl rfl (e_move hf rfl) fun a hf => ?_
   rcases cond_some h8 with ⟨hc20, h8⟩ | ⟨hc20, h8⟩
   ·iterate 3 refine pl_gs (wanted_f hf rfl rfl rfl rfl hc20) hf rfl rfl fun a hf => ?_
    refine q_ hf rfl rfl rfl (e_pick_t hf rfl hc20 rfl) fun a hf => ?_
    refine q_ hf rfl rfl rfl (e_assign hf rfl) fun a hf => ?_
    refine pl_nil ?_
    obtain rfl := some_inj h8
    refine then_n ?_
    exact ⟨true, rfl, hf.keep ⟨rfl, trivial⟩, hM.pick [] rfl⟩
   iterate 2 refine gq (wanted_t hf rfl rfl rfl rfl hc20) hf rfl rfl (e_move hf rfl) fun a hf => ?_
   refine gq (wanted_t hf rfl rfl rfl rfl hc20) hf rfl rfl (e_ltS hf (x := x1) (y := y3) rfl rfl) fun a hf => ?_
   refine q_ hf rfl rfl rfl (e_pick_f hf rfl hc20 rfl) fun a hf => ?_
   refine q_ hf rfl rfl rfl (e_assign hf rfl) fun a hf => ?_
   refine pl_nil ?_
   obtain rfl := some_inj h8
   refine then_n ?_
   exact ⟨(ltS x1 y3), rfl, hf.keep ⟨rfl, trivial⟩, hM.pick [] rfl⟩
  iterate 3 refine pl_gs (wanted_f hf rfl rfl rfl rfl hc14) hf rfl rfl fun a hf => ?_
  refine q_ hf rfl rfl rfl (e_pick_f hf rfl hc14 rfl) fun a hf => ?_
  refine q_ hf rfl rfl rfl (e_move hf rfl) fun a hf => ?_
  iterate 2 refine gq (wanted_t hf rfl rfl rfl rfl rfl) hf rfl rfl (e_move hf rfl) fun a hf => ?_
  refine gq (wanted_t hf rfl rfl rfl rfl rfl) hf rfl rfl (e_ltS hf (x := x1) (y := y3) rfl rfl) fun a hf => ?_
  refine q_ hf rfl rfl rfl (e_pick_f hf rfl rfl rfl) fun a hf => ?_
  refine q_ hf rfl rfl rfl (e_assign hf rfl) fun a hf => ?_
  refine pl_nil ?_
  obtain rfl := some_inj h8
  refine then_n ?_
  exact ⟨(ltS x1 y3), rfl, hf.keep ⟨rfl, trivial⟩, hM.pick [] rfl⟩
 rintro a w24 ⟨t5, rfl, hf, hM⟩
 try dsimp only at h
 refine wp_ret ?_
 obtain rfl := some_inj h
 exact leave1 hf rfl rfl ⟨rfl, hM.fin⟩

set_option maxRecDepth 100000 in
set_option maxHeartbeats 4000000 in
theorem r_slices_isNaN_string (C : Cx) (x1 : Str) (hp2 : x1.length ≤ maxLen) (r : Bool) (h : m_slices_isNaN_string x1 = some r) :
    Calls Tryd.prog 83 #[vS (x1)] C.w0 fun e w => e = .returned (.bool (r)) ∧ Mem C w [] [] := by
 have hM := Mem.begin C [] trivial
 refine enter Tryd.func83 rfl Tryd.ntmps83 rfl fun a hf => ?_
 unfold m_slices_isNaN_string at h
 refine wp_seq ?_
 refine region_pl ?_
 refine q_ hf rfl rfl rfl (e_assign hf rfl) fun a hf => ?_
 refine pl_nil ?_
 refine then_n ?_
 refine wp_seq ?_
 refine region_pl ?_
 iterate 2 refine q_ hf rfl rfl rfl (e_move hf rfl) fun a hf => ?_
 refine q_ hf rfl rfl rfl (e_neS hf (x := x1) (y := x1) rfl rfl) fun a hf => ?_
 refine q_ hf rfl rfl rfl (e_assign hf rfl) fun a hf => ?_
 refine pl_nil ?_
 refine then_n ?_
 refine wp_ret ?_
 obtain rfl := some_inj h
 exact leave1 hf rfl rfl ⟨rfl, hM.fin⟩

set_option maxRecDepth 100000 in
set_option maxHeartbeats 4000000 in
theorem r_slices_BinarySearch_string_string (C : Cx) (x1 : (List Str)) (A2 : Option Addr) (c3 : Nat) (hp4 : (sliceRep strRep).R C.w0 C.S0 x1 [vL A2 x1 c3]) (target5 : Str) (hp6 : target5.length ≤ maxLen) (r : (Int × Bool)) (h : m_slices_BinarySearch_string_string x1 target5 = some r) :
    Calls Tryd.prog 51 #[vL A2 (x1) c3, vS (target5)] C.w0 fun e w => e = .returned (.tuple #[vI (r.1), .bool (r.2)]) ∧ Mem C w [] [] ∧ R64 r.1 := by
 have hM := Mem.begin C [.dat (sliceRep strRep) x1 [vL A2 x1 c3]] ⟨hp4, trivial⟩
 refine enter Tryd.func51 rfl Tryd.ntmps51 rfl fun a hf => ?_
 unfold m_slices_BinarySearch_string_string at h
 refine wp_seq ?_
 refine region_pl ?_
 iterate 2 refine q_ hf rfl rfl rfl (e_assign hf rfl) fun a hf => ?_
 refine pl_nil ?_
 refine then_n ?_
 refine wp_seq ?_
 refine region_pl ?_
 refine q_ hf rfl rfl rfl (e_move hf rfl) fun a hf => ?_
 have hl7 := slice_len (hM.dat (k := 0) rfl)
 refine q_ hf rfl rfl rfl (e_lenL hf (x := x1) rfl Tryd.underlying28) fun a hf => ?_
 refine q_ hf rfl rfl rfl (e_assign hf rfl) fun a hf => ?_
 refine pl_nil ?_
 refine then_n ?_
 refine wp_seq ?_
 refine region_pl ?_
 refine q_ hf rfl rfl rfl (e_move hf rfl) fun a hf => ?_
 iterate 2 refine q_ hf rfl rfl rfl (e_assign hf rfl) fun a hf => ?_
 refine pl_nil ?_
 refine then_n ?_
 obtain ⟨x10, h11, h⟩ := bind_some h
 refine seq_join (fun a w => ∃ (h8 : Int), h8 = x10 ∧ Has 54 a [(0, vL A2 (x1) c3), (1, vS (target5)), (6, vI ((x1.length : Int))), (7, vI (h8))] ∧ Mem C w [] [.dat (sliceRep strRep) x1 [vL A2 x1 c3]] ∧ R64 h8) ?_ ?_
 ·refine wp_block ?_
  obtain ⟨x19, h20, h11⟩ := bind_some h11
  refine wp_loopM h20 (fun s a w => ∃ (h12 : Int) (n14 : Int), (h12, n14) = s ∧ Has 54 a [(0, vL A2 (x1) c3), (1, vS (target5)), (6, vI ((x1.length : Int))), (7, vI (h12)), (8, vI (n14))] ∧ Mem C w [] [.dat (sliceRep strRep) x1 [vL A2 x1 c3]] ∧ R64 h12 ∧ R64 n14) ?_ ?_
  ·exact ⟨0, (x1.length : Int), rfl, hf.keep ⟨rfl, rfl, rfl, rfl, rfl, trivial⟩, hM.pick [0] rfl, (R64_lit rfl), (R64_len hl7)⟩
  rintro s o21 a w16 ⟨h12, n14, rfl, hf, hM, hv13, hv15⟩ h22 hd23
  replace h22 : m_slices_BinarySearch_string_string_l1 x1 target5 h12 n14 = some o21 := h22
  unfold m_slices_BinarySearch_string_string_l1 at h22
  iterate 2 refine wp_seq ?_
  refine region_pl ?_
  iterate 2 refine q_ hf rfl rfl rfl (e_move hf rfl) fun a hf => ?_
  refine q_ hf rfl rfl rfl (e_lt hf (x := h12) (y := n14) rfl rfl) fun a hf => ?_
  refine pl_nil ?_
  refine then_n ?_
  rcases cond_some h22 with ⟨hc24, h22⟩ | ⟨hc24, h22⟩
  ·refine cond_t hf rfl hc24 ?_
   refine wp_skip ?_
   refine then_n ?_
   refine wp_block ?_
   refine wp_seq ?_
   refine region_pl ?_
   iterate 2 refine q_ hf rfl rfl rfl (e_move hf rfl) fun a hf => ?_
   obtain ⟨z25, hz26, h22⟩ := bind_some h22
   refine q_ hf rfl rfl rfl (e_add hf rfl rfl hz26) fun a hf => ?_
   refine q_ hf rfl rfl rfl (e_convIW hf rfl Tryd.underlying3 Tryd.underlying119) fun a hf => ?_
   refine q_ hf rfl rfl rfl (e_shrW hf (k := 1) rfl rfl rfl rfl (m := 2) rfl (U64_mod _)) fun a hf => ?_
   obtain ⟨z27, hz28, h22⟩ := bind_some h22
   refine q_ hf rfl rfl rfl (e_convWI hf rfl Tryd.underlying119 Tryd.underlying3 hz28) fun a hf => ?_
   refine q_ hf rfl rfl rfl (e_assign hf rfl) fun a hf => ?_
   refine pl_nil ?_
   refine then_n ?_
   refine wp_seq ?_
   refine region_pl ?_
   iterate 2 refine q_ hf rfl rfl rfl (e_move hf rfl) fun a hf => ?_
   obtain ⟨e29, hz30, h22⟩ := bind_some h22
   obtain ⟨b34, o35, _, hA36, h31, h32, hr33, hM⟩ := hM.elem (hM.dat (k := 0) rfl) (n := 1) rfl hz30
   obtain ⟨rfl, hv37⟩ := hr33
   refine q_ hf rfl rfl rfl (e_indexAddr (A := A2) (b := b34) (o := o35) (xs := x1) (i := z27) hf hA36 rfl rfl Tryd.underlying28 Tryd.sizeOf9 h31 h32) fun a hf => ?_
   refine q_ hf rfl rfl rfl (e_load1 hf rfl Tryd.isAgg9 (hM.litCell (k := 0) (j := 0) rfl rfl rfl)) fun a hf => ?_
   refine q_ hf rfl rfl rfl (e_move hf rfl) fun a hf => ?_
   obtain ⟨y38, hz39, h22⟩ := bind_some h22
   refine pl_l hf rfl rfl rfl (w_call hf Tryd.call82 rfl (r_cmp_Less_string ⟨_, Sh C _ _, none_, hM.sh_lt, none_not, C.G, hM.g_lt, g_none, hM.tabs⟩ e29 hv37 target5 hp6 _ hz39) ?_)
   rintro _ w40 ⟨rfl, hM2⟩
   obtain ⟨hM, hx41, hup42⟩ := hM.back hM2
   dsimp only [List.cons_append, List.nil_append] at hM hup42
   clear hM2
   refine ⟨_, rfl, fun a hf => ?_⟩
   refine pl_nil ?_
   refine then_n ?_
   rcases cond_some h22 with ⟨hc43, h22⟩ | ⟨hc43, h22⟩
   ·refine cond_t hf rfl hc43 ?_
    refine region_pl ?_
    refine q_ hf rfl rfl rfl (e_move hf rfl) fun a hf => ?_
    obtain ⟨z44, hz45, h22⟩ := bind_some h22
    refine q_ hf rfl rfl rfl (e_add hf rfl rfl hz45) fun a hf => ?_
    refine q_ hf rfl rfl rfl (e_assign hf rfl) fun a hf => ?_
    refine pl_nil ?_
    refine blk_n ?_
    obtain rfl := some_inj h22
    refine then_n ⟨_, rfl, ?_⟩
    exact ⟨z44, n14, rfl, hf.keep ⟨rfl, rfl, rfl, rfl, rfl, trivial⟩, hM.pick [1] rfl, (chk_R hz45), hv15⟩
   refine cond_f hf rfl hc43 ?_
   refine region_pl ?_
   refine q_ hf rfl rfl rfl (e_move hf rfl) fun a hf => ?_
   refine q_ hf rfl rfl rfl (e_assign hf rfl) fun a hf => ?_
   refine pl_nil ?_
   refine blk_n ?_
   obtain rfl := some_inj h22
   refine then_n ⟨_, rfl, ?_⟩
   exact ⟨h12, z27, rfl, hf.keep ⟨rfl, rfl, rfl, rfl, rfl, trivial⟩, hM.pick [1] rfl, hv13, (chk_R hz28)⟩
  refine cond_f hf rfl hc24 ?_
  refine wp_exit ?_
  refine then_x ?_
  obtain rfl := some_inj h22
  obtain rfl := hd23 _ rfl
  try dsimp only at h11
  refine then_x ?_
  refine exit_hit ?_
  obtain rfl := some_inj h11
  refine then_n ?_
  exact ⟨h12, rfl, hf.keep ⟨rfl, rfl, rfl, rfl, trivial⟩, hM.pick [0] rfl, hv13⟩
 rintro a w52 ⟨h8, rfl, hf, hM, hv9⟩
 try dsimp only at h
 obtain ⟨x57, h58, h⟩ := bind_some h
 refine seq_join (fun a w => ∃ (n53 : Int) (i55 : Bool), (n53, i55) = x57 ∧ Has 54 a [(4, vI (n53)), (5, .bool (i55))] ∧ Mem C w [] [.dat (sliceRep strRep) x1 [vL A2 x1 c3]] ∧ R64 n53) ?_ ?_
 ·refine region_pl ?_
  iterate 3 refine q_ hf rfl rfl rfl (e_move hf rfl) fun a hf => ?_
  refine q_ hf rfl rfl rfl (e_lt hf (x := h8) (y := (x1.length : Int)) rfl rfl) fun a hf => ?_
  refine q_ hf rfl rfl rfl (e_move hf rfl) fun a hf => ?_
  rcases cond_some h58 with ⟨hc59, h58⟩ | ⟨hc59, h58⟩
  ·iterate 2 refine gq (wanted_t hf rfl rfl rfl rfl hc59) hf rfl rfl (e_move hf rfl) fun a hf => ?_
   obtain ⟨e60, hz61, h58⟩ := bind_some h58
   obtain ⟨b65, o66, _, hA67, h62, h63, hr64, hM⟩ := hM.elem (hM.dat (k := 0) rfl) (n := 1) rfl hz61
   obtain ⟨rfl, hv68⟩ := hr64
   refine gq (wanted_t hf rfl rfl rfl rfl hc59) hf rfl rfl (e_indexAddr (A := A2) (b := b65) (o := o66) (xs := x1) (i := h8) hf hA67 rfl rfl Tryd.underlying28 Tryd.sizeOf9 h62 h63) fun a hf => ?_
   refine gq (wanted_t hf rfl rfl rfl rfl hc59) hf rfl rfl (e_load1 hf rfl Tryd.isAgg9 (hM.litCell (k := 0) (j := 0) rfl rfl rfl)) fun a hf => ?_
   refine gq (wanted_t hf rfl rfl rfl rfl hc59) hf rfl rfl (e_move hf rfl) fun a hf => ?_
   refine gq (wanted_t hf rfl rfl rfl rfl hc59) hf rfl rfl (e_eqS hf (x := e60) (y := target5) rfl rfl) fun a hf => ?_
   refine gq (wanted_t hf rfl rfl rfl rfl hc59) hf rfl rfl (e_move hf rfl) fun a hf => ?_
   rcases cond_some h58 with ⟨hc69, h58⟩ | ⟨hc69, h58⟩
   ·iterate 6 refine pl_gs (wanted_f hf rfl rfl rfl rfl hc69) hf rfl rfl fun a hf => ?_
    iterate 2 refine pl_gs (wanted_u hf rfl rfl rfl rfl) hf rfl rfl fun a hf => ?_
    refine pl_gs (wanted_f hf rfl rfl rfl rfl hc69) hf rfl rfl fun a hf => ?_
    refine gq (wanted_t hf rfl rfl rfl rfl hc59) hf rfl rfl (e_pick_t hf rfl hc69 rfl) fun a hf => ?_
    refine q_ hf rfl rfl rfl (e_pick_t hf rfl hc59 rfl) fun a hf => ?_
    iterate 2 refine q_ hf rfl rfl rfl (e_assign hf rfl) fun a hf => ?_
    refine pl_nil ?_
    obtain rfl := some_inj h58
    refine then_n ?_
    exact ⟨h8, true, rfl, hf.keep ⟨rfl, rfl, trivial⟩, hM.pick [1] rfl, hv9⟩
   iterate 2 refine gq (wanted_t hf rfl rfl rfl rfl hc69) hf rfl rfl (e_move hf rfl) fun a hf => ?_
   obtain ⟨e71, hz72, h58⟩ := bind_some h58
   obtain ⟨b76, o77, _, hA78, h73, h74, hr75, hM⟩ := hM.elem (hM.dat (k := 1) rfl) (n := 1) rfl hz72
   obtain ⟨rfl, hv79⟩ := hr75
   refine gq (wanted_t hf rfl rfl rfl rfl hc69) hf rfl rfl (e_indexAddr (A := A2) (b := b76) (o := o77) (xs := x1) (i := h8) hf hA78 rfl rfl Tryd.underlying28 Tryd.sizeOf9 h73 h74) fun a hf => ?_
   refine gq (wanted_t hf rfl rfl rfl rfl hc69) hf rfl rfl (e_load1 hf rfl Tryd.isAgg9 (hM.litCell (k := 0) (j := 0) rfl rfl rfl)) fun a hf => ?_
   obtain ⟨y80, hz81, h58⟩ := bind_some h58
   refine pl_gl (wanted_t hf rfl rfl rfl rfl hc69) hf rfl rfl (w_call hf Tryd.call83 rfl (r_slices_isNaN_string ⟨_, Sh C _ _, none_, hM.sh_lt, none_not, C.G, hM.g_lt, g_none, hM.tabs⟩ e71 hv79 _ hz81) ?_)
   rintro _ w82 ⟨rfl, hM2⟩
   obtain ⟨hM, hx83, hup84⟩ := hM.back hM2
   dsimp only [List.cons_append, List.nil_append] at hM hup84
   clear hM2
   refine ⟨_, rfl, fun a hf => ?_⟩
   refine gq (wanted_t hf rfl rfl rfl rfl hc69) hf rfl rfl (e_move hf rfl) fun a hf => ?_
   rcases cond_some h58 with ⟨hc85, h58⟩ | ⟨hc85, h58⟩
   ·refine gq (wanted_t hf rfl rfl rfl rfl hc85) hf rfl rfl (e_move hf rfl) fun a hf => ?_
    obtain ⟨y86, hz87, h58⟩ := bind_some h58
    refine pl_gl (wanted_t hf rfl rfl rfl rfl hc85) hf rfl rfl (w_call hf Tryd.call83 rfl (r_slices_isNaN_string ⟨_, Sh C _ _, none_, hM.sh_lt, none_not, C.G, hM.g_lt, g_none, hM.tabs⟩ target5 hp6 _ hz87) ?_)
    rintro _ w88 ⟨rfl, hM2⟩
    obtain ⟨hM, hx89, hup90⟩ := hM.back hM2
    dsimp only [List.cons_append, List.nil_append] at hM hup90
    clear hM2
    refine ⟨_, rfl, fun a hf => ?_⟩
    refine gq (wanted_t hf rfl rfl rfl rfl hc69) hf rfl rfl (e_pick_t hf rfl hc85 rfl) fun a hf => ?_
    refine gq (wanted_t hf rfl rfl rfl rfl hc59) hf rfl rfl (e_pick_f hf rfl hc69 rfl) fun a hf => ?_
    refine q_ hf rfl rfl rfl (e_pick_t hf rfl hc59 rfl) fun a hf => ?_
    iterate 2 refine q_ hf rfl rfl rfl (e_assign hf rfl) fun a hf => ?_
    refine pl_nil ?_
    obtain rfl := some_inj h58
    refine then_n ?_
    exact ⟨h8, y86, rfl, hf.keep ⟨rfl, rfl, trivial⟩, hM.pick [2] rfl, hv9⟩
   iterate 2 refine pl_gs (wanted_f hf rfl rfl rfl rfl hc85) hf rfl rfl fun a hf => ?_
   refine gq (wanted_t hf rfl rfl rfl rfl hc69) hf rfl rfl (e_pick_f hf rfl hc85 rfl) fun a hf => ?_
   refine gq (wanted_t hf rfl rfl rfl rfl hc59) hf rfl rfl (e_pick_f hf rfl hc69 rfl) fun a hf => ?_
   refine q_ hf rfl rfl rfl (e_pick_t hf rfl hc59 rfl) fun a hf => ?_
   iterate 2 refine q_ hf rfl rfl rfl (e_assign hf rfl) fun a hf => ?_
   refine pl_nil ?_
   obtain rfl := some_inj h58
   refine then_n ?_
   exact ⟨h8, false, rfl, hf.keep ⟨rfl, rfl, trivial⟩, hM.pick [2] rfl, hv9⟩
  iterate 7 refine pl_gs (wanted_f hf rfl rfl rfl rfl hc59) hf rfl rfl fun a hf => ?_
  iterate 9 refine pl_gs (wanted_u hf rfl rfl rfl rfl) hf rfl rfl fun a hf => ?_
  refine pl_gs (wanted_f hf rfl rfl rfl rfl hc59) hf rfl rfl fun a hf => ?_
  refine q_ hf rfl rfl rfl (e_pick_f hf rfl hc59 rfl) fun a hf => ?_
  iterate 2 refine q_ hf rfl rfl rfl (e_assign hf rfl) fun a hf => ?_
  refine pl_nil ?_
  obtain rfl := some_inj h58
  refine then_n ?_
  exact ⟨h8, false, rfl, hf.keep ⟨rfl, rfl, trivial⟩, hM.pick [0] rfl, hv9⟩
 rintro a w94 ⟨n53, i55, rfl, hf, hM, hv54⟩
 try dsimp only at h
 refine wp_ret ?_
 obtain rfl := some_inj h
 exact leave2 hf rfl rfl rfl ⟨rfl, hM.fin, hv54⟩

set_option maxRecDepth 100000 in
set_option maxHeartbeats 4000000 in
theorem r_internal_stringslite_HasPrefix (C : Cx) (s1 : Str) (hp2 : s1.length ≤ maxLen) (prefix_3 : Str) (hp4 : prefix_3.length ≤ maxLen) (r : Bool) (h : m_internal_stringslite_HasPrefix s1 prefix_3 = some r) :
    Calls Tryd.prog 106 #[vS (s1), vS (prefix_3)] C.w0 fun e w => e = .returned (.bool (r)) ∧ Mem C w [] [] := by
 have hM := Mem.begin C [] trivial
 refine enter Tryd.func106 rfl Tryd.ntmps106 rfl fun a hf => ?_
 unfold m_internal_stringslite_HasPrefix at h
 refine wp_seq ?_
 refine region_pl ?_
 refine q_ hf rfl rfl rfl (e_assign hf rfl) fun a hf => ?_
 refine pl_nil ?_
 refine then_n ?_
 obtain ⟨x7, h8, h⟩ := bind_some h
 refine seq_join (fun a w => ∃ (t5 : Bool), t5 = x7 ∧ Has 18 a [(4, .bool (t5))] ∧ Mem C w [] []) ?_ ?_
 ·refine region_pl ?_
  refine q_ hf rfl rfl rfl (e_move hf rfl) fun a hf => ?_
  refine q_ hf rfl rfl rfl (e_lenS hf (x := s1) rfl Tryd.underlying9) fun a hf => ?_
  refine q_ hf rfl rfl rfl (e_move hf rfl) fun a hf => ?_
  refine q_ hf rfl rfl rfl (e_lenS hf (x := prefix_3) rfl Tryd.underlying9) fun a hf => ?_
  refine q_ hf rfl rfl rfl (e_ge hf (x := (s1.length : Int)) (y := (prefix_3.length : Int)) rfl rfl) fun a hf => ?_
  refine q_ hf rfl rfl rfl (e_move hf rfl) fun a hf => ?_
  rcases cond_some h8 with ⟨hc9, h8⟩ | ⟨hc9, h8⟩
  ·iterate 2 refine gq (wanted_t hf rfl rfl rfl rfl hc9) hf rfl rfl (e_move hf rfl) fun a hf => ?_
   refine gq (wanted_t hf rfl rfl rfl rfl hc9) hf rfl rfl (e_lenS hf (x := prefix_3) rfl Tryd.underlying9) fun a hf => ?_
   obtain ⟨s10, hz11, h8⟩ := bind_some h8
   refine gq (wanted_t hf rfl rfl rfl rfl hc9) hf rfl rfl (e_subSh hf (x := s1) rfl rfl Tryd.underlying9 hz11) fun a hf => ?_
   refine gq (wanted_t hf rfl rfl rfl rfl hc9) hf rfl rfl (e_move hf rfl) fun a hf => ?_
   refine gq (wanted_t hf rfl rfl rfl rfl hc9) hf rfl rfl (e_eqS hf (x := s10) (y := prefix_3) rfl rfl) fun a hf => ?_
   refine q_ hf rfl rfl rfl (e_pick_t hf rfl hc9 rfl) fun a hf => ?_
   refine q_ hf rfl rfl rfl (e_assign hf rfl) fun a hf => ?_
   refine pl_nil ?_
   obtain rfl := some_inj h8
   refine then_n ?_
   exact ⟨(s10 == prefix_3), rfl, hf.keep ⟨rfl, trivial⟩, hM.pick [] rfl⟩
  iterate 6 refine pl_gs (wanted_f hf rfl rfl rfl rfl hc9) hf rfl rfl fun a hf => ?_
  refine q_ hf rfl rfl rfl (e_pick_f hf rfl hc9 rfl) fun a hf => ?_
  refine q_ hf rfl rfl rfl (e_assign hf rfl) fun a hf => ?_
  refine pl_nil ?_
  obtain rfl := some_inj h8
  refine then_n ?_
  exact ⟨false, rfl, hf.keep ⟨rfl, trivial⟩, hM.pick [] rfl⟩
 rintro a w14 ⟨t5, rfl, hf, hM⟩
 try dsimp only at h
 refine wp_ret ?_
 obtain rfl := some_inj h
 exact leave1 hf rfl rfl ⟨rfl, hM.fin⟩

set_option maxRecDepth 100000 in
set_option maxHeartbeats 4000000 in
theorem r_strings_HasPrefix (C : Cx) (s1 : Str) (hp2 : s1.length ≤ maxLen) (prefix_3 : Str) (hp4 : prefix_3.length ≤ maxLen) (r : Bool) (h : m_strings_HasPrefix s1 prefix_3 = some r) :
    Calls Tryd.prog 80 #[vS (s1), vS (prefix_3)] C.w0 fun e w => e = .returned (.bool (r)) ∧ Mem C w [] [] := by
 have hM := Mem.begin C [] trivial
 refine enter Tryd.func80 rfl Tryd.ntmps80 rfl fun a hf => ?_
 unfold m_strings_HasPrefix at h
 refine wp_seq ?_
 refine region_pl ?_
 refine q_ hf rfl rfl rfl (e_assign hf rfl) fun a hf => ?_
 refine pl_nil ?_
 refine then_n ?_
 refine wp_seq ?_
 refine region_pl ?_
 iterate 2 refine q_ hf rfl rfl rfl (e_move hf rfl) fun a hf => ?_
 obtain ⟨y5, hz6, h⟩ := bind_some h
 refine pl_l hf rfl rfl rfl (w_call hf Tryd.call106 rfl (r_internal_stringslite_HasPrefix ⟨_, Sh C _ _, none_, hM.sh_lt, none_not, C.G, hM.g_lt, g_none, hM.tabs⟩ s1 hp2 prefix_3 hp4 _ hz6) ?_)
 rintro _ w7 ⟨rfl, hM2⟩
 obtain ⟨hM, hx8, hup9⟩ := hM.back hM2
 dsimp only [List.cons_append, List.nil_append] at hM hup9
 clear hM2
 refine ⟨_, rfl, fun a hf => ?_⟩
 refine q_ hf rfl rfl rfl (e_assign hf rfl) fun a hf => ?_
 refine pl_nil ?_
 refine then_n ?_
 refine wp_ret ?_
 obtain rfl := some_inj h
 exact leave1 hf rfl rfl ⟨rfl, hM.fin⟩

set_option maxRecDepth 100000 in
set_option maxHeartbeats 4000000 in
theorem r_impl_prefixRange (C : Cx) (list1 : (List Str)) (A2 : Option Addr) (c3 : Nat) (hp4 : (sliceRep strRep).R C.w0 C.S0 list1 [vL A2 list1 c3]) (prefix_5 : Str) (hp6 : prefix_5.length ≤ maxLen) (r : (Int × Int)) (h : m_impl_prefixRange list1 prefix_5 = some r) :
    Calls Tryd.prog 48 #[vL A2 (list1) c3, vS (prefix_5)] C.w0 fun e w => e = .returned (.tuple #[vI (r.1), vI (r.2)]) ∧ Mem C w [] [] ∧ R64 r.1 ∧ R64 r.2 := by
 have hM := Mem.begin C [.dat (sliceRep strRep) list1 [vL A2 list1 c3]] ⟨hp4, trivial⟩
 refine enter Tryd.func48 rfl Tryd.ntmps48 rfl fun a hf => ?_
 unfold m_impl_prefixRange at h
 refine wp_seq ?_
 refine region_pl ?_
 iterate 2 refine q_ hf rfl rfl rfl (e_assign hf rfl) fun a hf => ?_
 refine pl_nil ?_
 refine then_n ?_
 refine wp_seq ?_
 refine region_pl ?_
 iterate 2 refine q_ hf rfl rfl rfl (e_move hf rfl) fun a hf => ?_
 obtain ⟨y7, hz8, h⟩ := bind_some h
 refine pl_l hf rfl rfl rfl (w_call hf Tryd.call51 rfl (r_slices_BinarySearch_string_string ⟨_, Sh C _ _, none_, hM.sh_lt, none_not, C.G, hM.g_lt, g_none, hM.tabs⟩ list1 _ _ (hM.dat (k := 0) rfl) prefix_5 hp6 _ hz8) ?_)
 rintro _ w10 ⟨rfl, hM2, hv9⟩
 obtain ⟨hM, hx11, hup12⟩ := hM.back hM2
 dsimp only [List.cons_append, List.nil_append] at hM hup12
 clear hM2
 refine ⟨_, rfl, fun a hf => ?_⟩
 refine q_ hf rfl rfl rfl (e_move hf rfl) fun a hf => ?_
 iterate 2 refine q_ hf rfl rfl rfl (e_extract hf rfl rfl) fun a hf => ?_
 iterate 2 refine q_ hf rfl rfl rfl (e_assign hf rfl) fun a hf => ?_
 refine pl_nil ?_
 refine then_n ?_
 refine wp_seq ?_
 refine region_pl ?_
 refine q_ hf rfl rfl rfl (e_move hf rfl) fun a hf => ?_
 refine q_ hf rfl rfl rfl (e_assign hf rfl) fun a hf => ?_
 refine pl_nil ?_
 refine then_n ?_
 obtain ⟨x15, h16, h⟩ := bind_some h
 refine seq_join (fun a w => ∃ (n13 : Int), n13 = x15 ∧ Has 34 a [(6, vI (y7.1)), (8, vI (n13))] ∧ Mem C w [] [.dat (sliceRep strRep) list1 [vL A2 list1 c3]] ∧ R64 n13) ?_ ?_
 ·refine wp_block ?_
  obtain ⟨x22, h23, h16⟩ := bind_some h16
  refine wp_loopM h23 (fun s a w => ∃ (n17 : Int), n17 = s ∧ Has 34 a [(0, vL A2 (list1) c3), (1, vS (prefix_5)), (6, vI (y7.1)), (8, vI (n17))] ∧ Mem C w [] [.dat (sliceRep strRep) list1 [vL A2 list1 c3]] ∧ R64 n17) ?_ ?_
  ·exact ⟨y7.1, rfl, hf.keep ⟨rfl, rfl, rfl, rfl, trivial⟩, hM.pick [0] rfl, hv9⟩
  rintro s o24 a w19 ⟨n17, rfl, hf, hM, hv18⟩ h25 hd26
  replace h25 : m_impl_prefixRange_l1 list1 prefix_5 n17 = some o24 := h25
  unfold m_impl_prefixRange_l1 at h25
  refine wp_seq ?_
  obtain ⟨x29, h30, h25⟩ := bind_some h25
  refine seq_join (fun a w => ∃ (t27 : Bool), t27 = x29 ∧ Has 34 a [(0, vL A2 (list1) c3), (1, vS (prefix_5)), (6, vI (y7.1)), (8, vI (n17)), (27, .bool (t27))] ∧ Mem C w [] [.dat (sliceRep strRep) list1 [vL A2 list1 c3]]) ?_ ?_
  ·refine region_pl ?_
   iterate 2 refine q_ hf rfl rfl rfl (e_move hf rfl) fun a hf => ?_
   have hl31 := slice_len (hM.dat (k := 0) rfl)
   refine q_ hf rfl rfl rfl (e_lenL hf (x := list1) rfl Tryd.underlying28) fun a hf => ?_
   refine q_ hf rfl rfl rfl (e_lt hf (x := n17) (y := (list1.length : Int)) rfl rfl) fun a hf => ?_
   refine q_ hf rfl rfl rfl (e_move hf rfl) fun a hf => ?_
   rcases cond_some h30 with ⟨hc32, h30⟩ | ⟨hc32, h30⟩
   ·iterate 2 refine gq (wanted_t hf rfl rfl rfl rfl hc32) hf rfl rfl (e_move hf rfl) fun a hf => ?_
    obtain ⟨e33, hz34, h30⟩ := bind_some h30
    obtain ⟨b38, o39, _, hA40, h35, h36, hr37, hM⟩ := hM.elem (hM.dat (k := 0) rfl) (n := 1) rfl hz34
    obtain ⟨rfl, hv41⟩ := hr37
    refine gq (wanted_t hf rfl rfl rfl rfl hc32) hf rfl rfl (e_indexAddr (A := A2) (b := b38) (o := o39) (xs := list1) (i := n17) hf hA40 rfl rfl Tryd.underlying28 Tryd.sizeOf9 h35 h36) fun a hf => ?_
    refine gq (wanted_t hf rfl rfl rfl rfl hc32) hf rfl rfl (e_load1 hf rfl Tryd.isAgg9 (hM.litCell (k := 0) (j := 0) rfl rfl rfl)) fun a hf => ?_
    refine gq (wanted_t hf rfl rfl rfl rfl hc32) hf rfl rfl (e_move hf rfl) fun a hf => ?_
    obtain ⟨y42, hz43, h30⟩ := bind_some h30
    refine pl_gl (wanted_t hf rfl rfl rfl rfl hc32) hf rfl rfl (w_call hf Tryd.call80 rfl (r_strings_HasPrefix ⟨_, Sh C _ _, none_, hM.sh_lt, none_not, C.G, hM.g_lt, g_none, hM.tabs⟩ e33 hv41 prefix_5 hp6 _ hz43) ?_)
    rintro _ w44 ⟨rfl, hM2⟩
    obtain ⟨hM, hx45, hup46⟩ := hM.back hM2
    dsimp only [List.cons_append, List.nil_append] at hM hup46
    clear hM2
    refine ⟨_, rfl, fun a hf => ?_⟩
    refine q_ hf rfl rfl rfl (e_pick_t hf rfl hc32 rfl) fun a hf => ?_
    refine pl_nil ?_
    obtain rfl := some_inj h30
    refine then_n ?_
    exact ⟨y42, rfl, hf.keep ⟨rfl, rfl, rfl, rfl, rfl, trivial⟩, hM.pick [1] rfl⟩
   iterate 6 refine pl_gs (wanted_f hf rfl rfl rfl rfl hc32) hf rfl rfl fun a hf => ?_
   refine q_ hf rfl rfl rfl (e_pick_f hf rfl hc32 rfl) fun a hf => ?_
   refine pl_nil ?_
   obtain rfl := some_inj h30
   refine then_n ?_
   exact ⟨false, rfl, hf.keep ⟨rfl, rfl, rfl, rfl, rfl, trivial⟩, hM.pick [0] rfl⟩
  rintro a w49 ⟨t27, rfl, hf, hM⟩
  try dsimp only at h25
  rcases cond_some h25 with ⟨hc50, h25⟩ | ⟨hc50, h25⟩
  ·refine cond_t hf rfl hc50 ?_
   refine wp_skip ?_
   refine then_n ?_
   refine wp_block ?_
   refine region_pl ?_
   refine q_ hf rfl rfl rfl (e_move hf rfl) fun a hf => ?_
   obtain ⟨z51, hz52, h25⟩ := bind_some h25
   refine q_ hf rfl rfl rfl (e_add hf rfl rfl hz52) fun a hf => ?_
   refine q_ hf rfl rfl rfl (e_assign hf rfl) fun a hf => ?_
   refine pl_nil ?_
   refine blk_n ?_
   obtain rfl := some_inj h25
   refine then_n ⟨_, rfl, ?_⟩
   exact ⟨z51, rfl, hf.keep ⟨rfl, rfl, rfl, rfl, trivial⟩, hM.pick [0] rfl, (chk_R hz52)⟩
  refine cond_f hf rfl hc50 ?_
  refine wp_exit ?_
  refine then_x ?_
  obtain rfl := some_inj h25
  obtain rfl := hd26 _ rfl
  try dsimp only at h16
  refine then_x ?_
  refine exit_hit ?_
  obtain rfl := some_inj h16
  refine then_n ?_
  exact ⟨n17, rfl, hf.keep ⟨rfl, rfl, trivial⟩, hM.pick [0] rfl, hv18⟩
 rintro a w58 ⟨n13, rfl, hf, hM, hv14⟩
 try dsimp only at h
 refine wp_seq ?_
 refine region_pl ?_
 iterate 3 refine q_ hf rfl rfl rfl (e_move hf rfl) fun a hf => ?_
 obtain ⟨z59, hz60, h⟩ := bind_some h
 refine q_ hf rfl rfl rfl (e_sub hf rfl rfl hz60) fun a hf => ?_
 iterate 2 refine q_ hf rfl rfl rfl (e_assign hf rfl) fun a hf => ?_
 refine pl_nil ?_
 refine then_n ?_
 refine wp_ret ?_
 obtain rfl := some_inj h
 exact leave2 hf rfl rfl rfl ⟨rfl, hM.fin, hv9, (chk_R hz60)⟩

set_option maxRecDepth 100000 in
set_option maxHeartbeats 4000000 in
theorem r_impl_NumberOf (C : Cx) (d1 : Dawg) (A2 : Option Addr) (c3 : Nat) (hp4 : (sliceRep NodeRep).R C.w0 C.S0 d1.Nodes [vL A2 d1.Nodes c3]) (s5 : Str) (hp6 : s5.length ≤ maxLen) (r : (Int × Int)) (h : m_impl_NumberOf d1 s5 = some r) :
    Calls Tryd.prog 16 #[.agg #[vL A2 (d1.Nodes) c3], vS (s5)] C.w0 fun e w => e = .returned (.tuple #[vI (r.1), vI (r.2)]) ∧ Mem C w [] [] ∧ R64 r.1 ∧ R64 r.2 := by
 have hM := Mem.begin C [.dat (sliceRep NodeRep) d1.Nodes [vL A2 d1.Nodes c3]] ⟨hp4, trivial⟩
 refine enter Tryd.func16 rfl Tryd.ntmps16 rfl fun a hf => ?_
 unfold m_impl_NumberOf at h
 refine wp_seq ?_
 refine region_pl ?_
 refine pl_l hf rfl rfl rfl (w_box hf hM (cs := [vL A2 (d1.Nodes) c3]) rfl rfl fun b7 w8 hx9 hM a hf => ?_)
 iterate 2 refine q_ hf rfl rfl rfl (e_assign hf rfl) fun a hf => ?_
 refine pl_nil ?_
 refine then_n ?_
 iterate 2 refine wp_seq ?_
 refine region_pl ?_
 refine q_ hf rfl rfl rfl (e_loadA hf (us := [vL A2 (d1.Nodes) c3]) rfl ⟨Tryd.isAgg26, Tryd.sizeOf26⟩ rfl (hM.boxSub (k := 0) (us := [vL A2 (d1.Nodes) c3]) (o := 0) rfl rfl)) fun a hf => ?_
 obtain ⟨y11, hz12, h⟩ := bind_some h
 refine pl_l hf rfl rfl rfl (w_call hf Tryd.call45 rfl (r_impl_ValidDawg ⟨_, Sh C _ _, none_, hM.sh_lt, none_not, C.G, hM.g_lt, g_none, hM.tabs⟩ d1 _ _ (hM.dat (k := 0) rfl) _ hz12) ?_)
 rintro _ w13 ⟨rfl, hM2⟩
 obtain ⟨hM, hx14, hup15⟩ := hM.back hM2
 dsimp only [List.cons_append, List.nil_append] at hM hup15
 clear hM2
 refine ⟨_, rfl, fun a hf => ?_⟩
 refine q_ hf rfl rfl rfl (e_not hf rfl) fun a hf => ?_
 refine pl_nil ?_
 refine then_n ?_
 rcases cond_some h with ⟨hc16, h⟩ | ⟨hc16, h⟩
 ·refine cond_t hf rfl hc16 ?_
  refine wp_seq ?_
  refine region_pl ?_
  iterate 2 refine q_ hf rfl rfl rfl (e_assign hf rfl) fun a hf => ?_
  refine pl_nil ?_
  refine then_n ?_
  refine wp_ret ?_
  refine then_r ?_
  obtain rfl := some_inj h
  have hM := hM.outs (own' := []) 0 rfl
  exact leave2 hf rfl rfl rfl ⟨rfl, hM.fin, (R64_lit rfl), (R64_lit rfl)⟩
 refine cond_f hf rfl hc16 ?_
 refine wp_skip ?_
 refine then_n ?_
 iterate 2 refine wp_seq ?_
 refine region_pl ?_
 refine q_ hf rfl rfl rfl (e_loadA hf (us := [vL A2 (d1.Nodes) c3]) rfl ⟨Tryd.isAgg26, Tryd.sizeOf26⟩ rfl (hM.boxSub (k := 0) (us := [vL A2 (d1.Nodes) c3]) (o := 0) rfl rfl)) fun a hf => ?_
 refine q_ hf rfl rfl rfl (e_move hf rfl) fun a hf => ?_
 obtain ⟨y17, hz18, h⟩ := bind_some h
 refine pl_l hf rfl rfl rfl (w_call hf Tryd.call47 rfl (r_impl_Dawg_accepts ⟨_, Sh C _ _, none_, hM.sh_lt, none_not, C.G, hM.g_lt, g_none, hM.tabs⟩ d1 _ _ (hM.dat (k := 0) rfl) s5 hp6 _ hz18) ?_)
 rintro _ w19 ⟨rfl, hM2⟩
 obtain ⟨hM, hx20, hup21⟩ := hM.back hM2
 dsimp only [List.cons_append, List.nil_append] at hM hup21
 clear hM2
 refine ⟨_, rfl, fun a hf => ?_⟩
 refine q_ hf rfl rfl rfl (e_not hf rfl) fun a hf => ?_
 refine pl_nil ?_
 refine then_n ?_
 rcases cond_some h with ⟨hc22, h⟩ | ⟨hc22, h⟩
 ·refine cond_t hf rfl hc22 ?_
  refine wp_seq ?_
  refine region_pl ?_
  iterate 2 refine q_ hf rfl rfl rfl (e_assign hf rfl) fun a hf => ?_
  refine pl_nil ?_
  refine then_n ?_
  refine wp_ret ?_
  refine then_r ?_
  obtain rfl := some_inj h
  have hM := hM.outs (own' := []) 0 rfl
  exact leave2 hf rfl rfl rfl ⟨rfl, hM.fin, (R64_lit rfl), (R64_lit rfl)⟩
 refine cond_f hf rfl hc22 ?_
 refine wp_skip ?_
 refine then_n ?_
 refine wp_seq ?_
 refine region_pl ?_
 refine q_ hf rfl rfl rfl (e_loadA hf (us := [vL A2 (d1.Nodes) c3]) rfl ⟨Tryd.isAgg26, Tryd.sizeOf26⟩ rfl (hM.boxSub (k := 0) (us := [vL A2 (d1.Nodes) c3]) (o := 0) rfl rfl)) fun a hf => ?_
 obtain ⟨y23, hz24, h⟩ := bind_some h
 refine pl_l hf rfl rfl rfl (w_call hf Tryd.call49 rfl (r_impl_Dawg_words ⟨_, Sh C _ _, none_, hM.sh_lt, none_not, C.G, hM.g_lt, g_none, hM.tabs⟩ d1 _ _ (hM.dat (k := 0) rfl) _ hz24) ?_)
 rintro _ w27 ⟨A25, c26, rfl, hM2⟩
 obtain ⟨hM, hx28, hup29⟩ := hM.back hM2
 dsimp only [List.cons_append, List.nil_append] at hM hup29
 clear hM2
 refine ⟨_, rfl, fun a hf => ?_⟩
 refine q_ hf rfl rfl rfl (e_move hf rfl) fun a hf => ?_
 obtain ⟨y30, hz31, h⟩ := bind_some h
 refine pl_l hf rfl rfl rfl (w_call hf Tryd.call48 rfl (r_impl_prefixRange ⟨_, All C _ _, none_, hM.all_lt, none_not, C.G, hM.g_lt, g_none, hM.tabs⟩ y23 _ _ (hM.lendRow (k := 0) rfl) s5 hp6 _ hz31) ?_)
 rintro _ w34 ⟨rfl, hM2, hv32, hv33⟩
 obtain ⟨hM, hx35⟩ := hM.backA hM2
 clear hM2
 refine ⟨_, rfl, fun a hf => ?_⟩
 refine q_ hf rfl rfl rfl (e_move hf rfl) fun a hf => ?_
 iterate 2 refine q_ hf rfl rfl rfl (e_extract hf rfl rfl) fun a hf => ?_
 iterate 2 refine q_ hf rfl rfl rfl (e_assign hf rfl) fun a hf => ?_
 refine pl_nil ?_
 refine then_n ?_
 refine wp_seq ?_
 refine region_pl ?_
 refine q_ hf rfl rfl rfl (e_move hf rfl) fun a hf => ?_
 iterate 2 refine q_ hf rfl rfl rfl (e_assign hf rfl) fun a hf => ?_
 refine pl_nil ?_
 refine then_n ?_
 refine wp_ret ?_
 obtain rfl := some_inj h
 have hM := hM.outs (own' := []) 0 rfl
 exact leave2 hf rfl rfl rfl ⟨rfl, hM.fin, hv32, (R64_lit rfl)⟩

set_option maxRecDepth 100000 in
set_option maxHeartbeats 4000000 in
theorem r_impl_WordAt (C : Cx) (d1 : Dawg) (A2 : Option Addr) (c3 : Nat) (hp4 : (sliceRep NodeRep).R C.w0 C.S0 d1.Nodes [vL A2 d1.Nodes c3]) (number5 : Int) (hp6 : R64 number5) (r : (Str × Int)) (h : m_impl_WordAt d1 number5 = some r) :
    Calls Tryd.prog 17 #[.agg #[vL A2 (d1.Nodes) c3], vI (number5)] C.w0 fun e w => e = .returned (.tuple #[vS (r.1), vI (r.2)]) ∧ Mem C w [] [] ∧ r.1.length ≤ maxLen ∧ R64 r.2 := by
 have hM := Mem.begin C [.dat (sliceRep NodeRep) d1.Nodes [vL A2 d1.Nodes c3]] ⟨hp4, trivial⟩
 refine enter Tryd.func17 rfl Tryd.ntmps17 rfl fun a hf => ?_
 unfold m_impl_WordAt at h
 refine wp_seq ?_
 refine region_pl ?_
 refine pl_l hf rfl rfl rfl (w_box hf hM (cs := [vL A2 (d1.Nodes) c3]) rfl rfl fun b7 w8 hx9 hM a hf => ?_)
 iterate 2 refine q_ hf rfl rfl rfl (e_assign hf rfl) fun a hf => ?_
 refine pl_nil ?_
 refine then_n ?_
 refine wp_scope_straight ?_
 iterate 2 refine wp_seq ?_
 refine region_pl ?_
 refine q_ hf rfl rfl rfl (e_loadA hf (us := [vL A2 (d1.Nodes) c3]) rfl ⟨Tryd.isAgg26, Tryd.sizeOf26⟩ rfl (hM.boxSub (k := 0) (us := [vL A2 (d1.Nodes) c3]) (o := 0) rfl rfl)) fun a hf => ?_
 obtain ⟨y11, hz12, h⟩ := bind_some h
 refine pl_l hf rfl rfl rfl (w_call hf Tryd.call45 rfl (r_impl_ValidDawg ⟨_, Sh C _ _, none_, hM.sh_lt, none_not, C.G, hM.g_lt, g_none, hM.tabs⟩ d1 _ _ (hM.dat (k := 0) rfl) _ hz12) ?_)
 rintro _ w13 ⟨rfl, hM2⟩
 obtain ⟨hM, hx14, hup15⟩ := hM.back hM2
 dsimp only [List.cons_append, List.nil_append] at hM hup15
 clear hM2
 refine ⟨_, rfl, fun a hf => ?_⟩
 refine q_ hf rfl rfl rfl (e_not hf rfl) fun a hf => ?_
 refine pl_nil ?_
 refine then_n ?_
 rcases cond_some h with ⟨hc16, h⟩ | ⟨hc16, h⟩
 ·refine cond_t hf rfl hc16 ?_
  refine wp_seq ?_
  refine region_pl ?_
  iterate 2 refine q_ hf rfl rfl rfl (e_assign hf rfl) fun a hf => ?_
  refine pl_nil ?_
  refine then_n ?_
  refine wp_ret ?_
  refine then_r ?_
  refine ng_r ?_
  obtain rfl := some_inj h
  have hM := hM.outs (own' := []) 0 rfl
  exact leave2 hf rfl rfl rfl ⟨rfl, hM.fin, (lit_len rfl), (R64_lit rfl)⟩
 refine cond_f hf rfl hc16 ?_
 refine wp_skip ?_
 refine then_n ?_
 refine wp_seq ?_
 refine region_pl ?_
 refine q_ hf rfl rfl rfl (e_loadA hf (us := [vL A2 (d1.Nodes) c3]) rfl ⟨Tryd.isAgg26, Tryd.sizeOf26⟩ rfl (hM.boxSub (k := 0) (us := [vL A2 (d1.Nodes) c3]) (o := 0) rfl rfl)) fun a hf => ?_
 obtain ⟨y17, hz18, h⟩ := bind_some h
 refine pl_l hf rfl rfl rfl (w_call hf Tryd.call46 rfl (r_impl_Dawg_behind ⟨_, Sh C _ _, none_, hM.sh_lt, none_not, C.G, hM.g_lt, g_none, hM.tabs⟩ d1 _ _ (hM.dat (k := 0) rfl) _ hz18) ?_)
 rintro _ w21 ⟨A19, c20, rfl, hM2⟩
 obtain ⟨hM, hx22, hup23⟩ := hM.back hM2
 dsimp only [List.cons_append, List.nil_append] at hM hup23
 clear hM2
 refine ⟨_, rfl, fun a hf => ?_⟩
 refine q_ hf rfl rfl rfl (e_assign hf rfl) fun a hf => ?_
 refine pl_nil ?_
 refine then_n ?_
 iterate 2 refine wp_seq ?_
 refine region_pl ?_
 iterate 2 refine q_ hf rfl rfl rfl (e_move hf rfl) fun a hf => ?_
 obtain ⟨e24, hz25, h⟩ := bind_some h
 obtain ⟨b30, _, hA31, h26, h27, hr28, hcell29⟩ := hM.rowElemN (k := 0) rfl (n := 1) rfl hz25
 obtain ⟨rfl, hv32⟩ := hr28
 refine q_ hf rfl rfl rfl (e_indexAddr (A := A19) (b := b30) (o := 0) (xs := y17) (i := 0) hf hA31 rfl rfl Tryd.underlying31 Tryd.sizeOf2 h26 h27) fun a hf => ?_
 refine q_ hf rfl rfl rfl (e_load1 hf rfl Tryd.isAgg2 (hcell29 0 _ rfl)) fun a hf => ?_
 obtain ⟨z33, hz34, h⟩ := bind_some h
 refine q_ hf rfl rfl rfl (e_sub hf rfl rfl hz34) fun a hf => ?_
 obtain ⟨y35, hz36, h⟩ := bind_some h
 refine pl_l hf rfl rfl rfl (w_call hf Tryd.call50 rfl (r_impl_within ⟨_, Sh C _ _, none_, hM.sh_lt, none_not, C.G, hM.g_lt, g_none, hM.tabs⟩ number5 hp6 0 (R64_lit rfl) z33 (chk_R hz34) _ hz36) ?_)
 rintro _ w37 ⟨rfl, hM2⟩
 obtain ⟨hM, hx38, hup39⟩ := hM.back hM2
 dsimp only [List.cons_append, List.nil_append] at hM hup39
 clear hM2
 refine ⟨_, rfl, fun a hf => ?_⟩
 refine q_ hf rfl rfl rfl (e_not hf rfl) fun a hf => ?_
 refine pl_nil ?_
 refine then_n ?_
 rcases cond_some h with ⟨hc40, h⟩ | ⟨hc40, h⟩
 ·refine cond_t hf rfl hc40 ?_
  refine wp_seq ?_
  refine region_pl ?_
  iterate 2 refine q_ hf rfl rfl rfl (e_assign hf rfl) fun a hf => ?_
  refine pl_nil ?_
  refine then_n ?_
  refine wp_ret ?_
  refine then_r ?_
  refine ng_r ?_
  obtain rfl := some_inj h
  have hM := hM.outs (own' := []) 0 rfl
  exact leave2 hf rfl rfl rfl ⟨rfl, hM.fin, (lit_len rfl), (R64_lit rfl)⟩
 refine cond_f hf rfl hc40 ?_
 refine wp_skip ?_
 refine then_n ?_
 refine wp_seq ?_
 refine region_pl ?_
 refine pl_l hf rfl rfl rfl (w_slice0 (K := byteRep) hM Tryd.underlying22 ei_5 fun b41 w42 hx43 hM a hf => ?_)
 iterate 2 refine q_ hf rfl rfl rfl (e_assign hf rfl) fun a hf => ?_
 refine pl_nil ?_
 refine then_n ?_
 refine wp_seq ?_
 refine wp_label ?_
 refine then_n ?_
 refine wp_block ?_
 obtain ⟨x52, h53, h⟩ := bind_some h
 refine wp_loopM h53 (fun s a w => ∃ (xs44 : Str) (number47 : Int) (i49 : Int) (A45 : Option Addr) (c46 : Nat), (xs44, number47, i49) = s ∧ Has 67 a [(1, vI (number47)), (2, vP b7 (0)), (6, vL A19 (y17) c20), (7, vL A45 (xs44) c46), (8, vI (i49))] ∧ Mem C w [.row byteRep A45 c46 5 xs44 true, .row intRep A19 c20 2 y17 true, .box b7 [vL A2 (d1.Nodes) c3] 26] [.dat (sliceRep NodeRep) d1.Nodes [vL A2 d1.Nodes c3]] ∧ R64 number47 ∧ R64 i49) ?_ ?_
 ·exact ⟨([] : Str), number5, 0, (some ⟨b41, 0, none⟩), 0, rfl, hf.keep ⟨rfl, rfl, rfl, rfl, rfl, trivial⟩, hM.pick [0] rfl, hp6, (R64_lit rfl)⟩
 rintro s o54 a w51 ⟨xs44, number47, i49, A45, c46, rfl, hf, hM, hv48, hv50⟩ h55 hd56
 replace h55 : m_impl_WordAt_l1 d1 y17 xs44 number47 i49 = some o54 := h55
 unfold m_impl_WordAt_l1 at h55
 refine wp_block ?_
 refine wp_seq ?_
 refine region_pl ?_
 refine q_ hf rfl rfl rfl (e_field hf rfl Tryd.underlying26 rfl Tryd.sizeOf24 (o' := 0) rfl) fun a hf => ?_
 refine q_ hf rfl rfl rfl (e_load1 hf rfl Tryd.isAgg24 (hM.boxCell (k := 2) rfl rfl)) fun a hf => ?_
 refine q_ hf rfl rfl rfl (e_move hf rfl) fun a hf => ?_
 obtain ⟨e57, hz58, h55⟩ := bind_some h55
 obtain ⟨b62, o63, _, hA64, h59, h60, hr61, hM⟩ := hM.elem (hM.dat (k := 0) rfl) (n := 3) rfl hz58
 obtain ⟨A66, c67, rfl, hv65, hv68⟩ := NodeRep_open hr61
 have hM := hM.add (y := .dat (sliceRep intRep) e57.Next [vL A66 e57.Next c67]) hv68
 refine q_ hf rfl rfl rfl (e_indexAddr (A := A2) (b := b62) (o := o63) (xs := d1.Nodes) (i := i49) hf hA64 rfl rfl Tryd.underlying24 Tryd.sizeOf76 h59 h60) fun a hf => ?_
 refine q_ hf rfl rfl rfl (e_loadA hf (us := [.bool (e57.Final), vS (e57.Letters), vL A66 (e57.Next) c67]) rfl ⟨Tryd.isAgg76, Tryd.sizeOf76⟩ rfl (hM.litSub (k := 1) (d := 0) (us := [.bool (e57.Final), vS (e57.Letters), vL A66 (e57.Next) c67]) rfl rfl rfl)) fun a hf => ?_
 refine pl_l hf rfl rfl rfl (w_alloc hM (cs := [.bool (false), vS (([] : Str)), vL none (([] : (List Int))) 0]) Tryd.zeroValue76 rfl fun b69 w70 hx71 hM a hf => ?_)
 refine pl_0 hf rfl rfl (w_store hf hM (us := [.bool (e57.Final), vS (e57.Letters), vL A66 (e57.Next) c67]) (cs' := [.bool (e57.Final), vS (e57.Letters), vL A66 (e57.Next) c67]) rfl rfl (k := 0) rfl rfl Tryd.sizeOf76 rfl rfl rfl fun w73 hM => ?_)
 dsimp only [List.set] at hM
 refine pl_nil ?_
 refine then_n ?_
 obtain ⟨x78, h79, h55⟩ := bind_some h55
 refine seq_join (fun a w => ∃ (number76 : Int), (.inl number76) = x78 ∧ Has 67 a [(1, vI (number76)), (2, vP b7 (0)), (6, vL A19 (y17) c20), (7, vL A45 (xs44) c46), (9, vP b69 (0))] ∧ Mem C w [.box b69 [.bool (e57.Final), vS (e57.Letters), vL A66 (e57.Next) c67] 76, .row byteRep A45 c46 5 xs44 true, .row intRep A19 c20 2 y17 true, .box b7 [vL A2 (d1.Nodes) c3] 26] [.dat (sliceRep intRep) e57.Next [vL A66 e57.Next c67], .lit b62 (o63 + (i49 : Int).toNat * 3) [.bool (e57.Final), vS (e57.Letters), vL A66 (e57.Next) c67], .dat (sliceRep NodeRep) d1.Nodes [vL A2 d1.Nodes c3]] ∧ R64 number76) ?_ ?_
 ·refine wp_seq ?_
  refine region_pl ?_
  refine q_ hf rfl rfl rfl (e_field hf rfl Tryd.underlying76 rfl Tryd.sizeOf4 (o' := 0) rfl) fun a hf => ?_
  refine q_ hf rfl rfl rfl (e_load1 hf rfl Tryd.isAgg4 (hM.boxCell (k := 0) rfl rfl)) fun a hf => ?_
  refine pl_nil ?_
  refine then_n ?_
  rcases cond_some h79 with ⟨hc80, h79⟩ | ⟨hc80, h79⟩
  ·refine cond_t hf rfl hc80 ?_
   iterate 2 refine wp_seq ?_
   refine region_pl ?_
   refine q_ hf rfl rfl rfl (e_move hf rfl) fun a hf => ?_
   refine q_ hf rfl rfl rfl (e_eq hf (x := number47) (y := 0) rfl rfl) fun a hf => ?_
   refine pl_nil ?_
   refine then_n ?_
   rcases cond_some h79 with ⟨hc81, h79⟩ | ⟨hc81, h79⟩
   ·refine cond_t hf rfl hc81 ?_
    refine wp_seq ?_
    refine region_pl ?_
    refine q_ hf rfl rfl rfl (e_move hf rfl) fun a hf => ?_
    have hl82 := row_len (hM.ownAt (k := 1) rfl)
    refine q_ hf rfl rfl rfl (e_bytesStr hf (xs := xs44) rfl Tryd.underlying22 Tryd.underlying5 Tryd.underlying9 (hM.lendRow (k := 1) rfl)) fun a hf => ?_
    iterate 2 refine q_ hf rfl rfl rfl (e_assign hf rfl) fun a hf => ?_
    refine pl_nil ?_
    refine then_n ?_
    refine wp_ret ?_
    refine then_r ?_
    obtain rfl := some_inj h79
    try dsimp only at h55
    refine then_r ?_
    refine blk_r ?_
    obtain rfl := some_inj h55
    obtain rfl := hd56 _ rfl
    try dsimp only at h
    refine then_r ?_
    refine blk_r ?_
    refine ng_r ?_
    obtain rfl := some_inj h
    have hM := hM.outs (own' := []) 0 rfl
    exact leave2 hf rfl rfl rfl ⟨rfl, hM.fin, hl82, (R64_lit rfl)⟩
   refine cond_f hf rfl hc81 ?_
   refine wp_skip ?_
   refine then_n ?_
   refine region_pl ?_
   refine q_ hf rfl rfl rfl (e_move hf rfl) fun a hf => ?_
   obtain ⟨z83, hz84, h79⟩ := bind_some h79
   refine q_ hf rfl rfl rfl (e_sub hf rfl rfl hz84) fun a hf => ?_
   refine q_ hf rfl rfl rfl (e_assign hf rfl) fun a hf => ?_
   refine pl_nil ?_
   obtain rfl := some_inj h79
   refine then_n ?_
   exact ⟨z83, rfl, hf.keep ⟨rfl, rfl, rfl, rfl, rfl, trivial⟩, hM.pick [0, 1, 2] rfl, (chk_R hz84)⟩
  refine cond_f hf rfl hc80 ?_
  refine wp_skip ?_
  obtain rfl := some_inj h79
  refine then_n ?_
  exact ⟨number47, rfl, hf.keep ⟨rfl, rfl, rfl, rfl, rfl, trivial⟩, hM.pick [0, 1, 2] rfl, hv48⟩
 rintro a w87 ⟨number76, rfl, hf, hM, hv77⟩
 try dsimp only at h55
 obtain ⟨x95, h96, h55⟩ := bind_some h55
 refine seq_join (fun a w => (.inl ()) = x95 ∧ Has 67 a [] ∧ Mem C w [.box b69 [.bool (e57.Final), vS (e57.Letters), vL A66 (e57.Next) c67] 76, .row byteRep A45 c46 5 xs44 true, .row intRep A19 c20 2 y17 true, .box b7 [vL A2 (d1.Nodes) c3] 26] [.dat (sliceRep intRep) e57.Next [vL A66 e57.Next c67], .lit b62 (o63 + (i49 : Int).toNat * 3) [.bool (e57.Final), vS (e57.Letters), vL A66 (e57.Next) c67], .dat (sliceRep NodeRep) d1.Nodes [vL A2 d1.Nodes c3]]) ?_ ?_
 ·refine wp_seq ?_
  refine region_pl ?_
  refine q_ hf rfl rfl rfl (e_field hf rfl Tryd.underlying76 rfl Tryd.sizeOf31 (o' := 2) rfl) fun a hf => ?_
  refine q_ hf rfl rfl rfl (e_load1 hf rfl Tryd.isAgg31 (hM.boxCell (k := 0) rfl rfl)) fun a hf => ?_
  have hl97 := slice_len (hM.dat (k := 0) rfl)
  refine q_ hf rfl rfl rfl (e_lenL hf (x := e57.Next) rfl Tryd.underlying31) fun a hf => ?_
  refine q_ hf rfl rfl rfl (e_move hf rfl) fun a hf => ?_
  refine pl_nil ?_
  refine then_n ?_
  refine wp_block ?_
  obtain ⟨x110, h111, h96⟩ := bind_some h96
  refine wp_loopM h111 (fun s a w => ∃ (number98 : Int) (n100 : Int), (number98, n100) = s ∧ Has 67 a [(1, vI (number98)), (2, vP b7 (0)), (6, vL A19 (y17) c20), (7, vL A45 (xs44) c46), (9, vP b69 (0)), (39, vL A66 (e57.Next) c67), (40, vI ((e57.Next.length : Int))), (41, vI (n100))] ∧ Mem C w [.box b69 [.bool (e57.Final), vS (e57.Letters), vL A66 (e57.Next) c67] 76, .row byteRep A45 c46 5 xs44 true, .row intRep A19 c20 2 y17 true, .box b7 [vL A2 (d1.Nodes) c3] 26] [.dat (sliceRep intRep) e57.Next [vL A66 e57.Next c67], .lit b62 (o63 + (i49 : Int).toNat * 3) [.bool (e57.Final), vS (e57.Letters), vL A66 (e57.Next) c67], .dat (sliceRep NodeRep) d1.Nodes [vL A2 d1.Nodes c3]] ∧ R64 number98 ∧ R64 n100) ?_ ?_
  ·exact ⟨number76, 0, rfl, hf.keep ⟨rfl, rfl, rfl, rfl, rfl, rfl, rfl, rfl, trivial⟩, hM.pick [0, 1, 2] rfl, hv77, (R64_lit rfl)⟩
  rintro s o112 a w102 ⟨number98, n100, rfl, hf, hM, hv99, hv101⟩ h113 hd114
  replace h113 : m_impl_WordAt_l2 e57 y17 xs44 number98 n100 = some o112 := h113
  unfold m_impl_WordAt_l2 at h113
  refine wp_seq ?_
  refine region_pl ?_
  refine q_ hf rfl rfl rfl (e_lt hf (x := n100) (y := (e57.Next.length : Int)) rfl rfl) fun a hf => ?_
  refine pl_nil ?_
  refine then_n ?_
  refine wp_seq ?_
  rcases cond_some h113 with ⟨hc115, h113⟩ | ⟨hc115, h113⟩
  ·refine cond_t hf rfl hc115 ?_
   refine wp_skip ?_
   refine then_n ?_
   refine wp_seq ?_
   refine wp_block ?_
   refine wp_seq ?_
   refine region_pl ?_
   refine q_ hf rfl rfl rfl (e_move hf rfl) fun a hf => ?_
   obtain ⟨e116, hz117, h113⟩ := bind_some h113
   obtain ⟨b121, o122, _, hA123, h118, h119, hr120, hM⟩ := hM.elem (hM.dat (k := 0) rfl) (n := 1) rfl hz117
   obtain ⟨rfl, hv124⟩ := hr120
   refine q_ hf rfl rfl rfl (e_indexAddr (A := A66) (b := b121) (o := o122) (xs := e57.Next) (i := n100) hf hA123 rfl rfl Tryd.underlying31 Tryd.sizeOf2 h118 h119) fun a hf => ?_
   refine q_ hf rfl rfl rfl (e_load1 hf rfl Tryd.isAgg2 (hM.litCell (k := 0) (j := 0) rfl rfl rfl)) fun a hf => ?_
   iterate 2 refine q_ hf rfl rfl rfl (e_assign hf rfl) fun a hf => ?_
   refine pl_nil ?_
   refine then_n ?_
   iterate 2 refine wp_seq ?_
   refine region_pl ?_
   iterate 3 refine q_ hf rfl rfl rfl (e_move hf rfl) fun a hf => ?_
   obtain ⟨e125, hz126, h113⟩ := bind_some h113
   obtain ⟨b131, _, hA132, h127, h128, hr129, hcell130⟩ := hM.rowElemN (k := 2) rfl (n := 1) rfl hz126
   obtain ⟨rfl, hv133⟩ := hr129
   refine q_ hf rfl rfl rfl (e_indexAddr (A := A19) (b := b131) (o := 0) (xs := y17) (i := e116) hf hA132 rfl rfl Tryd.underlying31 Tryd.sizeOf2 h127 h128) fun a hf => ?_
   refine q_ hf rfl rfl rfl (e_load1 hf rfl Tryd.isAgg2 (hcell130 0 _ rfl)) fun a hf => ?_
   refine q_ hf rfl rfl rfl (e_lt hf (x := number98) (y := e125) rfl rfl) fun a hf => ?_
   refine pl_nil ?_
   refine then_n ?_
   rcases cond_some h113 with ⟨hc134, h113⟩ | ⟨hc134, h113⟩
   ·refine cond_t hf rfl hc134 ?_
    refine wp_seq ?_
    refine region_pl ?_
    refine q_ hf rfl rfl rfl (e_move hf rfl) fun a hf => ?_
    refine q_ hf rfl rfl rfl (e_field hf rfl Tryd.underlying76 rfl Tryd.sizeOf9 (o' := 1) rfl) fun a hf => ?_
    refine q_ hf rfl rfl rfl (e_load1 hf rfl Tryd.isAgg9 (hM.boxCell (k := 0) rfl rfl)) fun a hf => ?_
    refine q_ hf rfl rfl rfl (e_move hf rfl) fun a hf => ?_
    obtain ⟨c135, hz136, h113⟩ := bind_some h113
    refine q_ hf rfl rfl rfl (e_indexS hf (x := e57.Letters) rfl rfl Tryd.underlying9 hz136) fun a hf => ?_
    refine pl_l hf rfl rfl rfl (w_slice hf hM (K := byteRep) (xs := ([c135] : Str)) (os := [.tmp 56]) Tryd.underlying22 ei_5 rfl rfl rfl rfl rfl ⟨⟨[vB (c135)], rfl, rfl⟩, trivial⟩ rfl fun b137 w138 hx139 hM a hf => ?_)
    obtain ⟨xs140, hz141, h113⟩ := bind_some h113
    refine pl_l hf rfl rfl rfl (w_append hf hM Tryd.underlying22 ei_5 rfl rfl rfl (k := 2) rfl (hM.srcRow (k := 0) rfl) hz141 fun A142 c143 w144 hM a hf => ?_)
    dsimp only [List.set] at hM
    refine q_ hf rfl rfl rfl (e_move hf rfl) fun a hf => ?_
    iterate 2 refine q_ hf rfl rfl rfl (e_assign hf rfl) fun a hf => ?_
    refine pl_nil ?_
    refine then_n ?_
    refine wp_exit ?_
    refine then_x ?_
    refine exit_miss rfl ?_
    refine then_x ?_
    obtain rfl := some_inj h113
    obtain rfl := hd114 _ rfl
    try dsimp only at h96
    refine then_x ?_
    refine exit_miss rfl ?_
    obtain rfl := some_inj h96
    try dsimp only at h55
    refine then_x ?_
    refine exit_hit ?_
    obtain rfl := some_inj h55
    refine then_n ⟨_, rfl, ?_⟩
    exact ⟨xs140, number98, e116, A142, c143, rfl, hf.keep ⟨rfl, rfl, rfl, rfl, rfl, trivial⟩, (hM.drop (.cons _ (.cons _ (.cons_cons _ (.cons_cons _ (.cons_cons _ .slnil)))))).pick [3] rfl, hv99, hv124⟩
   refine cond_f hf rfl hc134 ?_
   refine wp_skip ?_
   refine then_n ?_
   refine region_pl ?_
   iterate 3 refine q_ hf rfl rfl rfl (e_move hf rfl) fun a hf => ?_
   obtain ⟨e148, hz149, h113⟩ := bind_some h113
   obtain ⟨b154, _, hA155, h150, h151, hr152, hcell153⟩ := hM.rowElemN (k := 2) rfl (n := 1) rfl hz149
   obtain ⟨rfl, hv156⟩ := hr152
   refine q_ hf rfl rfl rfl (e_indexAddr (A := A19) (b := b154) (o := 0) (xs := y17) (i := e116) hf hA155 rfl rfl Tryd.underlying31 Tryd.sizeOf2 h150 h151) fun a hf => ?_
   refine q_ hf rfl rfl rfl (e_load1 hf rfl Tryd.isAgg2 (hcell153 0 _ rfl)) fun a hf => ?_
   obtain ⟨z157, hz158, h113⟩ := bind_some h113
   refine q_ hf rfl rfl rfl (e_sub hf rfl rfl hz158) fun a hf => ?_
   refine q_ hf rfl rfl rfl (e_assign hf rfl) fun a hf => ?_
   refine pl_nil ?_
   refine blk_n ?_
   refine then_n ?_
   refine region_pl ?_
   obtain ⟨z159, hz160, h113⟩ := bind_some h113
   refine q_ hf rfl rfl rfl (e_add hf rfl rfl hz160) fun a hf => ?_
   refine q_ hf rfl rfl rfl (e_move hf rfl) fun a hf => ?_
   refine pl_nil ?_
   obtain rfl := some_inj h113
   refine then_n ⟨_, rfl, ?_⟩
   exact ⟨z157, z159, rfl, hf.keep ⟨rfl, rfl, rfl, rfl, rfl, rfl, rfl, rfl, trivial⟩, hM.pick [1, 2, 3] rfl, (chk_R hz158), (chk_R hz160)⟩
  refine cond_f hf rfl hc115 ?_
  refine wp_exit ?_
  refine then_x ?_
  obtain rfl := some_inj h113
  obtain rfl := hd114 _ rfl
  try dsimp only at h96
  refine then_x ?_
  refine exit_hit ?_
  obtain rfl := some_inj h96
  refine then_n ?_
  exact ⟨rfl, hf.keep trivial, hM.pick [0, 1, 2] rfl⟩
 rintro a w168 ⟨rfl, hf, hM⟩
 try dsimp only at h55
 refine wp_seq ?_
 refine region_pl ?_
 iterate 2 refine q_ hf rfl rfl rfl (e_assign hf rfl) fun a hf => ?_
 refine pl_nil ?_
 refine then_n ?_
 refine wp_ret ?_
 refine blk_r ?_
 obtain rfl := some_inj h55
 obtain rfl := hd56 _ rfl
 try dsimp only at h
 refine then_r ?_
 refine blk_r ?_
 refine ng_r ?_
 obtain rfl := some_inj h
 have hM := hM.outs (own' := []) 0 rfl
 exact leave2 hf rfl rfl rfl ⟨rfl, hM.fin, (lit_len rfl), (R64_lit rfl)⟩

set_option maxRecDepth 100000 in
set_option maxHeartbeats 4000000 in
theorem r_impl_NextWord (C : Cx) (d1 : Dawg) (A2 : Option Addr) (c3 : Nat) (hp4 : (sliceRep NodeRep).R C.w0 C.S0 d1.Nodes [vL A2 d1.Nodes c3]) (s5 : Str) (hp6 : s5.length ≤ maxLen) (r : (Str × Int)) (h : m_impl_NextWord d1 s5 = some r) :
    Calls Tryd.prog 18 #[.agg #[vL A2 (d1.Nodes) c3], vS (s5)] C.w0 fun e w => e = .returned (.tuple #[vS (r.1), vI (r.2)]) ∧ Mem C w [] [] ∧ r.1.length ≤ maxLen ∧ R64 r.2 := by
 have hM := Mem.begin C [.dat (sliceRep NodeRep) d1.Nodes [vL A2 d1.Nodes c3]] ⟨hp4, trivial⟩
 refine enter Tryd.func18 rfl Tryd.ntmps18 rfl fun a hf => ?_
 unfold m_impl_NextWord at h
 refine wp_seq ?_
 refine region_pl ?_
 refine pl_l hf rfl rfl rfl (w_box hf hM (cs := [vL A2 (d1.Nodes) c3]) rfl rfl fun b7 w8 hx9 hM a hf => ?_)
 iterate 2 refine q_ hf rfl rfl rfl (e_assign hf rfl) fun a hf => ?_
 refine pl_nil ?_
 refine then_n ?_
 iterate 2 refine wp_seq ?_
 refine region_pl ?_
 refine q_ hf rfl rfl rfl (e_loadA hf (us := [vL A2 (d1.Nodes) c3]) rfl ⟨Tryd.isAgg26, Tryd.sizeOf26⟩ rfl (hM.boxSub (k := 0) (us := [vL A2 (d1.Nodes) c3]) (o := 0) rfl rfl)) fun a hf => ?_
 obtain ⟨y11, hz12, h⟩ := bind_some h
 refine pl_l hf rfl rfl rfl (w_call hf Tryd.call45 rfl (r_impl_ValidDawg ⟨_, Sh C _ _, none_, hM.sh_lt, none_not, C.G, hM.g_lt, g_none, hM.tabs⟩ d1 _ _ (hM.dat (k := 0) rfl) _ hz12) ?_)
 rintro _ w13 ⟨rfl, hM2⟩
 obtain ⟨hM, hx14, hup15⟩ := hM.back hM2
 dsimp only [List.cons_append, List.nil_append] at hM hup15
 clear hM2
 refine ⟨_, rfl, fun a hf => ?_⟩
 refine q_ hf rfl rfl rfl (e_not hf rfl) fun a hf => ?_
 refine pl_nil ?_
 refine then_n ?_
 rcases cond_some h with ⟨hc16, h⟩ | ⟨hc16, h⟩
 ·refine cond_t hf rfl hc16 ?_
  refine wp_seq ?_
  refine region_pl ?_
  iterate 2 refine q_ hf rfl rfl rfl (e_assign hf rfl) fun a hf => ?_
  refine pl_nil ?_
  refine then_n ?_
  refine wp_ret ?_
  refine then_r ?_
  obtain rfl := some_inj h
  have hM := hM.outs (own' := []) 0 rfl
  exact leave2 hf rfl rfl rfl ⟨rfl, hM.fin, (lit_len rfl), (R64_lit rfl)⟩
 refine cond_f hf rfl hc16 ?_
 refine wp_skip ?_
 refine then_n ?_
 refine wp_seq ?_
 refine region_pl ?_
 refine q_ hf rfl rfl rfl (e_loadA hf (us := [vL A2 (d1.Nodes) c3]) rfl ⟨Tryd.isAgg26, Tryd.sizeOf26⟩ rfl (hM.boxSub (k := 0) (us := [vL A2 (d1.Nodes) c3]) (o := 0) rfl rfl)) fun a hf => ?_
 obtain ⟨y17, hz18, h⟩ := bind_some h
 refine pl_l hf rfl rfl rfl (w_call hf Tryd.call49 rfl (r_impl_Dawg_words ⟨_, Sh C _ _, none_, hM.sh_lt, none_not, C.G, hM.g_lt, g_none, hM.tabs⟩ d1 _ _ (hM.dat (k := 0) rfl) _ hz18) ?_)
 rintro _ w21 ⟨A19, c20, rfl, hM2⟩
 obtain ⟨hM, hx22, hup23⟩ := hM.back hM2
 dsimp only [List.cons_append, List.nil_append] at hM hup23
 clear hM2
 refine ⟨_, rfl, fun a hf => ?_⟩
 refine q_ hf rfl rfl rfl (e_assign hf rfl) fun a hf => ?_
 refine pl_nil ?_
 refine then_n ?_
 refine wp_seq ?_
 refine region_pl ?_
 iterate 2 refine q_ hf rfl rfl rfl (e_move hf rfl) fun a hf => ?_
 obtain ⟨y24, hz25, h⟩ := bind_some h
 refine pl_l hf rfl rfl rfl (w_call hf Tryd.call51 rfl (r_slices_BinarySearch_string_string ⟨_, All C _ _, none_, hM.all_lt, none_not, C.G, hM.g_lt, g_none, hM.tabs⟩ y17 _ _ (hM.lendRow (k := 0) rfl) s5 hp6 _ hz25) ?_)
 rintro _ w27 ⟨rfl, hM2, hv26⟩
 obtain ⟨hM, hx28⟩ := hM.backA hM2
 clear hM2
 refine ⟨_, rfl, fun a hf => ?_⟩
 refine q_ hf rfl rfl rfl (e_move hf rfl) fun a hf => ?_
 iterate 2 refine q_ hf rfl rfl rfl (e_extract hf rfl rfl) fun a hf => ?_
 iterate 2 refine q_ hf rfl rfl rfl (e_assign hf rfl) fun a hf => ?_
 refine pl_nil ?_
 refine then_n ?_
 obtain ⟨x32, h33, h⟩ := bind_some h
 refine seq_join (fun a w => ∃ (n30 : Int), n30 = x32 ∧ Has 31 a [(6, vL A19 (y17) c20), (7, vI (n30))] ∧ Mem C w [.row strRep A19 c20 9 y17 true, .box b7 [vL A2 (d1.Nodes) c3] 26] [.dat (sliceRep NodeRep) d1.Nodes [vL A2 d1.Nodes c3]] ∧ R64 n30) ?_ ?_
 ·refine wp_seq ?_
  refine region_pl ?_
  refine q_ hf rfl rfl rfl (e_move hf rfl) fun a hf => ?_
  refine pl_nil ?_
  refine then_n ?_
  rcases cond_some h33 with ⟨hc34, h33⟩ | ⟨hc34, h33⟩
  ·refine cond_t hf rfl hc34 ?_
   refine region_pl ?_
   refine q_ hf rfl rfl rfl (e_move hf rfl) fun a hf => ?_
   obtain ⟨z35, hz36, h33⟩ := bind_some h33
   refine q_ hf rfl rfl rfl (e_add hf rfl rfl hz36) fun a hf => ?_
   refine q_ hf rfl rfl rfl (e_assign hf rfl) fun a hf => ?_
   refine pl_nil ?_
   obtain rfl := some_inj h33
   refine then_n ?_
   exact ⟨z35, rfl, hf.keep ⟨rfl, rfl, trivial⟩, hM.pick [0] rfl, (chk_R hz36)⟩
  refine cond_f hf rfl hc34 ?_
  refine wp_skip ?_
  obtain rfl := some_inj h33
  refine then_n ?_
  exact ⟨y24.1, rfl, hf.keep ⟨rfl, rfl, trivial⟩, hM.pick [0] rfl, hv26⟩
 rintro a w39 ⟨n30, rfl, hf, hM, hv31⟩
 try dsimp only at h
 iterate 2 refine wp_seq ?_
 refine region_pl ?_
 iterate 2 refine q_ hf rfl rfl rfl (e_move hf rfl) fun a hf => ?_
 have hl40 := row_len (hM.ownAt (k := 0) rfl)
 refine q_ hf rfl rfl rfl (e_lenL hf (x := y17) rfl Tryd.underlying28) fun a hf => ?_
 refine q_ hf rfl rfl rfl (e_eq hf (x := n30) (y := (y17.length : Int)) rfl rfl) fun a hf => ?_
 refine pl_nil ?_
 refine then_n ?_
 rcases cond_some h with ⟨hc41, h⟩ | ⟨hc41, h⟩
 ·refine cond_t hf rfl hc41 ?_
  refine wp_seq ?_
  refine region_pl ?_
  iterate 2 refine q_ hf rfl rfl rfl (e_assign hf rfl) fun a hf => ?_
  refine pl_nil ?_
  refine then_n ?_
  refine wp_ret ?_
  refine then_r ?_
  obtain rfl := some_inj h
  have hM := hM.outs (own' := []) 0 rfl
  exact leave2 hf rfl rfl rfl ⟨rfl, hM.fin, (lit_len rfl), (R64_lit rfl)⟩
 refine cond_f hf rfl hc41 ?_
 refine wp_skip ?_
 refine then_n ?_
 refine wp_seq ?_
 refine region_pl ?_
 iterate 2 refine q_ hf rfl rfl rfl (e_move hf rfl) fun a hf => ?_
 obtain ⟨e42, hz43, h⟩ := bind_some h
 obtain ⟨b48, _, hA49, h44, h45, hr46, hcell47⟩ := hM.rowElemN (k := 0) rfl (n := 1) rfl hz43
 obtain ⟨rfl, hv50⟩ := hr46
 refine q_ hf rfl rfl rfl (e_indexAddr (A := A19) (b := b48) (o := 0) (xs := y17) (i := n30) hf hA49 rfl rfl Tryd.underlying28 Tryd.sizeOf9 h44 h45) fun a hf => ?_
 refine q_ hf rfl rfl rfl (e_load1 hf rfl Tryd.isAgg9 (hcell47 0 _ rfl)) fun a hf => ?_
 iterate 2 refine q_ hf rfl rfl rfl (e_assign hf rfl) fun a hf => ?_
 refine pl_nil ?_
 refine then_n ?_
 refine wp_ret ?_
 obtain rfl := some_inj h
 have hM := hM.outs (own' := []) 0 rfl
 exact leave2 hf rfl rfl rfl ⟨rfl, hM.fin, hv50, (R64_lit rfl)⟩

set_option maxRecDepth 100000 in
set_option maxHeartbeats 4000000 in
theorem r_spec_l00Src_text (C : Cx) (s1 : l00Src) (b2 : Nat) (A3 : Option Addr) (c4 : Nat) (hp5 : (sliceRep byteRep).R C.w0 C.S0 s1.code [vL A3 s1.code c4]) (hp6 : R64 s1.at_) (hp7 : U64 s1.seed) (list8 : (List Str)) (A9 : Option Addr) (c10 : Nat) (hp11 : (sliceRep strRep).R C.w0 C.S0 list8 [vL A9 list8 c10]) (hO : Mem C C.w0 [.box b2 [vL A3 (s1.code) c4, vI (s1.at_), vW (s1.seed)] 101] []) (hd : ∀ b, C.S0 b → ¬ ownB [.box b2 [vL A3 (s1.code) c4, vI (s1.at_), vW (s1.seed)] 101] b) (r : (Str × l00Src)) (h : m_spec_l00Src_text s1 list8 = some r) :
    Calls Tryd.prog 52 #[vP b2 (0), vL A9 (list8) c10] C.w0 fun e w => e = .returned (vS (r.1)) ∧ Mem C w [.box b2 [vL A3 (s1.code) c4, vI (r.2.at_), vW (r.2.seed)] 101] [] ∧ R64 r.2.at_ ∧ U64 r.2.seed ∧ r.1.length ≤ maxLen := by
 have hM := hO
 have hM := hM.addIn hd (y := .dat (sliceRep byteRep) s1.code [vL A3 s1.code c4]) hp5
 have hM := hM.addIn hd (y := .dat (sliceRep strRep) list8 [vL A9 list8 c10]) hp11
 refine enter Tryd.func52 rfl Tryd.ntmps52 rfl fun a hf => ?_
 unfold m_spec_l00Src_text at h
 refine wp_seq ?_
 refine region_pl ?_
 refine q_ hf rfl rfl rfl (e_assign hf rfl) fun a hf => ?_
 refine pl_nil ?_
 refine then_n ?_
 refine wp_seq ?_
 refine region_pl ?_
 iterate 3 refine q_ hf rfl rfl rfl (e_move hf rfl) fun a hf => ?_
 have hl12 := slice_len (hM.dat (k := 0) rfl)
 refine q_ hf rfl rfl rfl (e_lenL hf (x := list8) rfl Tryd.underlying28) fun a hf => ?_
 have hM : Mem C _ ([.box b2 [vL A3 (s1.code) c4, vI (s1.at_), vW (s1.seed)] 101] ++ []) _ := hM
 obtain ⟨y13, hz14, h⟩ := bind_some h
 refine pl_l hf rfl rfl rfl (w_call hf Tryd.call84 rfl (r_spec_l00Src_pick ⟨_, Sh C _ _, ownB _, hM.sh_lt, sub_dis, C.G, hM.g_lt, hM.g_own, hM.tabs⟩ s1 _ _ _ (hM.dat (k := 1) rfl) hp6 hp7 (list8.length : Int) (R64_len hl12) hM.sub sub_dis _ hz14) ?_)
 rintro _ w18 ⟨rfl, hM2, hv15, hv16, hv17⟩
 obtain ⟨hM, hup20⟩ := hM.backG hM2
 dsimp only [List.cons_append, List.nil_append] at hM hup20
 clear hM2
 refine ⟨_, rfl, fun a hf => ?_⟩
 obtain ⟨e21, hz22, h⟩ := bind_some h
 obtain ⟨b26, o27, _, hA28, h23, h24, hr25, hM⟩ := hM.elem (hM.dat (k := 0) rfl) (n := 1) rfl hz22
 obtain ⟨rfl, hv29⟩ := hr25
 refine q_ hf rfl rfl rfl (e_indexAddr (A := A9) (b := b26) (o := o27) (xs := list8) (i := y13.1) hf hA28 rfl rfl Tryd.underlying28 Tryd.sizeOf9 h23 h24) fun a hf => ?_
 refine q_ hf rfl rfl rfl (e_load1 hf rfl Tryd.isAgg9 (hM.litCell (k := 0) (j := 0) rfl rfl rfl)) fun a hf => ?_
 refine q_ hf rfl rfl rfl (e_assign hf rfl) fun a hf => ?_
 refine pl_nil ?_
 refine then_n ?_
 refine wp_ret ?_
 obtain rfl := some_inj h
 exact leave1 hf rfl rfl ⟨rfl, hM.fin, hv15, hv16, hv29⟩

set_option maxRecDepth 100000 in
set_option maxHeartbeats 4000000 in
theorem r_spec_A2Word (C : Cx) (code1 : Str) (A2 : Option Addr) (c3 : Nat) (hp4 : (sliceRep byteRep).R C.w0 C.S0 code1 [vL A2 code1 c3]) (r : Str) (h : m_spec_A2Word code1 = some r) :
    Calls Tryd.prog 19 #[vL A2 (code1) c3] C.w0 fun e w => e = .returned (vS (r)) ∧ Mem C w [] [] ∧ r.length ≤ maxLen := by
 have hM := Mem.begin C [.dat (sliceRep byteRep) code1 [vL A2 code1 c3]] ⟨hp4, trivial⟩
 refine enter Tryd.func19 rfl Tryd.ntmps19 rfl fun a hf => ?_
 unfold m_spec_A2Word at h
 refine wp_seq ?_
 refine region_pl ?_
 refine q_ hf rfl rfl rfl (e_assign hf rfl) fun a hf => ?_
 refine pl_nil ?_
 refine then_n ?_
 refine wp_seq ?_
 refine region_pl ?_
 refine q_ hf rfl rfl rfl (e_move hf rfl) fun a hf => ?_
 obtain ⟨y5, hz6, h⟩ := bind_some h
 refine pl_l hf rfl rfl rfl (w_call hf Tryd.call42 rfl (r_spec_l00From ⟨_, Sh C _ _, none_, hM.sh_lt, none_not, C.G, hM.g_lt, g_none, hM.tabs⟩ code1 _ _ (hM.dat (k := 0) rfl) _ hz6) ?_)
 rintro _ w13 ⟨b7, A8, c9, rfl, hM2, hv10, hv11, hv12⟩
 obtain ⟨hM, hx14, hup15⟩ := hM.back hM2
 dsimp only [List.cons_append, List.nil_append] at hM hup15
 clear hM2
 have hM := hM.add (y := .dat (sliceRep byteRep) y5.code [vL A8 y5.code c9]) (hup15 hv10)
 refine ⟨_, rfl, fun a hf => ?_⟩
 obtain ⟨y16, hz17, h⟩ := bind_some h
 refine pl_l hf rfl rfl rfl (w_call hf Tryd.call53 rfl (r_spec_l05Some ⟨_, Sh C _ _, none_, hM.sh_lt, none_not, C.G, hM.g_lt, g_none, hM.tabs⟩ _ hz17) ?_)
 rintro _ w20 ⟨A18, c19, rfl, hM2⟩
 obtain ⟨hM, hx21, hup22⟩ := hM.back hM2
 dsimp only [List.cons_append, List.nil_append] at hM hup22
 clear hM2
 refine ⟨_, rfl, fun a hf => ?_⟩
 have hM := hM.freezeRow (k := 0) rfl rfl
 dsimp only [List.eraseIdx] at hM
 have hM : Mem C _ ([.box b7 [vL A8 (y5.code) c9, vI (y5.at_), vW (y5.seed)] 101] ++ []) _ := hM
 obtain ⟨y23, hz24, h⟩ := bind_some h
 refine pl_l hf rfl rfl rfl (w_call hf Tryd.call52 rfl (r_spec_l00Src_text ⟨_, Sh C _ _, ownB _, hM.sh_lt, sub_dis, C.G, hM.g_lt, hM.g_own, hM.tabs⟩ y5 _ _ _ (hM.dat (k := 1) rfl) hv11 hv12 y16 _ _ (hM.dat (k := 0) rfl) hM.sub sub_dis _ hz24) ?_)
 rintro _ w28 ⟨rfl, hM2, hv25, hv26, hv27⟩
 obtain ⟨hM, hup30⟩ := hM.backG hM2
 dsimp only [List.cons_append, List.nil_append] at hM hup30
 clear hM2
 refine ⟨_, rfl, fun a hf => ?_⟩
 refine q_ hf rfl rfl rfl (e_assign hf rfl) fun a hf => ?_
 refine pl_nil ?_
 refine then_n ?_
 refine wp_ret ?_
 obtain rfl := some_inj h
 have hM := hM.outs (own' := []) 0 rfl
 exact leave1 hf rfl rfl ⟨rfl, hM.fin, hv27⟩

set_option maxRecDepth 100000 in
set_option maxHeartbeats 4000000 in
theorem r_laws_a2At (C : Cx) (code1 : Str) (A2 : Option Addr) (c3 : Nat) (hp4 : (sliceRep byteRep).R C.w0 C.S0 code1 [vL A2 code1 c3]) (at_5 : Int) (hp6 : R64 at_5) (n7 : Int) (hp8 : R64 n7) (r : Int) (h : m_laws_a2At code1 at_5 n7 = some r) :
    Calls Tryd.prog 20 #[vL A2 (code1) c3, vI (at_5), vI (n7)] C.w0 fun e w => e = .returned (vI (r)) ∧ Mem C w [] [] ∧ R64 r := by
 have hM := Mem.begin C [.dat (sliceRep byteRep) code1 [vL A2 code1 c3]] ⟨hp4, trivial⟩
 refine enter Tryd.func20 rfl Tryd.ntmps20 rfl fun a hf => ?_
 unfold m_laws_a2At at h
 refine wp_seq ?_
 refine region_pl ?_
 refine q_ hf rfl rfl rfl (e_assign hf rfl) fun a hf => ?_
 refine pl_nil ?_
 refine then_n ?_
 refine wp_seq ?_
 obtain ⟨x11, h12, h⟩ := bind_some h
 refine seq_join (fun a w => ∃ (t9 : Bool), t9 = x11 ∧ Has 22 a [(0, vL A2 (code1) c3), (1, vI (at_5)), (2, vI (n7)), (14, .bool (t9))] ∧ Mem C w [] [.dat (sliceRep byteRep) code1 [vL A2 code1 c3]]) ?_ ?_
 ·refine region_pl ?_
  iterate 2 refine q_ hf rfl rfl rfl (e_move hf rfl) fun a hf => ?_
  have hl13 := slice_len (hM.dat (k := 0) rfl)
  refine q_ hf rfl rfl rfl (e_lenL hf (x := code1) rfl Tryd.underlying22) fun a hf => ?_
  refine q_ hf rfl rfl rfl (e_ge hf (x := at_5) (y := (code1.length : Int)) rfl rfl) fun a hf => ?_
  refine q_ hf rfl rfl rfl (e_move hf rfl) fun a hf => ?_
  rcases cond_some h12 with ⟨hc14, h12⟩ | ⟨hc14, h12⟩
  ·iterate 2 refine pl_gs (wanted_f hf rfl rfl rfl rfl hc14) hf rfl rfl fun a hf => ?_
   refine q_ hf rfl rfl rfl (e_pick_t hf rfl hc14 rfl) fun a hf => ?_
   refine pl_nil ?_
   obtain rfl := some_inj h12
   refine then_n ?_
   exact ⟨true, rfl, hf.keep ⟨rfl, rfl, rfl, rfl, trivial⟩, hM.pick [0] rfl⟩
  refine gq (wanted_t hf rfl rfl rfl rfl hc14) hf rfl rfl (e_move hf rfl) fun a hf => ?_
  refine gq (wanted_t hf rfl rfl rfl rfl hc14) hf rfl rfl (e_lt hf (x := n7) (y := 1) rfl rfl) fun a hf => ?_
  refine q_ hf rfl rfl rfl (e_pick_f hf rfl hc14 rfl) fun a hf => ?_
  refine pl_nil ?_
  obtain rfl := some_inj h12
  refine then_n ?_
  exact ⟨(decide (n7 < 1)), rfl, hf.keep ⟨rfl, rfl, rfl, rfl, trivial⟩, hM.pick [0] rfl⟩
 rintro a w17 ⟨t9, rfl, hf, hM⟩
 try dsimp only at h
 rcases cond_some h with ⟨hc18, h⟩ | ⟨hc18, h⟩
 ·refine cond_t hf rfl hc18 ?_
  refine wp_seq ?_
  refine region_pl ?_
  refine q_ hf rfl rfl rfl (e_assign hf rfl) fun a hf => ?_
  refine pl_nil ?_
  refine then_n ?_
  refine wp_ret ?_
  refine then_r ?_
  obtain rfl := some_inj h
  exact leave1 hf rfl rfl ⟨rfl, hM.fin, (R64_lit rfl)⟩
 refine cond_f hf rfl hc18 ?_
 refine wp_skip ?_
 refine then_n ?_
 refine wp_seq ?_
 refine region_pl ?_
 iterate 2 refine q_ hf rfl rfl rfl (e_move hf rfl) fun a hf => ?_
 obtain ⟨e19, hz20, h⟩ := bind_some h
 obtain ⟨b24, o25, _, hA26, h21, h22, hr23, hM⟩ := hM.elem (hM.dat (k := 0) rfl) (n := 1) rfl hz20
 obtain rfl : _ = _ := hr23
 refine q_ hf rfl rfl rfl (e_indexAddr (A := A2) (b := b24) (o := o25) (xs := code1) (i := at_5) hf hA26 rfl rfl Tryd.underlying22 Tryd.sizeOf5 h21 h22) fun a hf => ?_
 refine q_ hf rfl rfl rfl (e_load1 hf rfl Tryd.isAgg5 (hM.litCell (k := 0) (j := 0) rfl rfl rfl)) fun a hf => ?_
 refine q_ hf rfl rfl rfl (e_convBI hf (x := e19) rfl Tryd.underlying5 Tryd.underlying2) fun a hf => ?_
 refine q_ hf rfl rfl rfl (e_move hf rfl) fun a hf => ?_
 obtain ⟨z27, hz28, h⟩ := bind_some h
 refine q_ hf rfl rfl rfl (e_rem hf rfl rfl hz28) fun a hf => ?_
 refine q_ hf rfl rfl rfl (e_assign hf rfl) fun a hf => ?_
 refine pl_nil ?_
 refine then_n ?_
 refine wp_ret ?_
 obtain rfl := some_inj h
 exact leave1 hf rfl rfl ⟨rfl, hM.fin, (remI_R hz28 (R64_byte _))⟩

set_option maxRecDepth 100000 in
set_option maxHeartbeats 4000000 in
theorem r_impl_RangeOf (C : Cx) (d1 : Dawg) (A2 : Option Addr) (c3 : Nat) (hp4 : (sliceRep NodeRep).R C.w0 C.S0 d1.Nodes [vL A2 d1.Nodes c3]) (prefix_5 : Str) (hp6 : prefix_5.length ≤ maxLen) (r : (Int × Int × Int)) (h : m_impl_RangeOf d1 prefix_5 = some r) :
    Calls Tryd.prog 21 #[.agg #[vL A2 (d1.Nodes) c3], vS (prefix_5)] C.w0 fun e w => e = .returned (.tuple #[vI (r.1), vI (r.2.1), vI (r.2.2)]) ∧ Mem C w [] [] ∧ R64 r.1 ∧ R64 r.2.1 ∧ R64 r.2.2 := by
 have hM := Mem.begin C [.dat (sliceRep NodeRep) d1.Nodes [vL A2 d1.Nodes c3]] ⟨hp4, trivial⟩
 refine enter Tryd.func21 rfl Tryd.ntmps21 rfl fun a hf => ?_
 unfold m_impl_RangeOf at h
 refine wp_seq ?_
 refine region_pl ?_
 refine pl_l hf rfl rfl rfl (w_box hf hM (cs := [vL A2 (d1.Nodes) c3]) rfl rfl fun b7 w8 hx9 hM a hf => ?_)
 iterate 3 refine q_ hf rfl rfl rfl (e_assign hf rfl) fun a hf => ?_
 refine pl_nil ?_
 refine then_n ?_
 iterate 2 refine wp_seq ?_
 refine region_pl ?_
 refine q_ hf rfl rfl rfl (e_loadA hf (us := [vL A2 (d1.Nodes) c3]) rfl ⟨Tryd.isAgg26, Tryd.sizeOf26⟩ rfl (hM.boxSub (k := 0) (us := [vL A2 (d1.Nodes) c3]) (o := 0) rfl rfl)) fun a hf => ?_
 obtain ⟨y11, hz12, h⟩ := bind_some h
 refine pl_l hf rfl rfl rfl (w_call hf Tryd.call45 rfl (r_impl_ValidDawg ⟨_, Sh C _ _, none_, hM.sh_lt, none_not, C.G, hM.g_lt, g_none, hM.tabs⟩ d1 _ _ (hM.dat (k := 0) rfl) _ hz12) ?_)
 rintro _ w13 ⟨rfl, hM2⟩
 obtain ⟨hM, hx14, hup15⟩ := hM.back hM2
 dsimp only [List.cons_append, List.nil_append] at hM hup15
 clear hM2
 refine ⟨_, rfl, fun a hf => ?_⟩
 refine q_ hf rfl rfl rfl (e_not hf rfl) fun a hf => ?_
 refine pl_nil ?_
 refine then_n ?_
 rcases cond_some h with ⟨hc16, h⟩ | ⟨hc16, h⟩
 ·refine cond_t hf rfl hc16 ?_
  refine wp_seq ?_
  refine region_pl ?_
  iterate 3 refine q_ hf rfl rfl rfl (e_assign hf rfl) fun a hf => ?_
  refine pl_nil ?_
  refine then_n ?_
  refine wp_ret ?_
  refine then_r ?_
  obtain rfl := some_inj h
  have hres17 := leaveV3 (P := Tryd.prog) (w := w13) Tryd.results21 (res_tmp hf rfl) (res_tmp hf rfl) (res_tmp hf rfl)
  have hM := hM.outs (own' := []) 0 rfl
  exact bodyPost_ret hres17 hf.defers ⟨rfl, hM.fin, (R64_lit rfl), (R64_lit rfl), (R64_lit rfl)⟩
 refine cond_f hf rfl hc16 ?_
 refine wp_skip ?_
 refine then_n ?_
 refine wp_seq ?_
 refine region_pl ?_
 refine q_ hf rfl rfl rfl (e_loadA hf (us := [vL A2 (d1.Nodes) c3]) rfl ⟨Tryd.isAgg26, Tryd.sizeOf26⟩ rfl (hM.boxSub (k := 0) (us := [vL A2 (d1.Nodes) c3]) (o := 0) rfl rfl)) fun a hf => ?_
 obtain ⟨y18, hz19, h⟩ := bind_some h
 refine pl_l hf rfl rfl rfl (w_call hf Tryd.call49 rfl (r_impl_Dawg_words ⟨_, Sh C _ _, none_, hM.sh_lt, none_not, C.G, hM.g_lt, g_none, hM.tabs⟩ d1 _ _ (hM.dat (k := 0) rfl) _ hz19) ?_)
 rintro _ w22 ⟨A20, c21, rfl, hM2⟩
 obtain ⟨hM, hx23, hup24⟩ := hM.back hM2
 dsimp only [List.cons_append, List.nil_append] at hM hup24
 clear hM2
 refine ⟨_, rfl, fun a hf => ?_⟩
 refine q_ hf rfl rfl rfl (e_move hf rfl) fun a hf => ?_
 obtain ⟨y25, hz26, h⟩ := bind_some h
 refine pl_l hf rfl rfl rfl (w_call hf Tryd.call48 rfl (r_impl_prefixRange ⟨_, All C _ _, none_, hM.all_lt, none_not, C.G, hM.g_lt, g_none, hM.tabs⟩ y18 _ _ (hM.lendRow (k := 0) rfl) prefix_5 hp6 _ hz26) ?_)
 rintro _ w29 ⟨rfl, hM2, hv27, hv28⟩
 obtain ⟨hM, hx30⟩ := hM.backA hM2
 clear hM2
 refine ⟨_, rfl, fun a hf => ?_⟩
 refine q_ hf rfl rfl rfl (e_move hf rfl) fun a hf => ?_
 iterate 2 refine q_ hf rfl rfl rfl (e_extract hf rfl rfl) fun a hf => ?_
 iterate 2 refine q_ hf rfl rfl rfl (e_assign hf rfl) fun a hf => ?_
 refine pl_nil ?_
 refine then_n ?_
 refine wp_seq ?_
 refine region_pl ?_
 iterate 2 refine q_ hf rfl rfl rfl (e_move hf rfl) fun a hf => ?_
 iterate 3 refine q_ hf rfl rfl rfl (e_assign hf rfl) fun a hf => ?_
 refine pl_nil ?_
 refine then_n ?_
 refine wp_ret ?_
 obtain rfl := some_inj h
 have hres32 := leaveV3 (P := Tryd.prog) (w := w29) Tryd.results21 (res_tmp hf rfl) (res_tmp hf rfl) (res_tmp hf rfl)
 have hM := hM.outs (own' := []) 0 rfl
 exact bodyPost_ret hres32 hf.defers ⟨rfl, hM.fin, hv27, hv28, (R64_lit rfl)⟩

set_option maxRecDepth 100000 in
set_option maxHeartbeats 4000000 in
theorem r_spec_IsWord (C : Cx) (s1 : Str) (hp2 : s1.length ≤ maxLen) (r : Bool) (h : m_spec_IsWord s1 = some r) :
    Calls Tryd.prog 109 #[vS (s1)] C.w0 fun e w => e = .returned (.bool (r)) ∧ Mem C w [] [] := by
 have hM := Mem.begin C [] trivial
 refine enter Tryd.func109 rfl Tryd.ntmps109 rfl fun a hf => ?_
 unfold m_spec_IsWord at h
 refine wp_seq ?_
 refine region_pl ?_
 refine q_ hf rfl rfl rfl (e_assign hf rfl) fun a hf => ?_
 refine pl_nil ?_
 refine then_n ?_
 obtain ⟨x3, h4, h⟩ := bind_some h
 refine seq_join (fun a w => (.inl ()) = x3 ∧ Has 18 a [(0, vS (s1))] ∧ Mem C w [] []) ?_ ?_
 ·refine wp_seq ?_
  refine region_pl ?_
  refine q_ hf rfl rfl rfl (e_assign hf rfl) fun a hf => ?_
  refine pl_nil ?_
  refine then_n ?_
  refine wp_block ?_
  obtain ⟨x8, h9, h4⟩ := bind_some h4
  refine wp_loopM h9 (fun s a w => ∃ (n5 : Int), n5 = s ∧ Has 18 a [(0, vS (s1)), (3, vI (n5))] ∧ Mem C w [] [] ∧ R64 n5) ?_ ?_
  ·exact ⟨0, rfl, hf.keep ⟨rfl, rfl, trivial⟩, hM.pick [] rfl, (R64_lit rfl)⟩
  rintro s o10 a w7 ⟨n5, rfl, hf, hM, hv6⟩ h11 hd12
  replace h11 : m_spec_IsWord_l1 s1 n5 = some o10 := h11
  unfold m_spec_IsWord_l1 at h11
  iterate 2 refine wp_seq ?_
  refine region_pl ?_
  iterate 2 refine q_ hf rfl rfl rfl (e_move hf rfl) fun a hf => ?_
  refine q_ hf rfl rfl rfl (e_lenS hf (x := s1) rfl Tryd.underlying9) fun a hf => ?_
  refine q_ hf rfl rfl rfl (e_lt hf (x := n5) (y := (s1.length : Int)) rfl rfl) fun a hf => ?_
  refine pl_nil ?_
  refine then_n ?_
  rcases cond_some h11 with ⟨hc13, h11⟩ | ⟨hc13, h11⟩
  ·refine cond_t hf rfl hc13 ?_
   refine wp_skip ?_
   refine then_n ?_
   refine wp_seq ?_
   refine wp_block ?_
   refine wp_seq ?_
   refine region_pl ?_
   iterate 2 refine q_ hf rfl rfl rfl (e_move hf rfl) fun a hf => ?_
   obtain ⟨c14, hz15, h11⟩ := bind_some h11
   refine q_ hf rfl rfl rfl (e_indexS hf (x := s1) rfl rfl Tryd.underlying9 hz15) fun a hf => ?_
   obtain ⟨y16, hz17, h11⟩ := bind_some h11
   refine pl_l hf rfl rfl rfl (w_call hf Tryd.call99 rfl (r_spec_l01Small ⟨_, Sh C _ _, none_, hM.sh_lt, none_not, C.G, hM.g_lt, g_none, hM.tabs⟩ c14 _ hz17) ?_)
   rintro _ w18 ⟨rfl, hM2⟩
   obtain ⟨hM, hx19, hup20⟩ := hM.back hM2
   dsimp only [List.cons_append, List.nil_append] at hM hup20
   clear hM2
   refine ⟨_, rfl, fun a hf => ?_⟩
   refine q_ hf rfl rfl rfl (e_not hf rfl) fun a hf => ?_
   refine pl_nil ?_
   refine then_n ?_
   rcases cond_some h11 with ⟨hc21, h11⟩ | ⟨hc21, h11⟩
   ·refine cond_t hf rfl hc21 ?_
    refine wp_seq ?_
    refine region_pl ?_
    refine q_ hf rfl rfl rfl (e_assign hf rfl) fun a hf => ?_
    refine pl_nil ?_
    refine then_n ?_
    refine wp_ret ?_
    refine blk_r ?_
    refine then_r ?_
    obtain rfl := some_inj h11
    obtain rfl := hd12 _ rfl
    try dsimp only at h4
    refine then_r ?_
    refine blk_r ?_
    obtain rfl := some_inj h4
    try dsimp only at h
    refine then_r ?_
    obtain rfl := some_inj h
    exact leave1 hf rfl rfl ⟨rfl, hM.fin⟩
   refine cond_f hf rfl hc21 ?_
   refine wp_skip ?_
   refine blk_n ?_
   refine then_n ?_
   refine region_pl ?_
   refine q_ hf rfl rfl rfl (e_move hf rfl) fun a hf => ?_
   obtain ⟨z22, hz23, h11⟩ := bind_some h11
   refine q_ hf rfl rfl rfl (e_add hf rfl rfl hz23) fun a hf => ?_
   refine q_ hf rfl rfl rfl (e_assign hf rfl) fun a hf => ?_
   refine pl_nil ?_
   obtain rfl := some_inj h11
   refine then_n ⟨_, rfl, ?_⟩
   exact ⟨z22, rfl, hf.keep ⟨rfl, rfl, trivial⟩, hM.pick [] rfl, (chk_R hz23)⟩
  refine cond_f hf rfl hc13 ?_
  refine wp_exit ?_
  refine then_x ?_
  obtain rfl := some_inj h11
  obtain rfl := hd12 _ rfl
  try dsimp only at h4
  refine then_x ?_
  refine exit_hit ?_
  obtain rfl := some_inj h4
  refine then_n ?_
  exact ⟨rfl, hf.keep ⟨rfl, trivial⟩, hM.pick [] rfl⟩
 rintro a w30 ⟨rfl, hf, hM⟩
 try dsimp only at h
 refine wp_seq ?_
 refine region_pl ?_
 refine q_ hf rfl rfl rfl (e_move hf rfl) fun a hf => ?_
 refine q_ hf rfl rfl rfl (e_lenS hf (x := s1) rfl Tryd.underlying9) fun a hf => ?_
 obtain ⟨y31, hz32, h⟩ := bind_some h
 refine pl_l hf rfl rfl rfl (w_call hf Tryd.call65 rfl (r_spec_l00In ⟨_, Sh C _ _, none_, hM.sh_lt, none_not, C.G, hM.g_lt, g_none, hM.tabs⟩ (s1.length : Int) (R64_len hp2) 1 (R64_lit rfl) 12 (R64_lit rfl) _ hz32) ?_)
 rintro _ w33 ⟨rfl, hM2⟩
 obtain ⟨hM, hx34, hup35⟩ := hM.back hM2
 dsimp only [List.cons_append, List.nil_append] at hM hup35
 clear hM2
 refine ⟨_, rfl, fun a hf => ?_⟩
 refine q_ hf rfl rfl rfl (e_assign hf rfl) fun a hf => ?_
 refine pl_nil ?_
 refine then_n ?_
 refine wp_ret ?_
 obtain rfl := some_inj h
 exact leave1 hf rfl rfl ⟨rfl, hM.fin⟩

set_option maxRecDepth 100000 in
set_option maxHeartbeats 4000000 in
theorem r_spec_l05Long (C : Cx) (s1 : Str) (hp2 : s1.length ≤ maxLen) (r : Bool) (h : m_spec_l05Long s1 = some r) :
    Calls Tryd.prog 85 #[vS (s1)] C.w0 fun e w => e = .returned (.bool (r)) ∧ Mem C w [] [] := by
 have hM := Mem.begin C [] trivial
 refine enter Tryd.func85 rfl Tryd.ntmps85 rfl fun a hf => ?_
 unfold m_spec_l05Long at h
 refine wp_seq ?_
 refine region_pl ?_
 refine q_ hf rfl rfl rfl (e_assign hf rfl) fun a hf => ?_
 refine pl_nil ?_
 refine then_n ?_
 obtain ⟨x5, h6, h⟩ := bind_some h
 refine seq_join (fun a w => ∃ (t3 : Bool), t3 = x5 ∧ Has 10 a [(2, .bool (t3))] ∧ Mem C w [] []) ?_ ?_
 ·refine region_pl ?_
  refine q_ hf rfl rfl rfl (e_move hf rfl) fun a hf => ?_
  refine q_ hf rfl rfl rfl (e_lenS hf (x := s1) rfl Tryd.underlying9) fun a hf => ?_
  refine q_ hf rfl rfl rfl (e_gt hf (x := (s1.length : Int)) (y := 1) rfl rfl) fun a hf => ?_
  refine q_ hf rfl rfl rfl (e_move hf rfl) fun a hf => ?_
  rcases cond_some h6 with ⟨hc7, h6⟩ | ⟨hc7, h6⟩
  ·refine gq (wanted_t hf rfl rfl rfl rfl hc7) hf rfl rfl (e_move hf rfl) fun a hf => ?_
   obtain ⟨y8, hz9, h6⟩ := bind_some h6
   refine pl_gl (wanted_t hf rfl rfl rfl rfl hc7) hf rfl rfl (w_call hf Tryd.call109 rfl (r_spec_IsWord ⟨_, Sh C _ _, none_, hM.sh_lt, none_not, C.G, hM.g_lt, g_none, hM.tabs⟩ s1 hp2 _ hz9) ?_)
   rintro _ w10 ⟨rfl, hM2⟩
   obtain ⟨hM, hx11, hup12⟩ := hM.back hM2
   dsimp only [List.cons_append, List.nil_append] at hM hup12
   clear hM2
   refine ⟨_, rfl, fun a hf => ?_⟩
   refine q_ hf rfl rfl rfl (e_pick_t hf rfl hc7 rfl) fun a hf => ?_
   refine q_ hf rfl rfl rfl (e_assign hf rfl) fun a hf => ?_
   refine pl_nil ?_
   obtain rfl := some_inj h6
   refine then_n ?_
   exact ⟨y8, rfl, hf.keep ⟨rfl, trivial⟩, hM.pick [] rfl⟩
  iterate 2 refine pl_gs (wanted_f hf rfl rfl rfl rfl hc7) hf rfl rfl fun a hf => ?_
  refine q_ hf rfl rfl rfl (e_pick_f hf rfl hc7 rfl) fun a hf => ?_
  refine q_ hf rfl rfl rfl (e_assign hf rfl) fun a hf => ?_
  refine pl_nil ?_
  obtain rfl := some_inj h6
  refine then_n ?_
  exact ⟨false, rfl, hf.keep ⟨rfl, trivial⟩, hM.pick [] rfl⟩
 rintro a w15 ⟨t3, rfl, hf, hM⟩
 try dsimp only at h
 refine wp_ret ?_
 obtain rfl := some_inj h
 exact leave1 hf rfl rfl ⟨rfl, hM.fin⟩

set_option maxRecDepth 100000 in
set_option maxHeartbeats 4000000 in
theorem r_spec_l05Ok (C : Cx) (l1 : Lexicon) (b2 : Nat) (o3 : Nat) (hp4 : (ptrRep LexiconRep).R C.w0 C.S0 l1 [vP b2 o3]) (r : Bool) (h : m_spec_l05Ok l1 = some r) :
    Calls Tryd.prog 54 #[vP b2 (o3)] C.w0 fun e w => e = .returned (.bool (r)) ∧ Mem C w [] [] := by
 have hM := Mem.begin C [.dat (ptrRep LexiconRep) l1 [vP b2 o3]] ⟨hp4, trivial⟩
 refine enter Tryd.func54 rfl Tryd.ntmps54 rfl fun a hf => ?_
 unfold m_spec_l05Ok at h
 refine wp_seq ?_
 refine region_pl ?_
 refine q_ hf rfl rfl rfl (e_assign hf rfl) fun a hf => ?_
 refine pl_nil ?_
 refine then_n ?_
 obtain ⟨x5, h6, h⟩ := bind_some h
 refine seq_join (fun a w => (.inl ()) = x5 ∧ Has 50 a [(0, vP b2 (o3))] ∧ Mem C w [] [.dat (ptrRep LexiconRep) l1 [vP b2 o3]]) ?_ ?_
 ·refine wp_seq ?_
  refine region_pl ?_
  refine q_ hf rfl rfl rfl (e_assign hf rfl) fun a hf => ?_
  refine pl_nil ?_
  refine then_n ?_
  refine wp_block ?_
  obtain ⟨x10, h11, h6⟩ := bind_some h6
  refine wp_loopM h11 (fun s a w => ∃ (n7 : Int), n7 = s ∧ Has 50 a [(0, vP b2 (o3)), (3, vI (n7))] ∧ Mem C w [] [.dat (ptrRep LexiconRep) l1 [vP b2 o3]] ∧ R64 n7) ?_ ?_
  ·exact ⟨0, rfl, hf.keep ⟨rfl, rfl, trivial⟩, hM.pick [0] rfl, (R64_lit rfl)⟩
  rintro s o12 a w9 ⟨n7, rfl, hf, hM, hv8⟩ h13 hd14
  replace h13 : m_spec_l05Ok_l1 l1 n7 = some o12 := h13
  unfold m_spec_l05Ok_l1 at h13
  iterate 2 refine wp_seq ?_
  refine region_pl ?_
  iterate 2 refine q_ hf rfl rfl rfl (e_move hf rfl) fun a hf => ?_
  refine q_ hf rfl rfl rfl (e_nil hf rfl) fun a hf => ?_
  obtain ⟨_, hr15, hM⟩ := hM.deref (hM.dat (k := 0) rfl)
  obtain ⟨A16, c17, rfl, hv18⟩ := LexiconRep_open hr15
  have hM := hM.add (y := .dat (sliceRep strRep) l1.Words [vL A16 l1.Words c17]) hv18
  refine q_ hf rfl rfl rfl (e_field hf rfl Tryd.underlying40 rfl Tryd.sizeOf28 (o' := o3 + 0) rfl) fun a hf => ?_
  refine q_ hf rfl rfl rfl (e_load1 hf rfl Tryd.isAgg28 (hM.litCell (k := 1) (j := 0) rfl rfl rfl)) fun a hf => ?_
  have hl19 := slice_len (hM.dat (k := 0) rfl)
  refine q_ hf rfl rfl rfl (e_lenL hf (x := l1.Words) rfl Tryd.underlying28) fun a hf => ?_
  refine q_ hf rfl rfl rfl (e_lt hf (x := n7) (y := (l1.Words.length : Int)) rfl rfl) fun a hf => ?_
  refine pl_nil ?_
  refine then_n ?_
  rcases cond_some h13 with ⟨hc20, h13⟩ | ⟨hc20, h13⟩
  ·refine cond_t hf rfl hc20 ?_
   refine wp_skip ?_
   refine then_n ?_
   refine wp_seq ?_
   refine wp_block ?_
   obtain ⟨x23, h24, h13⟩ := bind_some h13
   refine seq_join (fun a w => ∃ (t21 : Bool), t21 = x23 ∧ Has 50 a [(0, vP b2 (o3)), (3, vI (n7)), (43, .bool (t21))] ∧ Mem C w [] [.dat (sliceRep strRep) l1.Words [vL A16 l1.Words c17], .lit b2 (o3) [vL A16 (l1.Words) c17], .dat (ptrRep LexiconRep) l1 [vP b2 o3]]) ?_ ?_
   ·obtain ⟨w25, hw⟩ : ∃ x, x = w9.drew := ⟨_, rfl⟩
    refine region_pi (.q 0 (.q 1 (.q 2 (.q 3 (.q 4 (.q 5 (.q 6 (.l 7 (.q 8 (.q 9 (.q 10 (.q 11 (.q 12 (.q 13 (.q 14 (.q 15 (.q 16 (.q 17 (.q 18 (.q 19 (.q 20 (.q 21 (.q 22 (.q 23 (.q 24 (.q 25 (.q 26 (.q 27 (.q 28 (.q 29 (.q 30 (.nil)))))))))))))))))))))))))))))))) (Ext w25) rfl (by kernel_rfl) ?_
    have hM := hM.drew
    rw [← hw] at hM ⊢
    clear hw
    refine pi_q hf rfl rfl rfl rfl (Ext.refl _) (e_move hf rfl) fun a hf => ?_
    refine pi_q hf rfl rfl rfl rfl (Ext.refl _) (e_nil hf rfl) fun a hf => ?_
    refine pi_q hf rfl rfl rfl rfl (Ext.refl _) (e_field hf rfl Tryd.underlying40 rfl Tryd.sizeOf28 (o' := o3 + 0) rfl) fun a hf => ?_
    refine pi_q hf rfl rfl rfl rfl (Ext.refl _) (e_load1 hf rfl Tryd.isAgg28 (hM.litCell (k := 1) (j := 0) rfl rfl rfl)) fun a hf => ?_
    refine pi_q hf rfl rfl rfl rfl (Ext.refl _) (e_move hf rfl) fun a hf => ?_
    obtain ⟨e26, hz27, h24⟩ := bind_some h24
    obtain ⟨b31, o32, _, hA33, h28, h29, hr30, hM⟩ := hM.elem (hM.dat (k := 0) rfl) (n := 1) rfl hz27
    obtain ⟨rfl, hv34⟩ := hr30
    refine pi_q hf rfl rfl rfl rfl (Ext.refl _) (e_indexAddr (A := A16) (b := b31) (o := o32) (xs := l1.Words) (i := n7) hf hA33 rfl rfl Tryd.underlying28 Tryd.sizeOf9 h28 h29) fun a hf => ?_
    refine pi_q hf rfl rfl rfl rfl (Ext.refl _) (e_load1 hf rfl Tryd.isAgg9 (hM.litCell (k := 0) (j := 0) rfl rfl rfl)) fun a hf => ?_
    refine pi_one ?_
    obtain ⟨y35, hz36, h24⟩ := bind_some h24
    refine pi_l hf rfl rfl rfl rfl (w_call hf Tryd.call85 rfl (r_spec_l05Long ⟨_, Sh C _ _, none_, hM.sh_lt, none_not, C.G, hM.g_lt, g_none, hM.tabs⟩ e26 hv34 _ hz36) ?_)
    rintro _ w37 ⟨rfl, hM2⟩
    obtain ⟨hM, hx38, hup39⟩ := hM.back hM2
    dsimp only [List.cons_append, List.nil_append] at hM hup39
    clear hM2
    refine ⟨_, rfl, Ext w37, fun _ h => Ext.trans hx38 h, Ext.refl _, fun a hf => ?_⟩
    refine pi_q hf rfl rfl rfl rfl (Ext.refl _) (e_not hf rfl) fun a hf => ?_
    refine pi_q hf rfl rfl rfl rfl (Ext.refl _) (e_move hf rfl) fun a hf => ?_
    rcases cond_some h24 with ⟨hc40, h24⟩ | ⟨hc40, h24⟩
    ·iterate 3 refine pi_gs hf rfl (wanted_f hf rfl rfl rfl rfl hc40) rfl rfl (Ext.refl _) fun a hf => ?_
     iterate 16 refine pi_gs hf rfl (wanted_u hf rfl rfl rfl rfl) rfl rfl (Ext.refl _) fun a hf => ?_
     refine pi_gs hf rfl (wanted_f hf rfl rfl rfl rfl hc40) rfl rfl (Ext.refl _) fun a hf => ?_
     refine pi_q hf rfl rfl rfl rfl (Ext.refl _) (e_pick_t hf rfl hc40 rfl) fun a hf => ?_
     refine pi_nil ?_
     obtain rfl := some_inj h24
     refine then_n ?_
     exact ⟨true, rfl, hf.keep ⟨rfl, rfl, rfl, trivial⟩, hM.pick [1, 2, 3] rfl⟩
    refine pi_gq hf rfl (wanted_t hf rfl rfl rfl rfl hc40) rfl rfl (Ext.refl _) (e_move hf rfl) fun a hf => ?_
    refine pi_gq hf rfl (wanted_t hf rfl rfl rfl rfl hc40) rfl rfl (Ext.refl _) (e_gt hf (x := n7) (y := 0) rfl rfl) fun a hf => ?_
    refine pi_gq hf rfl (wanted_t hf rfl rfl rfl rfl hc40) rfl rfl (Ext.refl _) (e_move hf rfl) fun a hf => ?_
    rcases cond_some h24 with ⟨hc42, h24⟩ | ⟨hc42, h24⟩
    ·refine pi_gq hf rfl (wanted_t hf rfl rfl rfl rfl hc42) rfl rfl (Ext.refl _) (e_move hf rfl) fun a hf => ?_
     refine pi_gq hf rfl (wanted_t hf rfl rfl rfl rfl hc42) rfl rfl (Ext.refl _) (e_nil hf rfl) fun a hf => ?_
     refine pi_gq hf rfl (wanted_t hf rfl rfl rfl rfl hc42) rfl rfl (Ext.refl _) (e_field hf rfl Tryd.underlying40 rfl Tryd.sizeOf28 (o' := o3 + 0) rfl) fun a hf => ?_
     refine pi_gq hf rfl (wanted_t hf rfl rfl rfl rfl hc42) rfl rfl (Ext.refl _) (e_load1 hf rfl Tryd.isAgg28 (hM.litCell (k := 2) (j := 0) rfl rfl rfl)) fun a hf => ?_
     refine pi_gq hf rfl (wanted_t hf rfl rfl rfl rfl hc42) rfl rfl (Ext.refl _) (e_move hf rfl) fun a hf => ?_
     obtain ⟨e43, hz44, h24⟩ := bind_some h24
     obtain ⟨b48, o49, _, hA50, h45, h46, hr47, hM⟩ := hM.elem (hM.dat (k := 1) rfl) (n := 1) rfl hz44
     obtain ⟨rfl, hv51⟩ := hr47
     refine pi_gq hf rfl (wanted_t hf rfl rfl rfl rfl hc42) rfl rfl (Ext.refl _) (e_indexAddr (A := A16) (b := b48) (o := o49) (xs := l1.Words) (i := n7) hf hA50 rfl rfl Tryd.underlying28 Tryd.sizeOf9 h45 h46) fun a hf => ?_
     refine pi_gq hf rfl (wanted_t hf rfl rfl rfl rfl hc42) rfl rfl (Ext.refl _) (e_load1 hf rfl Tryd.isAgg9 (hM.litCell (k := 0) (j := 0) rfl rfl rfl)) fun a hf => ?_
     refine pi_gq hf rfl (wanted_t hf rfl rfl rfl rfl hc42) rfl rfl (Ext.refl _) (e_move hf rfl) fun a hf => ?_
     refine pi_gq hf rfl (wanted_t hf rfl rfl rfl rfl hc42) rfl rfl (Ext.refl _) (e_nil hf rfl) fun a hf => ?_
     refine pi_gq hf rfl (wanted_t hf rfl rfl rfl rfl hc42) rfl rfl (Ext.refl _) (e_field hf rfl Tryd.underlying40 rfl Tryd.sizeOf28 (o' := o3 + 0) rfl) fun a hf => ?_
     refine pi_gq hf rfl (wanted_t hf rfl rfl rfl rfl hc42) rfl rfl (Ext.refl _) (e_load1 hf rfl Tryd.isAgg28 (hM.litCell (k := 3) (j := 0) rfl rfl rfl)) fun a hf => ?_
     refine pi_gq hf rfl (wanted_t hf rfl rfl rfl rfl hc42) rfl rfl (Ext.refl _) (e_move hf rfl) fun a hf => ?_
     obtain ⟨z52, hz53, h24⟩ := bind_some h24
     refine pi_gq hf rfl (wanted_t hf rfl rfl rfl rfl hc42) rfl rfl (Ext.refl _) (e_sub hf rfl rfl hz53) fun a hf => ?_
     obtain ⟨e54, hz55, h24⟩ := bind_some h24
     obtain ⟨b59, o60, _, hA61, h56, h57, hr58, hM⟩ := hM.elem (hM.dat (k := 2) rfl) (n := 1) rfl hz55
     obtain ⟨rfl, hv62⟩ := hr58
     refine pi_gq hf rfl (wanted_t hf rfl rfl rfl rfl hc42) rfl rfl (Ext.refl _) (e_indexAddr (A := A16) (b := b59) (o := o60) (xs := l1.Words) (i := z52) hf hA61 rfl rfl Tryd.underlying28 Tryd.sizeOf9 h56 h57) fun a hf => ?_
     refine pi_gq hf rfl (wanted_t hf rfl rfl rfl rfl hc42) rfl rfl (Ext.refl _) (e_load1 hf rfl Tryd.isAgg9 (hM.litCell (k := 0) (j := 0) rfl rfl rfl)) fun a hf => ?_
     refine pi_gq hf rfl (wanted_t hf rfl rfl rfl rfl hc42) rfl rfl (Ext.refl _) (e_leS hf (x := e43) (y := e54) rfl rfl) fun a hf => ?_
     refine pi_gq hf rfl (wanted_t hf rfl rfl rfl rfl hc40) rfl rfl (Ext.refl _) (e_pick_t hf rfl hc42 rfl) fun a hf => ?_
     refine pi_q hf rfl rfl rfl rfl (Ext.refl _) (e_pick_f hf rfl hc40 rfl) fun a hf => ?_
     refine pi_nil ?_
     obtain rfl := some_inj h24
     refine then_n ?_
     exact ⟨(ltS e43 e54 || e43 == e54), rfl, hf.keep ⟨rfl, rfl, rfl, trivial⟩, hM.pick [3, 4, 5] rfl⟩
    iterate 16 refine pi_gs hf rfl (wanted_f hf rfl rfl rfl rfl hc42) rfl rfl (Ext.refl _) fun a hf => ?_
    refine pi_gq hf rfl (wanted_t hf rfl rfl rfl rfl hc40) rfl rfl (Ext.refl _) (e_pick_f hf rfl hc42 rfl) fun a hf => ?_
    refine pi_q hf rfl rfl rfl rfl (Ext.refl _) (e_pick_f hf rfl hc40 rfl) fun a hf => ?_
    refine pi_nil ?_
    obtain rfl := some_inj h24
    refine then_n ?_
    exact ⟨false, rfl, hf.keep ⟨rfl, rfl, rfl, trivial⟩, hM.pick [1, 2, 3] rfl⟩
   rintro a w65 ⟨t21, rfl, hf, hM⟩
   try dsimp only at h13
   rcases cond_some h13 with ⟨hc66, h13⟩ | ⟨hc66, h13⟩
   ·refine cond_t hf rfl hc66 ?_
    refine wp_seq ?_
    refine region_pl ?_
    refine q_ hf rfl rfl rfl (e_assign hf rfl) fun a hf => ?_
    refine pl_nil ?_
    refine then_n ?_
    refine wp_ret ?_
    refine blk_r ?_
    refine then_r ?_
    obtain rfl := some_inj h13
    obtain rfl := hd14 _ rfl
    try dsimp only at h6
    refine then_r ?_
    refine blk_r ?_
    obtain rfl := some_inj h6
    try dsimp only at h
    refine then_r ?_
    obtain rfl := some_inj h
    exact leave1 hf rfl rfl ⟨rfl, hM.fin⟩
   refine cond_f hf rfl hc66 ?_
   refine wp_skip ?_
   refine blk_n ?_
   refine then_n ?_
   refine region_pl ?_
   refine q_ hf rfl rfl rfl (e_move hf rfl) fun a hf => ?_
   obtain ⟨z67, hz68, h13⟩ := bind_some h13
   refine q_ hf rfl rfl rfl (e_add hf rfl rfl hz68) fun a hf => ?_
   refine q_ hf rfl rfl rfl (e_assign hf rfl) fun a hf => ?_
   refine pl_nil ?_
   obtain rfl := some_inj h13
   refine then_n ⟨_, rfl, ?_⟩
   exact ⟨z67, rfl, hf.keep ⟨rfl, rfl, trivial⟩, hM.pick [2] rfl, (chk_R hz68)⟩
  refine cond_f hf rfl hc20 ?_
  refine wp_exit ?_
  refine then_x ?_
  obtain rfl := some_inj h13
  obtain rfl := hd14 _ rfl
  try dsimp only at h6
  refine then_x ?_
  refine exit_hit ?_
  obtain rfl := some_inj h6
  refine then_n ?_
  exact ⟨rfl, hf.keep ⟨rfl, trivial⟩, hM.pick [2] rfl⟩
 rintro a w75 ⟨rfl, hf, hM⟩
 try dsimp only at h
 refine wp_seq ?_
 refine region_pl ?_
 refine q_ hf rfl rfl rfl (e_move hf rfl) fun a hf => ?_
 refine q_ hf rfl rfl rfl (e_nil hf rfl) fun a hf => ?_
 obtain ⟨_, hr76, hM⟩ := hM.deref (hM.dat (k := 0) rfl)
 obtain ⟨A77, c78, rfl, hv79⟩ := LexiconRep_open hr76
 have hM := hM.add (y := .dat (sliceRep strRep) l1.Words [vL A77 l1.Words c78]) hv79
 refine q_ hf rfl rfl rfl (e_field hf rfl Tryd.underlying40 rfl Tryd.sizeOf28 (o' := o3 + 0) rfl) fun a hf => ?_
 refine q_ hf rfl rfl rfl (e_load1 hf rfl Tryd.isAgg28 (hM.litCell (k := 1) (j := 0) rfl rfl rfl)) fun a hf => ?_
 have hl80 := slice_len (hM.dat (k := 0) rfl)
 refine q_ hf rfl rfl rfl (e_lenL hf (x := l1.Words) rfl Tryd.underlying28) fun a hf => ?_
 refine q_ hf rfl rfl rfl (e_le hf (x := (l1.Words.length : Int)) (y := 200) rfl rfl) fun a hf => ?_
 refine q_ hf rfl rfl rfl (e_assign hf rfl) fun a hf => ?_
 refine pl_nil ?_
 refine then_n ?_
 refine wp_ret ?_
 obtain rfl := some_inj h
 exact leave1 hf rfl rfl ⟨rfl, hM.fin⟩

set_option maxRecDepth 100000 in
set_option maxHeartbeats 4000000 in
theorem r_spec_l05First (C : Cx) (list1 : (List Str)) (A2 : Option Addr) (c3 : Nat) (hp4 : (sliceRep strRep).R C.w0 C.S0 list1 [vL A2 list1 c3]) (s5 : Str) (hp6 : s5.length ≤ maxLen) (r : Int) (h : m_spec_l05First list1 s5 = some r) :
    Calls Tryd.prog 55 #[vL A2 (list1) c3, vS (s5)] C.w0 fun e w => e = .returned (vI (r)) ∧ Mem C w [] [] ∧ R64 r := by
 have hM := Mem.begin C [.dat (sliceRep strRep) list1 [vL A2 list1 c3]] ⟨hp4, trivial⟩
 refine enter Tryd.func55 rfl Tryd.ntmps55 rfl fun a hf => ?_
 unfold m_spec_l05First at h
 refine wp_seq ?_
 refine region_pl ?_
 refine q_ hf rfl rfl rfl (e_assign hf rfl) fun a hf => ?_
 refine pl_nil ?_
 refine then_n ?_
 refine wp_seq ?_
 refine region_pl ?_
 refine q_ hf rfl rfl rfl (e_assign hf rfl) fun a hf => ?_
 refine pl_nil ?_
 refine then_n ?_
 obtain ⟨x9, h10, h⟩ := bind_some h
 refine seq_join (fun a w => ∃ (n7 : Int), n7 = x9 ∧ Has 21 a [(5, vI (n7))] ∧ Mem C w [] [.dat (sliceRep strRep) list1 [vL A2 list1 c3]] ∧ R64 n7) ?_ ?_
 ·refine wp_block ?_
  obtain ⟨x16, h17, h10⟩ := bind_some h10
  refine wp_loopM h17 (fun s a w => ∃ (n11 : Int), n11 = s ∧ Has 21 a [(0, vL A2 (list1) c3), (1, vS (s5)), (5, vI (n11))] ∧ Mem C w [] [.dat (sliceRep strRep) list1 [vL A2 list1 c3]] ∧ R64 n11) ?_ ?_
  ·exact ⟨0, rfl, hf.keep ⟨rfl, rfl, rfl, trivial⟩, hM.pick [0] rfl, (R64_lit rfl)⟩
  rintro s o18 a w13 ⟨n11, rfl, hf, hM, hv12⟩ h19 hd20
  replace h19 : m_spec_l05First_l1 list1 s5 n11 = some o18 := h19
  unfold m_spec_l05First_l1 at h19
  refine wp_seq ?_
  obtain ⟨x23, h24, h19⟩ := bind_some h19
  refine seq_join (fun a w => ∃ (t21 : Bool), t21 = x23 ∧ Has 21 a [(0, vL A2 (list1) c3), (1, vS (s5)), (5, vI (n11)), (17, .bool (t21))] ∧ Mem C w [] [.dat (sliceRep strRep) list1 [vL A2 list1 c3]]) ?_ ?_
  ·refine region_pl ?_
   iterate 2 refine q_ hf rfl rfl rfl (e_move hf rfl) fun a hf => ?_
   have hl25 := slice_len (hM.dat (k := 0) rfl)
   refine q_ hf rfl rfl rfl (e_lenL hf (x := list1) rfl Tryd.underlying28) fun a hf => ?_
   refine q_ hf rfl rfl rfl (e_lt hf (x := n11) (y := (list1.length : Int)) rfl rfl) fun a hf => ?_
   refine q_ hf rfl rfl rfl (e_move hf rfl) fun a hf => ?_
   rcases cond_some h24 with ⟨hc26, h24⟩ | ⟨hc26, h24⟩
   ·iterate 2 refine gq (wanted_t hf rfl rfl rfl rfl hc26) hf rfl rfl (e_move hf rfl) fun a hf => ?_
    obtain ⟨e27, hz28, h24⟩ := bind_some h24
    obtain ⟨b32, o33, _, hA34, h29, h30, hr31, hM⟩ := hM.elem (hM.dat (k := 0) rfl) (n := 1) rfl hz28
    obtain ⟨rfl, hv35⟩ := hr31
    refine gq (wanted_t hf rfl rfl rfl rfl hc26) hf rfl rfl (e_indexAddr (A := A2) (b := b32) (o := o33) (xs := list1) (i := n11) hf hA34 rfl rfl Tryd.underlying28 Tryd.sizeOf9 h29 h30) fun a hf => ?_
    refine gq (wanted_t hf rfl rfl rfl rfl hc26) hf rfl rfl (e_load1 hf rfl Tryd.isAgg9 (hM.litCell (k := 0) (j := 0) rfl rfl rfl)) fun a hf => ?_
    refine gq (wanted_t hf rfl rfl rfl rfl hc26) hf rfl rfl (e_move hf rfl) fun a hf => ?_
    refine gq (wanted_t hf rfl rfl rfl rfl hc26) hf rfl rfl (e_ltS hf (x := e27) (y := s5) rfl rfl) fun a hf => ?_
    refine q_ hf rfl rfl rfl (e_pick_t hf rfl hc26 rfl) fun a hf => ?_
    refine pl_nil ?_
    obtain rfl := some_inj h24
    refine then_n ?_
    exact ⟨(ltS e27 s5), rfl, hf.keep ⟨rfl, rfl, rfl, rfl, trivial⟩, hM.pick [1] rfl⟩
   iterate 6 refine pl_gs (wanted_f hf rfl rfl rfl rfl hc26) hf rfl rfl fun a hf => ?_
   refine q_ hf rfl rfl rfl (e_pick_f hf rfl hc26 rfl) fun a hf => ?_
   refine pl_nil ?_
   obtain rfl := some_inj h24
   refine then_n ?_
   exact ⟨false, rfl, hf.keep ⟨rfl, rfl, rfl, rfl, trivial⟩, hM.pick [0] rfl⟩
  rintro a w38 ⟨t21, rfl, hf, hM⟩
  try dsimp only at h19
  rcases cond_some h19 with ⟨hc39, h19⟩ | ⟨hc39, h19⟩
  ·refine cond_t hf rfl hc39 ?_
   refine wp_skip ?_
   refine then_n ?_
   refine wp_block ?_
   refine region_pl ?_
   refine q_ hf rfl rfl rfl (e_move hf rfl) fun a hf => ?_
   obtain ⟨z40, hz41, h19⟩ := bind_some h19
   refine q_ hf rfl rfl rfl (e_add hf rfl rfl hz41) fun a hf => ?_
   refine q_ hf rfl rfl rfl (e_assign hf rfl) fun a hf => ?_
   refine pl_nil ?_
   refine blk_n ?_
   obtain rfl := some_inj h19
   refine then_n ⟨_, rfl, ?_⟩
   exact ⟨z40, rfl, hf.keep ⟨rfl, rfl, rfl, trivial⟩, hM.pick [0] rfl, (chk_R hz41)⟩
  refine cond_f hf rfl hc39 ?_
  refine wp_exit ?_
  refine then_x ?_
  obtain rfl := some_inj h19
  obtain rfl := hd20 _ rfl
  try dsimp only at h10
  refine then_x ?_
  refine exit_hit ?_
  obtain rfl := some_inj h10
  refine then_n ?_
  exact ⟨n11, rfl, hf.keep ⟨rfl, trivial⟩, hM.pick [0] rfl, hv12⟩
 rintro a w47 ⟨n7, rfl, hf, hM, hv8⟩
 try dsimp only at h
 refine wp_seq ?_
 refine region_pl ?_
 refine q_ hf rfl rfl rfl (e_move hf rfl) fun a hf => ?_
 refine q_ hf rfl rfl rfl (e_assign hf rfl) fun a hf => ?_
 refine pl_nil ?_
 refine then_n ?_
 refine wp_ret ?_
 obtain rfl := some_inj h
 exact leave1 hf rfl rfl ⟨rfl, hM.fin, hv8⟩

set_option maxRecDepth 100000 in
set_option maxHeartbeats 4000000 in
theorem r_spec_l05Begins (C : Cx) (s1 : Str) (hp2 : s1.length ≤ maxLen) (prefix_3 : Str) (hp4 : prefix_3.length ≤ maxLen) (r : Bool) (h : m_spec_l05Begins s1 prefix_3 = some r) :
    Calls Tryd.prog 56 #[vS (s1), vS (prefix_3)] C.w0 fun e w => e = .returned (.bool (r)) ∧ Mem C w [] [] := by
 have hM := Mem.begin C [] trivial
 refine enter Tryd.func56 rfl Tryd.ntmps56 rfl fun a hf => ?_
 unfold m_spec_l05Begins at h
 refine wp_seq ?_
 refine region_pl ?_
 refine q_ hf rfl rfl rfl (e_assign hf rfl) fun a hf => ?_
 refine pl_nil ?_
 refine then_n ?_
 obtain ⟨x7, h8, h⟩ := bind_some h
 refine seq_join (fun a w => ∃ (t5 : Bool), t5 = x7 ∧ Has 18 a [(4, .bool (t5))] ∧ Mem C w [] []) ?_ ?_
 ·refine region_pl ?_
  refine q_ hf rfl rfl rfl (e_move hf rfl) fun a hf => ?_
  refine q_ hf rfl rfl rfl (e_lenS hf (x := s1) rfl Tryd.underlying9) fun a hf => ?_
  refine q_ hf rfl rfl rfl (e_move hf rfl) fun a hf => ?_
  refine q_ hf rfl rfl rfl (e_lenS hf (x := prefix_3) rfl Tryd.underlying9) fun a hf => ?_
  refine q_ hf rfl rfl rfl (e_ge hf (x := (s1.length : Int)) (y := (prefix_3.length : Int)) rfl rfl) fun a hf => ?_
  refine q_ hf rfl rfl rfl (e_move hf rfl) fun a hf => ?_
  rcases cond_some h8 with ⟨hc9, h8⟩ | ⟨hc9, h8⟩
  ·iterate 2 refine gq (wanted_t hf rfl rfl rfl rfl hc9) hf rfl rfl (e_move hf rfl) fun a hf => ?_
   refine gq (wanted_t hf rfl rfl rfl rfl hc9) hf rfl rfl (e_lenS hf (x := prefix_3) rfl Tryd.underlying9) fun a hf => ?_
   obtain ⟨s10, hz11, h8⟩ := bind_some h8
   refine gq (wanted_t hf rfl rfl rfl rfl hc9) hf rfl rfl (e_subSh hf (x := s1) rfl rfl Tryd.underlying9 hz11) fun a hf => ?_
   refine gq (wanted_t hf rfl rfl rfl rfl hc9) hf rfl rfl (e_move hf rfl) fun a hf => ?_
   refine gq (wanted_t hf rfl rfl rfl rfl hc9) hf rfl rfl (e_eqS hf (x := s10) (y := prefix_3) rfl rfl) fun a hf => ?_
   refine q_ hf rfl rfl rfl (e_pick_t hf rfl hc9 rfl) fun a hf => ?_
   refine q_ hf rfl rfl rfl (e_assign hf rfl) fun a hf => ?_
   refine pl_nil ?_
   obtain rfl := some_inj h8
   refine then_n ?_
   exact ⟨(s10 == prefix_3), rfl, hf.keep ⟨rfl, trivial⟩, hM.pick [] rfl⟩
  iterate 6 refine pl_gs (wanted_f hf rfl rfl rfl rfl hc9) hf rfl rfl fun a hf => ?_
  refine q_ hf rfl rfl rfl (e_pick_f hf rfl hc9 rfl) fun a hf => ?_
  refine q_ hf rfl rfl rfl (e_assign hf rfl) fun a hf => ?_
  refine pl_nil ?_
  obtain rfl := some_inj h8
  refine then_n ?_
  exact ⟨false, rfl, hf.keep ⟨rfl, trivial⟩, hM.pick [] rfl⟩
 rintro a w14 ⟨t5, rfl, hf, hM⟩
 try dsimp only at h
 refine wp_ret ?_
 obtain rfl := some_inj h
 exact leave1 hf rfl rfl ⟨rfl, hM.fin⟩

set_option maxRecDepth 100000 in
set_option maxHeartbeats 4000000 in
theorem r_spec_PrefixRange (C : Cx) (l1 : Lexicon) (A2 : Option Addr) (c3 : Nat) (hp4 : (sliceRep strRep).R C.w0 C.S0 l1.Words [vL A2 l1.Words c3]) (prefix_5 : Str) (hp6 : prefix_5.length ≤ maxLen) (r : (Int × Int × Int)) (h : m_spec_PrefixRange l1 prefix_5 = some r) :
    Calls Tryd.prog 22 #[.agg #[vL A2 (l1.Words) c3], vS (prefix_5)] C.w0 fun e w => e = .returned (.tuple #[vI (r.1), vI (r.2.1), vI (r.2.2)]) ∧ Mem C w [] [] ∧ R64 r.1 ∧ R64 r.2.1 ∧ R64 r.2.2 := by
 have hM := Mem.begin C [.dat (sliceRep strRep) l1.Words [vL A2 l1.Words c3]] ⟨hp4, trivial⟩
 refine enter Tryd.func22 rfl Tryd.ntmps22 rfl fun a hf => ?_
 unfold m_spec_PrefixRange at h
 refine wp_seq ?_
 refine region_pl ?_
 refine pl_l hf rfl rfl rfl (w_box hf hM (cs := [vL A2 (l1.Words) c3]) rfl rfl fun b7 w8 hx9 hM a hf => ?_)
 iterate 3 refine q_ hf rfl rfl rfl (e_assign hf rfl) fun a hf => ?_
 refine pl_nil ?_
 refine then_n ?_
 iterate 2 refine wp_seq ?_
 refine region_pl ?_
 obtain ⟨y11, hz12, h⟩ := bind_some h
 refine pl_l hf rfl rfl rfl (w_call hf Tryd.call54 rfl (r_spec_l05Ok ⟨_, All C _ _, none_, hM.all_lt, none_not, C.G, hM.g_lt, g_none, hM.tabs⟩ l1 _ _ (hM.lendBox (k := 0) rfl (LexiconRep_mk (x := l1) (hM.lendDat (k := 0) rfl))) _ hz12) ?_)
 rintro _ w13 ⟨rfl, hM2⟩
 obtain ⟨hM, hx14⟩ := hM.backA hM2
 clear hM2
 refine ⟨_, rfl, fun a hf => ?_⟩
 refine q_ hf rfl rfl rfl (e_not hf rfl) fun a hf => ?_
 refine pl_nil ?_
 refine then_n ?_
 rcases cond_some h with ⟨hc16, h⟩ | ⟨hc16, h⟩
 ·refine cond_t hf rfl hc16 ?_
  refine wp_seq ?_
  refine region_pl ?_
  iterate 3 refine q_ hf rfl rfl rfl (e_assign hf rfl) fun a hf => ?_
  refine pl_nil ?_
  refine then_n ?_
  refine wp_ret ?_
  refine then_r ?_
  obtain rfl := some_inj h
  have hres17 := leaveV3 (P := Tryd.prog) (w := w13) Tryd.results22 (res_tmp hf rfl) (res_tmp hf rfl) (res_tmp hf rfl)
  have hM := hM.outs (own' := []) 0 rfl
  exact bodyPost_ret hres17 hf.defers ⟨rfl, hM.fin, (R64_lit rfl), (R64_lit rfl), (R64_lit rfl)⟩
 refine cond_f hf rfl hc16 ?_
 refine wp_skip ?_
 refine then_n ?_
 refine wp_seq ?_
 refine region_pl ?_
 refine q_ hf rfl rfl rfl (e_field hf rfl Tryd.underlying40 rfl Tryd.sizeOf28 (o' := 0) rfl) fun a hf => ?_
 refine q_ hf rfl rfl rfl (e_load1 hf rfl Tryd.isAgg28 (hM.boxCell (k := 0) rfl rfl)) fun a hf => ?_
 refine q_ hf rfl rfl rfl (e_move hf rfl) fun a hf => ?_
 obtain ⟨y18, hz19, h⟩ := bind_some h
 refine pl_l hf rfl rfl rfl (w_call hf Tryd.call55 rfl (r_spec_l05First ⟨_, Sh C _ _, none_, hM.sh_lt, none_not, C.G, hM.g_lt, g_none, hM.tabs⟩ l1.Words _ _ (hM.dat (k := 0) rfl) prefix_5 hp6 _ hz19) ?_)
 rintro _ w21 ⟨rfl, hM2, hv20⟩
 obtain ⟨hM, hx22, hup23⟩ := hM.back hM2
 dsimp only [List.cons_append, List.nil_append] at hM hup23
 clear hM2
 refine ⟨_, rfl, fun a hf => ?_⟩
 refine q_ hf rfl rfl rfl (e_assign hf rfl) fun a hf => ?_
 refine pl_nil ?_
 refine then_n ?_
 refine wp_seq ?_
 refine region_pl ?_
 refine q_ hf rfl rfl rfl (e_assign hf rfl) fun a hf => ?_
 refine pl_nil ?_
 refine then_n ?_
 obtain ⟨x26, h27, h⟩ := bind_some h
 refine seq_join (fun a w => ∃ (n24 : Int), n24 = x26 ∧ Has 37 a [(7, vI (y18)), (8, vI (n24))] ∧ Mem C w [.box b7 [vL A2 (l1.Words) c3] 40] [.dat (sliceRep strRep) l1.Words [vL A2 l1.Words c3]] ∧ R64 n24) ?_ ?_
 ·refine wp_seq ?_
  refine region_pl ?_
  refine q_ hf rfl rfl rfl (e_move hf rfl) fun a hf => ?_
  refine q_ hf rfl rfl rfl (e_assign hf rfl) fun a hf => ?_
  refine pl_nil ?_
  refine then_n ?_
  refine wp_block ?_
  obtain ⟨x35, h36, h27⟩ := bind_some h27
  refine wp_loopM h36 (fun s a w => ∃ (n28 : Int) (n30 : Int), (n28, n30) = s ∧ Has 37 a [(1, vS (prefix_5)), (2, vP b7 (0)), (7, vI (y18)), (8, vI (n28)), (9, vI (n30))] ∧ Mem C w [.box b7 [vL A2 (l1.Words) c3] 40] [.dat (sliceRep strRep) l1.Words [vL A2 l1.Words c3]] ∧ R64 n28 ∧ R64 n30) ?_ ?_
  ·exact ⟨0, y18, rfl, hf.keep ⟨rfl, rfl, rfl, rfl, rfl, trivial⟩, hM.pick [0] rfl, (R64_lit rfl), hv20⟩
  rintro s o37 a w32 ⟨n28, n30, rfl, hf, hM, hv29, hv31⟩ h38 hd39
  replace h38 : m_spec_PrefixRange_l1 l1 prefix_5 n28 n30 = some o37 := h38
  unfold m_spec_PrefixRange_l1 at h38
  refine wp_seq ?_
  obtain ⟨x42, h43, h38⟩ := bind_some h38
  refine seq_join (fun a w => ∃ (t40 : Bool), t40 = x42 ∧ Has 37 a [(1, vS (prefix_5)), (2, vP b7 (0)), (7, vI (y18)), (8, vI (n28)), (9, vI (n30)), (30, .bool (t40))] ∧ Mem C w [.box b7 [vL A2 (l1.Words) c3] 40] [.dat (sliceRep strRep) l1.Words [vL A2 l1.Words c3]]) ?_ ?_
  ·refine region_pl ?_
   refine q_ hf rfl rfl rfl (e_move hf rfl) fun a hf => ?_
   refine q_ hf rfl rfl rfl (e_field hf rfl Tryd.underlying40 rfl Tryd.sizeOf28 (o' := 0) rfl) fun a hf => ?_
   refine q_ hf rfl rfl rfl (e_load1 hf rfl Tryd.isAgg28 (hM.boxCell (k := 0) rfl rfl)) fun a hf => ?_
   have hl44 := slice_len (hM.dat (k := 0) rfl)
   refine q_ hf rfl rfl rfl (e_lenL hf (x := l1.Words) rfl Tryd.underlying28) fun a hf => ?_
   refine q_ hf rfl rfl rfl (e_lt hf (x := n30) (y := (l1.Words.length : Int)) rfl rfl) fun a hf => ?_
   refine q_ hf rfl rfl rfl (e_move hf rfl) fun a hf => ?_
   rcases cond_some h43 with ⟨hc45, h43⟩ | ⟨hc45, h43⟩
   ·refine gq (wanted_t hf rfl rfl rfl rfl hc45) hf rfl rfl (e_field hf rfl Tryd.underlying40 rfl Tryd.sizeOf28 (o' := 0) rfl) fun a hf => ?_
    refine gq (wanted_t hf rfl rfl rfl rfl hc45) hf rfl rfl (e_load1 hf rfl Tryd.isAgg28 (hM.boxCell (k := 0) rfl rfl)) fun a hf => ?_
    refine gq (wanted_t hf rfl rfl rfl rfl hc45) hf rfl rfl (e_move hf rfl) fun a hf => ?_
    obtain ⟨e46, hz47, h43⟩ := bind_some h43
    obtain ⟨b51, o52, _, hA53, h48, h49, hr50, hM⟩ := hM.elem (hM.dat (k := 0) rfl) (n := 1) rfl hz47
    obtain ⟨rfl, hv54⟩ := hr50
    refine gq (wanted_t hf rfl rfl rfl rfl hc45) hf rfl rfl (e_indexAddr (A := A2) (b := b51) (o := o52) (xs := l1.Words) (i := n30) hf hA53 rfl rfl Tryd.underlying28 Tryd.sizeOf9 h48 h49) fun a hf => ?_
    refine gq (wanted_t hf rfl rfl rfl rfl hc45) hf rfl rfl (e_load1 hf rfl Tryd.isAgg9 (hM.litCell (k := 0) (j := 0) rfl rfl rfl)) fun a hf => ?_
    refine gq (wanted_t hf rfl rfl rfl rfl hc45) hf rfl rfl (e_move hf rfl) fun a hf => ?_
    obtain ⟨y55, hz56, h43⟩ := bind_some h43
    refine pl_gl (wanted_t hf rfl rfl rfl rfl hc45) hf rfl rfl (w_call hf Tryd.call56 rfl (r_spec_l05Begins ⟨_, Sh C _ _, none_, hM.sh_lt, none_not, C.G, hM.g_lt, g_none, hM.tabs⟩ e46 hv54 prefix_5 hp6 _ hz56) ?_)
    rintro _ w57 ⟨rfl, hM2⟩
    obtain ⟨hM, hx58, hup59⟩ := hM.back hM2
    dsimp only [List.cons_append, List.nil_append] at hM hup59
    clear hM2
    refine ⟨_, rfl, fun a hf => ?_⟩
    refine q_ hf rfl rfl rfl (e_pick_t hf rfl hc45 rfl) fun a hf => ?_
    refine pl_nil ?_
    obtain rfl := some_inj h43
    refine then_n ?_
    exact ⟨y55, rfl, hf.keep ⟨rfl, rfl, rfl, rfl, rfl, rfl, trivial⟩, hM.pick [1] rfl⟩
   iterate 7 refine pl_gs (wanted_f hf rfl rfl rfl rfl hc45) hf rfl rfl fun a hf => ?_
   refine q_ hf rfl rfl rfl (e_pick_f hf rfl hc45 rfl) fun a hf => ?_
   refine pl_nil ?_
   obtain rfl := some_inj h43
   refine then_n ?_
   exact ⟨false, rfl, hf.keep ⟨rfl, rfl, rfl, rfl, rfl, rfl, trivial⟩, hM.pick [0] rfl⟩
  rintro a w62 ⟨t40, rfl, hf, hM⟩
  try dsimp only at h38
  rcases cond_some h38 with ⟨hc63, h38⟩ | ⟨hc63, h38⟩
  ·refine cond_t hf rfl hc63 ?_
   refine wp_skip ?_
   refine then_n ?_
   refine wp_seq ?_
   refine wp_block ?_
   refine region_pl ?_
   refine q_ hf rfl rfl rfl (e_move hf rfl) fun a hf => ?_
   obtain ⟨z64, hz65, h38⟩ := bind_some h38
   refine q_ hf rfl rfl rfl (e_add hf rfl rfl hz65) fun a hf => ?_
   refine q_ hf rfl rfl rfl (e_assign hf rfl) fun a hf => ?_
   refine pl_nil ?_
   refine blk_n ?_
   refine then_n ?_
   refine region_pl ?_
   refine q_ hf rfl rfl rfl (e_move hf rfl) fun a hf => ?_
   obtain ⟨z66, hz67, h38⟩ := bind_some h38
   refine q_ hf rfl rfl rfl (e_add hf rfl rfl hz67) fun a hf => ?_
   refine q_ hf rfl rfl rfl (e_assign hf rfl) fun a hf => ?_
   refine pl_nil ?_
   obtain rfl := some_inj h38
   refine then_n ⟨_, rfl, ?_⟩
   exact ⟨z64, z66, rfl, hf.keep ⟨rfl, rfl, rfl, rfl, rfl, trivial⟩, hM.pick [0] rfl, (chk_R hz65), (chk_R hz67)⟩
  refine cond_f hf rfl hc63 ?_
  refine wp_exit ?_
  refine then_x ?_
  obtain rfl := some_inj h38
  obtain rfl := hd39 _ rfl
  try dsimp only at h27
  refine then_x ?_
  refine exit_hit ?_
  obtain rfl := some_inj h27
  refine then_n ?_
  exact ⟨n28, rfl, hf.keep ⟨rfl, rfl, trivial⟩, hM.pick [0] rfl, hv29⟩
 rintro a w73 ⟨n24, rfl, hf, hM, hv25⟩
 try dsimp only at h
 refine wp_seq ?_
 refine region_pl ?_
 iterate 2 refine q_ hf rfl rfl rfl (e_move hf rfl) fun a hf => ?_
 iterate 3 refine q_ hf rfl rfl rfl (e_assign hf rfl) fun a hf => ?_
 refine pl_nil ?_
 refine then_n ?_
 refine wp_ret ?_
 obtain rfl := some_inj h
 have hres74 := leaveV3 (P := Tryd.prog) (w := w73) Tryd.results22 (res_tmp hf rfl) (res_tmp hf rfl) (res_tmp hf rfl)
 have hM := hM.outs (own' := []) 0 rfl
 exact bodyPost_ret hres74 hf.defers ⟨rfl, hM.fin, hv20, hv25, (R64_lit rfl)⟩

set_option maxRecDepth 100000 in
set_option maxHeartbeats 4000000 in
theorem r_laws_FnHashing (C : Cx) (code1 : Str) (A2 : Option Addr) (c3 : Nat) (hp4 : (sliceRep byteRep).R C.w0 C.S0 code1 [vL A2 code1 c3]) (more5 : Str) (A6 : Option Addr) (c7 : Nat) (hp8 : (sliceRep byteRep).R C.w0 C.S0 more5 [vL A6 more5 c7]) (r : Bool) (h : m_laws_FnHashing code1 more5 = some r) :
    Calls Tryd.prog 3 #[vL A2 (code1) c3, vL A6 (more5) c7] C.w0 fun e w => e = .returned (.bool (r)) ∧ Mem C w [] [] := by
 have hM := Mem.begin C [.dat (sliceRep byteRep) more5 [vL A6 more5 c7], .dat (sliceRep byteRep) code1 [vL A2 code1 c3]] ⟨hp8, hp4, trivial⟩
 refine enter Tryd.func3 rfl Tryd.ntmps3 rfl fun a hf => ?_
 unfold m_laws_FnHashing at h
 refine wp_seq ?_
 refine region_pl ?_
 refine q_ hf rfl rfl rfl (e_assign hf rfl) fun a hf => ?_
 refine pl_nil ?_
 refine then_n ?_
 iterate 2 refine wp_seq ?_
 refine region_pl ?_
 iterate 2 refine q_ hf rfl rfl rfl (e_move hf rfl) fun a hf => ?_
 obtain ⟨y9, hz10, h⟩ := bind_some h
 refine pl_l hf rfl rfl rfl (w_call hf Tryd.call12 rfl (r_laws_a2Long ⟨_, Sh C _ _, none_, hM.sh_lt, none_not, C.G, hM.g_lt, g_none, hM.tabs⟩ code1 _ _ (hM.dat (k := 1) rfl) more5 _ _ (hM.dat (k := 0) rfl) _ hz10) ?_)
 rintro _ w11 ⟨rfl, hM2⟩
 obtain ⟨hM, hx12, hup13⟩ := hM.back hM2
 dsimp only [List.cons_append, List.nil_append] at hM hup13
 clear hM2
 refine ⟨_, rfl, fun a hf => ?_⟩
 refine pl_nil ?_
 refine then_n ?_
 rcases cond_some h with ⟨hc14, h⟩ | ⟨hc14, h⟩
 ·refine cond_t hf rfl hc14 ?_
  refine wp_seq ?_
  refine region_pl ?_
  refine q_ hf rfl rfl rfl (e_assign hf rfl) fun a hf => ?_
  refine pl_nil ?_
  refine then_n ?_
  refine wp_ret ?_
  refine then_r ?_
  obtain rfl := some_inj h
  exact leave1 hf rfl rfl ⟨rfl, hM.fin⟩
 refine cond_f hf rfl hc14 ?_
 refine wp_skip ?_
 refine then_n ?_
 refine wp_seq ?_
 refine region_pl ?_
 refine q_ hf rfl rfl rfl (e_move hf rfl) fun a hf => ?_
 obtain ⟨y15, hz16, h⟩ := bind_some h
 refine pl_l hf rfl rfl rfl (w_call hf Tryd.call13 rfl (r_spec_A2Dawg ⟨_, Sh C _ _, none_, hM.sh_lt, none_not, C.G, hM.g_lt, g_none, hM.tabs⟩ code1 _ _ (hM.dat (k := 1) rfl) _ hz16) ?_)
 rintro _ w20 ⟨A17, c18, rfl, hM2, hv19⟩
 obtain ⟨hM, hx21, hup22⟩ := hM.back hM2
 dsimp only [List.cons_append, List.nil_append] at hM hup22
 clear hM2
 have hM := hM.add (y := .dat (sliceRep NodeRep) y15.Nodes [vL A17 y15.Nodes c18]) (hup22 hv19)
 refine ⟨_, rfl, fun a hf => ?_⟩
 refine pl_l hf rfl rfl rfl (w_alloc hM (cs := [vL none (([] : (List Node))) 0]) Tryd.zeroValue26 rfl fun b23 w24 hx25 hM a hf => ?_)
 refine pl_0 hf rfl rfl (w_store hf hM (us := [vL A17 (y15.Nodes) c18]) (cs' := [vL A17 (y15.Nodes) c18]) rfl rfl (k := 0) rfl rfl Tryd.sizeOf26 rfl rfl rfl fun w27 hM => ?_)
 dsimp only [List.set] at hM
 refine pl_nil ?_
 refine then_n ?_
 refine wp_seq ?_
 refine region_pl ?_
 refine q_ hf rfl rfl rfl (e_loadA hf (us := [vL A17 (y15.Nodes) c18]) rfl ⟨Tryd.isAgg26, Tryd.sizeOf26⟩ rfl (hM.boxSub (k := 0) (us := [vL A17 (y15.Nodes) c18]) (o := 0) rfl rfl)) fun a hf => ?_
 obtain ⟨y30, hz31, h⟩ := bind_some h
 refine pl_l hf rfl rfl rfl (w_call hf Tryd.call14 rfl (r_spec_WordsOf ⟨_, Sh C _ _, none_, hM.sh_lt, none_not, C.G, hM.g_lt, g_none, hM.tabs⟩ y15 _ _ (hM.dat (k := 0) rfl) _ hz31) ?_)
 rintro _ w35 ⟨A32, c33, rfl, hM2, hv34⟩
 obtain ⟨hM, hx36, hup37⟩ := hM.back hM2
 dsimp only [List.cons_append, List.nil_append] at hM hup37
 clear hM2
 refine ⟨_, rfl, fun a hf => ?_⟩
 refine q_ hf rfl rfl rfl (e_move hf rfl) fun a hf => ?_
 iterate 2 refine q_ hf rfl rfl rfl (e_extract hf rfl rfl) fun a hf => ?_
 iterate 2 refine q_ hf rfl rfl rfl (e_assign hf rfl) fun a hf => ?_
 refine pl_nil ?_
 refine then_n ?_
 refine wp_seq ?_
 refine region_pl ?_
 refine q_ hf rfl rfl rfl (e_loadA hf (us := [vL A17 (y15.Nodes) c18]) rfl ⟨Tryd.isAgg26, Tryd.sizeOf26⟩ rfl (hM.boxSub (k := 1) (us := [vL A17 (y15.Nodes) c18]) (o := 0) rfl rfl)) fun a hf => ?_
 obtain ⟨y38, hz39, h⟩ := bind_some h
 refine pl_l hf rfl rfl rfl (w_call hf Tryd.call15 rfl (r_impl_CountsOf ⟨_, Sh C _ _, none_, hM.sh_lt, none_not, C.G, hM.g_lt, g_none, hM.tabs⟩ y15 _ _ (hM.dat (k := 0) rfl) _ hz39) ?_)
 rintro _ w43 ⟨A40, c41, rfl, hM2, hv42⟩
 obtain ⟨hM, hx44, hup45⟩ := hM.back hM2
 dsimp only [List.cons_append, List.nil_append] at hM hup45
 clear hM2
 refine ⟨_, rfl, fun a hf => ?_⟩
 refine q_ hf rfl rfl rfl (e_move hf rfl) fun a hf => ?_
 iterate 2 refine q_ hf rfl rfl rfl (e_extract hf rfl rfl) fun a hf => ?_
 iterate 2 refine q_ hf rfl rfl rfl (e_assign hf rfl) fun a hf => ?_
 refine pl_nil ?_
 refine then_n ?_
 refine wp_seq ?_
 obtain ⟨x48, h49, h⟩ := bind_some h
 refine seq_join (fun a w => ∃ (t46 : Bool), t46 = x48 ∧ Has 174 a [(1, vL A6 (more5) c7), (5, vP b23 (0)), (6, vL A32 (y30.1) c33), (58, .bool (t46))] ∧ Mem C w [.row intRep A40 c41 2 y38.1 true, .row strRep A32 c33 9 y30.1 true, .box b23 [vL A17 (y15.Nodes) c18] 26] [.dat (sliceRep NodeRep) y15.Nodes [vL A17 y15.Nodes c18], .dat (sliceRep byteRep) more5 [vL A6 more5 c7], .dat (sliceRep byteRep) code1 [vL A2 code1 c3]]) ?_ ?_
 ·refine region_pl ?_
  refine q_ hf rfl rfl rfl (e_move hf rfl) fun a hf => ?_
  refine q_ hf rfl rfl rfl (e_ne hf (x := y38.2) (y := 0) rfl rfl) fun a hf => ?_
  refine q_ hf rfl rfl rfl (e_move hf rfl) fun a hf => ?_
  rcases cond_some h49 with ⟨hc50, h49⟩ | ⟨hc50, h49⟩
  ·iterate 6 refine pl_gs (wanted_f hf rfl rfl rfl rfl hc50) hf rfl rfl fun a hf => ?_
   refine q_ hf rfl rfl rfl (e_pick_t hf rfl hc50 rfl) fun a hf => ?_
   refine q_ hf rfl rfl rfl (e_move hf rfl) fun a hf => ?_
   iterate 6 refine pl_gs (wanted_f hf rfl rfl rfl rfl rfl) hf rfl rfl fun a hf => ?_
   refine q_ hf rfl rfl rfl (e_pick_t hf rfl rfl rfl) fun a hf => ?_
   refine pl_nil ?_
   obtain rfl := some_inj h49
   refine then_n ?_
   exact ⟨true, rfl, hf.keep ⟨rfl, rfl, rfl, rfl, trivial⟩, hM.pick [0, 1, 2] rfl⟩
  refine gq (wanted_t hf rfl rfl rfl rfl hc50) hf rfl rfl (e_move hf rfl) fun a hf => ?_
  have hl52 := row_len (hM.ownAt (k := 0) rfl)
  refine gq (wanted_t hf rfl rfl rfl rfl hc50) hf rfl rfl (e_lenL hf (x := y38.1) rfl Tryd.underlying31) fun a hf => ?_
  refine gq (wanted_t hf rfl rfl rfl rfl hc50) hf rfl rfl (e_field hf rfl Tryd.underlying26 rfl Tryd.sizeOf24 (o' := 0) rfl) fun a hf => ?_
  refine gq (wanted_t hf rfl rfl rfl rfl hc50) hf rfl rfl (e_load1 hf rfl Tryd.isAgg24 (hM.boxCell (k := 2) rfl rfl)) fun a hf => ?_
  have hl53 := slice_len (hM.dat (k := 0) rfl)
  refine gq (wanted_t hf rfl rfl rfl rfl hc50) hf rfl rfl (e_lenL hf (x := y15.Nodes) rfl Tryd.underlying24) fun a hf => ?_
  refine gq (wanted_t hf rfl rfl rfl rfl hc50) hf rfl rfl (e_ne hf (x := (y38.1.length : Int)) (y := (y15.Nodes.length : Int)) rfl rfl) fun a hf => ?_
  refine q_ hf rfl rfl rfl (e_pick_f hf rfl hc50 rfl) fun a hf => ?_
  refine q_ hf rfl rfl rfl (e_move hf rfl) fun a hf => ?_
  rcases cond_some h49 with ⟨hc54, h49⟩ | ⟨hc54, h49⟩
  ·iterate 6 refine pl_gs (wanted_f hf rfl rfl rfl rfl hc54) hf rfl rfl fun a hf => ?_
   refine q_ hf rfl rfl rfl (e_pick_t hf rfl hc54 rfl) fun a hf => ?_
   refine pl_nil ?_
   obtain rfl := some_inj h49
   refine then_n ?_
   exact ⟨true, rfl, hf.keep ⟨rfl, rfl, rfl, rfl, trivial⟩, hM.pick [0, 1, 2] rfl⟩
  refine gq (wanted_t hf rfl rfl rfl rfl hc54) hf rfl rfl (e_move hf rfl) fun a hf => ?_
  obtain ⟨e56, hz57, h49⟩ := bind_some h49
  obtain ⟨b62, _, hA63, h58, h59, hr60, hcell61⟩ := hM.rowElemN (k := 0) rfl (n := 1) rfl hz57
  obtain ⟨rfl, hv64⟩ := hr60
  refine gq (wanted_t hf rfl rfl rfl rfl hc54) hf rfl rfl (e_indexAddr (A := A40) (b := b62) (o := 0) (xs := y38.1) (i := 0) hf hA63 rfl rfl Tryd.underlying31 Tryd.sizeOf2 h58 h59) fun a hf => ?_
  refine gq (wanted_t hf rfl rfl rfl rfl hc54) hf rfl rfl (e_load1 hf rfl Tryd.isAgg2 (hcell61 0 _ rfl)) fun a hf => ?_
  refine gq (wanted_t hf rfl rfl rfl rfl hc54) hf rfl rfl (e_move hf rfl) fun a hf => ?_
  have hl65 := row_len (hM.ownAt (k := 1) rfl)
  refine gq (wanted_t hf rfl rfl rfl rfl hc54) hf rfl rfl (e_lenL hf (x := y30.1) rfl Tryd.underlying28) fun a hf => ?_
  refine gq (wanted_t hf rfl rfl rfl rfl hc54) hf rfl rfl (e_ne hf (x := e56) (y := (y30.1.length : Int)) rfl rfl) fun a hf => ?_
  refine q_ hf rfl rfl rfl (e_pick_f hf rfl hc54 rfl) fun a hf => ?_
  refine pl_nil ?_
  obtain rfl := some_inj h49
  refine then_n ?_
  exact ⟨(e56 != (y30.1.length : Int)), rfl, hf.keep ⟨rfl, rfl, rfl, rfl, trivial⟩, hM.pick [0, 1, 2] rfl⟩
 rintro a w67 ⟨t46, rfl, hf, hM⟩
 try dsimp only at h
 rcases cond_some h with ⟨hc68, h⟩ | ⟨hc68, h⟩
 ·refine cond_t hf rfl hc68 ?_
  refine wp_seq ?_
  refine region_pl ?_
  refine q_ hf rfl rfl rfl (e_assign hf rfl) fun a hf => ?_
  refine pl_nil ?_
  refine then_n ?_
  refine wp_ret ?_
  refine then_r ?_
  obtain rfl := some_inj h
  have hM := hM.outs (own' := []) 0 rfl
  exact leave1 hf rfl rfl ⟨rfl, hM.fin⟩
 refine cond_f hf rfl hc68 ?_
 refine wp_skip ?_
 refine then_n ?_
 obtain ⟨x69, h70, h⟩ := bind_some h
 refine seq_join (fun a w => (.inl ()) = x69 ∧ Has 174 a [(1, vL A6 (more5) c7), (5, vP b23 (0)), (6, vL A32 (y30.1) c33)] ∧ Mem C w [.row intRep A40 c41 2 y38.1 true, .row strRep A32 c33 9 y30.1 true, .box b23 [vL A17 (y15.Nodes) c18] 26] [.dat (sliceRep NodeRep) y15.Nodes [vL A17 y15.Nodes c18], .dat (sliceRep byteRep) more5 [vL A6 more5 c7], .dat (sliceRep byteRep) code1 [vL A2 code1 c3]]) ?_ ?_
 ·refine wp_seq ?_
  refine region_pl ?_
  refine q_ hf rfl rfl rfl (e_assign hf rfl) fun a hf => ?_
  refine pl_nil ?_
  refine then_n ?_
  refine wp_block ?_
  obtain ⟨x74, h75, h70⟩ := bind_some h70
  refine wp_loopM h75 (fun s a w => ∃ (two71 : Int), two71 = s ∧ Has 174 a [(1, vL A6 (more5) c7), (5, vP b23 (0)), (6, vL A32 (y30.1) c33), (10, vI (two71))] ∧ Mem C w [.row intRep A40 c41 2 y38.1 true, .row strRep A32 c33 9 y30.1 true, .box b23 [vL A17 (y15.Nodes) c18] 26] [.dat (sliceRep NodeRep) y15.Nodes [vL A17 y15.Nodes c18], .dat (sliceRep byteRep) more5 [vL A6 more5 c7], .dat (sliceRep byteRep) code1 [vL A2 code1 c3]] ∧ R64 two71) ?_ ?_
  ·exact ⟨0, rfl, hf.keep ⟨rfl, rfl, rfl, rfl, trivial⟩, hM.pick [0, 1, 2] rfl, (R64_lit rfl)⟩
  rintro s o76 a w73 ⟨two71, rfl, hf, hM, hv72⟩ h77 hd78
  replace h77 : m_laws_FnHashing_l1 y30 y15 two71 = some o76 := h77
  unfold m_laws_FnHashing_l1 at h77
  iterate 2 refine wp_seq ?_
  refine region_pl ?_
  iterate 2 refine q_ hf rfl rfl rfl (e_move hf rfl) fun a hf => ?_
  have hl79 := row_len (hM.ownAt (k := 1) rfl)
  refine q_ hf rfl rfl rfl (e_lenL hf (x := y30.1) rfl Tryd.underlying28) fun a hf => ?_
  refine q_ hf rfl rfl rfl (e_lt hf (x := two71) (y := (y30.1.length : Int)) rfl rfl) fun a hf => ?_
  refine pl_nil ?_
  refine then_n ?_
  rcases cond_some h77 with ⟨hc80, h77⟩ | ⟨hc80, h77⟩
  ·refine cond_t hf rfl hc80 ?_
   refine wp_skip ?_
   refine then_n ?_
   refine wp_seq ?_
   refine wp_block ?_
   refine wp_seq ?_
   obtain ⟨w81, hw⟩ : ∃ x, x = w73.drew := ⟨_, rfl⟩
   refine region_pi (.q 0 (.q 1 (.q 2 (.q 3 (.q 4 (.l 5 (.q 6 (.q 7 (.q 8 (.q 9 (.q 10 (.nil)))))))))))) (Ext w81) rfl (by kernel_rfl) ?_
   have hM := hM.drew
   rw [← hw] at hM ⊢
   clear hw
   refine pi_q hf rfl rfl rfl rfl (Ext.refl _) (e_loadA hf (us := [vL A17 (y15.Nodes) c18]) rfl ⟨Tryd.isAgg26, Tryd.sizeOf26⟩ rfl (hM.boxSub (k := 2) (us := [vL A17 (y15.Nodes) c18]) (o := 0) rfl rfl)) fun a hf => ?_
   iterate 2 refine pi_q hf rfl rfl rfl rfl (Ext.refl _) (e_move hf rfl) fun a hf => ?_
   obtain ⟨e82, hz83, h77⟩ := bind_some h77
   obtain ⟨b88, _, hA89, h84, h85, hr86, hcell87⟩ := hM.rowElemN (k := 1) rfl (n := 1) rfl hz83
   obtain ⟨rfl, hv90⟩ := hr86
   refine pi_q hf rfl rfl rfl rfl (Ext.refl _) (e_indexAddr (A := A32) (b := b88) (o := 0) (xs := y30.1) (i := two71) hf hA89 rfl rfl Tryd.underlying28 Tryd.sizeOf9 h84 h85) fun a hf => ?_
   refine pi_q hf rfl rfl rfl rfl (Ext.refl _) (e_load1 hf rfl Tryd.isAgg9 (hcell87 0 _ rfl)) fun a hf => ?_
   refine pi_one ?_
   obtain ⟨y91, hz92, h77⟩ := bind_some h77
   refine pi_l hf rfl rfl rfl rfl (w_call hf Tryd.call16 rfl (r_impl_NumberOf ⟨_, Sh C _ _, none_, hM.sh_lt, none_not, C.G, hM.g_lt, g_none, hM.tabs⟩ y15 _ _ (hM.dat (k := 0) rfl) e82 hv90 _ hz92) ?_)
   rintro _ w95 ⟨rfl, hM2, hv93, hv94⟩
   obtain ⟨hM, hx96, hup97⟩ := hM.back hM2
   dsimp only [List.cons_append, List.nil_append] at hM hup97
   clear hM2
   refine ⟨_, rfl, Ext w95, fun _ h => Ext.trans hx96 h, Ext.refl _, fun a hf => ?_⟩
   refine pi_q hf rfl rfl rfl rfl (Ext.refl _) (e_move hf rfl) fun a hf => ?_
   iterate 2 refine pi_q hf rfl rfl rfl rfl (Ext.refl _) (e_extract hf rfl rfl) fun a hf => ?_
   iterate 2 refine pi_q hf rfl rfl rfl rfl (Ext.refl _) (e_assign hf rfl) fun a hf => ?_
   refine pi_nil ?_
   refine then_n ?_
   refine wp_seq ?_
   refine region_pl ?_
   refine q_ hf rfl rfl rfl (e_loadA hf (us := [vL A17 (y15.Nodes) c18]) rfl ⟨Tryd.isAgg26, Tryd.sizeOf26⟩ rfl (hM.boxSub (k := 2) (us := [vL A17 (y15.Nodes) c18]) (o := 0) rfl rfl)) fun a hf => ?_
   refine q_ hf rfl rfl rfl (e_move hf rfl) fun a hf => ?_
   obtain ⟨y98, hz99, h77⟩ := bind_some h77
   refine pl_l hf rfl rfl rfl (w_call hf Tryd.call17 rfl (r_impl_WordAt ⟨_, Sh C _ _, none_, hM.sh_lt, none_not, C.G, hM.g_lt, g_none, hM.tabs⟩ y15 _ _ (hM.dat (k := 0) rfl) two71 hv72 _ hz99) ?_)
   rintro _ w102 ⟨rfl, hM2, hv100, hv101⟩
   obtain ⟨hM, hx103, hup104⟩ := hM.back hM2
   dsimp only [List.cons_append, List.nil_append] at hM hup104
   clear hM2
   refine ⟨_, rfl, fun a hf => ?_⟩
   refine q_ hf rfl rfl rfl (e_move hf rfl) fun a hf => ?_
   iterate 2 refine q_ hf rfl rfl rfl (e_extract hf rfl rfl) fun a hf => ?_
   iterate 2 refine q_ hf rfl rfl rfl (e_assign hf rfl) fun a hf => ?_
   refine pl_nil ?_
   refine then_n ?_
   refine wp_seq ?_
   obtain ⟨w105, hw⟩ : ∃ x, x = w102.drew := ⟨_, rfl⟩
   refine region_pi (.q 0 (.q 1 (.q 2 (.q 3 (.q 4 (.l 5 (.q 6 (.q 7 (.q 8 (.q 9 (.q 10 (.nil)))))))))))) (Ext w105) rfl (by kernel_rfl) ?_
   have hM := hM.drew
   rw [← hw] at hM ⊢
   clear hw
   refine pi_q hf rfl rfl rfl rfl (Ext.refl _) (e_loadA hf (us := [vL A17 (y15.Nodes) c18]) rfl ⟨Tryd.isAgg26, Tryd.sizeOf26⟩ rfl (hM.boxSub (k := 2) (us := [vL A17 (y15.Nodes) c18]) (o := 0) rfl rfl)) fun a hf => ?_
   iterate 2 refine pi_q hf rfl rfl rfl rfl (Ext.refl _) (e_move hf rfl) fun a hf => ?_
   obtain ⟨e106, hz107, h77⟩ := bind_some h77
   obtain ⟨b112, _, hA113, h108, h109, hr110, hcell111⟩ := hM.rowElemN (k := 1) rfl (n := 1) rfl hz107
   obtain ⟨rfl, hv114⟩ := hr110
   refine pi_q hf rfl rfl rfl rfl (Ext.refl _) (e_indexAddr (A := A32) (b := b112) (o := 0) (xs := y30.1) (i := two71) hf hA113 rfl rfl Tryd.underlying28 Tryd.sizeOf9 h108 h109) fun a hf => ?_
   refine pi_q hf rfl rfl rfl rfl (Ext.refl _) (e_load1 hf rfl Tryd.isAgg9 (hcell111 0 _ rfl)) fun a hf => ?_
   refine pi_one ?_
   obtain ⟨y115, hz116, h77⟩ := bind_some h77
   refine pi_l hf rfl rfl rfl rfl (w_call hf Tryd.call18 rfl (r_impl_NextWord ⟨_, Sh C _ _, none_, hM.sh_lt, none_not, C.G, hM.g_lt, g_none, hM.tabs⟩ y15 _ _ (hM.dat (k := 0) rfl) e106 hv114 _ hz116) ?_)
   rintro _ w119 ⟨rfl, hM2, hv117, hv118⟩
   obtain ⟨hM, hx120, hup121⟩ := hM.back hM2
   dsimp only [List.cons_append, List.nil_append] at hM hup121
   clear hM2
   refine ⟨_, rfl, Ext w119, fun _ h => Ext.trans hx120 h, Ext.refl _, fun a hf => ?_⟩
   refine pi_q hf rfl rfl rfl rfl (Ext.refl _) (e_move hf rfl) fun a hf => ?_
   iterate 2 refine pi_q hf rfl rfl rfl rfl (Ext.refl _) (e_extract hf rfl rfl) fun a hf => ?_
   iterate 2 refine pi_q hf rfl rfl rfl rfl (Ext.refl _) (e_assign hf rfl) fun a hf => ?_
   refine pi_nil ?_
   refine then_n ?_
   refine wp_seq ?_
   obtain ⟨x124, h125, h77⟩ := bind_some h77
   refine seq_join (fun a w => ∃ (t122 : Bool), t122 = x124 ∧ Has 174 a [(1, vL A6 (more5) c7), (5, vP b23 (0)), (6, vL A32 (y30.1) c33), (10, vI (two71)), (15, vS (y115.1)), (16, vI (y115.2)), (107, .bool (t122))] ∧ Mem C w [.row intRep A40 c41 2 y38.1 true, .row strRep A32 c33 9 y30.1 true, .box b23 [vL A17 (y15.Nodes) c18] 26] [.dat (sliceRep NodeRep) y15.Nodes [vL A17 y15.Nodes c18], .dat (sliceRep byteRep) more5 [vL A6 more5 c7], .dat (sliceRep byteRep) code1 [vL A2 code1 c3]]) ?_ ?_
   ·refine region_pl ?_
    refine q_ hf rfl rfl rfl (e_move hf rfl) fun a hf => ?_
    refine q_ hf rfl rfl rfl (e_ne hf (x := y91.2) (y := 0) rfl rfl) fun a hf => ?_
    refine q_ hf rfl rfl rfl (e_move hf rfl) fun a hf => ?_
    rcases cond_some h125 with ⟨hc126, h125⟩ | ⟨hc126, h125⟩
    ·iterate 2 refine pl_gs (wanted_f hf rfl rfl rfl rfl hc126) hf rfl rfl fun a hf => ?_
     refine q_ hf rfl rfl rfl (e_pick_t hf rfl hc126 rfl) fun a hf => ?_
     refine q_ hf rfl rfl rfl (e_move hf rfl) fun a hf => ?_
     iterate 3 refine pl_gs (wanted_f hf rfl rfl rfl rfl rfl) hf rfl rfl fun a hf => ?_
     refine q_ hf rfl rfl rfl (e_pick_t hf rfl rfl rfl) fun a hf => ?_
     refine q_ hf rfl rfl rfl (e_move hf rfl) fun a hf => ?_
     iterate 6 refine pl_gs (wanted_f hf rfl rfl rfl rfl rfl) hf rfl rfl fun a hf => ?_
     refine q_ hf rfl rfl rfl (e_pick_t hf rfl rfl rfl) fun a hf => ?_
     refine pl_nil ?_
     obtain rfl := some_inj h125
     refine then_n ?_
     exact ⟨true, rfl, hf.keep ⟨rfl, rfl, rfl, rfl, rfl, rfl, rfl, trivial⟩, hM.pick [0, 1, 2] rfl⟩
    refine gq (wanted_t hf rfl rfl rfl rfl hc126) hf rfl rfl (e_move hf rfl) fun a hf => ?_
    refine gq (wanted_t hf rfl rfl rfl rfl hc126) hf rfl rfl (e_ne hf (x := y98.2) (y := 0) rfl rfl) fun a hf => ?_
    refine q_ hf rfl rfl rfl (e_pick_f hf rfl hc126 rfl) fun a hf => ?_
    refine q_ hf rfl rfl rfl (e_move hf rfl) fun a hf => ?_
    rcases cond_some h125 with ⟨hc128, h125⟩ | ⟨hc128, h125⟩
    ·iterate 3 refine pl_gs (wanted_f hf rfl rfl rfl rfl hc128) hf rfl rfl fun a hf => ?_
     refine q_ hf rfl rfl rfl (e_pick_t hf rfl hc128 rfl) fun a hf => ?_
     refine q_ hf rfl rfl rfl (e_move hf rfl) fun a hf => ?_
     iterate 6 refine pl_gs (wanted_f hf rfl rfl rfl rfl rfl) hf rfl rfl fun a hf => ?_
     refine q_ hf rfl rfl rfl (e_pick_t hf rfl rfl rfl) fun a hf => ?_
     refine pl_nil ?_
     obtain rfl := some_inj h125
     refine then_n ?_
     exact ⟨true, rfl, hf.keep ⟨rfl, rfl, rfl, rfl, rfl, rfl, rfl, trivial⟩, hM.pick [0, 1, 2] rfl⟩
    iterate 2 refine gq (wanted_t hf rfl rfl rfl rfl hc128) hf rfl rfl (e_move hf rfl) fun a hf => ?_
    refine gq (wanted_t hf rfl rfl rfl rfl hc128) hf rfl rfl (e_ne hf (x := y91.1) (y := two71) rfl rfl) fun a hf => ?_
    refine q_ hf rfl rfl rfl (e_pick_f hf rfl hc128 rfl) fun a hf => ?_
    refine q_ hf rfl rfl rfl (e_move hf rfl) fun a hf => ?_
    rcases cond_some h125 with ⟨hc130, h125⟩ | ⟨hc130, h125⟩
    ·iterate 6 refine pl_gs (wanted_f hf rfl rfl rfl rfl hc130) hf rfl rfl fun a hf => ?_
     refine q_ hf rfl rfl rfl (e_pick_t hf rfl hc130 rfl) fun a hf => ?_
     refine pl_nil ?_
     obtain rfl := some_inj h125
     refine then_n ?_
     exact ⟨true, rfl, hf.keep ⟨rfl, rfl, rfl, rfl, rfl, rfl, rfl, trivial⟩, hM.pick [0, 1, 2] rfl⟩
    iterate 3 refine gq (wanted_t hf rfl rfl rfl rfl hc130) hf rfl rfl (e_move hf rfl) fun a hf => ?_
    obtain ⟨e132, hz133, h125⟩ := bind_some h125
    obtain ⟨b138, _, hA139, h134, h135, hr136, hcell137⟩ := hM.rowElemN (k := 1) rfl (n := 1) rfl hz133
    obtain ⟨rfl, hv140⟩ := hr136
    refine gq (wanted_t hf rfl rfl rfl rfl hc130) hf rfl rfl (e_indexAddr (A := A32) (b := b138) (o := 0) (xs := y30.1) (i := two71) hf hA139 rfl rfl Tryd.underlying28 Tryd.sizeOf9 h134 h135) fun a hf => ?_
    refine gq (wanted_t hf rfl rfl rfl rfl hc130) hf rfl rfl (e_load1 hf rfl Tryd.isAgg9 (hcell137 0 _ rfl)) fun a hf => ?_
    refine gq (wanted_t hf rfl rfl rfl rfl hc130) hf rfl rfl (e_neS hf (x := y98.1) (y := e132) rfl rfl) fun a hf => ?_
    refine q_ hf rfl rfl rfl (e_pick_f hf rfl hc130 rfl) fun a hf => ?_
    refine pl_nil ?_
    obtain rfl := some_inj h125
    refine then_n ?_
    exact ⟨(y98.1 != e132), rfl, hf.keep ⟨rfl, rfl, rfl, rfl, rfl, rfl, rfl, trivial⟩, hM.pick [0, 1, 2] rfl⟩
   rintro a w142 ⟨t122, rfl, hf, hM⟩
   try dsimp only at h77
   rcases cond_some h77 with ⟨hc143, h77⟩ | ⟨hc143, h77⟩
   ·refine cond_t hf rfl hc143 ?_
    refine wp_seq ?_
    refine region_pl ?_
    refine q_ hf rfl rfl rfl (e_assign hf rfl) fun a hf => ?_
    refine pl_nil ?_
    refine then_n ?_
    refine wp_ret ?_
    refine then_r ?_
    refine blk_r ?_
    refine then_r ?_
    obtain rfl := some_inj h77
    obtain rfl := hd78 _ rfl
    try dsimp only at h70
    refine then_r ?_
    refine blk_r ?_
    obtain rfl := some_inj h70
    try dsimp only at h
    refine then_r ?_
    obtain rfl := some_inj h
    have hM := hM.outs (own' := []) 0 rfl
    exact leave1 hf rfl rfl ⟨rfl, hM.fin⟩
   refine cond_f hf rfl hc143 ?_
   refine wp_skip ?_
   refine then_n ?_
   obtain ⟨x146, h147, h77⟩ := bind_some h77
   refine seq_join (fun a w => ∃ (t144 : Bool), t144 = x146 ∧ Has 174 a [(1, vL A6 (more5) c7), (5, vP b23 (0)), (6, vL A32 (y30.1) c33), (10, vI (two71)), (136, .bool (t144))] ∧ Mem C w [.row intRep A40 c41 2 y38.1 true, .row strRep A32 c33 9 y30.1 true, .box b23 [vL A17 (y15.Nodes) c18] 26] [.dat (sliceRep NodeRep) y15.Nodes [vL A17 y15.Nodes c18], .dat (sliceRep byteRep) more5 [vL A6 more5 c7], .dat (sliceRep byteRep) code1 [vL A2 code1 c3]]) ?_ ?_
   ·refine region_pl ?_
    refine q_ hf rfl rfl rfl (e_move hf rfl) fun a hf => ?_
    obtain ⟨z148, hz149, h147⟩ := bind_some h147
    refine q_ hf rfl rfl rfl (e_add hf rfl rfl hz149) fun a hf => ?_
    refine q_ hf rfl rfl rfl (e_move hf rfl) fun a hf => ?_
    have hl150 := row_len (hM.ownAt (k := 1) rfl)
    refine q_ hf rfl rfl rfl (e_lenL hf (x := y30.1) rfl Tryd.underlying28) fun a hf => ?_
    refine q_ hf rfl rfl rfl (e_lt hf (x := z148) (y := (y30.1.length : Int)) rfl rfl) fun a hf => ?_
    refine q_ hf rfl rfl rfl (e_move hf rfl) fun a hf => ?_
    rcases cond_some h147 with ⟨hc151, h147⟩ | ⟨hc151, h147⟩
    ·refine gq (wanted_t hf rfl rfl rfl rfl hc151) hf rfl rfl (e_move hf rfl) fun a hf => ?_
     refine gq (wanted_t hf rfl rfl rfl rfl hc151) hf rfl rfl (e_ne hf (x := y115.2) (y := 0) rfl rfl) fun a hf => ?_
     refine gq (wanted_t hf rfl rfl rfl rfl hc151) hf rfl rfl (e_move hf rfl) fun a hf => ?_
     rcases cond_some h147 with ⟨hc152, h147⟩ | ⟨hc152, h147⟩
     ·iterate 7 refine pl_gs (wanted_f hf rfl rfl rfl rfl hc152) hf rfl rfl fun a hf => ?_
      refine gq (wanted_t hf rfl rfl rfl rfl hc151) hf rfl rfl (e_pick_t hf rfl hc152 rfl) fun a hf => ?_
      refine q_ hf rfl rfl rfl (e_pick_t hf rfl hc151 rfl) fun a hf => ?_
      refine q_ hf rfl rfl rfl (e_move hf rfl) fun a hf => ?_
      iterate 6 refine pl_gs (wanted_f hf rfl rfl rfl rfl rfl) hf rfl rfl fun a hf => ?_
      iterate 2 refine pl_gs (wanted_u hf rfl rfl rfl rfl) hf rfl rfl fun a hf => ?_
      refine pl_gs (wanted_f hf rfl rfl rfl rfl rfl) hf rfl rfl fun a hf => ?_
      refine q_ hf rfl rfl rfl (e_pick_t hf rfl rfl rfl) fun a hf => ?_
      refine pl_nil ?_
      obtain rfl := some_inj h147
      refine then_n ?_
      exact ⟨true, rfl, hf.keep ⟨rfl, rfl, rfl, rfl, rfl, trivial⟩, hM.pick [0, 1, 2] rfl⟩
     iterate 3 refine gq (wanted_t hf rfl rfl rfl rfl hc152) hf rfl rfl (e_move hf rfl) fun a hf => ?_
     obtain ⟨z154, hz155, h147⟩ := bind_some h147
     refine gq (wanted_t hf rfl rfl rfl rfl hc152) hf rfl rfl (e_add hf rfl rfl hz155) fun a hf => ?_
     obtain ⟨e156, hz157, h147⟩ := bind_some h147
     obtain ⟨b162, _, hA163, h158, h159, hr160, hcell161⟩ := hM.rowElemN (k := 1) rfl (n := 1) rfl hz157
     obtain ⟨rfl, hv164⟩ := hr160
     refine gq (wanted_t hf rfl rfl rfl rfl hc152) hf rfl rfl (e_indexAddr (A := A32) (b := b162) (o := 0) (xs := y30.1) (i := z154) hf hA163 rfl rfl Tryd.underlying28 Tryd.sizeOf9 h158 h159) fun a hf => ?_
     refine gq (wanted_t hf rfl rfl rfl rfl hc152) hf rfl rfl (e_load1 hf rfl Tryd.isAgg9 (hcell161 0 _ rfl)) fun a hf => ?_
     refine gq (wanted_t hf rfl rfl rfl rfl hc152) hf rfl rfl (e_neS hf (x := y115.1) (y := e156) rfl rfl) fun a hf => ?_
     refine gq (wanted_t hf rfl rfl rfl rfl hc151) hf rfl rfl (e_pick_f hf rfl hc152 rfl) fun a hf => ?_
     refine q_ hf rfl rfl rfl (e_pick_t hf rfl hc151 rfl) fun a hf => ?_
     refine q_ hf rfl rfl rfl (e_move hf rfl) fun a hf => ?_
     rcases cond_some h147 with ⟨hc165, h147⟩ | ⟨hc165, h147⟩
     ·iterate 6 refine pl_gs (wanted_f hf rfl rfl rfl rfl hc165) hf rfl rfl fun a hf => ?_
      iterate 2 refine pl_gs (wanted_u hf rfl rfl rfl rfl) hf rfl rfl fun a hf => ?_
      refine pl_gs (wanted_f hf rfl rfl rfl rfl hc165) hf rfl rfl fun a hf => ?_
      refine q_ hf rfl rfl rfl (e_pick_t hf rfl hc165 rfl) fun a hf => ?_
      refine pl_nil ?_
      obtain rfl := some_inj h147
      refine then_n ?_
      exact ⟨true, rfl, hf.keep ⟨rfl, rfl, rfl, rfl, rfl, trivial⟩, hM.pick [0, 1, 2] rfl⟩
     refine gq (wanted_t hf rfl rfl rfl rfl hc165) hf rfl rfl (e_move hf rfl) fun a hf => ?_
     obtain ⟨z167, hz168, h147⟩ := bind_some h147
     refine gq (wanted_t hf rfl rfl rfl rfl hc165) hf rfl rfl (e_add hf rfl rfl hz168) fun a hf => ?_
     refine gq (wanted_t hf rfl rfl rfl rfl hc165) hf rfl rfl (e_move hf rfl) fun a hf => ?_
     have hl169 := row_len (hM.ownAt (k := 1) rfl)
     refine gq (wanted_t hf rfl rfl rfl rfl hc165) hf rfl rfl (e_lenL hf (x := y30.1) rfl Tryd.underlying28) fun a hf => ?_
     refine gq (wanted_t hf rfl rfl rfl rfl hc165) hf rfl rfl (e_eq hf (x := z167) (y := (y30.1.length : Int)) rfl rfl) fun a hf => ?_
     refine gq (wanted_t hf rfl rfl rfl rfl hc165) hf rfl rfl (e_move hf rfl) fun a hf => ?_
     rcases cond_some h147 with ⟨hc170, h147⟩ | ⟨hc170, h147⟩
     ·refine gq (wanted_t hf rfl rfl rfl rfl hc170) hf rfl rfl (e_move hf rfl) fun a hf => ?_
      refine gq (wanted_t hf rfl rfl rfl rfl hc170) hf rfl rfl (e_ne hf (x := y115.2) (y := 3) rfl rfl) fun a hf => ?_
      refine gq (wanted_t hf rfl rfl rfl rfl hc165) hf rfl rfl (e_pick_t hf rfl hc170 rfl) fun a hf => ?_
      refine q_ hf rfl rfl rfl (e_pick_f hf rfl hc165 rfl) fun a hf => ?_
      refine pl_nil ?_
      obtain rfl := some_inj h147
      refine then_n ?_
      exact ⟨(y115.2 != 3), rfl, hf.keep ⟨rfl, rfl, rfl, rfl, rfl, trivial⟩, hM.pick [0, 1, 2] rfl⟩
     iterate 2 refine pl_gs (wanted_f hf rfl rfl rfl rfl hc170) hf rfl rfl fun a hf => ?_
     refine gq (wanted_t hf rfl rfl rfl rfl hc165) hf rfl rfl (e_pick_f hf rfl hc170 rfl) fun a hf => ?_
     refine q_ hf rfl rfl rfl (e_pick_f hf rfl hc165 rfl) fun a hf => ?_
     refine pl_nil ?_
     obtain rfl := some_inj h147
     refine then_n ?_
     exact ⟨false, rfl, hf.keep ⟨rfl, rfl, rfl, rfl, rfl, trivial⟩, hM.pick [0, 1, 2] rfl⟩
    iterate 3 refine pl_gs (wanted_f hf rfl rfl rfl rfl hc151) hf rfl rfl fun a hf => ?_
    iterate 7 refine pl_gs (wanted_u hf rfl rfl rfl rfl) hf rfl rfl fun a hf => ?_
    refine pl_gs (wanted_f hf rfl rfl rfl rfl hc151) hf rfl rfl fun a hf => ?_
    refine q_ hf rfl rfl rfl (e_pick_f hf rfl hc151 rfl) fun a hf => ?_
    refine q_ hf rfl rfl rfl (e_move hf rfl) fun a hf => ?_
    refine gq (wanted_t hf rfl rfl rfl rfl rfl) hf rfl rfl (e_move hf rfl) fun a hf => ?_
    obtain ⟨z173, hz174, h147⟩ := bind_some h147
    refine gq (wanted_t hf rfl rfl rfl rfl rfl) hf rfl rfl (e_add hf rfl rfl hz174) fun a hf => ?_
    refine gq (wanted_t hf rfl rfl rfl rfl rfl) hf rfl rfl (e_move hf rfl) fun a hf => ?_
    have hl175 := row_len (hM.ownAt (k := 1) rfl)
    refine gq (wanted_t hf rfl rfl rfl rfl rfl) hf rfl rfl (e_lenL hf (x := y30.1) rfl Tryd.underlying28) fun a hf => ?_
    refine gq (wanted_t hf rfl rfl rfl rfl rfl) hf rfl rfl (e_eq hf (x := z173) (y := (y30.1.length : Int)) rfl rfl) fun a hf => ?_
    refine gq (wanted_t hf rfl rfl rfl rfl rfl) hf rfl rfl (e_move hf rfl) fun a hf => ?_
    rcases cond_some h147 with ⟨hc176, h147⟩ | ⟨hc176, h147⟩
    ·refine gq (wanted_t hf rfl rfl rfl rfl hc176) hf rfl rfl (e_move hf rfl) fun a hf => ?_
     refine gq (wanted_t hf rfl rfl rfl rfl hc176) hf rfl rfl (e_ne hf (x := y115.2) (y := 3) rfl rfl) fun a hf => ?_
     refine gq (wanted_t hf rfl rfl rfl rfl rfl) hf rfl rfl (e_pick_t hf rfl hc176 rfl) fun a hf => ?_
     refine q_ hf rfl rfl rfl (e_pick_f hf rfl rfl rfl) fun a hf => ?_
     refine pl_nil ?_
     obtain rfl := some_inj h147
     refine then_n ?_
     exact ⟨(y115.2 != 3), rfl, hf.keep ⟨rfl, rfl, rfl, rfl, rfl, trivial⟩, hM.pick [0, 1, 2] rfl⟩
    iterate 2 refine pl_gs (wanted_f hf rfl rfl rfl rfl hc176) hf rfl rfl fun a hf => ?_
    refine gq (wanted_t hf rfl rfl rfl rfl rfl) hf rfl rfl (e_pick_f hf rfl hc176 rfl) fun a hf => ?_
    refine q_ hf rfl rfl rfl (e_pick_f hf rfl rfl rfl) fun a hf => ?_
    refine pl_nil ?_
    obtain rfl := some_inj h147
    refine then_n ?_
    exact ⟨false, rfl, hf.keep ⟨rfl, rfl, rfl, rfl, rfl, trivial⟩, hM.pick [0, 1, 2] rfl⟩
   rintro a w179 ⟨t144, rfl, hf, hM⟩
   try dsimp only at h77
   rcases cond_some h77 with ⟨hc180, h77⟩ | ⟨hc180, h77⟩
   ·refine cond_t hf rfl hc180 ?_
    refine wp_seq ?_
    refine region_pl ?_
    refine q_ hf rfl rfl rfl (e_assign hf rfl) fun a hf => ?_
    refine pl_nil ?_
    refine then_n ?_
    refine wp_ret ?_
    refine blk_r ?_
    refine then_r ?_
    obtain rfl := some_inj h77
    obtain rfl := hd78 _ rfl
    try dsimp only at h70
    refine then_r ?_
    refine blk_r ?_
    obtain rfl := some_inj h70
    try dsimp only at h
    refine then_r ?_
    obtain rfl := some_inj h
    have hM := hM.outs (own' := []) 0 rfl
    exact leave1 hf rfl rfl ⟨rfl, hM.fin⟩
   refine cond_f hf rfl hc180 ?_
   refine wp_skip ?_
   refine blk_n ?_
   refine then_n ?_
   refine region_pl ?_
   refine q_ hf rfl rfl rfl (e_move hf rfl) fun a hf => ?_
   obtain ⟨z181, hz182, h77⟩ := bind_some h77
   refine q_ hf rfl rfl rfl (e_add hf rfl rfl hz182) fun a hf => ?_
   refine q_ hf rfl rfl rfl (e_assign hf rfl) fun a hf => ?_
   refine pl_nil ?_
   obtain rfl := some_inj h77
   refine then_n ⟨_, rfl, ?_⟩
   exact ⟨z181, rfl, hf.keep ⟨rfl, rfl, rfl, rfl, trivial⟩, hM.pick [0, 1, 2] rfl, (chk_R hz182)⟩
  refine cond_f hf rfl hc80 ?_
  refine wp_exit ?_
  refine then_x ?_
  obtain rfl := some_inj h77
  obtain rfl := hd78 _ rfl
  try dsimp only at h70
  refine then_x ?_
  refine exit_hit ?_
  obtain rfl := some_inj h70
  refine then_n ?_
  exact ⟨rfl, hf.keep ⟨rfl, rfl, rfl, trivial⟩, hM.pick [0, 1, 2] rfl⟩
 rintro a w189 ⟨rfl, hf, hM⟩
 try dsimp only at h
 refine wp_seq ?_
 refine region_pl ?_
 refine q_ hf rfl rfl rfl (e_move hf rfl) fun a hf => ?_
 refine q_ hf rfl rfl rfl (e_build hf Tryd.zeroValue40 Tryd.underlying40 (bp_40 _ Tryd.underlying40.symm) rfl (cs := #[vL A32 (y30.1) c33]) (by kernel_rfl)) fun a hf => ?_
 refine pl_l hf rfl rfl rfl (w_alloc hM (cs := [vL none (([] : (List Str))) 0]) Tryd.zeroValue40 rfl fun b190 w191 hx192 hM a hf => ?_)
 refine pl_0 hf rfl rfl (w_store hf hM (us := [vL A32 (y30.1) c33]) (cs' := [vL A32 (y30.1) c33]) rfl rfl (k := 0) rfl rfl Tryd.sizeOf40 rfl rfl rfl fun w194 hM => ?_)
 dsimp only [List.set] at hM
 refine pl_nil ?_
 refine then_n ?_
 refine wp_seq ?_
 refine region_pl ?_
 refine q_ hf rfl rfl rfl (e_move hf rfl) fun a hf => ?_
 obtain ⟨y197, hz198, h⟩ := bind_some h
 refine pl_l hf rfl rfl rfl (w_call hf Tryd.call19 rfl (r_spec_A2Word ⟨_, Sh C _ _, none_, hM.sh_lt, none_not, C.G, hM.g_lt, g_none, hM.tabs⟩ more5 _ _ (hM.dat (k := 1) rfl) _ hz198) ?_)
 rintro _ w200 ⟨rfl, hM2, hv199⟩
 obtain ⟨hM, hx201, hup202⟩ := hM.back hM2
 dsimp only [List.cons_append, List.nil_append] at hM hup202
 clear hM2
 refine ⟨_, rfl, fun a hf => ?_⟩
 refine q_ hf rfl rfl rfl (e_assign hf rfl) fun a hf => ?_
 refine pl_nil ?_
 refine then_n ?_
 refine wp_seq ?_
 refine region_pl ?_
 iterate 3 refine q_ hf rfl rfl rfl (e_move hf rfl) fun a hf => ?_
 refine q_ hf rfl rfl rfl (e_lenS hf (x := y197) rfl Tryd.underlying9) fun a hf => ?_
 obtain ⟨y203, hz204, h⟩ := bind_some h
 refine pl_l hf rfl rfl rfl (w_call hf Tryd.call20 rfl (r_laws_a2At ⟨_, Sh C _ _, none_, hM.sh_lt, none_not, C.G, hM.g_lt, g_none, hM.tabs⟩ more5 _ _ (hM.dat (k := 1) rfl) 0 (R64_lit rfl) (y197.length : Int) (R64_len hv199) _ hz204) ?_)
 rintro _ w206 ⟨rfl, hM2, hv205⟩
 obtain ⟨hM, hx207, hup208⟩ := hM.back hM2
 dsimp only [List.cons_append, List.nil_append] at hM hup208
 clear hM2
 refine ⟨_, rfl, fun a hf => ?_⟩
 obtain ⟨z209, hz210, h⟩ := bind_some h
 refine q_ hf rfl rfl rfl (e_add hf rfl rfl hz210) fun a hf => ?_
 obtain ⟨s211, hz212, h⟩ := bind_some h
 refine q_ hf rfl rfl rfl (e_subSh hf (x := y197) rfl rfl Tryd.underlying9 hz212) fun a hf => ?_
 refine q_ hf rfl rfl rfl (e_assign hf rfl) fun a hf => ?_
 refine pl_nil ?_
 refine then_n ?_
 refine wp_seq ?_
 refine region_pl ?_
 refine q_ hf rfl rfl rfl (e_loadA hf (us := [vL A17 (y15.Nodes) c18]) rfl ⟨Tryd.isAgg26, Tryd.sizeOf26⟩ rfl (hM.boxSub (k := 3) (us := [vL A17 (y15.Nodes) c18]) (o := 0) rfl rfl)) fun a hf => ?_
 refine q_ hf rfl rfl rfl (e_move hf rfl) fun a hf => ?_
 obtain ⟨y213, hz214, h⟩ := bind_some h
 refine pl_l hf rfl rfl rfl (w_call hf Tryd.call21 rfl (r_impl_RangeOf ⟨_, Sh C _ _, none_, hM.sh_lt, none_not, C.G, hM.g_lt, g_none, hM.tabs⟩ y15 _ _ (hM.dat (k := 0) rfl) s211 (sub_len hz212 hv199) _ hz214) ?_)
 rintro _ w218 ⟨rfl, hM2, hv215, hv216, hv217⟩
 obtain ⟨hM, hx219, hup220⟩ := hM.back hM2
 dsimp only [List.cons_append, List.nil_append] at hM hup220
 clear hM2
 refine ⟨_, rfl, fun a hf => ?_⟩
 refine q_ hf rfl rfl rfl (e_move hf rfl) fun a hf => ?_
 iterate 3 refine q_ hf rfl rfl rfl (e_extract hf rfl rfl) fun a hf => ?_
 iterate 3 refine q_ hf rfl rfl rfl (e_assign hf rfl) fun a hf => ?_
 refine pl_nil ?_
 refine then_n ?_
 refine wp_seq ?_
 refine region_pl ?_
 refine q_ hf rfl rfl rfl (e_loadA hf (us := [vL A32 (y30.1) c33]) rfl ⟨Tryd.isAgg40, Tryd.sizeOf40⟩ rfl (hM.boxSub (k := 0) (us := [vL A32 (y30.1) c33]) (o := 0) rfl rfl)) fun a hf => ?_
 refine q_ hf rfl rfl rfl (e_move hf rfl) fun a hf => ?_
 obtain ⟨y221, hz222, h⟩ := bind_some h
 refine pl_l hf rfl rfl rfl (w_call hf Tryd.call22 rfl (r_spec_PrefixRange ⟨_, All C _ _, none_, hM.all_lt, none_not, C.G, hM.g_lt, g_none, hM.tabs⟩ (⟨y30.1⟩ : Lexicon) _ _ (hM.lendRow (k := 2) rfl) s211 (sub_len hz212 hv199) _ hz222) ?_)
 rintro _ w226 ⟨rfl, hM2, hv223, hv224, hv225⟩
 obtain ⟨hM, hx227⟩ := hM.backA hM2
 clear hM2
 refine ⟨_, rfl, fun a hf => ?_⟩
 refine q_ hf rfl rfl rfl (e_move hf rfl) fun a hf => ?_
 iterate 3 refine q_ hf rfl rfl rfl (e_extract hf rfl rfl) fun a hf => ?_
 iterate 3 refine q_ hf rfl rfl rfl (e_assign hf rfl) fun a hf => ?_
 refine pl_nil ?_
 refine then_n ?_
 obtain ⟨x231, h232, h⟩ := bind_some h
 refine seq_join (fun a w => ∃ (words229 : Bool), words229 = x231 ∧ Has 174 a [(4, .bool (words229))] ∧ Mem C w [.box b190 [vL A32 (y30.1) c33] 40, .row intRep A40 c41 2 y38.1 true, .row strRep A32 c33 9 y30.1 true, .box b23 [vL A17 (y15.Nodes) c18] 26] [.dat (sliceRep NodeRep) y15.Nodes [vL A17 y15.Nodes c18], .dat (sliceRep byteRep) more5 [vL A6 more5 c7], .dat (sliceRep byteRep) code1 [vL A2 code1 c3]]) ?_ ?_
 ·refine region_pl ?_
  refine q_ hf rfl rfl rfl (e_move hf rfl) fun a hf => ?_
  refine q_ hf rfl rfl rfl (e_eq hf (x := y213.2.2) (y := 0) rfl rfl) fun a hf => ?_
  refine q_ hf rfl rfl rfl (e_move hf rfl) fun a hf => ?_
  rcases cond_some h232 with ⟨hc233, h232⟩ | ⟨hc233, h232⟩
  ·iterate 2 refine gq (wanted_t hf rfl rfl rfl rfl hc233) hf rfl rfl (e_move hf rfl) fun a hf => ?_
   refine gq (wanted_t hf rfl rfl rfl rfl hc233) hf rfl rfl (e_eq hf (x := y213.1) (y := y221.1) rfl rfl) fun a hf => ?_
   refine q_ hf rfl rfl rfl (e_pick_t hf rfl hc233 rfl) fun a hf => ?_
   refine q_ hf rfl rfl rfl (e_move hf rfl) fun a hf => ?_
   rcases cond_some h232 with ⟨hc234, h232⟩ | ⟨hc234, h232⟩
   ·iterate 2 refine gq (wanted_t hf rfl rfl rfl rfl hc234) hf rfl rfl (e_move hf rfl) fun a hf => ?_
    refine gq (wanted_t hf rfl rfl rfl rfl hc234) hf rfl rfl (e_eq hf (x := y213.2.1) (y := y221.2.1) rfl rfl) fun a hf => ?_
    refine q_ hf rfl rfl rfl (e_pick_t hf rfl hc234 rfl) fun a hf => ?_
    refine q_ hf rfl rfl rfl (e_assign hf rfl) fun a hf => ?_
    refine pl_nil ?_
    obtain rfl := some_inj h232
    refine then_n ?_
    exact ⟨(y213.2.1 == y221.2.1), rfl, hf.keep ⟨rfl, trivial⟩, hM.pick [0, 1, 2] rfl⟩
   iterate 3 refine pl_gs (wanted_f hf rfl rfl rfl rfl hc234) hf rfl rfl fun a hf => ?_
   refine q_ hf rfl rfl rfl (e_pick_f hf rfl hc234 rfl) fun a hf => ?_
   refine q_ hf rfl rfl rfl (e_assign hf rfl) fun a hf => ?_
   refine pl_nil ?_
   obtain rfl := some_inj h232
   refine then_n ?_
   exact ⟨false, rfl, hf.keep ⟨rfl, trivial⟩, hM.pick [0, 1, 2] rfl⟩
  iterate 3 refine pl_gs (wanted_f hf rfl rfl rfl rfl hc233) hf rfl rfl fun a hf => ?_
  refine q_ hf rfl rfl rfl (e_pick_f hf rfl hc233 rfl) fun a hf => ?_
  refine q_ hf rfl rfl rfl (e_move hf rfl) fun a hf => ?_
  iterate 3 refine pl_gs (wanted_f hf rfl rfl rfl rfl rfl) hf rfl rfl fun a hf => ?_
  refine q_ hf rfl rfl rfl (e_pick_f hf rfl rfl rfl) fun a hf => ?_
  refine q_ hf rfl rfl rfl (e_assign hf rfl) fun a hf => ?_
  refine pl_nil ?_
  obtain rfl := some_inj h232
  refine then_n ?_
  exact ⟨false, rfl, hf.keep ⟨rfl, trivial⟩, hM.pick [0, 1, 2] rfl⟩
 rintro a w238 ⟨words229, rfl, hf, hM⟩
 try dsimp only at h
 refine wp_ret ?_
 obtain rfl := some_inj h
 have hM := hM.outs (own' := []) 0 rfl
 exact leave1 hf rfl rfl ⟨rfl, hM.fin⟩

end Go.Proofs.YtdaoecpkgobelaaDoor
