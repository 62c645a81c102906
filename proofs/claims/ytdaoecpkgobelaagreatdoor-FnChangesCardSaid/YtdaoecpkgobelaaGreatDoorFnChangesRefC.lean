/- The functions that this law reaches do what their models say. Printed by gen.py. -/
import Derived.Test.YtdaoecpkgobelaaGreatDoorMod
import Derived.Test.YtdaoecpkgobelaaGreatDoorLib
import Derived.Test.YtdaoecpkgobelaaGreatDoorErrIs
import Derived.Test.YtdaoecpkgobelaaGreatDoorFnChangesRefB
namespace Go.Proofs.YtdaoecpkgobelaaGreatDoor
open Go Go.RowKit
set_option linter.unusedSimpArgs false
set_option linter.unusedVariables false
set_option maxRecDepth 100000
set_option maxHeartbeats 4000000
def Ct_impl_maker_numbered_1 (rc : Int → (List (Int × Int)) → Dawg → maker → Option (Int × (List (Int × Int)) × Dawg)) : Prop := ∀ (C : Cx) (k1 : Int) (hp2 : R64 k1) (p3 : (List (Int × Int))) (b4 : Nat) (b5 : Nat) (hp6 : MapR p3) (p7 : Dawg) (b8 : Nat) (A9 : Option Addr) (c10 : Nat) (p11 : maker) (b12 : Nat) (o13 : Nat) (hp14 : (ptrRep (ptrRep makerRep)).R C.w0 C.S0 p11 [vP b12 o13]) (b16 : Nat) (o17 : Nat) (hp18 : Shr.good C.w0 C.S0 (.lit b16 (o17) [.func (.func 89) #[] #[vP b4 (0), vP b8 (0), vP b12 (o13), vP b16 (o17)]])) (hO : Mem C C.w0 [.box b4 [vM b5] 139, .obj b5 (mapO fI fI p3), .box b8 [vL A9 (p7.Nodes) c10] 31, .row NodeRep A9 c10 47 p7.Nodes true] []) (hd : ∀ b, C.S0 b → ¬ ownB [.box b4 [vM b5] 139, .obj b5 (mapO fI fI p3), .box b8 [vL A9 (p7.Nodes) c10] 31, .row NodeRep A9 c10 47 p7.Nodes true] b) (r : (Int × (List (Int × Int)) × Dawg)) (h : rc k1 p3 p7 p11 = some r),
    Calls Tryz.prog 89 #[vI (k1), vP b4 (0), vP b8 (0), vP b12 (o13), vP b16 (o17)] C.w0 fun e w => ∃ (b_1 : Nat), ∃ (A_1 : Option Addr), ∃ (c_1 : Nat), e = .returned (vI (r.1)) ∧ Mem C w [.box b4 [vM b_1] 139, .obj b_1 (mapO fI fI r.2.1), .box b8 [vL A_1 (r.2.2.Nodes) c_1] 31, .row NodeRep A_1 c_1 47 r.2.2.Nodes true] [] ∧ MapR r.2.1 ∧ R64 r.1
theorem r_impl_maker_numbered_1_b (rc : Int → (List (Int × Int)) → Dawg → maker → Option (Int × (List (Int × Int)) × Dawg)) (ih : Ct_impl_maker_numbered_1 rc) : Ct_impl_maker_numbered_1 (m_impl_maker_numbered_1_b rc) := by
 intro C k1 hp2 p3 b4 b5 hp6 p7 b8 A9 c10 p11 b12 o13 hp14 b16 o17 hp18 hO hd r h
 have hM := hO
 have hM := hM.addIn hd (y := .dat (ptrRep (ptrRep makerRep)) p11 [vP b12 o13]) hp14
 have hM := hM.addIn hd (y := .lit b16 (o17) [.func (.func 89) #[] #[vP b4 (0), vP b8 (0), vP b12 (o13), vP b16 (o17)]]) hp18
 refine enter Tryz.func89 rfl Tryz.ntmps89 rfl fun a hf => ?_
 unfold m_impl_maker_numbered_1_b at h
 refine wp_seq ?_
 refine region_pl ?_
 refine q_ hf rfl rfl rfl (e_assign hf rfl) fun a hf => ?_
 refine pl_nil ?_
 refine then_n ?_
 iterate 2 refine wp_seq ?_
 refine region_pl ?_
 refine q_ hf rfl rfl rfl (e_load1 hf rfl Tryz.isAgg139 (hM.boxCell (k := 0) rfl rfl)) fun a hf => ?_
 refine q_ hf rfl rfl rfl (e_move hf rfl) fun a hf => ?_
 refine q_ hf rfl rfl rfl (e_lookupOk (fk := fI) (fv := fI) hf (keyI Tryz.underlying2) Tryz.underlying139 (k := k1) (z := 0) rfl rfl Tryz.zeroValue2 (hM.ownAt (k := 1) rfl)) fun a hf => ?_
 refine q_ hf rfl rfl rfl (e_move hf rfl) fun a hf => ?_
 iterate 2 refine q_ hf rfl rfl rfl (e_extract hf rfl rfl) fun a hf => ?_
 iterate 2 refine q_ hf rfl rfl rfl (e_assign hf rfl) fun a hf => ?_
 refine pl_nil ?_
 refine then_n ?_
 refine wp_seq ?_
 refine region_pl ?_
 refine q_ hf rfl rfl rfl (e_move hf rfl) fun a hf => ?_
 refine pl_nil ?_
 refine then_n ?_
 rcases cond_some h with ⟨hc19, h⟩ | ⟨hc19, h⟩
 ·refine cond_t hf rfl hc19 ?_
  refine wp_seq ?_
  refine region_pl ?_
  refine q_ hf rfl rfl rfl (e_move hf rfl) fun a hf => ?_
  refine q_ hf rfl rfl rfl (e_assign hf rfl) fun a hf => ?_
  refine pl_nil ?_
  refine then_n ?_
  refine wp_ret ?_
  refine then_r ?_
  obtain rfl := some_inj h
  exact leave1 hf rfl rfl ⟨b5, A9, c10, rfl, hM.fin, hp6, (hp6.get _)⟩
 refine cond_f hf rfl hc19 ?_
 refine wp_skip ?_
 refine then_n ?_
 refine wp_seq ?_
 refine region_pl ?_
 refine q_ hf rfl rfl rfl (e_field hf rfl Tryz.underlying31 rfl Tryz.sizeOf29 (o' := 0) rfl) fun a hf => ?_
 refine q_ hf rfl rfl rfl (e_load1 hf rfl Tryz.isAgg29 (hM.boxCell (k := 2) rfl rfl)) fun a hf => ?_
 have hl20 := row_len (hM.ownAt (k := 3) rfl)
 refine q_ hf rfl rfl rfl (e_lenL hf (x := p7.Nodes) rfl Tryz.underlying29) fun a hf => ?_
 refine q_ hf rfl rfl rfl (e_assign hf rfl) fun a hf => ?_
 refine pl_nil ?_
 refine then_n ?_
 refine wp_seq ?_
 refine region_pl ?_
 refine q_ hf rfl rfl rfl (e_load1 hf rfl Tryz.isAgg139 (hM.boxCell (k := 0) rfl rfl)) fun a hf => ?_
 iterate 2 refine q_ hf rfl rfl rfl (e_move hf rfl) fun a hf => ?_
 refine pl_0 hf rfl rfl (w_mapUpdate (fk := fI) (fv := fI) hf hM (keyI Tryz.underlying2) Tryz.underlying139 (k := k1) (v := (p7.Nodes.length : Int)) rfl rfl rfl (n := 1) rfl fun w21 hM => ?_)
 dsimp only [List.set] at hM
 refine pl_nil ?_
 refine then_n ?_
 refine wp_seq ?_
 refine region_pl ?_
 obtain ⟨_, hr22, hM⟩ := hM.deref (hM.dat (k := 1) rfl)
 obtain ⟨b23, o24, rfl, hv25⟩ := ptr_form hr22
 have hM := hM.add (y := .dat (ptrRep makerRep) p11 [vP b23 o24]) hv25
 refine q_ hf rfl rfl rfl (e_load1 hf rfl Tryz.isAgg106 (hM.litCell (k := 1) (j := 0) rfl rfl rfl)) fun a hf => ?_
 refine q_ hf rfl rfl rfl (e_nil hf rfl) fun a hf => ?_
 obtain ⟨_, hr26, hM⟩ := hM.deref (hM.dat (k := 0) rfl)
 obtain ⟨A27, c28, b30, o31, rfl, hv29, hv32⟩ := makerRep_open hr26
 have hM := hM.add (y := .dat (sliceRep NodeRep) p11.nodes [vL A27 p11.nodes c28]) hv29
 have hM := hM.add (y := .dat (mapRep fS fI) p11.register [vM b30]) hv32
 refine q_ hf rfl rfl rfl (e_field hf rfl Tryz.underlying109 rfl Tryz.sizeOf29 (o' := o24 + 0) rfl) fun a hf => ?_
 refine q_ hf rfl rfl rfl (e_load1 hf rfl Tryz.isAgg29 (hM.litCell (k := 2) (j := 0) rfl rfl rfl)) fun a hf => ?_
 refine q_ hf rfl rfl rfl (e_move hf rfl) fun a hf => ?_
 obtain ⟨e33, hz34, h⟩ := bind_some h
 obtain ⟨b38, o39, _, hA40, h35, h36, hr37, hM⟩ := hM.elem (hM.dat (k := 1) rfl) (n := 3) rfl hz34
 obtain ⟨A42, c43, rfl, hv41, hv44⟩ := NodeRep_open hr37
 have hM := hM.add (y := .dat (sliceRep intRep) e33.Next [vL A42 e33.Next c43]) hv44
 refine q_ hf rfl rfl rfl (e_indexAddr (A := A27) (b := b38) (o := o39) (xs := p11.nodes) (i := k1) hf hA40 rfl rfl Tryz.underlying29 Tryz.sizeOf47 h35 h36) fun a hf => ?_
 refine q_ hf rfl rfl rfl (e_loadA hf (us := [.bool (e33.Final), vS (e33.Letters), vL A42 (e33.Next) c43]) rfl ⟨Tryz.isAgg47, Tryz.sizeOf47⟩ rfl (hM.litSub (k := 1) (d := 0) (us := [.bool (e33.Final), vS (e33.Letters), vL A42 (e33.Next) c43]) rfl rfl rfl)) fun a hf => ?_
 refine pl_l hf rfl rfl rfl (w_alloc hM (cs := [.bool (false), vS (([] : Str)), vL none (([] : (List Int))) 0]) Tryz.zeroValue47 rfl fun b45 w46 hx47 hM a hf => ?_)
 refine pl_0 hf rfl rfl (w_store hf hM (us := [.bool (e33.Final), vS (e33.Letters), vL A42 (e33.Next) c43]) (cs' := [.bool (e33.Final), vS (e33.Letters), vL A42 (e33.Next) c43]) rfl rfl (k := 0) rfl rfl Tryz.sizeOf47 rfl rfl rfl fun w49 hM => ?_)
 dsimp only [List.set] at hM
 refine pl_nil ?_
 refine then_n ?_
 refine wp_seq ?_
 refine region_pl ?_
 refine q_ hf rfl rfl rfl (e_field hf rfl Tryz.underlying31 rfl Tryz.sizeOf29 (o' := 0) rfl) fun a hf => ?_
 refine q_ hf rfl rfl rfl (e_load1 hf rfl Tryz.isAgg29 (hM.boxCell (k := 3) rfl rfl)) fun a hf => ?_
 refine q_ hf rfl rfl rfl (e_field hf rfl Tryz.underlying47 rfl Tryz.sizeOf4 (o' := 0) rfl) fun a hf => ?_
 refine q_ hf rfl rfl rfl (e_load1 hf rfl Tryz.isAgg4 (hM.boxCell (k := 0) rfl rfl)) fun a hf => ?_
 refine q_ hf rfl rfl rfl (e_field hf rfl Tryz.underlying47 rfl Tryz.sizeOf9 (o' := 1) rfl) fun a hf => ?_
 refine q_ hf rfl rfl rfl (e_load1 hf rfl Tryz.isAgg9 (hM.boxCell (k := 0) rfl rfl)) fun a hf => ?_
 refine q_ hf rfl rfl rfl (e_build hf Tryz.zeroValue47 Tryz.underlying47 (bp_47 _ Tryz.underlying47.symm) rfl (cs := #[.bool (e33.Final), vS (e33.Letters), vL none (([] : (List Int))) 0]) (by kernel_rfl)) fun a hf => ?_
 have hM := hM.add (y := .dat (sliceRep intRep) ([] : (List Int)) [vL none ([] : (List Int)) 0]) (nil_slice _ _ _)
 refine pl_l hf rfl rfl rfl (w_slice hf hM (K := NodeRep) (xs := ([(⟨e33.Final, e33.Letters, ([] : (List Int))⟩ : Node)] : (List Node))) (os := [.tmp 41]) Tryz.underlying29 ei_47 rfl rfl rfl rfl rfl ⟨⟨[.bool (e33.Final), vS (e33.Letters), vL none (([] : (List Int))) 0], rfl, (NodeRep_mk (x := (⟨e33.Final, e33.Letters, ([] : (List Int))⟩ : Node)) hv41 (hM.dat (k := 0) rfl))⟩, trivial⟩ rfl fun b52 w53 hx54 hM a hf => ?_)
 obtain ⟨xs55, hz56, h⟩ := bind_some h
 refine pl_l hf rfl rfl rfl (w_append hf hM Tryz.underlying29 ei_47 rfl rfl rfl (k := 5) rfl (hM.srcRow (k := 0) rfl) hz56 fun A57 c58 w59 hM a hf => ?_)
 dsimp only [List.set] at hM
 refine q_ hf rfl rfl rfl (e_field hf rfl Tryz.underlying31 rfl Tryz.sizeOf29 (o' := 0) rfl) fun a hf => ?_
 refine pl_0 hf rfl rfl (w_store hf hM (us := [vL A57 (xs55) c58]) (cs' := [vL A57 (xs55) c58]) rfl rfl (k := 4) rfl rfl Tryz.sizeOf29 rfl rfl rfl fun w62 hM => ?_)
 dsimp only [List.set] at hM
 refine pl_nil ?_
 refine then_n ?_
 refine wp_seq ?_
 refine region_pl ?_
 refine pl_l hf rfl rfl rfl (w_slice0 (K := intRep) hM Tryz.underlying45 ei_2 fun b65 w66 hx67 hM a hf => ?_)
 refine q_ hf rfl rfl rfl (e_assign hf rfl) fun a hf => ?_
 refine pl_nil ?_
 refine then_n ?_
 obtain ⟨x77, h78, h⟩ := bind_some h
 refine seq_join (fun a w => ∃ (mp68 : (List (Int × Int))) (xs71 : (List Node)) (xs74 : (List Int)) (b69 : Nat) (A72 : Option Addr) (c73 : Nat) (A75 : Option Addr) (c76 : Nat), (mp68, xs71, xs74) = x77 ∧ Has 67 a [(2, vP b8 (0)), (9, vI ((p7.Nodes.length : Int))), (11, vL A75 (xs74) c76)] ∧ Mem C w [.row intRep A75 c76 2 xs74 true, .row NodeRep (some ⟨b52, 0, none⟩) 1 47 ([(⟨e33.Final, e33.Letters, ([] : (List Int))⟩ : Node)] : (List Node)) true, .box b45 [.bool (e33.Final), vS (e33.Letters), vL A42 (e33.Next) c43] 47, .box b4 [vM b69] 139, .obj b69 (mapO fI fI mp68), .box b8 [vL A72 (xs71) c73] 31, .row NodeRep A72 c73 47 xs71 true] [.dat (sliceRep intRep) ([] : (List Int)) [vL none ([] : (List Int)) 0], .dat (sliceRep intRep) e33.Next [vL A42 e33.Next c43], .lit b38 (o39 + (k1 : Int).toNat * 3) [.bool (e33.Final), vS (e33.Letters), vL A42 (e33.Next) c43], .dat (mapRep fS fI) p11.register [vM b30], .dat (sliceRep NodeRep) p11.nodes [vL A27 p11.nodes c28], .lit b23 (o24) [vL A27 (p11.nodes) c28, vM b30], .dat (ptrRep makerRep) p11 [vP b23 o24], .lit b12 (o13) [vP b23 (o24)], .lit b16 (o17) [.func (.func 89) #[] #[vP b4 (0), vP b8 (0), vP b12 (o13), vP b16 (o17)]], .dat (ptrRep (ptrRep makerRep)) p11 [vP b12 o13]] ∧ MapR mp68) ?_ ?_
 ·refine wp_seq ?_
  refine region_pl ?_
  refine q_ hf rfl rfl rfl (e_field hf rfl Tryz.underlying47 rfl Tryz.sizeOf45 (o' := 2) rfl) fun a hf => ?_
  refine q_ hf rfl rfl rfl (e_load1 hf rfl Tryz.isAgg45 (hM.boxCell (k := 2) rfl rfl)) fun a hf => ?_
  have hl79 := slice_len (hM.dat (k := 1) rfl)
  refine q_ hf rfl rfl rfl (e_lenL hf (x := e33.Next) rfl Tryz.underlying45) fun a hf => ?_
  refine q_ hf rfl rfl rfl (e_move hf rfl) fun a hf => ?_
  refine pl_nil ?_
  refine then_n ?_
  refine wp_block ?_
  obtain ⟨x101, h102, h78⟩ := bind_some h78
  refine wp_loopM h102 (fun s a w => ∃ (mp80 : (List (Int × Int))) (xs83 : (List Node)) (xs86 : (List Int)) (n89 : Int) (b81 : Nat) (A84 : Option Addr) (c85 : Nat) (A87 : Option Addr) (c88 : Nat), (mp80, xs83, xs86, n89) = s ∧ Has 67 a [(2, vP b8 (0)), (4, vP b16 (o17)), (9, vI ((p7.Nodes.length : Int))), (11, vL A87 (xs86) c88), (47, vL A42 (e33.Next) c43), (48, vI ((e33.Next.length : Int))), (49, vI (n89))] ∧ Mem C w [.row intRep A87 c88 2 xs86 true, .row NodeRep (some ⟨b52, 0, none⟩) 1 47 ([(⟨e33.Final, e33.Letters, ([] : (List Int))⟩ : Node)] : (List Node)) true, .box b45 [.bool (e33.Final), vS (e33.Letters), vL A42 (e33.Next) c43] 47, .box b4 [vM b81] 139, .obj b81 (mapO fI fI mp80), .box b8 [vL A84 (xs83) c85] 31, .row NodeRep A84 c85 47 xs83 true] [.dat (sliceRep intRep) ([] : (List Int)) [vL none ([] : (List Int)) 0], .dat (sliceRep intRep) e33.Next [vL A42 e33.Next c43], .lit b38 (o39 + (k1 : Int).toNat * 3) [.bool (e33.Final), vS (e33.Letters), vL A42 (e33.Next) c43], .dat (mapRep fS fI) p11.register [vM b30], .dat (sliceRep NodeRep) p11.nodes [vL A27 p11.nodes c28], .lit b23 (o24) [vL A27 (p11.nodes) c28, vM b30], .dat (ptrRep makerRep) p11 [vP b23 o24], .lit b12 (o13) [vP b23 (o24)], .lit b16 (o17) [.func (.func 89) #[] #[vP b4 (0), vP b8 (0), vP b12 (o13), vP b16 (o17)]], .dat (ptrRep (ptrRep makerRep)) p11 [vP b12 o13]] ∧ MapR mp80 ∧ R64 n89) ?_ ?_
  ·exact ⟨(putM p3 k1 (p7.Nodes.length : Int)), xs55, ([] : (List Int)), 0, b5, A57, c58, (some ⟨b65, 0, none⟩), 0, rfl, hf.keep ⟨rfl, rfl, rfl, rfl, rfl, rfl, rfl, trivial⟩, hM.pick [0, 1, 2, 3, 4, 5, 6, 7, 8, 9] rfl, (hp6.put (R64_len hl20)), (R64_lit rfl)⟩
  rintro s o103 a w91 ⟨mp80, xs83, xs86, n89, b81, A84, c85, A87, c88, rfl, hf, hM, hv82, hv90⟩ h104 hd105
  replace h104 : m_impl_maker_numbered_1_l1 e33 rc p11 mp80 xs83 xs86 n89 = some o103 := h104
  unfold m_impl_maker_numbered_1_l1 at h104
  refine wp_seq ?_
  refine region_pl ?_
  refine q_ hf rfl rfl rfl (e_lt hf (x := n89) (y := (e33.Next.length : Int)) rfl rfl) fun a hf => ?_
  refine pl_nil ?_
  refine then_n ?_
  refine wp_seq ?_
  rcases cond_some h104 with ⟨hc106, h104⟩ | ⟨hc106, h104⟩
  ·refine cond_t hf rfl hc106 ?_
   refine wp_skip ?_
   refine then_n ?_
   refine wp_seq ?_
   refine wp_block ?_
   refine wp_seq ?_
   refine region_pl ?_
   obtain ⟨e107, hz108, h104⟩ := bind_some h104
   obtain ⟨b112, o113, _, hA114, h109, h110, hr111, hM⟩ := hM.elem (hM.dat (k := 1) rfl) (n := 1) rfl hz108
   obtain ⟨rfl, hv115⟩ := hr111
   refine q_ hf rfl rfl rfl (e_indexAddr (A := A42) (b := b112) (o := o113) (xs := e33.Next) (i := n89) hf hA114 rfl rfl Tryz.underlying45 Tryz.sizeOf2 h109 h110) fun a hf => ?_
   refine q_ hf rfl rfl rfl (e_load1 hf rfl Tryz.isAgg2 (hM.litCell (k := 0) (j := 0) rfl rfl rfl)) fun a hf => ?_
   refine q_ hf rfl rfl rfl (e_assign hf rfl) fun a hf => ?_
   refine pl_nil ?_
   refine then_n ?_
   refine region_pl ?_
   refine q_ hf rfl rfl rfl (e_move hf rfl) fun a hf => ?_
   refine q_ hf rfl rfl rfl (e_load1 hf rfl Tryz.isAgg101 (hM.litCell (k := 9) (j := 0) rfl rfl rfl)) fun a hf => ?_
   refine q_ hf rfl rfl rfl (e_move hf rfl) fun a hf => ?_
   have hM := hM.front (k := 6) rfl
   dsimp only [List.eraseIdx] at hM
   have hM := hM.front (k := 6) rfl
   dsimp only [List.eraseIdx] at hM
   have hM := hM.front (k := 6) rfl
   dsimp only [List.eraseIdx] at hM
   have hM := hM.front (k := 6) rfl
   dsimp only [List.eraseIdx] at hM
   have hM : Mem C _ ([.box b4 [vM b81] 139, .obj b81 (mapO fI fI mp80), .box b8 [vL A84 (xs83) c85] 31, .row NodeRep A84 c85 47 xs83 true] ++ [.row intRep A87 c88 2 xs86 true, .row NodeRep (some ⟨b52, 0, none⟩) 1 47 ([(⟨e33.Final, e33.Letters, ([] : (List Int))⟩ : Node)] : (List Node)) true, .box b45 [.bool (e33.Final), vS (e33.Letters), vL A42 (e33.Next) c43] 47]) _ := hM
   obtain ⟨y116, hz117, h104⟩ := bind_some h104
   refine pl_l hf rfl rfl rfl (w_callV hf (fk := 89) (fc := [vP b4 (0), vP b8 (0), vP b12 (o13), vP b16 (o17)]) rfl Tryz.call89 rfl (ih ⟨_, Sh C _ _, ownB _, hM.sh_lt, sub_dis, C.G, hM.g_lt, hM.g_own, hM.tabs⟩ e107 hv115 mp80 _ _ hv82 (⟨xs83⟩ : Dawg) _ _ _ p11 _ _ (hM.dat (k := 10) rfl) _ _ (hM.at_ (k := 9) rfl) hM.sub sub_dis _ hz117) ?_)
   rintro _ w123 ⟨b118, A120, c121, rfl, hM2, hv119, hv122⟩
   obtain ⟨hM, hup125⟩ := hM.backG hM2
   dsimp only [List.cons_append, List.nil_append] at hM hup125
   clear hM2
   refine ⟨_, rfl, fun a hf => ?_⟩
   refine pl_l hf rfl rfl rfl (w_slice hf hM (K := intRep) (xs := ([y116.1] : (List Int))) (os := [.tmp 56]) Tryz.underlying45 ei_2 rfl rfl rfl rfl rfl ⟨⟨[vI (y116.1)], rfl, ⟨rfl, hv122⟩⟩, trivial⟩ rfl fun b126 w127 hx128 hM a hf => ?_)
   obtain ⟨xs129, hz130, h104⟩ := bind_some h104
   refine pl_l hf rfl rfl rfl (w_append hf hM Tryz.underlying45 ei_2 rfl rfl rfl (k := 5) rfl (hM.srcRow (k := 0) rfl) hz130 fun A131 c132 w133 hM a hf => ?_)
   dsimp only [List.set] at hM
   refine q_ hf rfl rfl rfl (e_assign hf rfl) fun a hf => ?_
   refine pl_nil ?_
   refine blk_n ?_
   refine then_n ?_
   refine region_pl ?_
   obtain ⟨z136, hz137, h104⟩ := bind_some h104
   refine q_ hf rfl rfl rfl (e_add hf rfl rfl hz137) fun a hf => ?_
   refine q_ hf rfl rfl rfl (e_move hf rfl) fun a hf => ?_
   refine pl_nil ?_
   obtain rfl := some_inj h104
   refine then_n ⟨_, rfl, ?_⟩
   have hM := hM.front (k := 4) rfl
   dsimp only [List.eraseIdx] at hM
   have hM := hM.front (k := 4) rfl
   dsimp only [List.eraseIdx] at hM
   have hM := hM.front (k := 4) rfl
   dsimp only [List.eraseIdx] at hM
   have hM := hM.front (k := 4) rfl
   dsimp only [List.eraseIdx] at hM
   have hM := hM.front (k := 7) rfl
   dsimp only [List.eraseIdx] at hM
   have hM := hM.front (k := 7) rfl
   dsimp only [List.eraseIdx] at hM
   have hM := hM.front (k := 7) rfl
   dsimp only [List.eraseIdx] at hM
   exact ⟨y116.2.1, y116.2.2.Nodes, xs129, z136, b118, A120, c121, A131, c132, rfl, hf.keep ⟨rfl, rfl, rfl, rfl, rfl, rfl, rfl, trivial⟩, (hM.drop (.cons_cons _ (.cons_cons _ (.cons_cons _ (.cons_cons _ (.cons_cons _ (.cons_cons _ (.cons_cons _ (.cons _ .slnil))))))))).pick [1, 2, 3, 4, 5, 6, 7, 8, 9, 10] rfl, hv119, (chk_R hz137)⟩
  refine cond_f hf rfl hc106 ?_
  refine wp_exit ?_
  refine then_x ?_
  obtain rfl := some_inj h104
  obtain rfl := hd105 _ rfl
  try dsimp only at h78
  refine then_x ?_
  refine exit_hit ?_
  obtain rfl := some_inj h78
  refine then_n ?_
  exact ⟨mp80, xs83, xs86, b81, A84, c85, A87, c88, rfl, hf.keep ⟨rfl, rfl, rfl, trivial⟩, hM.pick [0, 1, 2, 3, 4, 5, 6, 7, 8, 9] rfl, hv82⟩
 rintro a w143 ⟨mp68, xs71, xs74, b69, A72, c73, A75, c76, rfl, hf, hM, hv70⟩
 try dsimp only at h
 refine wp_seq ?_
 refine region_pl ?_
 refine q_ hf rfl rfl rfl (e_field hf rfl Tryz.underlying31 rfl Tryz.sizeOf29 (o' := 0) rfl) fun a hf => ?_
 refine q_ hf rfl rfl rfl (e_load1 hf rfl Tryz.isAgg29 (hM.boxCell (k := 5) rfl rfl)) fun a hf => ?_
 iterate 2 refine q_ hf rfl rfl rfl (e_move hf rfl) fun a hf => ?_
 obtain ⟨e144, hz145, h⟩ := bind_some h
 obtain ⟨b150, _, hA151, h146, h147, hr148, hcell149⟩ := hM.rowElemN (k := 6) rfl (n := 3) rfl hz145
 obtain ⟨A153, c154, rfl, hv152, hv155⟩ := NodeRep_open hr148
 have hM := hM.add (y := .dat (sliceRep intRep) e144.Next [vL A153 e144.Next c154]) hv155
 refine q_ hf rfl rfl rfl (e_indexAddr (A := A72) (b := b150) (o := 0) (xs := xs71) (i := (p7.Nodes.length : Int)) hf hA151 rfl rfl Tryz.underlying29 Tryz.sizeOf47 h146 h147) fun a hf => ?_
 refine q_ hf rfl rfl rfl (e_field hf rfl Tryz.underlying47 rfl Tryz.sizeOf45 (o' := (0 + ((p7.Nodes.length : Int) : Int).toNat * 3) + 2) rfl) fun a hf => ?_
 have hM := hM.freezeRow (k := 0) rfl rfl
 dsimp only [List.eraseIdx] at hM
 obtain ⟨xs157, hz158, h⟩ := bind_some h
 refine pl_0 hf rfl rfl (w_storePart hf hM (x := (⟨e144.Final, e144.Letters, xs74⟩ : Node)) (us := [vL A75 (xs74) c76]) (row := [.bool (e144.Final), vS (e144.Letters), vL A153 (e144.Next) c154]) (i := (p7.Nodes.length : Int)) (d := 2) rfl rfl rfl hA151 (k := 5) rfl rfl Tryz.sizeOf45 hcell149 (NodeRep_mk (x := (⟨e144.Final, e144.Letters, xs74⟩ : Node)) hv152 (hM.dat (k := 0) rfl)) hz158 rfl rfl fun w156 hM => ?_)
 dsimp only [List.set] at hM
 have hf := hf.alter (d := 61) (v := vL A72 (xs157) c73) rfl (vL_len (setL_len hz158))
 rw [vL_len (A := A72) (c := c73) (setL_len hz158)] at hM
 refine pl_nil ?_
 refine then_n ?_
 refine wp_seq ?_
 refine region_pl ?_
 refine q_ hf rfl rfl rfl (e_move hf rfl) fun a hf => ?_
 refine q_ hf rfl rfl rfl (e_assign hf rfl) fun a hf => ?_
 refine pl_nil ?_
 refine then_n ?_
 refine wp_ret ?_
 obtain rfl := some_inj h
 have hM := hM.front (k := 5) rfl
 dsimp only [List.eraseIdx] at hM
 have hM := hM.front (k := 5) rfl
 dsimp only [List.eraseIdx] at hM
 have hM := hM.front (k := 5) rfl
 dsimp only [List.eraseIdx] at hM
 have hM := hM.front (k := 5) rfl
 dsimp only [List.eraseIdx] at hM
 have hM := hM.outs (own' := [.box b4 [vM b69] 139, .obj b69 (mapO fI fI mp68), .box b8 [vL A72 (xs157) c73] 31, .row NodeRep A72 c73 47 xs157 true]) 4 rfl
 exact leave1 hf rfl rfl ⟨b69, A72, c73, rfl, hM.fin, hv70, (R64_len hl20)⟩
theorem r_impl_maker_numbered_1_n : ∀ n, Ct_impl_maker_numbered_1 (m_impl_maker_numbered_1_n n)
  | 0 => fun C k1 hp2 p3 b4 b5 hp6 p7 b8 A9 c10 p11 b12 o13 hp14 b16 o17 hp18 hO hd r h => by cases h
  | n + 1 => r_impl_maker_numbered_1_b _ (r_impl_maker_numbered_1_n n)
theorem r_impl_maker_numbered_1 : Ct_impl_maker_numbered_1 (m_impl_maker_numbered_1) := r_impl_maker_numbered_1_n fuelN
theorem r_impl_maker_numbered (C : Cx) (m1 : maker) (b2 : Nat) (o3 : Nat) (hp4 : (ptrRep makerRep).R C.w0 C.S0 m1 [vP b2 o3]) (root5 : Int) (hp6 : R64 root5) (r : Dawg) (h : m_impl_maker_numbered m1 root5 = some r) :
    Calls Tryz.prog 59 #[vP b2 (o3), vI (root5)] C.w0 fun e w => ∃ (A_1 : Option Addr), ∃ (c_1 : Nat), e = .returned (.agg #[vL A_1 (r.Nodes) c_1]) ∧ Mem C w [.row NodeRep A_1 c_1 47 r.Nodes true] [] := by
 have hM := Mem.begin C [.dat (ptrRep makerRep) m1 [vP b2 o3]] ⟨hp4, trivial⟩
 refine enter Tryz.func59 rfl Tryz.ntmps59 rfl fun a hf => ?_
 unfold m_impl_maker_numbered at h
 refine wp_seq ?_
 refine region_pl ?_
 refine pl_l hf rfl rfl rfl (w_box hf hM (cs := [vP b2 (o3)]) rfl rfl fun b7 w8 hx9 hM a hf => ?_)
 refine pl_l hf rfl rfl rfl (w_alloc hM (cs := [vL none (([] : (List Node))) 0]) Tryz.zeroValue31 rfl fun b11 w12 hx13 hM a hf => ?_)
 refine pl_nil ?_
 refine then_n ?_
 refine wp_seq ?_
 refine region_pl ?_
 refine q_ hf rfl rfl rfl (e_build hf Tryz.zeroValue31 Tryz.underlying31 (bp_31 _ Tryz.underlying31.symm) rfl (cs := #[vL none (([] : (List Node))) 0]) (by kernel_rfl)) fun a hf => ?_
 refine pl_l hf rfl rfl rfl (w_makeMap fI fI hM fun b15 w16 hx17 hM a hf => ?_)
 refine pl_l hf rfl rfl rfl (w_alloc hM (cs := [vL none (([] : (List Node))) 0]) Tryz.zeroValue31 rfl fun b18 w19 hx20 hM a hf => ?_)
 refine pl_l hf rfl rfl rfl (w_alloc hM (cs := [.map none]) Tryz.zeroValue139 rfl fun b22 w23 hx24 hM a hf => ?_)
 refine pl_0 hf rfl rfl (w_store hf hM (us := [vL none (([] : (List Node))) 0]) (cs' := [vL none (([] : (List Node))) 0]) rfl rfl (k := 1) rfl rfl Tryz.sizeOf31 rfl rfl rfl fun w26 hM => ?_)
 dsimp only [List.set] at hM
 refine pl_0 hf rfl rfl (w_store hf hM (us := [vM b15]) (cs' := [vM b15]) rfl rfl (k := 0) rfl rfl Tryz.sizeOf139 rfl rfl rfl fun w29 hM => ?_)
 dsimp only [List.set] at hM
 refine pl_nil ?_
 refine then_n ?_
 refine wp_seq ?_
 refine region_pl ?_
 refine pl_l hf rfl rfl rfl (w_alloc hM (cs := [.nilFunc]) Tryz.zeroValue101 rfl fun b32 w33 hx34 hM a hf => ?_)
 refine pl_nil ?_
 refine then_n ?_
 refine wp_seq ?_
 refine region_pl ?_
 refine q_ hf rfl rfl rfl (w_makeFunc hf rfl) fun a hf => ?_
 refine pl_0 hf rfl rfl (w_store hf hM (us := [.func (.func 89) #[] #[vP b22 (0), vP b18 (0), vP b7 (0), vP b32 (0)]]) (cs' := [.func (.func 89) #[] #[vP b22 (0), vP b18 (0), vP b7 (0), vP b32 (0)]]) rfl rfl (k := 0) rfl rfl Tryz.sizeOf101 rfl rfl rfl fun w36 hM => ?_)
 dsimp only [List.set] at hM
 refine pl_nil ?_
 refine then_n ?_
 refine wp_seq ?_
 refine region_pl ?_
 refine q_ hf rfl rfl rfl (e_load1 hf rfl Tryz.isAgg101 (hM.boxCell (k := 0) rfl rfl)) fun a hf => ?_
 refine q_ hf rfl rfl rfl (e_move hf rfl) fun a hf => ?_
 have hM := hM.freezeBox (k := 0) rfl rfl
 dsimp only [List.eraseIdx] at hM
 have hM := hM.nilRow NodeRep 47
 have hM := hM.freezeBox (k := 5) rfl rfl
 dsimp only [List.eraseIdx] at hM
 have hM := hM.front (k := 0) rfl
 dsimp only [List.eraseIdx] at hM
 have hM := hM.front (k := 2) rfl
 dsimp only [List.eraseIdx] at hM
 have hM := hM.front (k := 3) rfl
 dsimp only [List.eraseIdx] at hM
 have hM := hM.front (k := 3) rfl
 dsimp only [List.eraseIdx] at hM
 have hM : Mem C _ ([.box b22 [vM b15] 139, .obj b15 (mapO fI fI ([] : (List (Int × Int)))), .box b18 [vL none (([] : (List Node))) 0] 31, .row NodeRep none 0 47 ([] : (List Node)) true] ++ [.box b11 [vL none (([] : (List Node))) 0] 31]) _ := hM
 obtain ⟨y39, hz40, h⟩ := bind_some h
 refine pl_l hf rfl rfl rfl (w_callV hf (fk := 89) (fc := [vP b22 (0), vP b18 (0), vP b7 (0), vP b32 (0)]) rfl Tryz.call89 rfl (r_impl_maker_numbered_1 ⟨_, Sh C _ _, ownB _, hM.sh_lt, sub_dis, C.G, hM.g_lt, hM.g_own, hM.tabs⟩ root5 hp6 ([] : (List (Int × Int))) _ _ MapR.nil (⟨([] : (List Node))⟩ : Dawg) _ _ _ m1 _ _ (hM.litPtr (k := 0) (d := 0) (us := [vP b2 (o3)]) rfl rfl rfl (hM.dat (k := 2) rfl)) _ _ (hM.at_ (k := 1) rfl) hM.sub sub_dis _ hz40) ?_)
 rintro _ w46 ⟨b41, A43, c44, rfl, hM2, hv42, hv45⟩
 obtain ⟨hM, hup48⟩ := hM.backG hM2
 dsimp only [List.cons_append, List.nil_append] at hM hup48
 clear hM2
 refine ⟨_, rfl, fun a hf => ?_⟩
 refine pl_nil ?_
 refine then_n ?_
 refine wp_seq ?_
 refine region_pl ?_
 refine q_ hf rfl rfl rfl (e_loadA hf (us := [vL A43 (y39.2.2.Nodes) c44]) rfl ⟨Tryz.isAgg31, Tryz.sizeOf31⟩ rfl (hM.boxSub (k := 2) (us := [vL A43 (y39.2.2.Nodes) c44]) (o := 0) rfl rfl)) fun a hf => ?_
 refine pl_0 hf rfl rfl (w_store hf hM (us := [vL A43 (y39.2.2.Nodes) c44]) (cs' := [vL A43 (y39.2.2.Nodes) c44]) rfl rfl (k := 4) rfl rfl Tryz.sizeOf31 rfl rfl rfl fun w49 hM => ?_)
 dsimp only [List.set] at hM
 refine pl_nil ?_
 refine then_n ?_
 refine wp_ret ?_
 obtain rfl := some_inj h
 have hres52 := leaveV1 (P := Tryz.prog) (w := w49) Tryz.results59 (res_agg hf rfl ⟨Tryz.isAgg31, Tryz.sizeOf31⟩ (us := [vL A43 (y39.2.2.Nodes) c44]) rfl (hM.boxSub (k := 4) (o := 0) rfl rfl))
 have hM := hM.front (k := 3) rfl
 dsimp only [List.eraseIdx] at hM
 have hM := hM.outs (own' := [.row NodeRep A43 c44 47 y39.2.2.Nodes true]) 1 rfl
 exact bodyPost_ret hres52 hf.defers ⟨A43, c44, rfl, hM.fin⟩
theorem r_impl_dawgOf (C : Cx) (list1 : (List Str)) (A2 : Option Addr) (c3 : Nat) (hp4 : (sliceRep strRep).R C.w0 C.S0 list1 [vL A2 list1 c3]) (r : (Dawg × Int)) (h : m_impl_dawgOf list1 = some r) :
    Calls Tryz.prog 30 #[vL A2 (list1) c3] C.w0 fun e w => ∃ (A_1 : Option Addr), ∃ (c_1 : Nat), e = .returned (.tuple #[.agg #[vL A_1 (r.1.Nodes) c_1], vI (r.2)]) ∧ Mem C w [.row NodeRep A_1 c_1 47 r.1.Nodes true] [] ∧ R64 r.2 := by
 have hM := Mem.begin C [.dat (sliceRep strRep) list1 [vL A2 list1 c3]] ⟨hp4, trivial⟩
 refine enter Tryz.func30 rfl Tryz.ntmps30 rfl fun a hf => ?_
 unfold m_impl_dawgOf at h
 refine wp_seq ?_
 refine region_pl ?_
 refine pl_l hf rfl rfl rfl (w_alloc hM (cs := [vL none (([] : (List Node))) 0]) Tryz.zeroValue31 rfl fun b5 w6 hx7 hM a hf => ?_)
 refine q_ hf rfl rfl rfl (e_assign hf rfl) fun a hf => ?_
 refine pl_nil ?_
 refine then_n ?_
 iterate 2 refine wp_seq ?_
 refine region_pl ?_
 refine q_ hf rfl rfl rfl (e_move hf rfl) fun a hf => ?_
 have hl9 := slice_len (hM.dat (k := 0) rfl)
 refine q_ hf rfl rfl rfl (e_lenL hf (x := list1) rfl Tryz.underlying24) fun a hf => ?_
 refine q_ hf rfl rfl rfl (e_gt hf (x := (list1.length : Int)) (y := 3000) rfl rfl) fun a hf => ?_
 refine pl_nil ?_
 refine then_n ?_
 rcases cond_some h with ⟨hc10, h⟩ | ⟨hc10, h⟩
 ·refine cond_t hf rfl hc10 ?_
  refine wp_seq ?_
  refine region_pl ?_
  refine q_ hf rfl rfl rfl (e_build hf Tryz.zeroValue31 Tryz.underlying31 (bp_31 _ Tryz.underlying31.symm) rfl (cs := #[vL none (([] : (List Node))) 0]) (by kernel_rfl)) fun a hf => ?_
  refine pl_0 hf rfl rfl (w_store hf hM (us := [vL none (([] : (List Node))) 0]) (cs' := [vL none (([] : (List Node))) 0]) rfl rfl (k := 0) rfl rfl Tryz.sizeOf31 rfl rfl rfl fun w11 hM => ?_)
  dsimp only [List.set] at hM
  refine q_ hf rfl rfl rfl (e_assign hf rfl) fun a hf => ?_
  refine pl_nil ?_
  refine then_n ?_
  refine wp_ret ?_
  refine then_r ?_
  obtain rfl := some_inj h
  have hres14 := leaveV2 (P := Tryz.prog) (w := w11) Tryz.results30 (res_agg hf rfl ⟨Tryz.isAgg31, Tryz.sizeOf31⟩ (us := [vL none (([] : (List Node))) 0]) rfl (hM.boxSub (k := 0) (o := 0) rfl rfl)) (res_tmp hf rfl)
  have hM := hM.nilRow NodeRep 47
  have hM := hM.outs (own' := [.row NodeRep none 0 47 ([] : (List Node)) true]) 1 rfl
  exact bodyPost_ret hres14 hf.defers ⟨none, 0, rfl, hM.fin, (R64_lit rfl)⟩
 refine cond_f hf rfl hc10 ?_
 refine wp_skip ?_
 refine then_n ?_
 refine wp_seq ?_
 refine region_pl ?_
 refine pl_l hf rfl rfl rfl (w_makeMap fS fI hM fun b15 w16 hx17 hM a hf => ?_)
 refine q_ hf rfl rfl rfl (e_build hf Tryz.zeroValue109 Tryz.underlying109 (bp_109 _ Tryz.underlying109.symm) rfl (cs := #[vL none (([] : (List Node))) 0, vM b15]) (by kernel_rfl)) fun a hf => ?_
 refine pl_l hf rfl rfl rfl (w_box hf hM (cs := [vL none (([] : (List Node))) 0, vM b15]) rfl rfl fun b18 w19 hx20 hM a hf => ?_)
 refine q_ hf rfl rfl rfl (e_assign hf rfl) fun a hf => ?_
 refine pl_nil ?_
 refine then_n ?_
 refine wp_seq ?_
 refine region_pl ?_
 iterate 3 refine q_ hf rfl rfl rfl (e_move hf rfl) fun a hf => ?_
 have hM := hM.nilRow NodeRep 47
 have hM := hM.front (k := 2) rfl
 dsimp only [List.eraseIdx] at hM
 have hM := hM.front (k := 1) rfl
 dsimp only [List.eraseIdx] at hM
 have hM := hM.front (k := 2) rfl
 dsimp only [List.eraseIdx] at hM
 have hM : Mem C _ ([.box b18 [vL none (([] : (List Node))) 0, vM b15] 109, .row NodeRep none 0 47 ([] : (List Node)) true, .obj b15 (mapO fS fI ([] : (List (Str × Int))))] ++ [.box b5 [vL none (([] : (List Node))) 0] 31]) _ := hM
 obtain ⟨y22, hz23, h⟩ := bind_some h
 refine pl_l hf rfl rfl rfl (w_call hf Tryz.call60 rfl (r_impl_maker_build ⟨_, Sh C _ _, ownB _, hM.sh_lt, sub_dis, C.G, hM.g_lt, hM.g_own, hM.tabs⟩ (⟨([] : (List Node)), ([] : (List (Str × Int)))⟩ : maker) _ _ _ _ MapR.nil list1 _ _ (hM.dat (k := 0) rfl) 0 (R64_lit rfl) hM.sub sub_dis _ hz23) ?_)
 rintro _ w29 ⟨A24, c25, b26, rfl, hM2, hv27, hv28⟩
 obtain ⟨hM, hup31⟩ := hM.backG hM2
 dsimp only [List.cons_append, List.nil_append] at hM hup31
 clear hM2
 refine ⟨_, rfl, fun a hf => ?_⟩
 have hM := hM.freezeRow (k := 1) rfl rfl
 dsimp only [List.eraseIdx] at hM
 have hM := hM.freezeMap (k := 1) rfl
 dsimp only [List.eraseIdx] at hM
 have hM := hM.freezeBox (k := 0) rfl rfl
 dsimp only [List.eraseIdx] at hM
 obtain ⟨y32, hz33, h⟩ := bind_some h
 refine pl_l hf rfl rfl rfl (w_call hf Tryz.call59 rfl (r_impl_maker_numbered ⟨_, Sh C _ _, none_, hM.sh_lt, none_not, C.G, hM.g_lt, g_none, hM.tabs⟩ y22.2 _ _ (hM.litPtr (k := 0) (d := 0) (us := [vL A24 (y22.2.nodes) c25, vM b26]) rfl rfl rfl (makerRep_mk (x := y22.2) (hM.dat (k := 2) rfl) (hM.dat (k := 1) rfl))) y22.1 hv28 _ hz33) ?_)
 rintro _ w36 ⟨A34, c35, rfl, hM2⟩
 obtain ⟨hM, hx37, hup38⟩ := hM.back hM2
 dsimp only [List.cons_append, List.nil_append] at hM hup38
 clear hM2
 refine ⟨_, rfl, fun a hf => ?_⟩
 refine pl_l hf rfl rfl rfl (w_alloc hM (cs := [vL none (([] : (List Node))) 0]) Tryz.zeroValue31 rfl fun b39 w40 hx41 hM a hf => ?_)
 refine pl_0 hf rfl rfl (w_store hf hM (us := [vL A34 (y32.Nodes) c35]) (cs' := [vL A34 (y32.Nodes) c35]) rfl rfl (k := 0) rfl rfl Tryz.sizeOf31 rfl rfl rfl fun w43 hM => ?_)
 dsimp only [List.set] at hM
 refine pl_nil ?_
 refine then_n ?_
 iterate 2 refine wp_seq ?_
 refine region_pl ?_
 refine q_ hf rfl rfl rfl (e_field hf rfl Tryz.underlying31 rfl Tryz.sizeOf29 (o' := 0) rfl) fun a hf => ?_
 refine q_ hf rfl rfl rfl (e_load1 hf rfl Tryz.isAgg29 (hM.boxCell (k := 0) rfl rfl)) fun a hf => ?_
 have hl46 := row_len (hM.ownAt (k := 1) rfl)
 refine q_ hf rfl rfl rfl (e_lenL hf (x := y32.Nodes) rfl Tryz.underlying29) fun a hf => ?_
 refine q_ hf rfl rfl rfl (e_gt hf (x := (y32.Nodes.length : Int)) (y := 3000) rfl rfl) fun a hf => ?_
 refine pl_nil ?_
 refine then_n ?_
 rcases cond_some h with ⟨hc47, h⟩ | ⟨hc47, h⟩
 ·refine cond_t hf rfl hc47 ?_
  refine wp_seq ?_
  refine region_pl ?_
  refine q_ hf rfl rfl rfl (e_build hf Tryz.zeroValue31 Tryz.underlying31 (bp_31 _ Tryz.underlying31.symm) rfl (cs := #[vL none (([] : (List Node))) 0]) (by kernel_rfl)) fun a hf => ?_
  refine pl_0 hf rfl rfl (w_store hf hM (us := [vL none (([] : (List Node))) 0]) (cs' := [vL none (([] : (List Node))) 0]) rfl rfl (k := 2) rfl rfl Tryz.sizeOf31 rfl rfl rfl fun w48 hM => ?_)
  dsimp only [List.set] at hM
  refine q_ hf rfl rfl rfl (e_assign hf rfl) fun a hf => ?_
  refine pl_nil ?_
  refine then_n ?_
  refine wp_ret ?_
  refine then_r ?_
  obtain rfl := some_inj h
  have hres51 := leaveV2 (P := Tryz.prog) (w := w48) Tryz.results30 (res_agg hf rfl ⟨Tryz.isAgg31, Tryz.sizeOf31⟩ (us := [vL none (([] : (List Node))) 0]) rfl (hM.boxSub (k := 2) (o := 0) rfl rfl)) (res_tmp hf rfl)
  have hM := hM.nilRow NodeRep 47
  have hM := hM.outs (own' := [.row NodeRep none 0 47 ([] : (List Node)) true]) 1 rfl
  exact bodyPost_ret hres51 hf.defers ⟨none, 0, rfl, hM.fin, (R64_lit rfl)⟩
 refine cond_f hf rfl hc47 ?_
 refine wp_skip ?_
 refine then_n ?_
 refine wp_seq ?_
 refine region_pl ?_
 refine q_ hf rfl rfl rfl (e_loadA hf (us := [vL A34 (y32.Nodes) c35]) rfl ⟨Tryz.isAgg31, Tryz.sizeOf31⟩ rfl (hM.boxSub (k := 0) (us := [vL A34 (y32.Nodes) c35]) (o := 0) rfl rfl)) fun a hf => ?_
 refine pl_0 hf rfl rfl (w_store hf hM (us := [vL A34 (y32.Nodes) c35]) (cs' := [vL A34 (y32.Nodes) c35]) rfl rfl (k := 2) rfl rfl Tryz.sizeOf31 rfl rfl rfl fun w52 hM => ?_)
 dsimp only [List.set] at hM
 refine q_ hf rfl rfl rfl (e_assign hf rfl) fun a hf => ?_
 refine pl_nil ?_
 refine then_n ?_
 refine wp_ret ?_
 obtain rfl := some_inj h
 have hres55 := leaveV2 (P := Tryz.prog) (w := w52) Tryz.results30 (res_agg hf rfl ⟨Tryz.isAgg31, Tryz.sizeOf31⟩ (us := [vL A34 (y32.Nodes) c35]) rfl (hM.boxSub (k := 2) (o := 0) rfl rfl)) (res_tmp hf rfl)
 have hM := hM.front (k := 1) rfl
 dsimp only [List.eraseIdx] at hM
 have hM := hM.outs (own' := [.row NodeRep A34 c35 47 y32.Nodes true]) 1 rfl
 exact bodyPost_ret hres55 hf.defers ⟨A34, c35, rfl, hM.fin, (R64_lit rfl)⟩
theorem r_impl_fits (C : Cx) (list1 : (List Str)) (A2 : Option Addr) (c3 : Nat) (hp4 : (sliceRep strRep).R C.w0 C.S0 list1 [vL A2 list1 c3]) (r : Bool) (h : m_impl_fits list1 = some r) :
    Calls Tryz.prog 54 #[vL A2 (list1) c3] C.w0 fun e w => e = .returned (.bool (r)) ∧ Mem C w [] [] := by
 have hM := Mem.begin C [.dat (sliceRep strRep) list1 [vL A2 list1 c3]] ⟨hp4, trivial⟩
 refine enter Tryz.func54 rfl Tryz.ntmps54 rfl fun a hf => ?_
 unfold m_impl_fits at h
 refine wp_seq ?_
 refine region_pl ?_
 refine q_ hf rfl rfl rfl (e_assign hf rfl) fun a hf => ?_
 refine pl_nil ?_
 refine then_n ?_
 refine wp_seq ?_
 refine region_pl ?_
 refine q_ hf rfl rfl rfl (e_assign hf rfl) fun a hf => ?_
 refine pl_nil ?_
 refine then_n ?_
 obtain ⟨x7, h8, h⟩ := bind_some h
 refine seq_join (fun a w => ∃ (n5 : Int), n5 = x7 ∧ Has 33 a [(0, vL A2 (list1) c3), (3, vI (n5))] ∧ Mem C w [] [.dat (sliceRep strRep) list1 [vL A2 list1 c3]] ∧ R64 n5) ?_ ?_
 ·refine wp_seq ?_
  refine region_pl ?_
  refine q_ hf rfl rfl rfl (e_move hf rfl) fun a hf => ?_
  have hl9 := slice_len (hM.dat (k := 0) rfl)
  refine q_ hf rfl rfl rfl (e_lenL hf (x := list1) rfl Tryz.underlying24) fun a hf => ?_
  refine q_ hf rfl rfl rfl (e_move hf rfl) fun a hf => ?_
  refine pl_nil ?_
  refine then_n ?_
  refine wp_block ?_
  obtain ⟨x17, h18, h8⟩ := bind_some h8
  refine wp_loopM h18 (fun s a w => ∃ (n10 : Int) (n12 : Int), (n10, n12) = s ∧ Has 33 a [(0, vL A2 (list1) c3), (3, vI (n12)), (8, vL A2 (list1) c3), (9, vI ((list1.length : Int))), (10, vI (n10))] ∧ Mem C w [] [.dat (sliceRep strRep) list1 [vL A2 list1 c3]] ∧ R64 n10 ∧ R64 n12) ?_ ?_
  ·exact ⟨0, 1, rfl, hf.keep ⟨rfl, rfl, rfl, rfl, rfl, trivial⟩, hM.pick [0] rfl, (R64_lit rfl), (R64_lit rfl)⟩
  rintro s o19 a w14 ⟨n10, n12, rfl, hf, hM, hv11, hv13⟩ h20 hd21
  replace h20 : m_impl_fits_l1 list1 n10 n12 = some o19 := h20
  unfold m_impl_fits_l1 at h20
  refine wp_seq ?_
  refine region_pl ?_
  refine q_ hf rfl rfl rfl (e_lt hf (x := n10) (y := (list1.length : Int)) rfl rfl) fun a hf => ?_
  refine pl_nil ?_
  refine then_n ?_
  refine wp_seq ?_
  rcases cond_some h20 with ⟨hc22, h20⟩ | ⟨hc22, h20⟩
  ·refine cond_t hf rfl hc22 ?_
   refine wp_skip ?_
   refine then_n ?_
   refine wp_seq ?_
   refine wp_block ?_
   refine wp_seq ?_
   refine region_pl ?_
   obtain ⟨e23, hz24, h20⟩ := bind_some h20
   obtain ⟨b28, o29, _, hA30, h25, h26, hr27, hM⟩ := hM.elem (hM.dat (k := 0) rfl) (n := 1) rfl hz24
   obtain ⟨rfl, hv31⟩ := hr27
   refine q_ hf rfl rfl rfl (e_indexAddr (A := A2) (b := b28) (o := o29) (xs := list1) (i := n10) hf hA30 rfl rfl Tryz.underlying24 Tryz.sizeOf9 h25 h26) fun a hf => ?_
   refine q_ hf rfl rfl rfl (e_load1 hf rfl Tryz.isAgg9 (hM.litCell (k := 0) (j := 0) rfl rfl rfl)) fun a hf => ?_
   refine q_ hf rfl rfl rfl (e_assign hf rfl) fun a hf => ?_
   refine pl_nil ?_
   refine then_n ?_
   refine region_pl ?_
   iterate 2 refine q_ hf rfl rfl rfl (e_move hf rfl) fun a hf => ?_
   refine q_ hf rfl rfl rfl (e_lenS hf (x := e23) rfl Tryz.underlying9) fun a hf => ?_
   obtain ⟨z32, hz33, h20⟩ := bind_some h20
   refine q_ hf rfl rfl rfl (e_add hf rfl rfl hz33) fun a hf => ?_
   refine q_ hf rfl rfl rfl (e_assign hf rfl) fun a hf => ?_
   refine pl_nil ?_
   refine blk_n ?_
   refine then_n ?_
   refine region_pl ?_
   obtain ⟨z34, hz35, h20⟩ := bind_some h20
   refine q_ hf rfl rfl rfl (e_add hf rfl rfl hz35) fun a hf => ?_
   refine q_ hf rfl rfl rfl (e_move hf rfl) fun a hf => ?_
   refine pl_nil ?_
   obtain rfl := some_inj h20
   refine then_n ⟨_, rfl, ?_⟩
   exact ⟨z34, z32, rfl, hf.keep ⟨rfl, rfl, rfl, rfl, rfl, trivial⟩, hM.pick [1] rfl, (chk_R hz35), (chk_R hz33)⟩
  refine cond_f hf rfl hc22 ?_
  refine wp_exit ?_
  refine then_x ?_
  obtain rfl := some_inj h20
  obtain rfl := hd21 _ rfl
  try dsimp only at h8
  refine then_x ?_
  refine exit_hit ?_
  obtain rfl := some_inj h8
  refine then_n ?_
  exact ⟨n12, rfl, hf.keep ⟨rfl, rfl, trivial⟩, hM.pick [0] rfl, hv13⟩
 rintro a w41 ⟨n5, rfl, hf, hM, hv6⟩
 try dsimp only at h
 refine wp_seq ?_
 obtain ⟨x44, h45, h⟩ := bind_some h
 refine seq_join (fun a w => ∃ (t42 : Bool), t42 = x44 ∧ Has 33 a [(0, vL A2 (list1) c3), (25, .bool (t42))] ∧ Mem C w [] [.dat (sliceRep strRep) list1 [vL A2 list1 c3]]) ?_ ?_
 ·refine region_pl ?_
  refine q_ hf rfl rfl rfl (e_move hf rfl) fun a hf => ?_
  refine q_ hf rfl rfl rfl (e_le hf (x := n5) (y := 3000) rfl rfl) fun a hf => ?_
  refine q_ hf rfl rfl rfl (e_move hf rfl) fun a hf => ?_
  rcases cond_some h45 with ⟨hc46, h45⟩ | ⟨hc46, h45⟩
  ·refine gq (wanted_t hf rfl rfl rfl rfl hc46) hf rfl rfl (e_move hf rfl) fun a hf => ?_
   have hl47 := slice_len (hM.dat (k := 0) rfl)
   refine gq (wanted_t hf rfl rfl rfl rfl hc46) hf rfl rfl (e_lenL hf (x := list1) rfl Tryz.underlying24) fun a hf => ?_
   refine gq (wanted_t hf rfl rfl rfl rfl hc46) hf rfl rfl (e_le hf (x := (list1.length : Int)) (y := 3000) rfl rfl) fun a hf => ?_
   refine q_ hf rfl rfl rfl (e_pick_t hf rfl hc46 rfl) fun a hf => ?_
   refine pl_nil ?_
   obtain rfl := some_inj h45
   refine then_n ?_
   exact ⟨(decide ((list1.length : Int) ≤ 3000)), rfl, hf.keep ⟨rfl, rfl, trivial⟩, hM.pick [0] rfl⟩
  iterate 3 refine pl_gs (wanted_f hf rfl rfl rfl rfl hc46) hf rfl rfl fun a hf => ?_
  refine q_ hf rfl rfl rfl (e_pick_f hf rfl hc46 rfl) fun a hf => ?_
  refine pl_nil ?_
  obtain rfl := some_inj h45
  refine then_n ?_
  exact ⟨false, rfl, hf.keep ⟨rfl, rfl, trivial⟩, hM.pick [0] rfl⟩
 rintro a w50 ⟨t42, rfl, hf, hM⟩
 try dsimp only at h
 rcases cond_some h with ⟨hc51, h⟩ | ⟨hc51, h⟩
 ·refine cond_t hf rfl hc51 ?_
  refine wp_seq ?_
  refine region_pl ?_
  refine q_ hf rfl rfl rfl (e_assign hf rfl) fun a hf => ?_
  refine pl_nil ?_
  refine then_n ?_
  refine wp_ret ?_
  refine then_r ?_
  obtain rfl := some_inj h
  exact leave1 hf rfl rfl ⟨rfl, hM.fin⟩
 refine cond_f hf rfl hc51 ?_
 refine wp_skip ?_
 refine then_n ?_
 refine wp_seq ?_
 refine region_pl ?_
 refine q_ hf rfl rfl rfl (e_move hf rfl) fun a hf => ?_
 obtain ⟨y52, hz53, h⟩ := bind_some h
 refine pl_l hf rfl rfl rfl (w_call hf Tryz.call30 rfl (r_impl_dawgOf ⟨_, Sh C _ _, none_, hM.sh_lt, none_not, C.G, hM.g_lt, g_none, hM.tabs⟩ list1 _ _ (hM.dat (k := 0) rfl) _ hz53) ?_)
 rintro _ w57 ⟨A54, c55, rfl, hM2, hv56⟩
 obtain ⟨hM, hx58, hup59⟩ := hM.back hM2
 dsimp only [List.cons_append, List.nil_append] at hM hup59
 clear hM2
 refine ⟨_, rfl, fun a hf => ?_⟩
 refine q_ hf rfl rfl rfl (e_move hf rfl) fun a hf => ?_
 iterate 2 refine q_ hf rfl rfl rfl (e_extract hf rfl rfl) fun a hf => ?_
 refine pl_l hf rfl rfl rfl (w_alloc hM (cs := [vL none (([] : (List Node))) 0]) Tryz.zeroValue31 rfl fun b60 w61 hx62 hM a hf => ?_)
 refine pl_0 hf rfl rfl (w_store hf hM (us := [vL A54 (y52.1.Nodes) c55]) (cs' := [vL A54 (y52.1.Nodes) c55]) rfl rfl (k := 0) rfl rfl Tryz.sizeOf31 rfl rfl rfl fun w64 hM => ?_)
 dsimp only [List.set] at hM
 refine q_ hf rfl rfl rfl (e_assign hf rfl) fun a hf => ?_
 refine pl_nil ?_
 refine then_n ?_
 refine wp_seq ?_
 refine region_pl ?_
 refine q_ hf rfl rfl rfl (e_move hf rfl) fun a hf => ?_
 refine q_ hf rfl rfl rfl (e_eq hf (x := y52.2) (y := 0) rfl rfl) fun a hf => ?_
 refine q_ hf rfl rfl rfl (e_assign hf rfl) fun a hf => ?_
 refine pl_nil ?_
 refine then_n ?_
 refine wp_ret ?_
 obtain rfl := some_inj h
 have hM := hM.outs (own' := []) 0 rfl
 exact leave1 hf rfl rfl ⟨rfl, hM.fin⟩
theorem r_impl_ChangeDawg (C : Cx) (d1 : Dawg) (A2 : Option Addr) (c3 : Nat) (hp4 : (sliceRep NodeRep).R C.w0 C.S0 d1.Nodes [vL A2 d1.Nodes c3]) (less5 : (List Str)) (A6 : Option Addr) (c7 : Nat) (hp8 : (sliceRep strRep).R C.w0 C.S0 less5 [vL A6 less5 c7]) (more9 : (List Str)) (A10 : Option Addr) (c11 : Nat) (hp12 : (sliceRep strRep).R C.w0 C.S0 more9 [vL A10 more9 c11]) (r : (Dawg × Int)) (h : m_impl_ChangeDawg d1 less5 more9 = some r) :
    Calls Tryz.prog 24 #[.agg #[vL A2 (d1.Nodes) c3], vL A6 (less5) c7, vL A10 (more9) c11] C.w0 fun e w => ∃ (A_1 : Option Addr), ∃ (c_1 : Nat), e = .returned (.tuple #[.agg #[vL A_1 (r.1.Nodes) c_1], vI (r.2)]) ∧ Mem C w [.row NodeRep A_1 c_1 47 r.1.Nodes true] [] ∧ R64 r.2 := by
 have hM := Mem.begin C [.dat (sliceRep strRep) more9 [vL A10 more9 c11], .dat (sliceRep strRep) less5 [vL A6 less5 c7], .dat (sliceRep NodeRep) d1.Nodes [vL A2 d1.Nodes c3]] ⟨hp12, hp8, hp4, trivial⟩
 refine enter Tryz.func24 rfl Tryz.ntmps24 rfl fun a hf => ?_
 unfold m_impl_ChangeDawg at h
 refine wp_seq ?_
 refine region_pl ?_
 refine pl_l hf rfl rfl rfl (w_box hf hM (cs := [vL A2 (d1.Nodes) c3]) rfl rfl fun b13 w14 hx15 hM a hf => ?_)
 refine pl_l hf rfl rfl rfl (w_alloc hM (cs := [vL none (([] : (List Node))) 0]) Tryz.zeroValue31 rfl fun b17 w18 hx19 hM a hf => ?_)
 refine q_ hf rfl rfl rfl (e_assign hf rfl) fun a hf => ?_
 refine pl_nil ?_
 refine then_n ?_
 iterate 2 refine wp_seq ?_
 refine region_pl ?_
 refine q_ hf rfl rfl rfl (e_loadA hf (us := [vL A2 (d1.Nodes) c3]) rfl ⟨Tryz.isAgg31, Tryz.sizeOf31⟩ rfl (hM.boxSub (k := 1) (us := [vL A2 (d1.Nodes) c3]) (o := 0) rfl rfl)) fun a hf => ?_
 obtain ⟨y21, hz22, h⟩ := bind_some h
 refine pl_l hf rfl rfl rfl (w_call hf Tryz.call16 rfl (r_impl_ValidDawg ⟨_, Sh C _ _, none_, hM.sh_lt, none_not, C.G, hM.g_lt, g_none, hM.tabs⟩ d1 _ _ (hM.dat (k := 2) rfl) _ hz22) ?_)
 rintro _ w23 ⟨rfl, hM2⟩
 obtain ⟨hM, hx24, hup25⟩ := hM.back hM2
 dsimp only [List.cons_append, List.nil_append] at hM hup25
 clear hM2
 refine ⟨_, rfl, fun a hf => ?_⟩
 refine q_ hf rfl rfl rfl (e_not hf rfl) fun a hf => ?_
 refine pl_nil ?_
 refine then_n ?_
 rcases cond_some h with ⟨hc26, h⟩ | ⟨hc26, h⟩
 ·refine cond_t hf rfl hc26 ?_
  refine wp_seq ?_
  refine region_pl ?_
  refine q_ hf rfl rfl rfl (e_build hf Tryz.zeroValue31 Tryz.underlying31 (bp_31 _ Tryz.underlying31.symm) rfl (cs := #[vL none (([] : (List Node))) 0]) (by kernel_rfl)) fun a hf => ?_
  refine pl_0 hf rfl rfl (w_store hf hM (us := [vL none (([] : (List Node))) 0]) (cs' := [vL none (([] : (List Node))) 0]) rfl rfl (k := 0) rfl rfl Tryz.sizeOf31 rfl rfl rfl fun w27 hM => ?_)
  dsimp only [List.set] at hM
  refine q_ hf rfl rfl rfl (e_assign hf rfl) fun a hf => ?_
  refine pl_nil ?_
  refine then_n ?_
  refine wp_ret ?_
  refine then_r ?_
  obtain rfl := some_inj h
  have hres30 := leaveV2 (P := Tryz.prog) (w := w27) Tryz.results24 (res_agg hf rfl ⟨Tryz.isAgg31, Tryz.sizeOf31⟩ (us := [vL none (([] : (List Node))) 0]) rfl (hM.boxSub (k := 0) (o := 0) rfl rfl)) (res_tmp hf rfl)
  have hM := hM.nilRow NodeRep 47
  have hM := hM.outs (own' := [.row NodeRep none 0 47 ([] : (List Node)) true]) 1 rfl
  exact bodyPost_ret hres30 hf.defers ⟨none, 0, rfl, hM.fin, (R64_lit rfl)⟩
 refine cond_f hf rfl hc26 ?_
 refine wp_skip ?_
 refine then_n ?_
 refine wp_seq ?_
 refine region_pl ?_
 refine q_ hf rfl rfl rfl (e_loadA hf (us := [vL A2 (d1.Nodes) c3]) rfl ⟨Tryz.isAgg31, Tryz.sizeOf31⟩ rfl (hM.boxSub (k := 1) (us := [vL A2 (d1.Nodes) c3]) (o := 0) rfl rfl)) fun a hf => ?_
 obtain ⟨y31, hz32, h⟩ := bind_some h
 refine pl_l hf rfl rfl rfl (w_call hf Tryz.call31 rfl (r_impl_Dawg_words ⟨_, Sh C _ _, none_, hM.sh_lt, none_not, C.G, hM.g_lt, g_none, hM.tabs⟩ d1 _ _ (hM.dat (k := 2) rfl) _ hz32) ?_)
 rintro _ w35 ⟨A33, c34, rfl, hM2⟩
 obtain ⟨hM, hx36, hup37⟩ := hM.back hM2
 dsimp only [List.cons_append, List.nil_append] at hM hup37
 clear hM2
 refine ⟨_, rfl, fun a hf => ?_⟩
 refine q_ hf rfl rfl rfl (e_assign hf rfl) fun a hf => ?_
 refine pl_nil ?_
 refine then_n ?_
 obtain ⟨x41, h42, h⟩ := bind_some h
 refine seq_join (fun a w => ∃ (xs38 : (List Str)) (A39 : Option Addr) (c40 : Nat), (.inl xs38) = x41 ∧ Has 66 a [(6, vP b17 (0)), (8, vL A39 (xs38) c40)] ∧ Mem C w [.row strRep A39 c40 9 xs38 true, .box b17 [vL none (([] : (List Node))) 0] 31, .box b13 [vL A2 (d1.Nodes) c3] 31] [.dat (sliceRep strRep) more9 [vL A10 more9 c11], .dat (sliceRep strRep) less5 [vL A6 less5 c7], .dat (sliceRep NodeRep) d1.Nodes [vL A2 d1.Nodes c3]]) ?_ ?_
 ·refine wp_seq ?_
  refine region_pl ?_
  refine q_ hf rfl rfl rfl (e_assign hf rfl) fun a hf => ?_
  refine pl_nil ?_
  refine then_n ?_
  refine wp_block ?_
  obtain ⟨x52, h53, h42⟩ := bind_some h42
  refine wp_loopM h53 (fun s a w => ∃ (xs43 : (List Str)) (n46 : Int) (A44 : Option Addr) (c45 : Nat), (xs43, n46) = s ∧ Has 66 a [(1, vL A6 (less5) c7), (2, vL A10 (more9) c11), (6, vP b17 (0)), (8, vL A44 (xs43) c45), (9, vI (n46))] ∧ Mem C w [.row strRep A44 c45 9 xs43 true, .box b17 [vL none (([] : (List Node))) 0] 31, .box b13 [vL A2 (d1.Nodes) c3] 31] [.dat (sliceRep strRep) more9 [vL A10 more9 c11], .dat (sliceRep strRep) less5 [vL A6 less5 c7], .dat (sliceRep NodeRep) d1.Nodes [vL A2 d1.Nodes c3]] ∧ R64 n46) ?_ ?_
  ·exact ⟨y31, 0, A33, c34, rfl, hf.keep ⟨rfl, rfl, rfl, rfl, rfl, trivial⟩, hM.pick [0, 1, 2] rfl, (R64_lit rfl)⟩
  rintro s o54 a w48 ⟨xs43, n46, A44, c45, rfl, hf, hM, hv47⟩ h55 hd56
  replace h55 : m_impl_ChangeDawg_l1 less5 more9 xs43 n46 = some o54 := h55
  unfold m_impl_ChangeDawg_l1 at h55
  iterate 2 refine wp_seq ?_
  refine region_pl ?_
  iterate 2 refine q_ hf rfl rfl rfl (e_move hf rfl) fun a hf => ?_
  have hl57 := slice_len (hM.dat (k := 1) rfl)
  refine q_ hf rfl rfl rfl (e_lenL hf (x := less5) rfl Tryz.underlying24) fun a hf => ?_
  refine q_ hf rfl rfl rfl (e_move hf rfl) fun a hf => ?_
  have hl58 := slice_len (hM.dat (k := 0) rfl)
  refine q_ hf rfl rfl rfl (e_lenL hf (x := more9) rfl Tryz.underlying24) fun a hf => ?_
  obtain ⟨z59, hz60, h55⟩ := bind_some h55
  refine q_ hf rfl rfl rfl (e_add hf rfl rfl hz60) fun a hf => ?_
  refine q_ hf rfl rfl rfl (e_lt hf (x := n46) (y := z59) rfl rfl) fun a hf => ?_
  refine pl_nil ?_
  refine then_n ?_
  rcases cond_some h55 with ⟨hc61, h55⟩ | ⟨hc61, h55⟩
  ·refine cond_t hf rfl hc61 ?_
   refine wp_skip ?_
   refine then_n ?_
   refine wp_seq ?_
   refine wp_block ?_
   refine wp_seq ?_
   refine region_pl ?_
   refine q_ hf rfl rfl rfl (e_assign hf rfl) fun a hf => ?_
   refine pl_nil ?_
   refine then_n ?_
   obtain ⟨x68, h69, h55⟩ := bind_some h55
   refine seq_join (fun a w => ∃ (er62 : Int) (xs65 : (List Str)) (p63 : Value) (A66 : Option Addr) (c67 : Nat), (er62, xs65) = x68 ∧ Has 66 a [(1, vL A6 (less5) c7), (2, vL A10 (more9) c11), (6, vP b17 (0)), (8, vL A66 (xs65) c67), (9, vI (n46)), (10, p63)] ∧ Mem C w [.row strRep A66 c67 9 xs65 true, .box b17 [vL none (([] : (List Node))) 0] 31, .box b13 [vL A2 (d1.Nodes) c3] 31] [.dat (sliceRep strRep) more9 [vL A10 more9 c11], .dat (sliceRep strRep) less5 [vL A6 less5 c7], .dat (sliceRep NodeRep) d1.Nodes [vL A2 d1.Nodes c3]] ∧ ErrC C.w0 p63 er62) ?_ ?_
   ·refine wp_seq ?_
    refine region_pl ?_
    iterate 2 refine q_ hf rfl rfl rfl (e_move hf rfl) fun a hf => ?_
    have hl70 := slice_len (hM.dat (k := 1) rfl)
    refine q_ hf rfl rfl rfl (e_lenL hf (x := less5) rfl Tryz.underlying24) fun a hf => ?_
    refine q_ hf rfl rfl rfl (e_lt hf (x := n46) (y := (less5.length : Int)) rfl rfl) fun a hf => ?_
    refine pl_nil ?_
    refine then_n ?_
    rcases cond_some h69 with ⟨hc71, h69⟩ | ⟨hc71, h69⟩
    ·refine cond_t hf rfl hc71 ?_
     refine region_pl ?_
     iterate 3 refine q_ hf rfl rfl rfl (e_move hf rfl) fun a hf => ?_
     obtain ⟨e72, hz73, h69⟩ := bind_some h69
     obtain ⟨b77, o78, _, hA79, h74, h75, hr76, hM⟩ := hM.elem (hM.dat (k := 1) rfl) (n := 1) rfl hz73
     obtain ⟨rfl, hv80⟩ := hr76
     refine q_ hf rfl rfl rfl (e_indexAddr (A := A6) (b := b77) (o := o78) (xs := less5) (i := n46) hf hA79 rfl rfl Tryz.underlying24 Tryz.sizeOf9 h74 h75) fun a hf => ?_
     refine q_ hf rfl rfl rfl (e_load1 hf rfl Tryz.isAgg9 (hM.litCell (k := 0) (j := 0) rfl rfl rfl)) fun a hf => ?_
     have hM : Mem C _ ([.row strRep A44 c45 9 xs43 true] ++ [.box b17 [vL none (([] : (List Node))) 0] 31, .box b13 [vL A2 (d1.Nodes) c3] 31]) _ := hM
     obtain ⟨y81, hz82, h69⟩ := bind_some h69
     refine pl_l hf rfl rfl rfl (w_call hf Tryz.call51 rfl (r_impl_removed ⟨_, Sh C _ _, ownB _, hM.sh_lt, sub_dis, C.G, hM.g_lt, hM.g_own, hM.tabs⟩ xs43 _ _ e72 hv80 hM.sub sub_dis _ hz82) ?_)
     rintro _ w87 ⟨A83, c84, p85, rfl, hM2, hv86⟩
     replace hv86 := hM.errOut hv86
     obtain ⟨hM, hup89⟩ := hM.backG hM2
     dsimp only [List.cons_append, List.nil_append] at hM hup89
     clear hM2
     refine ⟨_, rfl, fun a hf => ?_⟩
     refine q_ hf rfl rfl rfl (e_move hf rfl) fun a hf => ?_
     iterate 2 refine q_ hf rfl rfl rfl (e_extract hf rfl rfl) fun a hf => ?_
     iterate 2 refine q_ hf rfl rfl rfl (e_assign hf rfl) fun a hf => ?_
     refine pl_nil ?_
     obtain rfl := some_inj h69
     refine then_n ?_
     exact ⟨y81.2, y81.1, p85, A83, c84, rfl, hf.keep ⟨rfl, rfl, rfl, rfl, rfl, rfl, trivial⟩, hM.pick [1, 2, 3] rfl, hv86⟩
    refine cond_f hf rfl hc71 ?_
    refine region_pl ?_
    iterate 4 refine q_ hf rfl rfl rfl (e_move hf rfl) fun a hf => ?_
    have hl91 := slice_len (hM.dat (k := 1) rfl)
    refine q_ hf rfl rfl rfl (e_lenL hf (x := less5) rfl Tryz.underlying24) fun a hf => ?_
    obtain ⟨z92, hz93, h69⟩ := bind_some h69
    refine q_ hf rfl rfl rfl (e_sub hf rfl rfl hz93) fun a hf => ?_
    obtain ⟨e94, hz95, h69⟩ := bind_some h69
    obtain ⟨b99, o100, _, hA101, h96, h97, hr98, hM⟩ := hM.elem (hM.dat (k := 0) rfl) (n := 1) rfl hz95
    obtain ⟨rfl, hv102⟩ := hr98
    refine q_ hf rfl rfl rfl (e_indexAddr (A := A10) (b := b99) (o := o100) (xs := more9) (i := z92) hf hA101 rfl rfl Tryz.underlying24 Tryz.sizeOf9 h96 h97) fun a hf => ?_
    refine q_ hf rfl rfl rfl (e_load1 hf rfl Tryz.isAgg9 (hM.litCell (k := 0) (j := 0) rfl rfl rfl)) fun a hf => ?_
    have hM : Mem C _ ([.row strRep A44 c45 9 xs43 true] ++ [.box b17 [vL none (([] : (List Node))) 0] 31, .box b13 [vL A2 (d1.Nodes) c3] 31]) _ := hM
    obtain ⟨y103, hz104, h69⟩ := bind_some h69
    refine pl_l hf rfl rfl rfl (w_call hf Tryz.call52 rfl (r_impl_added ⟨_, Sh C _ _, ownB _, hM.sh_lt, sub_dis, C.G, hM.g_lt, hM.g_own, hM.tabs⟩ xs43 _ _ e94 hv102 hM.sub sub_dis _ hz104) ?_)
    rintro _ w109 ⟨A105, c106, p107, rfl, hM2, hv108⟩
    replace hv108 := hM.errOut hv108
    obtain ⟨hM, hup111⟩ := hM.backG hM2
    dsimp only [List.cons_append, List.nil_append] at hM hup111
    clear hM2
    refine ⟨_, rfl, fun a hf => ?_⟩
    refine q_ hf rfl rfl rfl (e_move hf rfl) fun a hf => ?_
    iterate 2 refine q_ hf rfl rfl rfl (e_extract hf rfl rfl) fun a hf => ?_
    iterate 2 refine q_ hf rfl rfl rfl (e_assign hf rfl) fun a hf => ?_
    refine pl_nil ?_
    obtain rfl := some_inj h69
    refine then_n ?_
    exact ⟨y103.2, y103.1, p107, A105, c106, rfl, hf.keep ⟨rfl, rfl, rfl, rfl, rfl, rfl, trivial⟩, hM.pick [1, 2, 3] rfl, hv108⟩
   rintro a w113 ⟨er62, xs65, p63, A66, c67, rfl, hf, hM, hv64⟩
   try dsimp only at h55
   iterate 2 refine wp_seq ?_
   refine region_pl ?_
   refine q_ hf rfl rfl rfl (e_move hf rfl) fun a hf => ?_
   obtain ⟨y114, hz115, h55⟩ := bind_some h55
   refine pl_l hf rfl rfl rfl (w_call hf Tryz.call53 rfl (r_impl_codeOf ⟨_, Sh C _ _, none_, hM.sh_lt, none_not, C.G, hM.g_lt, g_none, hM.tabs⟩ er62 _ (hM.errIn hv64) _ hz115) ?_)
   rintro _ w117 ⟨rfl, hM2, hv116⟩
   obtain ⟨hM, hx118, hup119⟩ := hM.back hM2
   dsimp only [List.cons_append, List.nil_append] at hM hup119
   clear hM2
   refine ⟨_, rfl, fun a hf => ?_⟩
   refine q_ hf rfl rfl rfl (e_assign hf rfl) fun a hf => ?_
   refine pl_nil ?_
   refine then_n ?_
   refine wp_seq ?_
   refine region_pl ?_
   refine q_ hf rfl rfl rfl (e_move hf rfl) fun a hf => ?_
   refine q_ hf rfl rfl rfl (e_ne hf (x := y114) (y := 0) rfl rfl) fun a hf => ?_
   refine pl_nil ?_
   refine then_n ?_
   rcases cond_some h55 with ⟨hc120, h55⟩ | ⟨hc120, h55⟩
   ·refine cond_t hf rfl hc120 ?_
    refine wp_seq ?_
    refine region_pl ?_
    refine q_ hf rfl rfl rfl (e_build hf Tryz.zeroValue31 Tryz.underlying31 (bp_31 _ Tryz.underlying31.symm) rfl (cs := #[vL none (([] : (List Node))) 0]) (by kernel_rfl)) fun a hf => ?_
    refine q_ hf rfl rfl rfl (e_move hf rfl) fun a hf => ?_
    refine pl_0 hf rfl rfl (w_store hf hM (us := [vL none (([] : (List Node))) 0]) (cs' := [vL none (([] : (List Node))) 0]) rfl rfl (k := 1) rfl rfl Tryz.sizeOf31 rfl rfl rfl fun w121 hM => ?_)
    dsimp only [List.set] at hM
    refine q_ hf rfl rfl rfl (e_assign hf rfl) fun a hf => ?_
    refine pl_nil ?_
    refine then_n ?_
    refine wp_ret ?_
    refine then_r ?_
    refine blk_r ?_
    refine then_r ?_
    obtain rfl := some_inj h55
    obtain rfl := hd56 _ rfl
    try dsimp only at h42
    refine then_r ?_
    refine blk_r ?_
    obtain rfl := some_inj h42
    try dsimp only at h
    refine then_r ?_
    obtain rfl := some_inj h
    have hres126 := leaveV2 (P := Tryz.prog) (w := w121) Tryz.results24 (res_agg hf rfl ⟨Tryz.isAgg31, Tryz.sizeOf31⟩ (us := [vL none (([] : (List Node))) 0]) rfl (hM.boxSub (k := 1) (o := 0) rfl rfl)) (res_tmp hf rfl)
    have hM := hM.nilRow NodeRep 47
    have hM := hM.outs (own' := [.row NodeRep none 0 47 ([] : (List Node)) true]) 1 rfl
    exact bodyPost_ret hres126 hf.defers ⟨none, 0, rfl, hM.fin, hv116⟩
   refine cond_f hf rfl hc120 ?_
   refine wp_skip ?_
   refine then_n ?_
   refine wp_seq ?_
   refine region_pl ?_
   refine q_ hf rfl rfl rfl (e_move hf rfl) fun a hf => ?_
   obtain ⟨y127, hz128, h55⟩ := bind_some h55
   refine pl_l hf rfl rfl rfl (w_call hf Tryz.call54 rfl (r_impl_fits ⟨_, All C _ _, none_, hM.all_lt, none_not, C.G, hM.g_lt, g_none, hM.tabs⟩ xs65 _ _ (hM.lendRow (k := 0) rfl) _ hz128) ?_)
   rintro _ w129 ⟨rfl, hM2⟩
   obtain ⟨hM, hx130⟩ := hM.backA hM2
   clear hM2
   refine ⟨_, rfl, fun a hf => ?_⟩
   refine q_ hf rfl rfl rfl (e_not hf rfl) fun a hf => ?_
   refine pl_nil ?_
   refine then_n ?_
   rcases cond_some h55 with ⟨hc132, h55⟩ | ⟨hc132, h55⟩
   ·refine cond_t hf rfl hc132 ?_
    refine wp_seq ?_
    refine region_pl ?_
    refine q_ hf rfl rfl rfl (e_build hf Tryz.zeroValue31 Tryz.underlying31 (bp_31 _ Tryz.underlying31.symm) rfl (cs := #[vL none (([] : (List Node))) 0]) (by kernel_rfl)) fun a hf => ?_
    refine pl_0 hf rfl rfl (w_store hf hM (us := [vL none (([] : (List Node))) 0]) (cs' := [vL none (([] : (List Node))) 0]) rfl rfl (k := 1) rfl rfl Tryz.sizeOf31 rfl rfl rfl fun w133 hM => ?_)
    dsimp only [List.set] at hM
    refine q_ hf rfl rfl rfl (e_assign hf rfl) fun a hf => ?_
    refine pl_nil ?_
    refine then_n ?_
    refine wp_ret ?_
    refine blk_r ?_
    refine then_r ?_
    obtain rfl := some_inj h55
    obtain rfl := hd56 _ rfl
    try dsimp only at h42
    refine then_r ?_
    refine blk_r ?_
    obtain rfl := some_inj h42
    try dsimp only at h
    refine then_r ?_
    obtain rfl := some_inj h
    have hres138 := leaveV2 (P := Tryz.prog) (w := w133) Tryz.results24 (res_agg hf rfl ⟨Tryz.isAgg31, Tryz.sizeOf31⟩ (us := [vL none (([] : (List Node))) 0]) rfl (hM.boxSub (k := 1) (o := 0) rfl rfl)) (res_tmp hf rfl)
    have hM := hM.nilRow NodeRep 47
    have hM := hM.outs (own' := [.row NodeRep none 0 47 ([] : (List Node)) true]) 1 rfl
    exact bodyPost_ret hres138 hf.defers ⟨none, 0, rfl, hM.fin, (R64_lit rfl)⟩
   refine cond_f hf rfl hc132 ?_
   refine wp_skip ?_
   refine blk_n ?_
   refine then_n ?_
   refine region_pl ?_
   refine q_ hf rfl rfl rfl (e_move hf rfl) fun a hf => ?_
   obtain ⟨z139, hz140, h55⟩ := bind_some h55
   refine q_ hf rfl rfl rfl (e_add hf rfl rfl hz140) fun a hf => ?_
   refine q_ hf rfl rfl rfl (e_assign hf rfl) fun a hf => ?_
   refine pl_nil ?_
   obtain rfl := some_inj h55
   refine then_n ⟨_, rfl, ?_⟩
   exact ⟨xs65, z139, A66, c67, rfl, hf.keep ⟨rfl, rfl, rfl, rfl, rfl, trivial⟩, hM.pick [0, 1, 2] rfl, (chk_R hz140)⟩
  refine cond_f hf rfl hc61 ?_
  refine wp_exit ?_
  refine then_x ?_
  obtain rfl := some_inj h55
  obtain rfl := hd56 _ rfl
  try dsimp only at h42
  refine then_x ?_
  refine exit_hit ?_
  obtain rfl := some_inj h42
  refine then_n ?_
  exact ⟨xs43, A44, c45, rfl, hf.keep ⟨rfl, rfl, trivial⟩, hM.pick [0, 1, 2] rfl⟩
 rintro a w147 ⟨xs38, A39, c40, rfl, hf, hM⟩
 try dsimp only at h
 refine wp_seq ?_
 refine region_pl ?_
 refine q_ hf rfl rfl rfl (e_move hf rfl) fun a hf => ?_
 have hM := hM.freezeRow (k := 0) rfl rfl
 dsimp only [List.eraseIdx] at hM
 obtain ⟨y148, hz149, h⟩ := bind_some h
 refine pl_l hf rfl rfl rfl (w_call hf Tryz.call30 rfl (r_impl_dawgOf ⟨_, Sh C _ _, none_, hM.sh_lt, none_not, C.G, hM.g_lt, g_none, hM.tabs⟩ xs38 _ _ (hM.dat (k := 0) rfl) _ hz149) ?_)
 rintro _ w153 ⟨A150, c151, rfl, hM2, hv152⟩
 obtain ⟨hM, hx154, hup155⟩ := hM.back hM2
 dsimp only [List.cons_append, List.nil_append] at hM hup155
 clear hM2
 refine ⟨_, rfl, fun a hf => ?_⟩
 iterate 2 refine q_ hf rfl rfl rfl (e_extract hf rfl rfl) fun a hf => ?_
 refine pl_0 hf rfl rfl (w_store hf hM (us := [vL A150 (y148.1.Nodes) c151]) (cs' := [vL A150 (y148.1.Nodes) c151]) rfl rfl (k := 1) rfl rfl Tryz.sizeOf31 rfl rfl rfl fun w156 hM => ?_)
 dsimp only [List.set] at hM
 refine q_ hf rfl rfl rfl (e_assign hf rfl) fun a hf => ?_
 refine pl_nil ?_
 refine then_n ?_
 refine wp_ret ?_
 obtain rfl := some_inj h
 have hres159 := leaveV2 (P := Tryz.prog) (w := w156) Tryz.results24 (res_agg hf rfl ⟨Tryz.isAgg31, Tryz.sizeOf31⟩ (us := [vL A150 (y148.1.Nodes) c151]) rfl (hM.boxSub (k := 1) (o := 0) rfl rfl)) (res_tmp hf rfl)
 have hM := hM.outs (own' := [.row NodeRep A150 c151 47 y148.1.Nodes true]) 1 rfl
 exact bodyPost_ret hres159 hf.defers ⟨A150, c151, rfl, hM.fin, hv152⟩
theorem r_impl_AddToDawg (C : Cx) (d1 : Dawg) (A2 : Option Addr) (c3 : Nat) (hp4 : (sliceRep NodeRep).R C.w0 C.S0 d1.Nodes [vL A2 d1.Nodes c3]) (word5 : Str) (hp6 : word5.length ≤ maxLen) (r : (Dawg × Int)) (h : m_impl_AddToDawg d1 word5 = some r) :
    Calls Tryz.prog 20 #[.agg #[vL A2 (d1.Nodes) c3], vS (word5)] C.w0 fun e w => ∃ (A_1 : Option Addr), ∃ (c_1 : Nat), e = .returned (.tuple #[.agg #[vL A_1 (r.1.Nodes) c_1], vI (r.2)]) ∧ Mem C w [.row NodeRep A_1 c_1 47 r.1.Nodes true] [] ∧ R64 r.2 := by
 have hM := Mem.begin C [.dat (sliceRep NodeRep) d1.Nodes [vL A2 d1.Nodes c3]] ⟨hp4, trivial⟩
 refine enter Tryz.func20 rfl Tryz.ntmps20 rfl fun a hf => ?_
 unfold m_impl_AddToDawg at h
 refine wp_seq ?_
 refine region_pl ?_
 refine pl_l hf rfl rfl rfl (w_box hf hM (cs := [vL A2 (d1.Nodes) c3]) rfl rfl fun b7 w8 hx9 hM a hf => ?_)
 refine pl_l hf rfl rfl rfl (w_alloc hM (cs := [vL none (([] : (List Node))) 0]) Tryz.zeroValue31 rfl fun b11 w12 hx13 hM a hf => ?_)
 refine q_ hf rfl rfl rfl (e_assign hf rfl) fun a hf => ?_
 refine pl_nil ?_
 refine then_n ?_
 refine wp_seq ?_
 refine region_pl ?_
 refine q_ hf rfl rfl rfl (e_loadA hf (us := [vL A2 (d1.Nodes) c3]) rfl ⟨Tryz.isAgg31, Tryz.sizeOf31⟩ rfl (hM.boxSub (k := 1) (us := [vL A2 (d1.Nodes) c3]) (o := 0) rfl rfl)) fun a hf => ?_
 refine q_ hf rfl rfl rfl (e_move hf rfl) fun a hf => ?_
 refine pl_l hf rfl rfl rfl (w_slice hf hM (K := strRep) (xs := ([word5] : (List Str))) (os := [.tmp 7]) Tryz.underlying24 ei_9 rfl rfl rfl rfl rfl ⟨⟨[vS (word5)], rfl, ⟨rfl, hp6⟩⟩, trivial⟩ rfl fun b15 w16 hx17 hM a hf => ?_)
 have hM := hM.freezeRow (k := 0) rfl rfl
 dsimp only [List.eraseIdx] at hM
 obtain ⟨y18, hz19, h⟩ := bind_some h
 refine pl_l hf rfl rfl rfl (w_call hf Tryz.call24 rfl (r_impl_ChangeDawg ⟨_, Sh C _ _, none_, hM.sh_lt, none_not, C.G, hM.g_lt, g_none, hM.tabs⟩ d1 _ _ (hM.dat (k := 1) rfl) ([] : (List Str)) _ _ (nil_slice _ _ _) ([word5] : (List Str)) _ _ (hM.dat (k := 0) rfl) _ hz19) ?_)
 rintro _ w23 ⟨A20, c21, rfl, hM2, hv22⟩
 obtain ⟨hM, hx24, hup25⟩ := hM.back hM2
 dsimp only [List.cons_append, List.nil_append] at hM hup25
 clear hM2
 refine ⟨_, rfl, fun a hf => ?_⟩
 iterate 2 refine q_ hf rfl rfl rfl (e_extract hf rfl rfl) fun a hf => ?_
 refine pl_0 hf rfl rfl (w_store hf hM (us := [vL A20 (y18.1.Nodes) c21]) (cs' := [vL A20 (y18.1.Nodes) c21]) rfl rfl (k := 1) rfl rfl Tryz.sizeOf31 rfl rfl rfl fun w26 hM => ?_)
 dsimp only [List.set] at hM
 refine q_ hf rfl rfl rfl (e_assign hf rfl) fun a hf => ?_
 refine pl_nil ?_
 refine then_n ?_
 refine wp_ret ?_
 obtain rfl := some_inj h
 have hres29 := leaveV2 (P := Tryz.prog) (w := w26) Tryz.results20 (res_agg hf rfl ⟨Tryz.isAgg31, Tryz.sizeOf31⟩ (us := [vL A20 (y18.1.Nodes) c21]) rfl (hM.boxSub (k := 1) (o := 0) rfl rfl)) (res_tmp hf rfl)
 have hM := hM.outs (own' := [.row NodeRep A20 c21 47 y18.1.Nodes true]) 1 rfl
 exact bodyPost_ret hres29 hf.defers ⟨A20, c21, rfl, hM.fin, hv22⟩
theorem r_impl_RemoveFromDawg (C : Cx) (d1 : Dawg) (A2 : Option Addr) (c3 : Nat) (hp4 : (sliceRep NodeRep).R C.w0 C.S0 d1.Nodes [vL A2 d1.Nodes c3]) (word5 : Str) (hp6 : word5.length ≤ maxLen) (r : (Dawg × Int)) (h : m_impl_RemoveFromDawg d1 word5 = some r) :
    Calls Tryz.prog 21 #[.agg #[vL A2 (d1.Nodes) c3], vS (word5)] C.w0 fun e w => ∃ (A_1 : Option Addr), ∃ (c_1 : Nat), e = .returned (.tuple #[.agg #[vL A_1 (r.1.Nodes) c_1], vI (r.2)]) ∧ Mem C w [.row NodeRep A_1 c_1 47 r.1.Nodes true] [] ∧ R64 r.2 := by
 have hM := Mem.begin C [.dat (sliceRep NodeRep) d1.Nodes [vL A2 d1.Nodes c3]] ⟨hp4, trivial⟩
 refine enter Tryz.func21 rfl Tryz.ntmps21 rfl fun a hf => ?_
 unfold m_impl_RemoveFromDawg at h
 refine wp_seq ?_
 refine region_pl ?_
 refine pl_l hf rfl rfl rfl (w_box hf hM (cs := [vL A2 (d1.Nodes) c3]) rfl rfl fun b7 w8 hx9 hM a hf => ?_)
 refine pl_l hf rfl rfl rfl (w_alloc hM (cs := [vL none (([] : (List Node))) 0]) Tryz.zeroValue31 rfl fun b11 w12 hx13 hM a hf => ?_)
 refine q_ hf rfl rfl rfl (e_assign hf rfl) fun a hf => ?_
 refine pl_nil ?_
 refine then_n ?_
 refine wp_seq ?_
 refine region_pl ?_
 refine q_ hf rfl rfl rfl (e_loadA hf (us := [vL A2 (d1.Nodes) c3]) rfl ⟨Tryz.isAgg31, Tryz.sizeOf31⟩ rfl (hM.boxSub (k := 1) (us := [vL A2 (d1.Nodes) c3]) (o := 0) rfl rfl)) fun a hf => ?_
 refine q_ hf rfl rfl rfl (e_move hf rfl) fun a hf => ?_
 refine pl_l hf rfl rfl rfl (w_slice hf hM (K := strRep) (xs := ([word5] : (List Str))) (os := [.tmp 7]) Tryz.underlying24 ei_9 rfl rfl rfl rfl rfl ⟨⟨[vS (word5)], rfl, ⟨rfl, hp6⟩⟩, trivial⟩ rfl fun b15 w16 hx17 hM a hf => ?_)
 have hM := hM.freezeRow (k := 0) rfl rfl
 dsimp only [List.eraseIdx] at hM
 obtain ⟨y18, hz19, h⟩ := bind_some h
 refine pl_l hf rfl rfl rfl (w_call hf Tryz.call24 rfl (r_impl_ChangeDawg ⟨_, Sh C _ _, none_, hM.sh_lt, none_not, C.G, hM.g_lt, g_none, hM.tabs⟩ d1 _ _ (hM.dat (k := 1) rfl) ([word5] : (List Str)) _ _ (hM.dat (k := 0) rfl) ([] : (List Str)) _ _ (nil_slice _ _ _) _ hz19) ?_)
 rintro _ w23 ⟨A20, c21, rfl, hM2, hv22⟩
 obtain ⟨hM, hx24, hup25⟩ := hM.back hM2
 dsimp only [List.cons_append, List.nil_append] at hM hup25
 clear hM2
 refine ⟨_, rfl, fun a hf => ?_⟩
 iterate 2 refine q_ hf rfl rfl rfl (e_extract hf rfl rfl) fun a hf => ?_
 refine pl_0 hf rfl rfl (w_store hf hM (us := [vL A20 (y18.1.Nodes) c21]) (cs' := [vL A20 (y18.1.Nodes) c21]) rfl rfl (k := 1) rfl rfl Tryz.sizeOf31 rfl rfl rfl fun w26 hM => ?_)
 dsimp only [List.set] at hM
 refine q_ hf rfl rfl rfl (e_assign hf rfl) fun a hf => ?_
 refine pl_nil ?_
 refine then_n ?_
 refine wp_ret ?_
 obtain rfl := some_inj h
 have hres29 := leaveV2 (P := Tryz.prog) (w := w26) Tryz.results21 (res_agg hf rfl ⟨Tryz.isAgg31, Tryz.sizeOf31⟩ (us := [vL A20 (y18.1.Nodes) c21]) rfl (hM.boxSub (k := 1) (o := 0) rfl rfl)) (res_tmp hf rfl)
 have hM := hM.outs (own' := [.row NodeRep A20 c21 47 y18.1.Nodes true]) 1 rfl
 exact bodyPost_ret hres29 hf.defers ⟨A20, c21, rfl, hM.fin, hv22⟩
theorem r_spec_l06Same (C : Cx) (a1 : Dawg) (b2 : Nat) (o3 : Nat) (hp4 : (ptrRep DawgRep).R C.w0 C.S0 a1 [vP b2 o3]) (b5 : Dawg) (b6 : Nat) (o7 : Nat) (hp8 : (ptrRep DawgRep).R C.w0 C.S0 b5 [vP b6 o7]) (r : Bool) (h : m_spec_l06Same a1 b5 = some r) :
    Calls Tryz.prog 40 #[vP b2 (o3), vP b6 (o7)] C.w0 fun e w => e = .returned (.bool (r)) ∧ Mem C w [] [] := by
 have hM := Mem.begin C [.dat (ptrRep DawgRep) b5 [vP b6 o7], .dat (ptrRep DawgRep) a1 [vP b2 o3]] ⟨hp8, hp4, trivial⟩
 refine enter Tryz.func40 rfl Tryz.ntmps40 rfl fun a hf => ?_
 unfold m_spec_l06Same at h
 refine wp_seq ?_
 refine region_pl ?_
 refine q_ hf rfl rfl rfl (e_assign hf rfl) fun a hf => ?_
 refine pl_nil ?_
 refine then_n ?_
 iterate 2 refine wp_seq ?_
 obtain ⟨w9, hw⟩ : ∃ x, x = C.w0.drew := ⟨_, rfl⟩
 refine region_pi (.q 0 (.q 1 (.q 2 (.q 3 (.q 4 (.q 5 (.q 6 (.q 7 (.q 8 (.q 9 (.q 10 (.nil)))))))))))) (Ext w9) rfl (by kernel_rfl) ?_
 have hM := hM.drew
 rw [← hw] at hM ⊢
 clear hw
 refine pi_q hf rfl rfl rfl rfl (Ext.refl _) (e_move hf rfl) fun a hf => ?_
 refine pi_q hf rfl rfl rfl rfl (Ext.refl _) (e_nil hf rfl) fun a hf => ?_
 obtain ⟨_, hr10, hM⟩ := hM.deref (hM.dat (k := 1) rfl)
 obtain ⟨A11, c12, rfl, hv13⟩ := DawgRep_open hr10
 have hM := hM.add (y := .dat (sliceRep NodeRep) a1.Nodes [vL A11 a1.Nodes c12]) hv13
 refine pi_q hf rfl rfl rfl rfl (Ext.refl _) (e_field hf rfl Tryz.underlying31 rfl Tryz.sizeOf29 (o' := o3 + 0) rfl) fun a hf => ?_
 refine pi_q hf rfl rfl rfl rfl (Ext.refl _) (e_load1 hf rfl Tryz.isAgg29 (hM.litCell (k := 1) (j := 0) rfl rfl rfl)) fun a hf => ?_
 have hl14 := slice_len (hM.dat (k := 0) rfl)
 refine pi_q hf rfl rfl rfl rfl (Ext.refl _) (e_lenL hf (x := a1.Nodes) rfl Tryz.underlying29) fun a hf => ?_
 refine pi_q hf rfl rfl rfl rfl (Ext.refl _) (e_move hf rfl) fun a hf => ?_
 refine pi_q hf rfl rfl rfl rfl (Ext.refl _) (e_nil hf rfl) fun a hf => ?_
 obtain ⟨_, hr15, hM⟩ := hM.deref (hM.dat (k := 2) rfl)
 obtain ⟨A16, c17, rfl, hv18⟩ := DawgRep_open hr15
 have hM := hM.add (y := .dat (sliceRep NodeRep) b5.Nodes [vL A16 b5.Nodes c17]) hv18
 refine pi_q hf rfl rfl rfl rfl (Ext.refl _) (e_field hf rfl Tryz.underlying31 rfl Tryz.sizeOf29 (o' := o7 + 0) rfl) fun a hf => ?_
 refine pi_q hf rfl rfl rfl rfl (Ext.refl _) (e_load1 hf rfl Tryz.isAgg29 (hM.litCell (k := 1) (j := 0) rfl rfl rfl)) fun a hf => ?_
 have hl19 := slice_len (hM.dat (k := 0) rfl)
 refine pi_q hf rfl rfl rfl rfl (Ext.refl _) (e_lenL hf (x := b5.Nodes) rfl Tryz.underlying29) fun a hf => ?_
 refine pi_q hf rfl rfl rfl rfl (Ext.refl _) (e_ne hf (x := (a1.Nodes.length : Int)) (y := (b5.Nodes.length : Int)) rfl rfl) fun a hf => ?_
 refine pi_nil ?_
 refine then_n ?_
 rcases cond_some h with ⟨hc20, h⟩ | ⟨hc20, h⟩
 ·refine cond_t hf rfl hc20 ?_
  refine wp_seq ?_
  refine region_pl ?_
  refine q_ hf rfl rfl rfl (e_assign hf rfl) fun a hf => ?_
  refine pl_nil ?_
  refine then_n ?_
  refine wp_ret ?_
  refine then_r ?_
  obtain rfl := some_inj h
  exact leave1 hf rfl rfl ⟨rfl, hM.fin⟩
 refine cond_f hf rfl hc20 ?_
 refine wp_skip ?_
 refine then_n ?_
 obtain ⟨x21, h22, h⟩ := bind_some h
 refine seq_join (fun a w => (.inl ()) = x21 ∧ Has 40 a [] ∧ Mem C w [] [.dat (sliceRep NodeRep) b5.Nodes [vL A16 b5.Nodes c17], .lit b6 (o7) [vL A16 (b5.Nodes) c17], .dat (sliceRep NodeRep) a1.Nodes [vL A11 a1.Nodes c12], .lit b2 (o3) [vL A11 (a1.Nodes) c12], .dat (ptrRep DawgRep) b5 [vP b6 o7], .dat (ptrRep DawgRep) a1 [vP b2 o3]]) ?_ ?_
 ·refine wp_seq ?_
  refine region_pl ?_
  refine q_ hf rfl rfl rfl (e_assign hf rfl) fun a hf => ?_
  refine pl_nil ?_
  refine then_n ?_
  refine wp_block ?_
  obtain ⟨x26, h27, h22⟩ := bind_some h22
  refine wp_loopM h27 (fun s a w => ∃ (n23 : Int), n23 = s ∧ Has 40 a [(0, vP b2 (o3)), (1, vP b6 (o7)), (5, vI (n23))] ∧ Mem C w [] [.dat (sliceRep NodeRep) b5.Nodes [vL A16 b5.Nodes c17], .lit b6 (o7) [vL A16 (b5.Nodes) c17], .dat (sliceRep NodeRep) a1.Nodes [vL A11 a1.Nodes c12], .lit b2 (o3) [vL A11 (a1.Nodes) c12], .dat (ptrRep DawgRep) b5 [vP b6 o7], .dat (ptrRep DawgRep) a1 [vP b2 o3]] ∧ R64 n23) ?_ ?_
  ·exact ⟨0, rfl, hf.keep ⟨rfl, rfl, rfl, trivial⟩, hM.pick [0, 1, 2, 3, 4, 5] rfl, (R64_lit rfl)⟩
  rintro s o28 a w25 ⟨n23, rfl, hf, hM, hv24⟩ h29 hd30
  replace h29 : m_spec_l06Same_l1 a1 b5 n23 = some o28 := h29
  unfold m_spec_l06Same_l1 at h29
  iterate 2 refine wp_seq ?_
  refine region_pl ?_
  iterate 2 refine q_ hf rfl rfl rfl (e_move hf rfl) fun a hf => ?_
  refine q_ hf rfl rfl rfl (e_nil hf rfl) fun a hf => ?_
  refine q_ hf rfl rfl rfl (e_field hf rfl Tryz.underlying31 rfl Tryz.sizeOf29 (o' := o3 + 0) rfl) fun a hf => ?_
  refine q_ hf rfl rfl rfl (e_load1 hf rfl Tryz.isAgg29 (hM.litCell (k := 3) (j := 0) rfl rfl rfl)) fun a hf => ?_
  have hl31 := slice_len (hM.dat (k := 2) rfl)
  refine q_ hf rfl rfl rfl (e_lenL hf (x := a1.Nodes) rfl Tryz.underlying29) fun a hf => ?_
  refine q_ hf rfl rfl rfl (e_lt hf (x := n23) (y := (a1.Nodes.length : Int)) rfl rfl) fun a hf => ?_
  refine pl_nil ?_
  refine then_n ?_
  rcases cond_some h29 with ⟨hc32, h29⟩ | ⟨hc32, h29⟩
  ·refine cond_t hf rfl hc32 ?_
   refine wp_skip ?_
   refine then_n ?_
   refine wp_seq ?_
   refine wp_block ?_
   refine wp_seq ?_
   obtain ⟨w33, hw⟩ : ∃ x, x = w25.drew := ⟨_, rfl⟩
   refine region_pi (.q 0 (.q 1 (.q 2 (.q 3 (.q 4 (.q 5 (.q 6 (.q 7 (.q 8 (.q 9 (.q 10 (.q 11 (.l 12 (.q 13 (.nil))))))))))))))) (Ext w33) rfl (by kernel_rfl) ?_
   have hM := hM.drew
   rw [← hw] at hM ⊢
   clear hw
   refine pi_q hf rfl rfl rfl rfl (Ext.refl _) (e_move hf rfl) fun a hf => ?_
   refine pi_q hf rfl rfl rfl rfl (Ext.refl _) (e_nil hf rfl) fun a hf => ?_
   refine pi_q hf rfl rfl rfl rfl (Ext.refl _) (e_field hf rfl Tryz.underlying31 rfl Tryz.sizeOf29 (o' := o3 + 0) rfl) fun a hf => ?_
   refine pi_q hf rfl rfl rfl rfl (Ext.refl _) (e_load1 hf rfl Tryz.isAgg29 (hM.litCell (k := 3) (j := 0) rfl rfl rfl)) fun a hf => ?_
   refine pi_q hf rfl rfl rfl rfl (Ext.refl _) (e_move hf rfl) fun a hf => ?_
   obtain ⟨e34, hz35, h29⟩ := bind_some h29
   obtain ⟨b39, o40, _, hA41, h36, h37, hr38, hM⟩ := hM.elem (hM.dat (k := 2) rfl) (n := 3) rfl hz35
   obtain ⟨A43, c44, rfl, hv42, hv45⟩ := NodeRep_open hr38
   have hM := hM.add (y := .dat (sliceRep intRep) e34.Next [vL A43 e34.Next c44]) hv45
   refine pi_q hf rfl rfl rfl rfl (Ext.refl _) (e_indexAddr (A := A11) (b := b39) (o := o40) (xs := a1.Nodes) (i := n23) hf hA41 rfl rfl Tryz.underlying29 Tryz.sizeOf47 h36 h37) fun a hf => ?_
   refine pi_q hf rfl rfl rfl rfl (Ext.refl _) (e_move hf rfl) fun a hf => ?_
   refine pi_q hf rfl rfl rfl rfl (Ext.refl _) (e_nil hf rfl) fun a hf => ?_
   refine pi_q hf rfl rfl rfl rfl (Ext.refl _) (e_field hf rfl Tryz.underlying31 rfl Tryz.sizeOf29 (o' := o7 + 0) rfl) fun a hf => ?_
   refine pi_q hf rfl rfl rfl rfl (Ext.refl _) (e_load1 hf rfl Tryz.isAgg29 (hM.litCell (k := 3) (j := 0) rfl rfl rfl)) fun a hf => ?_
   refine pi_q hf rfl rfl rfl rfl (Ext.refl _) (e_move hf rfl) fun a hf => ?_
   obtain ⟨e46, hz47, h29⟩ := bind_some h29
   obtain ⟨b51, o52, _, hA53, h48, h49, hr50, hM⟩ := hM.elem (hM.dat (k := 2) rfl) (n := 3) rfl hz47
   obtain ⟨A55, c56, rfl, hv54, hv57⟩ := NodeRep_open hr50
   have hM := hM.add (y := .dat (sliceRep intRep) e46.Next [vL A55 e46.Next c56]) hv57
   refine pi_q hf rfl rfl rfl rfl (Ext.refl _) (e_indexAddr (A := A16) (b := b51) (o := o52) (xs := b5.Nodes) (i := n23) hf hA53 rfl rfl Tryz.underlying29 Tryz.sizeOf47 h48 h49) fun a hf => ?_
   refine pi_one ?_
   obtain ⟨y58, hz59, h29⟩ := bind_some h29
   refine pi_l hf rfl rfl rfl rfl (w_call hf Tryz.call68 rfl (r_spec_l06Equal ⟨_, Sh C _ _, none_, hM.sh_lt, none_not, C.G, hM.g_lt, g_none, hM.tabs⟩ e34 _ _ (hM.litPtr (k := 3) (d := 0) (us := [.bool (e34.Final), vS (e34.Letters), vL A43 (e34.Next) c44]) rfl rfl rfl (NodeRep_mk (x := e34) hv42 (hM.dat (k := 2) rfl))) e46 _ _ (hM.litPtr (k := 1) (d := 0) (us := [.bool (e46.Final), vS (e46.Letters), vL A55 (e46.Next) c56]) rfl rfl rfl (NodeRep_mk (x := e46) hv54 (hM.dat (k := 0) rfl))) _ hz59) ?_)
   rintro _ w60 ⟨rfl, hM2⟩
   obtain ⟨hM, hx61, hup62⟩ := hM.back hM2
   dsimp only [List.cons_append, List.nil_append] at hM hup62
   clear hM2
   refine ⟨_, rfl, Ext w60, fun _ h => Ext.trans hx61 h, Ext.refl _, fun a hf => ?_⟩
   refine pi_q hf rfl rfl rfl rfl (Ext.refl _) (e_not hf rfl) fun a hf => ?_
   refine pi_nil ?_
   refine then_n ?_
   rcases cond_some h29 with ⟨hc63, h29⟩ | ⟨hc63, h29⟩
   ·refine cond_t hf rfl hc63 ?_
    refine wp_seq ?_
    refine region_pl ?_
    refine q_ hf rfl rfl rfl (e_assign hf rfl) fun a hf => ?_
    refine pl_nil ?_
    refine then_n ?_
    refine wp_ret ?_
    refine blk_r ?_
    refine then_r ?_
    obtain rfl := some_inj h29
    obtain rfl := hd30 _ rfl
    try dsimp only at h22
    refine then_r ?_
    refine blk_r ?_
    obtain rfl := some_inj h22
    try dsimp only at h
    refine then_r ?_
    obtain rfl := some_inj h
    exact leave1 hf rfl rfl ⟨rfl, hM.fin⟩
   refine cond_f hf rfl hc63 ?_
   refine wp_skip ?_
   refine blk_n ?_
   refine then_n ?_
   refine region_pl ?_
   refine q_ hf rfl rfl rfl (e_move hf rfl) fun a hf => ?_
   obtain ⟨z64, hz65, h29⟩ := bind_some h29
   refine q_ hf rfl rfl rfl (e_add hf rfl rfl hz65) fun a hf => ?_
   refine q_ hf rfl rfl rfl (e_assign hf rfl) fun a hf => ?_
   refine pl_nil ?_
   obtain rfl := some_inj h29
   refine then_n ⟨_, rfl, ?_⟩
   exact ⟨z64, rfl, hf.keep ⟨rfl, rfl, rfl, trivial⟩, hM.pick [4, 5, 6, 7, 8, 9] rfl, (chk_R hz65)⟩
  refine cond_f hf rfl hc32 ?_
  refine wp_exit ?_
  refine then_x ?_
  obtain rfl := some_inj h29
  obtain rfl := hd30 _ rfl
  try dsimp only at h22
  refine then_x ?_
  refine exit_hit ?_
  obtain rfl := some_inj h22
  refine then_n ?_
  exact ⟨rfl, hf.keep trivial, hM.pick [0, 1, 2, 3, 4, 5] rfl⟩
 rintro a w72 ⟨rfl, hf, hM⟩
 try dsimp only at h
 refine wp_seq ?_
 refine region_pl ?_
 refine q_ hf rfl rfl rfl (e_assign hf rfl) fun a hf => ?_
 refine pl_nil ?_
 refine then_n ?_
 refine wp_ret ?_
 obtain rfl := some_inj h
 exact leave1 hf rfl rfl ⟨rfl, hM.fin⟩
theorem r_spec_SameDawg (C : Cx) (a1 : Dawg) (A2 : Option Addr) (c3 : Nat) (hp4 : (sliceRep NodeRep).R C.w0 C.S0 a1.Nodes [vL A2 a1.Nodes c3]) (b5 : Dawg) (A6 : Option Addr) (c7 : Nat) (hp8 : (sliceRep NodeRep).R C.w0 C.S0 b5.Nodes [vL A6 b5.Nodes c7]) (r : Bool) (h : m_spec_SameDawg a1 b5 = some r) :
    Calls Tryz.prog 15 #[.agg #[vL A2 (a1.Nodes) c3], .agg #[vL A6 (b5.Nodes) c7]] C.w0 fun e w => e = .returned (.bool (r)) ∧ Mem C w [] [] := by
 have hM := Mem.begin C [.dat (sliceRep NodeRep) b5.Nodes [vL A6 b5.Nodes c7], .dat (sliceRep NodeRep) a1.Nodes [vL A2 a1.Nodes c3]] ⟨hp8, hp4, trivial⟩
 refine enter Tryz.func15 rfl Tryz.ntmps15 rfl fun a hf => ?_
 unfold m_spec_SameDawg at h
 refine wp_seq ?_
 refine region_pl ?_
 refine pl_l hf rfl rfl rfl (w_box hf hM (cs := [vL A2 (a1.Nodes) c3]) rfl rfl fun b9 w10 hx11 hM a hf => ?_)
 refine pl_l hf rfl rfl rfl (w_box hf hM (cs := [vL A6 (b5.Nodes) c7]) rfl rfl fun b13 w14 hx15 hM a hf => ?_)
 refine q_ hf rfl rfl rfl (e_assign hf rfl) fun a hf => ?_
 refine pl_nil ?_
 refine then_n ?_
 refine wp_seq ?_
 refine region_pl ?_
 obtain ⟨y17, hz18, h⟩ := bind_some h
 refine pl_l hf rfl rfl rfl (w_call hf Tryz.call40 rfl (r_spec_l06Same ⟨_, All C _ _, none_, hM.all_lt, none_not, C.G, hM.g_lt, g_none, hM.tabs⟩ a1 _ _ (hM.lendBox (k := 1) rfl (DawgRep_mk (x := a1) (hM.lendDat (k := 1) rfl))) b5 _ _ (hM.lendBox (k := 0) rfl (DawgRep_mk (x := b5) (hM.lendDat (k := 0) rfl))) _ hz18) ?_)
 rintro _ w19 ⟨rfl, hM2⟩
 obtain ⟨hM, hx20⟩ := hM.backA hM2
 clear hM2
 refine ⟨_, rfl, fun a hf => ?_⟩
 refine q_ hf rfl rfl rfl (e_assign hf rfl) fun a hf => ?_
 refine pl_nil ?_
 refine then_n ?_
 refine wp_ret ?_
 obtain rfl := some_inj h
 have hM := hM.outs (own' := []) 0 rfl
 exact leave1 hf rfl rfl ⟨rfl, hM.fin⟩
theorem r_spec_l00In (C : Cx) (n1 : Int) (hp2 : R64 n1) (low3 : Int) (hp4 : R64 low3) (high5 : Int) (hp6 : R64 high5) (r : Bool) (h : m_spec_l00In n1 low3 high5 = some r) :
    Calls Tryz.prog 105 #[vI (n1), vI (low3), vI (high5)] C.w0 fun e w => e = .returned (.bool (r)) ∧ Mem C w [] [] := by
 have hM := Mem.begin C [] trivial
 refine enter Tryz.func105 rfl Tryz.ntmps105 rfl fun a hf => ?_
 unfold m_spec_l00In at h
 refine wp_seq ?_
 refine region_pl ?_
 refine q_ hf rfl rfl rfl (e_assign hf rfl) fun a hf => ?_
 refine pl_nil ?_
 refine then_n ?_
 obtain ⟨x9, h10, h⟩ := bind_some h
 refine seq_join (fun a w => ∃ (t7 : Bool), t7 = x9 ∧ Has 15 a [(6, .bool (t7))] ∧ Mem C w [] []) ?_ ?_
 ·refine region_pl ?_
  iterate 2 refine q_ hf rfl rfl rfl (e_move hf rfl) fun a hf => ?_
  refine q_ hf rfl rfl rfl (e_ge hf (x := n1) (y := low3) rfl rfl) fun a hf => ?_
  refine q_ hf rfl rfl rfl (e_move hf rfl) fun a hf => ?_
  rcases cond_some h10 with ⟨hc11, h10⟩ | ⟨hc11, h10⟩
  ·iterate 2 refine gq (wanted_t hf rfl rfl rfl rfl hc11) hf rfl rfl (e_move hf rfl) fun a hf => ?_
   refine gq (wanted_t hf rfl rfl rfl rfl hc11) hf rfl rfl (e_le hf (x := n1) (y := high5) rfl rfl) fun a hf => ?_
   refine q_ hf rfl rfl rfl (e_pick_t hf rfl hc11 rfl) fun a hf => ?_
   refine q_ hf rfl rfl rfl (e_assign hf rfl) fun a hf => ?_
   refine pl_nil ?_
   obtain rfl := some_inj h10
   refine then_n ?_
   exact ⟨(decide (n1 ≤ high5)), rfl, hf.keep ⟨rfl, trivial⟩, hM.pick [] rfl⟩
  iterate 3 refine pl_gs (wanted_f hf rfl rfl rfl rfl hc11) hf rfl rfl fun a hf => ?_
  refine q_ hf rfl rfl rfl (e_pick_f hf rfl hc11 rfl) fun a hf => ?_
  refine q_ hf rfl rfl rfl (e_assign hf rfl) fun a hf => ?_
  refine pl_nil ?_
  obtain rfl := some_inj h10
  refine then_n ?_
  exact ⟨false, rfl, hf.keep ⟨rfl, trivial⟩, hM.pick [] rfl⟩
 rintro a w14 ⟨t7, rfl, hf, hM⟩
 try dsimp only at h
 refine wp_ret ?_
 obtain rfl := some_inj h
 exact leave1 hf rfl rfl ⟨rfl, hM.fin⟩
theorem r_spec_l01Small (C : Cx) (c1 : UInt8) (r : Bool) (h : m_spec_l01Small c1 = some r) :
    Calls Tryz.prog 106 #[vB (c1)] C.w0 fun e w => e = .returned (.bool (r)) ∧ Mem C w [] [] := by
 have hM := Mem.begin C [] trivial
 refine enter Tryz.func106 rfl Tryz.ntmps106 rfl fun a hf => ?_
 unfold m_spec_l01Small at h
 refine wp_seq ?_
 refine region_pl ?_
 refine q_ hf rfl rfl rfl (e_assign hf rfl) fun a hf => ?_
 refine pl_nil ?_
 refine then_n ?_
 obtain ⟨x4, h5, h⟩ := bind_some h
 refine seq_join (fun a w => ∃ (t2 : Bool), t2 = x4 ∧ Has 9 a [(2, .bool (t2))] ∧ Mem C w [] []) ?_ ?_
 ·refine region_pl ?_
  refine q_ hf rfl rfl rfl (e_move hf rfl) fun a hf => ?_
  refine q_ hf rfl rfl rfl (e_geB hf (x := c1) (y := 97) rfl rfl) fun a hf => ?_
  refine q_ hf rfl rfl rfl (e_move hf rfl) fun a hf => ?_
  rcases cond_some h5 with ⟨hc6, h5⟩ | ⟨hc6, h5⟩
  ·refine gq (wanted_t hf rfl rfl rfl rfl hc6) hf rfl rfl (e_move hf rfl) fun a hf => ?_
   refine gq (wanted_t hf rfl rfl rfl rfl hc6) hf rfl rfl (e_leB hf (x := c1) (y := 122) rfl rfl) fun a hf => ?_
   refine q_ hf rfl rfl rfl (e_pick_t hf rfl hc6 rfl) fun a hf => ?_
   refine q_ hf rfl rfl rfl (e_assign hf rfl) fun a hf => ?_
   refine pl_nil ?_
   obtain rfl := some_inj h5
   refine then_n ?_
   exact ⟨(decide (c1 ≤ 122)), rfl, hf.keep ⟨rfl, trivial⟩, hM.pick [] rfl⟩
  iterate 2 refine pl_gs (wanted_f hf rfl rfl rfl rfl hc6) hf rfl rfl fun a hf => ?_
  refine q_ hf rfl rfl rfl (e_pick_f hf rfl hc6 rfl) fun a hf => ?_
  refine q_ hf rfl rfl rfl (e_assign hf rfl) fun a hf => ?_
  refine pl_nil ?_
  obtain rfl := some_inj h5
  refine then_n ?_
  exact ⟨false, rfl, hf.keep ⟨rfl, trivial⟩, hM.pick [] rfl⟩
 rintro a w9 ⟨t2, rfl, hf, hM⟩
 try dsimp only at h
 refine wp_ret ?_
 obtain rfl := some_inj h
 exact leave1 hf rfl rfl ⟨rfl, hM.fin⟩
theorem r_spec_l06Shape (C : Cx) (d1 : Dawg) (b2 : Nat) (o3 : Nat) (hp4 : (ptrRep DawgRep).R C.w0 C.S0 d1 [vP b2 o3]) (r : Bool) (h : m_spec_l06Shape d1 = some r) :
    Calls Tryz.prog 75 #[vP b2 (o3)] C.w0 fun e w => e = .returned (.bool (r)) ∧ Mem C w [] [] := by
 have hM := Mem.begin C [.dat (ptrRep DawgRep) d1 [vP b2 o3]] ⟨hp4, trivial⟩
 refine enter Tryz.func75 rfl Tryz.ntmps75 rfl fun a hf => ?_
 unfold m_spec_l06Shape at h
 refine wp_seq ?_
 refine region_pl ?_
 refine q_ hf rfl rfl rfl (e_assign hf rfl) fun a hf => ?_
 refine pl_nil ?_
 refine then_n ?_
 refine wp_seq ?_
 refine region_pl ?_
 refine q_ hf rfl rfl rfl (e_move hf rfl) fun a hf => ?_
 refine q_ hf rfl rfl rfl (e_nil hf rfl) fun a hf => ?_
 obtain ⟨_, hr5, hM⟩ := hM.deref (hM.dat (k := 0) rfl)
 obtain ⟨A6, c7, rfl, hv8⟩ := DawgRep_open hr5
 have hM := hM.add (y := .dat (sliceRep NodeRep) d1.Nodes [vL A6 d1.Nodes c7]) hv8
 refine q_ hf rfl rfl rfl (e_field hf rfl Tryz.underlying31 rfl Tryz.sizeOf29 (o' := o3 + 0) rfl) fun a hf => ?_
 refine q_ hf rfl rfl rfl (e_load1 hf rfl Tryz.isAgg29 (hM.litCell (k := 1) (j := 0) rfl rfl rfl)) fun a hf => ?_
 have hl9 := slice_len (hM.dat (k := 0) rfl)
 refine q_ hf rfl rfl rfl (e_lenL hf (x := d1.Nodes) rfl Tryz.underlying29) fun a hf => ?_
 refine q_ hf rfl rfl rfl (e_assign hf rfl) fun a hf => ?_
 refine pl_nil ?_
 refine then_n ?_
 iterate 2 refine wp_seq ?_
 refine region_pl ?_
 refine q_ hf rfl rfl rfl (e_move hf rfl) fun a hf => ?_
 obtain ⟨y10, hz11, h⟩ := bind_some h
 refine pl_l hf rfl rfl rfl (w_call hf Tryz.call105 rfl (r_spec_l00In ⟨_, Sh C _ _, none_, hM.sh_lt, none_not, C.G, hM.g_lt, g_none, hM.tabs⟩ (d1.Nodes.length : Int) (R64_len hl9) 1 (R64_lit rfl) 3000 (R64_lit rfl) _ hz11) ?_)
 rintro _ w12 ⟨rfl, hM2⟩
 obtain ⟨hM, hx13, hup14⟩ := hM.back hM2
 dsimp only [List.cons_append, List.nil_append] at hM hup14
 clear hM2
 refine ⟨_, rfl, fun a hf => ?_⟩
 refine q_ hf rfl rfl rfl (e_not hf rfl) fun a hf => ?_
 refine pl_nil ?_
 refine then_n ?_
 rcases cond_some h with ⟨hc15, h⟩ | ⟨hc15, h⟩
 ·refine cond_t hf rfl hc15 ?_
  refine wp_seq ?_
  refine region_pl ?_
  refine q_ hf rfl rfl rfl (e_assign hf rfl) fun a hf => ?_
  refine pl_nil ?_
  refine then_n ?_
  refine wp_ret ?_
  refine then_r ?_
  obtain rfl := some_inj h
  exact leave1 hf rfl rfl ⟨rfl, hM.fin⟩
 refine cond_f hf rfl hc15 ?_
 refine wp_skip ?_
 refine then_n ?_
 obtain ⟨x16, h17, h⟩ := bind_some h
 refine seq_join (fun a w => (.inl ()) = x16 ∧ Has 96 a [] ∧ Mem C w [] [.dat (sliceRep NodeRep) d1.Nodes [vL A6 d1.Nodes c7], .lit b2 (o3) [vL A6 (d1.Nodes) c7], .dat (ptrRep DawgRep) d1 [vP b2 o3]]) ?_ ?_
 ·refine wp_seq ?_
  refine region_pl ?_
  refine q_ hf rfl rfl rfl (e_assign hf rfl) fun a hf => ?_
  refine pl_nil ?_
  refine then_n ?_
  refine wp_block ?_
  obtain ⟨x21, h22, h17⟩ := bind_some h17
  refine wp_loopM h22 (fun s a w => ∃ (x18 : Int), x18 = s ∧ Has 96 a [(0, vP b2 (o3)), (3, vI ((d1.Nodes.length : Int))), (4, vI (x18))] ∧ Mem C w [] [.dat (sliceRep NodeRep) d1.Nodes [vL A6 d1.Nodes c7], .lit b2 (o3) [vL A6 (d1.Nodes) c7], .dat (ptrRep DawgRep) d1 [vP b2 o3]] ∧ R64 x18) ?_ ?_
  ·exact ⟨0, rfl, hf.keep ⟨rfl, rfl, rfl, trivial⟩, hM.pick [0, 1, 2] rfl, (R64_lit rfl)⟩
  rintro s o23 a w20 ⟨x18, rfl, hf, hM, hv19⟩ h24 hd25
  replace h24 : m_spec_l06Shape_l1 d1 x18 = some o23 := h24
  unfold m_spec_l06Shape_l1 at h24
  iterate 2 refine wp_seq ?_
  refine region_pl ?_
  iterate 2 refine q_ hf rfl rfl rfl (e_move hf rfl) fun a hf => ?_
  refine q_ hf rfl rfl rfl (e_lt hf (x := x18) (y := (d1.Nodes.length : Int)) rfl rfl) fun a hf => ?_
  refine pl_nil ?_
  refine then_n ?_
  rcases cond_some h24 with ⟨hc26, h24⟩ | ⟨hc26, h24⟩
  ·refine cond_t hf rfl hc26 ?_
   refine wp_skip ?_
   refine then_n ?_
   obtain ⟨x27, h28, h24⟩ := bind_some h24
   refine seq_join (fun a w => (.inl ()) = x27 ∧ Has 96 a [(0, vP b2 (o3)), (3, vI ((d1.Nodes.length : Int))), (4, vI (x18))] ∧ Mem C w [] [.dat (sliceRep NodeRep) d1.Nodes [vL A6 d1.Nodes c7], .lit b2 (o3) [vL A6 (d1.Nodes) c7], .dat (ptrRep DawgRep) d1 [vP b2 o3]]) ?_ ?_
   ·refine wp_block ?_
    refine wp_seq ?_
    refine region_pl ?_
    refine q_ hf rfl rfl rfl (e_move hf rfl) fun a hf => ?_
    refine q_ hf rfl rfl rfl (e_nil hf rfl) fun a hf => ?_
    refine q_ hf rfl rfl rfl (e_field hf rfl Tryz.underlying31 rfl Tryz.sizeOf29 (o' := o3 + 0) rfl) fun a hf => ?_
    refine q_ hf rfl rfl rfl (e_load1 hf rfl Tryz.isAgg29 (hM.litCell (k := 1) (j := 0) rfl rfl rfl)) fun a hf => ?_
    refine q_ hf rfl rfl rfl (e_move hf rfl) fun a hf => ?_
    obtain ⟨e29, hz30, h28⟩ := bind_some h28
    obtain ⟨b34, o35, _, hA36, h31, h32, hr33, hM⟩ := hM.elem (hM.dat (k := 0) rfl) (n := 3) rfl hz30
    obtain ⟨A38, c39, rfl, hv37, hv40⟩ := NodeRep_open hr33
    have hM := hM.add (y := .dat (sliceRep intRep) e29.Next [vL A38 e29.Next c39]) hv40
    refine q_ hf rfl rfl rfl (e_indexAddr (A := A6) (b := b34) (o := o35) (xs := d1.Nodes) (i := x18) hf hA36 rfl rfl Tryz.underlying29 Tryz.sizeOf47 h31 h32) fun a hf => ?_
    refine q_ hf rfl rfl rfl (e_assign hf rfl) fun a hf => ?_
    refine pl_nil ?_
    refine then_n ?_
    iterate 2 refine wp_seq ?_
    obtain ⟨w41, hw⟩ : ∃ x, x = w20.drew := ⟨_, rfl⟩
    refine region_pi (.q 0 (.q 1 (.q 2 (.q 3 (.q 4 (.q 5 (.q 6 (.q 7 (.q 8 (.q 9 (.q 10 (.nil)))))))))))) (Ext w41) rfl (by kernel_rfl) ?_
    have hM := hM.drew
    rw [← hw] at hM ⊢
    clear hw
    refine pi_q hf rfl rfl rfl rfl (Ext.refl _) (e_move hf rfl) fun a hf => ?_
    refine pi_q hf rfl rfl rfl rfl (Ext.refl _) (e_nil hf rfl) fun a hf => ?_
    refine pi_q hf rfl rfl rfl rfl (Ext.refl _) (e_field hf rfl Tryz.underlying47 rfl Tryz.sizeOf9 (o' := (o35 + (x18 : Int).toNat * 3) + 1) rfl) fun a hf => ?_
    refine pi_q hf rfl rfl rfl rfl (Ext.refl _) (e_load1 hf rfl Tryz.isAgg9 (hM.litCell (k := 1) (j := 1) rfl rfl rfl)) fun a hf => ?_
    refine pi_q hf rfl rfl rfl rfl (Ext.refl _) (e_lenS hf (x := e29.Letters) rfl Tryz.underlying9) fun a hf => ?_
    refine pi_q hf rfl rfl rfl rfl (Ext.refl _) (e_move hf rfl) fun a hf => ?_
    refine pi_q hf rfl rfl rfl rfl (Ext.refl _) (e_nil hf rfl) fun a hf => ?_
    refine pi_q hf rfl rfl rfl rfl (Ext.refl _) (e_field hf rfl Tryz.underlying47 rfl Tryz.sizeOf45 (o' := (o35 + (x18 : Int).toNat * 3) + 2) rfl) fun a hf => ?_
    refine pi_q hf rfl rfl rfl rfl (Ext.refl _) (e_load1 hf rfl Tryz.isAgg45 (hM.litCell (k := 1) (j := 2) rfl rfl rfl)) fun a hf => ?_
    have hl42 := slice_len (hM.dat (k := 0) rfl)
    refine pi_q hf rfl rfl rfl rfl (Ext.refl _) (e_lenL hf (x := e29.Next) rfl Tryz.underlying45) fun a hf => ?_
    refine pi_q hf rfl rfl rfl rfl (Ext.refl _) (e_ne hf (x := (e29.Letters.length : Int)) (y := (e29.Next.length : Int)) rfl rfl) fun a hf => ?_
    refine pi_nil ?_
    refine then_n ?_
    rcases cond_some h28 with ⟨hc43, h28⟩ | ⟨hc43, h28⟩
    ·refine cond_t hf rfl hc43 ?_
     refine wp_seq ?_
     refine region_pl ?_
     refine q_ hf rfl rfl rfl (e_assign hf rfl) fun a hf => ?_
     refine pl_nil ?_
     refine then_n ?_
     refine wp_ret ?_
     refine then_r ?_
     refine blk_r ?_
     obtain rfl := some_inj h28
     try dsimp only at h24
     refine then_r ?_
     obtain rfl := some_inj h24
     obtain rfl := hd25 _ rfl
     try dsimp only at h17
     refine then_r ?_
     refine blk_r ?_
     obtain rfl := some_inj h17
     try dsimp only at h
     refine then_r ?_
     obtain rfl := some_inj h
     exact leave1 hf rfl rfl ⟨rfl, hM.fin⟩
    refine cond_f hf rfl hc43 ?_
    refine wp_skip ?_
    refine then_n ?_
    refine wp_seq ?_
    refine region_pl ?_
    refine q_ hf rfl rfl rfl (e_assign hf rfl) fun a hf => ?_
    refine pl_nil ?_
    refine then_n ?_
    refine wp_block ?_
    obtain ⟨x47, h48, h28⟩ := bind_some h28
    refine wp_loopM h48 (fun s a w => ∃ (n44 : Int), n44 = s ∧ Has 96 a [(0, vP b2 (o3)), (3, vI ((d1.Nodes.length : Int))), (4, vI (x18)), (5, vP b34 (o35 + (x18 : Int).toNat * 3)), (6, vI (n44))] ∧ Mem C w [] [.dat (sliceRep intRep) e29.Next [vL A38 e29.Next c39], .lit b34 (o35 + (x18 : Int).toNat * 3) [.bool (e29.Final), vS (e29.Letters), vL A38 (e29.Next) c39], .dat (sliceRep NodeRep) d1.Nodes [vL A6 d1.Nodes c7], .lit b2 (o3) [vL A6 (d1.Nodes) c7], .dat (ptrRep DawgRep) d1 [vP b2 o3]] ∧ R64 n44) ?_ ?_
    ·exact ⟨0, rfl, hf.keep ⟨rfl, rfl, rfl, rfl, rfl, trivial⟩, hM.pick [0, 1, 2, 3, 4] rfl, (R64_lit rfl)⟩
    rintro s o49 a w46 ⟨n44, rfl, hf, hM, hv45⟩ h50 hd51
    replace h50 : m_spec_l06Shape_l2 e29 d1 n44 = some o49 := h50
    unfold m_spec_l06Shape_l2 at h50
    iterate 2 refine wp_seq ?_
    refine region_pl ?_
    iterate 2 refine q_ hf rfl rfl rfl (e_move hf rfl) fun a hf => ?_
    refine q_ hf rfl rfl rfl (e_nil hf rfl) fun a hf => ?_
    refine q_ hf rfl rfl rfl (e_field hf rfl Tryz.underlying47 rfl Tryz.sizeOf45 (o' := (o35 + (x18 : Int).toNat * 3) + 2) rfl) fun a hf => ?_
    refine q_ hf rfl rfl rfl (e_load1 hf rfl Tryz.isAgg45 (hM.litCell (k := 1) (j := 2) rfl rfl rfl)) fun a hf => ?_
    have hl52 := slice_len (hM.dat (k := 0) rfl)
    refine q_ hf rfl rfl rfl (e_lenL hf (x := e29.Next) rfl Tryz.underlying45) fun a hf => ?_
    refine q_ hf rfl rfl rfl (e_lt hf (x := n44) (y := (e29.Next.length : Int)) rfl rfl) fun a hf => ?_
    refine pl_nil ?_
    refine then_n ?_
    rcases cond_some h50 with ⟨hc53, h50⟩ | ⟨hc53, h50⟩
    ·refine cond_t hf rfl hc53 ?_
     refine wp_skip ?_
     refine then_n ?_
     refine wp_seq ?_
     refine wp_block ?_
     obtain ⟨x56, h57, h50⟩ := bind_some h50
     refine seq_join (fun a w => ∃ (t54 : Bool), t54 = x56 ∧ Has 96 a [(0, vP b2 (o3)), (3, vI ((d1.Nodes.length : Int))), (4, vI (x18)), (5, vP b34 (o35 + (x18 : Int).toNat * 3)), (6, vI (n44)), (95, .bool (t54))] ∧ Mem C w [] [.dat (sliceRep intRep) e29.Next [vL A38 e29.Next c39], .lit b34 (o35 + (x18 : Int).toNat * 3) [.bool (e29.Final), vS (e29.Letters), vL A38 (e29.Next) c39], .dat (sliceRep NodeRep) d1.Nodes [vL A6 d1.Nodes c7], .lit b2 (o3) [vL A6 (d1.Nodes) c7], .dat (ptrRep DawgRep) d1 [vP b2 o3]]) ?_ ?_
     ·obtain ⟨w58, hw⟩ : ∃ x, x = w46.drew := ⟨_, rfl⟩
      refine region_pi (.q 0 (.q 1 (.q 2 (.q 3 (.q 4 (.q 5 (.q 6 (.q 7 (.q 8 (.l 9 (.q 10 (.q 11 (.q 12 (.q 13 (.q 14 (.q 15 (.q 16 (.q 17 (.q 18 (.q 19 (.q 20 (.q 21 (.q 22 (.q 23 (.q 24 (.q 25 (.l 26 (.q 27 (.q 28 (.q 29 (.q 30 (.q 31 (.q 32 (.q 33 (.q 34 (.q 35 (.q 36 (.q 37 (.q 38 (.q 39 (.q 40 (.q 41 (.q 42 (.q 43 (.q 44 (.q 45 (.q 46 (.q 47 (.q 48 (.q 49 (.nil))))))))))))))))))))))))))))))))))))))))))))))))))) (Ext w58) rfl (by kernel_rfl) ?_
      have hM := hM.drew
      rw [← hw] at hM ⊢
      clear hw
      refine pi_q hf rfl rfl rfl rfl (Ext.refl _) (e_move hf rfl) fun a hf => ?_
      refine pi_q hf rfl rfl rfl rfl (Ext.refl _) (e_nil hf rfl) fun a hf => ?_
      refine pi_q hf rfl rfl rfl rfl (Ext.refl _) (e_field hf rfl Tryz.underlying47 rfl Tryz.sizeOf45 (o' := (o35 + (x18 : Int).toNat * 3) + 2) rfl) fun a hf => ?_
      refine pi_q hf rfl rfl rfl rfl (Ext.refl _) (e_load1 hf rfl Tryz.isAgg45 (hM.litCell (k := 1) (j := 2) rfl rfl rfl)) fun a hf => ?_
      refine pi_q hf rfl rfl rfl rfl (Ext.refl _) (e_move hf rfl) fun a hf => ?_
      obtain ⟨e59, hz60, h57⟩ := bind_some h57
      obtain ⟨b64, o65, _, hA66, h61, h62, hr63, hM⟩ := hM.elem (hM.dat (k := 0) rfl) (n := 1) rfl hz60
      obtain ⟨rfl, hv67⟩ := hr63
      refine pi_q hf rfl rfl rfl rfl (Ext.refl _) (e_indexAddr (A := A38) (b := b64) (o := o65) (xs := e29.Next) (i := n44) hf hA66 rfl rfl Tryz.underlying45 Tryz.sizeOf2 h61 h62) fun a hf => ?_
      refine pi_q hf rfl rfl rfl rfl (Ext.refl _) (e_load1 hf rfl Tryz.isAgg2 (hM.litCell (k := 0) (j := 0) rfl rfl rfl)) fun a hf => ?_
      refine pi_q hf rfl rfl rfl rfl (Ext.refl _) (e_move hf rfl) fun a hf => ?_
      obtain ⟨z68, hz69, h57⟩ := bind_some h57
      refine pi_q hf rfl rfl rfl rfl (Ext.refl _) (e_sub hf rfl rfl hz69) fun a hf => ?_
      refine pi_one ?_
      obtain ⟨y70, hz71, h57⟩ := bind_some h57
      refine pi_l hf rfl rfl rfl rfl (w_call hf Tryz.call105 rfl (r_spec_l00In ⟨_, Sh C _ _, none_, hM.sh_lt, none_not, C.G, hM.g_lt, g_none, hM.tabs⟩ e59 hv67 0 (R64_lit rfl) z68 (chk_R hz69) _ hz71) ?_)
      rintro _ w72 ⟨rfl, hM2⟩
      obtain ⟨hM, hx73, hup74⟩ := hM.back hM2
      dsimp only [List.cons_append, List.nil_append] at hM hup74
      clear hM2
      refine ⟨_, rfl, Ext w72, fun _ h => Ext.trans hx73 h, Ext.refl _, fun a hf => ?_⟩
      refine pi_q hf rfl rfl rfl rfl (Ext.refl _) (e_not hf rfl) fun a hf => ?_
      refine pi_q hf rfl rfl rfl rfl (Ext.refl _) (e_move hf rfl) fun a hf => ?_
      rcases cond_some h57 with ⟨hc75, h57⟩ | ⟨hc75, h57⟩
      ·iterate 8 refine pi_gs hf rfl (wanted_f hf rfl rfl rfl rfl hc75) rfl rfl (Ext.refl _) fun a hf => ?_
       iterate 6 refine pi_gs hf rfl (wanted_u hf rfl rfl rfl rfl) rfl rfl (Ext.refl _) fun a hf => ?_
       refine pi_one ?_
       refine pi_ls hf rfl (wanted_u hf rfl rfl rfl rfl) rfl rfl (Ext.refl _) fun a hf => ?_
       refine pi_gs hf rfl (wanted_u hf rfl rfl rfl rfl) rfl rfl (Ext.refl _) fun a hf => ?_
       refine pi_gs hf rfl (wanted_f hf rfl rfl rfl rfl hc75) rfl rfl (Ext.refl _) fun a hf => ?_
       refine pi_q hf rfl rfl rfl rfl (Ext.refl _) (e_pick_t hf rfl hc75 rfl) fun a hf => ?_
       refine pi_q hf rfl rfl rfl rfl (Ext.refl _) (e_move hf rfl) fun a hf => ?_
       iterate 3 refine pi_gs hf rfl (wanted_f hf rfl rfl rfl rfl rfl) rfl rfl (Ext.refl _) fun a hf => ?_
       iterate 14 refine pi_gs hf rfl (wanted_u hf rfl rfl rfl rfl) rfl rfl (Ext.refl _) fun a hf => ?_
       refine pi_gs hf rfl (wanted_f hf rfl rfl rfl rfl rfl) rfl rfl (Ext.refl _) fun a hf => ?_
       refine pi_q hf rfl rfl rfl rfl (Ext.refl _) (e_pick_t hf rfl rfl rfl) fun a hf => ?_
       refine pi_nil ?_
       obtain rfl := some_inj h57
       refine then_n ?_
       exact ⟨true, rfl, hf.keep ⟨rfl, rfl, rfl, rfl, rfl, rfl, trivial⟩, hM.pick [1, 2, 3, 4, 5] rfl⟩
      refine pi_gq hf rfl (wanted_t hf rfl rfl rfl rfl hc75) rfl rfl (Ext.refl _) (e_move hf rfl) fun a hf => ?_
      refine pi_gq hf rfl (wanted_t hf rfl rfl rfl rfl hc75) rfl rfl (Ext.refl _) (e_nil hf rfl) fun a hf => ?_
      refine pi_gq hf rfl (wanted_t hf rfl rfl rfl rfl hc75) rfl rfl (Ext.refl _) (e_field hf rfl Tryz.underlying47 rfl Tryz.sizeOf9 (o' := (o35 + (x18 : Int).toNat * 3) + 1) rfl) fun a hf => ?_
      refine pi_gq hf rfl (wanted_t hf rfl rfl rfl rfl hc75) rfl rfl (Ext.refl _) (e_load1 hf rfl Tryz.isAgg9 (hM.litCell (k := 2) (j := 1) rfl rfl rfl)) fun a hf => ?_
      refine pi_gq hf rfl (wanted_t hf rfl rfl rfl rfl hc75) rfl rfl (Ext.refl _) (e_move hf rfl) fun a hf => ?_
      obtain ⟨c77, hz78, h57⟩ := bind_some h57
      refine pi_gq hf rfl (wanted_t hf rfl rfl rfl rfl hc75) rfl rfl (Ext.refl _) (e_indexS hf (x := e29.Letters) rfl rfl Tryz.underlying9 hz78) fun a hf => ?_
      refine pi_gq hf rfl (wanted_t hf rfl rfl rfl rfl hc75) rfl rfl (Ext.refl _) (e_neB hf (x := c77) (y := 62) rfl rfl) fun a hf => ?_
      refine pi_gq hf rfl (wanted_t hf rfl rfl rfl rfl hc75) rfl rfl (Ext.refl _) (e_move hf rfl) fun a hf => ?_
      rcases cond_some h57 with ⟨hc79, h57⟩ | ⟨hc79, h57⟩
      ·refine pi_gq hf rfl (wanted_t hf rfl rfl rfl rfl hc79) rfl rfl (Ext.refl _) (e_move hf rfl) fun a hf => ?_
       refine pi_gq hf rfl (wanted_t hf rfl rfl rfl rfl hc79) rfl rfl (Ext.refl _) (e_nil hf rfl) fun a hf => ?_
       refine pi_gq hf rfl (wanted_t hf rfl rfl rfl rfl hc79) rfl rfl (Ext.refl _) (e_field hf rfl Tryz.underlying47 rfl Tryz.sizeOf9 (o' := (o35 + (x18 : Int).toNat * 3) + 1) rfl) fun a hf => ?_
       refine pi_gq hf rfl (wanted_t hf rfl rfl rfl rfl hc79) rfl rfl (Ext.refl _) (e_load1 hf rfl Tryz.isAgg9 (hM.litCell (k := 2) (j := 1) rfl rfl rfl)) fun a hf => ?_
       refine pi_gq hf rfl (wanted_t hf rfl rfl rfl rfl hc79) rfl rfl (Ext.refl _) (e_move hf rfl) fun a hf => ?_
       obtain ⟨c80, hz81, h57⟩ := bind_some h57
       refine pi_gq hf rfl (wanted_t hf rfl rfl rfl rfl hc79) rfl rfl (Ext.refl _) (e_indexS hf (x := e29.Letters) rfl rfl Tryz.underlying9 hz81) fun a hf => ?_
       refine pi_one ?_
       obtain ⟨y82, hz83, h57⟩ := bind_some h57
       refine pi_gl hf rfl (wanted_t hf rfl rfl rfl rfl hc79) rfl rfl (w_call hf Tryz.call106 rfl (r_spec_l01Small ⟨_, Sh C _ _, none_, hM.sh_lt, none_not, C.G, hM.g_lt, g_none, hM.tabs⟩ c80 _ hz83) ?_)
       rintro _ w84 ⟨rfl, hM2⟩
       obtain ⟨hM, hx85, hup86⟩ := hM.back hM2
       dsimp only [List.cons_append, List.nil_append] at hM hup86
       clear hM2
       refine ⟨_, rfl, Ext w84, fun _ h => Ext.trans hx85 h, Ext.refl _, fun a hf => ?_⟩
       refine pi_gq hf rfl (wanted_t hf rfl rfl rfl rfl hc79) rfl rfl (Ext.refl _) (e_not hf rfl) fun a hf => ?_
       refine pi_gq hf rfl (wanted_t hf rfl rfl rfl rfl hc75) rfl rfl (Ext.refl _) (e_pick_t hf rfl hc79 rfl) fun a hf => ?_
       refine pi_q hf rfl rfl rfl rfl (Ext.refl _) (e_pick_f hf rfl hc75 rfl) fun a hf => ?_
       refine pi_q hf rfl rfl rfl rfl (Ext.refl _) (e_move hf rfl) fun a hf => ?_
       rcases cond_some h57 with ⟨hc87, h57⟩ | ⟨hc87, h57⟩
       ·iterate 3 refine pi_gs hf rfl (wanted_f hf rfl rfl rfl rfl hc87) rfl rfl (Ext.refl _) fun a hf => ?_
        iterate 14 refine pi_gs hf rfl (wanted_u hf rfl rfl rfl rfl) rfl rfl (Ext.refl _) fun a hf => ?_
        refine pi_gs hf rfl (wanted_f hf rfl rfl rfl rfl hc87) rfl rfl (Ext.refl _) fun a hf => ?_
        refine pi_q hf rfl rfl rfl rfl (Ext.refl _) (e_pick_t hf rfl hc87 rfl) fun a hf => ?_
        refine pi_nil ?_
        obtain rfl := some_inj h57
        refine then_n ?_
        exact ⟨true, rfl, hf.keep ⟨rfl, rfl, rfl, rfl, rfl, rfl, trivial⟩, hM.pick [1, 2, 3, 4, 5] rfl⟩
       refine pi_gq hf rfl (wanted_t hf rfl rfl rfl rfl hc87) rfl rfl (Ext.refl _) (e_move hf rfl) fun a hf => ?_
       refine pi_gq hf rfl (wanted_t hf rfl rfl rfl rfl hc87) rfl rfl (Ext.refl _) (e_gt hf (x := n44) (y := 0) rfl rfl) fun a hf => ?_
       refine pi_gq hf rfl (wanted_t hf rfl rfl rfl rfl hc87) rfl rfl (Ext.refl _) (e_move hf rfl) fun a hf => ?_
       rcases cond_some h57 with ⟨hc89, h57⟩ | ⟨hc89, h57⟩
       ·refine pi_gq hf rfl (wanted_t hf rfl rfl rfl rfl hc89) rfl rfl (Ext.refl _) (e_move hf rfl) fun a hf => ?_
        refine pi_gq hf rfl (wanted_t hf rfl rfl rfl rfl hc89) rfl rfl (Ext.refl _) (e_nil hf rfl) fun a hf => ?_
        refine pi_gq hf rfl (wanted_t hf rfl rfl rfl rfl hc89) rfl rfl (Ext.refl _) (e_field hf rfl Tryz.underlying47 rfl Tryz.sizeOf9 (o' := (o35 + (x18 : Int).toNat * 3) + 1) rfl) fun a hf => ?_
        refine pi_gq hf rfl (wanted_t hf rfl rfl rfl rfl hc89) rfl rfl (Ext.refl _) (e_load1 hf rfl Tryz.isAgg9 (hM.litCell (k := 2) (j := 1) rfl rfl rfl)) fun a hf => ?_
        refine pi_gq hf rfl (wanted_t hf rfl rfl rfl rfl hc89) rfl rfl (Ext.refl _) (e_move hf rfl) fun a hf => ?_
        obtain ⟨c90, hz91, h57⟩ := bind_some h57
        refine pi_gq hf rfl (wanted_t hf rfl rfl rfl rfl hc89) rfl rfl (Ext.refl _) (e_indexS hf (x := e29.Letters) rfl rfl Tryz.underlying9 hz91) fun a hf => ?_
        refine pi_gq hf rfl (wanted_t hf rfl rfl rfl rfl hc89) rfl rfl (Ext.refl _) (e_move hf rfl) fun a hf => ?_
        refine pi_gq hf rfl (wanted_t hf rfl rfl rfl rfl hc89) rfl rfl (Ext.refl _) (e_nil hf rfl) fun a hf => ?_
        refine pi_gq hf rfl (wanted_t hf rfl rfl rfl rfl hc89) rfl rfl (Ext.refl _) (e_field hf rfl Tryz.underlying47 rfl Tryz.sizeOf9 (o' := (o35 + (x18 : Int).toNat * 3) + 1) rfl) fun a hf => ?_
        refine pi_gq hf rfl (wanted_t hf rfl rfl rfl rfl hc89) rfl rfl (Ext.refl _) (e_load1 hf rfl Tryz.isAgg9 (hM.litCell (k := 2) (j := 1) rfl rfl rfl)) fun a hf => ?_
        refine pi_gq hf rfl (wanted_t hf rfl rfl rfl rfl hc89) rfl rfl (Ext.refl _) (e_move hf rfl) fun a hf => ?_
        obtain ⟨z92, hz93, h57⟩ := bind_some h57
        refine pi_gq hf rfl (wanted_t hf rfl rfl rfl rfl hc89) rfl rfl (Ext.refl _) (e_sub hf rfl rfl hz93) fun a hf => ?_
        obtain ⟨c94, hz95, h57⟩ := bind_some h57
        refine pi_gq hf rfl (wanted_t hf rfl rfl rfl rfl hc89) rfl rfl (Ext.refl _) (e_indexS hf (x := e29.Letters) rfl rfl Tryz.underlying9 hz95) fun a hf => ?_
        refine pi_gq hf rfl (wanted_t hf rfl rfl rfl rfl hc89) rfl rfl (Ext.refl _) (e_leB hf (x := c90) (y := c94) rfl rfl) fun a hf => ?_
        refine pi_gq hf rfl (wanted_t hf rfl rfl rfl rfl hc87) rfl rfl (Ext.refl _) (e_pick_t hf rfl hc89 rfl) fun a hf => ?_
        refine pi_q hf rfl rfl rfl rfl (Ext.refl _) (e_pick_f hf rfl hc87 rfl) fun a hf => ?_
        refine pi_nil ?_
        obtain rfl := some_inj h57
        refine then_n ?_
        exact ⟨(decide (c90 ≤ c94)), rfl, hf.keep ⟨rfl, rfl, rfl, rfl, rfl, rfl, trivial⟩, hM.pick [1, 2, 3, 4, 5] rfl⟩
       iterate 14 refine pi_gs hf rfl (wanted_f hf rfl rfl rfl rfl hc89) rfl rfl (Ext.refl _) fun a hf => ?_
       refine pi_gq hf rfl (wanted_t hf rfl rfl rfl rfl hc87) rfl rfl (Ext.refl _) (e_pick_f hf rfl hc89 rfl) fun a hf => ?_
       refine pi_q hf rfl rfl rfl rfl (Ext.refl _) (e_pick_f hf rfl hc87 rfl) fun a hf => ?_
       refine pi_nil ?_
       obtain rfl := some_inj h57
       refine then_n ?_
       exact ⟨false, rfl, hf.keep ⟨rfl, rfl, rfl, rfl, rfl, rfl, trivial⟩, hM.pick [1, 2, 3, 4, 5] rfl⟩
      iterate 6 refine pi_gs hf rfl (wanted_f hf rfl rfl rfl rfl hc79) rfl rfl (Ext.refl _) fun a hf => ?_
      refine pi_one ?_
      refine pi_ls hf rfl (wanted_f hf rfl rfl rfl rfl hc79) rfl rfl (Ext.refl _) fun a hf => ?_
      refine pi_gs hf rfl (wanted_f hf rfl rfl rfl rfl hc79) rfl rfl (Ext.refl _) fun a hf => ?_
      refine pi_gq hf rfl (wanted_t hf rfl rfl rfl rfl hc75) rfl rfl (Ext.refl _) (e_pick_f hf rfl hc79 rfl) fun a hf => ?_
      refine pi_q hf rfl rfl rfl rfl (Ext.refl _) (e_pick_f hf rfl hc75 rfl) fun a hf => ?_
      refine pi_q hf rfl rfl rfl rfl (Ext.refl _) (e_move hf rfl) fun a hf => ?_
      refine pi_gq hf rfl (wanted_t hf rfl rfl rfl rfl rfl) rfl rfl (Ext.refl _) (e_move hf rfl) fun a hf => ?_
      refine pi_gq hf rfl (wanted_t hf rfl rfl rfl rfl rfl) rfl rfl (Ext.refl _) (e_gt hf (x := n44) (y := 0) rfl rfl) fun a hf => ?_
      refine pi_gq hf rfl (wanted_t hf rfl rfl rfl rfl rfl) rfl rfl (Ext.refl _) (e_move hf rfl) fun a hf => ?_
      rcases cond_some h57 with ⟨hc98, h57⟩ | ⟨hc98, h57⟩
      ·refine pi_gq hf rfl (wanted_t hf rfl rfl rfl rfl hc98) rfl rfl (Ext.refl _) (e_move hf rfl) fun a hf => ?_
       refine pi_gq hf rfl (wanted_t hf rfl rfl rfl rfl hc98) rfl rfl (Ext.refl _) (e_nil hf rfl) fun a hf => ?_
       refine pi_gq hf rfl (wanted_t hf rfl rfl rfl rfl hc98) rfl rfl (Ext.refl _) (e_field hf rfl Tryz.underlying47 rfl Tryz.sizeOf9 (o' := (o35 + (x18 : Int).toNat * 3) + 1) rfl) fun a hf => ?_
       refine pi_gq hf rfl (wanted_t hf rfl rfl rfl rfl hc98) rfl rfl (Ext.refl _) (e_load1 hf rfl Tryz.isAgg9 (hM.litCell (k := 2) (j := 1) rfl rfl rfl)) fun a hf => ?_
       refine pi_gq hf rfl (wanted_t hf rfl rfl rfl rfl hc98) rfl rfl (Ext.refl _) (e_move hf rfl) fun a hf => ?_
       obtain ⟨c99, hz100, h57⟩ := bind_some h57
       refine pi_gq hf rfl (wanted_t hf rfl rfl rfl rfl hc98) rfl rfl (Ext.refl _) (e_indexS hf (x := e29.Letters) rfl rfl Tryz.underlying9 hz100) fun a hf => ?_
       refine pi_gq hf rfl (wanted_t hf rfl rfl rfl rfl hc98) rfl rfl (Ext.refl _) (e_move hf rfl) fun a hf => ?_
       refine pi_gq hf rfl (wanted_t hf rfl rfl rfl rfl hc98) rfl rfl (Ext.refl _) (e_nil hf rfl) fun a hf => ?_
       refine pi_gq hf rfl (wanted_t hf rfl rfl rfl rfl hc98) rfl rfl (Ext.refl _) (e_field hf rfl Tryz.underlying47 rfl Tryz.sizeOf9 (o' := (o35 + (x18 : Int).toNat * 3) + 1) rfl) fun a hf => ?_
       refine pi_gq hf rfl (wanted_t hf rfl rfl rfl rfl hc98) rfl rfl (Ext.refl _) (e_load1 hf rfl Tryz.isAgg9 (hM.litCell (k := 2) (j := 1) rfl rfl rfl)) fun a hf => ?_
       refine pi_gq hf rfl (wanted_t hf rfl rfl rfl rfl hc98) rfl rfl (Ext.refl _) (e_move hf rfl) fun a hf => ?_
       obtain ⟨z101, hz102, h57⟩ := bind_some h57
       refine pi_gq hf rfl (wanted_t hf rfl rfl rfl rfl hc98) rfl rfl (Ext.refl _) (e_sub hf rfl rfl hz102) fun a hf => ?_
       obtain ⟨c103, hz104, h57⟩ := bind_some h57
       refine pi_gq hf rfl (wanted_t hf rfl rfl rfl rfl hc98) rfl rfl (Ext.refl _) (e_indexS hf (x := e29.Letters) rfl rfl Tryz.underlying9 hz104) fun a hf => ?_
       refine pi_gq hf rfl (wanted_t hf rfl rfl rfl rfl hc98) rfl rfl (Ext.refl _) (e_leB hf (x := c99) (y := c103) rfl rfl) fun a hf => ?_
       refine pi_gq hf rfl (wanted_t hf rfl rfl rfl rfl rfl) rfl rfl (Ext.refl _) (e_pick_t hf rfl hc98 rfl) fun a hf => ?_
       refine pi_q hf rfl rfl rfl rfl (Ext.refl _) (e_pick_f hf rfl rfl rfl) fun a hf => ?_
       refine pi_nil ?_
       obtain rfl := some_inj h57
       refine then_n ?_
       exact ⟨(decide (c99 ≤ c103)), rfl, hf.keep ⟨rfl, rfl, rfl, rfl, rfl, rfl, trivial⟩, hM.pick [1, 2, 3, 4, 5] rfl⟩
      iterate 14 refine pi_gs hf rfl (wanted_f hf rfl rfl rfl rfl hc98) rfl rfl (Ext.refl _) fun a hf => ?_
      refine pi_gq hf rfl (wanted_t hf rfl rfl rfl rfl rfl) rfl rfl (Ext.refl _) (e_pick_f hf rfl hc98 rfl) fun a hf => ?_
      refine pi_q hf rfl rfl rfl rfl (Ext.refl _) (e_pick_f hf rfl rfl rfl) fun a hf => ?_
      refine pi_nil ?_
      obtain rfl := some_inj h57
      refine then_n ?_
      exact ⟨false, rfl, hf.keep ⟨rfl, rfl, rfl, rfl, rfl, rfl, trivial⟩, hM.pick [1, 2, 3, 4, 5] rfl⟩
     rintro a w107 ⟨t54, rfl, hf, hM⟩
     try dsimp only at h50
     rcases cond_some h50 with ⟨hc108, h50⟩ | ⟨hc108, h50⟩
     ·refine cond_t hf rfl hc108 ?_
      refine wp_seq ?_
      refine region_pl ?_
      refine q_ hf rfl rfl rfl (e_assign hf rfl) fun a hf => ?_
      refine pl_nil ?_
      refine then_n ?_
      refine wp_ret ?_
      refine blk_r ?_
      refine then_r ?_
      obtain rfl := some_inj h50
      obtain rfl := hd51 _ rfl
      try dsimp only at h28
      refine then_r ?_
      iterate 2 refine blk_r ?_
      obtain rfl := some_inj h28
      try dsimp only at h24
      refine then_r ?_
      obtain rfl := some_inj h24
      obtain rfl := hd25 _ rfl
      try dsimp only at h17
      refine then_r ?_
      refine blk_r ?_
      obtain rfl := some_inj h17
      try dsimp only at h
      refine then_r ?_
      obtain rfl := some_inj h
      exact leave1 hf rfl rfl ⟨rfl, hM.fin⟩
     refine cond_f hf rfl hc108 ?_
     refine wp_skip ?_
     refine blk_n ?_
     refine then_n ?_
     refine region_pl ?_
     refine q_ hf rfl rfl rfl (e_move hf rfl) fun a hf => ?_
     obtain ⟨z109, hz110, h50⟩ := bind_some h50
     refine q_ hf rfl rfl rfl (e_add hf rfl rfl hz110) fun a hf => ?_
     refine q_ hf rfl rfl rfl (e_assign hf rfl) fun a hf => ?_
     refine pl_nil ?_
     obtain rfl := some_inj h50
     refine then_n ⟨_, rfl, ?_⟩
     exact ⟨z109, rfl, hf.keep ⟨rfl, rfl, rfl, rfl, rfl, trivial⟩, hM.pick [0, 1, 2, 3, 4] rfl, (chk_R hz110)⟩
    refine cond_f hf rfl hc53 ?_
    refine wp_exit ?_
    refine then_x ?_
    obtain rfl := some_inj h50
    obtain rfl := hd51 _ rfl
    try dsimp only at h28
    refine then_x ?_
    refine exit_hit ?_
    refine blk_n ?_
    obtain rfl := some_inj h28
    refine then_n ?_
    exact ⟨rfl, hf.keep ⟨rfl, rfl, rfl, trivial⟩, hM.pick [2, 3, 4] rfl⟩
   rintro a w117 ⟨rfl, hf, hM⟩
   try dsimp only at h24
   refine region_pl ?_
   refine q_ hf rfl rfl rfl (e_move hf rfl) fun a hf => ?_
   obtain ⟨z118, hz119, h24⟩ := bind_some h24
   refine q_ hf rfl rfl rfl (e_add hf rfl rfl hz119) fun a hf => ?_
   refine q_ hf rfl rfl rfl (e_assign hf rfl) fun a hf => ?_
   refine pl_nil ?_
   obtain rfl := some_inj h24
   refine then_n ⟨_, rfl, ?_⟩
   exact ⟨z118, rfl, hf.keep ⟨rfl, rfl, rfl, trivial⟩, hM.pick [0, 1, 2] rfl, (chk_R hz119)⟩
  refine cond_f hf rfl hc26 ?_
  refine wp_exit ?_
  refine then_x ?_
  obtain rfl := some_inj h24
  obtain rfl := hd25 _ rfl
  try dsimp only at h17
  refine then_x ?_
  refine exit_hit ?_
  obtain rfl := some_inj h17
  refine then_n ?_
  exact ⟨rfl, hf.keep trivial, hM.pick [0, 1, 2] rfl⟩
 rintro a w127 ⟨rfl, hf, hM⟩
 try dsimp only at h
 refine wp_seq ?_
 refine region_pl ?_
 refine q_ hf rfl rfl rfl (e_assign hf rfl) fun a hf => ?_
 refine pl_nil ?_
 refine then_n ?_
 refine wp_ret ?_
 obtain rfl := some_inj h
 exact leave1 hf rfl rfl ⟨rfl, hM.fin⟩
theorem r_spec_l06Useful (C : Cx) (d1 : Dawg) (b2 : Nat) (o3 : Nat) (hp4 : (ptrRep DawgRep).R C.w0 C.S0 d1 [vP b2 o3]) (r : Bool) (h : m_spec_l06Useful d1 = some r) :
    Calls Tryz.prog 76 #[vP b2 (o3)] C.w0 fun e w => e = .returned (.bool (r)) ∧ Mem C w [] [] := by
 have hM := Mem.begin C [.dat (ptrRep DawgRep) d1 [vP b2 o3]] ⟨hp4, trivial⟩
 refine enter Tryz.func76 rfl Tryz.ntmps76 rfl fun a hf => ?_
 unfold m_spec_l06Useful at h
 refine wp_seq ?_
 refine region_pl ?_
 refine q_ hf rfl rfl rfl (e_assign hf rfl) fun a hf => ?_
 refine pl_nil ?_
 refine then_n ?_
 refine wp_seq ?_
 refine region_pl ?_
 refine q_ hf rfl rfl rfl (e_move hf rfl) fun a hf => ?_
 refine q_ hf rfl rfl rfl (e_nil hf rfl) fun a hf => ?_
 obtain ⟨_, hr5, hM⟩ := hM.deref (hM.dat (k := 0) rfl)
 obtain ⟨A6, c7, rfl, hv8⟩ := DawgRep_open hr5
 have hM := hM.add (y := .dat (sliceRep NodeRep) d1.Nodes [vL A6 d1.Nodes c7]) hv8
 refine q_ hf rfl rfl rfl (e_field hf rfl Tryz.underlying31 rfl Tryz.sizeOf29 (o' := o3 + 0) rfl) fun a hf => ?_
 refine q_ hf rfl rfl rfl (e_load1 hf rfl Tryz.isAgg29 (hM.litCell (k := 1) (j := 0) rfl rfl rfl)) fun a hf => ?_
 have hl9 := slice_len (hM.dat (k := 0) rfl)
 refine q_ hf rfl rfl rfl (e_lenL hf (x := d1.Nodes) rfl Tryz.underlying29) fun a hf => ?_
 refine q_ hf rfl rfl rfl (e_assign hf rfl) fun a hf => ?_
 refine pl_nil ?_
 refine then_n ?_
 refine wp_seq ?_
 refine region_pl ?_
 refine q_ hf rfl rfl rfl (e_move hf rfl) fun a hf => ?_
 obtain ⟨xs10, hz11, h⟩ := bind_some h
 refine pl_l hf rfl rfl rfl (w_make hf hM (K := boolRep) Tryz.underlying80 ei_4 Tryz.zeroValue4 rfl rfl rfl rfl hz11 fun b12 w13 hx14 hM a hf => ?_)
 refine q_ hf rfl rfl rfl (e_assign hf rfl) fun a hf => ?_
 refine pl_nil ?_
 refine then_n ?_
 obtain ⟨x16, h17, h⟩ := bind_some h
 refine seq_join (fun a w => ∃ (xs15 : (List Bool)), xs15 = x16 ∧ Has 88 a [(3, vI ((d1.Nodes.length : Int))), (4, vL (some ⟨b12, 0, none⟩) (xs15) (((d1.Nodes.length : Int) : Int).toNat))] ∧ Mem C w [.row boolRep (some ⟨b12, 0, none⟩) (((d1.Nodes.length : Int) : Int).toNat) 4 xs15 true] [.dat (sliceRep NodeRep) d1.Nodes [vL A6 d1.Nodes c7], .lit b2 (o3) [vL A6 (d1.Nodes) c7], .dat (ptrRep DawgRep) d1 [vP b2 o3]]) ?_ ?_
 ·refine wp_seq ?_
  refine region_pl ?_
  refine q_ hf rfl rfl rfl (e_assign hf rfl) fun a hf => ?_
  refine pl_nil ?_
  refine then_n ?_
  refine wp_block ?_
  obtain ⟨x23, h24, h17⟩ := bind_some h17
  refine wp_loopM h24 (fun s a w => ∃ (xs18 : (List Bool)) (i19 : Int), (xs18, i19) = s ∧ Has 88 a [(0, vP b2 (o3)), (3, vI ((d1.Nodes.length : Int))), (4, vL (some ⟨b12, 0, none⟩) (xs18) (((d1.Nodes.length : Int) : Int).toNat)), (5, vI (i19))] ∧ Mem C w [.row boolRep (some ⟨b12, 0, none⟩) (((d1.Nodes.length : Int) : Int).toNat) 4 xs18 true] [.dat (sliceRep NodeRep) d1.Nodes [vL A6 d1.Nodes c7], .lit b2 (o3) [vL A6 (d1.Nodes) c7], .dat (ptrRep DawgRep) d1 [vP b2 o3]] ∧ R64 i19) ?_ ?_
  ·exact ⟨xs10, 0, rfl, hf.keep ⟨rfl, rfl, rfl, rfl, trivial⟩, hM.pick [0, 1, 2] rfl, (R64_lit rfl)⟩
  rintro s o25 a w21 ⟨xs18, i19, rfl, hf, hM, hv20⟩ h26 hd27
  replace h26 : m_spec_l06Useful_l1 d1 xs18 i19 = some o25 := h26
  unfold m_spec_l06Useful_l1 at h26
  iterate 2 refine wp_seq ?_
  refine region_pl ?_
  refine q_ hf rfl rfl rfl (e_move hf rfl) fun a hf => ?_
  refine q_ hf rfl rfl rfl (e_le hf (x := i19) (y := 13) rfl rfl) fun a hf => ?_
  refine pl_nil ?_
  refine then_n ?_
  rcases cond_some h26 with ⟨hc28, h26⟩ | ⟨hc28, h26⟩
  ·refine cond_t hf rfl hc28 ?_
   refine wp_skip ?_
   refine then_n ?_
   obtain ⟨x30, h31, h26⟩ := bind_some h26
   refine seq_join (fun a w => ∃ (xs29 : (List Bool)), xs29 = x30 ∧ Has 88 a [(0, vP b2 (o3)), (3, vI ((d1.Nodes.length : Int))), (4, vL (some ⟨b12, 0, none⟩) (xs29) (((d1.Nodes.length : Int) : Int).toNat)), (5, vI (i19))] ∧ Mem C w [.row boolRep (some ⟨b12, 0, none⟩) (((d1.Nodes.length : Int) : Int).toNat) 4 xs29 true] [.dat (sliceRep NodeRep) d1.Nodes [vL A6 d1.Nodes c7], .lit b2 (o3) [vL A6 (d1.Nodes) c7], .dat (ptrRep DawgRep) d1 [vP b2 o3]]) ?_ ?_
   ·refine wp_block ?_
    refine wp_seq ?_
    refine region_pl ?_
    refine q_ hf rfl rfl rfl (e_assign hf rfl) fun a hf => ?_
    refine pl_nil ?_
    refine then_n ?_
    refine wp_block ?_
    obtain ⟨x37, h38, h31⟩ := bind_some h31
    refine wp_loopM h38 (fun s a w => ∃ (xs32 : (List Bool)) (k33 : Int), (xs32, k33) = s ∧ Has 88 a [(0, vP b2 (o3)), (3, vI ((d1.Nodes.length : Int))), (4, vL (some ⟨b12, 0, none⟩) (xs32) (((d1.Nodes.length : Int) : Int).toNat)), (5, vI (i19)), (6, vI (k33))] ∧ Mem C w [.row boolRep (some ⟨b12, 0, none⟩) (((d1.Nodes.length : Int) : Int).toNat) 4 xs32 true] [.dat (sliceRep NodeRep) d1.Nodes [vL A6 d1.Nodes c7], .lit b2 (o3) [vL A6 (d1.Nodes) c7], .dat (ptrRep DawgRep) d1 [vP b2 o3]] ∧ R64 k33) ?_ ?_
    ·exact ⟨xs18, 0, rfl, hf.keep ⟨rfl, rfl, rfl, rfl, rfl, trivial⟩, hM.pick [0, 1, 2] rfl, (R64_lit rfl)⟩
    rintro s o39 a w35 ⟨xs32, k33, rfl, hf, hM, hv34⟩ h40 hd41
    replace h40 : m_spec_l06Useful_l2 d1 xs32 k33 = some o39 := h40
    unfold m_spec_l06Useful_l2 at h40
    iterate 2 refine wp_seq ?_
    refine region_pl ?_
    iterate 2 refine q_ hf rfl rfl rfl (e_move hf rfl) fun a hf => ?_
    refine q_ hf rfl rfl rfl (e_lt hf (x := k33) (y := (d1.Nodes.length : Int)) rfl rfl) fun a hf => ?_
    refine pl_nil ?_
    refine then_n ?_
    rcases cond_some h40 with ⟨hc42, h40⟩ | ⟨hc42, h40⟩
    ·refine cond_t hf rfl hc42 ?_
     refine wp_skip ?_
     refine then_n ?_
     obtain ⟨x44, h45, h40⟩ := bind_some h40
     refine seq_join (fun a w => ∃ (xs43 : (List Bool)), xs43 = x44 ∧ Has 88 a [(0, vP b2 (o3)), (3, vI ((d1.Nodes.length : Int))), (4, vL (some ⟨b12, 0, none⟩) (xs43) (((d1.Nodes.length : Int) : Int).toNat)), (5, vI (i19)), (6, vI (k33))] ∧ Mem C w [.row boolRep (some ⟨b12, 0, none⟩) (((d1.Nodes.length : Int) : Int).toNat) 4 xs43 true] [.dat (sliceRep NodeRep) d1.Nodes [vL A6 d1.Nodes c7], .lit b2 (o3) [vL A6 (d1.Nodes) c7], .dat (ptrRep DawgRep) d1 [vP b2 o3]]) ?_ ?_
     ·refine wp_block ?_
      obtain ⟨x47, h48, h45⟩ := bind_some h45
      refine seq_join (fun a w => ∃ (xs46 : (List Bool)), xs46 = x47 ∧ Has 88 a [(0, vP b2 (o3)), (3, vI ((d1.Nodes.length : Int))), (4, vL (some ⟨b12, 0, none⟩) (xs46) (((d1.Nodes.length : Int) : Int).toNat)), (5, vI (i19)), (6, vI (k33))] ∧ Mem C w [.row boolRep (some ⟨b12, 0, none⟩) (((d1.Nodes.length : Int) : Int).toNat) 4 xs46 true] [.dat (sliceRep NodeRep) d1.Nodes [vL A6 d1.Nodes c7], .lit b2 (o3) [vL A6 (d1.Nodes) c7], .dat (ptrRep DawgRep) d1 [vP b2 o3]]) ?_ ?_
      ·refine region_pl ?_
       iterate 4 refine q_ hf rfl rfl rfl (e_move hf rfl) fun a hf => ?_
       obtain ⟨e49, hz50, h48⟩ := bind_some h48
       obtain ⟨_, h51, h52, hr53, hcell54⟩ := hM.rowElem' (k := 0) rfl (n := 1) rfl hz50
       obtain rfl : _ = _ := hr53
       refine q_ hf rfl rfl rfl (e_indexAddr (A := (some ⟨b12, 0, none⟩)) (b := b12) (o := 0) (xs := xs32) (i := k33) hf rfl rfl rfl Tryz.underlying80 Tryz.sizeOf4 h51 h52) fun a hf => ?_
       refine q_ hf rfl rfl rfl (e_load1 hf rfl Tryz.isAgg4 (hcell54 0 _ rfl)) fun a hf => ?_
       refine q_ hf rfl rfl rfl (e_move hf rfl) fun a hf => ?_
       rcases cond_some h48 with ⟨hc55, h48⟩ | ⟨hc55, h48⟩
       ·iterate 8 refine pl_gs (wanted_f hf rfl rfl rfl rfl hc55) hf rfl rfl fun a hf => ?_
        refine q_ hf rfl rfl rfl (e_pick_t hf rfl hc55 rfl) fun a hf => ?_
        obtain ⟨e56, hz57, h48⟩ := bind_some h48
        obtain ⟨_, h58, h59, hr60, hcell61⟩ := hM.rowElem' (k := 0) rfl (n := 1) rfl hz57
        obtain rfl : _ = _ := hr60
        refine q_ hf rfl rfl rfl (e_indexAddr (A := (some ⟨b12, 0, none⟩)) (b := b12) (o := 0) (xs := xs32) (i := k33) hf rfl rfl rfl Tryz.underlying80 Tryz.sizeOf4 h58 h59) fun a hf => ?_
        obtain ⟨xs63, hz64, h48⟩ := bind_some h48
        refine pl_0 hf rfl rfl (w_storeElem hf hM (x := true) (row := [.bool (true)]) (i := k33) rfl rfl rfl rfl (k := 0) rfl rfl Tryz.sizeOf4 rfl hz64 fun w62 hM => ?_)
        dsimp only [List.set] at hM
        have hf := hf.alter (d := 4) (v := vL (some ⟨b12, 0, none⟩) (xs63) (((d1.Nodes.length : Int) : Int).toNat)) rfl (vL_len (setL_len hz64))
        have hf := hf.alter (d := 25) (v := vL (some ⟨b12, 0, none⟩) (xs63) (((d1.Nodes.length : Int) : Int).toNat)) rfl (vL_len (setL_len hz64))
        have hf := hf.alter (d := 27) (v := vL (some ⟨b12, 0, none⟩) (xs63) (((d1.Nodes.length : Int) : Int).toNat)) rfl (vL_len (setL_len hz64))
        refine pl_nil ?_
        obtain rfl := some_inj h48
        refine then_n ?_
        exact ⟨xs63, rfl, hf.keep ⟨rfl, rfl, rfl, rfl, rfl, trivial⟩, hM.pick [0, 1, 2] rfl⟩
       refine gq (wanted_t hf rfl rfl rfl rfl hc55) hf rfl rfl (e_move hf rfl) fun a hf => ?_
       refine gq (wanted_t hf rfl rfl rfl rfl hc55) hf rfl rfl (e_nil hf rfl) fun a hf => ?_
       refine gq (wanted_t hf rfl rfl rfl rfl hc55) hf rfl rfl (e_field hf rfl Tryz.underlying31 rfl Tryz.sizeOf29 (o' := o3 + 0) rfl) fun a hf => ?_
       refine gq (wanted_t hf rfl rfl rfl rfl hc55) hf rfl rfl (e_load1 hf rfl Tryz.isAgg29 (hM.litCell (k := 1) (j := 0) rfl rfl rfl)) fun a hf => ?_
       refine gq (wanted_t hf rfl rfl rfl rfl hc55) hf rfl rfl (e_move hf rfl) fun a hf => ?_
       obtain ⟨e68, hz69, h48⟩ := bind_some h48
       obtain ⟨b73, o74, _, hA75, h70, h71, hr72, hM⟩ := hM.elem (hM.dat (k := 0) rfl) (n := 3) rfl hz69
       obtain ⟨A77, c78, rfl, hv76, hv79⟩ := NodeRep_open hr72
       have hM := hM.add (y := .dat (sliceRep intRep) e68.Next [vL A77 e68.Next c78]) hv79
       refine gq (wanted_t hf rfl rfl rfl rfl hc55) hf rfl rfl (e_indexAddr (A := A6) (b := b73) (o := o74) (xs := d1.Nodes) (i := k33) hf hA75 rfl rfl Tryz.underlying29 Tryz.sizeOf47 h70 h71) fun a hf => ?_
       refine gq (wanted_t hf rfl rfl rfl rfl hc55) hf rfl rfl (e_field hf rfl Tryz.underlying47 rfl Tryz.sizeOf4 (o' := (o74 + (k33 : Int).toNat * 3) + 0) rfl) fun a hf => ?_
       refine gq (wanted_t hf rfl rfl rfl rfl hc55) hf rfl rfl (e_load1 hf rfl Tryz.isAgg4 (hM.litCell (k := 1) (j := 0) rfl rfl rfl)) fun a hf => ?_
       refine q_ hf rfl rfl rfl (e_pick_f hf rfl hc55 rfl) fun a hf => ?_
       obtain ⟨e80, hz81, h48⟩ := bind_some h48
       obtain ⟨_, h82, h83, hr84, hcell85⟩ := hM.rowElem' (k := 0) rfl (n := 1) rfl hz81
       obtain rfl : _ = _ := hr84
       refine q_ hf rfl rfl rfl (e_indexAddr (A := (some ⟨b12, 0, none⟩)) (b := b12) (o := 0) (xs := xs32) (i := k33) hf rfl rfl rfl Tryz.underlying80 Tryz.sizeOf4 h82 h83) fun a hf => ?_
       obtain ⟨xs87, hz88, h48⟩ := bind_some h48
       refine pl_0 hf rfl rfl (w_storeElem hf hM (x := e68.Final) (row := [.bool (e68.Final)]) (i := k33) rfl rfl rfl rfl (k := 0) rfl rfl Tryz.sizeOf4 rfl hz88 fun w86 hM => ?_)
       dsimp only [List.set] at hM
       have hf := hf.alter (d := 4) (v := vL (some ⟨b12, 0, none⟩) (xs87) (((d1.Nodes.length : Int) : Int).toNat)) rfl (vL_len (setL_len hz88))
       have hf := hf.alter (d := 25) (v := vL (some ⟨b12, 0, none⟩) (xs87) (((d1.Nodes.length : Int) : Int).toNat)) rfl (vL_len (setL_len hz88))
       have hf := hf.alter (d := 27) (v := vL (some ⟨b12, 0, none⟩) (xs87) (((d1.Nodes.length : Int) : Int).toNat)) rfl (vL_len (setL_len hz88))
       refine pl_nil ?_
       obtain rfl := some_inj h48
       refine then_n ?_
       exact ⟨xs87, rfl, hf.keep ⟨rfl, rfl, rfl, rfl, rfl, trivial⟩, hM.pick [2, 3, 4] rfl⟩
      rintro a w92 ⟨xs46, rfl, hf, hM⟩
      try dsimp only at h45
      refine wp_seq ?_
      refine region_pl ?_
      refine q_ hf rfl rfl rfl (e_assign hf rfl) fun a hf => ?_
      refine pl_nil ?_
      refine then_n ?_
      refine wp_block ?_
      obtain ⟨x98, h99, h45⟩ := bind_some h45
      refine wp_loopM h99 (fun s a w => ∃ (xs93 : (List Bool)) (i94 : Int), (xs93, i94) = s ∧ Has 88 a [(0, vP b2 (o3)), (3, vI ((d1.Nodes.length : Int))), (4, vL (some ⟨b12, 0, none⟩) (xs93) (((d1.Nodes.length : Int) : Int).toNat)), (5, vI (i19)), (6, vI (k33)), (7, vI (i94))] ∧ Mem C w [.row boolRep (some ⟨b12, 0, none⟩) (((d1.Nodes.length : Int) : Int).toNat) 4 xs93 true] [.dat (sliceRep NodeRep) d1.Nodes [vL A6 d1.Nodes c7], .lit b2 (o3) [vL A6 (d1.Nodes) c7], .dat (ptrRep DawgRep) d1 [vP b2 o3]] ∧ R64 i94) ?_ ?_
      ·exact ⟨xs46, 0, rfl, hf.keep ⟨rfl, rfl, rfl, rfl, rfl, rfl, trivial⟩, hM.pick [0, 1, 2] rfl, (R64_lit rfl)⟩
      rintro s o100 a w96 ⟨xs93, i94, rfl, hf, hM, hv95⟩ h101 hd102
      replace h101 : m_spec_l06Useful_l3 d1 k33 xs93 i94 = some o100 := h101
      unfold m_spec_l06Useful_l3 at h101
      iterate 2 refine wp_seq ?_
      refine region_pl ?_
      iterate 2 refine q_ hf rfl rfl rfl (e_move hf rfl) fun a hf => ?_
      refine q_ hf rfl rfl rfl (e_nil hf rfl) fun a hf => ?_
      refine q_ hf rfl rfl rfl (e_field hf rfl Tryz.underlying31 rfl Tryz.sizeOf29 (o' := o3 + 0) rfl) fun a hf => ?_
      refine q_ hf rfl rfl rfl (e_load1 hf rfl Tryz.isAgg29 (hM.litCell (k := 1) (j := 0) rfl rfl rfl)) fun a hf => ?_
      refine q_ hf rfl rfl rfl (e_move hf rfl) fun a hf => ?_
      obtain ⟨e103, hz104, h101⟩ := bind_some h101
      obtain ⟨b108, o109, _, hA110, h105, h106, hr107, hM⟩ := hM.elem (hM.dat (k := 0) rfl) (n := 3) rfl hz104
      obtain ⟨A112, c113, rfl, hv111, hv114⟩ := NodeRep_open hr107
      have hM := hM.add (y := .dat (sliceRep intRep) e103.Next [vL A112 e103.Next c113]) hv114
      refine q_ hf rfl rfl rfl (e_indexAddr (A := A6) (b := b108) (o := o109) (xs := d1.Nodes) (i := k33) hf hA110 rfl rfl Tryz.underlying29 Tryz.sizeOf47 h105 h106) fun a hf => ?_
      refine q_ hf rfl rfl rfl (e_field hf rfl Tryz.underlying47 rfl Tryz.sizeOf45 (o' := (o109 + (k33 : Int).toNat * 3) + 2) rfl) fun a hf => ?_
      refine q_ hf rfl rfl rfl (e_load1 hf rfl Tryz.isAgg45 (hM.litCell (k := 1) (j := 2) rfl rfl rfl)) fun a hf => ?_
      have hl115 := slice_len (hM.dat (k := 0) rfl)
      refine q_ hf rfl rfl rfl (e_lenL hf (x := e103.Next) rfl Tryz.underlying45) fun a hf => ?_
      refine q_ hf rfl rfl rfl (e_lt hf (x := i94) (y := (e103.Next.length : Int)) rfl rfl) fun a hf => ?_
      refine pl_nil ?_
      refine then_n ?_
      rcases cond_some h101 with ⟨hc116, h101⟩ | ⟨hc116, h101⟩
      ·refine cond_t hf rfl hc116 ?_
       refine wp_skip ?_
       refine then_n ?_
       obtain ⟨x118, h119, h101⟩ := bind_some h101
       refine seq_join (fun a w => ∃ (xs117 : (List Bool)), xs117 = x118 ∧ Has 88 a [(0, vP b2 (o3)), (3, vI ((d1.Nodes.length : Int))), (4, vL (some ⟨b12, 0, none⟩) (xs117) (((d1.Nodes.length : Int) : Int).toNat)), (5, vI (i19)), (6, vI (k33)), (7, vI (i94))] ∧ Mem C w [.row boolRep (some ⟨b12, 0, none⟩) (((d1.Nodes.length : Int) : Int).toNat) 4 xs117 true] [.dat (sliceRep intRep) e103.Next [vL A112 e103.Next c113], .lit b108 (o109 + (k33 : Int).toNat * 3) [.bool (e103.Final), vS (e103.Letters), vL A112 (e103.Next) c113], .dat (sliceRep NodeRep) d1.Nodes [vL A6 d1.Nodes c7], .lit b2 (o3) [vL A6 (d1.Nodes) c7], .dat (ptrRep DawgRep) d1 [vP b2 o3]]) ?_ ?_
       ·refine wp_block ?_
        refine region_pl ?_
        iterate 4 refine q_ hf rfl rfl rfl (e_move hf rfl) fun a hf => ?_
        obtain ⟨e120, hz121, h119⟩ := bind_some h119
        obtain ⟨_, h122, h123, hr124, hcell125⟩ := hM.rowElem' (k := 0) rfl (n := 1) rfl hz121
        obtain rfl : _ = _ := hr124
        refine q_ hf rfl rfl rfl (e_indexAddr (A := (some ⟨b12, 0, none⟩)) (b := b12) (o := 0) (xs := xs93) (i := k33) hf rfl rfl rfl Tryz.underlying80 Tryz.sizeOf4 h122 h123) fun a hf => ?_
        refine q_ hf rfl rfl rfl (e_load1 hf rfl Tryz.isAgg4 (hcell125 0 _ rfl)) fun a hf => ?_
        refine q_ hf rfl rfl rfl (e_move hf rfl) fun a hf => ?_
        rcases cond_some h119 with ⟨hc126, h119⟩ | ⟨hc126, h119⟩
        ·iterate 14 refine pl_gs (wanted_f hf rfl rfl rfl rfl hc126) hf rfl rfl fun a hf => ?_
         refine q_ hf rfl rfl rfl (e_pick_t hf rfl hc126 rfl) fun a hf => ?_
         obtain ⟨e127, hz128, h119⟩ := bind_some h119
         obtain ⟨_, h129, h130, hr131, hcell132⟩ := hM.rowElem' (k := 0) rfl (n := 1) rfl hz128
         obtain rfl : _ = _ := hr131
         refine q_ hf rfl rfl rfl (e_indexAddr (A := (some ⟨b12, 0, none⟩)) (b := b12) (o := 0) (xs := xs93) (i := k33) hf rfl rfl rfl Tryz.underlying80 Tryz.sizeOf4 h129 h130) fun a hf => ?_
         obtain ⟨xs134, hz135, h119⟩ := bind_some h119
         refine pl_0 hf rfl rfl (w_storeElem hf hM (x := true) (row := [.bool (true)]) (i := k33) rfl rfl rfl rfl (k := 0) rfl rfl Tryz.sizeOf4 rfl hz135 fun w133 hM => ?_)
         dsimp only [List.set] at hM
         have hf := hf.alter (d := 4) (v := vL (some ⟨b12, 0, none⟩) (xs134) (((d1.Nodes.length : Int) : Int).toNat)) rfl (vL_len (setL_len hz135))
         have hf := hf.alter (d := 55) (v := vL (some ⟨b12, 0, none⟩) (xs134) (((d1.Nodes.length : Int) : Int).toNat)) rfl (vL_len (setL_len hz135))
         have hf := hf.alter (d := 57) (v := vL (some ⟨b12, 0, none⟩) (xs134) (((d1.Nodes.length : Int) : Int).toNat)) rfl (vL_len (setL_len hz135))
         refine pl_nil ?_
         refine blk_n ?_
         obtain rfl := some_inj h119
         refine then_n ?_
         exact ⟨xs134, rfl, hf.keep ⟨rfl, rfl, rfl, rfl, rfl, rfl, trivial⟩, hM.pick [0, 1, 2, 3, 4] rfl⟩
        iterate 2 refine gq (wanted_t hf rfl rfl rfl rfl hc126) hf rfl rfl (e_move hf rfl) fun a hf => ?_
        refine gq (wanted_t hf rfl rfl rfl rfl hc126) hf rfl rfl (e_nil hf rfl) fun a hf => ?_
        refine gq (wanted_t hf rfl rfl rfl rfl hc126) hf rfl rfl (e_field hf rfl Tryz.underlying31 rfl Tryz.sizeOf29 (o' := o3 + 0) rfl) fun a hf => ?_
        refine gq (wanted_t hf rfl rfl rfl rfl hc126) hf rfl rfl (e_load1 hf rfl Tryz.isAgg29 (hM.litCell (k := 3) (j := 0) rfl rfl rfl)) fun a hf => ?_
        refine gq (wanted_t hf rfl rfl rfl rfl hc126) hf rfl rfl (e_move hf rfl) fun a hf => ?_
        obtain ⟨e139, hz140, h119⟩ := bind_some h119
        obtain ⟨b144, o145, _, hA146, h141, h142, hr143, hM⟩ := hM.elem (hM.dat (k := 2) rfl) (n := 3) rfl hz140
        obtain ⟨A148, c149, rfl, hv147, hv150⟩ := NodeRep_open hr143
        have hM := hM.add (y := .dat (sliceRep intRep) e139.Next [vL A148 e139.Next c149]) hv150
        refine gq (wanted_t hf rfl rfl rfl rfl hc126) hf rfl rfl (e_indexAddr (A := A6) (b := b144) (o := o145) (xs := d1.Nodes) (i := k33) hf hA146 rfl rfl Tryz.underlying29 Tryz.sizeOf47 h141 h142) fun a hf => ?_
        refine gq (wanted_t hf rfl rfl rfl rfl hc126) hf rfl rfl (e_field hf rfl Tryz.underlying47 rfl Tryz.sizeOf45 (o' := (o145 + (k33 : Int).toNat * 3) + 2) rfl) fun a hf => ?_
        refine gq (wanted_t hf rfl rfl rfl rfl hc126) hf rfl rfl (e_load1 hf rfl Tryz.isAgg45 (hM.litCell (k := 1) (j := 2) rfl rfl rfl)) fun a hf => ?_
        refine gq (wanted_t hf rfl rfl rfl rfl hc126) hf rfl rfl (e_move hf rfl) fun a hf => ?_
        obtain ⟨e151, hz152, h119⟩ := bind_some h119
        obtain ⟨b156, o157, _, hA158, h153, h154, hr155, hM⟩ := hM.elem (hM.dat (k := 0) rfl) (n := 1) rfl hz152
        obtain ⟨rfl, hv159⟩ := hr155
        refine gq (wanted_t hf rfl rfl rfl rfl hc126) hf rfl rfl (e_indexAddr (A := A148) (b := b156) (o := o157) (xs := e139.Next) (i := i94) hf hA158 rfl rfl Tryz.underlying45 Tryz.sizeOf2 h153 h154) fun a hf => ?_
        refine gq (wanted_t hf rfl rfl rfl rfl hc126) hf rfl rfl (e_load1 hf rfl Tryz.isAgg2 (hM.litCell (k := 0) (j := 0) rfl rfl rfl)) fun a hf => ?_
        obtain ⟨e160, hz161, h119⟩ := bind_some h119
        obtain ⟨_, h162, h163, hr164, hcell165⟩ := hM.rowElem' (k := 0) rfl (n := 1) rfl hz161
        obtain rfl : _ = _ := hr164
        refine gq (wanted_t hf rfl rfl rfl rfl hc126) hf rfl rfl (e_indexAddr (A := (some ⟨b12, 0, none⟩)) (b := b12) (o := 0) (xs := xs93) (i := e151) hf rfl rfl rfl Tryz.underlying80 Tryz.sizeOf4 h162 h163) fun a hf => ?_
        refine gq (wanted_t hf rfl rfl rfl rfl hc126) hf rfl rfl (e_load1 hf rfl Tryz.isAgg4 (hcell165 0 _ rfl)) fun a hf => ?_
        refine q_ hf rfl rfl rfl (e_pick_f hf rfl hc126 rfl) fun a hf => ?_
        obtain ⟨e166, hz167, h119⟩ := bind_some h119
        obtain ⟨_, h168, h169, hr170, hcell171⟩ := hM.rowElem' (k := 0) rfl (n := 1) rfl hz167
        obtain rfl : _ = _ := hr170
        refine q_ hf rfl rfl rfl (e_indexAddr (A := (some ⟨b12, 0, none⟩)) (b := b12) (o := 0) (xs := xs93) (i := k33) hf rfl rfl rfl Tryz.underlying80 Tryz.sizeOf4 h168 h169) fun a hf => ?_
        obtain ⟨xs173, hz174, h119⟩ := bind_some h119
        refine pl_0 hf rfl rfl (w_storeElem hf hM (x := e160) (row := [.bool (e160)]) (i := k33) rfl rfl rfl rfl (k := 0) rfl rfl Tryz.sizeOf4 rfl hz174 fun w172 hM => ?_)
        dsimp only [List.set] at hM
        have hf := hf.alter (d := 4) (v := vL (some ⟨b12, 0, none⟩) (xs173) (((d1.Nodes.length : Int) : Int).toNat)) rfl (vL_len (setL_len hz174))
        have hf := hf.alter (d := 55) (v := vL (some ⟨b12, 0, none⟩) (xs173) (((d1.Nodes.length : Int) : Int).toNat)) rfl (vL_len (setL_len hz174))
        have hf := hf.alter (d := 57) (v := vL (some ⟨b12, 0, none⟩) (xs173) (((d1.Nodes.length : Int) : Int).toNat)) rfl (vL_len (setL_len hz174))
        have hf := hf.alter (d := 62) (v := vL (some ⟨b12, 0, none⟩) (xs173) (((d1.Nodes.length : Int) : Int).toNat)) rfl (vL_len (setL_len hz174))
        refine pl_nil ?_
        refine blk_n ?_
        obtain rfl := some_inj h119
        refine then_n ?_
        exact ⟨xs173, rfl, hf.keep ⟨rfl, rfl, rfl, rfl, rfl, rfl, trivial⟩, hM.pick [3, 4, 5, 6, 7] rfl⟩
       rintro a w178 ⟨xs117, rfl, hf, hM⟩
       try dsimp only at h101
       refine region_pl ?_
       refine q_ hf rfl rfl rfl (e_move hf rfl) fun a hf => ?_
       obtain ⟨z179, hz180, h101⟩ := bind_some h101
       refine q_ hf rfl rfl rfl (e_add hf rfl rfl hz180) fun a hf => ?_
       refine q_ hf rfl rfl rfl (e_assign hf rfl) fun a hf => ?_
       refine pl_nil ?_
       obtain rfl := some_inj h101
       refine then_n ⟨_, rfl, ?_⟩
       exact ⟨xs117, z179, rfl, hf.keep ⟨rfl, rfl, rfl, rfl, rfl, rfl, trivial⟩, hM.pick [2, 3, 4] rfl, (chk_R hz180)⟩
      refine cond_f hf rfl hc116 ?_
      refine wp_exit ?_
      refine then_x ?_
      obtain rfl := some_inj h101
      obtain rfl := hd102 _ rfl
      try dsimp only at h45
      refine then_x ?_
      refine exit_hit ?_
      refine blk_n ?_
      obtain rfl := some_inj h45
      refine then_n ?_
      exact ⟨xs93, rfl, hf.keep ⟨rfl, rfl, rfl, rfl, rfl, trivial⟩, hM.pick [2, 3, 4] rfl⟩
     rintro a w186 ⟨xs43, rfl, hf, hM⟩
     try dsimp only at h40
     refine region_pl ?_
     refine q_ hf rfl rfl rfl (e_move hf rfl) fun a hf => ?_
     obtain ⟨z187, hz188, h40⟩ := bind_some h40
     refine q_ hf rfl rfl rfl (e_add hf rfl rfl hz188) fun a hf => ?_
     refine q_ hf rfl rfl rfl (e_assign hf rfl) fun a hf => ?_
     refine pl_nil ?_
     obtain rfl := some_inj h40
     refine then_n ⟨_, rfl, ?_⟩
     exact ⟨xs43, z187, rfl, hf.keep ⟨rfl, rfl, rfl, rfl, rfl, trivial⟩, hM.pick [0, 1, 2] rfl, (chk_R hz188)⟩
    refine cond_f hf rfl hc42 ?_
    refine wp_exit ?_
    refine then_x ?_
    obtain rfl := some_inj h40
    obtain rfl := hd41 _ rfl
    try dsimp only at h31
    refine then_x ?_
    refine exit_hit ?_
    refine blk_n ?_
    obtain rfl := some_inj h31
    refine then_n ?_
    exact ⟨xs32, rfl, hf.keep ⟨rfl, rfl, rfl, rfl, trivial⟩, hM.pick [0, 1, 2] rfl⟩
   rintro a w194 ⟨xs29, rfl, hf, hM⟩
   try dsimp only at h26
   refine region_pl ?_
   refine q_ hf rfl rfl rfl (e_move hf rfl) fun a hf => ?_
   obtain ⟨z195, hz196, h26⟩ := bind_some h26
   refine q_ hf rfl rfl rfl (e_add hf rfl rfl hz196) fun a hf => ?_
   refine q_ hf rfl rfl rfl (e_assign hf rfl) fun a hf => ?_
   refine pl_nil ?_
   obtain rfl := some_inj h26
   refine then_n ⟨_, rfl, ?_⟩
   exact ⟨xs29, z195, rfl, hf.keep ⟨rfl, rfl, rfl, rfl, trivial⟩, hM.pick [0, 1, 2] rfl, (chk_R hz196)⟩
  refine cond_f hf rfl hc28 ?_
  refine wp_exit ?_
  refine then_x ?_
  obtain rfl := some_inj h26
  obtain rfl := hd27 _ rfl
  try dsimp only at h17
  refine then_x ?_
  refine exit_hit ?_
  obtain rfl := some_inj h17
  refine then_n ?_
  exact ⟨xs18, rfl, hf.keep ⟨rfl, rfl, trivial⟩, hM.pick [0, 1, 2] rfl⟩
 rintro a w202 ⟨xs15, rfl, hf, hM⟩
 try dsimp only at h
 obtain ⟨x203, h204, h⟩ := bind_some h
 refine seq_join (fun a w => (.inl ()) = x203 ∧ Has 88 a [] ∧ Mem C w [.row boolRep (some ⟨b12, 0, none⟩) (((d1.Nodes.length : Int) : Int).toNat) 4 xs15 true] [.dat (sliceRep NodeRep) d1.Nodes [vL A6 d1.Nodes c7], .lit b2 (o3) [vL A6 (d1.Nodes) c7], .dat (ptrRep DawgRep) d1 [vP b2 o3]]) ?_ ?_
 ·refine wp_seq ?_
  refine region_pl ?_
  refine q_ hf rfl rfl rfl (e_assign hf rfl) fun a hf => ?_
  refine pl_nil ?_
  refine then_n ?_
  refine wp_block ?_
  obtain ⟨x208, h209, h204⟩ := bind_some h204
  refine wp_loopM h209 (fun s a w => ∃ (n205 : Int), n205 = s ∧ Has 88 a [(3, vI ((d1.Nodes.length : Int))), (4, vL (some ⟨b12, 0, none⟩) (xs15) (((d1.Nodes.length : Int) : Int).toNat)), (8, vI (n205))] ∧ Mem C w [.row boolRep (some ⟨b12, 0, none⟩) (((d1.Nodes.length : Int) : Int).toNat) 4 xs15 true] [.dat (sliceRep NodeRep) d1.Nodes [vL A6 d1.Nodes c7], .lit b2 (o3) [vL A6 (d1.Nodes) c7], .dat (ptrRep DawgRep) d1 [vP b2 o3]] ∧ R64 n205) ?_ ?_
  ·exact ⟨1, rfl, hf.keep ⟨rfl, rfl, rfl, trivial⟩, hM.pick [0, 1, 2] rfl, (R64_lit rfl)⟩
  rintro s o210 a w207 ⟨n205, rfl, hf, hM, hv206⟩ h211 hd212
  replace h211 : m_spec_l06Useful_l4 d1 xs15 n205 = some o210 := h211
  unfold m_spec_l06Useful_l4 at h211
  iterate 2 refine wp_seq ?_
  refine region_pl ?_
  iterate 2 refine q_ hf rfl rfl rfl (e_move hf rfl) fun a hf => ?_
  refine q_ hf rfl rfl rfl (e_lt hf (x := n205) (y := (d1.Nodes.length : Int)) rfl rfl) fun a hf => ?_
  refine pl_nil ?_
  refine then_n ?_
  rcases cond_some h211 with ⟨hc213, h211⟩ | ⟨hc213, h211⟩
  ·refine cond_t hf rfl hc213 ?_
   refine wp_skip ?_
   refine then_n ?_
   refine wp_seq ?_
   refine wp_block ?_
   refine wp_seq ?_
   refine region_pl ?_
   iterate 2 refine q_ hf rfl rfl rfl (e_move hf rfl) fun a hf => ?_
   obtain ⟨e214, hz215, h211⟩ := bind_some h211
   obtain ⟨_, h216, h217, hr218, hcell219⟩ := hM.rowElem' (k := 0) rfl (n := 1) rfl hz215
   obtain rfl : _ = _ := hr218
   refine q_ hf rfl rfl rfl (e_indexAddr (A := (some ⟨b12, 0, none⟩)) (b := b12) (o := 0) (xs := xs15) (i := n205) hf rfl rfl rfl Tryz.underlying80 Tryz.sizeOf4 h216 h217) fun a hf => ?_
   refine q_ hf rfl rfl rfl (e_load1 hf rfl Tryz.isAgg4 (hcell219 0 _ rfl)) fun a hf => ?_
   refine q_ hf rfl rfl rfl (e_not hf rfl) fun a hf => ?_
   refine pl_nil ?_
   refine then_n ?_
   rcases cond_some h211 with ⟨hc220, h211⟩ | ⟨hc220, h211⟩
   ·refine cond_t hf rfl hc220 ?_
    refine wp_seq ?_
    refine region_pl ?_
    refine q_ hf rfl rfl rfl (e_assign hf rfl) fun a hf => ?_
    refine pl_nil ?_
    refine then_n ?_
    refine wp_ret ?_
    refine blk_r ?_
    refine then_r ?_
    obtain rfl := some_inj h211
    obtain rfl := hd212 _ rfl
    try dsimp only at h204
    refine then_r ?_
    refine blk_r ?_
    obtain rfl := some_inj h204
    try dsimp only at h
    refine then_r ?_
    obtain rfl := some_inj h
    have hM := hM.outs (own' := []) 0 rfl
    exact leave1 hf rfl rfl ⟨rfl, hM.fin⟩
   refine cond_f hf rfl hc220 ?_
   refine wp_skip ?_
   refine blk_n ?_
   refine then_n ?_
   refine region_pl ?_
   refine q_ hf rfl rfl rfl (e_move hf rfl) fun a hf => ?_
   obtain ⟨z221, hz222, h211⟩ := bind_some h211
   refine q_ hf rfl rfl rfl (e_add hf rfl rfl hz222) fun a hf => ?_
   refine q_ hf rfl rfl rfl (e_assign hf rfl) fun a hf => ?_
   refine pl_nil ?_
   obtain rfl := some_inj h211
   refine then_n ⟨_, rfl, ?_⟩
   exact ⟨z221, rfl, hf.keep ⟨rfl, rfl, rfl, trivial⟩, hM.pick [0, 1, 2] rfl, (chk_R hz222)⟩
  refine cond_f hf rfl hc213 ?_
  refine wp_exit ?_
  refine then_x ?_
  obtain rfl := some_inj h211
  obtain rfl := hd212 _ rfl
  try dsimp only at h204
  refine then_x ?_
  refine exit_hit ?_
  obtain rfl := some_inj h204
  refine then_n ?_
  exact ⟨rfl, hf.keep trivial, hM.pick [0, 1, 2] rfl⟩
 rintro a w229 ⟨rfl, hf, hM⟩
 try dsimp only at h
 refine wp_seq ?_
 refine region_pl ?_
 refine q_ hf rfl rfl rfl (e_assign hf rfl) fun a hf => ?_
 refine pl_nil ?_
 refine then_n ?_
 refine wp_ret ?_
 obtain rfl := some_inj h
 have hM := hM.outs (own' := []) 0 rfl
 exact leave1 hf rfl rfl ⟨rfl, hM.fin⟩
def Ct_spec_l06W_walk (rc : l06W → Int → Str → Option l06W) : Prop := ∀ (C : Cx) (w1 : l06W) (b2 : Nat) (b3 : Nat) (o4 : Nat) (hp5 : (ptrRep DawgRep).R C.w0 C.S0 w1.d [vP b3 o4]) (A6 : Option Addr) (c7 : Nat) (node8 : Int) (hp9 : R64 node8) (s10 : Str) (hp11 : s10.length ≤ maxLen) (hO : Mem C C.w0 [.box b2 [vP b3 (o4), vL A6 (w1.out) c7, .bool (w1.full)] 156, .row strRep A6 c7 9 w1.out true] []) (hd : ∀ b, C.S0 b → ¬ ownB [.box b2 [vP b3 (o4), vL A6 (w1.out) c7, .bool (w1.full)] 156, .row strRep A6 c7 9 w1.out true] b) (r : l06W) (h : rc w1 node8 s10 = some r),
    Calls Tryz.prog 107 #[vP b2 (0), vI (node8), vS (s10)] C.w0 fun e w => ∃ (A_1 : Option Addr), ∃ (c_1 : Nat), e = .returned (.tuple #[]) ∧ Mem C w [.box b2 [vP b3 (o4), vL A_1 (r.out) c_1, .bool (r.full)] 156, .row strRep A_1 c_1 9 r.out true] []
theorem r_spec_l06W_walk_b (rc : l06W → Int → Str → Option l06W) (ih : Ct_spec_l06W_walk rc) : Ct_spec_l06W_walk (m_spec_l06W_walk_b rc) := by
 intro C w1 b2 b3 o4 hp5 A6 c7 node8 hp9 s10 hp11 hO hd r h
 have hM := hO
 have hM := hM.addIn hd (y := .dat (ptrRep DawgRep) w1.d [vP b3 o4]) hp5
 refine enter Tryz.func107 rfl Tryz.ntmps107 rfl fun a hf => ?_
 unfold m_spec_l06W_walk_b at h
 refine wp_seq ?_
 obtain ⟨x14, h15, h⟩ := bind_some h
 refine seq_join (fun a w => ∃ (t12 : Bool), t12 = x14 ∧ Has 87 a [(0, vP b2 (0)), (1, vI (node8)), (2, vS (s10)), (16, .bool (t12))] ∧ Mem C w [.box b2 [vP b3 (o4), vL A6 (w1.out) c7, .bool (w1.full)] 156, .row strRep A6 c7 9 w1.out true] [.dat (ptrRep DawgRep) w1.d [vP b3 o4]]) ?_ ?_
 ·refine region_pl ?_
  refine q_ hf rfl rfl rfl (e_move hf rfl) fun a hf => ?_
  refine q_ hf rfl rfl rfl (e_nil hf rfl) fun a hf => ?_
  refine q_ hf rfl rfl rfl (e_field hf rfl Tryz.underlying156 rfl Tryz.sizeOf4 (o' := 2) rfl) fun a hf => ?_
  refine q_ hf rfl rfl rfl (e_load1 hf rfl Tryz.isAgg4 (hM.boxCell (k := 0) rfl rfl)) fun a hf => ?_
  refine q_ hf rfl rfl rfl (e_move hf rfl) fun a hf => ?_
  rcases cond_some h15 with ⟨hc16, h15⟩ | ⟨hc16, h15⟩
  ·iterate 3 refine pl_gs (wanted_f hf rfl rfl rfl rfl hc16) hf rfl rfl fun a hf => ?_
   refine q_ hf rfl rfl rfl (e_pick_t hf rfl hc16 rfl) fun a hf => ?_
   refine pl_nil ?_
   obtain rfl := some_inj h15
   refine then_n ?_
   exact ⟨true, rfl, hf.keep ⟨rfl, rfl, rfl, rfl, trivial⟩, hM.pick [0] rfl⟩
  refine gq (wanted_t hf rfl rfl rfl rfl hc16) hf rfl rfl (e_move hf rfl) fun a hf => ?_
  refine gq (wanted_t hf rfl rfl rfl rfl hc16) hf rfl rfl (e_lenS hf (x := s10) rfl Tryz.underlying9) fun a hf => ?_
  refine gq (wanted_t hf rfl rfl rfl rfl hc16) hf rfl rfl (e_gt hf (x := (s10.length : Int)) (y := 13) rfl rfl) fun a hf => ?_
  refine q_ hf rfl rfl rfl (e_pick_f hf rfl hc16 rfl) fun a hf => ?_
  refine pl_nil ?_
  obtain rfl := some_inj h15
  refine then_n ?_
  exact ⟨(decide (13 < (s10.length : Int))), rfl, hf.keep ⟨rfl, rfl, rfl, rfl, trivial⟩, hM.pick [0] rfl⟩
 rintro a w19 ⟨t12, rfl, hf, hM⟩
 try dsimp only at h
 rcases cond_some h with ⟨hc20, h⟩ | ⟨hc20, h⟩
 ·refine cond_t hf rfl hc20 ?_
  refine wp_seq ?_
  refine region_pl ?_
  refine q_ hf rfl rfl rfl (e_move hf rfl) fun a hf => ?_
  refine q_ hf rfl rfl rfl (e_nil hf rfl) fun a hf => ?_
  refine q_ hf rfl rfl rfl (e_field hf rfl Tryz.underlying156 rfl Tryz.sizeOf4 (o' := 2) rfl) fun a hf => ?_
  refine pl_0 hf rfl rfl (w_store hf hM (us := [.bool (true)]) (cs' := [vP b3 (o4), vL A6 (w1.out) c7, .bool (true)]) rfl rfl (k := 0) rfl rfl Tryz.sizeOf4 rfl rfl rfl fun w21 hM => ?_)
  dsimp only [List.set] at hM
  refine pl_nil ?_
  refine then_n ?_
  refine wp_ret ?_
  refine then_r ?_
  obtain rfl := some_inj h
  exact leave0 hf rfl ⟨A6, c7, rfl, hM.fin⟩
 refine cond_f hf rfl hc20 ?_
 refine wp_skip ?_
 refine then_n ?_
 refine wp_seq ?_
 refine region_pl ?_
 refine q_ hf rfl rfl rfl (e_move hf rfl) fun a hf => ?_
 refine q_ hf rfl rfl rfl (e_nil hf rfl) fun a hf => ?_
 refine q_ hf rfl rfl rfl (e_field hf rfl Tryz.underlying156 rfl Tryz.sizeOf78 (o' := 0) rfl) fun a hf => ?_
 refine q_ hf rfl rfl rfl (e_load1 hf rfl Tryz.isAgg78 (hM.boxCell (k := 0) rfl rfl)) fun a hf => ?_
 refine q_ hf rfl rfl rfl (e_nil hf rfl) fun a hf => ?_
 obtain ⟨_, hr24, hM⟩ := hM.deref (hM.dat (k := 0) rfl)
 obtain ⟨A25, c26, rfl, hv27⟩ := DawgRep_open hr24
 have hM := hM.add (y := .dat (sliceRep NodeRep) w1.d.Nodes [vL A25 w1.d.Nodes c26]) hv27
 refine q_ hf rfl rfl rfl (e_field hf rfl Tryz.underlying31 rfl Tryz.sizeOf29 (o' := o4 + 0) rfl) fun a hf => ?_
 refine q_ hf rfl rfl rfl (e_load1 hf rfl Tryz.isAgg29 (hM.litCell (k := 1) (j := 0) rfl rfl rfl)) fun a hf => ?_
 refine q_ hf rfl rfl rfl (e_move hf rfl) fun a hf => ?_
 obtain ⟨e28, hz29, h⟩ := bind_some h
 obtain ⟨b33, o34, _, hA35, h30, h31, hr32, hM⟩ := hM.elem (hM.dat (k := 0) rfl) (n := 3) rfl hz29
 obtain ⟨A37, c38, rfl, hv36, hv39⟩ := NodeRep_open hr32
 have hM := hM.add (y := .dat (sliceRep intRep) e28.Next [vL A37 e28.Next c38]) hv39
 refine q_ hf rfl rfl rfl (e_indexAddr (A := A25) (b := b33) (o := o34) (xs := w1.d.Nodes) (i := node8) hf hA35 rfl rfl Tryz.underlying29 Tryz.sizeOf47 h30 h31) fun a hf => ?_
 refine q_ hf rfl rfl rfl (e_assign hf rfl) fun a hf => ?_
 refine pl_nil ?_
 refine then_n ?_
 obtain ⟨x45, h46, h⟩ := bind_some h
 refine seq_join (fun a w => ∃ (t40 : Bool) (xs42 : (List Str)) (A43 : Option Addr) (c44 : Nat), (t40, xs42) = x45 ∧ Has 87 a [(0, vP b2 (0)), (2, vS (s10)), (6, vP b33 (o34 + (node8 : Int).toNat * 3))] ∧ Mem C w [.box b2 [vP b3 (o4), vL A43 (xs42) c44, .bool (t40)] 156, .row strRep A43 c44 9 xs42 true] [.dat (sliceRep intRep) e28.Next [vL A37 e28.Next c38], .lit b33 (o34 + (node8 : Int).toNat * 3) [.bool (e28.Final), vS (e28.Letters), vL A37 (e28.Next) c38], .dat (sliceRep NodeRep) w1.d.Nodes [vL A25 w1.d.Nodes c26], .lit b3 (o4) [vL A25 (w1.d.Nodes) c26], .dat (ptrRep DawgRep) w1.d [vP b3 o4]]) ?_ ?_
 ·refine wp_seq ?_
  refine region_pl ?_
  refine q_ hf rfl rfl rfl (e_move hf rfl) fun a hf => ?_
  refine q_ hf rfl rfl rfl (e_nil hf rfl) fun a hf => ?_
  refine q_ hf rfl rfl rfl (e_field hf rfl Tryz.underlying47 rfl Tryz.sizeOf4 (o' := (o34 + (node8 : Int).toNat * 3) + 0) rfl) fun a hf => ?_
  refine q_ hf rfl rfl rfl (e_load1 hf rfl Tryz.isAgg4 (hM.litCell (k := 1) (j := 0) rfl rfl rfl)) fun a hf => ?_
  refine pl_nil ?_
  refine then_n ?_
  rcases cond_some h46 with ⟨hc47, h46⟩ | ⟨hc47, h46⟩
  ·refine cond_t hf rfl hc47 ?_
   refine wp_seq ?_
   refine region_pl ?_
   iterate 2 refine q_ hf rfl rfl rfl (e_move hf rfl) fun a hf => ?_
   refine q_ hf rfl rfl rfl (e_nil hf rfl) fun a hf => ?_
   refine q_ hf rfl rfl rfl (e_field hf rfl Tryz.underlying156 rfl Tryz.sizeOf24 (o' := 1) rfl) fun a hf => ?_
   refine q_ hf rfl rfl rfl (e_load1 hf rfl Tryz.isAgg24 (hM.boxCell (k := 0) rfl rfl)) fun a hf => ?_
   refine q_ hf rfl rfl rfl (e_move hf rfl) fun a hf => ?_
   refine pl_l hf rfl rfl rfl (w_slice hf hM (K := strRep) (xs := ([s10] : (List Str))) (os := [.tmp 38]) Tryz.underlying24 ei_9 rfl rfl rfl rfl rfl ⟨⟨[vS (s10)], rfl, ⟨rfl, hp11⟩⟩, trivial⟩ rfl fun b48 w49 hx50 hM a hf => ?_)
   obtain ⟨xs51, hz52, h46⟩ := bind_some h46
   refine pl_l hf rfl rfl rfl (w_append hf hM Tryz.underlying24 ei_9 rfl rfl rfl (k := 2) rfl (hM.srcRow (k := 0) rfl) hz52 fun A53 c54 w55 hM a hf => ?_)
   dsimp only [List.set] at hM
   refine q_ hf rfl rfl rfl (e_nil hf rfl) fun a hf => ?_
   refine q_ hf rfl rfl rfl (e_field hf rfl Tryz.underlying156 rfl Tryz.sizeOf24 (o' := 1) rfl) fun a hf => ?_
   refine pl_0 hf rfl rfl (w_store hf hM (us := [vL A53 (xs51) c54]) (cs' := [vP b3 (o4), vL A53 (xs51) c54, .bool (w1.full)]) rfl rfl (k := 1) rfl rfl Tryz.sizeOf24 rfl rfl rfl fun w58 hM => ?_)
   dsimp only [List.set] at hM
   refine pl_nil ?_
   refine then_n ?_
   refine region_pl ?_
   iterate 2 refine q_ hf rfl rfl rfl (e_move hf rfl) fun a hf => ?_
   refine q_ hf rfl rfl rfl (e_nil hf rfl) fun a hf => ?_
   refine q_ hf rfl rfl rfl (e_field hf rfl Tryz.underlying156 rfl Tryz.sizeOf24 (o' := 1) rfl) fun a hf => ?_
   refine q_ hf rfl rfl rfl (e_load1 hf rfl Tryz.isAgg24 (hM.boxCell (k := 1) rfl rfl)) fun a hf => ?_
   have hl61 := row_len (hM.ownAt (k := 2) rfl)
   refine q_ hf rfl rfl rfl (e_lenL hf (x := xs51) rfl Tryz.underlying24) fun a hf => ?_
   refine q_ hf rfl rfl rfl (e_gt hf (x := (xs51.length : Int)) (y := 3000) rfl rfl) fun a hf => ?_
   refine q_ hf rfl rfl rfl (e_nil hf rfl) fun a hf => ?_
   refine q_ hf rfl rfl rfl (e_field hf rfl Tryz.underlying156 rfl Tryz.sizeOf4 (o' := 2) rfl) fun a hf => ?_
   refine pl_0 hf rfl rfl (w_store hf hM (us := [.bool (decide (3000 < (xs51.length : Int)))]) (cs' := [vP b3 (o4), vL A53 (xs51) c54, .bool (decide (3000 < (xs51.length : Int)))]) rfl rfl (k := 1) rfl rfl Tryz.sizeOf4 rfl rfl rfl fun w62 hM => ?_)
   dsimp only [List.set] at hM
   refine pl_nil ?_
   obtain rfl := some_inj h46
   refine then_n ?_
   exact ⟨(decide (3000 < (xs51.length : Int))), xs51, A53, c54, rfl, hf.keep ⟨rfl, rfl, rfl, trivial⟩, (hM.drop (.cons _ (.cons_cons _ (.cons_cons _ .slnil)))).pick [0, 1, 2, 3, 4] rfl⟩
  refine cond_f hf rfl hc47 ?_
  refine wp_skip ?_
  obtain rfl := some_inj h46
  refine then_n ?_
  exact ⟨w1.full, w1.out, A6, c7, rfl, hf.keep ⟨rfl, rfl, rfl, trivial⟩, hM.pick [0, 1, 2, 3, 4] rfl⟩
 rintro a w67 ⟨t40, xs42, A43, c44, rfl, hf, hM⟩
 try dsimp only at h
 refine wp_seq ?_
 refine region_pl ?_
 refine q_ hf rfl rfl rfl (e_assign hf rfl) fun a hf => ?_
 refine pl_nil ?_
 refine then_n ?_
 refine wp_block ?_
 obtain ⟨x81, h82, h⟩ := bind_some h
 refine wp_loopM h82 (fun s a w => ∃ (t68 : Bool) (xs70 : (List Str)) (n73 : Int) (A71 : Option Addr) (c72 : Nat), (t68, xs70, n73) = s ∧ Has 87 a [(0, vP b2 (0)), (2, vS (s10)), (6, vP b33 (o34 + (node8 : Int).toNat * 3)), (7, vI (n73))] ∧ Mem C w [.box b2 [vP b3 (o4), vL A71 (xs70) c72, .bool (t68)] 156, .row strRep A71 c72 9 xs70 true] [.dat (sliceRep intRep) e28.Next [vL A37 e28.Next c38], .lit b33 (o34 + (node8 : Int).toNat * 3) [.bool (e28.Final), vS (e28.Letters), vL A37 (e28.Next) c38], .dat (sliceRep NodeRep) w1.d.Nodes [vL A25 w1.d.Nodes c26], .lit b3 (o4) [vL A25 (w1.d.Nodes) c26], .dat (ptrRep DawgRep) w1.d [vP b3 o4]] ∧ R64 n73) ?_ ?_
 ·exact ⟨t40, xs42, 0, A43, c44, rfl, hf.keep ⟨rfl, rfl, rfl, rfl, trivial⟩, hM.pick [0, 1, 2, 3, 4] rfl, (R64_lit rfl)⟩
 rintro s o83 a w75 ⟨t68, xs70, n73, A71, c72, rfl, hf, hM, hv74⟩ h84 hd85
 replace h84 : m_spec_l06W_walk_l1 e28 s10 rc w1 t68 xs70 n73 = some o83 := h84
 unfold m_spec_l06W_walk_l1 at h84
 refine wp_seq ?_
 obtain ⟨x88, h89, h84⟩ := bind_some h84
 refine seq_join (fun a w => ∃ (t86 : Bool), t86 = x88 ∧ Has 87 a [(0, vP b2 (0)), (2, vS (s10)), (6, vP b33 (o34 + (node8 : Int).toNat * 3)), (7, vI (n73)), (65, .bool (t86))] ∧ Mem C w [.box b2 [vP b3 (o4), vL A71 (xs70) c72, .bool (t68)] 156, .row strRep A71 c72 9 xs70 true] [.dat (sliceRep intRep) e28.Next [vL A37 e28.Next c38], .lit b33 (o34 + (node8 : Int).toNat * 3) [.bool (e28.Final), vS (e28.Letters), vL A37 (e28.Next) c38], .dat (sliceRep NodeRep) w1.d.Nodes [vL A25 w1.d.Nodes c26], .lit b3 (o4) [vL A25 (w1.d.Nodes) c26], .dat (ptrRep DawgRep) w1.d [vP b3 o4]]) ?_ ?_
 ·refine region_pl ?_
  iterate 2 refine q_ hf rfl rfl rfl (e_move hf rfl) fun a hf => ?_
  refine q_ hf rfl rfl rfl (e_nil hf rfl) fun a hf => ?_
  refine q_ hf rfl rfl rfl (e_field hf rfl Tryz.underlying47 rfl Tryz.sizeOf45 (o' := (o34 + (node8 : Int).toNat * 3) + 2) rfl) fun a hf => ?_
  refine q_ hf rfl rfl rfl (e_load1 hf rfl Tryz.isAgg45 (hM.litCell (k := 1) (j := 2) rfl rfl rfl)) fun a hf => ?_
  have hl90 := slice_len (hM.dat (k := 0) rfl)
  refine q_ hf rfl rfl rfl (e_lenL hf (x := e28.Next) rfl Tryz.underlying45) fun a hf => ?_
  refine q_ hf rfl rfl rfl (e_lt hf (x := n73) (y := (e28.Next.length : Int)) rfl rfl) fun a hf => ?_
  refine q_ hf rfl rfl rfl (e_move hf rfl) fun a hf => ?_
  rcases cond_some h89 with ⟨hc91, h89⟩ | ⟨hc91, h89⟩
  ·refine gq (wanted_t hf rfl rfl rfl rfl hc91) hf rfl rfl (e_move hf rfl) fun a hf => ?_
   refine gq (wanted_t hf rfl rfl rfl rfl hc91) hf rfl rfl (e_nil hf rfl) fun a hf => ?_
   refine gq (wanted_t hf rfl rfl rfl rfl hc91) hf rfl rfl (e_field hf rfl Tryz.underlying156 rfl Tryz.sizeOf4 (o' := 2) rfl) fun a hf => ?_
   refine gq (wanted_t hf rfl rfl rfl rfl hc91) hf rfl rfl (e_load1 hf rfl Tryz.isAgg4 (hM.boxCell (k := 0) rfl rfl)) fun a hf => ?_
   refine gq (wanted_t hf rfl rfl rfl rfl hc91) hf rfl rfl (e_not hf rfl) fun a hf => ?_
   refine q_ hf rfl rfl rfl (e_pick_t hf rfl hc91 rfl) fun a hf => ?_
   refine pl_nil ?_
   obtain rfl := some_inj h89
   refine then_n ?_
   exact ⟨(!t68), rfl, hf.keep ⟨rfl, rfl, rfl, rfl, rfl, trivial⟩, hM.pick [0, 1, 2, 3, 4] rfl⟩
  iterate 5 refine pl_gs (wanted_f hf rfl rfl rfl rfl hc91) hf rfl rfl fun a hf => ?_
  refine q_ hf rfl rfl rfl (e_pick_f hf rfl hc91 rfl) fun a hf => ?_
  refine pl_nil ?_
  obtain rfl := some_inj h89
  refine then_n ?_
  exact ⟨false, rfl, hf.keep ⟨rfl, rfl, rfl, rfl, rfl, trivial⟩, hM.pick [0, 1, 2, 3, 4] rfl⟩
 rintro a w94 ⟨t86, rfl, hf, hM⟩
 try dsimp only at h84
 rcases cond_some h84 with ⟨hc95, h84⟩ | ⟨hc95, h84⟩
 ·refine cond_t hf rfl hc95 ?_
  refine wp_skip ?_
  refine then_n ?_
  refine wp_seq ?_
  refine wp_block ?_
  obtain ⟨w96, hw⟩ : ∃ x, x = w94.drew := ⟨_, rfl⟩
  refine region_pi (.q 0 (.q 1 (.q 2 (.q 3 (.q 4 (.q 5 (.q 6 (.q 7 (.q 8 (.q 9 (.q 10 (.q 11 (.q 12 (.q 13 (.q 14 (.q 15 (.q 16 (.q 17 (.l 18 (.nil)))))))))))))))))))) (Ext w96) rfl (by kernel_rfl) ?_
  have hM := hM.drew
  rw [← hw] at hM ⊢
  clear hw
  iterate 2 refine pi_q hf rfl rfl rfl rfl (Ext.refl _) (e_move hf rfl) fun a hf => ?_
  refine pi_q hf rfl rfl rfl rfl (Ext.refl _) (e_nil hf rfl) fun a hf => ?_
  refine pi_q hf rfl rfl rfl rfl (Ext.refl _) (e_field hf rfl Tryz.underlying47 rfl Tryz.sizeOf45 (o' := (o34 + (node8 : Int).toNat * 3) + 2) rfl) fun a hf => ?_
  refine pi_q hf rfl rfl rfl rfl (Ext.refl _) (e_load1 hf rfl Tryz.isAgg45 (hM.litCell (k := 1) (j := 2) rfl rfl rfl)) fun a hf => ?_
  refine pi_q hf rfl rfl rfl rfl (Ext.refl _) (e_move hf rfl) fun a hf => ?_
  obtain ⟨e97, hz98, h84⟩ := bind_some h84
  obtain ⟨b102, o103, _, hA104, h99, h100, hr101, hM⟩ := hM.elem (hM.dat (k := 0) rfl) (n := 1) rfl hz98
  obtain ⟨rfl, hv105⟩ := hr101
  refine pi_q hf rfl rfl rfl rfl (Ext.refl _) (e_indexAddr (A := A37) (b := b102) (o := o103) (xs := e28.Next) (i := n73) hf hA104 rfl rfl Tryz.underlying45 Tryz.sizeOf2 h99 h100) fun a hf => ?_
  refine pi_q hf rfl rfl rfl rfl (Ext.refl _) (e_load1 hf rfl Tryz.isAgg2 (hM.litCell (k := 0) (j := 0) rfl rfl rfl)) fun a hf => ?_
  iterate 2 refine pi_q hf rfl rfl rfl rfl (Ext.refl _) (e_move hf rfl) fun a hf => ?_
  refine pi_q hf rfl rfl rfl rfl (Ext.refl _) (e_nil hf rfl) fun a hf => ?_
  refine pi_q hf rfl rfl rfl rfl (Ext.refl _) (e_field hf rfl Tryz.underlying47 rfl Tryz.sizeOf9 (o' := (o34 + (node8 : Int).toNat * 3) + 1) rfl) fun a hf => ?_
  refine pi_q hf rfl rfl rfl rfl (Ext.refl _) (e_load1 hf rfl Tryz.isAgg9 (hM.litCell (k := 2) (j := 1) rfl rfl rfl)) fun a hf => ?_
  iterate 2 refine pi_q hf rfl rfl rfl rfl (Ext.refl _) (e_move hf rfl) fun a hf => ?_
  obtain ⟨z106, hz107, h84⟩ := bind_some h84
  refine pi_q hf rfl rfl rfl rfl (Ext.refl _) (e_add hf rfl rfl hz107) fun a hf => ?_
  obtain ⟨s108, hz109, h84⟩ := bind_some h84
  refine pi_q hf rfl rfl rfl rfl (Ext.refl _) (e_subS hf (x := e28.Letters) rfl rfl rfl Tryz.underlying9 hz109) fun a hf => ?_
  obtain ⟨s110, hz111, h84⟩ := bind_some h84
  refine pi_q hf rfl rfl rfl rfl (Ext.refl _) (e_cat hf (x := s10) (y := s108) rfl rfl hz111) fun a hf => ?_
  refine pi_one ?_
  have hM : Mem C _ ([.box b2 [vP b3 (o4), vL A71 (xs70) c72, .bool (t68)] 156, .row strRep A71 c72 9 xs70 true] ++ []) _ := hM
  obtain ⟨y112, hz113, h84⟩ := bind_some h84
  refine pi_z hf rfl rfl rfl rfl (by kernel_rfl) (w_call hf Tryz.call107 rfl (ih ⟨_, Sh C _ _, ownB _, hM.sh_lt, sub_dis, C.G, hM.g_lt, hM.g_own, hM.tabs⟩ (⟨w1.d, xs70, t68⟩ : l06W) _ _ _ (hM.dat (k := 5) rfl) _ _ e97 hv105 s110 (cat_len hz111) hM.sub sub_dis _ hz113) ?_)
  rintro _ w116 ⟨A114, c115, rfl, hM2⟩
  obtain ⟨hM, hup118⟩ := hM.backG hM2
  dsimp only [List.cons_append, List.nil_append] at hM hup118
  clear hM2
  refine ⟨_, rfl, fun a hf => ?_⟩
  refine pi_nil ?_
  refine blk_n ?_
  refine then_n ?_
  refine region_pl ?_
  refine q_ hf rfl rfl rfl (e_move hf rfl) fun a hf => ?_
  obtain ⟨z119, hz120, h84⟩ := bind_some h84
  refine q_ hf rfl rfl rfl (e_add hf rfl rfl hz120) fun a hf => ?_
  refine q_ hf rfl rfl rfl (e_assign hf rfl) fun a hf => ?_
  refine pl_nil ?_
  obtain rfl := some_inj h84
  refine then_n ⟨_, rfl, ?_⟩
  exact ⟨y112.full, y112.out, z119, A114, c115, rfl, hf.keep ⟨rfl, rfl, rfl, rfl, trivial⟩, hM.pick [1, 2, 3, 4, 5] rfl, (chk_R hz120)⟩
 refine cond_f hf rfl hc95 ?_
 refine wp_exit ?_
 refine then_x ?_
 obtain rfl := some_inj h84
 obtain rfl := hd85 _ rfl
 try dsimp only at h
 refine then_x ?_
 refine exit_hit ?_
 obtain rfl := some_inj h
 exact leave0n hf rfl ⟨A71, c72, rfl, hM.fin⟩
theorem r_spec_l06W_walk_n : ∀ n, Ct_spec_l06W_walk (m_spec_l06W_walk_n n)
  | 0 => fun C w1 b2 b3 o4 hp5 A6 c7 node8 hp9 s10 hp11 hO hd r h => by cases h
  | n + 1 => r_spec_l06W_walk_b _ (r_spec_l06W_walk_n n)
theorem r_spec_l06W_walk : Ct_spec_l06W_walk (m_spec_l06W_walk) := r_spec_l06W_walk_n fuelN
theorem r_spec_l06Words (C : Cx) (d1 : Dawg) (b2 : Nat) (o3 : Nat) (hp4 : (ptrRep DawgRep).R C.w0 C.S0 d1 [vP b2 o3]) (r : ((List Str) × Bool)) (h : m_spec_l06Words d1 = some r) :
    Calls Tryz.prog 77 #[vP b2 (o3)] C.w0 fun e w => ∃ (A_1 : Option Addr), ∃ (c_1 : Nat), e = .returned (.tuple #[vL A_1 (r.1) c_1, .bool (r.2)]) ∧ Mem C w [.row strRep A_1 c_1 9 r.1 true] [] := by
 have hM := Mem.begin C [.dat (ptrRep DawgRep) d1 [vP b2 o3]] ⟨hp4, trivial⟩
 refine enter Tryz.func77 rfl Tryz.ntmps77 rfl fun a hf => ?_
 unfold m_spec_l06Words at h
 refine wp_seq ?_
 refine region_pl ?_
 iterate 2 refine q_ hf rfl rfl rfl (e_assign hf rfl) fun a hf => ?_
 refine pl_nil ?_
 refine then_n ?_
 refine wp_seq ?_
 refine region_pl ?_
 refine q_ hf rfl rfl rfl (e_move hf rfl) fun a hf => ?_
 refine pl_l hf rfl rfl rfl (w_slice0 (K := strRep) hM Tryz.underlying24 ei_9 fun b5 w6 hx7 hM a hf => ?_)
 refine q_ hf rfl rfl rfl (e_build hf Tryz.zeroValue156 Tryz.underlying156 (bp_156 _ Tryz.underlying156.symm) rfl (cs := #[vP b2 (o3), vL (some ⟨b5, 0, none⟩) (([] : (List Str))) 0, .bool (false)]) (by kernel_rfl)) fun a hf => ?_
 refine pl_l hf rfl rfl rfl (w_box hf hM (cs := [vP b2 (o3), vL (some ⟨b5, 0, none⟩) (([] : (List Str))) 0, .bool (false)]) rfl rfl fun b8 w9 hx10 hM a hf => ?_)
 refine q_ hf rfl rfl rfl (e_assign hf rfl) fun a hf => ?_
 refine pl_nil ?_
 refine then_n ?_
 refine wp_seq ?_
 refine region_pl ?_
 refine q_ hf rfl rfl rfl (e_move hf rfl) fun a hf => ?_
 have hM : Mem C _ ([.box b8 [vP b2 (o3), vL (some ⟨b5, 0, none⟩) (([] : (List Str))) 0, .bool (false)] 156, .row strRep (some ⟨b5, 0, none⟩) 0 9 ([] : (List Str)) true] ++ []) _ := hM
 obtain ⟨y12, hz13, h⟩ := bind_some h
 refine pl_l hf rfl rfl rfl (w_call hf Tryz.call107 rfl (r_spec_l06W_walk ⟨_, Sh C _ _, ownB _, hM.sh_lt, sub_dis, C.G, hM.g_lt, hM.g_own, hM.tabs⟩ (⟨d1, ([] : (List Str)), false⟩ : l06W) _ _ _ (hM.dat (k := 0) rfl) _ _ 0 (R64_lit rfl) ([] : Str) (lit_len rfl) hM.sub sub_dis _ hz13) ?_)
 rintro _ w16 ⟨A14, c15, rfl, hM2⟩
 obtain ⟨hM, hup18⟩ := hM.backG hM2
 dsimp only [List.cons_append, List.nil_append] at hM hup18
 clear hM2
 refine ⟨_, rfl, fun a hf => ?_⟩
 refine pl_nil ?_
 refine then_n ?_
 refine wp_seq ?_
 obtain ⟨w19, hw⟩ : ∃ x, x = w16.drew := ⟨_, rfl⟩
 refine region_pi (.q 0 (.q 1 (.q 2 (.q 3 (.q 4 (.q 5 (.q 6 (.q 7 (.q 8 (.q 9 (.q 10 (.nil)))))))))))) (Ext w19) rfl (by kernel_rfl) ?_
 have hM := hM.drew
 rw [← hw] at hM ⊢
 clear hw
 refine pi_q hf rfl rfl rfl rfl (Ext.refl _) (e_move hf rfl) fun a hf => ?_
 refine pi_q hf rfl rfl rfl rfl (Ext.refl _) (e_nil hf rfl) fun a hf => ?_
 refine pi_q hf rfl rfl rfl rfl (Ext.refl _) (e_field hf rfl Tryz.underlying156 rfl Tryz.sizeOf24 (o' := 1) rfl) fun a hf => ?_
 refine pi_q hf rfl rfl rfl rfl (Ext.refl _) (e_load1 hf rfl Tryz.isAgg24 (hM.boxCell (k := 0) rfl rfl)) fun a hf => ?_
 refine pi_q hf rfl rfl rfl rfl (Ext.refl _) (e_move hf rfl) fun a hf => ?_
 refine pi_q hf rfl rfl rfl rfl (Ext.refl _) (e_nil hf rfl) fun a hf => ?_
 refine pi_q hf rfl rfl rfl rfl (Ext.refl _) (e_field hf rfl Tryz.underlying156 rfl Tryz.sizeOf4 (o' := 2) rfl) fun a hf => ?_
 refine pi_q hf rfl rfl rfl rfl (Ext.refl _) (e_load1 hf rfl Tryz.isAgg4 (hM.boxCell (k := 0) rfl rfl)) fun a hf => ?_
 refine pi_q hf rfl rfl rfl rfl (Ext.refl _) (e_not hf rfl) fun a hf => ?_
 iterate 2 refine pi_q hf rfl rfl rfl rfl (Ext.refl _) (e_assign hf rfl) fun a hf => ?_
 refine pi_nil ?_
 refine then_n ?_
 refine wp_ret ?_
 obtain rfl := some_inj h
 have hM := hM.front (k := 1) rfl
 dsimp only [List.eraseIdx] at hM
 have hM := hM.outs (own' := [.row strRep A14 c15 9 y12.out true]) 1 rfl
 exact leave2 hf rfl rfl rfl ⟨A14, c15, rfl, hM.fin⟩
theorem r_spec_l06Ok (C : Cx) (d1 : Dawg) (b2 : Nat) (o3 : Nat) (hp4 : (ptrRep DawgRep).R C.w0 C.S0 d1 [vP b2 o3]) (r : Bool) (h : m_spec_l06Ok d1 = some r) :
    Calls Tryz.prog 48 #[vP b2 (o3)] C.w0 fun e w => e = .returned (.bool (r)) ∧ Mem C w [] [] := by
 have hM := Mem.begin C [.dat (ptrRep DawgRep) d1 [vP b2 o3]] ⟨hp4, trivial⟩
 refine enter Tryz.func48 rfl Tryz.ntmps48 rfl fun a hf => ?_
 unfold m_spec_l06Ok at h
 refine wp_seq ?_
 refine region_pl ?_
 refine q_ hf rfl rfl rfl (e_assign hf rfl) fun a hf => ?_
 refine pl_nil ?_
 refine then_n ?_
 refine wp_seq ?_
 obtain ⟨x7, h8, h⟩ := bind_some h
 refine seq_join (fun a w => ∃ (t5 : Bool), t5 = x7 ∧ Has 34 a [(0, vP b2 (o3)), (22, .bool (t5))] ∧ Mem C w [] [.dat (ptrRep DawgRep) d1 [vP b2 o3]]) ?_ ?_
 ·refine region_pl ?_
  refine q_ hf rfl rfl rfl (e_move hf rfl) fun a hf => ?_
  obtain ⟨y9, hz10, h8⟩ := bind_some h8
  refine pl_l hf rfl rfl rfl (w_call hf Tryz.call75 rfl (r_spec_l06Shape ⟨_, Sh C _ _, none_, hM.sh_lt, none_not, C.G, hM.g_lt, g_none, hM.tabs⟩ d1 _ _ (hM.dat (k := 0) rfl) _ hz10) ?_)
  rintro _ w11 ⟨rfl, hM2⟩
  obtain ⟨hM, hx12, hup13⟩ := hM.back hM2
  dsimp only [List.cons_append, List.nil_append] at hM hup13
  clear hM2
  refine ⟨_, rfl, fun a hf => ?_⟩
  refine q_ hf rfl rfl rfl (e_not hf rfl) fun a hf => ?_
  refine q_ hf rfl rfl rfl (e_move hf rfl) fun a hf => ?_
  rcases cond_some h8 with ⟨hc14, h8⟩ | ⟨hc14, h8⟩
  ·iterate 7 refine pl_gs (wanted_f hf rfl rfl rfl rfl hc14) hf rfl rfl fun a hf => ?_
   refine q_ hf rfl rfl rfl (e_pick_t hf rfl hc14 rfl) fun a hf => ?_
   refine q_ hf rfl rfl rfl (e_move hf rfl) fun a hf => ?_
   iterate 3 refine pl_gs (wanted_f hf rfl rfl rfl rfl rfl) hf rfl rfl fun a hf => ?_
   refine q_ hf rfl rfl rfl (e_pick_t hf rfl rfl rfl) fun a hf => ?_
   refine pl_nil ?_
   obtain rfl := some_inj h8
   refine then_n ?_
   exact ⟨true, rfl, hf.keep ⟨rfl, rfl, trivial⟩, hM.pick [0] rfl⟩
  refine gq (wanted_t hf rfl rfl rfl rfl hc14) hf rfl rfl (e_move hf rfl) fun a hf => ?_
  refine gq (wanted_t hf rfl rfl rfl rfl hc14) hf rfl rfl (e_nil hf rfl) fun a hf => ?_
  obtain ⟨_, hr16, hM⟩ := hM.deref (hM.dat (k := 0) rfl)
  obtain ⟨A17, c18, rfl, hv19⟩ := DawgRep_open hr16
  have hM := hM.add (y := .dat (sliceRep NodeRep) d1.Nodes [vL A17 d1.Nodes c18]) hv19
  refine gq (wanted_t hf rfl rfl rfl rfl hc14) hf rfl rfl (e_field hf rfl Tryz.underlying31 rfl Tryz.sizeOf29 (o' := o3 + 0) rfl) fun a hf => ?_
  refine gq (wanted_t hf rfl rfl rfl rfl hc14) hf rfl rfl (e_load1 hf rfl Tryz.isAgg29 (hM.litCell (k := 1) (j := 0) rfl rfl rfl)) fun a hf => ?_
  obtain ⟨e20, hz21, h8⟩ := bind_some h8
  obtain ⟨b25, o26, _, hA27, h22, h23, hr24, hM⟩ := hM.elem (hM.dat (k := 0) rfl) (n := 3) rfl hz21
  obtain ⟨A29, c30, rfl, hv28, hv31⟩ := NodeRep_open hr24
  have hM := hM.add (y := .dat (sliceRep intRep) e20.Next [vL A29 e20.Next c30]) hv31
  refine gq (wanted_t hf rfl rfl rfl rfl hc14) hf rfl rfl (e_indexAddr (A := A17) (b := b25) (o := o26) (xs := d1.Nodes) (i := 0) hf hA27 rfl rfl Tryz.underlying29 Tryz.sizeOf47 h22 h23) fun a hf => ?_
  refine gq (wanted_t hf rfl rfl rfl rfl hc14) hf rfl rfl (e_field hf rfl Tryz.underlying47 rfl Tryz.sizeOf4 (o' := (o26 + (0 : Int).toNat * 3) + 0) rfl) fun a hf => ?_
  refine gq (wanted_t hf rfl rfl rfl rfl hc14) hf rfl rfl (e_load1 hf rfl Tryz.isAgg4 (hM.litCell (k := 1) (j := 0) rfl rfl rfl)) fun a hf => ?_
  refine q_ hf rfl rfl rfl (e_pick_f hf rfl hc14 rfl) fun a hf => ?_
  refine q_ hf rfl rfl rfl (e_move hf rfl) fun a hf => ?_
  rcases cond_some h8 with ⟨hc32, h8⟩ | ⟨hc32, h8⟩
  ·iterate 3 refine pl_gs (wanted_f hf rfl rfl rfl rfl hc32) hf rfl rfl fun a hf => ?_
   refine q_ hf rfl rfl rfl (e_pick_t hf rfl hc32 rfl) fun a hf => ?_
   refine pl_nil ?_
   obtain rfl := some_inj h8
   refine then_n ?_
   exact ⟨true, rfl, hf.keep ⟨rfl, rfl, trivial⟩, hM.pick [4] rfl⟩
  refine gq (wanted_t hf rfl rfl rfl rfl hc32) hf rfl rfl (e_move hf rfl) fun a hf => ?_
  obtain ⟨y34, hz35, h8⟩ := bind_some h8
  refine pl_gl (wanted_t hf rfl rfl rfl rfl hc32) hf rfl rfl (w_call hf Tryz.call76 rfl (r_spec_l06Useful ⟨_, Sh C _ _, none_, hM.sh_lt, none_not, C.G, hM.g_lt, g_none, hM.tabs⟩ d1 _ _ (hM.dat (k := 4) rfl) _ hz35) ?_)
  rintro _ w36 ⟨rfl, hM2⟩
  obtain ⟨hM, hx37, hup38⟩ := hM.back hM2
  dsimp only [List.cons_append, List.nil_append] at hM hup38
  clear hM2
  refine ⟨_, rfl, fun a hf => ?_⟩
  refine gq (wanted_t hf rfl rfl rfl rfl hc32) hf rfl rfl (e_not hf rfl) fun a hf => ?_
  refine q_ hf rfl rfl rfl (e_pick_f hf rfl hc32 rfl) fun a hf => ?_
  refine pl_nil ?_
  obtain rfl := some_inj h8
  refine then_n ?_
  exact ⟨(!y34), rfl, hf.keep ⟨rfl, rfl, trivial⟩, hM.pick [4] rfl⟩
 rintro a w40 ⟨t5, rfl, hf, hM⟩
 try dsimp only at h
 rcases cond_some h with ⟨hc41, h⟩ | ⟨hc41, h⟩
 ·refine cond_t hf rfl hc41 ?_
  refine wp_seq ?_
  refine region_pl ?_
  refine q_ hf rfl rfl rfl (e_assign hf rfl) fun a hf => ?_
  refine pl_nil ?_
  refine then_n ?_
  refine wp_ret ?_
  refine then_r ?_
  obtain rfl := some_inj h
  exact leave1 hf rfl rfl ⟨rfl, hM.fin⟩
 refine cond_f hf rfl hc41 ?_
 refine wp_skip ?_
 refine then_n ?_
 refine wp_seq ?_
 refine region_pl ?_
 refine q_ hf rfl rfl rfl (e_move hf rfl) fun a hf => ?_
 obtain ⟨y42, hz43, h⟩ := bind_some h
 refine pl_l hf rfl rfl rfl (w_call hf Tryz.call77 rfl (r_spec_l06Words ⟨_, Sh C _ _, none_, hM.sh_lt, none_not, C.G, hM.g_lt, g_none, hM.tabs⟩ d1 _ _ (hM.dat (k := 0) rfl) _ hz43) ?_)
 rintro _ w46 ⟨A44, c45, rfl, hM2⟩
 obtain ⟨hM, hx47, hup48⟩ := hM.back hM2
 dsimp only [List.cons_append, List.nil_append] at hM hup48
 clear hM2
 refine ⟨_, rfl, fun a hf => ?_⟩
 refine q_ hf rfl rfl rfl (e_move hf rfl) fun a hf => ?_
 iterate 2 refine q_ hf rfl rfl rfl (e_extract hf rfl rfl) fun a hf => ?_
 iterate 2 refine q_ hf rfl rfl rfl (e_assign hf rfl) fun a hf => ?_
 refine pl_nil ?_
 refine then_n ?_
 iterate 2 refine wp_seq ?_
 refine region_pl ?_
 refine q_ hf rfl rfl rfl (e_move hf rfl) fun a hf => ?_
 refine q_ hf rfl rfl rfl (e_not hf rfl) fun a hf => ?_
 refine pl_nil ?_
 refine then_n ?_
 rcases cond_some h with ⟨hc49, h⟩ | ⟨hc49, h⟩
 ·refine cond_t hf rfl hc49 ?_
  refine wp_seq ?_
  refine region_pl ?_
  refine q_ hf rfl rfl rfl (e_assign hf rfl) fun a hf => ?_
  refine pl_nil ?_
  refine then_n ?_
  refine wp_ret ?_
  refine then_r ?_
  obtain rfl := some_inj h
  have hM := hM.outs (own' := []) 0 rfl
  exact leave1 hf rfl rfl ⟨rfl, hM.fin⟩
 refine cond_f hf rfl hc49 ?_
 refine wp_skip ?_
 refine then_n ?_
 refine wp_seq ?_
 refine region_pl ?_
 refine q_ hf rfl rfl rfl (e_move hf rfl) fun a hf => ?_
 have hM := hM.freezeRow (k := 0) rfl rfl
 dsimp only [List.eraseIdx] at hM
 obtain ⟨y50, hz51, h⟩ := bind_some h
 refine pl_l hf rfl rfl rfl (w_call hf Tryz.call74 rfl (r_spec_l06Build ⟨_, Sh C _ _, none_, hM.sh_lt, none_not, C.G, hM.g_lt, g_none, hM.tabs⟩ y42.1 _ _ (hM.dat (k := 0) rfl) _ hz51) ?_)
 rintro _ w55 ⟨A52, c53, rfl, hM2, hv54⟩
 obtain ⟨hM, hx56, hup57⟩ := hM.back hM2
 dsimp only [List.cons_append, List.nil_append] at hM hup57
 clear hM2
 have hM := hM.add (y := .dat (sliceRep NodeRep) y50.Nodes [vL A52 y50.Nodes c53]) (hup57 hv54)
 refine ⟨_, rfl, fun a hf => ?_⟩
 refine pl_l hf rfl rfl rfl (w_alloc hM (cs := [vL none (([] : (List Node))) 0]) Tryz.zeroValue31 rfl fun b58 w59 hx60 hM a hf => ?_)
 refine pl_0 hf rfl rfl (w_store hf hM (us := [vL A52 (y50.Nodes) c53]) (cs' := [vL A52 (y50.Nodes) c53]) rfl rfl (k := 0) rfl rfl Tryz.sizeOf31 rfl rfl rfl fun w62 hM => ?_)
 dsimp only [List.set] at hM
 refine pl_nil ?_
 refine then_n ?_
 refine wp_seq ?_
 refine region_pl ?_
 refine q_ hf rfl rfl rfl (e_move hf rfl) fun a hf => ?_
 obtain ⟨y65, hz66, h⟩ := bind_some h
 refine pl_l hf rfl rfl rfl (w_call hf Tryz.call40 rfl (r_spec_l06Same ⟨_, All C _ _, none_, hM.all_lt, none_not, C.G, hM.g_lt, g_none, hM.tabs⟩ d1 _ _ (hM.lendDat (k := 2) rfl) y50 _ _ (hM.lendBox (k := 0) rfl (DawgRep_mk (x := y50) (hM.lendDat (k := 0) rfl))) _ hz66) ?_)
 rintro _ w67 ⟨rfl, hM2⟩
 obtain ⟨hM, hx68⟩ := hM.backA hM2
 clear hM2
 refine ⟨_, rfl, fun a hf => ?_⟩
 refine q_ hf rfl rfl rfl (e_assign hf rfl) fun a hf => ?_
 refine pl_nil ?_
 refine then_n ?_
 refine wp_ret ?_
 obtain rfl := some_inj h
 have hM := hM.outs (own' := []) 0 rfl
 exact leave1 hf rfl rfl ⟨rfl, hM.fin⟩
theorem r_spec_l06Step (C : Cx) (d1 : Dawg) (b2 : Nat) (o3 : Nat) (hp4 : (ptrRep DawgRep).R C.w0 C.S0 d1 [vP b2 o3]) (node5 : Int) (hp6 : R64 node5) (letter7 : UInt8) (r : Int) (h : m_spec_l06Step d1 node5 letter7 = some r) :
    Calls Tryz.prog 108 #[vP b2 (o3), vI (node5), vB (letter7)] C.w0 fun e w => e = .returned (vI (r)) ∧ Mem C w [] [] ∧ R64 r := by
 have hM := Mem.begin C [.dat (ptrRep DawgRep) d1 [vP b2 o3]] ⟨hp4, trivial⟩
 refine enter Tryz.func108 rfl Tryz.ntmps108 rfl fun a hf => ?_
 unfold m_spec_l06Step at h
 refine wp_seq ?_
 refine region_pl ?_
 refine q_ hf rfl rfl rfl (e_assign hf rfl) fun a hf => ?_
 refine pl_nil ?_
 refine then_n ?_
 refine wp_seq ?_
 refine region_pl ?_
 refine q_ hf rfl rfl rfl (e_move hf rfl) fun a hf => ?_
 refine q_ hf rfl rfl rfl (e_nil hf rfl) fun a hf => ?_
 obtain ⟨_, hr8, hM⟩ := hM.deref (hM.dat (k := 0) rfl)
 obtain ⟨A9, c10, rfl, hv11⟩ := DawgRep_open hr8
 have hM := hM.add (y := .dat (sliceRep NodeRep) d1.Nodes [vL A9 d1.Nodes c10]) hv11
 refine q_ hf rfl rfl rfl (e_field hf rfl Tryz.underlying31 rfl Tryz.sizeOf29 (o' := o3 + 0) rfl) fun a hf => ?_
 refine q_ hf rfl rfl rfl (e_load1 hf rfl Tryz.isAgg29 (hM.litCell (k := 1) (j := 0) rfl rfl rfl)) fun a hf => ?_
 refine q_ hf rfl rfl rfl (e_move hf rfl) fun a hf => ?_
 obtain ⟨e12, hz13, h⟩ := bind_some h
 obtain ⟨b17, o18, _, hA19, h14, h15, hr16, hM⟩ := hM.elem (hM.dat (k := 0) rfl) (n := 3) rfl hz13
 obtain ⟨A21, c22, rfl, hv20, hv23⟩ := NodeRep_open hr16
 have hM := hM.add (y := .dat (sliceRep intRep) e12.Next [vL A21 e12.Next c22]) hv23
 refine q_ hf rfl rfl rfl (e_indexAddr (A := A9) (b := b17) (o := o18) (xs := d1.Nodes) (i := node5) hf hA19 rfl rfl Tryz.underlying29 Tryz.sizeOf47 h14 h15) fun a hf => ?_
 refine q_ hf rfl rfl rfl (e_assign hf rfl) fun a hf => ?_
 refine pl_nil ?_
 refine then_n ?_
 obtain ⟨x24, h25, h⟩ := bind_some h
 refine seq_join (fun a w => (.inl ()) = x24 ∧ Has 48 a [] ∧ Mem C w [] [.dat (sliceRep intRep) e12.Next [vL A21 e12.Next c22], .lit b17 (o18 + (node5 : Int).toNat * 3) [.bool (e12.Final), vS (e12.Letters), vL A21 (e12.Next) c22], .dat (sliceRep NodeRep) d1.Nodes [vL A9 d1.Nodes c10], .lit b2 (o3) [vL A9 (d1.Nodes) c10], .dat (ptrRep DawgRep) d1 [vP b2 o3]]) ?_ ?_
 ·refine wp_seq ?_
  refine region_pl ?_
  refine q_ hf rfl rfl rfl (e_assign hf rfl) fun a hf => ?_
  refine pl_nil ?_
  refine then_n ?_
  refine wp_block ?_
  obtain ⟨x29, h30, h25⟩ := bind_some h25
  refine wp_loopM h30 (fun s a w => ∃ (n26 : Int), n26 = s ∧ Has 48 a [(2, vB (letter7)), (7, vP b17 (o18 + (node5 : Int).toNat * 3)), (8, vI (n26))] ∧ Mem C w [] [.dat (sliceRep intRep) e12.Next [vL A21 e12.Next c22], .lit b17 (o18 + (node5 : Int).toNat * 3) [.bool (e12.Final), vS (e12.Letters), vL A21 (e12.Next) c22], .dat (sliceRep NodeRep) d1.Nodes [vL A9 d1.Nodes c10], .lit b2 (o3) [vL A9 (d1.Nodes) c10], .dat (ptrRep DawgRep) d1 [vP b2 o3]] ∧ R64 n26) ?_ ?_
  ·exact ⟨0, rfl, hf.keep ⟨rfl, rfl, rfl, trivial⟩, hM.pick [0, 1, 2, 3, 4] rfl, (R64_lit rfl)⟩
  rintro s o31 a w28 ⟨n26, rfl, hf, hM, hv27⟩ h32 hd33
  replace h32 : m_spec_l06Step_l1 e12 letter7 n26 = some o31 := h32
  unfold m_spec_l06Step_l1 at h32
  refine wp_seq ?_
  obtain ⟨x36, h37, h32⟩ := bind_some h32
  refine seq_join (fun a w => ∃ (t34 : Bool), t34 = x36 ∧ Has 48 a [(2, vB (letter7)), (7, vP b17 (o18 + (node5 : Int).toNat * 3)), (8, vI (n26)), (30, .bool (t34))] ∧ Mem C w [] [.dat (sliceRep intRep) e12.Next [vL A21 e12.Next c22], .lit b17 (o18 + (node5 : Int).toNat * 3) [.bool (e12.Final), vS (e12.Letters), vL A21 (e12.Next) c22], .dat (sliceRep NodeRep) d1.Nodes [vL A9 d1.Nodes c10], .lit b2 (o3) [vL A9 (d1.Nodes) c10], .dat (ptrRep DawgRep) d1 [vP b2 o3]]) ?_ ?_
  ·refine region_pl ?_
   iterate 2 refine q_ hf rfl rfl rfl (e_move hf rfl) fun a hf => ?_
   refine q_ hf rfl rfl rfl (e_nil hf rfl) fun a hf => ?_
   refine q_ hf rfl rfl rfl (e_field hf rfl Tryz.underlying47 rfl Tryz.sizeOf9 (o' := (o18 + (node5 : Int).toNat * 3) + 1) rfl) fun a hf => ?_
   refine q_ hf rfl rfl rfl (e_load1 hf rfl Tryz.isAgg9 (hM.litCell (k := 1) (j := 1) rfl rfl rfl)) fun a hf => ?_
   refine q_ hf rfl rfl rfl (e_lenS hf (x := e12.Letters) rfl Tryz.underlying9) fun a hf => ?_
   refine q_ hf rfl rfl rfl (e_lt hf (x := n26) (y := (e12.Letters.length : Int)) rfl rfl) fun a hf => ?_
   refine q_ hf rfl rfl rfl (e_move hf rfl) fun a hf => ?_
   rcases cond_some h37 with ⟨hc38, h37⟩ | ⟨hc38, h37⟩
   ·iterate 2 refine gq (wanted_t hf rfl rfl rfl rfl hc38) hf rfl rfl (e_move hf rfl) fun a hf => ?_
    refine gq (wanted_t hf rfl rfl rfl rfl hc38) hf rfl rfl (e_nil hf rfl) fun a hf => ?_
    refine gq (wanted_t hf rfl rfl rfl rfl hc38) hf rfl rfl (e_field hf rfl Tryz.underlying47 rfl Tryz.sizeOf45 (o' := (o18 + (node5 : Int).toNat * 3) + 2) rfl) fun a hf => ?_
    refine gq (wanted_t hf rfl rfl rfl rfl hc38) hf rfl rfl (e_load1 hf rfl Tryz.isAgg45 (hM.litCell (k := 1) (j := 2) rfl rfl rfl)) fun a hf => ?_
    have hl39 := slice_len (hM.dat (k := 0) rfl)
    refine gq (wanted_t hf rfl rfl rfl rfl hc38) hf rfl rfl (e_lenL hf (x := e12.Next) rfl Tryz.underlying45) fun a hf => ?_
    refine gq (wanted_t hf rfl rfl rfl rfl hc38) hf rfl rfl (e_lt hf (x := n26) (y := (e12.Next.length : Int)) rfl rfl) fun a hf => ?_
    refine q_ hf rfl rfl rfl (e_pick_t hf rfl hc38 rfl) fun a hf => ?_
    refine pl_nil ?_
    obtain rfl := some_inj h37
    refine then_n ?_
    exact ⟨(decide (n26 < (e12.Next.length : Int))), rfl, hf.keep ⟨rfl, rfl, rfl, rfl, trivial⟩, hM.pick [0, 1, 2, 3, 4] rfl⟩
   iterate 7 refine pl_gs (wanted_f hf rfl rfl rfl rfl hc38) hf rfl rfl fun a hf => ?_
   refine q_ hf rfl rfl rfl (e_pick_f hf rfl hc38 rfl) fun a hf => ?_
   refine pl_nil ?_
   obtain rfl := some_inj h37
   refine then_n ?_
   exact ⟨false, rfl, hf.keep ⟨rfl, rfl, rfl, rfl, trivial⟩, hM.pick [0, 1, 2, 3, 4] rfl⟩
  rintro a w42 ⟨t34, rfl, hf, hM⟩
  try dsimp only at h32
  rcases cond_some h32 with ⟨hc43, h32⟩ | ⟨hc43, h32⟩
  ·refine cond_t hf rfl hc43 ?_
   refine wp_skip ?_
   refine then_n ?_
   refine wp_seq ?_
   refine wp_block ?_
   refine wp_seq ?_
   refine region_pl ?_
   refine q_ hf rfl rfl rfl (e_move hf rfl) fun a hf => ?_
   refine q_ hf rfl rfl rfl (e_nil hf rfl) fun a hf => ?_
   refine q_ hf rfl rfl rfl (e_field hf rfl Tryz.underlying47 rfl Tryz.sizeOf9 (o' := (o18 + (node5 : Int).toNat * 3) + 1) rfl) fun a hf => ?_
   refine q_ hf rfl rfl rfl (e_load1 hf rfl Tryz.isAgg9 (hM.litCell (k := 1) (j := 1) rfl rfl rfl)) fun a hf => ?_
   refine q_ hf rfl rfl rfl (e_move hf rfl) fun a hf => ?_
   obtain ⟨c44, hz45, h32⟩ := bind_some h32
   refine q_ hf rfl rfl rfl (e_indexS hf (x := e12.Letters) rfl rfl Tryz.underlying9 hz45) fun a hf => ?_
   refine q_ hf rfl rfl rfl (e_move hf rfl) fun a hf => ?_
   refine q_ hf rfl rfl rfl (e_eqB hf (x := c44) (y := letter7) rfl rfl) fun a hf => ?_
   refine pl_nil ?_
   refine then_n ?_
   rcases cond_some h32 with ⟨hc46, h32⟩ | ⟨hc46, h32⟩
   ·refine cond_t hf rfl hc46 ?_
    refine wp_seq ?_
    refine region_pl ?_
    refine q_ hf rfl rfl rfl (e_move hf rfl) fun a hf => ?_
    refine q_ hf rfl rfl rfl (e_nil hf rfl) fun a hf => ?_
    refine q_ hf rfl rfl rfl (e_field hf rfl Tryz.underlying47 rfl Tryz.sizeOf45 (o' := (o18 + (node5 : Int).toNat * 3) + 2) rfl) fun a hf => ?_
    refine q_ hf rfl rfl rfl (e_load1 hf rfl Tryz.isAgg45 (hM.litCell (k := 1) (j := 2) rfl rfl rfl)) fun a hf => ?_
    refine q_ hf rfl rfl rfl (e_move hf rfl) fun a hf => ?_
    obtain ⟨e47, hz48, h32⟩ := bind_some h32
    obtain ⟨b52, o53, _, hA54, h49, h50, hr51, hM⟩ := hM.elem (hM.dat (k := 0) rfl) (n := 1) rfl hz48
    obtain ⟨rfl, hv55⟩ := hr51
    refine q_ hf rfl rfl rfl (e_indexAddr (A := A21) (b := b52) (o := o53) (xs := e12.Next) (i := n26) hf hA54 rfl rfl Tryz.underlying45 Tryz.sizeOf2 h49 h50) fun a hf => ?_
    refine q_ hf rfl rfl rfl (e_load1 hf rfl Tryz.isAgg2 (hM.litCell (k := 0) (j := 0) rfl rfl rfl)) fun a hf => ?_
    refine q_ hf rfl rfl rfl (e_assign hf rfl) fun a hf => ?_
    refine pl_nil ?_
    refine then_n ?_
    refine wp_ret ?_
    refine blk_r ?_
    refine then_r ?_
    obtain rfl := some_inj h32
    obtain rfl := hd33 _ rfl
    try dsimp only at h25
    refine then_r ?_
    refine blk_r ?_
    obtain rfl := some_inj h25
    try dsimp only at h
    refine then_r ?_
    obtain rfl := some_inj h
    exact leave1 hf rfl rfl ⟨rfl, hM.fin, hv55⟩
   refine cond_f hf rfl hc46 ?_
   refine wp_skip ?_
   refine blk_n ?_
   refine then_n ?_
   refine region_pl ?_
   refine q_ hf rfl rfl rfl (e_move hf rfl) fun a hf => ?_
   obtain ⟨z56, hz57, h32⟩ := bind_some h32
   refine q_ hf rfl rfl rfl (e_add hf rfl rfl hz57) fun a hf => ?_
   refine q_ hf rfl rfl rfl (e_assign hf rfl) fun a hf => ?_
   refine pl_nil ?_
   obtain rfl := some_inj h32
   refine then_n ⟨_, rfl, ?_⟩
   exact ⟨z56, rfl, hf.keep ⟨rfl, rfl, rfl, trivial⟩, hM.pick [0, 1, 2, 3, 4] rfl, (chk_R hz57)⟩
  refine cond_f hf rfl hc43 ?_
  refine wp_exit ?_
  refine then_x ?_
  obtain rfl := some_inj h32
  obtain rfl := hd33 _ rfl
  try dsimp only at h25
  refine then_x ?_
  refine exit_hit ?_
  obtain rfl := some_inj h25
  refine then_n ?_
  exact ⟨rfl, hf.keep trivial, hM.pick [0, 1, 2, 3, 4] rfl⟩
 rintro a w64 ⟨rfl, hf, hM⟩
 try dsimp only at h
 refine wp_seq ?_
 refine region_pl ?_
 refine q_ hf rfl rfl rfl (e_assign hf rfl) fun a hf => ?_
 refine pl_nil ?_
 refine then_n ?_
 refine wp_ret ?_
 obtain rfl := some_inj h
 exact leave1 hf rfl rfl ⟨rfl, hM.fin, (R64_lit rfl)⟩
theorem r_spec_l06After (C : Cx) (d1 : Dawg) (b2 : Nat) (o3 : Nat) (hp4 : (ptrRep DawgRep).R C.w0 C.S0 d1 [vP b2 o3]) (node5 : Int) (hp6 : R64 node5) (s7 : Str) (hp8 : s7.length ≤ maxLen) (r : Int) (h : m_spec_l06After d1 node5 s7 = some r) :
    Calls Tryz.prog 78 #[vP b2 (o3), vI (node5), vS (s7)] C.w0 fun e w => e = .returned (vI (r)) ∧ Mem C w [] [] ∧ R64 r := by
 have hM := Mem.begin C [.dat (ptrRep DawgRep) d1 [vP b2 o3]] ⟨hp4, trivial⟩
 refine enter Tryz.func78 rfl Tryz.ntmps78 rfl fun a hf => ?_
 unfold m_spec_l06After at h
 refine wp_seq ?_
 refine region_pl ?_
 refine q_ hf rfl rfl rfl (e_assign hf rfl) fun a hf => ?_
 refine pl_nil ?_
 refine then_n ?_
 obtain ⟨x11, h12, h⟩ := bind_some h
 refine seq_join (fun a w => ∃ (node9 : Int), node9 = x11 ∧ Has 25 a [(1, vI (node9))] ∧ Mem C w [] [.dat (ptrRep DawgRep) d1 [vP b2 o3]] ∧ R64 node9) ?_ ?_
 ·refine wp_seq ?_
  refine region_pl ?_
  refine q_ hf rfl rfl rfl (e_assign hf rfl) fun a hf => ?_
  refine pl_nil ?_
  refine then_n ?_
  refine wp_block ?_
  obtain ⟨x20, h21, h12⟩ := bind_some h12
  refine wp_loopM h21 (fun s a w => ∃ (node13 : Int) (n15 : Int), (node13, n15) = s ∧ Has 25 a [(0, vP b2 (o3)), (1, vI (node13)), (2, vS (s7)), (7, vI (n15))] ∧ Mem C w [] [.dat (ptrRep DawgRep) d1 [vP b2 o3]] ∧ R64 node13 ∧ R64 n15) ?_ ?_
  ·exact ⟨node5, 0, rfl, hf.keep ⟨rfl, rfl, rfl, rfl, trivial⟩, hM.pick [0] rfl, hp6, (R64_lit rfl)⟩
  rintro s o22 a w17 ⟨node13, n15, rfl, hf, hM, hv14, hv16⟩ h23 hd24
  replace h23 : m_spec_l06After_l1 s7 d1 node13 n15 = some o22 := h23
  unfold m_spec_l06After_l1 at h23
  refine wp_seq ?_
  obtain ⟨x27, h28, h23⟩ := bind_some h23
  refine seq_join (fun a w => ∃ (t25 : Bool), t25 = x27 ∧ Has 25 a [(0, vP b2 (o3)), (1, vI (node13)), (2, vS (s7)), (7, vI (n15)), (15, .bool (t25))] ∧ Mem C w [] [.dat (ptrRep DawgRep) d1 [vP b2 o3]]) ?_ ?_
  ·refine region_pl ?_
   iterate 2 refine q_ hf rfl rfl rfl (e_move hf rfl) fun a hf => ?_
   refine q_ hf rfl rfl rfl (e_lenS hf (x := s7) rfl Tryz.underlying9) fun a hf => ?_
   refine q_ hf rfl rfl rfl (e_lt hf (x := n15) (y := (s7.length : Int)) rfl rfl) fun a hf => ?_
   refine q_ hf rfl rfl rfl (e_move hf rfl) fun a hf => ?_
   rcases cond_some h28 with ⟨hc29, h28⟩ | ⟨hc29, h28⟩
   ·refine gq (wanted_t hf rfl rfl rfl rfl hc29) hf rfl rfl (e_move hf rfl) fun a hf => ?_
    refine gq (wanted_t hf rfl rfl rfl rfl hc29) hf rfl rfl (e_ge hf (x := node13) (y := 0) rfl rfl) fun a hf => ?_
    refine q_ hf rfl rfl rfl (e_pick_t hf rfl hc29 rfl) fun a hf => ?_
    refine pl_nil ?_
    obtain rfl := some_inj h28
    refine then_n ?_
    exact ⟨(decide (0 ≤ node13)), rfl, hf.keep ⟨rfl, rfl, rfl, rfl, rfl, trivial⟩, hM.pick [0] rfl⟩
   iterate 2 refine pl_gs (wanted_f hf rfl rfl rfl rfl hc29) hf rfl rfl fun a hf => ?_
   refine q_ hf rfl rfl rfl (e_pick_f hf rfl hc29 rfl) fun a hf => ?_
   refine pl_nil ?_
   obtain rfl := some_inj h28
   refine then_n ?_
   exact ⟨false, rfl, hf.keep ⟨rfl, rfl, rfl, rfl, rfl, trivial⟩, hM.pick [0] rfl⟩
  rintro a w32 ⟨t25, rfl, hf, hM⟩
  try dsimp only at h23
  rcases cond_some h23 with ⟨hc33, h23⟩ | ⟨hc33, h23⟩
  ·refine cond_t hf rfl hc33 ?_
   refine wp_skip ?_
   refine then_n ?_
   refine wp_seq ?_
   refine wp_block ?_
   refine region_pl ?_
   iterate 4 refine q_ hf rfl rfl rfl (e_move hf rfl) fun a hf => ?_
   obtain ⟨c34, hz35, h23⟩ := bind_some h23
   refine q_ hf rfl rfl rfl (e_indexS hf (x := s7) rfl rfl Tryz.underlying9 hz35) fun a hf => ?_
   obtain ⟨y36, hz37, h23⟩ := bind_some h23
   refine pl_l hf rfl rfl rfl (w_call hf Tryz.call108 rfl (r_spec_l06Step ⟨_, Sh C _ _, none_, hM.sh_lt, none_not, C.G, hM.g_lt, g_none, hM.tabs⟩ d1 _ _ (hM.dat (k := 0) rfl) node13 hv14 c34 _ hz37) ?_)
   rintro _ w39 ⟨rfl, hM2, hv38⟩
   obtain ⟨hM, hx40, hup41⟩ := hM.back hM2
   dsimp only [List.cons_append, List.nil_append] at hM hup41
   clear hM2
   refine ⟨_, rfl, fun a hf => ?_⟩
   refine q_ hf rfl rfl rfl (e_assign hf rfl) fun a hf => ?_
   refine pl_nil ?_
   refine blk_n ?_
   refine then_n ?_
   refine region_pl ?_
   refine q_ hf rfl rfl rfl (e_move hf rfl) fun a hf => ?_
   obtain ⟨z42, hz43, h23⟩ := bind_some h23
   refine q_ hf rfl rfl rfl (e_add hf rfl rfl hz43) fun a hf => ?_
   refine q_ hf rfl rfl rfl (e_assign hf rfl) fun a hf => ?_
   refine pl_nil ?_
   obtain rfl := some_inj h23
   refine then_n ⟨_, rfl, ?_⟩
   exact ⟨y36, z42, rfl, hf.keep ⟨rfl, rfl, rfl, rfl, trivial⟩, hM.pick [0] rfl, hv38, (chk_R hz43)⟩
  refine cond_f hf rfl hc33 ?_
  refine wp_exit ?_
  refine then_x ?_
  obtain rfl := some_inj h23
  obtain rfl := hd24 _ rfl
  try dsimp only at h12
  refine then_x ?_
  refine exit_hit ?_
  obtain rfl := some_inj h12
  refine then_n ?_
  exact ⟨node13, rfl, hf.keep ⟨rfl, trivial⟩, hM.pick [0] rfl, hv14⟩
 rintro a w49 ⟨node9, rfl, hf, hM, hv10⟩
 try dsimp only at h
 refine wp_seq ?_
 refine region_pl ?_
 refine q_ hf rfl rfl rfl (e_move hf rfl) fun a hf => ?_
 refine q_ hf rfl rfl rfl (e_assign hf rfl) fun a hf => ?_
 refine pl_nil ?_
 refine then_n ?_
 refine wp_ret ?_
 obtain rfl := some_inj h
 exact leave1 hf rfl rfl ⟨rfl, hM.fin, hv10⟩
theorem r_spec_l06Accepts (C : Cx) (d1 : Dawg) (b2 : Nat) (o3 : Nat) (hp4 : (ptrRep DawgRep).R C.w0 C.S0 d1 [vP b2 o3]) (s5 : Str) (hp6 : s5.length ≤ maxLen) (r : Bool) (h : m_spec_l06Accepts d1 s5 = some r) :
    Calls Tryz.prog 49 #[vP b2 (o3), vS (s5)] C.w0 fun e w => e = .returned (.bool (r)) ∧ Mem C w [] [] := by
 have hM := Mem.begin C [.dat (ptrRep DawgRep) d1 [vP b2 o3]] ⟨hp4, trivial⟩
 refine enter Tryz.func49 rfl Tryz.ntmps49 rfl fun a hf => ?_
 unfold m_spec_l06Accepts at h
 refine wp_seq ?_
 refine region_pl ?_
 refine q_ hf rfl rfl rfl (e_assign hf rfl) fun a hf => ?_
 refine pl_nil ?_
 refine then_n ?_
 refine wp_seq ?_
 refine region_pl ?_
 iterate 2 refine q_ hf rfl rfl rfl (e_move hf rfl) fun a hf => ?_
 obtain ⟨y7, hz8, h⟩ := bind_some h
 refine pl_l hf rfl rfl rfl (w_call hf Tryz.call78 rfl (r_spec_l06After ⟨_, Sh C _ _, none_, hM.sh_lt, none_not, C.G, hM.g_lt, g_none, hM.tabs⟩ d1 _ _ (hM.dat (k := 0) rfl) 0 (R64_lit rfl) s5 hp6 _ hz8) ?_)
 rintro _ w10 ⟨rfl, hM2, hv9⟩
 obtain ⟨hM, hx11, hup12⟩ := hM.back hM2
 dsimp only [List.cons_append, List.nil_append] at hM hup12
 clear hM2
 refine ⟨_, rfl, fun a hf => ?_⟩
 refine q_ hf rfl rfl rfl (e_assign hf rfl) fun a hf => ?_
 refine pl_nil ?_
 refine then_n ?_
 obtain ⟨x15, h16, h⟩ := bind_some h
 refine seq_join (fun a w => ∃ (t13 : Bool), t13 = x15 ∧ Has 21 a [(4, .bool (t13))] ∧ Mem C w [] [.dat (ptrRep DawgRep) d1 [vP b2 o3]]) ?_ ?_
 ·refine region_pl ?_
  refine q_ hf rfl rfl rfl (e_move hf rfl) fun a hf => ?_
  refine q_ hf rfl rfl rfl (e_ge hf (x := y7) (y := 0) rfl rfl) fun a hf => ?_
  refine q_ hf rfl rfl rfl (e_move hf rfl) fun a hf => ?_
  rcases cond_some h16 with ⟨hc17, h16⟩ | ⟨hc17, h16⟩
  ·refine gq (wanted_t hf rfl rfl rfl rfl hc17) hf rfl rfl (e_move hf rfl) fun a hf => ?_
   refine gq (wanted_t hf rfl rfl rfl rfl hc17) hf rfl rfl (e_nil hf rfl) fun a hf => ?_
   obtain ⟨_, hr18, hM⟩ := hM.deref (hM.dat (k := 0) rfl)
   obtain ⟨A19, c20, rfl, hv21⟩ := DawgRep_open hr18
   have hM := hM.add (y := .dat (sliceRep NodeRep) d1.Nodes [vL A19 d1.Nodes c20]) hv21
   refine gq (wanted_t hf rfl rfl rfl rfl hc17) hf rfl rfl (e_field hf rfl Tryz.underlying31 rfl Tryz.sizeOf29 (o' := o3 + 0) rfl) fun a hf => ?_
   refine gq (wanted_t hf rfl rfl rfl rfl hc17) hf rfl rfl (e_load1 hf rfl Tryz.isAgg29 (hM.litCell (k := 1) (j := 0) rfl rfl rfl)) fun a hf => ?_
   refine gq (wanted_t hf rfl rfl rfl rfl hc17) hf rfl rfl (e_move hf rfl) fun a hf => ?_
   obtain ⟨e22, hz23, h16⟩ := bind_some h16
   obtain ⟨b27, o28, _, hA29, h24, h25, hr26, hM⟩ := hM.elem (hM.dat (k := 0) rfl) (n := 3) rfl hz23
   obtain ⟨A31, c32, rfl, hv30, hv33⟩ := NodeRep_open hr26
   have hM := hM.add (y := .dat (sliceRep intRep) e22.Next [vL A31 e22.Next c32]) hv33
   refine gq (wanted_t hf rfl rfl rfl rfl hc17) hf rfl rfl (e_indexAddr (A := A19) (b := b27) (o := o28) (xs := d1.Nodes) (i := y7) hf hA29 rfl rfl Tryz.underlying29 Tryz.sizeOf47 h24 h25) fun a hf => ?_
   refine gq (wanted_t hf rfl rfl rfl rfl hc17) hf rfl rfl (e_field hf rfl Tryz.underlying47 rfl Tryz.sizeOf4 (o' := (o28 + (y7 : Int).toNat * 3) + 0) rfl) fun a hf => ?_
   refine gq (wanted_t hf rfl rfl rfl rfl hc17) hf rfl rfl (e_load1 hf rfl Tryz.isAgg4 (hM.litCell (k := 1) (j := 0) rfl rfl rfl)) fun a hf => ?_
   refine q_ hf rfl rfl rfl (e_pick_t hf rfl hc17 rfl) fun a hf => ?_
   refine q_ hf rfl rfl rfl (e_assign hf rfl) fun a hf => ?_
   refine pl_nil ?_
   obtain rfl := some_inj h16
   refine then_n ?_
   exact ⟨e22.Final, rfl, hf.keep ⟨rfl, trivial⟩, hM.pick [4] rfl⟩
  iterate 8 refine pl_gs (wanted_f hf rfl rfl rfl rfl hc17) hf rfl rfl fun a hf => ?_
  refine q_ hf rfl rfl rfl (e_pick_f hf rfl hc17 rfl) fun a hf => ?_
  refine q_ hf rfl rfl rfl (e_assign hf rfl) fun a hf => ?_
  refine pl_nil ?_
  obtain rfl := some_inj h16
  refine then_n ?_
  exact ⟨false, rfl, hf.keep ⟨rfl, trivial⟩, hM.pick [0] rfl⟩
 rintro a w36 ⟨t13, rfl, hf, hM⟩
 try dsimp only at h
 refine wp_ret ?_
 obtain rfl := some_inj h
 exact leave1 hf rfl rfl ⟨rfl, hM.fin⟩
theorem r_spec_AcceptsWord (C : Cx) (d1 : Dawg) (A2 : Option Addr) (c3 : Nat) (hp4 : (sliceRep NodeRep).R C.w0 C.S0 d1.Nodes [vL A2 d1.Nodes c3]) (s5 : Str) (hp6 : s5.length ≤ maxLen) (r : Bool) (h : m_spec_AcceptsWord d1 s5 = some r) :
    Calls Tryz.prog 22 #[.agg #[vL A2 (d1.Nodes) c3], vS (s5)] C.w0 fun e w => e = .returned (.bool (r)) ∧ Mem C w [] [] := by
 have hM := Mem.begin C [.dat (sliceRep NodeRep) d1.Nodes [vL A2 d1.Nodes c3]] ⟨hp4, trivial⟩
 refine enter Tryz.func22 rfl Tryz.ntmps22 rfl fun a hf => ?_
 unfold m_spec_AcceptsWord at h
 refine wp_seq ?_
 refine region_pl ?_
 refine pl_l hf rfl rfl rfl (w_box hf hM (cs := [vL A2 (d1.Nodes) c3]) rfl rfl fun b7 w8 hx9 hM a hf => ?_)
 refine q_ hf rfl rfl rfl (e_assign hf rfl) fun a hf => ?_
 refine pl_nil ?_
 refine then_n ?_
 obtain ⟨x13, h14, h⟩ := bind_some h
 refine seq_join (fun a w => ∃ (t11 : Bool), t11 = x13 ∧ Has 10 a [(4, .bool (t11))] ∧ Mem C w [.box b7 [vL A2 (d1.Nodes) c3] 31] [.dat (sliceRep NodeRep) d1.Nodes [vL A2 d1.Nodes c3]]) ?_ ?_
 ·refine region_pl ?_
  obtain ⟨y15, hz16, h14⟩ := bind_some h14
  refine pl_l hf rfl rfl rfl (w_call hf Tryz.call48 rfl (r_spec_l06Ok ⟨_, All C _ _, none_, hM.all_lt, none_not, C.G, hM.g_lt, g_none, hM.tabs⟩ d1 _ _ (hM.lendBox (k := 0) rfl (DawgRep_mk (x := d1) (hM.lendDat (k := 0) rfl))) _ hz16) ?_)
  rintro _ w17 ⟨rfl, hM2⟩
  obtain ⟨hM, hx18⟩ := hM.backA hM2
  clear hM2
  refine ⟨_, rfl, fun a hf => ?_⟩
  refine q_ hf rfl rfl rfl (e_move hf rfl) fun a hf => ?_
  rcases cond_some h14 with ⟨hc20, h14⟩ | ⟨hc20, h14⟩
  ·refine gq (wanted_t hf rfl rfl rfl rfl hc20) hf rfl rfl (e_move hf rfl) fun a hf => ?_
   obtain ⟨y21, hz22, h14⟩ := bind_some h14
   refine pl_gl (wanted_t hf rfl rfl rfl rfl hc20) hf rfl rfl (w_call hf Tryz.call49 rfl (r_spec_l06Accepts ⟨_, All C _ _, none_, hM.all_lt, none_not, C.G, hM.g_lt, g_none, hM.tabs⟩ d1 _ _ (hM.lendBox (k := 0) rfl (DawgRep_mk (x := d1) (hM.lendDat (k := 0) rfl))) s5 hp6 _ hz22) ?_)
   rintro _ w23 ⟨rfl, hM2⟩
   obtain ⟨hM, hx24⟩ := hM.backA hM2
   clear hM2
   refine ⟨_, rfl, fun a hf => ?_⟩
   refine q_ hf rfl rfl rfl (e_pick_t hf rfl hc20 rfl) fun a hf => ?_
   refine q_ hf rfl rfl rfl (e_assign hf rfl) fun a hf => ?_
   refine pl_nil ?_
   obtain rfl := some_inj h14
   refine then_n ?_
   exact ⟨y21, rfl, hf.keep ⟨rfl, trivial⟩, hM.pick [0] rfl⟩
  iterate 2 refine pl_gs (wanted_f hf rfl rfl rfl rfl hc20) hf rfl rfl fun a hf => ?_
  refine q_ hf rfl rfl rfl (e_pick_f hf rfl hc20 rfl) fun a hf => ?_
  refine q_ hf rfl rfl rfl (e_assign hf rfl) fun a hf => ?_
  refine pl_nil ?_
  obtain rfl := some_inj h14
  refine then_n ?_
  exact ⟨false, rfl, hf.keep ⟨rfl, trivial⟩, hM.pick [0] rfl⟩
 rintro a w28 ⟨t11, rfl, hf, hM⟩
 try dsimp only at h
 refine wp_ret ?_
 obtain rfl := some_inj h
 have hM := hM.outs (own' := []) 0 rfl
 exact leave1 hf rfl rfl ⟨rfl, hM.fin⟩
theorem r_impl_selected_string (C : Cx) (list1 : (List Str)) (A2 : Option Addr) (c3 : Nat) (hp4 : (sliceRep strRep).R C.w0 C.S0 list1 [vL A2 list1 c3]) (is5 : (Str → Option Bool)) (fV6 : Value) (fk7 : FuncId) (fa8 : List Value) (fc9 : List Value) (hV10 : CallsAs Tryz.prog fV6 fk7 fa8 fc9) (hfn11 : FnOk Tryz.prog C fk7 (FnC_Str_to_Bool fk7 fa8 fc9 is5)) (r : (List Str)) (h : m_impl_selected_string list1 is5 = some r) :
    Calls Tryz.prog 80 #[vL A2 (list1) c3, fV6] C.w0 fun e w => ∃ (A_1 : Option Addr), ∃ (c_1 : Nat), e = .returned (vL A_1 (r) c_1) ∧ Mem C w [.row strRep A_1 c_1 9 r true] [] := by
 have hM := Mem.begin C [.dat (sliceRep strRep) list1 [vL A2 list1 c3]] ⟨hp4, trivial⟩
 refine enter Tryz.func80 rfl Tryz.ntmps80 rfl fun a hf => ?_
 unfold m_impl_selected_string at h
 refine wp_seq ?_
 refine region_pl ?_
 refine q_ hf rfl rfl rfl (e_assign hf rfl) fun a hf => ?_
 refine pl_nil ?_
 refine then_n ?_
 refine wp_seq ?_
 refine region_pl ?_
 refine pl_l hf rfl rfl rfl (w_slice0 (K := strRep) hM Tryz.underlying24 ei_9 fun b12 w13 hx14 hM a hf => ?_)
 refine q_ hf rfl rfl rfl (e_assign hf rfl) fun a hf => ?_
 refine pl_nil ?_
 refine then_n ?_
 obtain ⟨x18, h19, h⟩ := bind_some h
 refine seq_join (fun a w => ∃ (xs15 : (List Str)) (A16 : Option Addr) (c17 : Nat), xs15 = x18 ∧ Has 24 a [(5, vL A16 (xs15) c17)] ∧ Mem C w [.row strRep A16 c17 9 xs15 true] [.dat (sliceRep strRep) list1 [vL A2 list1 c3]]) ?_ ?_
 ·refine wp_seq ?_
  refine region_pl ?_
  refine q_ hf rfl rfl rfl (e_move hf rfl) fun a hf => ?_
  have hl20 := slice_len (hM.dat (k := 0) rfl)
  refine q_ hf rfl rfl rfl (e_lenL hf (x := list1) rfl Tryz.underlying24) fun a hf => ?_
  refine q_ hf rfl rfl rfl (e_move hf rfl) fun a hf => ?_
  refine pl_nil ?_
  refine then_n ?_
  refine wp_block ?_
  obtain ⟨x30, h31, h19⟩ := bind_some h19
  refine wp_loopM h31 (fun s a w => ∃ (xs21 : (List Str)) (n24 : Int) (A22 : Option Addr) (c23 : Nat), (xs21, n24) = s ∧ Has 24 a [(1, fV6), (5, vL A22 (xs21) c23), (9, vL A2 (list1) c3), (10, vI ((list1.length : Int))), (11, vI (n24))] ∧ Mem C w [.row strRep A22 c23 9 xs21 true] [.dat (sliceRep strRep) list1 [vL A2 list1 c3]] ∧ R64 n24) ?_ ?_
  ·exact ⟨([] : (List Str)), 0, (some ⟨b12, 0, none⟩), 0, rfl, hf.keep ⟨rfl, rfl, rfl, rfl, rfl, trivial⟩, hM.pick [0] rfl, (R64_lit rfl)⟩
  rintro s o32 a w26 ⟨xs21, n24, A22, c23, rfl, hf, hM, hv25⟩ h33 hd34
  replace h33 : m_impl_selected_string_l1 list1 is5 xs21 n24 = some o32 := h33
  unfold m_impl_selected_string_l1 at h33
  refine wp_seq ?_
  refine region_pl ?_
  refine q_ hf rfl rfl rfl (e_lt hf (x := n24) (y := (list1.length : Int)) rfl rfl) fun a hf => ?_
  refine pl_nil ?_
  refine then_n ?_
  refine wp_seq ?_
  rcases cond_some h33 with ⟨hc35, h33⟩ | ⟨hc35, h33⟩
  ·refine cond_t hf rfl hc35 ?_
   refine wp_skip ?_
   refine then_n ?_
   obtain ⟨x39, h40, h33⟩ := bind_some h33
   refine seq_join (fun a w => ∃ (xs36 : (List Str)) (A37 : Option Addr) (c38 : Nat), xs36 = x39 ∧ Has 24 a [(1, fV6), (5, vL A37 (xs36) c38), (9, vL A2 (list1) c3), (10, vI ((list1.length : Int))), (11, vI (n24))] ∧ Mem C w [.row strRep A37 c38 9 xs36 true] [.dat (sliceRep strRep) list1 [vL A2 list1 c3]]) ?_ ?_
   ·refine wp_block ?_
    refine wp_seq ?_
    refine region_pl ?_
    obtain ⟨e41, hz42, h40⟩ := bind_some h40
    obtain ⟨b46, o47, _, hA48, h43, h44, hr45, hM⟩ := hM.elem (hM.dat (k := 0) rfl) (n := 1) rfl hz42
    obtain ⟨rfl, hv49⟩ := hr45
    refine q_ hf rfl rfl rfl (e_indexAddr (A := A2) (b := b46) (o := o47) (xs := list1) (i := n24) hf hA48 rfl rfl Tryz.underlying24 Tryz.sizeOf9 h43 h44) fun a hf => ?_
    refine q_ hf rfl rfl rfl (e_load1 hf rfl Tryz.isAgg9 (hM.litCell (k := 0) (j := 0) rfl rfl rfl)) fun a hf => ?_
    refine q_ hf rfl rfl rfl (e_assign hf rfl) fun a hf => ?_
    refine pl_nil ?_
    refine then_n ?_
    refine wp_seq ?_
    refine region_pl ?_
    iterate 2 refine q_ hf rfl rfl rfl (e_move hf rfl) fun a hf => ?_
    obtain ⟨y50, hz51, h40⟩ := bind_some h40
    refine pl_l hf rfl rfl rfl (w_callF hf hV10 rfl rfl (hfn11.2 ⟨_, Sh C _ _, none_, hM.sh_lt, none_not, C.G, hM.g_lt, g_none, hM.tabs⟩ hM.sameS hM.s0sh e41 hv49 _ hz51) ?_)
    rintro _ w52 ⟨rfl, hM2⟩
    obtain ⟨hM, hx53, hup54⟩ := hM.back hM2
    dsimp only [List.cons_append, List.nil_append] at hM hup54
    clear hM2
    refine ⟨_, rfl, fun a hf => ?_⟩
    refine pl_nil ?_
    refine then_n ?_
    rcases cond_some h40 with ⟨hc55, h40⟩ | ⟨hc55, h40⟩
    ·refine cond_t hf rfl hc55 ?_
     refine region_pl ?_
     iterate 2 refine q_ hf rfl rfl rfl (e_move hf rfl) fun a hf => ?_
     refine pl_l hf rfl rfl rfl (w_slice hf hM (K := strRep) (xs := ([e41] : (List Str))) (os := [.tmp 19]) Tryz.underlying24 ei_9 rfl rfl rfl rfl rfl ⟨⟨[vS (e41)], rfl, ⟨rfl, hv49⟩⟩, trivial⟩ rfl fun b56 w57 hx58 hM a hf => ?_)
     obtain ⟨xs59, hz60, h40⟩ := bind_some h40
     refine pl_l hf rfl rfl rfl (w_append hf hM Tryz.underlying24 ei_9 rfl rfl rfl (k := 1) rfl (hM.srcRow (k := 0) rfl) hz60 fun A61 c62 w63 hM a hf => ?_)
     dsimp only [List.set] at hM
     refine q_ hf rfl rfl rfl (e_assign hf rfl) fun a hf => ?_
     refine pl_nil ?_
     refine blk_n ?_
     obtain rfl := some_inj h40
     refine then_n ?_
     exact ⟨xs59, A61, c62, rfl, hf.keep ⟨rfl, rfl, rfl, rfl, rfl, trivial⟩, (hM.drop (.cons _ (.cons_cons _ .slnil))).pick [1] rfl⟩
    refine cond_f hf rfl hc55 ?_
    refine wp_skip ?_
    refine blk_n ?_
    obtain rfl := some_inj h40
    refine then_n ?_
    exact ⟨xs21, A22, c23, rfl, hf.keep ⟨rfl, rfl, rfl, rfl, rfl, trivial⟩, hM.pick [1] rfl⟩
   rintro a w68 ⟨xs36, A37, c38, rfl, hf, hM⟩
   try dsimp only at h33
   refine region_pl ?_
   obtain ⟨z69, hz70, h33⟩ := bind_some h33
   refine q_ hf rfl rfl rfl (e_add hf rfl rfl hz70) fun a hf => ?_
   refine q_ hf rfl rfl rfl (e_move hf rfl) fun a hf => ?_
   refine pl_nil ?_
   obtain rfl := some_inj h33
   refine then_n ⟨_, rfl, ?_⟩
   exact ⟨xs36, z69, A37, c38, rfl, hf.keep ⟨rfl, rfl, rfl, rfl, rfl, trivial⟩, hM.pick [0] rfl, (chk_R hz70)⟩
  refine cond_f hf rfl hc35 ?_
  refine wp_exit ?_
  refine then_x ?_
  obtain rfl := some_inj h33
  obtain rfl := hd34 _ rfl
  try dsimp only at h19
  refine then_x ?_
  refine exit_hit ?_
  obtain rfl := some_inj h19
  refine then_n ?_
  exact ⟨xs21, A22, c23, rfl, hf.keep ⟨rfl, trivial⟩, hM.pick [0] rfl⟩
 rintro a w76 ⟨xs15, A16, c17, rfl, hf, hM⟩
 try dsimp only at h
 refine wp_seq ?_
 refine region_pl ?_
 refine q_ hf rfl rfl rfl (e_move hf rfl) fun a hf => ?_
 refine q_ hf rfl rfl rfl (e_assign hf rfl) fun a hf => ?_
 refine pl_nil ?_
 refine then_n ?_
 refine wp_ret ?_
 obtain rfl := some_inj h
 exact leave1 hf rfl rfl ⟨A16, c17, rfl, hM.fin⟩
theorem r_impl_chosen (C : Cx) (a1 : Dawg) (A2 : Option Addr) (c3 : Nat) (hp4 : (sliceRep NodeRep).R C.w0 C.S0 a1.Nodes [vL A2 a1.Nodes c3]) (b5 : Dawg) (A6 : Option Addr) (c7 : Nat) (hp8 : (sliceRep NodeRep).R C.w0 C.S0 b5.Nodes [vL A6 b5.Nodes c7]) (of9 : (Str → Option Bool)) (fI10 : Value) (hI11 : ∃ T v, fI10 = .iface T v) (fk12 : FuncId) (fa13 : List Value) (hV14 : CallsAs Tryz.prog (.func (.method "loop.example/g00911/impl.has") #[fI10] #[]) fk12 fa13 []) (hfn15 : FnOk Tryz.prog C fk12 (FnC_Str_to_Bool fk12 fa13 [] of9)) (r : (List Str)) (h : m_impl_chosen a1 b5 of9 = some r) :
    Calls Tryz.prog 50 #[.agg #[vL A2 (a1.Nodes) c3], .agg #[vL A6 (b5.Nodes) c7], fI10] C.w0 fun e w => ∃ (A_1 : Option Addr), ∃ (c_1 : Nat), e = .returned (vL A_1 (r) c_1) ∧ Mem C w [.row strRep A_1 c_1 9 r true] [] := by
 have hM := Mem.begin C [.dat (sliceRep NodeRep) b5.Nodes [vL A6 b5.Nodes c7], .dat (sliceRep NodeRep) a1.Nodes [vL A2 a1.Nodes c3]] ⟨hp8, hp4, trivial⟩
 refine enter Tryz.func50 rfl Tryz.ntmps50 rfl fun a hf => ?_
 unfold m_impl_chosen at h
 refine wp_seq ?_
 refine region_pl ?_
 refine pl_l hf rfl rfl rfl (w_box hf hM (cs := [vL A2 (a1.Nodes) c3]) rfl rfl fun b16 w17 hx18 hM a hf => ?_)
 refine pl_l hf rfl rfl rfl (w_box hf hM (cs := [vL A6 (b5.Nodes) c7]) rfl rfl fun b20 w21 hx22 hM a hf => ?_)
 refine q_ hf rfl rfl rfl (e_assign hf rfl) fun a hf => ?_
 refine pl_nil ?_
 refine then_n ?_
 refine wp_seq ?_
 obtain ⟨w24, hw⟩ : ∃ x, x = w21.drew := ⟨_, rfl⟩
 refine region_pi (.q 0 (.q 2 (.l 1 (.l 3 (.l 4 (.q 5 (.nil))))))) (Ext w24) rfl (by kernel_rfl) ?_
 have hM := hM.drew
 rw [← hw] at hM ⊢
 clear hw
 refine pi_q hf rfl rfl rfl rfl (Ext.refl _) (e_loadA hf (us := [vL A2 (a1.Nodes) c3]) rfl ⟨Tryz.isAgg31, Tryz.sizeOf31⟩ rfl (hM.boxSub (k := 1) (us := [vL A2 (a1.Nodes) c3]) (o := 0) rfl rfl)) fun a hf => ?_
 refine pi_q hf rfl rfl rfl rfl (Ext.refl _) (e_loadA hf (us := [vL A6 (b5.Nodes) c7]) rfl ⟨Tryz.isAgg31, Tryz.sizeOf31⟩ rfl (hM.boxSub (k := 0) (us := [vL A6 (b5.Nodes) c7]) (o := 0) rfl rfl)) fun a hf => ?_
 refine pi_one ?_
 obtain ⟨y25, hz26, h⟩ := bind_some h
 refine pi_l hf rfl rfl rfl rfl (w_call hf Tryz.call31 rfl (r_impl_Dawg_words ⟨_, Sh C _ _, none_, hM.sh_lt, none_not, C.G, hM.g_lt, g_none, hM.tabs⟩ a1 _ _ (hM.dat (k := 1) rfl) _ hz26) ?_)
 rintro _ w29 ⟨A27, c28, rfl, hM2⟩
 obtain ⟨hM, hx30, hup31⟩ := hM.back hM2
 dsimp only [List.cons_append, List.nil_append] at hM hup31
 clear hM2
 refine ⟨_, rfl, Ext w29, fun _ h => Ext.trans hx30 h, Ext.refl _, fun a hf => ?_⟩
 refine pi_one ?_
 obtain ⟨y32, hz33, h⟩ := bind_some h
 refine pi_l hf rfl rfl rfl rfl (w_call hf Tryz.call31 rfl (r_impl_Dawg_words ⟨_, Sh C _ _, none_, hM.sh_lt, none_not, C.G, hM.g_lt, g_none, hM.tabs⟩ b5 _ _ (hM.dat (k := 0) rfl) _ hz33) ?_)
 rintro _ w36 ⟨A34, c35, rfl, hM2⟩
 obtain ⟨hM, hx37, hup38⟩ := hM.back hM2
 dsimp only [List.cons_append, List.nil_append] at hM hup38
 clear hM2
 refine ⟨_, rfl, Ext w36, fun _ h => Ext.trans hx37 h, Ext.refl _, fun a hf => ?_⟩
 refine pi_one ?_
 have hM := hM.freezeRow (k := 0) rfl rfl
 dsimp only [List.eraseIdx] at hM
 obtain ⟨xs39, hz40, h⟩ := bind_some h
 refine pi_z hf rfl rfl rfl rfl (by kernel_rfl) (w_appendD hf hM Tryz.underlying24 ei_9 rfl rfl rfl (k := 0) rfl (hM.dat (k := 0) rfl) hz40 fun A41 c42 w43 hM a hf => ?_)
 dsimp only [List.set] at hM
 refine pi_q hf rfl rfl rfl rfl (Ext.refl _) (e_assign hf rfl) fun a hf => ?_
 refine pi_nil ?_
 refine then_n ?_
 refine wp_seq ?_
 refine region_pl ?_
 refine q_ hf rfl rfl rfl (e_move hf rfl) fun a hf => ?_
 have hM : Mem C _ ([.row strRep A41 c42 9 xs39 true] ++ [.box b20 [vL A6 (b5.Nodes) c7] 31, .box b16 [vL A2 (a1.Nodes) c3] 31]) _ := hM
 obtain ⟨y46, hz47, h⟩ := bind_some h
 refine pl_l hf rfl rfl rfl (w_call hf Tryz.call79 rfl (r_slices_Sort_string_string ⟨_, Sh C _ _, ownB _, hM.sh_lt, sub_dis, C.G, hM.g_lt, hM.g_own, hM.tabs⟩ xs39 _ _ hM.sub sub_dis _ hz47) ?_)
 rintro _ w49 ⟨rfl, hM2, hl48⟩
 obtain ⟨hM, hup51⟩ := hM.backG hM2
 dsimp only [List.cons_append, List.nil_append] at hM hup51
 clear hM2
 refine ⟨_, rfl, fun a hf => ?_⟩
 have hf := hf.alter (d := 12) (v := vL A41 (y46) c42) rfl (vL_len hl48)
 have hf := hf.alter (d := 7) (v := vL A41 (y46) c42) rfl (vL_len hl48)
 have hf := hf.alter (d := 13) (v := vL A41 (y46) c42) rfl (vL_len hl48)
 refine pl_nil ?_
 refine then_n ?_
 refine wp_seq ?_
 obtain ⟨w52, hw⟩ : ∃ x, x = w49.drew := ⟨_, rfl⟩
 refine region_pi (.q 0 (.q 2 (.q 3 (.q 4 (.l 1 (.l 5 (.q 6 (.nil)))))))) (ExtM [A41.map (·.block)] w52) rfl (by kernel_rfl) ?_
 have hM := hM.drew
 rw [← hw] at hM ⊢
 clear hw
 iterate 2 refine pi_q hf rfl rfl rfl rfl (ExtM.refl _ _) (e_move hf rfl) fun a hf => ?_
 refine pi_q hf rfl rfl rfl rfl (ExtM.refl _ _) (e_nilI hf rfl hI11) fun a hf => ?_
 refine pi_q hf rfl rfl rfl rfl (ExtM.refl _ _) (e_methodVal hf rfl) fun a hf => ?_
 refine pi_one ?_
 have hM : Mem C _ ([.row strRep A41 c42 9 y46 true] ++ [.box b20 [vL A6 (b5.Nodes) c7] 31, .box b16 [vL A2 (a1.Nodes) c3] 31]) _ := hM
 obtain ⟨y53, hz54, h⟩ := bind_some h
 refine pi_l hf rfl rfl rfl rfl (w_call hf Tryz.call81 rfl (r_slices_Compact_string_string ⟨_, Sh C _ _, ownB _, hM.sh_lt, sub_dis, C.G, hM.g_lt, hM.g_own, hM.tabs⟩ y46 _ _ hM.sub sub_dis _ hz54) ?_)
 rintro _ w57 ⟨A55, c56, rfl, hM2⟩
 have hxm60 := ExtM.ofChg (bs := [A41.map (·.block)]) hM2.chg ⟨List.mem_of_getElem? (i := 0) rfl, trivial⟩
 have hsz61 := hM2.chg.size
 obtain ⟨hM, hup59⟩ := hM.backG hM2
 dsimp only [List.cons_append, List.nil_append] at hM hup59
 clear hM2
 refine ⟨_, rfl, Ext w57, fun _ h => ExtM.last hxm60 hsz61 h, Ext.refl _, fun a hf => ?_⟩
 refine pi_one ?_
 obtain ⟨y62, hz63, h⟩ := bind_some h
 refine pi_l hf rfl rfl rfl rfl (w_call hf Tryz.call80 rfl (r_impl_selected_string ⟨_, All C _ _, none_, hM.all_lt, none_not, C.G, hM.g_lt, g_none, hM.tabs⟩ y53 _ _ (hM.lendRow (k := 0) rfl) of9 _ _ _ _ hV14 (hfn15.to hM.sameS (fun b hb => .inl (hM.s0sh b hb))) _ hz63) ?_)
 rintro _ w66 ⟨A64, c65, rfl, hM2⟩
 obtain ⟨hM, hx67⟩ := hM.backAF strRep_flat hM2
 clear hM2
 refine ⟨_, rfl, Ext w66, fun _ h => Ext.trans hx67 h, Ext.refl _, fun a hf => ?_⟩
 refine pi_q hf rfl rfl rfl rfl (Ext.refl _) (e_assign hf rfl) fun a hf => ?_
 refine pi_nil ?_
 refine then_n ?_
 refine wp_ret ?_
 obtain rfl := some_inj h
 have hM := hM.outs (own' := [.row strRep A64 c65 9 y62 true]) 1 rfl
 exact leave1 hf rfl rfl ⟨A64, c65, rfl, hM.fin⟩
theorem r_impl_Dawg_step (C : Cx) (d1 : Dawg) (A2 : Option Addr) (c3 : Nat) (hp4 : (sliceRep NodeRep).R C.w0 C.S0 d1.Nodes [vL A2 d1.Nodes c3]) (node5 : Int) (hp6 : R64 node5) (letter7 : UInt8) (r : Int) (h : m_impl_Dawg_step d1 node5 letter7 = some r) :
    Calls Tryz.prog 101 #[.agg #[vL A2 (d1.Nodes) c3], vI (node5), vB (letter7)] C.w0 fun e w => e = .returned (vI (r)) ∧ Mem C w [] [] ∧ R64 r := by
 have hM := Mem.begin C [.dat (sliceRep NodeRep) d1.Nodes [vL A2 d1.Nodes c3]] ⟨hp4, trivial⟩
 refine enter Tryz.func101 rfl Tryz.ntmps101 rfl fun a hf => ?_
 unfold m_impl_Dawg_step at h
 refine wp_seq ?_
 refine region_pl ?_
 refine pl_l hf rfl rfl rfl (w_box hf hM (cs := [vL A2 (d1.Nodes) c3]) rfl rfl fun b8 w9 hx10 hM a hf => ?_)
 refine q_ hf rfl rfl rfl (e_assign hf rfl) fun a hf => ?_
 refine pl_nil ?_
 refine then_n ?_
 iterate 2 refine wp_seq ?_
 refine region_pl ?_
 refine q_ hf rfl rfl rfl (e_move hf rfl) fun a hf => ?_
 refine q_ hf rfl rfl rfl (e_field hf rfl Tryz.underlying31 rfl Tryz.sizeOf29 (o' := 0) rfl) fun a hf => ?_
 refine q_ hf rfl rfl rfl (e_load1 hf rfl Tryz.isAgg29 (hM.boxCell (k := 0) rfl rfl)) fun a hf => ?_
 have hl12 := slice_len (hM.dat (k := 0) rfl)
 refine q_ hf rfl rfl rfl (e_lenL hf (x := d1.Nodes) rfl Tryz.underlying29) fun a hf => ?_
 obtain ⟨z13, hz14, h⟩ := bind_some h
 refine q_ hf rfl rfl rfl (e_sub hf rfl rfl hz14) fun a hf => ?_
 obtain ⟨y15, hz16, h⟩ := bind_some h
 refine pl_l hf rfl rfl rfl (w_call hf Tryz.call70 rfl (r_impl_within ⟨_, Sh C _ _, none_, hM.sh_lt, none_not, C.G, hM.g_lt, g_none, hM.tabs⟩ node5 hp6 0 (R64_lit rfl) z13 (chk_R hz14) _ hz16) ?_)
 rintro _ w17 ⟨rfl, hM2⟩
 obtain ⟨hM, hx18, hup19⟩ := hM.back hM2
 dsimp only [List.cons_append, List.nil_append] at hM hup19
 clear hM2
 refine ⟨_, rfl, fun a hf => ?_⟩
 refine q_ hf rfl rfl rfl (e_not hf rfl) fun a hf => ?_
 refine pl_nil ?_
 refine then_n ?_
 rcases cond_some h with ⟨hc20, h⟩ | ⟨hc20, h⟩
 ·refine cond_t hf rfl hc20 ?_
  refine wp_seq ?_
  refine region_pl ?_
  refine q_ hf rfl rfl rfl (e_assign hf rfl) fun a hf => ?_
  refine pl_nil ?_
  refine then_n ?_
  refine wp_ret ?_
  refine then_r ?_
  obtain rfl := some_inj h
  have hM := hM.outs (own' := []) 0 rfl
  exact leave1 hf rfl rfl ⟨rfl, hM.fin, (R64_lit rfl)⟩
 refine cond_f hf rfl hc20 ?_
 refine wp_skip ?_
 refine then_n ?_
 refine wp_seq ?_
 refine region_pl ?_
 refine q_ hf rfl rfl rfl (e_field hf rfl Tryz.underlying31 rfl Tryz.sizeOf29 (o' := 0) rfl) fun a hf => ?_
 refine q_ hf rfl rfl rfl (e_load1 hf rfl Tryz.isAgg29 (hM.boxCell (k := 0) rfl rfl)) fun a hf => ?_
 refine q_ hf rfl rfl rfl (e_move hf rfl) fun a hf => ?_
 obtain ⟨e21, hz22, h⟩ := bind_some h
 obtain ⟨b26, o27, _, hA28, h23, h24, hr25, hM⟩ := hM.elem (hM.dat (k := 0) rfl) (n := 3) rfl hz22
 obtain ⟨A30, c31, rfl, hv29, hv32⟩ := NodeRep_open hr25
 have hM := hM.add (y := .dat (sliceRep intRep) e21.Next [vL A30 e21.Next c31]) hv32
 refine q_ hf rfl rfl rfl (e_indexAddr (A := A2) (b := b26) (o := o27) (xs := d1.Nodes) (i := node5) hf hA28 rfl rfl Tryz.underlying29 Tryz.sizeOf47 h23 h24) fun a hf => ?_
 refine q_ hf rfl rfl rfl (e_loadA hf (us := [.bool (e21.Final), vS (e21.Letters), vL A30 (e21.Next) c31]) rfl ⟨Tryz.isAgg47, Tryz.sizeOf47⟩ rfl (hM.litSub (k := 1) (d := 0) (us := [.bool (e21.Final), vS (e21.Letters), vL A30 (e21.Next) c31]) rfl rfl rfl)) fun a hf => ?_
 refine pl_l hf rfl rfl rfl (w_alloc hM (cs := [.bool (false), vS (([] : Str)), vL none (([] : (List Int))) 0]) Tryz.zeroValue47 rfl fun b33 w34 hx35 hM a hf => ?_)
 refine pl_0 hf rfl rfl (w_store hf hM (us := [.bool (e21.Final), vS (e21.Letters), vL A30 (e21.Next) c31]) (cs' := [.bool (e21.Final), vS (e21.Letters), vL A30 (e21.Next) c31]) rfl rfl (k := 0) rfl rfl Tryz.sizeOf47 rfl rfl rfl fun w37 hM => ?_)
 dsimp only [List.set] at hM
 refine pl_nil ?_
 refine then_n ?_
 iterate 2 refine wp_seq ?_
 refine region_pl ?_
 refine q_ hf rfl rfl rfl (e_field hf rfl Tryz.underlying47 rfl Tryz.sizeOf9 (o' := 1) rfl) fun a hf => ?_
 refine q_ hf rfl rfl rfl (e_load1 hf rfl Tryz.isAgg9 (hM.boxCell (k := 0) rfl rfl)) fun a hf => ?_
 refine q_ hf rfl rfl rfl (e_move hf rfl) fun a hf => ?_
 obtain ⟨y40, hz41, h⟩ := bind_some h
 refine pl_l hf rfl rfl rfl (w_call hf Tryz.call130 rfl (r_strings_IndexByte ⟨_, Sh C _ _, none_, hM.sh_lt, none_not, C.G, hM.g_lt, g_none, hM.tabs⟩ e21.Letters hv29 letter7 _ hz41) ?_)
 rintro _ w43 ⟨rfl, hM2, hv42⟩
 obtain ⟨hM, hx44, hup45⟩ := hM.back hM2
 dsimp only [List.cons_append, List.nil_append] at hM hup45
 clear hM2
 refine ⟨_, rfl, fun a hf => ?_⟩
 refine q_ hf rfl rfl rfl (e_assign hf rfl) fun a hf => ?_
 refine pl_nil ?_
 refine then_n ?_
 refine wp_seq ?_
 refine region_pl ?_
 refine q_ hf rfl rfl rfl (e_move hf rfl) fun a hf => ?_
 refine q_ hf rfl rfl rfl (e_ge hf (x := y40) (y := 0) rfl rfl) fun a hf => ?_
 refine pl_nil ?_
 refine then_n ?_
 rcases cond_some h with ⟨hc46, h⟩ | ⟨hc46, h⟩
 ·refine cond_t hf rfl hc46 ?_
  refine wp_seq ?_
  refine region_pl ?_
  refine q_ hf rfl rfl rfl (e_field hf rfl Tryz.underlying47 rfl Tryz.sizeOf45 (o' := 2) rfl) fun a hf => ?_
  refine q_ hf rfl rfl rfl (e_load1 hf rfl Tryz.isAgg45 (hM.boxCell (k := 0) rfl rfl)) fun a hf => ?_
  refine q_ hf rfl rfl rfl (e_move hf rfl) fun a hf => ?_
  obtain ⟨e47, hz48, h⟩ := bind_some h
  obtain ⟨b52, o53, _, hA54, h49, h50, hr51, hM⟩ := hM.elem (hM.dat (k := 0) rfl) (n := 1) rfl hz48
  obtain ⟨rfl, hv55⟩ := hr51
  refine q_ hf rfl rfl rfl (e_indexAddr (A := A30) (b := b52) (o := o53) (xs := e21.Next) (i := y40) hf hA54 rfl rfl Tryz.underlying45 Tryz.sizeOf2 h49 h50) fun a hf => ?_
  refine q_ hf rfl rfl rfl (e_load1 hf rfl Tryz.isAgg2 (hM.litCell (k := 0) (j := 0) rfl rfl rfl)) fun a hf => ?_
  refine q_ hf rfl rfl rfl (e_assign hf rfl) fun a hf => ?_
  refine pl_nil ?_
  refine then_n ?_
  refine wp_ret ?_
  refine then_r ?_
  obtain rfl := some_inj h
  have hM := hM.outs (own' := []) 0 rfl
  exact leave1 hf rfl rfl ⟨rfl, hM.fin, hv55⟩
 refine cond_f hf rfl hc46 ?_
 refine wp_skip ?_
 refine then_n ?_
 refine wp_seq ?_
 refine region_pl ?_
 refine q_ hf rfl rfl rfl (e_assign hf rfl) fun a hf => ?_
 refine pl_nil ?_
 refine then_n ?_
 refine wp_ret ?_
 obtain rfl := some_inj h
 have hM := hM.outs (own' := []) 0 rfl
 exact leave1 hf rfl rfl ⟨rfl, hM.fin, (R64_lit rfl)⟩
theorem r_impl_Dawg_after (C : Cx) (d1 : Dawg) (A2 : Option Addr) (c3 : Nat) (hp4 : (sliceRep NodeRep).R C.w0 C.S0 d1.Nodes [vL A2 d1.Nodes c3]) (s5 : Str) (hp6 : s5.length ≤ maxLen) (r : Int) (h : m_impl_Dawg_after d1 s5 = some r) :
    Calls Tryz.prog 71 #[.agg #[vL A2 (d1.Nodes) c3], vS (s5)] C.w0 fun e w => e = .returned (vI (r)) ∧ Mem C w [] [] ∧ R64 r := by
 have hM := Mem.begin C [.dat (sliceRep NodeRep) d1.Nodes [vL A2 d1.Nodes c3]] ⟨hp4, trivial⟩
 refine enter Tryz.func71 rfl Tryz.ntmps71 rfl fun a hf => ?_
 unfold m_impl_Dawg_after at h
 refine wp_seq ?_
 refine region_pl ?_
 refine pl_l hf rfl rfl rfl (w_box hf hM (cs := [vL A2 (d1.Nodes) c3]) rfl rfl fun b7 w8 hx9 hM a hf => ?_)
 refine q_ hf rfl rfl rfl (e_assign hf rfl) fun a hf => ?_
 refine pl_nil ?_
 refine then_n ?_
 refine wp_seq ?_
 refine region_pl ?_
 refine q_ hf rfl rfl rfl (e_assign hf rfl) fun a hf => ?_
 refine pl_nil ?_
 refine then_n ?_
 obtain ⟨x13, h14, h⟩ := bind_some h
 refine seq_join (fun a w => ∃ (n11 : Int), n11 = x13 ∧ Has 24 a [(5, vI (n11))] ∧ Mem C w [.box b7 [vL A2 (d1.Nodes) c3] 31] [.dat (sliceRep NodeRep) d1.Nodes [vL A2 d1.Nodes c3]] ∧ R64 n11) ?_ ?_
 ·refine wp_seq ?_
  refine region_pl ?_
  refine q_ hf rfl rfl rfl (e_assign hf rfl) fun a hf => ?_
  refine pl_nil ?_
  refine then_n ?_
  refine wp_block ?_
  obtain ⟨x22, h23, h14⟩ := bind_some h14
  refine wp_loopM h23 (fun s a w => ∃ (n15 : Int) (n17 : Int), (n15, n17) = s ∧ Has 24 a [(1, vS (s5)), (2, vP b7 (0)), (5, vI (n15)), (6, vI (n17))] ∧ Mem C w [.box b7 [vL A2 (d1.Nodes) c3] 31] [.dat (sliceRep NodeRep) d1.Nodes [vL A2 d1.Nodes c3]] ∧ R64 n15 ∧ R64 n17) ?_ ?_
  ·exact ⟨0, 0, rfl, hf.keep ⟨rfl, rfl, rfl, rfl, trivial⟩, hM.pick [0] rfl, (R64_lit rfl), (R64_lit rfl)⟩
  rintro s o24 a w19 ⟨n15, n17, rfl, hf, hM, hv16, hv18⟩ h25 hd26
  replace h25 : m_impl_Dawg_after_l1 s5 d1 n15 n17 = some o24 := h25
  unfold m_impl_Dawg_after_l1 at h25
  refine wp_seq ?_
  obtain ⟨x29, h30, h25⟩ := bind_some h25
  refine seq_join (fun a w => ∃ (t27 : Bool), t27 = x29 ∧ Has 24 a [(1, vS (s5)), (2, vP b7 (0)), (5, vI (n15)), (6, vI (n17)), (14, .bool (t27))] ∧ Mem C w [.box b7 [vL A2 (d1.Nodes) c3] 31] [.dat (sliceRep NodeRep) d1.Nodes [vL A2 d1.Nodes c3]]) ?_ ?_
  ·refine region_pl ?_
   iterate 2 refine q_ hf rfl rfl rfl (e_move hf rfl) fun a hf => ?_
   refine q_ hf rfl rfl rfl (e_lenS hf (x := s5) rfl Tryz.underlying9) fun a hf => ?_
   refine q_ hf rfl rfl rfl (e_lt hf (x := n17) (y := (s5.length : Int)) rfl rfl) fun a hf => ?_
   refine q_ hf rfl rfl rfl (e_move hf rfl) fun a hf => ?_
   rcases cond_some h30 with ⟨hc31, h30⟩ | ⟨hc31, h30⟩
   ·refine gq (wanted_t hf rfl rfl rfl rfl hc31) hf rfl rfl (e_move hf rfl) fun a hf => ?_
    refine gq (wanted_t hf rfl rfl rfl rfl hc31) hf rfl rfl (e_ge hf (x := n15) (y := 0) rfl rfl) fun a hf => ?_
    refine q_ hf rfl rfl rfl (e_pick_t hf rfl hc31 rfl) fun a hf => ?_
    refine pl_nil ?_
    obtain rfl := some_inj h30
    refine then_n ?_
    exact ⟨(decide (0 ≤ n15)), rfl, hf.keep ⟨rfl, rfl, rfl, rfl, rfl, trivial⟩, hM.pick [0] rfl⟩
   iterate 2 refine pl_gs (wanted_f hf rfl rfl rfl rfl hc31) hf rfl rfl fun a hf => ?_
   refine q_ hf rfl rfl rfl (e_pick_f hf rfl hc31 rfl) fun a hf => ?_
   refine pl_nil ?_
   obtain rfl := some_inj h30
   refine then_n ?_
   exact ⟨false, rfl, hf.keep ⟨rfl, rfl, rfl, rfl, rfl, trivial⟩, hM.pick [0] rfl⟩
  rintro a w34 ⟨t27, rfl, hf, hM⟩
  try dsimp only at h25
  rcases cond_some h25 with ⟨hc35, h25⟩ | ⟨hc35, h25⟩
  ·refine cond_t hf rfl hc35 ?_
   refine wp_skip ?_
   refine then_n ?_
   refine wp_seq ?_
   refine wp_block ?_
   obtain ⟨w36, hw⟩ : ∃ x, x = w34.drew := ⟨_, rfl⟩
   refine region_pi (.q 0 (.q 1 (.q 2 (.q 3 (.q 4 (.l 5 (.q 6 (.nil)))))))) (Ext w36) rfl (by kernel_rfl) ?_
   have hM := hM.drew
   rw [← hw] at hM ⊢
   clear hw
   refine pi_q hf rfl rfl rfl rfl (Ext.refl _) (e_loadA hf (us := [vL A2 (d1.Nodes) c3]) rfl ⟨Tryz.isAgg31, Tryz.sizeOf31⟩ rfl (hM.boxSub (k := 0) (us := [vL A2 (d1.Nodes) c3]) (o := 0) rfl rfl)) fun a hf => ?_
   iterate 3 refine pi_q hf rfl rfl rfl rfl (Ext.refl _) (e_move hf rfl) fun a hf => ?_
   obtain ⟨c37, hz38, h25⟩ := bind_some h25
   refine pi_q hf rfl rfl rfl rfl (Ext.refl _) (e_indexS hf (x := s5) rfl rfl Tryz.underlying9 hz38) fun a hf => ?_
   refine pi_one ?_
   obtain ⟨y39, hz40, h25⟩ := bind_some h25
   refine pi_l hf rfl rfl rfl rfl (w_call hf Tryz.call101 rfl (r_impl_Dawg_step ⟨_, Sh C _ _, none_, hM.sh_lt, none_not, C.G, hM.g_lt, g_none, hM.tabs⟩ d1 _ _ (hM.dat (k := 0) rfl) n15 hv16 c37 _ hz40) ?_)
   rintro _ w42 ⟨rfl, hM2, hv41⟩
   obtain ⟨hM, hx43, hup44⟩ := hM.back hM2
   dsimp only [List.cons_append, List.nil_append] at hM hup44
   clear hM2
   refine ⟨_, rfl, Ext w42, fun _ h => Ext.trans hx43 h, Ext.refl _, fun a hf => ?_⟩
   refine pi_q hf rfl rfl rfl rfl (Ext.refl _) (e_assign hf rfl) fun a hf => ?_
   refine pi_nil ?_
   refine blk_n ?_
   refine then_n ?_
   refine region_pl ?_
   refine q_ hf rfl rfl rfl (e_move hf rfl) fun a hf => ?_
   obtain ⟨z45, hz46, h25⟩ := bind_some h25
   refine q_ hf rfl rfl rfl (e_add hf rfl rfl hz46) fun a hf => ?_
   refine q_ hf rfl rfl rfl (e_assign hf rfl) fun a hf => ?_
   refine pl_nil ?_
   obtain rfl := some_inj h25
   refine then_n ⟨_, rfl, ?_⟩
   exact ⟨y39, z45, rfl, hf.keep ⟨rfl, rfl, rfl, rfl, trivial⟩, hM.pick [0] rfl, hv41, (chk_R hz46)⟩
  refine cond_f hf rfl hc35 ?_
  refine wp_exit ?_
  refine then_x ?_
  obtain rfl := some_inj h25
  obtain rfl := hd26 _ rfl
  try dsimp only at h14
  refine then_x ?_
  refine exit_hit ?_
  obtain rfl := some_inj h14
  refine then_n ?_
  exact ⟨n15, rfl, hf.keep ⟨rfl, trivial⟩, hM.pick [0] rfl, hv16⟩
 rintro a w52 ⟨n11, rfl, hf, hM, hv12⟩
 try dsimp only at h
 refine wp_seq ?_
 refine region_pl ?_
 refine q_ hf rfl rfl rfl (e_move hf rfl) fun a hf => ?_
 refine q_ hf rfl rfl rfl (e_assign hf rfl) fun a hf => ?_
 refine pl_nil ?_
 refine then_n ?_
 refine wp_ret ?_
 obtain rfl := some_inj h
 have hM := hM.outs (own' := []) 0 rfl
 exact leave1 hf rfl rfl ⟨rfl, hM.fin, hv12⟩
theorem r_impl_Dawg_accepts (C : Cx) (d1 : Dawg) (A2 : Option Addr) (c3 : Nat) (hp4 : (sliceRep NodeRep).R C.w0 C.S0 d1.Nodes [vL A2 d1.Nodes c3]) (s5 : Str) (hp6 : s5.length ≤ maxLen) (r : Bool) (h : m_impl_Dawg_accepts d1 s5 = some r) :
    Calls Tryz.prog 44 #[.agg #[vL A2 (d1.Nodes) c3], vS (s5)] C.w0 fun e w => e = .returned (.bool (r)) ∧ Mem C w [] [] := by
 have hM := Mem.begin C [.dat (sliceRep NodeRep) d1.Nodes [vL A2 d1.Nodes c3]] ⟨hp4, trivial⟩
 refine enter Tryz.func44 rfl Tryz.ntmps44 rfl fun a hf => ?_
 unfold m_impl_Dawg_accepts at h
 refine wp_seq ?_
 refine region_pl ?_
 refine pl_l hf rfl rfl rfl (w_box hf hM (cs := [vL A2 (d1.Nodes) c3]) rfl rfl fun b7 w8 hx9 hM a hf => ?_)
 refine q_ hf rfl rfl rfl (e_assign hf rfl) fun a hf => ?_
 refine pl_nil ?_
 refine then_n ?_
 refine wp_seq ?_
 refine region_pl ?_
 refine q_ hf rfl rfl rfl (e_loadA hf (us := [vL A2 (d1.Nodes) c3]) rfl ⟨Tryz.isAgg31, Tryz.sizeOf31⟩ rfl (hM.boxSub (k := 0) (us := [vL A2 (d1.Nodes) c3]) (o := 0) rfl rfl)) fun a hf => ?_
 refine q_ hf rfl rfl rfl (e_move hf rfl) fun a hf => ?_
 obtain ⟨y11, hz12, h⟩ := bind_some h
 refine pl_l hf rfl rfl rfl (w_call hf Tryz.call71 rfl (r_impl_Dawg_after ⟨_, Sh C _ _, none_, hM.sh_lt, none_not, C.G, hM.g_lt, g_none, hM.tabs⟩ d1 _ _ (hM.dat (k := 0) rfl) s5 hp6 _ hz12) ?_)
 rintro _ w14 ⟨rfl, hM2, hv13⟩
 obtain ⟨hM, hx15, hup16⟩ := hM.back hM2
 dsimp only [List.cons_append, List.nil_append] at hM hup16
 clear hM2
 refine ⟨_, rfl, fun a hf => ?_⟩
 refine q_ hf rfl rfl rfl (e_assign hf rfl) fun a hf => ?_
 refine pl_nil ?_
 refine then_n ?_
 obtain ⟨x19, h20, h⟩ := bind_some h
 refine seq_join (fun a w => ∃ (t17 : Bool), t17 = x19 ∧ Has 19 a [(4, .bool (t17))] ∧ Mem C w [.box b7 [vL A2 (d1.Nodes) c3] 31] [.dat (sliceRep NodeRep) d1.Nodes [vL A2 d1.Nodes c3]]) ?_ ?_
 ·refine region_pl ?_
  refine q_ hf rfl rfl rfl (e_move hf rfl) fun a hf => ?_
  refine q_ hf rfl rfl rfl (e_ge hf (x := y11) (y := 0) rfl rfl) fun a hf => ?_
  refine q_ hf rfl rfl rfl (e_move hf rfl) fun a hf => ?_
  rcases cond_some h20 with ⟨hc21, h20⟩ | ⟨hc21, h20⟩
  ·refine gq (wanted_t hf rfl rfl rfl rfl hc21) hf rfl rfl (e_field hf rfl Tryz.underlying31 rfl Tryz.sizeOf29 (o' := 0) rfl) fun a hf => ?_
   refine gq (wanted_t hf rfl rfl rfl rfl hc21) hf rfl rfl (e_load1 hf rfl Tryz.isAgg29 (hM.boxCell (k := 0) rfl rfl)) fun a hf => ?_
   refine gq (wanted_t hf rfl rfl rfl rfl hc21) hf rfl rfl (e_move hf rfl) fun a hf => ?_
   obtain ⟨e22, hz23, h20⟩ := bind_some h20
   obtain ⟨b27, o28, _, hA29, h24, h25, hr26, hM⟩ := hM.elem (hM.dat (k := 0) rfl) (n := 3) rfl hz23
   obtain ⟨A31, c32, rfl, hv30, hv33⟩ := NodeRep_open hr26
   have hM := hM.add (y := .dat (sliceRep intRep) e22.Next [vL A31 e22.Next c32]) hv33
   refine gq (wanted_t hf rfl rfl rfl rfl hc21) hf rfl rfl (e_indexAddr (A := A2) (b := b27) (o := o28) (xs := d1.Nodes) (i := y11) hf hA29 rfl rfl Tryz.underlying29 Tryz.sizeOf47 h24 h25) fun a hf => ?_
   refine gq (wanted_t hf rfl rfl rfl rfl hc21) hf rfl rfl (e_field hf rfl Tryz.underlying47 rfl Tryz.sizeOf4 (o' := (o28 + (y11 : Int).toNat * 3) + 0) rfl) fun a hf => ?_
   refine gq (wanted_t hf rfl rfl rfl rfl hc21) hf rfl rfl (e_load1 hf rfl Tryz.isAgg4 (hM.litCell (k := 1) (j := 0) rfl rfl rfl)) fun a hf => ?_
   refine q_ hf rfl rfl rfl (e_pick_t hf rfl hc21 rfl) fun a hf => ?_
   refine q_ hf rfl rfl rfl (e_assign hf rfl) fun a hf => ?_
   refine pl_nil ?_
   obtain rfl := some_inj h20
   refine then_n ?_
   exact ⟨e22.Final, rfl, hf.keep ⟨rfl, trivial⟩, hM.pick [2] rfl⟩
  iterate 6 refine pl_gs (wanted_f hf rfl rfl rfl rfl hc21) hf rfl rfl fun a hf => ?_
  refine q_ hf rfl rfl rfl (e_pick_f hf rfl hc21 rfl) fun a hf => ?_
  refine q_ hf rfl rfl rfl (e_assign hf rfl) fun a hf => ?_
  refine pl_nil ?_
  obtain rfl := some_inj h20
  refine then_n ?_
  exact ⟨false, rfl, hf.keep ⟨rfl, trivial⟩, hM.pick [0] rfl⟩
 rintro a w36 ⟨t17, rfl, hf, hM⟩
 try dsimp only at h
 refine wp_ret ?_
 obtain rfl := some_inj h
 have hM := hM.outs (own' := []) 0 rfl
 exact leave1 hf rfl rfl ⟨rfl, hM.fin⟩
theorem r_impl_minus_has (C : Cx) (x1 : minus) (A2 : Option Addr) (c3 : Nat) (hp4 : (sliceRep NodeRep).R C.w0 C.S0 x1.a.Nodes [vL A2 x1.a.Nodes c3]) (A5 : Option Addr) (c6 : Nat) (hp7 : (sliceRep NodeRep).R C.w0 C.S0 x1.b.Nodes [vL A5 x1.b.Nodes c6]) (s8 : Str) (hp9 : s8.length ≤ maxLen) (r : Bool) (h : m_impl_minus_has x1 s8 = some r) :
    Calls Tryz.prog 193 #[.agg #[vL A2 (x1.a.Nodes) c3, vL A5 (x1.b.Nodes) c6], vS (s8)] C.w0 fun e w => e = .returned (.bool (r)) ∧ Mem C w [] [] := by
 have hM := Mem.begin C [.dat (sliceRep NodeRep) x1.b.Nodes [vL A5 x1.b.Nodes c6], .dat (sliceRep NodeRep) x1.a.Nodes [vL A2 x1.a.Nodes c3]] ⟨hp7, hp4, trivial⟩
 refine enter Tryz.func193 rfl Tryz.ntmps193 rfl fun a hf => ?_
 unfold m_impl_minus_has at h
 refine wp_seq ?_
 refine region_pl ?_
 refine pl_l hf rfl rfl rfl (w_box hf hM (cs := [vL A2 (x1.a.Nodes) c3, vL A5 (x1.b.Nodes) c6]) rfl rfl fun b10 w11 hx12 hM a hf => ?_)
 refine q_ hf rfl rfl rfl (e_assign hf rfl) fun a hf => ?_
 refine pl_nil ?_
 refine then_n ?_
 obtain ⟨x16, h17, h⟩ := bind_some h
 refine seq_join (fun a w => ∃ (t14 : Bool), t14 = x16 ∧ Has 16 a [(4, .bool (t14))] ∧ Mem C w [.box b10 [vL A2 (x1.a.Nodes) c3, vL A5 (x1.b.Nodes) c6] 96] [.dat (sliceRep NodeRep) x1.b.Nodes [vL A5 x1.b.Nodes c6], .dat (sliceRep NodeRep) x1.a.Nodes [vL A2 x1.a.Nodes c3]]) ?_ ?_
 ·refine region_pl ?_
  refine q_ hf rfl rfl rfl (e_field hf rfl Tryz.underlying96 rfl Tryz.sizeOf31 (o' := 0) rfl) fun a hf => ?_
  refine q_ hf rfl rfl rfl (e_loadA hf (us := [vL A2 (x1.a.Nodes) c3]) rfl ⟨Tryz.isAgg31, Tryz.sizeOf31⟩ rfl (hM.boxSub (k := 0) (us := [vL A2 (x1.a.Nodes) c3]) (o := 0) rfl rfl)) fun a hf => ?_
  refine q_ hf rfl rfl rfl (e_move hf rfl) fun a hf => ?_
  obtain ⟨y18, hz19, h17⟩ := bind_some h17
  refine pl_l hf rfl rfl rfl (w_call hf Tryz.call44 rfl (r_impl_Dawg_accepts ⟨_, Sh C _ _, none_, hM.sh_lt, none_not, C.G, hM.g_lt, g_none, hM.tabs⟩ x1.a _ _ (hM.dat (k := 1) rfl) s8 hp9 _ hz19) ?_)
  rintro _ w20 ⟨rfl, hM2⟩
  obtain ⟨hM, hx21, hup22⟩ := hM.back hM2
  dsimp only [List.cons_append, List.nil_append] at hM hup22
  clear hM2
  refine ⟨_, rfl, fun a hf => ?_⟩
  refine q_ hf rfl rfl rfl (e_move hf rfl) fun a hf => ?_
  rcases cond_some h17 with ⟨hc23, h17⟩ | ⟨hc23, h17⟩
  ·refine gq (wanted_t hf rfl rfl rfl rfl hc23) hf rfl rfl (e_field hf rfl Tryz.underlying96 rfl Tryz.sizeOf31 (o' := 1) rfl) fun a hf => ?_
   refine gq (wanted_t hf rfl rfl rfl rfl hc23) hf rfl rfl (e_loadA hf (us := [vL A5 (x1.b.Nodes) c6]) rfl ⟨Tryz.isAgg31, Tryz.sizeOf31⟩ rfl (hM.boxSub (k := 0) (us := [vL A5 (x1.b.Nodes) c6]) (o := 1) rfl rfl)) fun a hf => ?_
   refine gq (wanted_t hf rfl rfl rfl rfl hc23) hf rfl rfl (e_move hf rfl) fun a hf => ?_
   obtain ⟨y24, hz25, h17⟩ := bind_some h17
   refine pl_gl (wanted_t hf rfl rfl rfl rfl hc23) hf rfl rfl (w_call hf Tryz.call44 rfl (r_impl_Dawg_accepts ⟨_, Sh C _ _, none_, hM.sh_lt, none_not, C.G, hM.g_lt, g_none, hM.tabs⟩ x1.b _ _ (hM.dat (k := 0) rfl) s8 hp9 _ hz25) ?_)
   rintro _ w26 ⟨rfl, hM2⟩
   obtain ⟨hM, hx27, hup28⟩ := hM.back hM2
   dsimp only [List.cons_append, List.nil_append] at hM hup28
   clear hM2
   refine ⟨_, rfl, fun a hf => ?_⟩
   refine gq (wanted_t hf rfl rfl rfl rfl hc23) hf rfl rfl (e_not hf rfl) fun a hf => ?_
   refine q_ hf rfl rfl rfl (e_pick_t hf rfl hc23 rfl) fun a hf => ?_
   refine q_ hf rfl rfl rfl (e_assign hf rfl) fun a hf => ?_
   refine pl_nil ?_
   obtain rfl := some_inj h17
   refine then_n ?_
   exact ⟨(!y24), rfl, hf.keep ⟨rfl, trivial⟩, hM.pick [0, 1] rfl⟩
  iterate 5 refine pl_gs (wanted_f hf rfl rfl rfl rfl hc23) hf rfl rfl fun a hf => ?_
  refine q_ hf rfl rfl rfl (e_pick_f hf rfl hc23 rfl) fun a hf => ?_
  refine q_ hf rfl rfl rfl (e_assign hf rfl) fun a hf => ?_
  refine pl_nil ?_
  obtain rfl := some_inj h17
  refine then_n ?_
  exact ⟨false, rfl, hf.keep ⟨rfl, trivial⟩, hM.pick [0, 1] rfl⟩
 rintro a w31 ⟨t14, rfl, hf, hM⟩
 try dsimp only at h
 refine wp_ret ?_
 obtain rfl := some_inj h
 have hM := hM.outs (own' := []) 0 rfl
 exact leave1 hf rfl rfl ⟨rfl, hM.fin⟩
theorem r_impl_DawgChanges (C : Cx) (a1 : Dawg) (A2 : Option Addr) (c3 : Nat) (hp4 : (sliceRep NodeRep).R C.w0 C.S0 a1.Nodes [vL A2 a1.Nodes c3]) (b5 : Dawg) (A6 : Option Addr) (c7 : Nat) (hp8 : (sliceRep NodeRep).R C.w0 C.S0 b5.Nodes [vL A6 b5.Nodes c7]) (r : ((List Str) × (List Str) × Int)) (h : m_impl_DawgChanges a1 b5 = some r) :
    Calls Tryz.prog 23 #[.agg #[vL A2 (a1.Nodes) c3], .agg #[vL A6 (b5.Nodes) c7]] C.w0 fun e w => ∃ (A_1 : Option Addr), ∃ (c_1 : Nat), ∃ (A_2 : Option Addr), ∃ (c_2 : Nat), e = .returned (.tuple #[vL A_1 (r.1) c_1, vL A_2 (r.2.1) c_2, vI (r.2.2)]) ∧ Mem C w [.row strRep A_1 c_1 9 r.1 true, .row strRep A_2 c_2 9 r.2.1 true] [] ∧ R64 r.2.2 := by
 have hM := Mem.begin C [.dat (sliceRep NodeRep) b5.Nodes [vL A6 b5.Nodes c7], .dat (sliceRep NodeRep) a1.Nodes [vL A2 a1.Nodes c3]] ⟨hp8, hp4, trivial⟩
 refine enter Tryz.func23 rfl Tryz.ntmps23 rfl fun a hf => ?_
 unfold m_impl_DawgChanges at h
 refine wp_seq ?_
 refine region_pl ?_
 refine pl_l hf rfl rfl rfl (w_box hf hM (cs := [vL A2 (a1.Nodes) c3]) rfl rfl fun b9 w10 hx11 hM a hf => ?_)
 refine pl_l hf rfl rfl rfl (w_box hf hM (cs := [vL A6 (b5.Nodes) c7]) rfl rfl fun b13 w14 hx15 hM a hf => ?_)
 iterate 3 refine q_ hf rfl rfl rfl (e_assign hf rfl) fun a hf => ?_
 refine pl_nil ?_
 refine then_n ?_
 refine wp_seq ?_
 obtain ⟨x19, h20, h⟩ := bind_some h
 refine seq_join (fun a w => ∃ (t17 : Bool), t17 = x19 ∧ Has 29 a [(2, vP b9 (0)), (3, vP b13 (0)), (14, .bool (t17))] ∧ Mem C w [.box b13 [vL A6 (b5.Nodes) c7] 31, .box b9 [vL A2 (a1.Nodes) c3] 31] [.dat (sliceRep NodeRep) b5.Nodes [vL A6 b5.Nodes c7], .dat (sliceRep NodeRep) a1.Nodes [vL A2 a1.Nodes c3]]) ?_ ?_
 ·refine region_pl ?_
  refine q_ hf rfl rfl rfl (e_loadA hf (us := [vL A2 (a1.Nodes) c3]) rfl ⟨Tryz.isAgg31, Tryz.sizeOf31⟩ rfl (hM.boxSub (k := 1) (us := [vL A2 (a1.Nodes) c3]) (o := 0) rfl rfl)) fun a hf => ?_
  obtain ⟨y21, hz22, h20⟩ := bind_some h20
  refine pl_l hf rfl rfl rfl (w_call hf Tryz.call16 rfl (r_impl_ValidDawg ⟨_, Sh C _ _, none_, hM.sh_lt, none_not, C.G, hM.g_lt, g_none, hM.tabs⟩ a1 _ _ (hM.dat (k := 1) rfl) _ hz22) ?_)
  rintro _ w23 ⟨rfl, hM2⟩
  obtain ⟨hM, hx24, hup25⟩ := hM.back hM2
  dsimp only [List.cons_append, List.nil_append] at hM hup25
  clear hM2
  refine ⟨_, rfl, fun a hf => ?_⟩
  refine q_ hf rfl rfl rfl (e_not hf rfl) fun a hf => ?_
  refine q_ hf rfl rfl rfl (e_move hf rfl) fun a hf => ?_
  rcases cond_some h20 with ⟨hc26, h20⟩ | ⟨hc26, h20⟩
  ·iterate 3 refine pl_gs (wanted_f hf rfl rfl rfl rfl hc26) hf rfl rfl fun a hf => ?_
   refine q_ hf rfl rfl rfl (e_pick_t hf rfl hc26 rfl) fun a hf => ?_
   refine pl_nil ?_
   obtain rfl := some_inj h20
   refine then_n ?_
   exact ⟨true, rfl, hf.keep ⟨rfl, rfl, rfl, trivial⟩, hM.pick [0, 1] rfl⟩
  refine gq (wanted_t hf rfl rfl rfl rfl hc26) hf rfl rfl (e_loadA hf (us := [vL A6 (b5.Nodes) c7]) rfl ⟨Tryz.isAgg31, Tryz.sizeOf31⟩ rfl (hM.boxSub (k := 0) (us := [vL A6 (b5.Nodes) c7]) (o := 0) rfl rfl)) fun a hf => ?_
  obtain ⟨y28, hz29, h20⟩ := bind_some h20
  refine pl_gl (wanted_t hf rfl rfl rfl rfl hc26) hf rfl rfl (w_call hf Tryz.call16 rfl (r_impl_ValidDawg ⟨_, Sh C _ _, none_, hM.sh_lt, none_not, C.G, hM.g_lt, g_none, hM.tabs⟩ b5 _ _ (hM.dat (k := 0) rfl) _ hz29) ?_)
  rintro _ w30 ⟨rfl, hM2⟩
  obtain ⟨hM, hx31, hup32⟩ := hM.back hM2
  dsimp only [List.cons_append, List.nil_append] at hM hup32
  clear hM2
  refine ⟨_, rfl, fun a hf => ?_⟩
  refine gq (wanted_t hf rfl rfl rfl rfl hc26) hf rfl rfl (e_not hf rfl) fun a hf => ?_
  refine q_ hf rfl rfl rfl (e_pick_f hf rfl hc26 rfl) fun a hf => ?_
  refine pl_nil ?_
  obtain rfl := some_inj h20
  refine then_n ?_
  exact ⟨(!y28), rfl, hf.keep ⟨rfl, rfl, rfl, trivial⟩, hM.pick [0, 1] rfl⟩
 rintro a w34 ⟨t17, rfl, hf, hM⟩
 try dsimp only at h
 rcases cond_some h with ⟨hc35, h⟩ | ⟨hc35, h⟩
 ·refine cond_t hf rfl hc35 ?_
  refine wp_seq ?_
  refine region_pl ?_
  iterate 3 refine q_ hf rfl rfl rfl (e_assign hf rfl) fun a hf => ?_
  refine pl_nil ?_
  refine then_n ?_
  refine wp_ret ?_
  refine then_r ?_
  obtain rfl := some_inj h
  have hres36 := leaveV3 (P := Tryz.prog) (w := w34) Tryz.results23 (res_tmp hf rfl) (res_tmp hf rfl) (res_tmp hf rfl)
  iterate 2 have hM := hM.nilRow strRep 9
  have hM := hM.front (k := 0) rfl
  dsimp only [List.eraseIdx] at hM
  have hM := hM.front (k := 1) rfl
  dsimp only [List.eraseIdx] at hM
  have hM := hM.outs (own' := [.row strRep none 0 9 ([] : (List Str)) true, .row strRep none 0 9 ([] : (List Str)) true]) 2 rfl
  exact bodyPost_ret hres36 hf.defers ⟨none, 0, none, 0, rfl, hM.fin, (R64_lit rfl)⟩
 refine cond_f hf rfl hc35 ?_
 refine wp_skip ?_
 refine then_n ?_
 refine wp_seq ?_
 obtain ⟨w37, hw⟩ : ∃ x, x = w34.drew := ⟨_, rfl⟩
 refine region_pi (.q 0 (.q 1 (.q 2 (.q 3 (.q 4 (.q 5 (.q 7 (.q 8 (.q 9 (.q 10 (.q 11 (.q 12 (.l 6 (.l 13 (.q 14 (.q 15 (.q 16 (.nil)))))))))))))))))) (Ext w37) rfl (by kernel_rfl) ?_
 have hM := hM.drew
 rw [← hw] at hM ⊢
 clear hw
 refine pi_q hf rfl rfl rfl rfl (Ext.refl _) (e_loadA hf (us := [vL A2 (a1.Nodes) c3]) rfl ⟨Tryz.isAgg31, Tryz.sizeOf31⟩ rfl (hM.boxSub (k := 1) (us := [vL A2 (a1.Nodes) c3]) (o := 0) rfl rfl)) fun a hf => ?_
 refine pi_q hf rfl rfl rfl rfl (Ext.refl _) (e_loadA hf (us := [vL A6 (b5.Nodes) c7]) rfl ⟨Tryz.isAgg31, Tryz.sizeOf31⟩ rfl (hM.boxSub (k := 0) (us := [vL A6 (b5.Nodes) c7]) (o := 0) rfl rfl)) fun a hf => ?_
 refine pi_q hf rfl rfl rfl rfl (Ext.refl _) (e_loadA hf (us := [vL A2 (a1.Nodes) c3]) rfl ⟨Tryz.isAgg31, Tryz.sizeOf31⟩ rfl (hM.boxSub (k := 1) (us := [vL A2 (a1.Nodes) c3]) (o := 0) rfl rfl)) fun a hf => ?_
 refine pi_q hf rfl rfl rfl rfl (Ext.refl _) (e_loadA hf (us := [vL A6 (b5.Nodes) c7]) rfl ⟨Tryz.isAgg31, Tryz.sizeOf31⟩ rfl (hM.boxSub (k := 0) (us := [vL A6 (b5.Nodes) c7]) (o := 0) rfl rfl)) fun a hf => ?_
 refine pi_q hf rfl rfl rfl rfl (Ext.refl _) (e_build hf Tryz.zeroValue96 Tryz.underlying96 (bp_96 _ Tryz.underlying96.symm) rfl (cs := #[vL A2 (a1.Nodes) c3, vL A6 (b5.Nodes) c7]) (by kernel_rfl)) fun a hf => ?_
 refine pi_q hf rfl rfl rfl rfl (Ext.refl _) (e_makeIface hf rfl (by kernel_rfl)) fun a hf => ?_
 refine pi_q hf rfl rfl rfl rfl (Ext.refl _) (e_loadA hf (us := [vL A2 (a1.Nodes) c3]) rfl ⟨Tryz.isAgg31, Tryz.sizeOf31⟩ rfl (hM.boxSub (k := 1) (us := [vL A2 (a1.Nodes) c3]) (o := 0) rfl rfl)) fun a hf => ?_
 iterate 2 refine pi_q hf rfl rfl rfl rfl (Ext.refl _) (e_loadA hf (us := [vL A6 (b5.Nodes) c7]) rfl ⟨Tryz.isAgg31, Tryz.sizeOf31⟩ rfl (hM.boxSub (k := 0) (us := [vL A6 (b5.Nodes) c7]) (o := 0) rfl rfl)) fun a hf => ?_
 refine pi_q hf rfl rfl rfl rfl (Ext.refl _) (e_loadA hf (us := [vL A2 (a1.Nodes) c3]) rfl ⟨Tryz.isAgg31, Tryz.sizeOf31⟩ rfl (hM.boxSub (k := 1) (us := [vL A2 (a1.Nodes) c3]) (o := 0) rfl rfl)) fun a hf => ?_
 refine pi_q hf rfl rfl rfl rfl (Ext.refl _) (e_build hf Tryz.zeroValue96 Tryz.underlying96 (bp_96 _ Tryz.underlying96.symm) rfl (cs := #[vL A6 (b5.Nodes) c7, vL A2 (a1.Nodes) c3]) (by kernel_rfl)) fun a hf => ?_
 refine pi_q hf rfl rfl rfl rfl (Ext.refl _) (e_makeIface hf rfl (by kernel_rfl)) fun a hf => ?_
 refine pi_one ?_
 obtain ⟨y40, hz41, h⟩ := bind_some h
 refine pi_l hf rfl rfl rfl rfl (w_call hf Tryz.call50 rfl (r_impl_chosen ⟨_, Sh C _ _, none_, hM.sh_lt, none_not, C.G, hM.g_lt, g_none, hM.tabs⟩ a1 _ _ (hM.dat (k := 1) rfl) b5 _ _ (hM.dat (k := 0) rfl) (fun u38 => m_impl_minus_has (⟨⟨a1.Nodes⟩, ⟨b5.Nodes⟩⟩ : minus) u38) (.iface 96 (.agg #[vL A2 (a1.Nodes) c3, vL A6 (b5.Nodes) c7])) ⟨_, _, rfl⟩ 193 [.agg #[vL A2 (a1.Nodes) c3, vL A6 (b5.Nodes) c7]] (callsAs_method (meth_193 _) Tryz.call193) ⟨Tryz.call193, fun C1 hs hsub u38 hp39 r h => r_impl_minus_has C1 (⟨⟨a1.Nodes⟩, ⟨b5.Nodes⟩⟩ : minus) _ _ (Rep.to (hM.dat (k := 1) rfl) hs hsub) _ _ (Rep.to (hM.dat (k := 0) rfl) hs hsub) u38 hp39 r h⟩ _ hz41) ?_)
 rintro _ w44 ⟨A42, c43, rfl, hM2⟩
 obtain ⟨hM, hx45, hup46⟩ := hM.back hM2
 dsimp only [List.cons_append, List.nil_append] at hM hup46
 clear hM2
 refine ⟨_, rfl, Ext w44, fun _ h => Ext.trans hx45 h, Ext.refl _, fun a hf => ?_⟩
 refine pi_one ?_
 obtain ⟨y49, hz50, h⟩ := bind_some h
 refine pi_l hf rfl rfl rfl rfl (w_call hf Tryz.call50 rfl (r_impl_chosen ⟨_, Sh C _ _, none_, hM.sh_lt, none_not, C.G, hM.g_lt, g_none, hM.tabs⟩ a1 _ _ (hM.dat (k := 1) rfl) b5 _ _ (hM.dat (k := 0) rfl) (fun u47 => m_impl_minus_has (⟨⟨b5.Nodes⟩, ⟨a1.Nodes⟩⟩ : minus) u47) (.iface 96 (.agg #[vL A6 (b5.Nodes) c7, vL A2 (a1.Nodes) c3])) ⟨_, _, rfl⟩ 193 [.agg #[vL A6 (b5.Nodes) c7, vL A2 (a1.Nodes) c3]] (callsAs_method (meth_193 _) Tryz.call193) ⟨Tryz.call193, fun C1 hs hsub u47 hp48 r h => r_impl_minus_has C1 (⟨⟨b5.Nodes⟩, ⟨a1.Nodes⟩⟩ : minus) _ _ (Rep.to (hM.dat (k := 0) rfl) hs hsub) _ _ (Rep.to (hM.dat (k := 1) rfl) hs hsub) u47 hp48 r h⟩ _ hz50) ?_)
 rintro _ w53 ⟨A51, c52, rfl, hM2⟩
 obtain ⟨hM, hx54, hup55⟩ := hM.back hM2
 dsimp only [List.cons_append, List.nil_append] at hM hup55
 clear hM2
 refine ⟨_, rfl, Ext w53, fun _ h => Ext.trans hx54 h, Ext.refl _, fun a hf => ?_⟩
 iterate 3 refine pi_q hf rfl rfl rfl rfl (Ext.refl _) (e_assign hf rfl) fun a hf => ?_
 refine pi_nil ?_
 refine then_n ?_
 refine wp_ret ?_
 obtain rfl := some_inj h
 have hres56 := leaveV3 (P := Tryz.prog) (w := w53) Tryz.results23 (res_tmp hf rfl) (res_tmp hf rfl) (res_tmp hf rfl)
 have hM := hM.front (k := 0) rfl
 dsimp only [List.eraseIdx] at hM
 have hM := hM.front (k := 1) rfl
 dsimp only [List.eraseIdx] at hM
 have hM := hM.outs (own' := [.row strRep A42 c43 9 y40 true, .row strRep A51 c52 9 y49 true]) 2 rfl
 exact bodyPost_ret hres56 hf.defers ⟨A42, c43, A51, c52, rfl, hM.fin, (R64_lit rfl)⟩
end Go.Proofs.YtdaoecpkgobelaaGreatDoor
