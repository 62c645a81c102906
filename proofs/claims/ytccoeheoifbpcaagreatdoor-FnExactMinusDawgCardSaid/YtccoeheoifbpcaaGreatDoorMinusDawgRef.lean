/- The functions that this law reaches do what their models say. Printed by gen.py. -/
import Derived.Test.YtccoeheoifbpcaaGreatDoorMod
import Derived.Test.YtccoeheoifbpcaaGreatDoorLib
namespace Go.Proofs.YtccoeheoifbpcaaGreatDoor
open Go Go.RowKit
set_option linter.unusedSimpArgs false
set_option linter.unusedVariables false
set_option maxRecDepth 100000
set_option maxHeartbeats 4000000
def FnC_Str_to_Bool (fk : FuncId) (fa fc : List Value) (f : Str → Option Bool) (C : Cx) : Prop := ∀ (x0 : Str) (hp1 : x0.length ≤ maxLen) (r : Bool) (h : f x0 = some r),
    Calls Tryz.prog fk ((fa ++ ([vS (x0)] : List Value)) ++ fc).toArray C.w0 fun e w => e = .returned (.bool (r)) ∧ Mem C w [] []
theorem meth_148 : ∀ (v : Value) (w : World), (method (Tryz.prog.types.size + Made.depth) 49 v "loop.example/g00911/impl.has").run Tryz.prog w = .ok (148, v) w := by
 intro v w
 kernel_rfl
theorem ei_2 : ElemInfo Tryz.prog 2 1 := elemInfo (by kernel_rfl)
theorem ei_3 : ElemInfo Tryz.prog 3 1 := elemInfo (by kernel_rfl)
theorem ei_4 : ElemInfo Tryz.prog 4 1 := elemInfo (by kernel_rfl)
theorem ei_5 : ElemInfo Tryz.prog 5 1 := elemInfo (by kernel_rfl)
theorem ei_9 : ElemInfo Tryz.prog 9 1 := elemInfo (by kernel_rfl)
theorem ei_79 : ElemInfo Tryz.prog 79 3 := elemInfo (by kernel_rfl)
theorem bp_26 : ∀ (fs : Array Field), some (TypeDesc.struct fs) = Tryz.prog.underlying 26 → ∀ w, (fs.mapM fun (f : Field) => do pure (f.offset, ← sizeOf f.type)).run Tryz.prog w = .ok #[(0, 1)] w := by
 intro fs h w
 rw [Tryz.underlying26] at h
 cases h
 simp
theorem bp_49 : ∀ (fs : Array Field), some (TypeDesc.struct fs) = Tryz.prog.underlying 49 → ∀ w, (fs.mapM fun (f : Field) => do pure (f.offset, ← sizeOf f.type)).run Tryz.prog w = .ok #[(0, 1), (1, 1)] w := by
 intro fs h w
 rw [Tryz.underlying49] at h
 cases h
 simp
theorem bp_79 : ∀ (fs : Array Field), some (TypeDesc.struct fs) = Tryz.prog.underlying 79 → ∀ w, (fs.mapM fun (f : Field) => do pure (f.offset, ← sizeOf f.type)).run Tryz.prog w = .ok #[(0, 1), (1, 1), (2, 1)] w := by
 intro fs h w
 rw [Tryz.underlying79] at h
 cases h
 simp
theorem bp_84 : ∀ (fs : Array Field), some (TypeDesc.struct fs) = Tryz.prog.underlying 84 → ∀ w, (fs.mapM fun (f : Field) => do pure (f.offset, ← sizeOf f.type)).run Tryz.prog w = .ok #[(0, 1), (1, 1), (2, 1), (3, 1), (4, 1)] w := by
 intro fs h w
 rw [Tryz.underlying84] at h
 cases h
 simp
theorem bp_91 : ∀ (fs : Array Field), some (TypeDesc.struct fs) = Tryz.prog.underlying 91 → ∀ w, (fs.mapM fun (f : Field) => do pure (f.offset, ← sizeOf f.type)).run Tryz.prog w = .ok #[(0, 1), (1, 1), (2, 1)] w := by
 intro fs h w
 rw [Tryz.underlying91] at h
 cases h
 simp
theorem bp_100 : ∀ (fs : Array Field), some (TypeDesc.struct fs) = Tryz.prog.underlying 100 → ∀ w, (fs.mapM fun (f : Field) => do pure (f.offset, ← sizeOf f.type)).run Tryz.prog w = .ok #[(0, 1), (1, 1)] w := by
 intro fs h w
 rw [Tryz.underlying100] at h
 cases h
 simp
theorem bp_116 : ∀ (fs : Array Field), some (TypeDesc.struct fs) = Tryz.prog.underlying 116 → ∀ w, (fs.mapM fun (f : Field) => do pure (f.offset, ← sizeOf f.type)).run Tryz.prog w = .ok #[(0, 1)] w := by
 intro fs h w
 rw [Tryz.underlying116] at h
 cases h
 simp
theorem bp_157 : ∀ (fs : Array Field), some (TypeDesc.struct fs) = Tryz.prog.underlying 157 → ∀ w, (fs.mapM fun (f : Field) => do pure (f.offset, ← sizeOf f.type)).run Tryz.prog w = .ok #[(0, 1), (1, 1), (2, 1)] w := by
 intro fs h w
 rw [Tryz.underlying157] at h
 cases h
 simp
theorem r_laws_szInt64S (C : Cx) (a1 : (List Int)) (A2 : Option Addr) (c3 : Nat) (hp4 : (sliceRep intRep).R C.w0 C.S0 a1 [vL A2 a1 c3]) (left5 : Int) (hp6 : R64 left5) (r : Int) (h : m_laws_szInt64S a1 left5 = some r) :
    Calls Tryz.prog 96 #[vL A2 (a1) c3, vI (left5)] C.w0 fun e w => e = .returned (vI (r)) ∧ Mem C w [] [] ∧ R64 r := by
 have hM := Mem.begin C [.dat (sliceRep intRep) a1 [vL A2 a1 c3]] ⟨hp4, trivial⟩
 refine enter Tryz.func96 rfl Tryz.ntmps96 rfl fun a hf => ?_
 unfold m_laws_szInt64S at h
 refine wp_seq ?_
 refine region_pl ?_
 refine q_ hf rfl rfl rfl (e_assign hf rfl) fun a hf => ?_
 refine pl_nil ?_
 refine then_n ?_
 refine wp_seq ?_
 refine region_pl ?_
 iterate 2 refine q_ hf rfl rfl rfl (e_move hf rfl) fun a hf => ?_
 have hl7 := slice_len (hM.dat (k := 0) rfl)
 refine q_ hf rfl rfl rfl (e_lenL hf (x := a1) rfl Tryz.underlying77) fun a hf => ?_
 obtain ⟨z8, hz9, h⟩ := bind_some h
 refine q_ hf rfl rfl rfl (e_sub hf rfl rfl hz9) fun a hf => ?_
 refine q_ hf rfl rfl rfl (e_assign hf rfl) fun a hf => ?_
 refine pl_nil ?_
 refine then_n ?_
 iterate 2 refine wp_seq ?_
 refine region_pl ?_
 refine q_ hf rfl rfl rfl (e_move hf rfl) fun a hf => ?_
 refine q_ hf rfl rfl rfl (e_lt hf (x := z8) (y := 0) rfl rfl) fun a hf => ?_
 refine pl_nil ?_
 refine then_n ?_
 rcases cond_some h with ⟨hc10, h⟩ | ⟨hc10, h⟩
 ·refine cond_t hf rfl hc10 ?_
  refine wp_seq ?_
  refine region_pl ?_
  refine q_ hf rfl rfl rfl (e_assign hf rfl) fun a hf => ?_
  refine pl_nil ?_
  refine then_n ?_
  refine wp_ret ?_
  refine then_r ?_
  obtain rfl := some_inj h
  exact leave1 hf rfl rfl ⟨rfl, hM.fin, (R64_lit rfl)⟩
 refine cond_f hf rfl hc10 ?_
 refine wp_skip ?_
 refine then_n ?_
 refine wp_seq ?_
 refine region_pl ?_
 refine q_ hf rfl rfl rfl (e_move hf rfl) fun a hf => ?_
 refine q_ hf rfl rfl rfl (e_assign hf rfl) fun a hf => ?_
 refine pl_nil ?_
 refine then_n ?_
 refine wp_ret ?_
 obtain rfl := some_inj h
 exact leave1 hf rfl rfl ⟨rfl, hM.fin, (chk_R hz9)⟩
theorem r_laws_szNode (C : Cx) (a1 : Node) (hp2 : a1.Letters.length ≤ maxLen) (A3 : Option Addr) (c4 : Nat) (hp5 : (sliceRep intRep).R C.w0 C.S0 a1.Next [vL A3 a1.Next c4]) (left6 : Int) (hp7 : R64 left6) (r : Int) (h : m_laws_szNode a1 left6 = some r) :
    Calls Tryz.prog 60 #[.agg #[.bool (a1.Final), vS (a1.Letters), vL A3 (a1.Next) c4], vI (left6)] C.w0 fun e w => e = .returned (vI (r)) ∧ Mem C w [] [] ∧ R64 r := by
 have hM := Mem.begin C [.dat (sliceRep intRep) a1.Next [vL A3 a1.Next c4]] ⟨hp5, trivial⟩
 refine enter Tryz.func60 rfl Tryz.ntmps60 rfl fun a hf => ?_
 unfold m_laws_szNode at h
 refine wp_seq ?_
 refine region_pl ?_
 refine pl_l hf rfl rfl rfl (w_box hf hM (cs := [.bool (a1.Final), vS (a1.Letters), vL A3 (a1.Next) c4]) rfl rfl fun b8 w9 hx10 hM a hf => ?_)
 refine q_ hf rfl rfl rfl (e_assign hf rfl) fun a hf => ?_
 refine pl_nil ?_
 refine then_n ?_
 refine wp_seq ?_
 refine region_pl ?_
 refine q_ hf rfl rfl rfl (e_move hf rfl) fun a hf => ?_
 refine q_ hf rfl rfl rfl (e_field hf rfl Tryz.underlying106 rfl Tryz.sizeOf9 (o' := 1) rfl) fun a hf => ?_
 refine q_ hf rfl rfl rfl (e_load1 hf rfl Tryz.isAgg9 (hM.boxCell (k := 0) rfl rfl)) fun a hf => ?_
 refine q_ hf rfl rfl rfl (e_lenS hf (x := a1.Letters) rfl Tryz.underlying9) fun a hf => ?_
 obtain ⟨z12, hz13, h⟩ := bind_some h
 refine q_ hf rfl rfl rfl (e_sub hf rfl rfl hz13) fun a hf => ?_
 refine q_ hf rfl rfl rfl (e_assign hf rfl) fun a hf => ?_
 refine pl_nil ?_
 refine then_n ?_
 iterate 2 refine wp_seq ?_
 refine region_pl ?_
 refine q_ hf rfl rfl rfl (e_move hf rfl) fun a hf => ?_
 refine q_ hf rfl rfl rfl (e_lt hf (x := z12) (y := 0) rfl rfl) fun a hf => ?_
 refine pl_nil ?_
 refine then_n ?_
 rcases cond_some h with ⟨hc14, h⟩ | ⟨hc14, h⟩
 ·refine cond_t hf rfl hc14 ?_
  refine wp_seq ?_
  refine region_pl ?_
  refine q_ hf rfl rfl rfl (e_assign hf rfl) fun a hf => ?_
  refine pl_nil ?_
  refine then_n ?_
  refine wp_ret ?_
  refine then_r ?_
  obtain rfl := some_inj h
  have hM := hM.outs (own' := []) 0 rfl
  exact leave1 hf rfl rfl ⟨rfl, hM.fin, (R64_lit rfl)⟩
 refine cond_f hf rfl hc14 ?_
 refine wp_skip ?_
 refine then_n ?_
 refine wp_seq ?_
 refine region_pl ?_
 refine q_ hf rfl rfl rfl (e_field hf rfl Tryz.underlying106 rfl Tryz.sizeOf77 (o' := 2) rfl) fun a hf => ?_
 refine q_ hf rfl rfl rfl (e_load1 hf rfl Tryz.isAgg77 (hM.boxCell (k := 0) rfl rfl)) fun a hf => ?_
 refine q_ hf rfl rfl rfl (e_move hf rfl) fun a hf => ?_
 obtain ⟨y15, hz16, h⟩ := bind_some h
 refine pl_l hf rfl rfl rfl (w_call hf Tryz.call96 rfl (r_laws_szInt64S ⟨_, Sh C _ _, none_, hM.sh_lt, none_not, C.G, hM.g_lt, g_none, hM.tabs⟩ a1.Next _ _ (hM.dat (k := 0) rfl) z12 (chk_R hz13) _ hz16) ?_)
 rintro _ w18 ⟨rfl, hM2, hv17⟩
 obtain ⟨hM, hx19, hup20⟩ := hM.back hM2
 dsimp only [List.cons_append, List.nil_append] at hM hup20
 clear hM2
 refine ⟨_, rfl, fun a hf => ?_⟩
 refine q_ hf rfl rfl rfl (e_assign hf rfl) fun a hf => ?_
 refine pl_nil ?_
 refine then_n ?_
 iterate 2 refine wp_seq ?_
 refine region_pl ?_
 refine q_ hf rfl rfl rfl (e_move hf rfl) fun a hf => ?_
 refine q_ hf rfl rfl rfl (e_lt hf (x := y15) (y := 0) rfl rfl) fun a hf => ?_
 refine pl_nil ?_
 refine then_n ?_
 rcases cond_some h with ⟨hc21, h⟩ | ⟨hc21, h⟩
 ·refine cond_t hf rfl hc21 ?_
  refine wp_seq ?_
  refine region_pl ?_
  refine q_ hf rfl rfl rfl (e_assign hf rfl) fun a hf => ?_
  refine pl_nil ?_
  refine then_n ?_
  refine wp_ret ?_
  refine then_r ?_
  obtain rfl := some_inj h
  have hM := hM.outs (own' := []) 0 rfl
  exact leave1 hf rfl rfl ⟨rfl, hM.fin, (R64_lit rfl)⟩
 refine cond_f hf rfl hc21 ?_
 refine wp_skip ?_
 refine then_n ?_
 refine wp_seq ?_
 refine region_pl ?_
 refine q_ hf rfl rfl rfl (e_move hf rfl) fun a hf => ?_
 refine q_ hf rfl rfl rfl (e_assign hf rfl) fun a hf => ?_
 refine pl_nil ?_
 refine then_n ?_
 refine wp_ret ?_
 obtain rfl := some_inj h
 have hM := hM.outs (own' := []) 0 rfl
 exact leave1 hf rfl rfl ⟨rfl, hM.fin, hv17⟩
theorem r_laws_szNodeS (C : Cx) (a1 : (List Node)) (A2 : Option Addr) (c3 : Nat) (hp4 : (sliceRep NodeRep).R C.w0 C.S0 a1 [vL A2 a1 c3]) (left5 : Int) (hp6 : R64 left5) (r : Int) (h : m_laws_szNodeS a1 left5 = some r) :
    Calls Tryz.prog 35 #[vL A2 (a1) c3, vI (left5)] C.w0 fun e w => e = .returned (vI (r)) ∧ Mem C w [] [] ∧ R64 r := by
 have hM := Mem.begin C [.dat (sliceRep NodeRep) a1 [vL A2 a1 c3]] ⟨hp4, trivial⟩
 refine enter Tryz.func35 rfl Tryz.ntmps35 rfl fun a hf => ?_
 unfold m_laws_szNodeS at h
 refine wp_seq ?_
 refine region_pl ?_
 refine q_ hf rfl rfl rfl (e_assign hf rfl) fun a hf => ?_
 refine pl_nil ?_
 refine then_n ?_
 refine wp_seq ?_
 refine region_pl ?_
 iterate 2 refine q_ hf rfl rfl rfl (e_move hf rfl) fun a hf => ?_
 have hl7 := slice_len (hM.dat (k := 0) rfl)
 refine q_ hf rfl rfl rfl (e_lenL hf (x := a1) rfl Tryz.underlying35) fun a hf => ?_
 obtain ⟨z8, hz9, h⟩ := bind_some h
 refine q_ hf rfl rfl rfl (e_sub hf rfl rfl hz9) fun a hf => ?_
 refine q_ hf rfl rfl rfl (e_assign hf rfl) fun a hf => ?_
 refine pl_nil ?_
 refine then_n ?_
 iterate 2 refine wp_seq ?_
 refine region_pl ?_
 refine q_ hf rfl rfl rfl (e_move hf rfl) fun a hf => ?_
 refine q_ hf rfl rfl rfl (e_lt hf (x := z8) (y := 0) rfl rfl) fun a hf => ?_
 refine pl_nil ?_
 refine then_n ?_
 rcases cond_some h with ⟨hc10, h⟩ | ⟨hc10, h⟩
 ·refine cond_t hf rfl hc10 ?_
  refine wp_seq ?_
  refine region_pl ?_
  refine q_ hf rfl rfl rfl (e_assign hf rfl) fun a hf => ?_
  refine pl_nil ?_
  refine then_n ?_
  refine wp_ret ?_
  refine then_r ?_
  obtain rfl := some_inj h
  exact leave1 hf rfl rfl ⟨rfl, hM.fin, (R64_lit rfl)⟩
 refine cond_f hf rfl hc10 ?_
 refine wp_skip ?_
 refine then_n ?_
 obtain ⟨x13, h14, h⟩ := bind_some h
 refine seq_join (fun a w => ∃ (left11 : Int), (.inl left11) = x13 ∧ Has 27 a [(1, vI (left11))] ∧ Mem C w [] [.dat (sliceRep NodeRep) a1 [vL A2 a1 c3]] ∧ R64 left11) ?_ ?_
 ·refine wp_seq ?_
  refine region_pl ?_
  refine q_ hf rfl rfl rfl (e_assign hf rfl) fun a hf => ?_
  refine pl_nil ?_
  refine then_n ?_
  refine wp_block ?_
  obtain ⟨x22, h23, h14⟩ := bind_some h14
  refine wp_loopM h23 (fun s a w => ∃ (left15 : Int) (n17 : Int), (left15, n17) = s ∧ Has 27 a [(0, vL A2 (a1) c3), (1, vI (left15)), (5, vI (n17))] ∧ Mem C w [] [.dat (sliceRep NodeRep) a1 [vL A2 a1 c3]] ∧ R64 left15 ∧ R64 n17) ?_ ?_
  ·exact ⟨z8, 0, rfl, hf.keep ⟨rfl, rfl, rfl, trivial⟩, hM.pick [0] rfl, (chk_R hz9), (R64_lit rfl)⟩
  rintro s o24 a w19 ⟨left15, n17, rfl, hf, hM, hv16, hv18⟩ h25 hd26
  replace h25 : m_laws_szNodeS_l1 a1 left15 n17 = some o24 := h25
  unfold m_laws_szNodeS_l1 at h25
  iterate 2 refine wp_seq ?_
  refine region_pl ?_
  iterate 2 refine q_ hf rfl rfl rfl (e_move hf rfl) fun a hf => ?_
  have hl27 := slice_len (hM.dat (k := 0) rfl)
  refine q_ hf rfl rfl rfl (e_lenL hf (x := a1) rfl Tryz.underlying35) fun a hf => ?_
  refine q_ hf rfl rfl rfl (e_lt hf (x := n17) (y := (a1.length : Int)) rfl rfl) fun a hf => ?_
  refine pl_nil ?_
  refine then_n ?_
  rcases cond_some h25 with ⟨hc28, h25⟩ | ⟨hc28, h25⟩
  ·refine cond_t hf rfl hc28 ?_
   refine wp_skip ?_
   refine then_n ?_
   refine wp_seq ?_
   refine wp_block ?_
   refine wp_seq ?_
   refine region_pl ?_
   iterate 2 refine q_ hf rfl rfl rfl (e_move hf rfl) fun a hf => ?_
   obtain ⟨e29, hz30, h25⟩ := bind_some h25
   obtain ⟨b34, o35, _, hA36, h31, h32, hr33, hM⟩ := hM.elem (hM.dat (k := 0) rfl) (n := 3) rfl hz30
   obtain ⟨A38, c39, rfl, hv37, hv40⟩ := NodeRep_open hr33
   have hM := hM.add (y := .dat (sliceRep intRep) e29.Next [vL A38 e29.Next c39]) hv40
   refine q_ hf rfl rfl rfl (e_indexAddr (A := A2) (b := b34) (o := o35) (xs := a1) (i := n17) hf hA36 rfl rfl Tryz.underlying35 Tryz.sizeOf106 h31 h32) fun a hf => ?_
   refine q_ hf rfl rfl rfl (e_loadA hf (us := [.bool (e29.Final), vS (e29.Letters), vL A38 (e29.Next) c39]) rfl ⟨Tryz.isAgg106, Tryz.sizeOf106⟩ rfl (hM.litSub (k := 1) (d := 0) (us := [.bool (e29.Final), vS (e29.Letters), vL A38 (e29.Next) c39]) rfl rfl rfl)) fun a hf => ?_
   refine q_ hf rfl rfl rfl (e_move hf rfl) fun a hf => ?_
   obtain ⟨y41, hz42, h25⟩ := bind_some h25
   refine pl_l hf rfl rfl rfl (w_call hf Tryz.call60 rfl (r_laws_szNode ⟨_, Sh C _ _, none_, hM.sh_lt, none_not, C.G, hM.g_lt, g_none, hM.tabs⟩ e29 hv37 _ _ (hM.dat (k := 0) rfl) left15 hv16 _ hz42) ?_)
   rintro _ w44 ⟨rfl, hM2, hv43⟩
   obtain ⟨hM, hx45, hup46⟩ := hM.back hM2
   dsimp only [List.cons_append, List.nil_append] at hM hup46
   clear hM2
   refine ⟨_, rfl, fun a hf => ?_⟩
   refine q_ hf rfl rfl rfl (e_assign hf rfl) fun a hf => ?_
   refine pl_nil ?_
   refine then_n ?_
   refine wp_seq ?_
   refine region_pl ?_
   refine q_ hf rfl rfl rfl (e_move hf rfl) fun a hf => ?_
   refine q_ hf rfl rfl rfl (e_lt hf (x := y41) (y := 0) rfl rfl) fun a hf => ?_
   refine pl_nil ?_
   refine then_n ?_
   rcases cond_some h25 with ⟨hc47, h25⟩ | ⟨hc47, h25⟩
   ·refine cond_t hf rfl hc47 ?_
    refine wp_seq ?_
    refine region_pl ?_
    refine q_ hf rfl rfl rfl (e_assign hf rfl) fun a hf => ?_
    refine pl_nil ?_
    refine then_n ?_
    refine wp_ret ?_
    refine blk_r ?_
    refine then_r ?_
    obtain rfl := some_inj h25
    obtain rfl := hd26 _ rfl
    try dsimp only at h14
    refine then_r ?_
    refine blk_r ?_
    obtain rfl := some_inj h14
    try dsimp only at h
    refine then_r ?_
    obtain rfl := some_inj h
    exact leave1 hf rfl rfl ⟨rfl, hM.fin, (R64_lit rfl)⟩
   refine cond_f hf rfl hc47 ?_
   refine wp_skip ?_
   refine blk_n ?_
   refine then_n ?_
   refine region_pl ?_
   refine q_ hf rfl rfl rfl (e_move hf rfl) fun a hf => ?_
   obtain ⟨z48, hz49, h25⟩ := bind_some h25
   refine q_ hf rfl rfl rfl (e_add hf rfl rfl hz49) fun a hf => ?_
   refine q_ hf rfl rfl rfl (e_assign hf rfl) fun a hf => ?_
   refine pl_nil ?_
   obtain rfl := some_inj h25
   refine then_n ⟨_, rfl, ?_⟩
   exact ⟨y41, z48, rfl, hf.keep ⟨rfl, rfl, rfl, trivial⟩, hM.pick [2] rfl, hv43, (chk_R hz49)⟩
  refine cond_f hf rfl hc28 ?_
  refine wp_exit ?_
  refine then_x ?_
  obtain rfl := some_inj h25
  obtain rfl := hd26 _ rfl
  try dsimp only at h14
  refine then_x ?_
  refine exit_hit ?_
  obtain rfl := some_inj h14
  refine then_n ?_
  exact ⟨left15, rfl, hf.keep ⟨rfl, trivial⟩, hM.pick [0] rfl, hv16⟩
 rintro a w56 ⟨left11, rfl, hf, hM, hv12⟩
 try dsimp only at h
 refine wp_seq ?_
 refine region_pl ?_
 refine q_ hf rfl rfl rfl (e_move hf rfl) fun a hf => ?_
 refine q_ hf rfl rfl rfl (e_assign hf rfl) fun a hf => ?_
 refine pl_nil ?_
 refine then_n ?_
 refine wp_ret ?_
 obtain rfl := some_inj h
 exact leave1 hf rfl rfl ⟨rfl, hM.fin, hv12⟩
theorem r_laws_szDawg (C : Cx) (a1 : Dawg) (A2 : Option Addr) (c3 : Nat) (hp4 : (sliceRep NodeRep).R C.w0 C.S0 a1.Nodes [vL A2 a1.Nodes c3]) (left5 : Int) (hp6 : R64 left5) (r : Int) (h : m_laws_szDawg a1 left5 = some r) :
    Calls Tryz.prog 16 #[.agg #[vL A2 (a1.Nodes) c3], vI (left5)] C.w0 fun e w => e = .returned (vI (r)) ∧ Mem C w [] [] ∧ R64 r := by
 have hM := Mem.begin C [.dat (sliceRep NodeRep) a1.Nodes [vL A2 a1.Nodes c3]] ⟨hp4, trivial⟩
 refine enter Tryz.func16 rfl Tryz.ntmps16 rfl fun a hf => ?_
 unfold m_laws_szDawg at h
 refine wp_seq ?_
 refine region_pl ?_
 refine pl_l hf rfl rfl rfl (w_box hf hM (cs := [vL A2 (a1.Nodes) c3]) rfl rfl fun b7 w8 hx9 hM a hf => ?_)
 refine q_ hf rfl rfl rfl (e_assign hf rfl) fun a hf => ?_
 refine pl_nil ?_
 refine then_n ?_
 refine wp_seq ?_
 refine region_pl ?_
 refine q_ hf rfl rfl rfl (e_field hf rfl Tryz.underlying37 rfl Tryz.sizeOf35 (o' := 0) rfl) fun a hf => ?_
 refine q_ hf rfl rfl rfl (e_load1 hf rfl Tryz.isAgg35 (hM.boxCell (k := 0) rfl rfl)) fun a hf => ?_
 refine q_ hf rfl rfl rfl (e_move hf rfl) fun a hf => ?_
 obtain ⟨y11, hz12, h⟩ := bind_some h
 refine pl_l hf rfl rfl rfl (w_call hf Tryz.call35 rfl (r_laws_szNodeS ⟨_, Sh C _ _, none_, hM.sh_lt, none_not, C.G, hM.g_lt, g_none, hM.tabs⟩ a1.Nodes _ _ (hM.dat (k := 0) rfl) left5 hp6 _ hz12) ?_)
 rintro _ w14 ⟨rfl, hM2, hv13⟩
 obtain ⟨hM, hx15, hup16⟩ := hM.back hM2
 dsimp only [List.cons_append, List.nil_append] at hM hup16
 clear hM2
 refine ⟨_, rfl, fun a hf => ?_⟩
 refine q_ hf rfl rfl rfl (e_assign hf rfl) fun a hf => ?_
 refine pl_nil ?_
 refine then_n ?_
 iterate 2 refine wp_seq ?_
 refine region_pl ?_
 refine q_ hf rfl rfl rfl (e_move hf rfl) fun a hf => ?_
 refine q_ hf rfl rfl rfl (e_lt hf (x := y11) (y := 0) rfl rfl) fun a hf => ?_
 refine pl_nil ?_
 refine then_n ?_
 rcases cond_some h with ⟨hc17, h⟩ | ⟨hc17, h⟩
 ·refine cond_t hf rfl hc17 ?_
  refine wp_seq ?_
  refine region_pl ?_
  refine q_ hf rfl rfl rfl (e_assign hf rfl) fun a hf => ?_
  refine pl_nil ?_
  refine then_n ?_
  refine wp_ret ?_
  refine then_r ?_
  obtain rfl := some_inj h
  have hM := hM.outs (own' := []) 0 rfl
  exact leave1 hf rfl rfl ⟨rfl, hM.fin, (R64_lit rfl)⟩
 refine cond_f hf rfl hc17 ?_
 refine wp_skip ?_
 refine then_n ?_
 refine wp_seq ?_
 refine region_pl ?_
 refine q_ hf rfl rfl rfl (e_move hf rfl) fun a hf => ?_
 refine q_ hf rfl rfl rfl (e_assign hf rfl) fun a hf => ?_
 refine pl_nil ?_
 refine then_n ?_
 refine wp_ret ?_
 obtain rfl := some_inj h
 have hM := hM.outs (own' := []) 0 rfl
 exact leave1 hf rfl rfl ⟨rfl, hM.fin, hv13⟩
theorem r_laws_toInt64S (C : Cx) (a1 : (List Int)) (A2 : Option Addr) (c3 : Nat) (hp4 : (sliceRep intRep).R C.w0 C.S0 a1 [vL A2 a1 c3]) (r : (List Int)) (h : m_laws_toInt64S a1 = some r) :
    Calls Tryz.prog 97 #[vL A2 (a1) c3] C.w0 fun e w => ∃ (A_1 : Option Addr), ∃ (c_1 : Nat), e = .returned (vL A_1 (r) c_1) ∧ Mem C w [.row intRep A_1 c_1 2 r true] [] := by
 have hM := Mem.begin C [.dat (sliceRep intRep) a1 [vL A2 a1 c3]] ⟨hp4, trivial⟩
 refine enter Tryz.func97 rfl Tryz.ntmps97 rfl fun a hf => ?_
 unfold m_laws_toInt64S at h
 refine wp_seq ?_
 refine region_pl ?_
 refine q_ hf rfl rfl rfl (e_assign hf rfl) fun a hf => ?_
 refine pl_nil ?_
 refine then_n ?_
 refine wp_seq ?_
 refine region_pl ?_
 refine q_ hf rfl rfl rfl (e_move hf rfl) fun a hf => ?_
 have hl5 := slice_len (hM.dat (k := 0) rfl)
 refine q_ hf rfl rfl rfl (e_lenL hf (x := a1) rfl Tryz.underlying77) fun a hf => ?_
 obtain ⟨xs6, hz7, h⟩ := bind_some h
 refine pl_l hf rfl rfl rfl (w_make hf hM (K := intRep) Tryz.underlying77 ei_2 Tryz.zeroValue2 rfl rfl rfl ⟨rfl, (R64_lit rfl)⟩ hz7 fun b8 w9 hx10 hM a hf => ?_)
 refine q_ hf rfl rfl rfl (e_assign hf rfl) fun a hf => ?_
 refine pl_nil ?_
 refine then_n ?_
 obtain ⟨x12, h13, h⟩ := bind_some h
 refine seq_join (fun a w => ∃ (xs11 : (List Int)), xs11 = x12 ∧ Has 22 a [(3, vL (some ⟨b8, 0, none⟩) (xs11) (((a1.length : Int) : Int).toNat))] ∧ Mem C w [.row intRep (some ⟨b8, 0, none⟩) (((a1.length : Int) : Int).toNat) 2 xs11 true] [.dat (sliceRep intRep) a1 [vL A2 a1 c3]]) ?_ ?_
 ·refine wp_seq ?_
  refine region_pl ?_
  refine q_ hf rfl rfl rfl (e_assign hf rfl) fun a hf => ?_
  refine pl_nil ?_
  refine then_n ?_
  refine wp_block ?_
  obtain ⟨x19, h20, h13⟩ := bind_some h13
  refine wp_loopM h20 (fun s a w => ∃ (xs14 : (List Int)) (n15 : Int), (xs14, n15) = s ∧ Has 22 a [(0, vL A2 (a1) c3), (3, vL (some ⟨b8, 0, none⟩) (xs14) (((a1.length : Int) : Int).toNat)), (4, vI (n15))] ∧ Mem C w [.row intRep (some ⟨b8, 0, none⟩) (((a1.length : Int) : Int).toNat) 2 xs14 true] [.dat (sliceRep intRep) a1 [vL A2 a1 c3]] ∧ R64 n15) ?_ ?_
  ·exact ⟨xs6, 0, rfl, hf.keep ⟨rfl, rfl, rfl, trivial⟩, hM.pick [0] rfl, (R64_lit rfl)⟩
  rintro s o21 a w17 ⟨xs14, n15, rfl, hf, hM, hv16⟩ h22 hd23
  replace h22 : m_laws_toInt64S_l1 a1 xs14 n15 = some o21 := h22
  unfold m_laws_toInt64S_l1 at h22
  iterate 2 refine wp_seq ?_
  refine region_pl ?_
  iterate 2 refine q_ hf rfl rfl rfl (e_move hf rfl) fun a hf => ?_
  have hl24 := slice_len (hM.dat (k := 0) rfl)
  refine q_ hf rfl rfl rfl (e_lenL hf (x := a1) rfl Tryz.underlying77) fun a hf => ?_
  refine q_ hf rfl rfl rfl (e_lt hf (x := n15) (y := (a1.length : Int)) rfl rfl) fun a hf => ?_
  refine pl_nil ?_
  refine then_n ?_
  rcases cond_some h22 with ⟨hc25, h22⟩ | ⟨hc25, h22⟩
  ·refine cond_t hf rfl hc25 ?_
   refine wp_skip ?_
   refine then_n ?_
   refine wp_seq ?_
   refine wp_block ?_
   refine region_pl ?_
   iterate 4 refine q_ hf rfl rfl rfl (e_move hf rfl) fun a hf => ?_
   obtain ⟨e26, hz27, h22⟩ := bind_some h22
   obtain ⟨b31, o32, _, hA33, h28, h29, hr30, hM⟩ := hM.elem (hM.dat (k := 0) rfl) (n := 1) rfl hz27
   obtain ⟨rfl, hv34⟩ := hr30
   refine q_ hf rfl rfl rfl (e_indexAddr (A := A2) (b := b31) (o := o32) (xs := a1) (i := n15) hf hA33 rfl rfl Tryz.underlying77 Tryz.sizeOf2 h28 h29) fun a hf => ?_
   refine q_ hf rfl rfl rfl (e_load1 hf rfl Tryz.isAgg2 (hM.litCell (k := 0) (j := 0) rfl rfl rfl)) fun a hf => ?_
   obtain ⟨e35, hz36, h22⟩ := bind_some h22
   obtain ⟨_, h37, h38, hr39, hcell40⟩ := hM.rowElem' (k := 0) rfl (n := 1) rfl hz36
   obtain ⟨rfl, hv41⟩ := hr39
   refine q_ hf rfl rfl rfl (e_indexAddr (A := (some ⟨b8, 0, none⟩)) (b := b8) (o := 0) (xs := xs14) (i := n15) hf rfl rfl rfl Tryz.underlying77 Tryz.sizeOf2 h37 h38) fun a hf => ?_
   obtain ⟨xs43, hz44, h22⟩ := bind_some h22
   refine pl_0 hf rfl rfl (w_storeElem hf hM (x := e26) (row := [vI (e26)]) (i := n15) rfl rfl rfl rfl (k := 0) rfl rfl Tryz.sizeOf2 ⟨rfl, hv34⟩ hz44 fun w42 hM => ?_)
   dsimp only [List.set] at hM
   have hf := hf.alter (d := 3) (v := vL (some ⟨b8, 0, none⟩) (xs43) (((a1.length : Int) : Int).toNat)) rfl (vL_len (setL_len hz44))
   have hf := hf.alter (d := 14) (v := vL (some ⟨b8, 0, none⟩) (xs43) (((a1.length : Int) : Int).toNat)) rfl (vL_len (setL_len hz44))
   refine pl_nil ?_
   refine blk_n ?_
   refine then_n ?_
   refine region_pl ?_
   refine q_ hf rfl rfl rfl (e_move hf rfl) fun a hf => ?_
   obtain ⟨z47, hz48, h22⟩ := bind_some h22
   refine q_ hf rfl rfl rfl (e_add hf rfl rfl hz48) fun a hf => ?_
   refine q_ hf rfl rfl rfl (e_assign hf rfl) fun a hf => ?_
   refine pl_nil ?_
   obtain rfl := some_inj h22
   refine then_n ⟨_, rfl, ?_⟩
   exact ⟨xs43, z47, rfl, hf.keep ⟨rfl, rfl, rfl, trivial⟩, hM.pick [1] rfl, (chk_R hz48)⟩
  refine cond_f hf rfl hc25 ?_
  refine wp_exit ?_
  refine then_x ?_
  obtain rfl := some_inj h22
  obtain rfl := hd23 _ rfl
  try dsimp only at h13
  refine then_x ?_
  refine exit_hit ?_
  obtain rfl := some_inj h13
  refine then_n ?_
  exact ⟨xs14, rfl, hf.keep ⟨rfl, trivial⟩, hM.pick [0] rfl⟩
 rintro a w54 ⟨xs11, rfl, hf, hM⟩
 try dsimp only at h
 refine wp_seq ?_
 refine region_pl ?_
 refine q_ hf rfl rfl rfl (e_move hf rfl) fun a hf => ?_
 refine q_ hf rfl rfl rfl (e_assign hf rfl) fun a hf => ?_
 refine pl_nil ?_
 refine then_n ?_
 refine wp_ret ?_
 obtain rfl := some_inj h
 exact leave1 hf rfl rfl ⟨(some ⟨b8, 0, none⟩), (((a1.length : Int) : Int).toNat), rfl, hM.fin⟩
theorem r_laws_toNode (C : Cx) (a1 : Node) (hp2 : a1.Letters.length ≤ maxLen) (A3 : Option Addr) (c4 : Nat) (hp5 : (sliceRep intRep).R C.w0 C.S0 a1.Next [vL A3 a1.Next c4]) (r : Node) (h : m_laws_toNode a1 = some r) :
    Calls Tryz.prog 62 #[.agg #[.bool (a1.Final), vS (a1.Letters), vL A3 (a1.Next) c4]] C.w0 fun e w => ∃ (A_1 : Option Addr), ∃ (c_1 : Nat), e = .returned (.agg #[.bool (r.Final), vS (r.Letters), vL A_1 (r.Next) c_1]) ∧ Mem C w [.row intRep A_1 c_1 2 r.Next true] [] ∧ r.Letters.length ≤ maxLen := by
 have hM := Mem.begin C [.dat (sliceRep intRep) a1.Next [vL A3 a1.Next c4]] ⟨hp5, trivial⟩
 refine enter Tryz.func62 rfl Tryz.ntmps62 rfl fun a hf => ?_
 unfold m_laws_toNode at h
 refine wp_seq ?_
 refine region_pl ?_
 refine pl_l hf rfl rfl rfl (w_box hf hM (cs := [.bool (a1.Final), vS (a1.Letters), vL A3 (a1.Next) c4]) rfl rfl fun b6 w7 hx8 hM a hf => ?_)
 refine pl_l hf rfl rfl rfl (w_alloc hM (cs := [.bool (false), vS (([] : Str)), vL none (([] : (List Int))) 0]) Tryz.zeroValue79 rfl fun b10 w11 hx12 hM a hf => ?_)
 refine pl_nil ?_
 refine then_n ?_
 refine wp_seq ?_
 refine region_pl ?_
 refine pl_l hf rfl rfl rfl (w_alloc hM (cs := [.bool (false), vS (([] : Str)), vL none (([] : (List Int))) 0]) Tryz.zeroValue79 rfl fun b14 w15 hx16 hM a hf => ?_)
 refine pl_nil ?_
 refine then_n ?_
 refine wp_seq ?_
 refine region_pl ?_
 refine q_ hf rfl rfl rfl (e_field hf rfl Tryz.underlying106 rfl Tryz.sizeOf4 (o' := 0) rfl) fun a hf => ?_
 refine q_ hf rfl rfl rfl (e_load1 hf rfl Tryz.isAgg4 (hM.boxCell (k := 2) rfl rfl)) fun a hf => ?_
 refine q_ hf rfl rfl rfl (e_field hf rfl Tryz.underlying79 rfl Tryz.sizeOf4 (o' := 0) rfl) fun a hf => ?_
 refine pl_0 hf rfl rfl (w_store hf hM (us := [.bool (a1.Final)]) (cs' := [.bool (a1.Final), vS (([] : Str)), vL none (([] : (List Int))) 0]) rfl rfl (k := 0) rfl rfl Tryz.sizeOf4 rfl rfl rfl fun w18 hM => ?_)
 dsimp only [List.set] at hM
 refine pl_nil ?_
 refine then_n ?_
 refine wp_seq ?_
 refine region_pl ?_
 refine q_ hf rfl rfl rfl (e_field hf rfl Tryz.underlying106 rfl Tryz.sizeOf9 (o' := 1) rfl) fun a hf => ?_
 refine q_ hf rfl rfl rfl (e_load1 hf rfl Tryz.isAgg9 (hM.boxCell (k := 2) rfl rfl)) fun a hf => ?_
 refine q_ hf rfl rfl rfl (e_field hf rfl Tryz.underlying79 rfl Tryz.sizeOf9 (o' := 1) rfl) fun a hf => ?_
 refine pl_0 hf rfl rfl (w_store hf hM (us := [vS (a1.Letters)]) (cs' := [.bool (a1.Final), vS (a1.Letters), vL none (([] : (List Int))) 0]) rfl rfl (k := 0) rfl rfl Tryz.sizeOf9 rfl rfl rfl fun w21 hM => ?_)
 dsimp only [List.set] at hM
 refine pl_nil ?_
 refine then_n ?_
 refine wp_seq ?_
 refine region_pl ?_
 refine q_ hf rfl rfl rfl (e_field hf rfl Tryz.underlying106 rfl Tryz.sizeOf77 (o' := 2) rfl) fun a hf => ?_
 refine q_ hf rfl rfl rfl (e_load1 hf rfl Tryz.isAgg77 (hM.boxCell (k := 2) rfl rfl)) fun a hf => ?_
 obtain ⟨y24, hz25, h⟩ := bind_some h
 refine pl_l hf rfl rfl rfl (w_call hf Tryz.call97 rfl (r_laws_toInt64S ⟨_, Sh C _ _, none_, hM.sh_lt, none_not, C.G, hM.g_lt, g_none, hM.tabs⟩ a1.Next _ _ (hM.dat (k := 0) rfl) _ hz25) ?_)
 rintro _ w28 ⟨A26, c27, rfl, hM2⟩
 obtain ⟨hM, hx29, hup30⟩ := hM.back hM2
 dsimp only [List.cons_append, List.nil_append] at hM hup30
 clear hM2
 refine ⟨_, rfl, fun a hf => ?_⟩
 refine q_ hf rfl rfl rfl (e_field hf rfl Tryz.underlying79 rfl Tryz.sizeOf77 (o' := 2) rfl) fun a hf => ?_
 refine pl_0 hf rfl rfl (w_store hf hM (us := [vL A26 (y24) c27]) (cs' := [.bool (a1.Final), vS (a1.Letters), vL A26 (y24) c27]) rfl rfl (k := 1) rfl rfl Tryz.sizeOf77 rfl rfl rfl fun w31 hM => ?_)
 dsimp only [List.set] at hM
 refine pl_nil ?_
 refine then_n ?_
 refine wp_seq ?_
 refine region_pl ?_
 refine q_ hf rfl rfl rfl (e_loadA hf (us := [.bool (a1.Final), vS (a1.Letters), vL A26 (y24) c27]) rfl ⟨Tryz.isAgg79, Tryz.sizeOf79⟩ rfl (hM.boxSub (k := 1) (us := [.bool (a1.Final), vS (a1.Letters), vL A26 (y24) c27]) (o := 0) rfl rfl)) fun a hf => ?_
 refine pl_0 hf rfl rfl (w_store hf hM (us := [.bool (a1.Final), vS (a1.Letters), vL A26 (y24) c27]) (cs' := [.bool (a1.Final), vS (a1.Letters), vL A26 (y24) c27]) rfl rfl (k := 2) rfl rfl Tryz.sizeOf79 rfl rfl rfl fun w34 hM => ?_)
 dsimp only [List.set] at hM
 refine pl_nil ?_
 refine then_n ?_
 refine wp_ret ?_
 obtain rfl := some_inj h
 have hres37 := leaveV1 (P := Tryz.prog) (w := w34) Tryz.results62 (res_agg hf rfl ⟨Tryz.isAgg79, Tryz.sizeOf79⟩ (us := [.bool (a1.Final), vS (a1.Letters), vL A26 (y24) c27]) rfl (hM.boxSub (k := 2) (o := 0) rfl rfl))
 have hM := hM.outs (own' := [.row intRep A26 c27 2 y24 true]) 1 rfl
 exact bodyPost_ret hres37 hf.defers ⟨A26, c27, rfl, hM.fin, hp2⟩
theorem r_laws_toNodeS (C : Cx) (a1 : (List Node)) (A2 : Option Addr) (c3 : Nat) (hp4 : (sliceRep NodeRep).R C.w0 C.S0 a1 [vL A2 a1 c3]) (r : (List Node)) (h : m_laws_toNodeS a1 = some r) :
    Calls Tryz.prog 39 #[vL A2 (a1) c3] C.w0 fun e w => ∃ (A_1 : Option Addr), ∃ (c_1 : Nat), ∃ (ws_1 : List NodeW), e = .returned (vL A_1 (r) c_1) ∧ Mem C w ((nestW A_1 c_1 79 2 ws_1)) [] ∧ ws_1.map NodeW.to = r := by
 have hM := Mem.begin C [.dat (sliceRep NodeRep) a1 [vL A2 a1 c3]] ⟨hp4, trivial⟩
 refine enter Tryz.func39 rfl Tryz.ntmps39 rfl fun a hf => ?_
 unfold m_laws_toNodeS at h
 refine wp_seq ?_
 refine region_pl ?_
 refine q_ hf rfl rfl rfl (e_assign hf rfl) fun a hf => ?_
 refine pl_nil ?_
 refine then_n ?_
 refine wp_seq ?_
 refine region_pl ?_
 refine q_ hf rfl rfl rfl (e_move hf rfl) fun a hf => ?_
 have hl5 := slice_len (hM.dat (k := 0) rfl)
 refine q_ hf rfl rfl rfl (e_lenL hf (x := a1) rfl Tryz.underlying35) fun a hf => ?_
 obtain ⟨xs6, hz7, h⟩ := bind_some h
 obtain ⟨ws6, hz7w, hw6, hr6⟩ := makeL_to hz7
 refine pl_l hf rfl rfl rfl (w_make hf hM (K := NodeWRep) Tryz.underlying24 ei_79 Tryz.zeroValue79 rfl rfl rfl ⟨rfl, lit_len rfl⟩ hz7w fun b8 w9 hx10 hM a hf => ?_)
 refine q_ hf rfl rfl rfl (e_assign hf rfl) fun a hf => ?_
 refine pl_nil ?_
 refine then_n ?_
 have hM := hM.nilRows 2 xs6.length
 rw [← hr6] at hM
 have hM : Mem C w9 (.row NodeWRep (some ⟨b8, 0, none⟩) (((a1.length : Int) : Int).toNat) 79 ws6 true :: nestO 2 ws6) _ := hM
 have hlw : vL (some ⟨b8, 0, none⟩) ws6 (((a1.length : Int) : Int).toNat) = vL (some ⟨b8, 0, none⟩) xs6 (((a1.length : Int) : Int).toNat) := by unfold vL; rw [← hw6, List.length_map]
 rw [hlw] at hf
 obtain ⟨x12, h13, h⟩ := bind_some h
 refine seq_join (fun a w => ∃ (xs11 : (List Node)) (ws : List NodeW), xs11 = x12 ∧ ws.map NodeW.to = xs11 ∧ Has 23 a [(3, vL (some ⟨b8, 0, none⟩) (xs11) (((a1.length : Int) : Int).toNat))] ∧ Mem C w (.row NodeWRep (some ⟨b8, 0, none⟩) (((a1.length : Int) : Int).toNat) 79 ws true :: nestO 2 ws) [.dat (sliceRep NodeRep) a1 [vL A2 a1 c3]]) ?_ ?_
 ·refine wp_seq ?_
  refine region_pl ?_
  refine q_ hf rfl rfl rfl (e_assign hf rfl) fun a hf => ?_
  refine pl_nil ?_
  refine then_n ?_
  refine wp_block ?_
  obtain ⟨x19, h20, h13⟩ := bind_some h13
  refine wp_loopM h20 (fun s a w => ∃ (xs14 : (List Node)) (ws : List NodeW) (n15 : Int), (xs14, n15) = s ∧ ws.map NodeW.to = xs14 ∧ Has 23 a [(0, vL A2 (a1) c3), (3, vL (some ⟨b8, 0, none⟩) (xs14) (((a1.length : Int) : Int).toNat)), (4, vI (n15))] ∧ Mem C w (.row NodeWRep (some ⟨b8, 0, none⟩) (((a1.length : Int) : Int).toNat) 79 ws true :: nestO 2 ws) [.dat (sliceRep NodeRep) a1 [vL A2 a1 c3]] ∧ R64 n15) ?_ ?_
  ·exact ⟨xs6, ws6, 0, rfl, hw6, hf.keep ⟨rfl, rfl, rfl, trivial⟩, hM.pick [0] rfl, (R64_lit rfl)⟩
  rintro s o21 a w17 ⟨xs14, ws, n15, rfl, hw14, hf, hM, hv16⟩ h22 hd23
  replace h22 : m_laws_toNodeS_l1 a1 xs14 n15 = some o21 := h22
  unfold m_laws_toNodeS_l1 at h22
  iterate 2 refine wp_seq ?_
  refine region_pl ?_
  iterate 2 refine q_ hf rfl rfl rfl (e_move hf rfl) fun a hf => ?_
  have hl24 := slice_len (hM.dat (k := 0) rfl)
  refine q_ hf rfl rfl rfl (e_lenL hf (x := a1) rfl Tryz.underlying35) fun a hf => ?_
  refine q_ hf rfl rfl rfl (e_lt hf (x := n15) (y := (a1.length : Int)) rfl rfl) fun a hf => ?_
  refine pl_nil ?_
  refine then_n ?_
  rcases cond_some h22 with ⟨hc25, h22⟩ | ⟨hc25, h22⟩
  ·refine cond_t hf rfl hc25 ?_
   refine wp_skip ?_
   refine then_n ?_
   refine wp_seq ?_
   refine wp_block ?_
   refine region_pl ?_
   iterate 4 refine q_ hf rfl rfl rfl (e_move hf rfl) fun a hf => ?_
   obtain ⟨e26, hz27, h22⟩ := bind_some h22
   obtain ⟨b31, o32, _, hA33, h28, h29, hr30, hM⟩ := hM.elem (hM.dat (k := 0) rfl) (n := 3) rfl hz27
   obtain ⟨A35, c36, rfl, hv34, hv37⟩ := NodeRep_open hr30
   have hM := hM.add (y := .dat (sliceRep intRep) e26.Next [vL A35 e26.Next c36]) hv37
   refine q_ hf rfl rfl rfl (e_indexAddr (A := A2) (b := b31) (o := o32) (xs := a1) (i := n15) hf hA33 rfl rfl Tryz.underlying35 Tryz.sizeOf106 h28 h29) fun a hf => ?_
   refine q_ hf rfl rfl rfl (e_loadA hf (us := [.bool (e26.Final), vS (e26.Letters), vL A35 (e26.Next) c36]) rfl ⟨Tryz.isAgg106, Tryz.sizeOf106⟩ rfl (hM.litSub (k := 1) (d := 0) (us := [.bool (e26.Final), vS (e26.Letters), vL A35 (e26.Next) c36]) rfl rfl rfl)) fun a hf => ?_
   obtain ⟨y38, hz39, h22⟩ := bind_some h22
   refine pl_l hf rfl rfl rfl (w_call hf Tryz.call62 rfl (r_laws_toNode ⟨_, Sh C _ _, none_, hM.sh_lt, none_not, C.G, hM.g_lt, g_none, hM.tabs⟩ e26 hv34 _ _ (hM.dat (k := 0) rfl) _ hz39) ?_)
   rintro _ w43 ⟨A41, c42, rfl, hM2, hv40⟩
   obtain ⟨hM, hx44, hup45⟩ := hM.back hM2
   dsimp only [List.cons_append, List.nil_append] at hM hup45
   clear hM2
   refine ⟨_, rfl, fun a hf => ?_⟩
   obtain ⟨e46, hz47, h22⟩ := bind_some h22
   obtain ⟨A53, c54, hzx⟩ := nest_get hw14 hz47
   obtain ⟨_, h48, h49, hr50, hcell51⟩ := hM.rowElem' (k := 1) rfl (n := 3) rfl hzx
   have hlx : ws.length = xs14.length := by rw [← hw14, List.length_map]
   refine q_ hf rfl rfl rfl (e_indexAddr (A := (some ⟨b8, 0, none⟩)) (b := b8) (o := 0) (xs := xs14) (i := n15) hf rfl rfl rfl Tryz.underlying24 Tryz.sizeOf79 h48 (by rw [← hlx]; exact h49)) fun a hf => ?_
   obtain ⟨xs57, hz58, h22⟩ := bind_some h22
   refine pl_0 hf rfl rfl (w_storeElem hf hM (K := NodeWRep) (x := (⟨y38.Final, y38.Letters, A41, c42, y38.Next⟩ : NodeW)) (row := [.bool (y38.Final), vS (y38.Letters), vL A41 (y38.Next) c42]) (i := n15) rfl rfl rfl rfl (k := 1) rfl rfl Tryz.sizeOf79 ⟨rfl, hv40⟩ (setL_nest hzx) fun w56 hM => ?_)
   have hM := Mem.putNest (E := 2) (ws := ws) (i := n15.toNat) hM (by omega)
   rw [nestO_set (E := 2) (ws := ws) (i := n15.toNat) (⟨y38.Final, y38.Letters, A41, c42, y38.Next⟩ : NodeW)] at hM
   have hf := hf.alter (d := 3) (v := vL (some ⟨b8, 0, none⟩) (xs57) (((a1.length : Int) : Int).toNat)) rfl (vL_len (setL_len hz58))
   refine pl_nil ?_
   refine blk_n ?_
   refine then_n ?_
   refine region_pl ?_
   refine q_ hf rfl rfl rfl (e_move hf rfl) fun a hf => ?_
   obtain ⟨z59, hz60, h22⟩ := bind_some h22
   refine q_ hf rfl rfl rfl (e_add hf rfl rfl hz60) fun a hf => ?_
   refine q_ hf rfl rfl rfl (e_assign hf rfl) fun a hf => ?_
   refine pl_nil ?_
   obtain rfl := some_inj h22
   refine then_n ⟨_, rfl, ?_⟩
   exact ⟨xs57, _, z59, rfl, nest_to hw14 hz58 rfl, hf.keep ⟨rfl, rfl, rfl, trivial⟩, hM.pick [2] rfl, (chk_R hz60)⟩
  refine cond_f hf rfl hc25 ?_
  refine wp_exit ?_
  refine then_x ?_
  obtain rfl := some_inj h22
  obtain rfl := hd23 _ rfl
  try dsimp only at h13
  refine then_x ?_
  refine exit_hit ?_
  obtain rfl := some_inj h13
  refine then_n ?_
  exact ⟨xs14, ws, rfl, hw14, hf.keep ⟨rfl, trivial⟩, hM.pick [0] rfl⟩
 rintro a w66 ⟨xs11, ws, rfl, hw11, hf, hM⟩
 try dsimp only at h
 refine wp_seq ?_
 refine region_pl ?_
 refine q_ hf rfl rfl rfl (e_move hf rfl) fun a hf => ?_
 refine q_ hf rfl rfl rfl (e_assign hf rfl) fun a hf => ?_
 refine pl_nil ?_
 refine then_n ?_
 refine wp_ret ?_
 obtain rfl := some_inj h
 exact leave1 hf rfl rfl ⟨(some ⟨b8, 0, none⟩), (((a1.length : Int) : Int).toNat), ws, rfl, hM.fin, hw11⟩
theorem r_laws_toDawg (C : Cx) (a1 : Dawg) (A2 : Option Addr) (c3 : Nat) (hp4 : (sliceRep NodeRep).R C.w0 C.S0 a1.Nodes [vL A2 a1.Nodes c3]) (r : Dawg) (h : m_laws_toDawg a1 = some r) :
    Calls Tryz.prog 18 #[.agg #[vL A2 (a1.Nodes) c3]] C.w0 fun e w => ∃ (A_1 : Option Addr), ∃ (c_1 : Nat), ∃ (ws_1 : List NodeW), e = .returned (.agg #[vL A_1 (r.Nodes) c_1]) ∧ Mem C w ((nestW A_1 c_1 79 2 ws_1)) [] ∧ ws_1.map NodeW.to = r.Nodes := by
 have hM := Mem.begin C [.dat (sliceRep NodeRep) a1.Nodes [vL A2 a1.Nodes c3]] ⟨hp4, trivial⟩
 refine enter Tryz.func18 rfl Tryz.ntmps18 rfl fun a hf => ?_
 unfold m_laws_toDawg at h
 refine wp_seq ?_
 refine region_pl ?_
 refine pl_l hf rfl rfl rfl (w_box hf hM (cs := [vL A2 (a1.Nodes) c3]) rfl rfl fun b5 w6 hx7 hM a hf => ?_)
 refine pl_l hf rfl rfl rfl (w_alloc hM (cs := [vL none (([] : (List Node))) 0]) Tryz.zeroValue26 rfl fun b9 w10 hx11 hM a hf => ?_)
 refine pl_nil ?_
 refine then_n ?_
 refine wp_seq ?_
 refine region_pl ?_
 refine pl_l hf rfl rfl rfl (w_alloc hM (cs := [vL none (([] : (List Node))) 0]) Tryz.zeroValue26 rfl fun b13 w14 hx15 hM a hf => ?_)
 refine pl_nil ?_
 refine then_n ?_
 refine wp_seq ?_
 refine region_pl ?_
 refine q_ hf rfl rfl rfl (e_field hf rfl Tryz.underlying37 rfl Tryz.sizeOf35 (o' := 0) rfl) fun a hf => ?_
 refine q_ hf rfl rfl rfl (e_load1 hf rfl Tryz.isAgg35 (hM.boxCell (k := 2) rfl rfl)) fun a hf => ?_
 obtain ⟨y17, hz18, h⟩ := bind_some h
 refine pl_l hf rfl rfl rfl (w_call hf Tryz.call39 rfl (r_laws_toNodeS ⟨_, Sh C _ _, none_, hM.sh_lt, none_not, C.G, hM.g_lt, g_none, hM.tabs⟩ a1.Nodes _ _ (hM.dat (k := 0) rfl) _ hz18) ?_)
 rintro _ w23 ⟨A19, c20, ws21, rfl, hM2, hw22⟩
 obtain ⟨hM, hx24, hup25⟩ := hM.back hM2
 try dsimp only [List.cons_append, List.nil_append] at hM hup25
 clear hM2
 have hM : Mem C _ (.box b13 [vL none (([] : (List Node))) 0] 26 :: .box b9 [vL none (([] : (List Node))) 0] 26 :: .box b5 [vL A2 (a1.Nodes) c3] 37 :: (nestW A19 c20 79 2 ws21)) _ := Mem.perm (own := (nestW A19 c20 79 2 ws21) ++ [.box b13 [vL none (([] : (List Node))) 0] 26, .box b9 [vL none (([] : (List Node))) 0] 26, .box b5 [vL A2 (a1.Nodes) c3] 37]) (own' := ([] ++ [.box b13 [vL none (([] : (List Node))) 0] 26, .box b9 [vL none (([] : (List Node))) 0] 26, .box b5 [vL A2 (a1.Nodes) c3] 37]) ++ (nestW A19 c20 79 2 ws21)) hM (fun a => by simp only [List.count_append, List.count_nil]; omega)
 refine ⟨_, rfl, fun a hf => ?_⟩
 refine q_ hf rfl rfl rfl (e_field hf rfl Tryz.underlying26 rfl Tryz.sizeOf24 (o' := 0) rfl) fun a hf => ?_
 refine pl_0 hf rfl rfl (w_store hf hM (us := [vL A19 (y17) c20]) (cs' := [vL A19 (y17) c20]) rfl rfl (k := 0) rfl rfl Tryz.sizeOf24 rfl rfl rfl fun w26 hM => ?_)
 dsimp only [List.set] at hM
 refine pl_nil ?_
 refine then_n ?_
 refine wp_seq ?_
 refine region_pl ?_
 refine q_ hf rfl rfl rfl (e_loadA hf (us := [vL A19 (y17) c20]) rfl ⟨Tryz.isAgg26, Tryz.sizeOf26⟩ rfl (hM.boxSub (k := 0) (us := [vL A19 (y17) c20]) (o := 0) rfl rfl)) fun a hf => ?_
 refine pl_0 hf rfl rfl (w_store hf hM (us := [vL A19 (y17) c20]) (cs' := [vL A19 (y17) c20]) rfl rfl (k := 1) rfl rfl Tryz.sizeOf26 rfl rfl rfl fun w29 hM => ?_)
 dsimp only [List.set] at hM
 refine pl_nil ?_
 refine then_n ?_
 refine wp_ret ?_
 obtain rfl := some_inj h
 have hres32 := leaveV1 (P := Tryz.prog) (w := w29) Tryz.results18 (res_agg hf rfl ⟨Tryz.isAgg26, Tryz.sizeOf26⟩ (us := [vL A19 (y17) c20]) rfl (hM.boxSub (k := 1) (o := 0) rfl rfl))
 have hM : Mem C _ ((nestW A19 c20 79 2 ws21)) _ := hM.drop (.cons _ (.cons _ (.cons _ (List.Sublist.refl _))))
 exact bodyPost_ret hres32 hf.defers ⟨A19, c20, ws21, rfl, hM.fin, hw22⟩
theorem r_spec_l00In (C : Cx) (n1 : Int) (hp2 : R64 n1) (low3 : Int) (hp4 : R64 low3) (high5 : Int) (hp6 : R64 high5) (r : Bool) (h : m_spec_l00In n1 low3 high5 = some r) :
    Calls Tryz.prog 80 #[vI (n1), vI (low3), vI (high5)] C.w0 fun e w => e = .returned (.bool (r)) ∧ Mem C w [] [] := by
 have hM := Mem.begin C [] trivial
 refine enter Tryz.func80 rfl Tryz.ntmps80 rfl fun a hf => ?_
 unfold m_spec_l00In at h
 refine wp_seq ?_
 refine region_pl ?_
 refine q_ hf rfl rfl rfl (e_assign hf rfl) fun a hf => ?_
 refine pl_nil ?_
 refine then_n ?_
 obtain ⟨x9, h10, h⟩ := bind_some h
 refine seq_join (fun a w => ∃ (t7 : Bool), t7 = x9 ∧ Has 15 a [(6, .bool (t7))] ∧ Mem C w [] []) ?_ ?_
 ·refine region_pl ?_
  iterate 2 refine q_ hf rfl rfl rfl (e_move hf rfl) fun a hf => ?_
  refine q_ hf rfl rfl rfl (e_ge hf (x := n1) (y := low3) rfl rfl) fun a hf => ?_
  refine q_ hf rfl rfl rfl (e_move hf rfl) fun a hf => ?_
  rcases cond_some h10 with ⟨hc11, h10⟩ | ⟨hc11, h10⟩
  ·iterate 2 refine gq (wanted_t hf rfl rfl rfl rfl hc11) hf rfl rfl (e_move hf rfl) fun a hf => ?_
   refine gq (wanted_t hf rfl rfl rfl rfl hc11) hf rfl rfl (e_le hf (x := n1) (y := high5) rfl rfl) fun a hf => ?_
   refine q_ hf rfl rfl rfl (e_pick_t hf rfl hc11 rfl) fun a hf => ?_
   refine q_ hf rfl rfl rfl (e_assign hf rfl) fun a hf => ?_
   refine pl_nil ?_
   obtain rfl := some_inj h10
   refine then_n ?_
   exact ⟨(decide (n1 ≤ high5)), rfl, hf.keep ⟨rfl, trivial⟩, hM.pick [] rfl⟩
  iterate 3 refine pl_gs (wanted_f hf rfl rfl rfl rfl hc11) hf rfl rfl fun a hf => ?_
  refine q_ hf rfl rfl rfl (e_pick_f hf rfl hc11 rfl) fun a hf => ?_
  refine q_ hf rfl rfl rfl (e_assign hf rfl) fun a hf => ?_
  refine pl_nil ?_
  obtain rfl := some_inj h10
  refine then_n ?_
  exact ⟨false, rfl, hf.keep ⟨rfl, trivial⟩, hM.pick [] rfl⟩
 rintro a w14 ⟨t7, rfl, hf, hM⟩
 try dsimp only at h
 refine wp_ret ?_
 obtain rfl := some_inj h
 exact leave1 hf rfl rfl ⟨rfl, hM.fin⟩
theorem r_spec_l01Small (C : Cx) (c1 : UInt8) (r : Bool) (h : m_spec_l01Small c1 = some r) :
    Calls Tryz.prog 81 #[vB (c1)] C.w0 fun e w => e = .returned (.bool (r)) ∧ Mem C w [] [] := by
 have hM := Mem.begin C [] trivial
 refine enter Tryz.func81 rfl Tryz.ntmps81 rfl fun a hf => ?_
 unfold m_spec_l01Small at h
 refine wp_seq ?_
 refine region_pl ?_
 refine q_ hf rfl rfl rfl (e_assign hf rfl) fun a hf => ?_
 refine pl_nil ?_
 refine then_n ?_
 obtain ⟨x4, h5, h⟩ := bind_some h
 refine seq_join (fun a w => ∃ (t2 : Bool), t2 = x4 ∧ Has 9 a [(2, .bool (t2))] ∧ Mem C w [] []) ?_ ?_
 ·refine region_pl ?_
  refine q_ hf rfl rfl rfl (e_move hf rfl) fun a hf => ?_
  refine q_ hf rfl rfl rfl (e_geB hf (x := c1) (y := 97) rfl rfl) fun a hf => ?_
  refine q_ hf rfl rfl rfl (e_move hf rfl) fun a hf => ?_
  rcases cond_some h5 with ⟨hc6, h5⟩ | ⟨hc6, h5⟩
  ·refine gq (wanted_t hf rfl rfl rfl rfl hc6) hf rfl rfl (e_move hf rfl) fun a hf => ?_
   refine gq (wanted_t hf rfl rfl rfl rfl hc6) hf rfl rfl (e_leB hf (x := c1) (y := 122) rfl rfl) fun a hf => ?_
   refine q_ hf rfl rfl rfl (e_pick_t hf rfl hc6 rfl) fun a hf => ?_
   refine q_ hf rfl rfl rfl (e_assign hf rfl) fun a hf => ?_
   refine pl_nil ?_
   obtain rfl := some_inj h5
   refine then_n ?_
   exact ⟨(decide (c1 ≤ 122)), rfl, hf.keep ⟨rfl, trivial⟩, hM.pick [] rfl⟩
  iterate 2 refine pl_gs (wanted_f hf rfl rfl rfl rfl hc6) hf rfl rfl fun a hf => ?_
  refine q_ hf rfl rfl rfl (e_pick_f hf rfl hc6 rfl) fun a hf => ?_
  refine q_ hf rfl rfl rfl (e_assign hf rfl) fun a hf => ?_
  refine pl_nil ?_
  obtain rfl := some_inj h5
  refine then_n ?_
  exact ⟨false, rfl, hf.keep ⟨rfl, trivial⟩, hM.pick [] rfl⟩
 rintro a w9 ⟨t2, rfl, hf, hM⟩
 try dsimp only at h
 refine wp_ret ?_
 obtain rfl := some_inj h
 exact leave1 hf rfl rfl ⟨rfl, hM.fin⟩
theorem r_spec_l06Shape (C : Cx) (d1 : Dawg) (b2 : Nat) (o3 : Nat) (hp4 : (ptrRep DawgRep).R C.w0 C.S0 d1 [vP b2 o3]) (r : Bool) (h : m_spec_l06Shape d1 = some r) :
    Calls Tryz.prog 51 #[vP b2 (o3)] C.w0 fun e w => e = .returned (.bool (r)) ∧ Mem C w [] [] := by
 have hM := Mem.begin C [.dat (ptrRep DawgRep) d1 [vP b2 o3]] ⟨hp4, trivial⟩
 refine enter Tryz.func51 rfl Tryz.ntmps51 rfl fun a hf => ?_
 unfold m_spec_l06Shape at h
 refine wp_seq ?_
 refine region_pl ?_
 refine q_ hf rfl rfl rfl (e_assign hf rfl) fun a hf => ?_
 refine pl_nil ?_
 refine then_n ?_
 refine wp_seq ?_
 refine region_pl ?_
 refine q_ hf rfl rfl rfl (e_move hf rfl) fun a hf => ?_
 refine q_ hf rfl rfl rfl (e_nil hf rfl) fun a hf => ?_
 obtain ⟨_, hr5, hM⟩ := hM.deref (hM.dat (k := 0) rfl)
 obtain ⟨A6, c7, rfl, hv8⟩ := DawgRep_open hr5
 have hM := hM.add (y := .dat (sliceRep NodeRep) d1.Nodes [vL A6 d1.Nodes c7]) hv8
 refine q_ hf rfl rfl rfl (e_field hf rfl Tryz.underlying26 rfl Tryz.sizeOf24 (o' := o3 + 0) rfl) fun a hf => ?_
 refine q_ hf rfl rfl rfl (e_load1 hf rfl Tryz.isAgg24 (hM.litCell (k := 1) (j := 0) rfl rfl rfl)) fun a hf => ?_
 have hl9 := slice_len (hM.dat (k := 0) rfl)
 refine q_ hf rfl rfl rfl (e_lenL hf (x := d1.Nodes) rfl Tryz.underlying24) fun a hf => ?_
 refine q_ hf rfl rfl rfl (e_assign hf rfl) fun a hf => ?_
 refine pl_nil ?_
 refine then_n ?_
 iterate 2 refine wp_seq ?_
 refine region_pl ?_
 refine q_ hf rfl rfl rfl (e_move hf rfl) fun a hf => ?_
 obtain ⟨y10, hz11, h⟩ := bind_some h
 refine pl_l hf rfl rfl rfl (w_call hf Tryz.call80 rfl (r_spec_l00In ⟨_, Sh C _ _, none_, hM.sh_lt, none_not, C.G, hM.g_lt, g_none, hM.tabs⟩ (d1.Nodes.length : Int) (R64_len hl9) 1 (R64_lit rfl) 3000 (R64_lit rfl) _ hz11) ?_)
 rintro _ w12 ⟨rfl, hM2⟩
 obtain ⟨hM, hx13, hup14⟩ := hM.back hM2
 dsimp only [List.cons_append, List.nil_append] at hM hup14
 clear hM2
 refine ⟨_, rfl, fun a hf => ?_⟩
 refine q_ hf rfl rfl rfl (e_not hf rfl) fun a hf => ?_
 refine pl_nil ?_
 refine then_n ?_
 rcases cond_some h with ⟨hc15, h⟩ | ⟨hc15, h⟩
 ·refine cond_t hf rfl hc15 ?_
  refine wp_seq ?_
  refine region_pl ?_
  refine q_ hf rfl rfl rfl (e_assign hf rfl) fun a hf => ?_
  refine pl_nil ?_
  refine then_n ?_
  refine wp_ret ?_
  refine then_r ?_
  obtain rfl := some_inj h
  exact leave1 hf rfl rfl ⟨rfl, hM.fin⟩
 refine cond_f hf rfl hc15 ?_
 refine wp_skip ?_
 refine then_n ?_
 obtain ⟨x16, h17, h⟩ := bind_some h
 refine seq_join (fun a w => (.inl ()) = x16 ∧ Has 96 a [] ∧ Mem C w [] [.dat (sliceRep NodeRep) d1.Nodes [vL A6 d1.Nodes c7], .lit b2 (o3) [vL A6 (d1.Nodes) c7], .dat (ptrRep DawgRep) d1 [vP b2 o3]]) ?_ ?_
 ·refine wp_seq ?_
  refine region_pl ?_
  refine q_ hf rfl rfl rfl (e_assign hf rfl) fun a hf => ?_
  refine pl_nil ?_
  refine then_n ?_
  refine wp_block ?_
  obtain ⟨x21, h22, h17⟩ := bind_some h17
  refine wp_loopM h22 (fun s a w => ∃ (x18 : Int), x18 = s ∧ Has 96 a [(0, vP b2 (o3)), (3, vI ((d1.Nodes.length : Int))), (4, vI (x18))] ∧ Mem C w [] [.dat (sliceRep NodeRep) d1.Nodes [vL A6 d1.Nodes c7], .lit b2 (o3) [vL A6 (d1.Nodes) c7], .dat (ptrRep DawgRep) d1 [vP b2 o3]] ∧ R64 x18) ?_ ?_
  ·exact ⟨0, rfl, hf.keep ⟨rfl, rfl, rfl, trivial⟩, hM.pick [0, 1, 2] rfl, (R64_lit rfl)⟩
  rintro s o23 a w20 ⟨x18, rfl, hf, hM, hv19⟩ h24 hd25
  replace h24 : m_spec_l06Shape_l1 d1 x18 = some o23 := h24
  unfold m_spec_l06Shape_l1 at h24
  iterate 2 refine wp_seq ?_
  refine region_pl ?_
  iterate 2 refine q_ hf rfl rfl rfl (e_move hf rfl) fun a hf => ?_
  refine q_ hf rfl rfl rfl (e_lt hf (x := x18) (y := (d1.Nodes.length : Int)) rfl rfl) fun a hf => ?_
  refine pl_nil ?_
  refine then_n ?_
  rcases cond_some h24 with ⟨hc26, h24⟩ | ⟨hc26, h24⟩
  ·refine cond_t hf rfl hc26 ?_
   refine wp_skip ?_
   refine then_n ?_
   obtain ⟨x27, h28, h24⟩ := bind_some h24
   refine seq_join (fun a w => (.inl ()) = x27 ∧ Has 96 a [(0, vP b2 (o3)), (3, vI ((d1.Nodes.length : Int))), (4, vI (x18))] ∧ Mem C w [] [.dat (sliceRep NodeRep) d1.Nodes [vL A6 d1.Nodes c7], .lit b2 (o3) [vL A6 (d1.Nodes) c7], .dat (ptrRep DawgRep) d1 [vP b2 o3]]) ?_ ?_
   ·refine wp_block ?_
    refine wp_seq ?_
    refine region_pl ?_
    refine q_ hf rfl rfl rfl (e_move hf rfl) fun a hf => ?_
    refine q_ hf rfl rfl rfl (e_nil hf rfl) fun a hf => ?_
    refine q_ hf rfl rfl rfl (e_field hf rfl Tryz.underlying26 rfl Tryz.sizeOf24 (o' := o3 + 0) rfl) fun a hf => ?_
    refine q_ hf rfl rfl rfl (e_load1 hf rfl Tryz.isAgg24 (hM.litCell (k := 1) (j := 0) rfl rfl rfl)) fun a hf => ?_
    refine q_ hf rfl rfl rfl (e_move hf rfl) fun a hf => ?_
    obtain ⟨e29, hz30, h28⟩ := bind_some h28
    obtain ⟨b34, o35, _, hA36, h31, h32, hr33, hM⟩ := hM.elem (hM.dat (k := 0) rfl) (n := 3) rfl hz30
    obtain ⟨A38, c39, rfl, hv37, hv40⟩ := NodeRep_open hr33
    have hM := hM.add (y := .dat (sliceRep intRep) e29.Next [vL A38 e29.Next c39]) hv40
    refine q_ hf rfl rfl rfl (e_indexAddr (A := A6) (b := b34) (o := o35) (xs := d1.Nodes) (i := x18) hf hA36 rfl rfl Tryz.underlying24 Tryz.sizeOf79 h31 h32) fun a hf => ?_
    refine q_ hf rfl rfl rfl (e_assign hf rfl) fun a hf => ?_
    refine pl_nil ?_
    refine then_n ?_
    iterate 2 refine wp_seq ?_
    obtain ⟨w41, hw⟩ : ∃ x, x = w20.drew := ⟨_, rfl⟩
    refine region_pi (.q 0 (.q 1 (.q 2 (.q 3 (.q 4 (.q 5 (.q 6 (.q 7 (.q 8 (.q 9 (.q 10 (.nil)))))))))))) (Ext w41) rfl (by kernel_rfl) ?_
    have hM := hM.drew
    rw [← hw] at hM ⊢
    clear hw
    refine pi_q hf rfl rfl rfl rfl (Ext.refl _) (e_move hf rfl) fun a hf => ?_
    refine pi_q hf rfl rfl rfl rfl (Ext.refl _) (e_nil hf rfl) fun a hf => ?_
    refine pi_q hf rfl rfl rfl rfl (Ext.refl _) (e_field hf rfl Tryz.underlying79 rfl Tryz.sizeOf9 (o' := (o35 + (x18 : Int).toNat * 3) + 1) rfl) fun a hf => ?_
    refine pi_q hf rfl rfl rfl rfl (Ext.refl _) (e_load1 hf rfl Tryz.isAgg9 (hM.litCell (k := 1) (j := 1) rfl rfl rfl)) fun a hf => ?_
    refine pi_q hf rfl rfl rfl rfl (Ext.refl _) (e_lenS hf (x := e29.Letters) rfl Tryz.underlying9) fun a hf => ?_
    refine pi_q hf rfl rfl rfl rfl (Ext.refl _) (e_move hf rfl) fun a hf => ?_
    refine pi_q hf rfl rfl rfl rfl (Ext.refl _) (e_nil hf rfl) fun a hf => ?_
    refine pi_q hf rfl rfl rfl rfl (Ext.refl _) (e_field hf rfl Tryz.underlying79 rfl Tryz.sizeOf77 (o' := (o35 + (x18 : Int).toNat * 3) + 2) rfl) fun a hf => ?_
    refine pi_q hf rfl rfl rfl rfl (Ext.refl _) (e_load1 hf rfl Tryz.isAgg77 (hM.litCell (k := 1) (j := 2) rfl rfl rfl)) fun a hf => ?_
    have hl42 := slice_len (hM.dat (k := 0) rfl)
    refine pi_q hf rfl rfl rfl rfl (Ext.refl _) (e_lenL hf (x := e29.Next) rfl Tryz.underlying77) fun a hf => ?_
    refine pi_q hf rfl rfl rfl rfl (Ext.refl _) (e_ne hf (x := (e29.Letters.length : Int)) (y := (e29.Next.length : Int)) rfl rfl) fun a hf => ?_
    refine pi_nil ?_
    refine then_n ?_
    rcases cond_some h28 with ⟨hc43, h28⟩ | ⟨hc43, h28⟩
    ·refine cond_t hf rfl hc43 ?_
     refine wp_seq ?_
     refine region_pl ?_
     refine q_ hf rfl rfl rfl (e_assign hf rfl) fun a hf => ?_
     refine pl_nil ?_
     refine then_n ?_
     refine wp_ret ?_
     refine then_r ?_
     refine blk_r ?_
     obtain rfl := some_inj h28
     try dsimp only at h24
     refine then_r ?_
     obtain rfl := some_inj h24
     obtain rfl := hd25 _ rfl
     try dsimp only at h17
     refine then_r ?_
     refine blk_r ?_
     obtain rfl := some_inj h17
     try dsimp only at h
     refine then_r ?_
     obtain rfl := some_inj h
     exact leave1 hf rfl rfl ⟨rfl, hM.fin⟩
    refine cond_f hf rfl hc43 ?_
    refine wp_skip ?_
    refine then_n ?_
    refine wp_seq ?_
    refine region_pl ?_
    refine q_ hf rfl rfl rfl (e_assign hf rfl) fun a hf => ?_
    refine pl_nil ?_
    refine then_n ?_
    refine wp_block ?_
    obtain ⟨x47, h48, h28⟩ := bind_some h28
    refine wp_loopM h48 (fun s a w => ∃ (n44 : Int), n44 = s ∧ Has 96 a [(0, vP b2 (o3)), (3, vI ((d1.Nodes.length : Int))), (4, vI (x18)), (5, vP b34 (o35 + (x18 : Int).toNat * 3)), (6, vI (n44))] ∧ Mem C w [] [.dat (sliceRep intRep) e29.Next [vL A38 e29.Next c39], .lit b34 (o35 + (x18 : Int).toNat * 3) [.bool (e29.Final), vS (e29.Letters), vL A38 (e29.Next) c39], .dat (sliceRep NodeRep) d1.Nodes [vL A6 d1.Nodes c7], .lit b2 (o3) [vL A6 (d1.Nodes) c7], .dat (ptrRep DawgRep) d1 [vP b2 o3]] ∧ R64 n44) ?_ ?_
    ·exact ⟨0, rfl, hf.keep ⟨rfl, rfl, rfl, rfl, rfl, trivial⟩, hM.pick [0, 1, 2, 3, 4] rfl, (R64_lit rfl)⟩
    rintro s o49 a w46 ⟨n44, rfl, hf, hM, hv45⟩ h50 hd51
    replace h50 : m_spec_l06Shape_l2 e29 d1 n44 = some o49 := h50
    unfold m_spec_l06Shape_l2 at h50
    iterate 2 refine wp_seq ?_
    refine region_pl ?_
    iterate 2 refine q_ hf rfl rfl rfl (e_move hf rfl) fun a hf => ?_
    refine q_ hf rfl rfl rfl (e_nil hf rfl) fun a hf => ?_
    refine q_ hf rfl rfl rfl (e_field hf rfl Tryz.underlying79 rfl Tryz.sizeOf77 (o' := (o35 + (x18 : Int).toNat * 3) + 2) rfl) fun a hf => ?_
    refine q_ hf rfl rfl rfl (e_load1 hf rfl Tryz.isAgg77 (hM.litCell (k := 1) (j := 2) rfl rfl rfl)) fun a hf => ?_
    have hl52 := slice_len (hM.dat (k := 0) rfl)
    refine q_ hf rfl rfl rfl (e_lenL hf (x := e29.Next) rfl Tryz.underlying77) fun a hf => ?_
    refine q_ hf rfl rfl rfl (e_lt hf (x := n44) (y := (e29.Next.length : Int)) rfl rfl) fun a hf => ?_
    refine pl_nil ?_
    refine then_n ?_
    rcases cond_some h50 with ⟨hc53, h50⟩ | ⟨hc53, h50⟩
    ·refine cond_t hf rfl hc53 ?_
     refine wp_skip ?_
     refine then_n ?_
     refine wp_seq ?_
     refine wp_block ?_
     obtain ⟨x56, h57, h50⟩ := bind_some h50
     refine seq_join (fun a w => ∃ (t54 : Bool), t54 = x56 ∧ Has 96 a [(0, vP b2 (o3)), (3, vI ((d1.Nodes.length : Int))), (4, vI (x18)), (5, vP b34 (o35 + (x18 : Int).toNat * 3)), (6, vI (n44)), (95, .bool (t54))] ∧ Mem C w [] [.dat (sliceRep intRep) e29.Next [vL A38 e29.Next c39], .lit b34 (o35 + (x18 : Int).toNat * 3) [.bool (e29.Final), vS (e29.Letters), vL A38 (e29.Next) c39], .dat (sliceRep NodeRep) d1.Nodes [vL A6 d1.Nodes c7], .lit b2 (o3) [vL A6 (d1.Nodes) c7], .dat (ptrRep DawgRep) d1 [vP b2 o3]]) ?_ ?_
     ·obtain ⟨w58, hw⟩ : ∃ x, x = w46.drew := ⟨_, rfl⟩
      refine region_pi (.q 0 (.q 1 (.q 2 (.q 3 (.q 4 (.q 5 (.q 6 (.q 7 (.q 8 (.l 9 (.q 10 (.q 11 (.q 12 (.q 13 (.q 14 (.q 15 (.q 16 (.q 17 (.q 18 (.q 19 (.q 20 (.q 21 (.q 22 (.q 23 (.q 24 (.q 25 (.l 26 (.q 27 (.q 28 (.q 29 (.q 30 (.q 31 (.q 32 (.q 33 (.q 34 (.q 35 (.q 36 (.q 37 (.q 38 (.q 39 (.q 40 (.q 41 (.q 42 (.q 43 (.q 44 (.q 45 (.q 46 (.q 47 (.q 48 (.q 49 (.nil))))))))))))))))))))))))))))))))))))))))))))))))))) (Ext w58) rfl (by kernel_rfl) ?_
      have hM := hM.drew
      rw [← hw] at hM ⊢
      clear hw
      refine pi_q hf rfl rfl rfl rfl (Ext.refl _) (e_move hf rfl) fun a hf => ?_
      refine pi_q hf rfl rfl rfl rfl (Ext.refl _) (e_nil hf rfl) fun a hf => ?_
      refine pi_q hf rfl rfl rfl rfl (Ext.refl _) (e_field hf rfl Tryz.underlying79 rfl Tryz.sizeOf77 (o' := (o35 + (x18 : Int).toNat * 3) + 2) rfl) fun a hf => ?_
      refine pi_q hf rfl rfl rfl rfl (Ext.refl _) (e_load1 hf rfl Tryz.isAgg77 (hM.litCell (k := 1) (j := 2) rfl rfl rfl)) fun a hf => ?_
      refine pi_q hf rfl rfl rfl rfl (Ext.refl _) (e_move hf rfl) fun a hf => ?_
      obtain ⟨e59, hz60, h57⟩ := bind_some h57
      obtain ⟨b64, o65, _, hA66, h61, h62, hr63, hM⟩ := hM.elem (hM.dat (k := 0) rfl) (n := 1) rfl hz60
      obtain ⟨rfl, hv67⟩ := hr63
      refine pi_q hf rfl rfl rfl rfl (Ext.refl _) (e_indexAddr (A := A38) (b := b64) (o := o65) (xs := e29.Next) (i := n44) hf hA66 rfl rfl Tryz.underlying77 Tryz.sizeOf2 h61 h62) fun a hf => ?_
      refine pi_q hf rfl rfl rfl rfl (Ext.refl _) (e_load1 hf rfl Tryz.isAgg2 (hM.litCell (k := 0) (j := 0) rfl rfl rfl)) fun a hf => ?_
      refine pi_q hf rfl rfl rfl rfl (Ext.refl _) (e_move hf rfl) fun a hf => ?_
      obtain ⟨z68, hz69, h57⟩ := bind_some h57
      refine pi_q hf rfl rfl rfl rfl (Ext.refl _) (e_sub hf rfl rfl hz69) fun a hf => ?_
      refine pi_one ?_
      obtain ⟨y70, hz71, h57⟩ := bind_some h57
      refine pi_l hf rfl rfl rfl rfl (w_call hf Tryz.call80 rfl (r_spec_l00In ⟨_, Sh C _ _, none_, hM.sh_lt, none_not, C.G, hM.g_lt, g_none, hM.tabs⟩ e59 hv67 0 (R64_lit rfl) z68 (chk_R hz69) _ hz71) ?_)
      rintro _ w72 ⟨rfl, hM2⟩
      obtain ⟨hM, hx73, hup74⟩ := hM.back hM2
      dsimp only [List.cons_append, List.nil_append] at hM hup74
      clear hM2
      refine ⟨_, rfl, Ext w72, fun _ h => Ext.trans hx73 h, Ext.refl _, fun a hf => ?_⟩
      refine pi_q hf rfl rfl rfl rfl (Ext.refl _) (e_not hf rfl) fun a hf => ?_
      refine pi_q hf rfl rfl rfl rfl (Ext.refl _) (e_move hf rfl) fun a hf => ?_
      rcases cond_some h57 with ⟨hc75, h57⟩ | ⟨hc75, h57⟩
      ·iterate 8 refine pi_gs hf rfl (wanted_f hf rfl rfl rfl rfl hc75) rfl rfl (Ext.refl _) fun a hf => ?_
       iterate 6 refine pi_gs hf rfl (wanted_u hf rfl rfl rfl rfl) rfl rfl (Ext.refl _) fun a hf => ?_
       refine pi_one ?_
       refine pi_ls hf rfl (wanted_u hf rfl rfl rfl rfl) rfl rfl (Ext.refl _) fun a hf => ?_
       refine pi_gs hf rfl (wanted_u hf rfl rfl rfl rfl) rfl rfl (Ext.refl _) fun a hf => ?_
       refine pi_gs hf rfl (wanted_f hf rfl rfl rfl rfl hc75) rfl rfl (Ext.refl _) fun a hf => ?_
       refine pi_q hf rfl rfl rfl rfl (Ext.refl _) (e_pick_t hf rfl hc75 rfl) fun a hf => ?_
       refine pi_q hf rfl rfl rfl rfl (Ext.refl _) (e_move hf rfl) fun a hf => ?_
       iterate 3 refine pi_gs hf rfl (wanted_f hf rfl rfl rfl rfl rfl) rfl rfl (Ext.refl _) fun a hf => ?_
       iterate 14 refine pi_gs hf rfl (wanted_u hf rfl rfl rfl rfl) rfl rfl (Ext.refl _) fun a hf => ?_
       refine pi_gs hf rfl (wanted_f hf rfl rfl rfl rfl rfl) rfl rfl (Ext.refl _) fun a hf => ?_
       refine pi_q hf rfl rfl rfl rfl (Ext.refl _) (e_pick_t hf rfl rfl rfl) fun a hf => ?_
       refine pi_nil ?_
       obtain rfl := some_inj h57
       refine then_n ?_
       exact ⟨true, rfl, hf.keep ⟨rfl, rfl, rfl, rfl, rfl, rfl, trivial⟩, hM.pick [1, 2, 3, 4, 5] rfl⟩
      refine pi_gq hf rfl (wanted_t hf rfl rfl rfl rfl hc75) rfl rfl (Ext.refl _) (e_move hf rfl) fun a hf => ?_
      refine pi_gq hf rfl (wanted_t hf rfl rfl rfl rfl hc75) rfl rfl (Ext.refl _) (e_nil hf rfl) fun a hf => ?_
      refine pi_gq hf rfl (wanted_t hf rfl rfl rfl rfl hc75) rfl rfl (Ext.refl _) (e_field hf rfl Tryz.underlying79 rfl Tryz.sizeOf9 (o' := (o35 + (x18 : Int).toNat * 3) + 1) rfl) fun a hf => ?_
      refine pi_gq hf rfl (wanted_t hf rfl rfl rfl rfl hc75) rfl rfl (Ext.refl _) (e_load1 hf rfl Tryz.isAgg9 (hM.litCell (k := 2) (j := 1) rfl rfl rfl)) fun a hf => ?_
      refine pi_gq hf rfl (wanted_t hf rfl rfl rfl rfl hc75) rfl rfl (Ext.refl _) (e_move hf rfl) fun a hf => ?_
      obtain ⟨c77, hz78, h57⟩ := bind_some h57
      refine pi_gq hf rfl (wanted_t hf rfl rfl rfl rfl hc75) rfl rfl (Ext.refl _) (e_indexS hf (x := e29.Letters) rfl rfl Tryz.underlying9 hz78) fun a hf => ?_
      refine pi_gq hf rfl (wanted_t hf rfl rfl rfl rfl hc75) rfl rfl (Ext.refl _) (e_neB hf (x := c77) (y := 62) rfl rfl) fun a hf => ?_
      refine pi_gq hf rfl (wanted_t hf rfl rfl rfl rfl hc75) rfl rfl (Ext.refl _) (e_move hf rfl) fun a hf => ?_
      rcases cond_some h57 with ⟨hc79, h57⟩ | ⟨hc79, h57⟩
      ·refine pi_gq hf rfl (wanted_t hf rfl rfl rfl rfl hc79) rfl rfl (Ext.refl _) (e_move hf rfl) fun a hf => ?_
       refine pi_gq hf rfl (wanted_t hf rfl rfl rfl rfl hc79) rfl rfl (Ext.refl _) (e_nil hf rfl) fun a hf => ?_
       refine pi_gq hf rfl (wanted_t hf rfl rfl rfl rfl hc79) rfl rfl (Ext.refl _) (e_field hf rfl Tryz.underlying79 rfl Tryz.sizeOf9 (o' := (o35 + (x18 : Int).toNat * 3) + 1) rfl) fun a hf => ?_
       refine pi_gq hf rfl (wanted_t hf rfl rfl rfl rfl hc79) rfl rfl (Ext.refl _) (e_load1 hf rfl Tryz.isAgg9 (hM.litCell (k := 2) (j := 1) rfl rfl rfl)) fun a hf => ?_
       refine pi_gq hf rfl (wanted_t hf rfl rfl rfl rfl hc79) rfl rfl (Ext.refl _) (e_move hf rfl) fun a hf => ?_
       obtain ⟨c80, hz81, h57⟩ := bind_some h57
       refine pi_gq hf rfl (wanted_t hf rfl rfl rfl rfl hc79) rfl rfl (Ext.refl _) (e_indexS hf (x := e29.Letters) rfl rfl Tryz.underlying9 hz81) fun a hf => ?_
       refine pi_one ?_
       obtain ⟨y82, hz83, h57⟩ := bind_some h57
       refine pi_gl hf rfl (wanted_t hf rfl rfl rfl rfl hc79) rfl rfl (w_call hf Tryz.call81 rfl (r_spec_l01Small ⟨_, Sh C _ _, none_, hM.sh_lt, none_not, C.G, hM.g_lt, g_none, hM.tabs⟩ c80 _ hz83) ?_)
       rintro _ w84 ⟨rfl, hM2⟩
       obtain ⟨hM, hx85, hup86⟩ := hM.back hM2
       dsimp only [List.cons_append, List.nil_append] at hM hup86
       clear hM2
       refine ⟨_, rfl, Ext w84, fun _ h => Ext.trans hx85 h, Ext.refl _, fun a hf => ?_⟩
       refine pi_gq hf rfl (wanted_t hf rfl rfl rfl rfl hc79) rfl rfl (Ext.refl _) (e_not hf rfl) fun a hf => ?_
       refine pi_gq hf rfl (wanted_t hf rfl rfl rfl rfl hc75) rfl rfl (Ext.refl _) (e_pick_t hf rfl hc79 rfl) fun a hf => ?_
       refine pi_q hf rfl rfl rfl rfl (Ext.refl _) (e_pick_f hf rfl hc75 rfl) fun a hf => ?_
       refine pi_q hf rfl rfl rfl rfl (Ext.refl _) (e_move hf rfl) fun a hf => ?_
       rcases cond_some h57 with ⟨hc87, h57⟩ | ⟨hc87, h57⟩
       ·iterate 3 refine pi_gs hf rfl (wanted_f hf rfl rfl rfl rfl hc87) rfl rfl (Ext.refl _) fun a hf => ?_
        iterate 14 refine pi_gs hf rfl (wanted_u hf rfl rfl rfl rfl) rfl rfl (Ext.refl _) fun a hf => ?_
        refine pi_gs hf rfl (wanted_f hf rfl rfl rfl rfl hc87) rfl rfl (Ext.refl _) fun a hf => ?_
        refine pi_q hf rfl rfl rfl rfl (Ext.refl _) (e_pick_t hf rfl hc87 rfl) fun a hf => ?_
        refine pi_nil ?_
        obtain rfl := some_inj h57
        refine then_n ?_
        exact ⟨true, rfl, hf.keep ⟨rfl, rfl, rfl, rfl, rfl, rfl, trivial⟩, hM.pick [1, 2, 3, 4, 5] rfl⟩
       refine pi_gq hf rfl (wanted_t hf rfl rfl rfl rfl hc87) rfl rfl (Ext.refl _) (e_move hf rfl) fun a hf => ?_
       refine pi_gq hf rfl (wanted_t hf rfl rfl rfl rfl hc87) rfl rfl (Ext.refl _) (e_gt hf (x := n44) (y := 0) rfl rfl) fun a hf => ?_
       refine pi_gq hf rfl (wanted_t hf rfl rfl rfl rfl hc87) rfl rfl (Ext.refl _) (e_move hf rfl) fun a hf => ?_
       rcases cond_some h57 with ⟨hc89, h57⟩ | ⟨hc89, h57⟩
       ·refine pi_gq hf rfl (wanted_t hf rfl rfl rfl rfl hc89) rfl rfl (Ext.refl _) (e_move hf rfl) fun a hf => ?_
        refine pi_gq hf rfl (wanted_t hf rfl rfl rfl rfl hc89) rfl rfl (Ext.refl _) (e_nil hf rfl) fun a hf => ?_
        refine pi_gq hf rfl (wanted_t hf rfl rfl rfl rfl hc89) rfl rfl (Ext.refl _) (e_field hf rfl Tryz.underlying79 rfl Tryz.sizeOf9 (o' := (o35 + (x18 : Int).toNat * 3) + 1) rfl) fun a hf => ?_
        refine pi_gq hf rfl (wanted_t hf rfl rfl rfl rfl hc89) rfl rfl (Ext.refl _) (e_load1 hf rfl Tryz.isAgg9 (hM.litCell (k := 2) (j := 1) rfl rfl rfl)) fun a hf => ?_
        refine pi_gq hf rfl (wanted_t hf rfl rfl rfl rfl hc89) rfl rfl (Ext.refl _) (e_move hf rfl) fun a hf => ?_
        obtain ⟨c90, hz91, h57⟩ := bind_some h57
        refine pi_gq hf rfl (wanted_t hf rfl rfl rfl rfl hc89) rfl rfl (Ext.refl _) (e_indexS hf (x := e29.Letters) rfl rfl Tryz.underlying9 hz91) fun a hf => ?_
        refine pi_gq hf rfl (wanted_t hf rfl rfl rfl rfl hc89) rfl rfl (Ext.refl _) (e_move hf rfl) fun a hf => ?_
        refine pi_gq hf rfl (wanted_t hf rfl rfl rfl rfl hc89) rfl rfl (Ext.refl _) (e_nil hf rfl) fun a hf => ?_
        refine pi_gq hf rfl (wanted_t hf rfl rfl rfl rfl hc89) rfl rfl (Ext.refl _) (e_field hf rfl Tryz.underlying79 rfl Tryz.sizeOf9 (o' := (o35 + (x18 : Int).toNat * 3) + 1) rfl) fun a hf => ?_
        refine pi_gq hf rfl (wanted_t hf rfl rfl rfl rfl hc89) rfl rfl (Ext.refl _) (e_load1 hf rfl Tryz.isAgg9 (hM.litCell (k := 2) (j := 1) rfl rfl rfl)) fun a hf => ?_
        refine pi_gq hf rfl (wanted_t hf rfl rfl rfl rfl hc89) rfl rfl (Ext.refl _) (e_move hf rfl) fun a hf => ?_
        obtain ⟨z92, hz93, h57⟩ := bind_some h57
        refine pi_gq hf rfl (wanted_t hf rfl rfl rfl rfl hc89) rfl rfl (Ext.refl _) (e_sub hf rfl rfl hz93) fun a hf => ?_
        obtain ⟨c94, hz95, h57⟩ := bind_some h57
        refine pi_gq hf rfl (wanted_t hf rfl rfl rfl rfl hc89) rfl rfl (Ext.refl _) (e_indexS hf (x := e29.Letters) rfl rfl Tryz.underlying9 hz95) fun a hf => ?_
        refine pi_gq hf rfl (wanted_t hf rfl rfl rfl rfl hc89) rfl rfl (Ext.refl _) (e_leB hf (x := c90) (y := c94) rfl rfl) fun a hf => ?_
        refine pi_gq hf rfl (wanted_t hf rfl rfl rfl rfl hc87) rfl rfl (Ext.refl _) (e_pick_t hf rfl hc89 rfl) fun a hf => ?_
        refine pi_q hf rfl rfl rfl rfl (Ext.refl _) (e_pick_f hf rfl hc87 rfl) fun a hf => ?_
        refine pi_nil ?_
        obtain rfl := some_inj h57
        refine then_n ?_
        exact ⟨(decide (c90 ≤ c94)), rfl, hf.keep ⟨rfl, rfl, rfl, rfl, rfl, rfl, trivial⟩, hM.pick [1, 2, 3, 4, 5] rfl⟩
       iterate 14 refine pi_gs hf rfl (wanted_f hf rfl rfl rfl rfl hc89) rfl rfl (Ext.refl _) fun a hf => ?_
       refine pi_gq hf rfl (wanted_t hf rfl rfl rfl rfl hc87) rfl rfl (Ext.refl _) (e_pick_f hf rfl hc89 rfl) fun a hf => ?_
       refine pi_q hf rfl rfl rfl rfl (Ext.refl _) (e_pick_f hf rfl hc87 rfl) fun a hf => ?_
       refine pi_nil ?_
       obtain rfl := some_inj h57
       refine then_n ?_
       exact ⟨false, rfl, hf.keep ⟨rfl, rfl, rfl, rfl, rfl, rfl, trivial⟩, hM.pick [1, 2, 3, 4, 5] rfl⟩
      iterate 6 refine pi_gs hf rfl (wanted_f hf rfl rfl rfl rfl hc79) rfl rfl (Ext.refl _) fun a hf => ?_
      refine pi_one ?_
      refine pi_ls hf rfl (wanted_f hf rfl rfl rfl rfl hc79) rfl rfl (Ext.refl _) fun a hf => ?_
      refine pi_gs hf rfl (wanted_f hf rfl rfl rfl rfl hc79) rfl rfl (Ext.refl _) fun a hf => ?_
      refine pi_gq hf rfl (wanted_t hf rfl rfl rfl rfl hc75) rfl rfl (Ext.refl _) (e_pick_f hf rfl hc79 rfl) fun a hf => ?_
      refine pi_q hf rfl rfl rfl rfl (Ext.refl _) (e_pick_f hf rfl hc75 rfl) fun a hf => ?_
      refine pi_q hf rfl rfl rfl rfl (Ext.refl _) (e_move hf rfl) fun a hf => ?_
      refine pi_gq hf rfl (wanted_t hf rfl rfl rfl rfl rfl) rfl rfl (Ext.refl _) (e_move hf rfl) fun a hf => ?_
      refine pi_gq hf rfl (wanted_t hf rfl rfl rfl rfl rfl) rfl rfl (Ext.refl _) (e_gt hf (x := n44) (y := 0) rfl rfl) fun a hf => ?_
      refine pi_gq hf rfl (wanted_t hf rfl rfl rfl rfl rfl) rfl rfl (Ext.refl _) (e_move hf rfl) fun a hf => ?_
      rcases cond_some h57 with ⟨hc98, h57⟩ | ⟨hc98, h57⟩
      ·refine pi_gq hf rfl (wanted_t hf rfl rfl rfl rfl hc98) rfl rfl (Ext.refl _) (e_move hf rfl) fun a hf => ?_
       refine pi_gq hf rfl (wanted_t hf rfl rfl rfl rfl hc98) rfl rfl (Ext.refl _) (e_nil hf rfl) fun a hf => ?_
       refine pi_gq hf rfl (wanted_t hf rfl rfl rfl rfl hc98) rfl rfl (Ext.refl _) (e_field hf rfl Tryz.underlying79 rfl Tryz.sizeOf9 (o' := (o35 + (x18 : Int).toNat * 3) + 1) rfl) fun a hf => ?_
       refine pi_gq hf rfl (wanted_t hf rfl rfl rfl rfl hc98) rfl rfl (Ext.refl _) (e_load1 hf rfl Tryz.isAgg9 (hM.litCell (k := 2) (j := 1) rfl rfl rfl)) fun a hf => ?_
       refine pi_gq hf rfl (wanted_t hf rfl rfl rfl rfl hc98) rfl rfl (Ext.refl _) (e_move hf rfl) fun a hf => ?_
       obtain ⟨c99, hz100, h57⟩ := bind_some h57
       refine pi_gq hf rfl (wanted_t hf rfl rfl rfl rfl hc98) rfl rfl (Ext.refl _) (e_indexS hf (x := e29.Letters) rfl rfl Tryz.underlying9 hz100) fun a hf => ?_
       refine pi_gq hf rfl (wanted_t hf rfl rfl rfl rfl hc98) rfl rfl (Ext.refl _) (e_move hf rfl) fun a hf => ?_
       refine pi_gq hf rfl (wanted_t hf rfl rfl rfl rfl hc98) rfl rfl (Ext.refl _) (e_nil hf rfl) fun a hf => ?_
       refine pi_gq hf rfl (wanted_t hf rfl rfl rfl rfl hc98) rfl rfl (Ext.refl _) (e_field hf rfl Tryz.underlying79 rfl Tryz.sizeOf9 (o' := (o35 + (x18 : Int).toNat * 3) + 1) rfl) fun a hf => ?_
       refine pi_gq hf rfl (wanted_t hf rfl rfl rfl rfl hc98) rfl rfl (Ext.refl _) (e_load1 hf rfl Tryz.isAgg9 (hM.litCell (k := 2) (j := 1) rfl rfl rfl)) fun a hf => ?_
       refine pi_gq hf rfl (wanted_t hf rfl rfl rfl rfl hc98) rfl rfl (Ext.refl _) (e_move hf rfl) fun a hf => ?_
       obtain ⟨z101, hz102, h57⟩ := bind_some h57
       refine pi_gq hf rfl (wanted_t hf rfl rfl rfl rfl hc98) rfl rfl (Ext.refl _) (e_sub hf rfl rfl hz102) fun a hf => ?_
       obtain ⟨c103, hz104, h57⟩ := bind_some h57
       refine pi_gq hf rfl (wanted_t hf rfl rfl rfl rfl hc98) rfl rfl (Ext.refl _) (e_indexS hf (x := e29.Letters) rfl rfl Tryz.underlying9 hz104) fun a hf => ?_
       refine pi_gq hf rfl (wanted_t hf rfl rfl rfl rfl hc98) rfl rfl (Ext.refl _) (e_leB hf (x := c99) (y := c103) rfl rfl) fun a hf => ?_
       refine pi_gq hf rfl (wanted_t hf rfl rfl rfl rfl rfl) rfl rfl (Ext.refl _) (e_pick_t hf rfl hc98 rfl) fun a hf => ?_
       refine pi_q hf rfl rfl rfl rfl (Ext.refl _) (e_pick_f hf rfl rfl rfl) fun a hf => ?_
       refine pi_nil ?_
       obtain rfl := some_inj h57
       refine then_n ?_
       exact ⟨(decide (c99 ≤ c103)), rfl, hf.keep ⟨rfl, rfl, rfl, rfl, rfl, rfl, trivial⟩, hM.pick [1, 2, 3, 4, 5] rfl⟩
      iterate 14 refine pi_gs hf rfl (wanted_f hf rfl rfl rfl rfl hc98) rfl rfl (Ext.refl _) fun a hf => ?_
      refine pi_gq hf rfl (wanted_t hf rfl rfl rfl rfl rfl) rfl rfl (Ext.refl _) (e_pick_f hf rfl hc98 rfl) fun a hf => ?_
      refine pi_q hf rfl rfl rfl rfl (Ext.refl _) (e_pick_f hf rfl rfl rfl) fun a hf => ?_
      refine pi_nil ?_
      obtain rfl := some_inj h57
      refine then_n ?_
      exact ⟨false, rfl, hf.keep ⟨rfl, rfl, rfl, rfl, rfl, rfl, trivial⟩, hM.pick [1, 2, 3, 4, 5] rfl⟩
     rintro a w107 ⟨t54, rfl, hf, hM⟩
     try dsimp only at h50
     rcases cond_some h50 with ⟨hc108, h50⟩ | ⟨hc108, h50⟩
     ·refine cond_t hf rfl hc108 ?_
      refine wp_seq ?_
      refine region_pl ?_
      refine q_ hf rfl rfl rfl (e_assign hf rfl) fun a hf => ?_
      refine pl_nil ?_
      refine then_n ?_
      refine wp_ret ?_
      refine blk_r ?_
      refine then_r ?_
      obtain rfl := some_inj h50
      obtain rfl := hd51 _ rfl
      try dsimp only at h28
      refine then_r ?_
      iterate 2 refine blk_r ?_
      obtain rfl := some_inj h28
      try dsimp only at h24
      refine then_r ?_
      obtain rfl := some_inj h24
      obtain rfl := hd25 _ rfl
      try dsimp only at h17
      refine then_r ?_
      refine blk_r ?_
      obtain rfl := some_inj h17
      try dsimp only at h
      refine then_r ?_
      obtain rfl := some_inj h
      exact leave1 hf rfl rfl ⟨rfl, hM.fin⟩
     refine cond_f hf rfl hc108 ?_
     refine wp_skip ?_
     refine blk_n ?_
     refine then_n ?_
     refine region_pl ?_
     refine q_ hf rfl rfl rfl (e_move hf rfl) fun a hf => ?_
     obtain ⟨z109, hz110, h50⟩ := bind_some h50
     refine q_ hf rfl rfl rfl (e_add hf rfl rfl hz110) fun a hf => ?_
     refine q_ hf rfl rfl rfl (e_assign hf rfl) fun a hf => ?_
     refine pl_nil ?_
     obtain rfl := some_inj h50
     refine then_n ⟨_, rfl, ?_⟩
     exact ⟨z109, rfl, hf.keep ⟨rfl, rfl, rfl, rfl, rfl, trivial⟩, hM.pick [0, 1, 2, 3, 4] rfl, (chk_R hz110)⟩
    refine cond_f hf rfl hc53 ?_
    refine wp_exit ?_
    refine then_x ?_
    obtain rfl := some_inj h50
    obtain rfl := hd51 _ rfl
    try dsimp only at h28
    refine then_x ?_
    refine exit_hit ?_
    refine blk_n ?_
    obtain rfl := some_inj h28
    refine then_n ?_
    exact ⟨rfl, hf.keep ⟨rfl, rfl, rfl, trivial⟩, hM.pick [2, 3, 4] rfl⟩
   rintro a w117 ⟨rfl, hf, hM⟩
   try dsimp only at h24
   refine region_pl ?_
   refine q_ hf rfl rfl rfl (e_move hf rfl) fun a hf => ?_
   obtain ⟨z118, hz119, h24⟩ := bind_some h24
   refine q_ hf rfl rfl rfl (e_add hf rfl rfl hz119) fun a hf => ?_
   refine q_ hf rfl rfl rfl (e_assign hf rfl) fun a hf => ?_
   refine pl_nil ?_
   obtain rfl := some_inj h24
   refine then_n ⟨_, rfl, ?_⟩
   exact ⟨z118, rfl, hf.keep ⟨rfl, rfl, rfl, trivial⟩, hM.pick [0, 1, 2] rfl, (chk_R hz119)⟩
  refine cond_f hf rfl hc26 ?_
  refine wp_exit ?_
  refine then_x ?_
  obtain rfl := some_inj h24
  obtain rfl := hd25 _ rfl
  try dsimp only at h17
  refine then_x ?_
  refine exit_hit ?_
  obtain rfl := some_inj h17
  refine then_n ?_
  exact ⟨rfl, hf.keep trivial, hM.pick [0, 1, 2] rfl⟩
 rintro a w127 ⟨rfl, hf, hM⟩
 try dsimp only at h
 refine wp_seq ?_
 refine region_pl ?_
 refine q_ hf rfl rfl rfl (e_assign hf rfl) fun a hf => ?_
 refine pl_nil ?_
 refine then_n ?_
 refine wp_ret ?_
 obtain rfl := some_inj h
 exact leave1 hf rfl rfl ⟨rfl, hM.fin⟩
theorem r_spec_l06Useful (C : Cx) (d1 : Dawg) (b2 : Nat) (o3 : Nat) (hp4 : (ptrRep DawgRep).R C.w0 C.S0 d1 [vP b2 o3]) (r : Bool) (h : m_spec_l06Useful d1 = some r) :
    Calls Tryz.prog 52 #[vP b2 (o3)] C.w0 fun e w => e = .returned (.bool (r)) ∧ Mem C w [] [] := by
 have hM := Mem.begin C [.dat (ptrRep DawgRep) d1 [vP b2 o3]] ⟨hp4, trivial⟩
 refine enter Tryz.func52 rfl Tryz.ntmps52 rfl fun a hf => ?_
 unfold m_spec_l06Useful at h
 refine wp_seq ?_
 refine region_pl ?_
 refine q_ hf rfl rfl rfl (e_assign hf rfl) fun a hf => ?_
 refine pl_nil ?_
 refine then_n ?_
 refine wp_seq ?_
 refine region_pl ?_
 refine q_ hf rfl rfl rfl (e_move hf rfl) fun a hf => ?_
 refine q_ hf rfl rfl rfl (e_nil hf rfl) fun a hf => ?_
 obtain ⟨_, hr5, hM⟩ := hM.deref (hM.dat (k := 0) rfl)
 obtain ⟨A6, c7, rfl, hv8⟩ := DawgRep_open hr5
 have hM := hM.add (y := .dat (sliceRep NodeRep) d1.Nodes [vL A6 d1.Nodes c7]) hv8
 refine q_ hf rfl rfl rfl (e_field hf rfl Tryz.underlying26 rfl Tryz.sizeOf24 (o' := o3 + 0) rfl) fun a hf => ?_
 refine q_ hf rfl rfl rfl (e_load1 hf rfl Tryz.isAgg24 (hM.litCell (k := 1) (j := 0) rfl rfl rfl)) fun a hf => ?_
 have hl9 := slice_len (hM.dat (k := 0) rfl)
 refine q_ hf rfl rfl rfl (e_lenL hf (x := d1.Nodes) rfl Tryz.underlying24) fun a hf => ?_
 refine q_ hf rfl rfl rfl (e_assign hf rfl) fun a hf => ?_
 refine pl_nil ?_
 refine then_n ?_
 refine wp_seq ?_
 refine region_pl ?_
 refine q_ hf rfl rfl rfl (e_move hf rfl) fun a hf => ?_
 obtain ⟨xs10, hz11, h⟩ := bind_some h
 refine pl_l hf rfl rfl rfl (w_make hf hM (K := boolRep) Tryz.underlying81 ei_4 Tryz.zeroValue4 rfl rfl rfl rfl hz11 fun b12 w13 hx14 hM a hf => ?_)
 refine q_ hf rfl rfl rfl (e_assign hf rfl) fun a hf => ?_
 refine pl_nil ?_
 refine then_n ?_
 obtain ⟨x16, h17, h⟩ := bind_some h
 refine seq_join (fun a w => ∃ (xs15 : (List Bool)), xs15 = x16 ∧ Has 88 a [(3, vI ((d1.Nodes.length : Int))), (4, vL (some ⟨b12, 0, none⟩) (xs15) (((d1.Nodes.length : Int) : Int).toNat))] ∧ Mem C w [.row boolRep (some ⟨b12, 0, none⟩) (((d1.Nodes.length : Int) : Int).toNat) 4 xs15 true] [.dat (sliceRep NodeRep) d1.Nodes [vL A6 d1.Nodes c7], .lit b2 (o3) [vL A6 (d1.Nodes) c7], .dat (ptrRep DawgRep) d1 [vP b2 o3]]) ?_ ?_
 ·refine wp_seq ?_
  refine region_pl ?_
  refine q_ hf rfl rfl rfl (e_assign hf rfl) fun a hf => ?_
  refine pl_nil ?_
  refine then_n ?_
  refine wp_block ?_
  obtain ⟨x23, h24, h17⟩ := bind_some h17
  refine wp_loopM h24 (fun s a w => ∃ (xs18 : (List Bool)) (i19 : Int), (xs18, i19) = s ∧ Has 88 a [(0, vP b2 (o3)), (3, vI ((d1.Nodes.length : Int))), (4, vL (some ⟨b12, 0, none⟩) (xs18) (((d1.Nodes.length : Int) : Int).toNat)), (5, vI (i19))] ∧ Mem C w [.row boolRep (some ⟨b12, 0, none⟩) (((d1.Nodes.length : Int) : Int).toNat) 4 xs18 true] [.dat (sliceRep NodeRep) d1.Nodes [vL A6 d1.Nodes c7], .lit b2 (o3) [vL A6 (d1.Nodes) c7], .dat (ptrRep DawgRep) d1 [vP b2 o3]] ∧ R64 i19) ?_ ?_
  ·exact ⟨xs10, 0, rfl, hf.keep ⟨rfl, rfl, rfl, rfl, trivial⟩, hM.pick [0, 1, 2] rfl, (R64_lit rfl)⟩
  rintro s o25 a w21 ⟨xs18, i19, rfl, hf, hM, hv20⟩ h26 hd27
  replace h26 : m_spec_l06Useful_l1 d1 xs18 i19 = some o25 := h26
  unfold m_spec_l06Useful_l1 at h26
  iterate 2 refine wp_seq ?_
  refine region_pl ?_
  refine q_ hf rfl rfl rfl (e_move hf rfl) fun a hf => ?_
  refine q_ hf rfl rfl rfl (e_le hf (x := i19) (y := 13) rfl rfl) fun a hf => ?_
  refine pl_nil ?_
  refine then_n ?_
  rcases cond_some h26 with ⟨hc28, h26⟩ | ⟨hc28, h26⟩
  ·refine cond_t hf rfl hc28 ?_
   refine wp_skip ?_
   refine then_n ?_
   obtain ⟨x30, h31, h26⟩ := bind_some h26
   refine seq_join (fun a w => ∃ (xs29 : (List Bool)), xs29 = x30 ∧ Has 88 a [(0, vP b2 (o3)), (3, vI ((d1.Nodes.length : Int))), (4, vL (some ⟨b12, 0, none⟩) (xs29) (((d1.Nodes.length : Int) : Int).toNat)), (5, vI (i19))] ∧ Mem C w [.row boolRep (some ⟨b12, 0, none⟩) (((d1.Nodes.length : Int) : Int).toNat) 4 xs29 true] [.dat (sliceRep NodeRep) d1.Nodes [vL A6 d1.Nodes c7], .lit b2 (o3) [vL A6 (d1.Nodes) c7], .dat (ptrRep DawgRep) d1 [vP b2 o3]]) ?_ ?_
   ·refine wp_block ?_
    refine wp_seq ?_
    refine region_pl ?_
    refine q_ hf rfl rfl rfl (e_assign hf rfl) fun a hf => ?_
    refine pl_nil ?_
    refine then_n ?_
    refine wp_block ?_
    obtain ⟨x37, h38, h31⟩ := bind_some h31
    refine wp_loopM h38 (fun s a w => ∃ (xs32 : (List Bool)) (k33 : Int), (xs32, k33) = s ∧ Has 88 a [(0, vP b2 (o3)), (3, vI ((d1.Nodes.length : Int))), (4, vL (some ⟨b12, 0, none⟩) (xs32) (((d1.Nodes.length : Int) : Int).toNat)), (5, vI (i19)), (6, vI (k33))] ∧ Mem C w [.row boolRep (some ⟨b12, 0, none⟩) (((d1.Nodes.length : Int) : Int).toNat) 4 xs32 true] [.dat (sliceRep NodeRep) d1.Nodes [vL A6 d1.Nodes c7], .lit b2 (o3) [vL A6 (d1.Nodes) c7], .dat (ptrRep DawgRep) d1 [vP b2 o3]] ∧ R64 k33) ?_ ?_
    ·exact ⟨xs18, 0, rfl, hf.keep ⟨rfl, rfl, rfl, rfl, rfl, trivial⟩, hM.pick [0, 1, 2] rfl, (R64_lit rfl)⟩
    rintro s o39 a w35 ⟨xs32, k33, rfl, hf, hM, hv34⟩ h40 hd41
    replace h40 : m_spec_l06Useful_l2 d1 xs32 k33 = some o39 := h40
    unfold m_spec_l06Useful_l2 at h40
    iterate 2 refine wp_seq ?_
    refine region_pl ?_
    iterate 2 refine q_ hf rfl rfl rfl (e_move hf rfl) fun a hf => ?_
    refine q_ hf rfl rfl rfl (e_lt hf (x := k33) (y := (d1.Nodes.length : Int)) rfl rfl) fun a hf => ?_
    refine pl_nil ?_
    refine then_n ?_
    rcases cond_some h40 with ⟨hc42, h40⟩ | ⟨hc42, h40⟩
    ·refine cond_t hf rfl hc42 ?_
     refine wp_skip ?_
     refine then_n ?_
     obtain ⟨x44, h45, h40⟩ := bind_some h40
     refine seq_join (fun a w => ∃ (xs43 : (List Bool)), xs43 = x44 ∧ Has 88 a [(0, vP b2 (o3)), (3, vI ((d1.Nodes.length : Int))), (4, vL (some ⟨b12, 0, none⟩) (xs43) (((d1.Nodes.length : Int) : Int).toNat)), (5, vI (i19)), (6, vI (k33))] ∧ Mem C w [.row boolRep (some ⟨b12, 0, none⟩) (((d1.Nodes.length : Int) : Int).toNat) 4 xs43 true] [.dat (sliceRep NodeRep) d1.Nodes [vL A6 d1.Nodes c7], .lit b2 (o3) [vL A6 (d1.Nodes) c7], .dat (ptrRep DawgRep) d1 [vP b2 o3]]) ?_ ?_
     ·refine wp_block ?_
      obtain ⟨x47, h48, h45⟩ := bind_some h45
      refine seq_join (fun a w => ∃ (xs46 : (List Bool)), xs46 = x47 ∧ Has 88 a [(0, vP b2 (o3)), (3, vI ((d1.Nodes.length : Int))), (4, vL (some ⟨b12, 0, none⟩) (xs46) (((d1.Nodes.length : Int) : Int).toNat)), (5, vI (i19)), (6, vI (k33))] ∧ Mem C w [.row boolRep (some ⟨b12, 0, none⟩) (((d1.Nodes.length : Int) : Int).toNat) 4 xs46 true] [.dat (sliceRep NodeRep) d1.Nodes [vL A6 d1.Nodes c7], .lit b2 (o3) [vL A6 (d1.Nodes) c7], .dat (ptrRep DawgRep) d1 [vP b2 o3]]) ?_ ?_
      ·refine region_pl ?_
       iterate 4 refine q_ hf rfl rfl rfl (e_move hf rfl) fun a hf => ?_
       obtain ⟨e49, hz50, h48⟩ := bind_some h48
       obtain ⟨_, h51, h52, hr53, hcell54⟩ := hM.rowElem' (k := 0) rfl (n := 1) rfl hz50
       obtain rfl : _ = _ := hr53
       refine q_ hf rfl rfl rfl (e_indexAddr (A := (some ⟨b12, 0, none⟩)) (b := b12) (o := 0) (xs := xs32) (i := k33) hf rfl rfl rfl Tryz.underlying81 Tryz.sizeOf4 h51 h52) fun a hf => ?_
       refine q_ hf rfl rfl rfl (e_load1 hf rfl Tryz.isAgg4 (hcell54 0 _ rfl)) fun a hf => ?_
       refine q_ hf rfl rfl rfl (e_move hf rfl) fun a hf => ?_
       rcases cond_some h48 with ⟨hc55, h48⟩ | ⟨hc55, h48⟩
       ·iterate 8 refine pl_gs (wanted_f hf rfl rfl rfl rfl hc55) hf rfl rfl fun a hf => ?_
        refine q_ hf rfl rfl rfl (e_pick_t hf rfl hc55 rfl) fun a hf => ?_
        obtain ⟨e56, hz57, h48⟩ := bind_some h48
        obtain ⟨_, h58, h59, hr60, hcell61⟩ := hM.rowElem' (k := 0) rfl (n := 1) rfl hz57
        obtain rfl : _ = _ := hr60
        refine q_ hf rfl rfl rfl (e_indexAddr (A := (some ⟨b12, 0, none⟩)) (b := b12) (o := 0) (xs := xs32) (i := k33) hf rfl rfl rfl Tryz.underlying81 Tryz.sizeOf4 h58 h59) fun a hf => ?_
        obtain ⟨xs63, hz64, h48⟩ := bind_some h48
        refine pl_0 hf rfl rfl (w_storeElem hf hM (x := true) (row := [.bool (true)]) (i := k33) rfl rfl rfl rfl (k := 0) rfl rfl Tryz.sizeOf4 rfl hz64 fun w62 hM => ?_)
        dsimp only [List.set] at hM
        have hf := hf.alter (d := 4) (v := vL (some ⟨b12, 0, none⟩) (xs63) (((d1.Nodes.length : Int) : Int).toNat)) rfl (vL_len (setL_len hz64))
        have hf := hf.alter (d := 25) (v := vL (some ⟨b12, 0, none⟩) (xs63) (((d1.Nodes.length : Int) : Int).toNat)) rfl (vL_len (setL_len hz64))
        have hf := hf.alter (d := 27) (v := vL (some ⟨b12, 0, none⟩) (xs63) (((d1.Nodes.length : Int) : Int).toNat)) rfl (vL_len (setL_len hz64))
        refine pl_nil ?_
        obtain rfl := some_inj h48
        refine then_n ?_
        exact ⟨xs63, rfl, hf.keep ⟨rfl, rfl, rfl, rfl, rfl, trivial⟩, hM.pick [0, 1, 2] rfl⟩
       refine gq (wanted_t hf rfl rfl rfl rfl hc55) hf rfl rfl (e_move hf rfl) fun a hf => ?_
       refine gq (wanted_t hf rfl rfl rfl rfl hc55) hf rfl rfl (e_nil hf rfl) fun a hf => ?_
       refine gq (wanted_t hf rfl rfl rfl rfl hc55) hf rfl rfl (e_field hf rfl Tryz.underlying26 rfl Tryz.sizeOf24 (o' := o3 + 0) rfl) fun a hf => ?_
       refine gq (wanted_t hf rfl rfl rfl rfl hc55) hf rfl rfl (e_load1 hf rfl Tryz.isAgg24 (hM.litCell (k := 1) (j := 0) rfl rfl rfl)) fun a hf => ?_
       refine gq (wanted_t hf rfl rfl rfl rfl hc55) hf rfl rfl (e_move hf rfl) fun a hf => ?_
       obtain ⟨e68, hz69, h48⟩ := bind_some h48
       obtain ⟨b73, o74, _, hA75, h70, h71, hr72, hM⟩ := hM.elem (hM.dat (k := 0) rfl) (n := 3) rfl hz69
       obtain ⟨A77, c78, rfl, hv76, hv79⟩ := NodeRep_open hr72
       have hM := hM.add (y := .dat (sliceRep intRep) e68.Next [vL A77 e68.Next c78]) hv79
       refine gq (wanted_t hf rfl rfl rfl rfl hc55) hf rfl rfl (e_indexAddr (A := A6) (b := b73) (o := o74) (xs := d1.Nodes) (i := k33) hf hA75 rfl rfl Tryz.underlying24 Tryz.sizeOf79 h70 h71) fun a hf => ?_
       refine gq (wanted_t hf rfl rfl rfl rfl hc55) hf rfl rfl (e_field hf rfl Tryz.underlying79 rfl Tryz.sizeOf4 (o' := (o74 + (k33 : Int).toNat * 3) + 0) rfl) fun a hf => ?_
       refine gq (wanted_t hf rfl rfl rfl rfl hc55) hf rfl rfl (e_load1 hf rfl Tryz.isAgg4 (hM.litCell (k := 1) (j := 0) rfl rfl rfl)) fun a hf => ?_
       refine q_ hf rfl rfl rfl (e_pick_f hf rfl hc55 rfl) fun a hf => ?_
       obtain ⟨e80, hz81, h48⟩ := bind_some h48
       obtain ⟨_, h82, h83, hr84, hcell85⟩ := hM.rowElem' (k := 0) rfl (n := 1) rfl hz81
       obtain rfl : _ = _ := hr84
       refine q_ hf rfl rfl rfl (e_indexAddr (A := (some ⟨b12, 0, none⟩)) (b := b12) (o := 0) (xs := xs32) (i := k33) hf rfl rfl rfl Tryz.underlying81 Tryz.sizeOf4 h82 h83) fun a hf => ?_
       obtain ⟨xs87, hz88, h48⟩ := bind_some h48
       refine pl_0 hf rfl rfl (w_storeElem hf hM (x := e68.Final) (row := [.bool (e68.Final)]) (i := k33) rfl rfl rfl rfl (k := 0) rfl rfl Tryz.sizeOf4 rfl hz88 fun w86 hM => ?_)
       dsimp only [List.set] at hM
       have hf := hf.alter (d := 4) (v := vL (some ⟨b12, 0, none⟩) (xs87) (((d1.Nodes.length : Int) : Int).toNat)) rfl (vL_len (setL_len hz88))
       have hf := hf.alter (d := 25) (v := vL (some ⟨b12, 0, none⟩) (xs87) (((d1.Nodes.length : Int) : Int).toNat)) rfl (vL_len (setL_len hz88))
       have hf := hf.alter (d := 27) (v := vL (some ⟨b12, 0, none⟩) (xs87) (((d1.Nodes.length : Int) : Int).toNat)) rfl (vL_len (setL_len hz88))
       refine pl_nil ?_
       obtain rfl := some_inj h48
       refine then_n ?_
       exact ⟨xs87, rfl, hf.keep ⟨rfl, rfl, rfl, rfl, rfl, trivial⟩, hM.pick [2, 3, 4] rfl⟩
      rintro a w92 ⟨xs46, rfl, hf, hM⟩
      try dsimp only at h45
      refine wp_seq ?_
      refine region_pl ?_
      refine q_ hf rfl rfl rfl (e_assign hf rfl) fun a hf => ?_
      refine pl_nil ?_
      refine then_n ?_
      refine wp_block ?_
      obtain ⟨x98, h99, h45⟩ := bind_some h45
      refine wp_loopM h99 (fun s a w => ∃ (xs93 : (List Bool)) (i94 : Int), (xs93, i94) = s ∧ Has 88 a [(0, vP b2 (o3)), (3, vI ((d1.Nodes.length : Int))), (4, vL (some ⟨b12, 0, none⟩) (xs93) (((d1.Nodes.length : Int) : Int).toNat)), (5, vI (i19)), (6, vI (k33)), (7, vI (i94))] ∧ Mem C w [.row boolRep (some ⟨b12, 0, none⟩) (((d1.Nodes.length : Int) : Int).toNat) 4 xs93 true] [.dat (sliceRep NodeRep) d1.Nodes [vL A6 d1.Nodes c7], .lit b2 (o3) [vL A6 (d1.Nodes) c7], .dat (ptrRep DawgRep) d1 [vP b2 o3]] ∧ R64 i94) ?_ ?_
      ·exact ⟨xs46, 0, rfl, hf.keep ⟨rfl, rfl, rfl, rfl, rfl, rfl, trivial⟩, hM.pick [0, 1, 2] rfl, (R64_lit rfl)⟩
      rintro s o100 a w96 ⟨xs93, i94, rfl, hf, hM, hv95⟩ h101 hd102
      replace h101 : m_spec_l06Useful_l3 d1 k33 xs93 i94 = some o100 := h101
      unfold m_spec_l06Useful_l3 at h101
      iterate 2 refine wp_seq ?_
      refine region_pl ?_
      iterate 2 refine q_ hf rfl rfl rfl (e_move hf rfl) fun a hf => ?_
      refine q_ hf rfl rfl rfl (e_nil hf rfl) fun a hf => ?_
      refine q_ hf rfl rfl rfl (e_field hf rfl Tryz.underlying26 rfl Tryz.sizeOf24 (o' := o3 + 0) rfl) fun a hf => ?_
      refine q_ hf rfl rfl rfl (e_load1 hf rfl Tryz.isAgg24 (hM.litCell (k := 1) (j := 0) rfl rfl rfl)) fun a hf => ?_
      refine q_ hf rfl rfl rfl (e_move hf rfl) fun a hf => ?_
      obtain ⟨e103, hz104, h101⟩ := bind_some h101
      obtain ⟨b108, o109, _, hA110, h105, h106, hr107, hM⟩ := hM.elem (hM.dat (k := 0) rfl) (n := 3) rfl hz104
      obtain ⟨A112, c113, rfl, hv111, hv114⟩ := NodeRep_open hr107
      have hM := hM.add (y := .dat (sliceRep intRep) e103.Next [vL A112 e103.Next c113]) hv114
      refine q_ hf rfl rfl rfl (e_indexAddr (A := A6) (b := b108) (o := o109) (xs := d1.Nodes) (i := k33) hf hA110 rfl rfl Tryz.underlying24 Tryz.sizeOf79 h105 h106) fun a hf => ?_
      refine q_ hf rfl rfl rfl (e_field hf rfl Tryz.underlying79 rfl Tryz.sizeOf77 (o' := (o109 + (k33 : Int).toNat * 3) + 2) rfl) fun a hf => ?_
      refine q_ hf rfl rfl rfl (e_load1 hf rfl Tryz.isAgg77 (hM.litCell (k := 1) (j := 2) rfl rfl rfl)) fun a hf => ?_
      have hl115 := slice_len (hM.dat (k := 0) rfl)
      refine q_ hf rfl rfl rfl (e_lenL hf (x := e103.Next) rfl Tryz.underlying77) fun a hf => ?_
      refine q_ hf rfl rfl rfl (e_lt hf (x := i94) (y := (e103.Next.length : Int)) rfl rfl) fun a hf => ?_
      refine pl_nil ?_
      refine then_n ?_
      rcases cond_some h101 with ⟨hc116, h101⟩ | ⟨hc116, h101⟩
      ·refine cond_t hf rfl hc116 ?_
       refine wp_skip ?_
       refine then_n ?_
       obtain ⟨x118, h119, h101⟩ := bind_some h101
       refine seq_join (fun a w => ∃ (xs117 : (List Bool)), xs117 = x118 ∧ Has 88 a [(0, vP b2 (o3)), (3, vI ((d1.Nodes.length : Int))), (4, vL (some ⟨b12, 0, none⟩) (xs117) (((d1.Nodes.length : Int) : Int).toNat)), (5, vI (i19)), (6, vI (k33)), (7, vI (i94))] ∧ Mem C w [.row boolRep (some ⟨b12, 0, none⟩) (((d1.Nodes.length : Int) : Int).toNat) 4 xs117 true] [.dat (sliceRep intRep) e103.Next [vL A112 e103.Next c113], .lit b108 (o109 + (k33 : Int).toNat * 3) [.bool (e103.Final), vS (e103.Letters), vL A112 (e103.Next) c113], .dat (sliceRep NodeRep) d1.Nodes [vL A6 d1.Nodes c7], .lit b2 (o3) [vL A6 (d1.Nodes) c7], .dat (ptrRep DawgRep) d1 [vP b2 o3]]) ?_ ?_
       ·refine wp_block ?_
        refine region_pl ?_
        iterate 4 refine q_ hf rfl rfl rfl (e_move hf rfl) fun a hf => ?_
        obtain ⟨e120, hz121, h119⟩ := bind_some h119
        obtain ⟨_, h122, h123, hr124, hcell125⟩ := hM.rowElem' (k := 0) rfl (n := 1) rfl hz121
        obtain rfl : _ = _ := hr124
        refine q_ hf rfl rfl rfl (e_indexAddr (A := (some ⟨b12, 0, none⟩)) (b := b12) (o := 0) (xs := xs93) (i := k33) hf rfl rfl rfl Tryz.underlying81 Tryz.sizeOf4 h122 h123) fun a hf => ?_
        refine q_ hf rfl rfl rfl (e_load1 hf rfl Tryz.isAgg4 (hcell125 0 _ rfl)) fun a hf => ?_
        refine q_ hf rfl rfl rfl (e_move hf rfl) fun a hf => ?_
        rcases cond_some h119 with ⟨hc126, h119⟩ | ⟨hc126, h119⟩
        ·iterate 14 refine pl_gs (wanted_f hf rfl rfl rfl rfl hc126) hf rfl rfl fun a hf => ?_
         refine q_ hf rfl rfl rfl (e_pick_t hf rfl hc126 rfl) fun a hf => ?_
         obtain ⟨e127, hz128, h119⟩ := bind_some h119
         obtain ⟨_, h129, h130, hr131, hcell132⟩ := hM.rowElem' (k := 0) rfl (n := 1) rfl hz128
         obtain rfl : _ = _ := hr131
         refine q_ hf rfl rfl rfl (e_indexAddr (A := (some ⟨b12, 0, none⟩)) (b := b12) (o := 0) (xs := xs93) (i := k33) hf rfl rfl rfl Tryz.underlying81 Tryz.sizeOf4 h129 h130) fun a hf => ?_
         obtain ⟨xs134, hz135, h119⟩ := bind_some h119
         refine pl_0 hf rfl rfl (w_storeElem hf hM (x := true) (row := [.bool (true)]) (i := k33) rfl rfl rfl rfl (k := 0) rfl rfl Tryz.sizeOf4 rfl hz135 fun w133 hM => ?_)
         dsimp only [List.set] at hM
         have hf := hf.alter (d := 4) (v := vL (some ⟨b12, 0, none⟩) (xs134) (((d1.Nodes.length : Int) : Int).toNat)) rfl (vL_len (setL_len hz135))
         have hf := hf.alter (d := 55) (v := vL (some ⟨b12, 0, none⟩) (xs134) (((d1.Nodes.length : Int) : Int).toNat)) rfl (vL_len (setL_len hz135))
         have hf := hf.alter (d := 57) (v := vL (some ⟨b12, 0, none⟩) (xs134) (((d1.Nodes.length : Int) : Int).toNat)) rfl (vL_len (setL_len hz135))
         refine pl_nil ?_
         refine blk_n ?_
         obtain rfl := some_inj h119
         refine then_n ?_
         exact ⟨xs134, rfl, hf.keep ⟨rfl, rfl, rfl, rfl, rfl, rfl, trivial⟩, hM.pick [0, 1, 2, 3, 4] rfl⟩
        iterate 2 refine gq (wanted_t hf rfl rfl rfl rfl hc126) hf rfl rfl (e_move hf rfl) fun a hf => ?_
        refine gq (wanted_t hf rfl rfl rfl rfl hc126) hf rfl rfl (e_nil hf rfl) fun a hf => ?_
        refine gq (wanted_t hf rfl rfl rfl rfl hc126) hf rfl rfl (e_field hf rfl Tryz.underlying26 rfl Tryz.sizeOf24 (o' := o3 + 0) rfl) fun a hf => ?_
        refine gq (wanted_t hf rfl rfl rfl rfl hc126) hf rfl rfl (e_load1 hf rfl Tryz.isAgg24 (hM.litCell (k := 3) (j := 0) rfl rfl rfl)) fun a hf => ?_
        refine gq (wanted_t hf rfl rfl rfl rfl hc126) hf rfl rfl (e_move hf rfl) fun a hf => ?_
        obtain ⟨e139, hz140, h119⟩ := bind_some h119
        obtain ⟨b144, o145, _, hA146, h141, h142, hr143, hM⟩ := hM.elem (hM.dat (k := 2) rfl) (n := 3) rfl hz140
        obtain ⟨A148, c149, rfl, hv147, hv150⟩ := NodeRep_open hr143
        have hM := hM.add (y := .dat (sliceRep intRep) e139.Next [vL A148 e139.Next c149]) hv150
        refine gq (wanted_t hf rfl rfl rfl rfl hc126) hf rfl rfl (e_indexAddr (A := A6) (b := b144) (o := o145) (xs := d1.Nodes) (i := k33) hf hA146 rfl rfl Tryz.underlying24 Tryz.sizeOf79 h141 h142) fun a hf => ?_
        refine gq (wanted_t hf rfl rfl rfl rfl hc126) hf rfl rfl (e_field hf rfl Tryz.underlying79 rfl Tryz.sizeOf77 (o' := (o145 + (k33 : Int).toNat * 3) + 2) rfl) fun a hf => ?_
        refine gq (wanted_t hf rfl rfl rfl rfl hc126) hf rfl rfl (e_load1 hf rfl Tryz.isAgg77 (hM.litCell (k := 1) (j := 2) rfl rfl rfl)) fun a hf => ?_
        refine gq (wanted_t hf rfl rfl rfl rfl hc126) hf rfl rfl (e_move hf rfl) fun a hf => ?_
        obtain ⟨e151, hz152, h119⟩ := bind_some h119
        obtain ⟨b156, o157, _, hA158, h153, h154, hr155, hM⟩ := hM.elem (hM.dat (k := 0) rfl) (n := 1) rfl hz152
        obtain ⟨rfl, hv159⟩ := hr155
        refine gq (wanted_t hf rfl rfl rfl rfl hc126) hf rfl rfl (e_indexAddr (A := A148) (b := b156) (o := o157) (xs := e139.Next) (i := i94) hf hA158 rfl rfl Tryz.underlying77 Tryz.sizeOf2 h153 h154) fun a hf => ?_
        refine gq (wanted_t hf rfl rfl rfl rfl hc126) hf rfl rfl (e_load1 hf rfl Tryz.isAgg2 (hM.litCell (k := 0) (j := 0) rfl rfl rfl)) fun a hf => ?_
        obtain ⟨e160, hz161, h119⟩ := bind_some h119
        obtain ⟨_, h162, h163, hr164, hcell165⟩ := hM.rowElem' (k := 0) rfl (n := 1) rfl hz161
        obtain rfl : _ = _ := hr164
        refine gq (wanted_t hf rfl rfl rfl rfl hc126) hf rfl rfl (e_indexAddr (A := (some ⟨b12, 0, none⟩)) (b := b12) (o := 0) (xs := xs93) (i := e151) hf rfl rfl rfl Tryz.underlying81 Tryz.sizeOf4 h162 h163) fun a hf => ?_
        refine gq (wanted_t hf rfl rfl rfl rfl hc126) hf rfl rfl (e_load1 hf rfl Tryz.isAgg4 (hcell165 0 _ rfl)) fun a hf => ?_
        refine q_ hf rfl rfl rfl (e_pick_f hf rfl hc126 rfl) fun a hf => ?_
        obtain ⟨e166, hz167, h119⟩ := bind_some h119
        obtain ⟨_, h168, h169, hr170, hcell171⟩ := hM.rowElem' (k := 0) rfl (n := 1) rfl hz167
        obtain rfl : _ = _ := hr170
        refine q_ hf rfl rfl rfl (e_indexAddr (A := (some ⟨b12, 0, none⟩)) (b := b12) (o := 0) (xs := xs93) (i := k33) hf rfl rfl rfl Tryz.underlying81 Tryz.sizeOf4 h168 h169) fun a hf => ?_
        obtain ⟨xs173, hz174, h119⟩ := bind_some h119
        refine pl_0 hf rfl rfl (w_storeElem hf hM (x := e160) (row := [.bool (e160)]) (i := k33) rfl rfl rfl rfl (k := 0) rfl rfl Tryz.sizeOf4 rfl hz174 fun w172 hM => ?_)
        dsimp only [List.set] at hM
        have hf := hf.alter (d := 4) (v := vL (some ⟨b12, 0, none⟩) (xs173) (((d1.Nodes.length : Int) : Int).toNat)) rfl (vL_len (setL_len hz174))
        have hf := hf.alter (d := 55) (v := vL (some ⟨b12, 0, none⟩) (xs173) (((d1.Nodes.length : Int) : Int).toNat)) rfl (vL_len (setL_len hz174))
        have hf := hf.alter (d := 57) (v := vL (some ⟨b12, 0, none⟩) (xs173) (((d1.Nodes.length : Int) : Int).toNat)) rfl (vL_len (setL_len hz174))
        have hf := hf.alter (d := 62) (v := vL (some ⟨b12, 0, none⟩) (xs173) (((d1.Nodes.length : Int) : Int).toNat)) rfl (vL_len (setL_len hz174))
        refine pl_nil ?_
        refine blk_n ?_
        obtain rfl := some_inj h119
        refine then_n ?_
        exact ⟨xs173, rfl, hf.keep ⟨rfl, rfl, rfl, rfl, rfl, rfl, trivial⟩, hM.pick [3, 4, 5, 6, 7] rfl⟩
       rintro a w178 ⟨xs117, rfl, hf, hM⟩
       try dsimp only at h101
       refine region_pl ?_
       refine q_ hf rfl rfl rfl (e_move hf rfl) fun a hf => ?_
       obtain ⟨z179, hz180, h101⟩ := bind_some h101
       refine q_ hf rfl rfl rfl (e_add hf rfl rfl hz180) fun a hf => ?_
       refine q_ hf rfl rfl rfl (e_assign hf rfl) fun a hf => ?_
       refine pl_nil ?_
       obtain rfl := some_inj h101
       refine then_n ⟨_, rfl, ?_⟩
       exact ⟨xs117, z179, rfl, hf.keep ⟨rfl, rfl, rfl, rfl, rfl, rfl, trivial⟩, hM.pick [2, 3, 4] rfl, (chk_R hz180)⟩
      refine cond_f hf rfl hc116 ?_
      refine wp_exit ?_
      refine then_x ?_
      obtain rfl := some_inj h101
      obtain rfl := hd102 _ rfl
      try dsimp only at h45
      refine then_x ?_
      refine exit_hit ?_
      refine blk_n ?_
      obtain rfl := some_inj h45
      refine then_n ?_
      exact ⟨xs93, rfl, hf.keep ⟨rfl, rfl, rfl, rfl, rfl, trivial⟩, hM.pick [2, 3, 4] rfl⟩
     rintro a w186 ⟨xs43, rfl, hf, hM⟩
     try dsimp only at h40
     refine region_pl ?_
     refine q_ hf rfl rfl rfl (e_move hf rfl) fun a hf => ?_
     obtain ⟨z187, hz188, h40⟩ := bind_some h40
     refine q_ hf rfl rfl rfl (e_add hf rfl rfl hz188) fun a hf => ?_
     refine q_ hf rfl rfl rfl (e_assign hf rfl) fun a hf => ?_
     refine pl_nil ?_
     obtain rfl := some_inj h40
     refine then_n ⟨_, rfl, ?_⟩
     exact ⟨xs43, z187, rfl, hf.keep ⟨rfl, rfl, rfl, rfl, rfl, trivial⟩, hM.pick [0, 1, 2] rfl, (chk_R hz188)⟩
    refine cond_f hf rfl hc42 ?_
    refine wp_exit ?_
    refine then_x ?_
    obtain rfl := some_inj h40
    obtain rfl := hd41 _ rfl
    try dsimp only at h31
    refine then_x ?_
    refine exit_hit ?_
    refine blk_n ?_
    obtain rfl := some_inj h31
    refine then_n ?_
    exact ⟨xs32, rfl, hf.keep ⟨rfl, rfl, rfl, rfl, trivial⟩, hM.pick [0, 1, 2] rfl⟩
   rintro a w194 ⟨xs29, rfl, hf, hM⟩
   try dsimp only at h26
   refine region_pl ?_
   refine q_ hf rfl rfl rfl (e_move hf rfl) fun a hf => ?_
   obtain ⟨z195, hz196, h26⟩ := bind_some h26
   refine q_ hf rfl rfl rfl (e_add hf rfl rfl hz196) fun a hf => ?_
   refine q_ hf rfl rfl rfl (e_assign hf rfl) fun a hf => ?_
   refine pl_nil ?_
   obtain rfl := some_inj h26
   refine then_n ⟨_, rfl, ?_⟩
   exact ⟨xs29, z195, rfl, hf.keep ⟨rfl, rfl, rfl, rfl, trivial⟩, hM.pick [0, 1, 2] rfl, (chk_R hz196)⟩
  refine cond_f hf rfl hc28 ?_
  refine wp_exit ?_
  refine then_x ?_
  obtain rfl := some_inj h26
  obtain rfl := hd27 _ rfl
  try dsimp only at h17
  refine then_x ?_
  refine exit_hit ?_
  obtain rfl := some_inj h17
  refine then_n ?_
  exact ⟨xs18, rfl, hf.keep ⟨rfl, rfl, trivial⟩, hM.pick [0, 1, 2] rfl⟩
 rintro a w202 ⟨xs15, rfl, hf, hM⟩
 try dsimp only at h
 obtain ⟨x203, h204, h⟩ := bind_some h
 refine seq_join (fun a w => (.inl ()) = x203 ∧ Has 88 a [] ∧ Mem C w [.row boolRep (some ⟨b12, 0, none⟩) (((d1.Nodes.length : Int) : Int).toNat) 4 xs15 true] [.dat (sliceRep NodeRep) d1.Nodes [vL A6 d1.Nodes c7], .lit b2 (o3) [vL A6 (d1.Nodes) c7], .dat (ptrRep DawgRep) d1 [vP b2 o3]]) ?_ ?_
 ·refine wp_seq ?_
  refine region_pl ?_
  refine q_ hf rfl rfl rfl (e_assign hf rfl) fun a hf => ?_
  refine pl_nil ?_
  refine then_n ?_
  refine wp_block ?_
  obtain ⟨x208, h209, h204⟩ := bind_some h204
  refine wp_loopM h209 (fun s a w => ∃ (n205 : Int), n205 = s ∧ Has 88 a [(3, vI ((d1.Nodes.length : Int))), (4, vL (some ⟨b12, 0, none⟩) (xs15) (((d1.Nodes.length : Int) : Int).toNat)), (8, vI (n205))] ∧ Mem C w [.row boolRep (some ⟨b12, 0, none⟩) (((d1.Nodes.length : Int) : Int).toNat) 4 xs15 true] [.dat (sliceRep NodeRep) d1.Nodes [vL A6 d1.Nodes c7], .lit b2 (o3) [vL A6 (d1.Nodes) c7], .dat (ptrRep DawgRep) d1 [vP b2 o3]] ∧ R64 n205) ?_ ?_
  ·exact ⟨1, rfl, hf.keep ⟨rfl, rfl, rfl, trivial⟩, hM.pick [0, 1, 2] rfl, (R64_lit rfl)⟩
  rintro s o210 a w207 ⟨n205, rfl, hf, hM, hv206⟩ h211 hd212
  replace h211 : m_spec_l06Useful_l4 d1 xs15 n205 = some o210 := h211
  unfold m_spec_l06Useful_l4 at h211
  iterate 2 refine wp_seq ?_
  refine region_pl ?_
  iterate 2 refine q_ hf rfl rfl rfl (e_move hf rfl) fun a hf => ?_
  refine q_ hf rfl rfl rfl (e_lt hf (x := n205) (y := (d1.Nodes.length : Int)) rfl rfl) fun a hf => ?_
  refine pl_nil ?_
  refine then_n ?_
  rcases cond_some h211 with ⟨hc213, h211⟩ | ⟨hc213, h211⟩
  ·refine cond_t hf rfl hc213 ?_
   refine wp_skip ?_
   refine then_n ?_
   refine wp_seq ?_
   refine wp_block ?_
   refine wp_seq ?_
   refine region_pl ?_
   iterate 2 refine q_ hf rfl rfl rfl (e_move hf rfl) fun a hf => ?_
   obtain ⟨e214, hz215, h211⟩ := bind_some h211
   obtain ⟨_, h216, h217, hr218, hcell219⟩ := hM.rowElem' (k := 0) rfl (n := 1) rfl hz215
   obtain rfl : _ = _ := hr218
   refine q_ hf rfl rfl rfl (e_indexAddr (A := (some ⟨b12, 0, none⟩)) (b := b12) (o := 0) (xs := xs15) (i := n205) hf rfl rfl rfl Tryz.underlying81 Tryz.sizeOf4 h216 h217) fun a hf => ?_
   refine q_ hf rfl rfl rfl (e_load1 hf rfl Tryz.isAgg4 (hcell219 0 _ rfl)) fun a hf => ?_
   refine q_ hf rfl rfl rfl (e_not hf rfl) fun a hf => ?_
   refine pl_nil ?_
   refine then_n ?_
   rcases cond_some h211 with ⟨hc220, h211⟩ | ⟨hc220, h211⟩
   ·refine cond_t hf rfl hc220 ?_
    refine wp_seq ?_
    refine region_pl ?_
    refine q_ hf rfl rfl rfl (e_assign hf rfl) fun a hf => ?_
    refine pl_nil ?_
    refine then_n ?_
    refine wp_ret ?_
    refine blk_r ?_
    refine then_r ?_
    obtain rfl := some_inj h211
    obtain rfl := hd212 _ rfl
    try dsimp only at h204
    refine then_r ?_
    refine blk_r ?_
    obtain rfl := some_inj h204
    try dsimp only at h
    refine then_r ?_
    obtain rfl := some_inj h
    have hM := hM.outs (own' := []) 0 rfl
    exact leave1 hf rfl rfl ⟨rfl, hM.fin⟩
   refine cond_f hf rfl hc220 ?_
   refine wp_skip ?_
   refine blk_n ?_
   refine then_n ?_
   refine region_pl ?_
   refine q_ hf rfl rfl rfl (e_move hf rfl) fun a hf => ?_
   obtain ⟨z221, hz222, h211⟩ := bind_some h211
   refine q_ hf rfl rfl rfl (e_add hf rfl rfl hz222) fun a hf => ?_
   refine q_ hf rfl rfl rfl (e_assign hf rfl) fun a hf => ?_
   refine pl_nil ?_
   obtain rfl := some_inj h211
   refine then_n ⟨_, rfl, ?_⟩
   exact ⟨z221, rfl, hf.keep ⟨rfl, rfl, rfl, trivial⟩, hM.pick [0, 1, 2] rfl, (chk_R hz222)⟩
  refine cond_f hf rfl hc213 ?_
  refine wp_exit ?_
  refine then_x ?_
  obtain rfl := some_inj h211
  obtain rfl := hd212 _ rfl
  try dsimp only at h204
  refine then_x ?_
  refine exit_hit ?_
  obtain rfl := some_inj h204
  refine then_n ?_
  exact ⟨rfl, hf.keep trivial, hM.pick [0, 1, 2] rfl⟩
 rintro a w229 ⟨rfl, hf, hM⟩
 try dsimp only at h
 refine wp_seq ?_
 refine region_pl ?_
 refine q_ hf rfl rfl rfl (e_assign hf rfl) fun a hf => ?_
 refine pl_nil ?_
 refine then_n ?_
 refine wp_ret ?_
 obtain rfl := some_inj h
 have hM := hM.outs (own' := []) 0 rfl
 exact leave1 hf rfl rfl ⟨rfl, hM.fin⟩
def Ct_spec_l06W_walk (rc : l06W → Int → Str → Option l06W) : Prop := ∀ (C : Cx) (w1 : l06W) (b2 : Nat) (b3 : Nat) (o4 : Nat) (hp5 : (ptrRep DawgRep).R C.w0 C.S0 w1.d [vP b3 o4]) (A6 : Option Addr) (c7 : Nat) (node8 : Int) (hp9 : R64 node8) (s10 : Str) (hp11 : s10.length ≤ maxLen) (hO : Mem C C.w0 [.box b2 [vP b3 (o4), vL A6 (w1.out) c7, .bool (w1.full)] 91, .row strRep A6 c7 9 w1.out true] []) (hd : ∀ b, C.S0 b → ¬ ownB [.box b2 [vP b3 (o4), vL A6 (w1.out) c7, .bool (w1.full)] 91, .row strRep A6 c7 9 w1.out true] b) (r : l06W) (h : rc w1 node8 s10 = some r),
    Calls Tryz.prog 53 #[vP b2 (0), vI (node8), vS (s10)] C.w0 fun e w => ∃ (A_1 : Option Addr), ∃ (c_1 : Nat), e = .returned (.tuple #[]) ∧ Mem C w [.box b2 [vP b3 (o4), vL A_1 (r.out) c_1, .bool (r.full)] 91, .row strRep A_1 c_1 9 r.out true] []
theorem r_spec_l06W_walk_b (rc : l06W → Int → Str → Option l06W) (ih : Ct_spec_l06W_walk rc) : Ct_spec_l06W_walk (m_spec_l06W_walk_b rc) := by
 intro C w1 b2 b3 o4 hp5 A6 c7 node8 hp9 s10 hp11 hO hd r h
 have hM := hO
 have hM := hM.addIn hd (y := .dat (ptrRep DawgRep) w1.d [vP b3 o4]) hp5
 refine enter Tryz.func53 rfl Tryz.ntmps53 rfl fun a hf => ?_
 unfold m_spec_l06W_walk_b at h
 refine wp_seq ?_
 obtain ⟨x14, h15, h⟩ := bind_some h
 refine seq_join (fun a w => ∃ (t12 : Bool), t12 = x14 ∧ Has 87 a [(0, vP b2 (0)), (1, vI (node8)), (2, vS (s10)), (16, .bool (t12))] ∧ Mem C w [.box b2 [vP b3 (o4), vL A6 (w1.out) c7, .bool (w1.full)] 91, .row strRep A6 c7 9 w1.out true] [.dat (ptrRep DawgRep) w1.d [vP b3 o4]]) ?_ ?_
 ·refine region_pl ?_
  refine q_ hf rfl rfl rfl (e_move hf rfl) fun a hf => ?_
  refine q_ hf rfl rfl rfl (e_nil hf rfl) fun a hf => ?_
  refine q_ hf rfl rfl rfl (e_field hf rfl Tryz.underlying91 rfl Tryz.sizeOf4 (o' := 2) rfl) fun a hf => ?_
  refine q_ hf rfl rfl rfl (e_load1 hf rfl Tryz.isAgg4 (hM.boxCell (k := 0) rfl rfl)) fun a hf => ?_
  refine q_ hf rfl rfl rfl (e_move hf rfl) fun a hf => ?_
  rcases cond_some h15 with ⟨hc16, h15⟩ | ⟨hc16, h15⟩
  ·iterate 3 refine pl_gs (wanted_f hf rfl rfl rfl rfl hc16) hf rfl rfl fun a hf => ?_
   refine q_ hf rfl rfl rfl (e_pick_t hf rfl hc16 rfl) fun a hf => ?_
   refine pl_nil ?_
   obtain rfl := some_inj h15
   refine then_n ?_
   exact ⟨true, rfl, hf.keep ⟨rfl, rfl, rfl, rfl, trivial⟩, hM.pick [0] rfl⟩
  refine gq (wanted_t hf rfl rfl rfl rfl hc16) hf rfl rfl (e_move hf rfl) fun a hf => ?_
  refine gq (wanted_t hf rfl rfl rfl rfl hc16) hf rfl rfl (e_lenS hf (x := s10) rfl Tryz.underlying9) fun a hf => ?_
  refine gq (wanted_t hf rfl rfl rfl rfl hc16) hf rfl rfl (e_gt hf (x := (s10.length : Int)) (y := 13) rfl rfl) fun a hf => ?_
  refine q_ hf rfl rfl rfl (e_pick_f hf rfl hc16 rfl) fun a hf => ?_
  refine pl_nil ?_
  obtain rfl := some_inj h15
  refine then_n ?_
  exact ⟨(decide (13 < (s10.length : Int))), rfl, hf.keep ⟨rfl, rfl, rfl, rfl, trivial⟩, hM.pick [0] rfl⟩
 rintro a w19 ⟨t12, rfl, hf, hM⟩
 try dsimp only at h
 rcases cond_some h with ⟨hc20, h⟩ | ⟨hc20, h⟩
 ·refine cond_t hf rfl hc20 ?_
  refine wp_seq ?_
  refine region_pl ?_
  refine q_ hf rfl rfl rfl (e_move hf rfl) fun a hf => ?_
  refine q_ hf rfl rfl rfl (e_nil hf rfl) fun a hf => ?_
  refine q_ hf rfl rfl rfl (e_field hf rfl Tryz.underlying91 rfl Tryz.sizeOf4 (o' := 2) rfl) fun a hf => ?_
  refine pl_0 hf rfl rfl (w_store hf hM (us := [.bool (true)]) (cs' := [vP b3 (o4), vL A6 (w1.out) c7, .bool (true)]) rfl rfl (k := 0) rfl rfl Tryz.sizeOf4 rfl rfl rfl fun w21 hM => ?_)
  dsimp only [List.set] at hM
  refine pl_nil ?_
  refine then_n ?_
  refine wp_ret ?_
  refine then_r ?_
  obtain rfl := some_inj h
  exact leave0 hf rfl ⟨A6, c7, rfl, hM.fin⟩
 refine cond_f hf rfl hc20 ?_
 refine wp_skip ?_
 refine then_n ?_
 refine wp_seq ?_
 refine region_pl ?_
 refine q_ hf rfl rfl rfl (e_move hf rfl) fun a hf => ?_
 refine q_ hf rfl rfl rfl (e_nil hf rfl) fun a hf => ?_
 refine q_ hf rfl rfl rfl (e_field hf rfl Tryz.underlying91 rfl Tryz.sizeOf53 (o' := 0) rfl) fun a hf => ?_
 refine q_ hf rfl rfl rfl (e_load1 hf rfl Tryz.isAgg53 (hM.boxCell (k := 0) rfl rfl)) fun a hf => ?_
 refine q_ hf rfl rfl rfl (e_nil hf rfl) fun a hf => ?_
 obtain ⟨_, hr24, hM⟩ := hM.deref (hM.dat (k := 0) rfl)
 obtain ⟨A25, c26, rfl, hv27⟩ := DawgRep_open hr24
 have hM := hM.add (y := .dat (sliceRep NodeRep) w1.d.Nodes [vL A25 w1.d.Nodes c26]) hv27
 refine q_ hf rfl rfl rfl (e_field hf rfl Tryz.underlying26 rfl Tryz.sizeOf24 (o' := o4 + 0) rfl) fun a hf => ?_
 refine q_ hf rfl rfl rfl (e_load1 hf rfl Tryz.isAgg24 (hM.litCell (k := 1) (j := 0) rfl rfl rfl)) fun a hf => ?_
 refine q_ hf rfl rfl rfl (e_move hf rfl) fun a hf => ?_
 obtain ⟨e28, hz29, h⟩ := bind_some h
 obtain ⟨b33, o34, _, hA35, h30, h31, hr32, hM⟩ := hM.elem (hM.dat (k := 0) rfl) (n := 3) rfl hz29
 obtain ⟨A37, c38, rfl, hv36, hv39⟩ := NodeRep_open hr32
 have hM := hM.add (y := .dat (sliceRep intRep) e28.Next [vL A37 e28.Next c38]) hv39
 refine q_ hf rfl rfl rfl (e_indexAddr (A := A25) (b := b33) (o := o34) (xs := w1.d.Nodes) (i := node8) hf hA35 rfl rfl Tryz.underlying24 Tryz.sizeOf79 h30 h31) fun a hf => ?_
 refine q_ hf rfl rfl rfl (e_assign hf rfl) fun a hf => ?_
 refine pl_nil ?_
 refine then_n ?_
 obtain ⟨x45, h46, h⟩ := bind_some h
 refine seq_join (fun a w => ∃ (t40 : Bool) (xs42 : (List Str)) (A43 : Option Addr) (c44 : Nat), (t40, xs42) = x45 ∧ Has 87 a [(0, vP b2 (0)), (2, vS (s10)), (6, vP b33 (o34 + (node8 : Int).toNat * 3))] ∧ Mem C w [.box b2 [vP b3 (o4), vL A43 (xs42) c44, .bool (t40)] 91, .row strRep A43 c44 9 xs42 true] [.dat (sliceRep intRep) e28.Next [vL A37 e28.Next c38], .lit b33 (o34 + (node8 : Int).toNat * 3) [.bool (e28.Final), vS (e28.Letters), vL A37 (e28.Next) c38], .dat (sliceRep NodeRep) w1.d.Nodes [vL A25 w1.d.Nodes c26], .lit b3 (o4) [vL A25 (w1.d.Nodes) c26], .dat (ptrRep DawgRep) w1.d [vP b3 o4]]) ?_ ?_
 ·refine wp_seq ?_
  refine region_pl ?_
  refine q_ hf rfl rfl rfl (e_move hf rfl) fun a hf => ?_
  refine q_ hf rfl rfl rfl (e_nil hf rfl) fun a hf => ?_
  refine q_ hf rfl rfl rfl (e_field hf rfl Tryz.underlying79 rfl Tryz.sizeOf4 (o' := (o34 + (node8 : Int).toNat * 3) + 0) rfl) fun a hf => ?_
  refine q_ hf rfl rfl rfl (e_load1 hf rfl Tryz.isAgg4 (hM.litCell (k := 1) (j := 0) rfl rfl rfl)) fun a hf => ?_
  refine pl_nil ?_
  refine then_n ?_
  rcases cond_some h46 with ⟨hc47, h46⟩ | ⟨hc47, h46⟩
  ·refine cond_t hf rfl hc47 ?_
   refine wp_seq ?_
   refine region_pl ?_
   iterate 2 refine q_ hf rfl rfl rfl (e_move hf rfl) fun a hf => ?_
   refine q_ hf rfl rfl rfl (e_nil hf rfl) fun a hf => ?_
   refine q_ hf rfl rfl rfl (e_field hf rfl Tryz.underlying91 rfl Tryz.sizeOf30 (o' := 1) rfl) fun a hf => ?_
   refine q_ hf rfl rfl rfl (e_load1 hf rfl Tryz.isAgg30 (hM.boxCell (k := 0) rfl rfl)) fun a hf => ?_
   refine q_ hf rfl rfl rfl (e_move hf rfl) fun a hf => ?_
   refine pl_l hf rfl rfl rfl (w_slice hf hM (K := strRep) (xs := ([s10] : (List Str))) (os := [.tmp 38]) Tryz.underlying30 ei_9 rfl rfl rfl rfl rfl ⟨⟨[vS (s10)], rfl, ⟨rfl, hp11⟩⟩, trivial⟩ rfl fun b48 w49 hx50 hM a hf => ?_)
   obtain ⟨xs51, hz52, h46⟩ := bind_some h46
   refine pl_l hf rfl rfl rfl (w_append hf hM Tryz.underlying30 ei_9 rfl rfl rfl (k := 2) rfl (hM.srcRow (k := 0) rfl) hz52 fun A53 c54 w55 hM a hf => ?_)
   dsimp only [List.set] at hM
   refine q_ hf rfl rfl rfl (e_nil hf rfl) fun a hf => ?_
   refine q_ hf rfl rfl rfl (e_field hf rfl Tryz.underlying91 rfl Tryz.sizeOf30 (o' := 1) rfl) fun a hf => ?_
   refine pl_0 hf rfl rfl (w_store hf hM (us := [vL A53 (xs51) c54]) (cs' := [vP b3 (o4), vL A53 (xs51) c54, .bool (w1.full)]) rfl rfl (k := 1) rfl rfl Tryz.sizeOf30 rfl rfl rfl fun w58 hM => ?_)
   dsimp only [List.set] at hM
   refine pl_nil ?_
   refine then_n ?_
   refine region_pl ?_
   iterate 2 refine q_ hf rfl rfl rfl (e_move hf rfl) fun a hf => ?_
   refine q_ hf rfl rfl rfl (e_nil hf rfl) fun a hf => ?_
   refine q_ hf rfl rfl rfl (e_field hf rfl Tryz.underlying91 rfl Tryz.sizeOf30 (o' := 1) rfl) fun a hf => ?_
   refine q_ hf rfl rfl rfl (e_load1 hf rfl Tryz.isAgg30 (hM.boxCell (k := 1) rfl rfl)) fun a hf => ?_
   have hl61 := row_len (hM.ownAt (k := 2) rfl)
   refine q_ hf rfl rfl rfl (e_lenL hf (x := xs51) rfl Tryz.underlying30) fun a hf => ?_
   refine q_ hf rfl rfl rfl (e_gt hf (x := (xs51.length : Int)) (y := 3000) rfl rfl) fun a hf => ?_
   refine q_ hf rfl rfl rfl (e_nil hf rfl) fun a hf => ?_
   refine q_ hf rfl rfl rfl (e_field hf rfl Tryz.underlying91 rfl Tryz.sizeOf4 (o' := 2) rfl) fun a hf => ?_
   refine pl_0 hf rfl rfl (w_store hf hM (us := [.bool (decide (3000 < (xs51.length : Int)))]) (cs' := [vP b3 (o4), vL A53 (xs51) c54, .bool (decide (3000 < (xs51.length : Int)))]) rfl rfl (k := 1) rfl rfl Tryz.sizeOf4 rfl rfl rfl fun w62 hM => ?_)
   dsimp only [List.set] at hM
   refine pl_nil ?_
   obtain rfl := some_inj h46
   refine then_n ?_
   exact ⟨(decide (3000 < (xs51.length : Int))), xs51, A53, c54, rfl, hf.keep ⟨rfl, rfl, rfl, trivial⟩, (hM.drop (.cons _ (.cons_cons _ (.cons_cons _ .slnil)))).pick [0, 1, 2, 3, 4] rfl⟩
  refine cond_f hf rfl hc47 ?_
  refine wp_skip ?_
  obtain rfl := some_inj h46
  refine then_n ?_
  exact ⟨w1.full, w1.out, A6, c7, rfl, hf.keep ⟨rfl, rfl, rfl, trivial⟩, hM.pick [0, 1, 2, 3, 4] rfl⟩
 rintro a w67 ⟨t40, xs42, A43, c44, rfl, hf, hM⟩
 try dsimp only at h
 refine wp_seq ?_
 refine region_pl ?_
 refine q_ hf rfl rfl rfl (e_assign hf rfl) fun a hf => ?_
 refine pl_nil ?_
 refine then_n ?_
 refine wp_block ?_
 obtain ⟨x81, h82, h⟩ := bind_some h
 refine wp_loopM h82 (fun s a w => ∃ (t68 : Bool) (xs70 : (List Str)) (n73 : Int) (A71 : Option Addr) (c72 : Nat), (t68, xs70, n73) = s ∧ Has 87 a [(0, vP b2 (0)), (2, vS (s10)), (6, vP b33 (o34 + (node8 : Int).toNat * 3)), (7, vI (n73))] ∧ Mem C w [.box b2 [vP b3 (o4), vL A71 (xs70) c72, .bool (t68)] 91, .row strRep A71 c72 9 xs70 true] [.dat (sliceRep intRep) e28.Next [vL A37 e28.Next c38], .lit b33 (o34 + (node8 : Int).toNat * 3) [.bool (e28.Final), vS (e28.Letters), vL A37 (e28.Next) c38], .dat (sliceRep NodeRep) w1.d.Nodes [vL A25 w1.d.Nodes c26], .lit b3 (o4) [vL A25 (w1.d.Nodes) c26], .dat (ptrRep DawgRep) w1.d [vP b3 o4]] ∧ R64 n73) ?_ ?_
 ·exact ⟨t40, xs42, 0, A43, c44, rfl, hf.keep ⟨rfl, rfl, rfl, rfl, trivial⟩, hM.pick [0, 1, 2, 3, 4] rfl, (R64_lit rfl)⟩
 rintro s o83 a w75 ⟨t68, xs70, n73, A71, c72, rfl, hf, hM, hv74⟩ h84 hd85
 replace h84 : m_spec_l06W_walk_l1 e28 s10 rc w1 t68 xs70 n73 = some o83 := h84
 unfold m_spec_l06W_walk_l1 at h84
 refine wp_seq ?_
 obtain ⟨x88, h89, h84⟩ := bind_some h84
 refine seq_join (fun a w => ∃ (t86 : Bool), t86 = x88 ∧ Has 87 a [(0, vP b2 (0)), (2, vS (s10)), (6, vP b33 (o34 + (node8 : Int).toNat * 3)), (7, vI (n73)), (65, .bool (t86))] ∧ Mem C w [.box b2 [vP b3 (o4), vL A71 (xs70) c72, .bool (t68)] 91, .row strRep A71 c72 9 xs70 true] [.dat (sliceRep intRep) e28.Next [vL A37 e28.Next c38], .lit b33 (o34 + (node8 : Int).toNat * 3) [.bool (e28.Final), vS (e28.Letters), vL A37 (e28.Next) c38], .dat (sliceRep NodeRep) w1.d.Nodes [vL A25 w1.d.Nodes c26], .lit b3 (o4) [vL A25 (w1.d.Nodes) c26], .dat (ptrRep DawgRep) w1.d [vP b3 o4]]) ?_ ?_
 ·refine region_pl ?_
  iterate 2 refine q_ hf rfl rfl rfl (e_move hf rfl) fun a hf => ?_
  refine q_ hf rfl rfl rfl (e_nil hf rfl) fun a hf => ?_
  refine q_ hf rfl rfl rfl (e_field hf rfl Tryz.underlying79 rfl Tryz.sizeOf77 (o' := (o34 + (node8 : Int).toNat * 3) + 2) rfl) fun a hf => ?_
  refine q_ hf rfl rfl rfl (e_load1 hf rfl Tryz.isAgg77 (hM.litCell (k := 1) (j := 2) rfl rfl rfl)) fun a hf => ?_
  have hl90 := slice_len (hM.dat (k := 0) rfl)
  refine q_ hf rfl rfl rfl (e_lenL hf (x := e28.Next) rfl Tryz.underlying77) fun a hf => ?_
  refine q_ hf rfl rfl rfl (e_lt hf (x := n73) (y := (e28.Next.length : Int)) rfl rfl) fun a hf => ?_
  refine q_ hf rfl rfl rfl (e_move hf rfl) fun a hf => ?_
  rcases cond_some h89 with ⟨hc91, h89⟩ | ⟨hc91, h89⟩
  ·refine gq (wanted_t hf rfl rfl rfl rfl hc91) hf rfl rfl (e_move hf rfl) fun a hf => ?_
   refine gq (wanted_t hf rfl rfl rfl rfl hc91) hf rfl rfl (e_nil hf rfl) fun a hf => ?_
   refine gq (wanted_t hf rfl rfl rfl rfl hc91) hf rfl rfl (e_field hf rfl Tryz.underlying91 rfl Tryz.sizeOf4 (o' := 2) rfl) fun a hf => ?_
   refine gq (wanted_t hf rfl rfl rfl rfl hc91) hf rfl rfl (e_load1 hf rfl Tryz.isAgg4 (hM.boxCell (k := 0) rfl rfl)) fun a hf => ?_
   refine gq (wanted_t hf rfl rfl rfl rfl hc91) hf rfl rfl (e_not hf rfl) fun a hf => ?_
   refine q_ hf rfl rfl rfl (e_pick_t hf rfl hc91 rfl) fun a hf => ?_
   refine pl_nil ?_
   obtain rfl := some_inj h89
   refine then_n ?_
   exact ⟨(!t68), rfl, hf.keep ⟨rfl, rfl, rfl, rfl, rfl, trivial⟩, hM.pick [0, 1, 2, 3, 4] rfl⟩
  iterate 5 refine pl_gs (wanted_f hf rfl rfl rfl rfl hc91) hf rfl rfl fun a hf => ?_
  refine q_ hf rfl rfl rfl (e_pick_f hf rfl hc91 rfl) fun a hf => ?_
  refine pl_nil ?_
  obtain rfl := some_inj h89
  refine then_n ?_
  exact ⟨false, rfl, hf.keep ⟨rfl, rfl, rfl, rfl, rfl, trivial⟩, hM.pick [0, 1, 2, 3, 4] rfl⟩
 rintro a w94 ⟨t86, rfl, hf, hM⟩
 try dsimp only at h84
 rcases cond_some h84 with ⟨hc95, h84⟩ | ⟨hc95, h84⟩
 ·refine cond_t hf rfl hc95 ?_
  refine wp_skip ?_
  refine then_n ?_
  refine wp_seq ?_
  refine wp_block ?_
  obtain ⟨w96, hw⟩ : ∃ x, x = w94.drew := ⟨_, rfl⟩
  refine region_pi (.q 0 (.q 1 (.q 2 (.q 3 (.q 4 (.q 5 (.q 6 (.q 7 (.q 8 (.q 9 (.q 10 (.q 11 (.q 12 (.q 13 (.q 14 (.q 15 (.q 16 (.q 17 (.l 18 (.nil)))))))))))))))))))) (Ext w96) rfl (by kernel_rfl) ?_
  have hM := hM.drew
  rw [← hw] at hM ⊢
  clear hw
  iterate 2 refine pi_q hf rfl rfl rfl rfl (Ext.refl _) (e_move hf rfl) fun a hf => ?_
  refine pi_q hf rfl rfl rfl rfl (Ext.refl _) (e_nil hf rfl) fun a hf => ?_
  refine pi_q hf rfl rfl rfl rfl (Ext.refl _) (e_field hf rfl Tryz.underlying79 rfl Tryz.sizeOf77 (o' := (o34 + (node8 : Int).toNat * 3) + 2) rfl) fun a hf => ?_
  refine pi_q hf rfl rfl rfl rfl (Ext.refl _) (e_load1 hf rfl Tryz.isAgg77 (hM.litCell (k := 1) (j := 2) rfl rfl rfl)) fun a hf => ?_
  refine pi_q hf rfl rfl rfl rfl (Ext.refl _) (e_move hf rfl) fun a hf => ?_
  obtain ⟨e97, hz98, h84⟩ := bind_some h84
  obtain ⟨b102, o103, _, hA104, h99, h100, hr101, hM⟩ := hM.elem (hM.dat (k := 0) rfl) (n := 1) rfl hz98
  obtain ⟨rfl, hv105⟩ := hr101
  refine pi_q hf rfl rfl rfl rfl (Ext.refl _) (e_indexAddr (A := A37) (b := b102) (o := o103) (xs := e28.Next) (i := n73) hf hA104 rfl rfl Tryz.underlying77 Tryz.sizeOf2 h99 h100) fun a hf => ?_
  refine pi_q hf rfl rfl rfl rfl (Ext.refl _) (e_load1 hf rfl Tryz.isAgg2 (hM.litCell (k := 0) (j := 0) rfl rfl rfl)) fun a hf => ?_
  iterate 2 refine pi_q hf rfl rfl rfl rfl (Ext.refl _) (e_move hf rfl) fun a hf => ?_
  refine pi_q hf rfl rfl rfl rfl (Ext.refl _) (e_nil hf rfl) fun a hf => ?_
  refine pi_q hf rfl rfl rfl rfl (Ext.refl _) (e_field hf rfl Tryz.underlying79 rfl Tryz.sizeOf9 (o' := (o34 + (node8 : Int).toNat * 3) + 1) rfl) fun a hf => ?_
  refine pi_q hf rfl rfl rfl rfl (Ext.refl _) (e_load1 hf rfl Tryz.isAgg9 (hM.litCell (k := 2) (j := 1) rfl rfl rfl)) fun a hf => ?_
  iterate 2 refine pi_q hf rfl rfl rfl rfl (Ext.refl _) (e_move hf rfl) fun a hf => ?_
  obtain ⟨z106, hz107, h84⟩ := bind_some h84
  refine pi_q hf rfl rfl rfl rfl (Ext.refl _) (e_add hf rfl rfl hz107) fun a hf => ?_
  obtain ⟨s108, hz109, h84⟩ := bind_some h84
  refine pi_q hf rfl rfl rfl rfl (Ext.refl _) (e_subS hf (x := e28.Letters) rfl rfl rfl Tryz.underlying9 hz109) fun a hf => ?_
  obtain ⟨s110, hz111, h84⟩ := bind_some h84
  refine pi_q hf rfl rfl rfl rfl (Ext.refl _) (e_cat hf (x := s10) (y := s108) rfl rfl hz111) fun a hf => ?_
  refine pi_one ?_
  have hM : Mem C _ ([.box b2 [vP b3 (o4), vL A71 (xs70) c72, .bool (t68)] 91, .row strRep A71 c72 9 xs70 true] ++ []) _ := hM
  obtain ⟨y112, hz113, h84⟩ := bind_some h84
  refine pi_z hf rfl rfl rfl rfl (by kernel_rfl) (w_call hf Tryz.call53 rfl (ih ⟨_, Sh C _ _, ownB _, hM.sh_lt, sub_dis, C.G, hM.g_lt, hM.g_own, hM.tabs⟩ (⟨w1.d, xs70, t68⟩ : l06W) _ _ _ (hM.dat (k := 5) rfl) _ _ e97 hv105 s110 (cat_len hz111) hM.sub sub_dis _ hz113) ?_)
  rintro _ w116 ⟨A114, c115, rfl, hM2⟩
  obtain ⟨hM, hup118⟩ := hM.backG hM2
  dsimp only [List.cons_append, List.nil_append] at hM hup118
  clear hM2
  refine ⟨_, rfl, fun a hf => ?_⟩
  refine pi_nil ?_
  refine blk_n ?_
  refine then_n ?_
  refine region_pl ?_
  refine q_ hf rfl rfl rfl (e_move hf rfl) fun a hf => ?_
  obtain ⟨z119, hz120, h84⟩ := bind_some h84
  refine q_ hf rfl rfl rfl (e_add hf rfl rfl hz120) fun a hf => ?_
  refine q_ hf rfl rfl rfl (e_assign hf rfl) fun a hf => ?_
  refine pl_nil ?_
  obtain rfl := some_inj h84
  refine then_n ⟨_, rfl, ?_⟩
  exact ⟨y112.full, y112.out, z119, A114, c115, rfl, hf.keep ⟨rfl, rfl, rfl, rfl, trivial⟩, hM.pick [1, 2, 3, 4, 5] rfl, (chk_R hz120)⟩
 refine cond_f hf rfl hc95 ?_
 refine wp_exit ?_
 refine then_x ?_
 obtain rfl := some_inj h84
 obtain rfl := hd85 _ rfl
 try dsimp only at h
 refine then_x ?_
 refine exit_hit ?_
 obtain rfl := some_inj h
 exact leave0n hf rfl ⟨A71, c72, rfl, hM.fin⟩
theorem r_spec_l06W_walk_n : ∀ n, Ct_spec_l06W_walk (m_spec_l06W_walk_n n)
  | 0 => fun C w1 b2 b3 o4 hp5 A6 c7 node8 hp9 s10 hp11 hO hd r h => by cases h
  | n + 1 => r_spec_l06W_walk_b _ (r_spec_l06W_walk_n n)
theorem r_spec_l06W_walk : Ct_spec_l06W_walk (m_spec_l06W_walk) := r_spec_l06W_walk_n fuelN
theorem r_spec_l06Words (C : Cx) (d1 : Dawg) (b2 : Nat) (o3 : Nat) (hp4 : (ptrRep DawgRep).R C.w0 C.S0 d1 [vP b2 o3]) (r : ((List Str) × Bool)) (h : m_spec_l06Words d1 = some r) :
    Calls Tryz.prog 30 #[vP b2 (o3)] C.w0 fun e w => ∃ (A_1 : Option Addr), ∃ (c_1 : Nat), e = .returned (.tuple #[vL A_1 (r.1) c_1, .bool (r.2)]) ∧ Mem C w [.row strRep A_1 c_1 9 r.1 true] [] := by
 have hM := Mem.begin C [.dat (ptrRep DawgRep) d1 [vP b2 o3]] ⟨hp4, trivial⟩
 refine enter Tryz.func30 rfl Tryz.ntmps30 rfl fun a hf => ?_
 unfold m_spec_l06Words at h
 refine wp_seq ?_
 refine region_pl ?_
 iterate 2 refine q_ hf rfl rfl rfl (e_assign hf rfl) fun a hf => ?_
 refine pl_nil ?_
 refine then_n ?_
 refine wp_seq ?_
 refine region_pl ?_
 refine q_ hf rfl rfl rfl (e_move hf rfl) fun a hf => ?_
 refine pl_l hf rfl rfl rfl (w_slice0 (K := strRep) hM Tryz.underlying30 ei_9 fun b5 w6 hx7 hM a hf => ?_)
 refine q_ hf rfl rfl rfl (e_build hf Tryz.zeroValue91 Tryz.underlying91 (bp_91 _ Tryz.underlying91.symm) rfl (cs := #[vP b2 (o3), vL (some ⟨b5, 0, none⟩) (([] : (List Str))) 0, .bool (false)]) (by kernel_rfl)) fun a hf => ?_
 refine pl_l hf rfl rfl rfl (w_box hf hM (cs := [vP b2 (o3), vL (some ⟨b5, 0, none⟩) (([] : (List Str))) 0, .bool (false)]) rfl rfl fun b8 w9 hx10 hM a hf => ?_)
 refine q_ hf rfl rfl rfl (e_assign hf rfl) fun a hf => ?_
 refine pl_nil ?_
 refine then_n ?_
 refine wp_seq ?_
 refine region_pl ?_
 refine q_ hf rfl rfl rfl (e_move hf rfl) fun a hf => ?_
 have hM : Mem C _ ([.box b8 [vP b2 (o3), vL (some ⟨b5, 0, none⟩) (([] : (List Str))) 0, .bool (false)] 91, .row strRep (some ⟨b5, 0, none⟩) 0 9 ([] : (List Str)) true] ++ []) _ := hM
 obtain ⟨y12, hz13, h⟩ := bind_some h
 refine pl_l hf rfl rfl rfl (w_call hf Tryz.call53 rfl (r_spec_l06W_walk ⟨_, Sh C _ _, ownB _, hM.sh_lt, sub_dis, C.G, hM.g_lt, hM.g_own, hM.tabs⟩ (⟨d1, ([] : (List Str)), false⟩ : l06W) _ _ _ (hM.dat (k := 0) rfl) _ _ 0 (R64_lit rfl) ([] : Str) (lit_len rfl) hM.sub sub_dis _ hz13) ?_)
 rintro _ w16 ⟨A14, c15, rfl, hM2⟩
 obtain ⟨hM, hup18⟩ := hM.backG hM2
 dsimp only [List.cons_append, List.nil_append] at hM hup18
 clear hM2
 refine ⟨_, rfl, fun a hf => ?_⟩
 refine pl_nil ?_
 refine then_n ?_
 refine wp_seq ?_
 obtain ⟨w19, hw⟩ : ∃ x, x = w16.drew := ⟨_, rfl⟩
 refine region_pi (.q 0 (.q 1 (.q 2 (.q 3 (.q 4 (.q 5 (.q 6 (.q 7 (.q 8 (.q 9 (.q 10 (.nil)))))))))))) (Ext w19) rfl (by kernel_rfl) ?_
 have hM := hM.drew
 rw [← hw] at hM ⊢
 clear hw
 refine pi_q hf rfl rfl rfl rfl (Ext.refl _) (e_move hf rfl) fun a hf => ?_
 refine pi_q hf rfl rfl rfl rfl (Ext.refl _) (e_nil hf rfl) fun a hf => ?_
 refine pi_q hf rfl rfl rfl rfl (Ext.refl _) (e_field hf rfl Tryz.underlying91 rfl Tryz.sizeOf30 (o' := 1) rfl) fun a hf => ?_
 refine pi_q hf rfl rfl rfl rfl (Ext.refl _) (e_load1 hf rfl Tryz.isAgg30 (hM.boxCell (k := 0) rfl rfl)) fun a hf => ?_
 refine pi_q hf rfl rfl rfl rfl (Ext.refl _) (e_move hf rfl) fun a hf => ?_
 refine pi_q hf rfl rfl rfl rfl (Ext.refl _) (e_nil hf rfl) fun a hf => ?_
 refine pi_q hf rfl rfl rfl rfl (Ext.refl _) (e_field hf rfl Tryz.underlying91 rfl Tryz.sizeOf4 (o' := 2) rfl) fun a hf => ?_
 refine pi_q hf rfl rfl rfl rfl (Ext.refl _) (e_load1 hf rfl Tryz.isAgg4 (hM.boxCell (k := 0) rfl rfl)) fun a hf => ?_
 refine pi_q hf rfl rfl rfl rfl (Ext.refl _) (e_not hf rfl) fun a hf => ?_
 iterate 2 refine pi_q hf rfl rfl rfl rfl (Ext.refl _) (e_assign hf rfl) fun a hf => ?_
 refine pi_nil ?_
 refine then_n ?_
 refine wp_ret ?_
 obtain rfl := some_inj h
 have hM := hM.front (k := 1) rfl
 dsimp only [List.eraseIdx] at hM
 have hM := hM.outs (own' := [.row strRep A14 c15 9 y12.out true]) 1 rfl
 exact leave2 hf rfl rfl rfl ⟨A14, c15, rfl, hM.fin⟩
theorem r_spec_l06Tails (C : Cx) (list1 : (List Str)) (A2 : Option Addr) (c3 : Nat) (hp4 : (sliceRep strRep).R C.w0 C.S0 list1 [vL A2 list1 c3]) (from_5 : Int) (hp6 : R64 from_5) (r : ((List Str) × Int)) (h : m_spec_l06Tails list1 from_5 = some r) :
    Calls Tryz.prog 101 #[vL A2 (list1) c3, vI (from_5)] C.w0 fun e w => ∃ (A_1 : Option Addr), ∃ (c_1 : Nat), e = .returned (.tuple #[vL A_1 (r.1) c_1, vI (r.2)]) ∧ Mem C w [.row strRep A_1 c_1 9 r.1 true] [] ∧ R64 r.2 := by
 have hM := Mem.begin C [.dat (sliceRep strRep) list1 [vL A2 list1 c3]] ⟨hp4, trivial⟩
 refine enter Tryz.func101 rfl Tryz.ntmps101 rfl fun a hf => ?_
 unfold m_spec_l06Tails at h
 refine wp_seq ?_
 refine region_pl ?_
 iterate 2 refine q_ hf rfl rfl rfl (e_assign hf rfl) fun a hf => ?_
 refine pl_nil ?_
 refine then_n ?_
 refine wp_seq ?_
 refine region_pl ?_
 refine pl_l hf rfl rfl rfl (w_slice0 (K := strRep) hM Tryz.underlying30 ei_9 fun b7 w8 hx9 hM a hf => ?_)
 refine q_ hf rfl rfl rfl (e_assign hf rfl) fun a hf => ?_
 refine pl_nil ?_
 refine then_n ?_
 refine wp_seq ?_
 refine region_pl ?_
 iterate 2 refine q_ hf rfl rfl rfl (e_move hf rfl) fun a hf => ?_
 obtain ⟨e10, hz11, h⟩ := bind_some h
 obtain ⟨b15, o16, _, hA17, h12, h13, hr14, hM⟩ := hM.elem (hM.dat (k := 0) rfl) (n := 1) rfl hz11
 obtain ⟨rfl, hv18⟩ := hr14
 refine q_ hf rfl rfl rfl (e_indexAddr (A := A2) (b := b15) (o := o16) (xs := list1) (i := from_5) hf hA17 rfl rfl Tryz.underlying30 Tryz.sizeOf9 h12 h13) fun a hf => ?_
 refine q_ hf rfl rfl rfl (e_load1 hf rfl Tryz.isAgg9 (hM.litCell (k := 0) (j := 0) rfl rfl rfl)) fun a hf => ?_
 obtain ⟨c19, hz20, h⟩ := bind_some h
 refine q_ hf rfl rfl rfl (e_indexS hf (x := e10) rfl rfl Tryz.underlying9 hz20) fun a hf => ?_
 refine q_ hf rfl rfl rfl (e_assign hf rfl) fun a hf => ?_
 refine pl_nil ?_
 refine then_n ?_
 refine wp_seq ?_
 refine region_pl ?_
 refine q_ hf rfl rfl rfl (e_move hf rfl) fun a hf => ?_
 refine q_ hf rfl rfl rfl (e_assign hf rfl) fun a hf => ?_
 refine pl_nil ?_
 refine then_n ?_
 obtain ⟨x26, h27, h⟩ := bind_some h
 refine seq_join (fun a w => ∃ (xs21 : (List Str)) (n24 : Int) (A22 : Option Addr) (c23 : Nat), (xs21, n24) = x26 ∧ Has 41 a [(6, vL A22 (xs21) c23), (8, vI (n24))] ∧ Mem C w [.row strRep A22 c23 9 xs21 true] [.lit b15 (o16 + (from_5 : Int).toNat * 1) [vS (e10)], .dat (sliceRep strRep) list1 [vL A2 list1 c3]] ∧ R64 n24) ?_ ?_
 ·refine wp_block ?_
  obtain ⟨x39, h40, h27⟩ := bind_some h27
  refine wp_loopM h40 (fun s a w => ∃ (xs28 : (List Str)) (n31 : Int) (A29 : Option Addr) (c30 : Nat), (xs28, n31) = s ∧ Has 41 a [(0, vL A2 (list1) c3), (6, vL A29 (xs28) c30), (7, vB (c19)), (8, vI (n31))] ∧ Mem C w [.row strRep A29 c30 9 xs28 true] [.lit b15 (o16 + (from_5 : Int).toNat * 1) [vS (e10)], .dat (sliceRep strRep) list1 [vL A2 list1 c3]] ∧ R64 n31) ?_ ?_
  ·exact ⟨([] : (List Str)), from_5, (some ⟨b7, 0, none⟩), 0, rfl, hf.keep ⟨rfl, rfl, rfl, rfl, trivial⟩, hM.pick [0, 1] rfl, hp6⟩
  rintro s o41 a w33 ⟨xs28, n31, A29, c30, rfl, hf, hM, hv32⟩ h42 hd43
  replace h42 : m_spec_l06Tails_l1 list1 c19 xs28 n31 = some o41 := h42
  unfold m_spec_l06Tails_l1 at h42
  refine wp_seq ?_
  obtain ⟨x46, h47, h42⟩ := bind_some h42
  refine seq_join (fun a w => ∃ (t44 : Bool), t44 = x46 ∧ Has 41 a [(0, vL A2 (list1) c3), (6, vL A29 (xs28) c30), (7, vB (c19)), (8, vI (n31)), (28, .bool (t44))] ∧ Mem C w [.row strRep A29 c30 9 xs28 true] [.lit b15 (o16 + (from_5 : Int).toNat * 1) [vS (e10)], .dat (sliceRep strRep) list1 [vL A2 list1 c3]]) ?_ ?_
  ·refine region_pl ?_
   iterate 2 refine q_ hf rfl rfl rfl (e_move hf rfl) fun a hf => ?_
   have hl48 := slice_len (hM.dat (k := 1) rfl)
   refine q_ hf rfl rfl rfl (e_lenL hf (x := list1) rfl Tryz.underlying30) fun a hf => ?_
   refine q_ hf rfl rfl rfl (e_lt hf (x := n31) (y := (list1.length : Int)) rfl rfl) fun a hf => ?_
   refine q_ hf rfl rfl rfl (e_move hf rfl) fun a hf => ?_
   rcases cond_some h47 with ⟨hc49, h47⟩ | ⟨hc49, h47⟩
   ·iterate 2 refine gq (wanted_t hf rfl rfl rfl rfl hc49) hf rfl rfl (e_move hf rfl) fun a hf => ?_
    obtain ⟨e50, hz51, h47⟩ := bind_some h47
    obtain ⟨b55, o56, _, hA57, h52, h53, hr54, hM⟩ := hM.elem (hM.dat (k := 1) rfl) (n := 1) rfl hz51
    obtain ⟨rfl, hv58⟩ := hr54
    refine gq (wanted_t hf rfl rfl rfl rfl hc49) hf rfl rfl (e_indexAddr (A := A2) (b := b55) (o := o56) (xs := list1) (i := n31) hf hA57 rfl rfl Tryz.underlying30 Tryz.sizeOf9 h52 h53) fun a hf => ?_
    refine gq (wanted_t hf rfl rfl rfl rfl hc49) hf rfl rfl (e_load1 hf rfl Tryz.isAgg9 (hM.litCell (k := 0) (j := 0) rfl rfl rfl)) fun a hf => ?_
    obtain ⟨c59, hz60, h47⟩ := bind_some h47
    refine gq (wanted_t hf rfl rfl rfl rfl hc49) hf rfl rfl (e_indexS hf (x := e50) rfl rfl Tryz.underlying9 hz60) fun a hf => ?_
    refine gq (wanted_t hf rfl rfl rfl rfl hc49) hf rfl rfl (e_move hf rfl) fun a hf => ?_
    refine gq (wanted_t hf rfl rfl rfl rfl hc49) hf rfl rfl (e_eqB hf (x := c59) (y := c19) rfl rfl) fun a hf => ?_
    refine q_ hf rfl rfl rfl (e_pick_t hf rfl hc49 rfl) fun a hf => ?_
    refine pl_nil ?_
    obtain rfl := some_inj h47
    refine then_n ?_
    exact ⟨(c59 == c19), rfl, hf.keep ⟨rfl, rfl, rfl, rfl, rfl, trivial⟩, hM.pick [1, 2] rfl⟩
   iterate 7 refine pl_gs (wanted_f hf rfl rfl rfl rfl hc49) hf rfl rfl fun a hf => ?_
   refine q_ hf rfl rfl rfl (e_pick_f hf rfl hc49 rfl) fun a hf => ?_
   refine pl_nil ?_
   obtain rfl := some_inj h47
   refine then_n ?_
   exact ⟨false, rfl, hf.keep ⟨rfl, rfl, rfl, rfl, rfl, trivial⟩, hM.pick [0, 1] rfl⟩
  rintro a w63 ⟨t44, rfl, hf, hM⟩
  try dsimp only at h42
  rcases cond_some h42 with ⟨hc64, h42⟩ | ⟨hc64, h42⟩
  ·refine cond_t hf rfl hc64 ?_
   refine wp_skip ?_
   refine then_n ?_
   refine wp_block ?_
   refine wp_seq ?_
   refine region_pl ?_
   iterate 3 refine q_ hf rfl rfl rfl (e_move hf rfl) fun a hf => ?_
   obtain ⟨e65, hz66, h42⟩ := bind_some h42
   obtain ⟨b70, o71, _, hA72, h67, h68, hr69, hM⟩ := hM.elem (hM.dat (k := 1) rfl) (n := 1) rfl hz66
   obtain ⟨rfl, hv73⟩ := hr69
   refine q_ hf rfl rfl rfl (e_indexAddr (A := A2) (b := b70) (o := o71) (xs := list1) (i := n31) hf hA72 rfl rfl Tryz.underlying30 Tryz.sizeOf9 h67 h68) fun a hf => ?_
   refine q_ hf rfl rfl rfl (e_load1 hf rfl Tryz.isAgg9 (hM.litCell (k := 0) (j := 0) rfl rfl rfl)) fun a hf => ?_
   obtain ⟨s74, hz75, h42⟩ := bind_some h42
   refine q_ hf rfl rfl rfl (e_subSl hf (x := e65) rfl rfl Tryz.underlying9 hz75) fun a hf => ?_
   refine pl_l hf rfl rfl rfl (w_slice hf hM (K := strRep) (xs := ([s74] : (List Str))) (os := [.tmp 34]) Tryz.underlying30 ei_9 rfl rfl rfl rfl rfl ⟨⟨[vS (s74)], rfl, ⟨rfl, (sub_len hz75 hv73)⟩⟩, trivial⟩ rfl fun b76 w77 hx78 hM a hf => ?_)
   obtain ⟨xs79, hz80, h42⟩ := bind_some h42
   refine pl_l hf rfl rfl rfl (w_append hf hM Tryz.underlying30 ei_9 rfl rfl rfl (k := 1) rfl (hM.srcRow (k := 0) rfl) hz80 fun A81 c82 w83 hM a hf => ?_)
   dsimp only [List.set] at hM
   refine q_ hf rfl rfl rfl (e_assign hf rfl) fun a hf => ?_
   refine pl_nil ?_
   refine then_n ?_
   refine region_pl ?_
   refine q_ hf rfl rfl rfl (e_move hf rfl) fun a hf => ?_
   obtain ⟨z86, hz87, h42⟩ := bind_some h42
   refine q_ hf rfl rfl rfl (e_add hf rfl rfl hz87) fun a hf => ?_
   refine q_ hf rfl rfl rfl (e_assign hf rfl) fun a hf => ?_
   refine pl_nil ?_
   refine blk_n ?_
   obtain rfl := some_inj h42
   refine then_n ⟨_, rfl, ?_⟩
   exact ⟨xs79, z86, A81, c82, rfl, hf.keep ⟨rfl, rfl, rfl, rfl, trivial⟩, (hM.drop (.cons _ (.cons_cons _ .slnil))).pick [1, 2] rfl, (chk_R hz87)⟩
  refine cond_f hf rfl hc64 ?_
  refine wp_exit ?_
  refine then_x ?_
  obtain rfl := some_inj h42
  obtain rfl := hd43 _ rfl
  try dsimp only at h27
  refine then_x ?_
  refine exit_hit ?_
  obtain rfl := some_inj h27
  refine then_n ?_
  exact ⟨xs28, n31, A29, c30, rfl, hf.keep ⟨rfl, rfl, trivial⟩, hM.pick [0, 1] rfl, hv32⟩
 rintro a w93 ⟨xs21, n24, A22, c23, rfl, hf, hM, hv25⟩
 try dsimp only at h
 refine wp_seq ?_
 refine region_pl ?_
 iterate 2 refine q_ hf rfl rfl rfl (e_move hf rfl) fun a hf => ?_
 iterate 2 refine q_ hf rfl rfl rfl (e_assign hf rfl) fun a hf => ?_
 refine pl_nil ?_
 refine then_n ?_
 refine wp_ret ?_
 obtain rfl := some_inj h
 exact leave2 hf rfl rfl rfl ⟨A22, c23, rfl, hM.fin, hv25⟩
theorem r_spec_l00Same (C : Cx) (a1 : (List Int)) (A2 : Option Addr) (c3 : Nat) (hp4 : (sliceRep intRep).R C.w0 C.S0 a1 [vL A2 a1 c3]) (b5 : (List Int)) (A6 : Option Addr) (c7 : Nat) (hp8 : (sliceRep intRep).R C.w0 C.S0 b5 [vL A6 b5 c7]) (r : Bool) (h : m_spec_l00Same a1 b5 = some r) :
    Calls Tryz.prog 95 #[vL A2 (a1) c3, vL A6 (b5) c7] C.w0 fun e w => e = .returned (.bool (r)) ∧ Mem C w [] [] := by
 have hM := Mem.begin C [.dat (sliceRep intRep) b5 [vL A6 b5 c7], .dat (sliceRep intRep) a1 [vL A2 a1 c3]] ⟨hp8, hp4, trivial⟩
 refine enter Tryz.func95 rfl Tryz.ntmps95 rfl fun a hf => ?_
 unfold m_spec_l00Same at h
 refine wp_seq ?_
 refine region_pl ?_
 refine q_ hf rfl rfl rfl (e_assign hf rfl) fun a hf => ?_
 refine pl_nil ?_
 refine then_n ?_
 iterate 2 refine wp_seq ?_
 refine region_pl ?_
 refine q_ hf rfl rfl rfl (e_move hf rfl) fun a hf => ?_
 have hl9 := slice_len (hM.dat (k := 1) rfl)
 refine q_ hf rfl rfl rfl (e_lenL hf (x := a1) rfl Tryz.underlying77) fun a hf => ?_
 refine q_ hf rfl rfl rfl (e_move hf rfl) fun a hf => ?_
 have hl10 := slice_len (hM.dat (k := 0) rfl)
 refine q_ hf rfl rfl rfl (e_lenL hf (x := b5) rfl Tryz.underlying77) fun a hf => ?_
 refine q_ hf rfl rfl rfl (e_ne hf (x := (a1.length : Int)) (y := (b5.length : Int)) rfl rfl) fun a hf => ?_
 refine pl_nil ?_
 refine then_n ?_
 rcases cond_some h with ⟨hc11, h⟩ | ⟨hc11, h⟩
 ·refine cond_t hf rfl hc11 ?_
  refine wp_seq ?_
  refine region_pl ?_
  refine q_ hf rfl rfl rfl (e_assign hf rfl) fun a hf => ?_
  refine pl_nil ?_
  refine then_n ?_
  refine wp_ret ?_
  refine then_r ?_
  obtain rfl := some_inj h
  exact leave1 hf rfl rfl ⟨rfl, hM.fin⟩
 refine cond_f hf rfl hc11 ?_
 refine wp_skip ?_
 refine then_n ?_
 obtain ⟨x12, h13, h⟩ := bind_some h
 refine seq_join (fun a w => (.inl ()) = x12 ∧ Has 26 a [] ∧ Mem C w [] [.dat (sliceRep intRep) b5 [vL A6 b5 c7], .dat (sliceRep intRep) a1 [vL A2 a1 c3]]) ?_ ?_
 ·refine wp_seq ?_
  refine region_pl ?_
  refine q_ hf rfl rfl rfl (e_assign hf rfl) fun a hf => ?_
  refine pl_nil ?_
  refine then_n ?_
  refine wp_block ?_
  obtain ⟨x17, h18, h13⟩ := bind_some h13
  refine wp_loopM h18 (fun s a w => ∃ (n14 : Int), n14 = s ∧ Has 26 a [(0, vL A2 (a1) c3), (1, vL A6 (b5) c7), (5, vI (n14))] ∧ Mem C w [] [.dat (sliceRep intRep) b5 [vL A6 b5 c7], .dat (sliceRep intRep) a1 [vL A2 a1 c3]] ∧ R64 n14) ?_ ?_
  ·exact ⟨0, rfl, hf.keep ⟨rfl, rfl, rfl, trivial⟩, hM.pick [0, 1] rfl, (R64_lit rfl)⟩
  rintro s o19 a w16 ⟨n14, rfl, hf, hM, hv15⟩ h20 hd21
  replace h20 : m_spec_l00Same_l1 a1 b5 n14 = some o19 := h20
  unfold m_spec_l00Same_l1 at h20
  iterate 2 refine wp_seq ?_
  refine region_pl ?_
  iterate 2 refine q_ hf rfl rfl rfl (e_move hf rfl) fun a hf => ?_
  have hl22 := slice_len (hM.dat (k := 1) rfl)
  refine q_ hf rfl rfl rfl (e_lenL hf (x := a1) rfl Tryz.underlying77) fun a hf => ?_
  refine q_ hf rfl rfl rfl (e_lt hf (x := n14) (y := (a1.length : Int)) rfl rfl) fun a hf => ?_
  refine pl_nil ?_
  refine then_n ?_
  rcases cond_some h20 with ⟨hc23, h20⟩ | ⟨hc23, h20⟩
  ·refine cond_t hf rfl hc23 ?_
   refine wp_skip ?_
   refine then_n ?_
   refine wp_seq ?_
   refine wp_block ?_
   refine wp_seq ?_
   obtain ⟨w24, hw⟩ : ∃ x, x = w16.drew := ⟨_, rfl⟩
   refine region_pi (.q 0 (.q 1 (.q 2 (.q 3 (.q 4 (.q 5 (.q 6 (.q 7 (.q 8 (.nil)))))))))) (Ext w24) rfl (by kernel_rfl) ?_
   have hM := hM.drew
   rw [← hw] at hM ⊢
   clear hw
   iterate 2 refine pi_q hf rfl rfl rfl rfl (Ext.refl _) (e_move hf rfl) fun a hf => ?_
   obtain ⟨e25, hz26, h20⟩ := bind_some h20
   obtain ⟨b30, o31, _, hA32, h27, h28, hr29, hM⟩ := hM.elem (hM.dat (k := 1) rfl) (n := 1) rfl hz26
   obtain ⟨rfl, hv33⟩ := hr29
   refine pi_q hf rfl rfl rfl rfl (Ext.refl _) (e_indexAddr (A := A2) (b := b30) (o := o31) (xs := a1) (i := n14) hf hA32 rfl rfl Tryz.underlying77 Tryz.sizeOf2 h27 h28) fun a hf => ?_
   refine pi_q hf rfl rfl rfl rfl (Ext.refl _) (e_load1 hf rfl Tryz.isAgg2 (hM.litCell (k := 0) (j := 0) rfl rfl rfl)) fun a hf => ?_
   iterate 2 refine pi_q hf rfl rfl rfl rfl (Ext.refl _) (e_move hf rfl) fun a hf => ?_
   obtain ⟨e34, hz35, h20⟩ := bind_some h20
   obtain ⟨b39, o40, _, hA41, h36, h37, hr38, hM⟩ := hM.elem (hM.dat (k := 1) rfl) (n := 1) rfl hz35
   obtain ⟨rfl, hv42⟩ := hr38
   refine pi_q hf rfl rfl rfl rfl (Ext.refl _) (e_indexAddr (A := A6) (b := b39) (o := o40) (xs := b5) (i := n14) hf hA41 rfl rfl Tryz.underlying77 Tryz.sizeOf2 h36 h37) fun a hf => ?_
   refine pi_q hf rfl rfl rfl rfl (Ext.refl _) (e_load1 hf rfl Tryz.isAgg2 (hM.litCell (k := 0) (j := 0) rfl rfl rfl)) fun a hf => ?_
   refine pi_q hf rfl rfl rfl rfl (Ext.refl _) (e_ne hf (x := e25) (y := e34) rfl rfl) fun a hf => ?_
   refine pi_nil ?_
   refine then_n ?_
   rcases cond_some h20 with ⟨hc43, h20⟩ | ⟨hc43, h20⟩
   ·refine cond_t hf rfl hc43 ?_
    refine wp_seq ?_
    refine region_pl ?_
    refine q_ hf rfl rfl rfl (e_assign hf rfl) fun a hf => ?_
    refine pl_nil ?_
    refine then_n ?_
    refine wp_ret ?_
    refine blk_r ?_
    refine then_r ?_
    obtain rfl := some_inj h20
    obtain rfl := hd21 _ rfl
    try dsimp only at h13
    refine then_r ?_
    refine blk_r ?_
    obtain rfl := some_inj h13
    try dsimp only at h
    refine then_r ?_
    obtain rfl := some_inj h
    exact leave1 hf rfl rfl ⟨rfl, hM.fin⟩
   refine cond_f hf rfl hc43 ?_
   refine wp_skip ?_
   refine blk_n ?_
   refine then_n ?_
   refine region_pl ?_
   refine q_ hf rfl rfl rfl (e_move hf rfl) fun a hf => ?_
   obtain ⟨z44, hz45, h20⟩ := bind_some h20
   refine q_ hf rfl rfl rfl (e_add hf rfl rfl hz45) fun a hf => ?_
   refine q_ hf rfl rfl rfl (e_assign hf rfl) fun a hf => ?_
   refine pl_nil ?_
   obtain rfl := some_inj h20
   refine then_n ⟨_, rfl, ?_⟩
   exact ⟨z44, rfl, hf.keep ⟨rfl, rfl, rfl, trivial⟩, hM.pick [2, 3] rfl, (chk_R hz45)⟩
  refine cond_f hf rfl hc23 ?_
  refine wp_exit ?_
  refine then_x ?_
  obtain rfl := some_inj h20
  obtain rfl := hd21 _ rfl
  try dsimp only at h13
  refine then_x ?_
  refine exit_hit ?_
  obtain rfl := some_inj h13
  refine then_n ?_
  exact ⟨rfl, hf.keep trivial, hM.pick [0, 1] rfl⟩
 rintro a w52 ⟨rfl, hf, hM⟩
 try dsimp only at h
 refine wp_seq ?_
 refine region_pl ?_
 refine q_ hf rfl rfl rfl (e_assign hf rfl) fun a hf => ?_
 refine pl_nil ?_
 refine then_n ?_
 refine wp_ret ?_
 obtain rfl := some_inj h
 exact leave1 hf rfl rfl ⟨rfl, hM.fin⟩
theorem r_spec_l06Equal (C : Cx) (a1 : Node) (b2 : Nat) (o3 : Nat) (hp4 : (ptrRep NodeRep).R C.w0 C.S0 a1 [vP b2 o3]) (b5 : Node) (b6 : Nat) (o7 : Nat) (hp8 : (ptrRep NodeRep).R C.w0 C.S0 b5 [vP b6 o7]) (r : Bool) (h : m_spec_l06Equal a1 b5 = some r) :
    Calls Tryz.prog 59 #[vP b2 (o3), vP b6 (o7)] C.w0 fun e w => e = .returned (.bool (r)) ∧ Mem C w [] [] := by
 have hM := Mem.begin C [.dat (ptrRep NodeRep) b5 [vP b6 o7], .dat (ptrRep NodeRep) a1 [vP b2 o3]] ⟨hp8, hp4, trivial⟩
 refine enter Tryz.func59 rfl Tryz.ntmps59 rfl fun a hf => ?_
 unfold m_spec_l06Equal at h
 refine wp_seq ?_
 refine region_pl ?_
 refine q_ hf rfl rfl rfl (e_assign hf rfl) fun a hf => ?_
 refine pl_nil ?_
 refine then_n ?_
 obtain ⟨x11, h12, h⟩ := bind_some h
 refine seq_join (fun a w => ∃ (t9 : Bool), t9 = x11 ∧ Has 36 a [(4, .bool (t9))] ∧ Mem C w [] [.dat (ptrRep NodeRep) b5 [vP b6 o7], .dat (ptrRep NodeRep) a1 [vP b2 o3]]) ?_ ?_
 ·obtain ⟨w13, hw⟩ : ∃ x, x = C.w0.drew := ⟨_, rfl⟩
  refine region_pi (.q 0 (.q 1 (.q 2 (.q 3 (.q 4 (.q 5 (.q 6 (.q 7 (.q 8 (.q 9 (.q 10 (.q 11 (.q 12 (.q 13 (.q 14 (.q 15 (.q 16 (.q 17 (.q 18 (.q 19 (.q 20 (.q 21 (.q 22 (.q 23 (.q 24 (.q 25 (.q 26 (.q 27 (.q 28 (.l 29 (.q 30 (.q 31 (.nil))))))))))))))))))))))))))))))))) (Ext w13) rfl (by kernel_rfl) ?_
  have hM := hM.drew
  rw [← hw] at hM ⊢
  clear hw
  refine pi_q hf rfl rfl rfl rfl (Ext.refl _) (e_move hf rfl) fun a hf => ?_
  refine pi_q hf rfl rfl rfl rfl (Ext.refl _) (e_nil hf rfl) fun a hf => ?_
  obtain ⟨_, hr14, hM⟩ := hM.deref (hM.dat (k := 1) rfl)
  obtain ⟨A16, c17, rfl, hv15, hv18⟩ := NodeRep_open hr14
  have hM := hM.add (y := .dat (sliceRep intRep) a1.Next [vL A16 a1.Next c17]) hv18
  refine pi_q hf rfl rfl rfl rfl (Ext.refl _) (e_field hf rfl Tryz.underlying79 rfl Tryz.sizeOf4 (o' := o3 + 0) rfl) fun a hf => ?_
  refine pi_q hf rfl rfl rfl rfl (Ext.refl _) (e_load1 hf rfl Tryz.isAgg4 (hM.litCell (k := 1) (j := 0) rfl rfl rfl)) fun a hf => ?_
  refine pi_q hf rfl rfl rfl rfl (Ext.refl _) (e_move hf rfl) fun a hf => ?_
  refine pi_q hf rfl rfl rfl rfl (Ext.refl _) (e_nil hf rfl) fun a hf => ?_
  obtain ⟨_, hr19, hM⟩ := hM.deref (hM.dat (k := 2) rfl)
  obtain ⟨A21, c22, rfl, hv20, hv23⟩ := NodeRep_open hr19
  have hM := hM.add (y := .dat (sliceRep intRep) b5.Next [vL A21 b5.Next c22]) hv23
  refine pi_q hf rfl rfl rfl rfl (Ext.refl _) (e_field hf rfl Tryz.underlying79 rfl Tryz.sizeOf4 (o' := o7 + 0) rfl) fun a hf => ?_
  refine pi_q hf rfl rfl rfl rfl (Ext.refl _) (e_load1 hf rfl Tryz.isAgg4 (hM.litCell (k := 1) (j := 0) rfl rfl rfl)) fun a hf => ?_
  refine pi_q hf rfl rfl rfl rfl (Ext.refl _) (e_eqT hf rfl rfl Tryz.underlying4) fun a hf => ?_
  refine pi_q hf rfl rfl rfl rfl (Ext.refl _) (e_move hf rfl) fun a hf => ?_
  rcases cond_some h12 with ⟨hc24, h12⟩ | ⟨hc24, h12⟩
  ·refine pi_gq hf rfl (wanted_t hf rfl rfl rfl rfl hc24) rfl rfl (Ext.refl _) (e_move hf rfl) fun a hf => ?_
   refine pi_gq hf rfl (wanted_t hf rfl rfl rfl rfl hc24) rfl rfl (Ext.refl _) (e_nil hf rfl) fun a hf => ?_
   refine pi_gq hf rfl (wanted_t hf rfl rfl rfl rfl hc24) rfl rfl (Ext.refl _) (e_field hf rfl Tryz.underlying79 rfl Tryz.sizeOf9 (o' := o3 + 1) rfl) fun a hf => ?_
   refine pi_gq hf rfl (wanted_t hf rfl rfl rfl rfl hc24) rfl rfl (Ext.refl _) (e_load1 hf rfl Tryz.isAgg9 (hM.litCell (k := 3) (j := 1) rfl rfl rfl)) fun a hf => ?_
   refine pi_gq hf rfl (wanted_t hf rfl rfl rfl rfl hc24) rfl rfl (Ext.refl _) (e_move hf rfl) fun a hf => ?_
   refine pi_gq hf rfl (wanted_t hf rfl rfl rfl rfl hc24) rfl rfl (Ext.refl _) (e_nil hf rfl) fun a hf => ?_
   refine pi_gq hf rfl (wanted_t hf rfl rfl rfl rfl hc24) rfl rfl (Ext.refl _) (e_field hf rfl Tryz.underlying79 rfl Tryz.sizeOf9 (o' := o7 + 1) rfl) fun a hf => ?_
   refine pi_gq hf rfl (wanted_t hf rfl rfl rfl rfl hc24) rfl rfl (Ext.refl _) (e_load1 hf rfl Tryz.isAgg9 (hM.litCell (k := 1) (j := 1) rfl rfl rfl)) fun a hf => ?_
   refine pi_gq hf rfl (wanted_t hf rfl rfl rfl rfl hc24) rfl rfl (Ext.refl _) (e_eqS hf (x := a1.Letters) (y := b5.Letters) rfl rfl) fun a hf => ?_
   refine pi_q hf rfl rfl rfl rfl (Ext.refl _) (e_pick_t hf rfl hc24 rfl) fun a hf => ?_
   refine pi_q hf rfl rfl rfl rfl (Ext.refl _) (e_move hf rfl) fun a hf => ?_
   rcases cond_some h12 with ⟨hc25, h12⟩ | ⟨hc25, h12⟩
   ·refine pi_gq hf rfl (wanted_t hf rfl rfl rfl rfl hc25) rfl rfl (Ext.refl _) (e_move hf rfl) fun a hf => ?_
    refine pi_gq hf rfl (wanted_t hf rfl rfl rfl rfl hc25) rfl rfl (Ext.refl _) (e_nil hf rfl) fun a hf => ?_
    refine pi_gq hf rfl (wanted_t hf rfl rfl rfl rfl hc25) rfl rfl (Ext.refl _) (e_field hf rfl Tryz.underlying79 rfl Tryz.sizeOf77 (o' := o3 + 2) rfl) fun a hf => ?_
    refine pi_gq hf rfl (wanted_t hf rfl rfl rfl rfl hc25) rfl rfl (Ext.refl _) (e_load1 hf rfl Tryz.isAgg77 (hM.litCell (k := 3) (j := 2) rfl rfl rfl)) fun a hf => ?_
    refine pi_gq hf rfl (wanted_t hf rfl rfl rfl rfl hc25) rfl rfl (Ext.refl _) (e_move hf rfl) fun a hf => ?_
    refine pi_gq hf rfl (wanted_t hf rfl rfl rfl rfl hc25) rfl rfl (Ext.refl _) (e_nil hf rfl) fun a hf => ?_
    refine pi_gq hf rfl (wanted_t hf rfl rfl rfl rfl hc25) rfl rfl (Ext.refl _) (e_field hf rfl Tryz.underlying79 rfl Tryz.sizeOf77 (o' := o7 + 2) rfl) fun a hf => ?_
    refine pi_gq hf rfl (wanted_t hf rfl rfl rfl rfl hc25) rfl rfl (Ext.refl _) (e_load1 hf rfl Tryz.isAgg77 (hM.litCell (k := 1) (j := 2) rfl rfl rfl)) fun a hf => ?_
    refine pi_one ?_
    obtain ⟨y26, hz27, h12⟩ := bind_some h12
    refine pi_gl hf rfl (wanted_t hf rfl rfl rfl rfl hc25) rfl rfl (w_call hf Tryz.call95 rfl (r_spec_l00Same ⟨_, Sh C _ _, none_, hM.sh_lt, none_not, C.G, hM.g_lt, g_none, hM.tabs⟩ a1.Next _ _ (hM.dat (k := 2) rfl) b5.Next _ _ (hM.dat (k := 0) rfl) _ hz27) ?_)
    rintro _ w28 ⟨rfl, hM2⟩
    obtain ⟨hM, hx29, hup30⟩ := hM.back hM2
    dsimp only [List.cons_append, List.nil_append] at hM hup30
    clear hM2
    refine ⟨_, rfl, Ext w28, fun _ h => Ext.trans hx29 h, Ext.refl _, fun a hf => ?_⟩
    refine pi_q hf rfl rfl rfl rfl (Ext.refl _) (e_pick_t hf rfl hc25 rfl) fun a hf => ?_
    refine pi_q hf rfl rfl rfl rfl (Ext.refl _) (e_assign hf rfl) fun a hf => ?_
    refine pi_nil ?_
    obtain rfl := some_inj h12
    refine then_n ?_
    exact ⟨y26, rfl, hf.keep ⟨rfl, trivial⟩, hM.pick [4, 5] rfl⟩
   iterate 8 refine pi_gs hf rfl (wanted_f hf rfl rfl rfl rfl hc25) rfl rfl (Ext.refl _) fun a hf => ?_
   refine pi_one ?_
   refine pi_ls hf rfl (wanted_f hf rfl rfl rfl rfl hc25) rfl rfl (Ext.refl _) fun a hf => ?_
   refine pi_q hf rfl rfl rfl rfl (Ext.refl _) (e_pick_f hf rfl hc25 rfl) fun a hf => ?_
   refine pi_q hf rfl rfl rfl rfl (Ext.refl _) (e_assign hf rfl) fun a hf => ?_
   refine pi_nil ?_
   obtain rfl := some_inj h12
   refine then_n ?_
   exact ⟨false, rfl, hf.keep ⟨rfl, trivial⟩, hM.pick [4, 5] rfl⟩
  iterate 9 refine pi_gs hf rfl (wanted_f hf rfl rfl rfl rfl hc24) rfl rfl (Ext.refl _) fun a hf => ?_
  refine pi_q hf rfl rfl rfl rfl (Ext.refl _) (e_pick_f hf rfl hc24 rfl) fun a hf => ?_
  refine pi_q hf rfl rfl rfl rfl (Ext.refl _) (e_move hf rfl) fun a hf => ?_
  iterate 8 refine pi_gs hf rfl (wanted_f hf rfl rfl rfl rfl rfl) rfl rfl (Ext.refl _) fun a hf => ?_
  refine pi_one ?_
  refine pi_ls hf rfl (wanted_f hf rfl rfl rfl rfl rfl) rfl rfl (Ext.refl _) fun a hf => ?_
  refine pi_q hf rfl rfl rfl rfl (Ext.refl _) (e_pick_f hf rfl rfl rfl) fun a hf => ?_
  refine pi_q hf rfl rfl rfl rfl (Ext.refl _) (e_assign hf rfl) fun a hf => ?_
  refine pi_nil ?_
  obtain rfl := some_inj h12
  refine then_n ?_
  exact ⟨false, rfl, hf.keep ⟨rfl, trivial⟩, hM.pick [4, 5] rfl⟩
 rintro a w34 ⟨t9, rfl, hf, hM⟩
 try dsimp only at h
 refine wp_ret ?_
 obtain rfl := some_inj h
 exact leave1 hf rfl rfl ⟨rfl, hM.fin⟩
def Ct_spec_l06B_build (rc : l06B → (List Str) → Option (Int × l06B)) : Prop := ∀ (C : Cx) (b1 : l06B) (b2 : Nat) (A3 : Option Addr) (c4 : Nat) (list5 : (List Str)) (A6 : Option Addr) (c7 : Nat) (hp8 : (sliceRep strRep).R C.w0 C.S0 list5 [vL A6 list5 c7]) (hO : Mem C C.w0 [.box b2 [vL A3 (b1.nodes) c4] 116, .row NodeRep A3 c4 79 b1.nodes true] []) (hd : ∀ b, C.S0 b → ¬ ownB [.box b2 [vL A3 (b1.nodes) c4] 116, .row NodeRep A3 c4 79 b1.nodes true] b) (r : (Int × l06B)) (h : rc b1 list5 = some r),
    Calls Tryz.prog 70 #[vP b2 (0), vL A6 (list5) c7] C.w0 fun e w => ∃ (A_1 : Option Addr), ∃ (c_1 : Nat), e = .returned (vI (r.1)) ∧ Mem C w [.box b2 [vL A_1 (r.2.nodes) c_1] 116, .row NodeRep A_1 c_1 79 r.2.nodes true] [] ∧ R64 r.1
theorem r_spec_l06B_build_b (rc : l06B → (List Str) → Option (Int × l06B)) (ih : Ct_spec_l06B_build rc) : Ct_spec_l06B_build (m_spec_l06B_build_b rc) := by
 intro C b1 b2 A3 c4 list5 A6 c7 hp8 hO hd r h
 have hM := hO
 have hM := hM.addIn hd (y := .dat (sliceRep strRep) list5 [vL A6 list5 c7]) hp8
 refine enter Tryz.func70 rfl Tryz.ntmps70 rfl fun a hf => ?_
 unfold m_spec_l06B_build_b at h
 refine wp_seq ?_
 refine region_pl ?_
 refine q_ hf rfl rfl rfl (e_assign hf rfl) fun a hf => ?_
 refine pl_nil ?_
 refine then_n ?_
 refine wp_seq ?_
 refine region_pl ?_
 refine q_ hf rfl rfl rfl (e_build hf Tryz.zeroValue79 Tryz.underlying79 (bp_79 _ Tryz.underlying79.symm) rfl (cs := #[.bool (false), vS (([] : Str)), vL none (([] : (List Int))) 0]) (by kernel_rfl)) fun a hf => ?_
 refine pl_l hf rfl rfl rfl (w_alloc hM (cs := [.bool (false), vS (([] : Str)), vL none (([] : (List Int))) 0]) Tryz.zeroValue79 rfl fun b9 w10 hx11 hM a hf => ?_)
 refine pl_0 hf rfl rfl (w_store hf hM (us := [.bool (false), vS (([] : Str)), vL none (([] : (List Int))) 0]) (cs' := [.bool (false), vS (([] : Str)), vL none (([] : (List Int))) 0]) rfl rfl (k := 0) rfl rfl Tryz.sizeOf79 rfl rfl rfl fun w13 hM => ?_)
 dsimp only [List.set] at hM
 refine pl_nil ?_
 refine then_n ?_
 refine wp_seq ?_
 refine region_pl ?_
 refine q_ hf rfl rfl rfl (e_assign hf rfl) fun a hf => ?_
 refine pl_nil ?_
 refine then_n ?_
 obtain ⟨x20, h21, h⟩ := bind_some h
 refine seq_join (fun a w => ∃ (t16 : Bool) (next18 : Int), (t16, next18) = x20 ∧ Has 82 a [(0, vP b2 (0)), (1, vL A6 (list5) c7), (5, vP b9 (0)), (6, vI (next18))] ∧ Mem C w [.box b9 [.bool (t16), vS (([] : Str)), vL none (([] : (List Int))) 0] 79, .box b2 [vL A3 (b1.nodes) c4] 116, .row NodeRep A3 c4 79 b1.nodes true] [.dat (sliceRep strRep) list5 [vL A6 list5 c7]] ∧ R64 next18) ?_ ?_
 ·obtain ⟨x24, h25, h21⟩ := bind_some h21
  refine seq_join (fun a w => ∃ (t22 : Bool), t22 = x24 ∧ Has 82 a [(0, vP b2 (0)), (1, vL A6 (list5) c7), (5, vP b9 (0)), (6, vI (0)), (19, .bool (t22))] ∧ Mem C w [.box b9 [.bool (false), vS (([] : Str)), vL none (([] : (List Int))) 0] 79, .box b2 [vL A3 (b1.nodes) c4] 116, .row NodeRep A3 c4 79 b1.nodes true] [.dat (sliceRep strRep) list5 [vL A6 list5 c7]]) ?_ ?_
  ·refine region_pl ?_
   refine q_ hf rfl rfl rfl (e_move hf rfl) fun a hf => ?_
   have hl26 := slice_len (hM.dat (k := 0) rfl)
   refine q_ hf rfl rfl rfl (e_lenL hf (x := list5) rfl Tryz.underlying30) fun a hf => ?_
   refine q_ hf rfl rfl rfl (e_gt hf (x := (list5.length : Int)) (y := 0) rfl rfl) fun a hf => ?_
   refine q_ hf rfl rfl rfl (e_move hf rfl) fun a hf => ?_
   rcases cond_some h25 with ⟨hc27, h25⟩ | ⟨hc27, h25⟩
   ·refine gq (wanted_t hf rfl rfl rfl rfl hc27) hf rfl rfl (e_move hf rfl) fun a hf => ?_
    obtain ⟨e28, hz29, h25⟩ := bind_some h25
    obtain ⟨b33, o34, _, hA35, h30, h31, hr32, hM⟩ := hM.elem (hM.dat (k := 0) rfl) (n := 1) rfl hz29
    obtain ⟨rfl, hv36⟩ := hr32
    refine gq (wanted_t hf rfl rfl rfl rfl hc27) hf rfl rfl (e_indexAddr (A := A6) (b := b33) (o := o34) (xs := list5) (i := 0) hf hA35 rfl rfl Tryz.underlying30 Tryz.sizeOf9 h30 h31) fun a hf => ?_
    refine gq (wanted_t hf rfl rfl rfl rfl hc27) hf rfl rfl (e_load1 hf rfl Tryz.isAgg9 (hM.litCell (k := 0) (j := 0) rfl rfl rfl)) fun a hf => ?_
    refine gq (wanted_t hf rfl rfl rfl rfl hc27) hf rfl rfl (e_eqS hf (x := e28) (y := ([] : Str)) rfl rfl) fun a hf => ?_
    refine q_ hf rfl rfl rfl (e_pick_t hf rfl hc27 rfl) fun a hf => ?_
    refine pl_nil ?_
    obtain rfl := some_inj h25
    refine then_n ?_
    exact ⟨(e28 == ([] : Str)), rfl, hf.keep ⟨rfl, rfl, rfl, rfl, rfl, trivial⟩, hM.pick [1] rfl⟩
   iterate 4 refine pl_gs (wanted_f hf rfl rfl rfl rfl hc27) hf rfl rfl fun a hf => ?_
   refine q_ hf rfl rfl rfl (e_pick_f hf rfl hc27 rfl) fun a hf => ?_
   refine pl_nil ?_
   obtain rfl := some_inj h25
   refine then_n ?_
   exact ⟨false, rfl, hf.keep ⟨rfl, rfl, rfl, rfl, rfl, trivial⟩, hM.pick [0] rfl⟩
  rintro a w39 ⟨t22, rfl, hf, hM⟩
  try dsimp only at h21
  rcases cond_some h21 with ⟨hc40, h21⟩ | ⟨hc40, h21⟩
  ·refine cond_t hf rfl hc40 ?_
   refine wp_seq ?_
   refine region_pl ?_
   refine q_ hf rfl rfl rfl (e_field hf rfl Tryz.underlying79 rfl Tryz.sizeOf4 (o' := 0) rfl) fun a hf => ?_
   refine pl_0 hf rfl rfl (w_store hf hM (us := [.bool (true)]) (cs' := [.bool (true), vS (([] : Str)), vL none (([] : (List Int))) 0]) rfl rfl (k := 0) rfl rfl Tryz.sizeOf4 rfl rfl rfl fun w41 hM => ?_)
   dsimp only [List.set] at hM
   refine pl_nil ?_
   refine then_n ?_
   refine region_pl ?_
   refine q_ hf rfl rfl rfl (e_assign hf rfl) fun a hf => ?_
   refine pl_nil ?_
   obtain rfl := some_inj h21
   refine then_n ?_
   exact ⟨true, 1, rfl, hf.keep ⟨rfl, rfl, rfl, rfl, trivial⟩, hM.pick [0] rfl, (R64_lit rfl)⟩
  refine cond_f hf rfl hc40 ?_
  refine wp_skip ?_
  obtain rfl := some_inj h21
  refine then_n ?_
  exact ⟨false, 0, rfl, hf.keep ⟨rfl, rfl, rfl, rfl, trivial⟩, hM.pick [0] rfl, (R64_lit rfl)⟩
 rintro a w46 ⟨t16, next18, rfl, hf, hM, hv19⟩
 try dsimp only at h
 obtain ⟨x55, h56, h⟩ := bind_some h
 refine seq_join (fun a w => ∃ (s47 : Str) (xs49 : (List Int)) (xs52 : (List Node)) (A50 : Option Addr) (c51 : Nat) (A53 : Option Addr) (c54 : Nat), (s47, xs49, xs52) = x55 ∧ Has 82 a [(0, vP b2 (0)), (5, vP b9 (0))] ∧ Mem C w [.row intRep A50 c51 2 xs49 true, .box b9 [.bool (t16), vS (s47), vL A50 (xs49) c51] 79, .box b2 [vL A53 (xs52) c54] 116, .row NodeRep A53 c54 79 xs52 true] [.dat (sliceRep strRep) list5 [vL A6 list5 c7]] ∧ s47.length ≤ maxLen) ?_ ?_
 ·refine wp_block ?_
  have hM := hM.nilRow intRep 2
  obtain ⟨x76, h77, h56⟩ := bind_some h56
  refine wp_loopM h77 (fun s a w => ∃ (s57 : Str) (xs59 : (List Node)) (xs62 : (List Int)) (next65 : Int) (A60 : Option Addr) (c61 : Nat) (A63 : Option Addr) (c64 : Nat), (s57, xs59, xs62, next65) = s ∧ Has 82 a [(0, vP b2 (0)), (1, vL A6 (list5) c7), (5, vP b9 (0)), (6, vI (next65))] ∧ Mem C w [.row intRep A63 c64 2 xs62 true, .box b9 [.bool (t16), vS (s57), vL A63 (xs62) c64] 79, .box b2 [vL A60 (xs59) c61] 116, .row NodeRep A60 c61 79 xs59 true] [.dat (sliceRep strRep) list5 [vL A6 list5 c7]] ∧ s57.length ≤ maxLen ∧ R64 next65) ?_ ?_
  ·exact ⟨([] : Str), b1.nodes, ([] : (List Int)), next18, A3, c4, none, 0, rfl, hf.keep ⟨rfl, rfl, rfl, rfl, trivial⟩, hM.pick [0] rfl, (lit_len rfl), hv19⟩
  rintro s o78 a w67 ⟨s57, xs59, xs62, next65, A60, c61, A63, c64, rfl, hf, hM, hv58, hv66⟩ h79 hd80
  replace h79 : m_spec_l06B_build_l1 list5 rc s57 xs59 xs62 next65 = some o78 := h79
  unfold m_spec_l06B_build_l1 at h79
  iterate 2 refine wp_seq ?_
  refine region_pl ?_
  iterate 2 refine q_ hf rfl rfl rfl (e_move hf rfl) fun a hf => ?_
  have hl81 := slice_len (hM.dat (k := 0) rfl)
  refine q_ hf rfl rfl rfl (e_lenL hf (x := list5) rfl Tryz.underlying30) fun a hf => ?_
  refine q_ hf rfl rfl rfl (e_lt hf (x := next65) (y := (list5.length : Int)) rfl rfl) fun a hf => ?_
  refine pl_nil ?_
  refine then_n ?_
  rcases cond_some h79 with ⟨hc82, h79⟩ | ⟨hc82, h79⟩
  ·refine cond_t hf rfl hc82 ?_
   refine wp_skip ?_
   refine then_n ?_
   refine wp_block ?_
   refine wp_seq ?_
   refine region_pl ?_
   iterate 2 refine q_ hf rfl rfl rfl (e_move hf rfl) fun a hf => ?_
   obtain ⟨y83, hz84, h79⟩ := bind_some h79
   refine pl_l hf rfl rfl rfl (w_call hf Tryz.call101 rfl (r_spec_l06Tails ⟨_, Sh C _ _, none_, hM.sh_lt, none_not, C.G, hM.g_lt, g_none, hM.tabs⟩ list5 _ _ (hM.dat (k := 0) rfl) next65 hv66 _ hz84) ?_)
   rintro _ w88 ⟨A85, c86, rfl, hM2, hv87⟩
   obtain ⟨hM, hx89, hup90⟩ := hM.back hM2
   dsimp only [List.cons_append, List.nil_append] at hM hup90
   clear hM2
   refine ⟨_, rfl, fun a hf => ?_⟩
   refine q_ hf rfl rfl rfl (e_move hf rfl) fun a hf => ?_
   iterate 2 refine q_ hf rfl rfl rfl (e_extract hf rfl rfl) fun a hf => ?_
   iterate 2 refine q_ hf rfl rfl rfl (e_assign hf rfl) fun a hf => ?_
   refine pl_nil ?_
   refine then_n ?_
   refine wp_seq ?_
   obtain ⟨w91, hw⟩ : ∃ x, x = w88.drew := ⟨_, rfl⟩
   refine region_pi (.q 0 (.q 1 (.q 2 (.q 3 (.q 4 (.q 5 (.q 6 (.q 7 (.q 8 (.l 9 (.nil))))))))))) (Ext w91) rfl (by kernel_rfl) ?_
   have hM := hM.drew
   rw [← hw] at hM ⊢
   clear hw
   refine pi_q hf rfl rfl rfl rfl (Ext.refl _) (e_field hf rfl Tryz.underlying79 rfl Tryz.sizeOf9 (o' := 1) rfl) fun a hf => ?_
   refine pi_q hf rfl rfl rfl rfl (Ext.refl _) (e_load1 hf rfl Tryz.isAgg9 (hM.boxCell (k := 2) rfl rfl)) fun a hf => ?_
   iterate 2 refine pi_q hf rfl rfl rfl rfl (Ext.refl _) (e_move hf rfl) fun a hf => ?_
   obtain ⟨e92, hz93, h79⟩ := bind_some h79
   obtain ⟨b97, o98, _, hA99, h94, h95, hr96, hM⟩ := hM.elem (hM.dat (k := 0) rfl) (n := 1) rfl hz93
   obtain ⟨rfl, hv100⟩ := hr96
   refine pi_q hf rfl rfl rfl rfl (Ext.refl _) (e_indexAddr (A := A6) (b := b97) (o := o98) (xs := list5) (i := next65) hf hA99 rfl rfl Tryz.underlying30 Tryz.sizeOf9 h94 h95) fun a hf => ?_
   refine pi_q hf rfl rfl rfl rfl (Ext.refl _) (e_load1 hf rfl Tryz.isAgg9 (hM.litCell (k := 0) (j := 0) rfl rfl rfl)) fun a hf => ?_
   obtain ⟨s101, hz102, h79⟩ := bind_some h79
   refine pi_q hf rfl rfl rfl rfl (Ext.refl _) (e_subSh hf (x := e92) rfl rfl Tryz.underlying9 hz102) fun a hf => ?_
   obtain ⟨s103, hz104, h79⟩ := bind_some h79
   refine pi_q hf rfl rfl rfl rfl (Ext.refl _) (e_cat hf (x := s57) (y := s101) rfl rfl hz104) fun a hf => ?_
   refine pi_q hf rfl rfl rfl rfl (Ext.refl _) (e_field hf rfl Tryz.underlying79 rfl Tryz.sizeOf9 (o' := 1) rfl) fun a hf => ?_
   refine pi_one ?_
   refine pi_z0 hf rfl rfl rfl (by kernel_rfl) (w_store hf hM (us := [vS (s103)]) (cs' := [.bool (t16), vS (s103), vL A63 (xs62) c64]) rfl rfl (k := 2) rfl rfl Tryz.sizeOf9 rfl rfl rfl fun w105 hM => ?_)
   dsimp only [List.set] at hM
   refine pi_nil ?_
   refine then_n ?_
   refine wp_seq ?_
   obtain ⟨w108, hw⟩ : ∃ x, x = w105.drew := ⟨_, rfl⟩
   refine region_pi (.q 0 (.q 1 (.q 2 (.q 3 (.l 4 (.l 5 (.l 6 (.q 7 (.l 8 (.nil)))))))))) (ExtM [some b2, A60.map (·.block)] w108) rfl (by kernel_rfl) ?_
   have hM := hM.drew
   rw [← hw] at hM ⊢
   clear hw
   refine pi_q hf rfl rfl rfl rfl (ExtM.refl _ _) (e_field hf rfl Tryz.underlying79 rfl Tryz.sizeOf77 (o' := 2) rfl) fun a hf => ?_
   refine pi_q hf rfl rfl rfl rfl (ExtM.refl _ _) (e_load1M hf rfl Tryz.isAgg77 (hM.boxCell (k := 2) rfl rfl) (hM.apart (js := [3, 4]) rfl (k := 2) rfl rfl rfl)) fun a hf => ?_
   iterate 2 refine pi_q hf rfl rfl rfl rfl (ExtM.refl _ _) (e_move hf rfl) fun a hf => ?_
   refine pi_one ?_
   have hM := hM.freezeRow (k := 0) rfl rfl
   dsimp only [List.eraseIdx] at hM
   have hM := hM.front (k := 3) rfl
   dsimp only [List.eraseIdx] at hM
   have hM := hM.front (k := 3) rfl
   dsimp only [List.eraseIdx] at hM
   have hM : Mem C _ ([.box b2 [vL A60 (xs59) c61] 116, .row NodeRep A60 c61 79 xs59 true] ++ [.row intRep A63 c64 2 xs62 true, .box b9 [.bool (t16), vS (s103), vL A63 (xs62) c64] 79]) _ := hM
   obtain ⟨y109, hz110, h79⟩ := bind_some h79
   refine pi_l hf rfl rfl rfl rfl (w_call hf Tryz.call70 rfl (ih ⟨_, Sh C _ _, ownB _, hM.sh_lt, sub_dis, C.G, hM.g_lt, hM.g_own, hM.tabs⟩ (⟨xs59⟩ : l06B) _ _ _ y83.1 _ _ (hM.dat (k := 0) rfl) hM.sub sub_dis _ hz110) ?_)
   rintro _ w114 ⟨A111, c112, rfl, hM2, hv113⟩
   have hxm117 := ExtM.ofChg (bs := [some b2, A60.map (·.block)]) hM2.chg ⟨List.mem_of_getElem? (i := 0) rfl, List.mem_of_getElem? (i := 1) rfl, trivial⟩
   have hsz118 := hM2.chg.size
   obtain ⟨hM, hup116⟩ := hM.backG hM2
   dsimp only [List.cons_append, List.nil_append] at hM hup116
   clear hM2
   refine ⟨_, rfl, Ext w114, fun _ h => ExtM.last hxm117 hsz118 h, Ext.refl _, fun a hf => ?_⟩
   refine pi_one ?_
   refine pi_l hf rfl rfl rfl rfl (w_slice hf hM (K := intRep) (xs := ([y109.1] : (List Int))) (os := [.tmp 44]) Tryz.underlying77 ei_2 rfl rfl rfl rfl rfl ⟨⟨[vI (y109.1)], rfl, ⟨rfl, hv113⟩⟩, trivial⟩ rfl fun b119 w120 hx121 hM => ⟨Ext w120, fun _ h => Ext.trans hx121 h, Ext.refl _, fun a hf => ?_⟩)
   refine pi_one ?_
   obtain ⟨xs122, hz123, h79⟩ := bind_some h79
   refine pi_z hf rfl rfl rfl rfl (by kernel_rfl) (w_append hf hM Tryz.underlying77 ei_2 rfl rfl rfl (k := 3) rfl (hM.srcRow (k := 0) rfl) hz123 fun A124 c125 w126 hM a hf => ?_)
   dsimp only [List.set] at hM
   refine pi_q hf rfl rfl rfl rfl (Ext.refl _) (e_field hf rfl Tryz.underlying79 rfl Tryz.sizeOf77 (o' := 2) rfl) fun a hf => ?_
   refine pi_one ?_
   refine pi_z0 hf rfl rfl rfl (by kernel_rfl) (w_store hf hM (us := [vL A124 (xs122) c125]) (cs' := [.bool (t16), vS (s103), vL A124 (xs122) c125]) rfl rfl (k := 4) rfl rfl Tryz.sizeOf77 rfl rfl rfl fun w129 hM => ?_)
   dsimp only [List.set] at hM
   refine pi_nil ?_
   refine then_n ?_
   refine region_pl ?_
   refine q_ hf rfl rfl rfl (e_move hf rfl) fun a hf => ?_
   refine q_ hf rfl rfl rfl (e_assign hf rfl) fun a hf => ?_
   refine pl_nil ?_
   refine blk_n ?_
   obtain rfl := some_inj h79
   refine then_n ⟨_, rfl, ?_⟩
   have hM := hM.front (k := 2) rfl
   dsimp only [List.eraseIdx] at hM
   have hM := hM.front (k := 2) rfl
   dsimp only [List.eraseIdx] at hM
   have hM := hM.front (k := 4) rfl
   dsimp only [List.eraseIdx] at hM
   have hM := hM.front (k := 4) rfl
   dsimp only [List.eraseIdx] at hM
   exact ⟨s103, y109.2.nodes, xs122, y83.2, A111, c112, A124, c125, rfl, hf.keep ⟨rfl, rfl, rfl, rfl, trivial⟩, (hM.drop (.cons_cons _ (.cons_cons _ (.cons_cons _ (.cons_cons _ (.cons _ .slnil)))))).pick [2] rfl, (cat_len hz104), hv87⟩
  refine cond_f hf rfl hc82 ?_
  refine wp_exit ?_
  refine then_x ?_
  obtain rfl := some_inj h79
  obtain rfl := hd80 _ rfl
  try dsimp only at h56
  refine then_x ?_
  refine exit_hit ?_
  obtain rfl := some_inj h56
  refine then_n ?_
  exact ⟨s57, xs62, xs59, A63, c64, A60, c61, rfl, hf.keep ⟨rfl, rfl, trivial⟩, hM.pick [0] rfl, hv58⟩
 rintro a w137 ⟨s47, xs49, xs52, A50, c51, A53, c54, rfl, hf, hM, hv48⟩
 try dsimp only at h
 obtain ⟨x138, h139, h⟩ := bind_some h
 refine seq_join (fun a w => (.inl ()) = x138 ∧ Has 82 a [(0, vP b2 (0)), (5, vP b9 (0))] ∧ Mem C w [.row intRep A50 c51 2 xs49 true, .box b9 [.bool (t16), vS (s47), vL A50 (xs49) c51] 79, .box b2 [vL A53 (xs52) c54] 116, .row NodeRep A53 c54 79 xs52 true] [.dat (sliceRep strRep) list5 [vL A6 list5 c7]]) ?_ ?_
 ·refine wp_seq ?_
  refine region_pl ?_
  refine q_ hf rfl rfl rfl (e_assign hf rfl) fun a hf => ?_
  refine pl_nil ?_
  refine then_n ?_
  refine wp_block ?_
  obtain ⟨x143, h144, h139⟩ := bind_some h139
  refine wp_loopM h144 (fun s a w => ∃ (n140 : Int), n140 = s ∧ Has 82 a [(0, vP b2 (0)), (5, vP b9 (0)), (9, vI (n140))] ∧ Mem C w [.row intRep A50 c51 2 xs49 true, .box b9 [.bool (t16), vS (s47), vL A50 (xs49) c51] 79, .box b2 [vL A53 (xs52) c54] 116, .row NodeRep A53 c54 79 xs52 true] [.dat (sliceRep strRep) list5 [vL A6 list5 c7]] ∧ R64 n140) ?_ ?_
  ·exact ⟨0, rfl, hf.keep ⟨rfl, rfl, rfl, trivial⟩, hM.pick [0] rfl, (R64_lit rfl)⟩
  rintro s o145 a w142 ⟨n140, rfl, hf, hM, hv141⟩ h146 hd147
  replace h146 : m_spec_l06B_build_l2 xs52 t16 s47 xs49 n140 = some o145 := h146
  unfold m_spec_l06B_build_l2 at h146
  iterate 2 refine wp_seq ?_
  refine region_pl ?_
  iterate 2 refine q_ hf rfl rfl rfl (e_move hf rfl) fun a hf => ?_
  refine q_ hf rfl rfl rfl (e_nil hf rfl) fun a hf => ?_
  refine q_ hf rfl rfl rfl (e_field hf rfl Tryz.underlying116 rfl Tryz.sizeOf24 (o' := 0) rfl) fun a hf => ?_
  refine q_ hf rfl rfl rfl (e_load1 hf rfl Tryz.isAgg24 (hM.boxCell (k := 2) rfl rfl)) fun a hf => ?_
  have hl148 := row_len (hM.ownAt (k := 3) rfl)
  refine q_ hf rfl rfl rfl (e_lenL hf (x := xs52) rfl Tryz.underlying24) fun a hf => ?_
  refine q_ hf rfl rfl rfl (e_lt hf (x := n140) (y := (xs52.length : Int)) rfl rfl) fun a hf => ?_
  refine pl_nil ?_
  refine then_n ?_
  rcases cond_some h146 with ⟨hc149, h146⟩ | ⟨hc149, h146⟩
  ·refine cond_t hf rfl hc149 ?_
   refine wp_skip ?_
   refine then_n ?_
   refine wp_seq ?_
   refine wp_block ?_
   refine wp_seq ?_
   refine region_pl ?_
   refine q_ hf rfl rfl rfl (e_move hf rfl) fun a hf => ?_
   refine q_ hf rfl rfl rfl (e_nil hf rfl) fun a hf => ?_
   refine q_ hf rfl rfl rfl (e_field hf rfl Tryz.underlying116 rfl Tryz.sizeOf24 (o' := 0) rfl) fun a hf => ?_
   refine q_ hf rfl rfl rfl (e_load1 hf rfl Tryz.isAgg24 (hM.boxCell (k := 2) rfl rfl)) fun a hf => ?_
   refine q_ hf rfl rfl rfl (e_move hf rfl) fun a hf => ?_
   obtain ⟨e150, hz151, h146⟩ := bind_some h146
   obtain ⟨b156, _, hA157, h152, h153, hr154, hcell155⟩ := hM.rowElemN (k := 3) rfl (n := 3) rfl hz151
   obtain ⟨A159, c160, rfl, hv158, hv161⟩ := NodeRep_open hr154
   have hM := hM.add (y := .dat (sliceRep intRep) e150.Next [vL A159 e150.Next c160]) hv161
   refine q_ hf rfl rfl rfl (e_indexAddr (A := A53) (b := b156) (o := 0) (xs := xs52) (i := n140) hf hA157 rfl rfl Tryz.underlying24 Tryz.sizeOf79 h152 h153) fun a hf => ?_
   obtain ⟨y162, hz163, h146⟩ := bind_some h146
   refine pl_l hf rfl rfl rfl (w_call hf Tryz.call59 rfl (r_spec_l06Equal ⟨_, All C _ _, none_, hM.all_lt, none_not, C.G, hM.g_lt, g_none, hM.tabs⟩ e150 _ _ (hM.lendElem hA157 (k := 3) rfl (n := 3) rfl hz151) (⟨t16, s47, xs49⟩ : Node) _ _ (hM.lendBox (k := 1) rfl (NodeRep_mk (x := (⟨t16, s47, xs49⟩ : Node)) hv48 (hM.lendRow (k := 0) rfl))) _ hz163) ?_)
   rintro _ w164 ⟨rfl, hM2⟩
   obtain ⟨hM, hx165⟩ := hM.backA hM2
   clear hM2
   refine ⟨_, rfl, fun a hf => ?_⟩
   refine pl_nil ?_
   refine then_n ?_
   rcases cond_some h146 with ⟨hc167, h146⟩ | ⟨hc167, h146⟩
   ·refine cond_t hf rfl hc167 ?_
    refine wp_seq ?_
    refine region_pl ?_
    refine q_ hf rfl rfl rfl (e_move hf rfl) fun a hf => ?_
    refine q_ hf rfl rfl rfl (e_assign hf rfl) fun a hf => ?_
    refine pl_nil ?_
    refine then_n ?_
    refine wp_ret ?_
    refine blk_r ?_
    refine then_r ?_
    obtain rfl := some_inj h146
    obtain rfl := hd147 _ rfl
    try dsimp only at h139
    refine then_r ?_
    refine blk_r ?_
    obtain rfl := some_inj h139
    try dsimp only at h
    refine then_r ?_
    obtain rfl := some_inj h
    have hM := hM.front (k := 3) rfl
    dsimp only [List.eraseIdx] at hM
    have hM := hM.front (k := 3) rfl
    dsimp only [List.eraseIdx] at hM
    have hM := hM.outs (own' := [.box b2 [vL A53 (xs52) c54] 116, .row NodeRep A53 c54 79 xs52 true]) 2 rfl
    exact leave1 hf rfl rfl ⟨A53, c54, rfl, hM.fin, hv141⟩
   refine cond_f hf rfl hc167 ?_
   refine wp_skip ?_
   refine blk_n ?_
   refine then_n ?_
   refine region_pl ?_
   refine q_ hf rfl rfl rfl (e_move hf rfl) fun a hf => ?_
   obtain ⟨z168, hz169, h146⟩ := bind_some h146
   refine q_ hf rfl rfl rfl (e_add hf rfl rfl hz169) fun a hf => ?_
   refine q_ hf rfl rfl rfl (e_assign hf rfl) fun a hf => ?_
   refine pl_nil ?_
   obtain rfl := some_inj h146
   refine then_n ⟨_, rfl, ?_⟩
   exact ⟨z168, rfl, hf.keep ⟨rfl, rfl, rfl, trivial⟩, hM.pick [1] rfl, (chk_R hz169)⟩
  refine cond_f hf rfl hc149 ?_
  refine wp_exit ?_
  refine then_x ?_
  obtain rfl := some_inj h146
  obtain rfl := hd147 _ rfl
  try dsimp only at h139
  refine then_x ?_
  refine exit_hit ?_
  obtain rfl := some_inj h139
  refine then_n ?_
  exact ⟨rfl, hf.keep ⟨rfl, rfl, trivial⟩, hM.pick [0] rfl⟩
 rintro a w176 ⟨rfl, hf, hM⟩
 try dsimp only at h
 refine wp_seq ?_
 obtain ⟨w177, hw⟩ : ∃ x, x = w176.drew := ⟨_, rfl⟩
 refine region_pi (.q 0 (.q 1 (.q 2 (.q 3 (.q 4 (.q 5 (.l 6 (.l 7 (.q 8 (.q 9 (.l 10 (.nil)))))))))))) (ExtM [A53.map (·.block)] w177) rfl (by kernel_rfl) ?_
 have hM := hM.drew
 rw [← hw] at hM ⊢
 clear hw
 iterate 2 refine pi_q hf rfl rfl rfl rfl (ExtM.refl _ _) (e_move hf rfl) fun a hf => ?_
 refine pi_q hf rfl rfl rfl rfl (ExtM.refl _ _) (e_nil hf rfl) fun a hf => ?_
 refine pi_q hf rfl rfl rfl rfl (ExtM.refl _ _) (e_field hf rfl Tryz.underlying116 rfl Tryz.sizeOf24 (o' := 0) rfl) fun a hf => ?_
 refine pi_q hf rfl rfl rfl rfl (ExtM.refl _ _) (e_load1M hf rfl Tryz.isAgg24 (hM.boxCell (k := 2) rfl rfl) (hM.apart (js := [3]) rfl (k := 2) rfl rfl rfl)) fun a hf => ?_
 refine pi_q hf rfl rfl rfl rfl (ExtM.refl _ _) (e_loadAM hf (us := [.bool (t16), vS (s47), vL A50 (xs49) c51]) rfl ⟨Tryz.isAgg79, Tryz.sizeOf79⟩ rfl (hM.boxSub (k := 1) (us := [.bool (t16), vS (s47), vL A50 (xs49) c51]) (o := 0) rfl rfl) (hM.apart (js := [3]) rfl (k := 1) rfl rfl rfl)) fun a hf => ?_
 refine pi_one ?_
 have hM := hM.freezeRow (k := 0) rfl rfl
 dsimp only [List.eraseIdx] at hM
 refine pi_l hf rfl rfl rfl rfl (w_slice hf hM (K := NodeRep) (xs := ([(⟨t16, s47, xs49⟩ : Node)] : (List Node))) (os := [.tmp 71]) Tryz.underlying24 ei_79 rfl rfl rfl rfl rfl ⟨⟨[.bool (t16), vS (s47), vL A50 (xs49) c51], rfl, (NodeRep_mk (x := (⟨t16, s47, xs49⟩ : Node)) hv48 (hM.dat (k := 0) rfl))⟩, trivial⟩ rfl fun b178 w179 hx180 hM => ⟨ExtM [A53.map (·.block)] w179, fun _ h => ExtM.trans hx180 h, ExtM.refl _ _, fun a hf => ?_⟩)
 refine pi_one ?_
 obtain ⟨xs181, hz182, h⟩ := bind_some h
 refine pi_l hf rfl rfl rfl rfl (w_appendX hf hM Tryz.underlying24 ei_79 rfl rfl rfl (k := 3) rfl (hM.srcRow (k := 0) rfl) hz182 fun A183 c184 w185 hsz187 hold186 hM => ⟨Ext w185, fun _ h => ExtM.last (ExtM.ofRow (List.mem_of_getElem? (i := 0) rfl) hold186) hsz187 h, Ext.refl _, fun a hf => ?_⟩)
 dsimp only [List.set] at hM
 refine pi_q hf rfl rfl rfl rfl (Ext.refl _) (e_nil hf rfl) fun a hf => ?_
 refine pi_q hf rfl rfl rfl rfl (Ext.refl _) (e_field hf rfl Tryz.underlying116 rfl Tryz.sizeOf24 (o' := 0) rfl) fun a hf => ?_
 refine pi_one ?_
 refine pi_z0 hf rfl rfl rfl (by kernel_rfl) (w_store hf hM (us := [vL A183 (xs181) c184]) (cs' := [vL A183 (xs181) c184]) rfl rfl (k := 2) rfl rfl Tryz.sizeOf24 rfl rfl rfl fun w188 hM => ?_)
 dsimp only [List.set] at hM
 refine pi_nil ?_
 refine then_n ?_
 refine wp_seq ?_
 refine region_pl ?_
 refine q_ hf rfl rfl rfl (e_move hf rfl) fun a hf => ?_
 refine q_ hf rfl rfl rfl (e_nil hf rfl) fun a hf => ?_
 refine q_ hf rfl rfl rfl (e_field hf rfl Tryz.underlying116 rfl Tryz.sizeOf24 (o' := 0) rfl) fun a hf => ?_
 refine q_ hf rfl rfl rfl (e_load1 hf rfl Tryz.isAgg24 (hM.boxCell (k := 2) rfl rfl)) fun a hf => ?_
 have hl191 := row_len (hM.ownAt (k := 3) rfl)
 refine q_ hf rfl rfl rfl (e_lenL hf (x := xs181) rfl Tryz.underlying24) fun a hf => ?_
 obtain ⟨z192, hz193, h⟩ := bind_some h
 refine q_ hf rfl rfl rfl (e_sub hf rfl rfl hz193) fun a hf => ?_
 refine q_ hf rfl rfl rfl (e_assign hf rfl) fun a hf => ?_
 refine pl_nil ?_
 refine then_n ?_
 refine wp_ret ?_
 obtain rfl := some_inj h
 have hM := hM.front (k := 3) rfl
 dsimp only [List.eraseIdx] at hM
 have hM := hM.front (k := 3) rfl
 dsimp only [List.eraseIdx] at hM
 have hM := hM.outs (own' := [.box b2 [vL A183 (xs181) c184] 116, .row NodeRep A183 c184 79 xs181 true]) 2 rfl
 exact leave1 hf rfl rfl ⟨A183, c184, rfl, hM.fin, (chk_R hz193)⟩
theorem r_spec_l06B_build_n : ∀ n, Ct_spec_l06B_build (m_spec_l06B_build_n n)
  | 0 => fun C b1 b2 A3 c4 list5 A6 c7 hp8 hO hd r h => by cases h
  | n + 1 => r_spec_l06B_build_b _ (r_spec_l06B_build_n n)
theorem r_spec_l06B_build : Ct_spec_l06B_build (m_spec_l06B_build) := r_spec_l06B_build_n fuelN
def Ct_spec_l06R_visit (rc : l06R → Int → Option l06R) : Prop := ∀ (C : Cx) (r1 : l06R) (b2 : Nat) (A3 : Option Addr) (c4 : Nat) (hp5 : (sliceRep NodeRep).R C.w0 C.S0 r1.old [vL A3 r1.old c4]) (A6 : Option Addr) (c7 : Nat) (A8 : Option Addr) (c9 : Nat) (k10 : Int) (hp11 : R64 k10) (hO : Mem C C.w0 [.box b2 [vL A3 (r1.old) c4, vL A6 (r1.place) c7, vL A8 (r1.out) c9] 157, .row intRep A6 c7 2 r1.place true, .row NodeNilRep A8 c9 79 r1.out true] []) (hd : ∀ b, C.S0 b → ¬ ownB [.box b2 [vL A3 (r1.old) c4, vL A6 (r1.place) c7, vL A8 (r1.out) c9] 157, .row intRep A6 c7 2 r1.place true, .row NodeNilRep A8 c9 79 r1.out true] b) (r : l06R) (h : rc r1 k10 = some r),
    Calls Tryz.prog 102 #[vP b2 (0), vI (k10)] C.w0 fun e w => ∃ (A_1 : Option Addr), ∃ (c_1 : Nat), ∃ (A_2 : Option Addr), ∃ (c_2 : Nat), e = .returned (.tuple #[]) ∧ Mem C w [.box b2 [vL A3 (r1.old) c4, vL A_1 (r.place) c_1, vL A_2 (r.out) c_2] 157, .row intRep A_1 c_1 2 r.place true, .row NodeNilRep A_2 c_2 79 r.out true] []
theorem r_spec_l06R_visit_b (rc : l06R → Int → Option l06R) (ih : Ct_spec_l06R_visit rc) : Ct_spec_l06R_visit (m_spec_l06R_visit_b rc) := by
 intro C r1 b2 A3 c4 hp5 A6 c7 A8 c9 k10 hp11 hO hd r h
 have hM := hO
 have hM := hM.addIn hd (y := .dat (sliceRep NodeRep) r1.old [vL A3 r1.old c4]) hp5
 refine enter Tryz.func102 rfl Tryz.ntmps102 rfl fun a hf => ?_
 unfold m_spec_l06R_visit_b at h
 refine wp_seq ?_
 obtain ⟨w12, hw⟩ : ∃ x, x = C.w0.drew := ⟨_, rfl⟩
 refine region_pi (.q 0 (.q 1 (.q 2 (.q 3 (.q 4 (.q 5 (.q 6 (.q 7 (.q 8 (.q 9 (.q 10 (.l 11 (.nil))))))))))))) (Ext w12) rfl (by kernel_rfl) ?_
 have hM := hM.drew
 rw [← hw] at hM ⊢
 clear hw
 refine pi_q hf rfl rfl rfl rfl (Ext.refl _) (e_move hf rfl) fun a hf => ?_
 refine pi_q hf rfl rfl rfl rfl (Ext.refl _) (e_nil hf rfl) fun a hf => ?_
 refine pi_q hf rfl rfl rfl rfl (Ext.refl _) (e_field hf rfl Tryz.underlying157 rfl Tryz.sizeOf77 (o' := 1) rfl) fun a hf => ?_
 refine pi_q hf rfl rfl rfl rfl (Ext.refl _) (e_load1 hf rfl Tryz.isAgg77 (hM.boxCell (k := 0) rfl rfl)) fun a hf => ?_
 iterate 2 refine pi_q hf rfl rfl rfl rfl (Ext.refl _) (e_move hf rfl) fun a hf => ?_
 refine pi_q hf rfl rfl rfl rfl (Ext.refl _) (e_nil hf rfl) fun a hf => ?_
 refine pi_q hf rfl rfl rfl rfl (Ext.refl _) (e_field hf rfl Tryz.underlying157 rfl Tryz.sizeOf24 (o' := 2) rfl) fun a hf => ?_
 refine pi_q hf rfl rfl rfl rfl (Ext.refl _) (e_load1 hf rfl Tryz.isAgg24 (hM.boxCell (k := 0) rfl rfl)) fun a hf => ?_
 have hl13 := row_len (hM.ownAt (k := 2) rfl)
 refine pi_q hf rfl rfl rfl rfl (Ext.refl _) (e_lenL hf (x := r1.out) rfl Tryz.underlying24) fun a hf => ?_
 obtain ⟨e14, hz15, h⟩ := bind_some h
 obtain ⟨b20, _, hA21, h16, h17, hr18, hcell19⟩ := hM.rowElemN (k := 1) rfl (n := 1) rfl hz15
 obtain ⟨rfl, hv22⟩ := hr18
 refine pi_q hf rfl rfl rfl rfl (Ext.refl _) (e_indexAddr (A := A6) (b := b20) (o := 0) (xs := r1.place) (i := k10) hf hA21 rfl rfl Tryz.underlying77 Tryz.sizeOf2 h16 h17) fun a hf => ?_
 refine pi_one ?_
 obtain ⟨xs24, hz25, h⟩ := bind_some h
 refine pi_z0 hf rfl rfl rfl (by kernel_rfl) (w_storeElem hf hM (x := (r1.out.length : Int)) (row := [vI ((r1.out.length : Int))]) (i := k10) rfl rfl rfl hA21 (k := 1) rfl rfl Tryz.sizeOf2 ⟨rfl, (R64_len hl13)⟩ hz25 fun w23 hM => ?_)
 dsimp only [List.set] at hM
 have hf := hf.alter (d := 9) (v := vL A6 (xs24) c7) rfl (vL_len (setL_len hz25))
 rw [vL_len (A := A6) (c := c7) (setL_len hz25)] at hM
 refine pi_nil ?_
 refine then_n ?_
 refine wp_seq ?_
 obtain ⟨w28, hw⟩ : ∃ x, x = w23.drew := ⟨_, rfl⟩
 refine region_pi (.q 0 (.q 1 (.q 2 (.q 3 (.q 4 (.q 5 (.q 6 (.q 7 (.q 8 (.q 9 (.q 10 (.q 11 (.q 12 (.q 13 (.q 14 (.q 15 (.q 16 (.q 17 (.q 18 (.q 19 (.q 20 (.q 21 (.l 22 (.l 23 (.q 24 (.q 25 (.l 26 (.nil)))))))))))))))))))))))))))) (ExtM [A8.map (·.block)] w28) rfl (by kernel_rfl) ?_
 have hM := hM.drew
 rw [← hw] at hM ⊢
 clear hw
 iterate 2 refine pi_q hf rfl rfl rfl rfl (ExtM.refl _ _) (e_move hf rfl) fun a hf => ?_
 refine pi_q hf rfl rfl rfl rfl (ExtM.refl _ _) (e_nil hf rfl) fun a hf => ?_
 refine pi_q hf rfl rfl rfl rfl (ExtM.refl _ _) (e_field hf rfl Tryz.underlying157 rfl Tryz.sizeOf24 (o' := 2) rfl) fun a hf => ?_
 refine pi_q hf rfl rfl rfl rfl (ExtM.refl _ _) (e_load1M hf rfl Tryz.isAgg24 (hM.boxCell (k := 0) rfl rfl) (hM.apart (js := [2]) rfl (k := 0) rfl rfl rfl)) fun a hf => ?_
 refine pi_q hf rfl rfl rfl rfl (ExtM.refl _ _) (e_move hf rfl) fun a hf => ?_
 refine pi_q hf rfl rfl rfl rfl (ExtM.refl _ _) (e_nil hf rfl) fun a hf => ?_
 refine pi_q hf rfl rfl rfl rfl (ExtM.refl _ _) (e_field hf rfl Tryz.underlying157 rfl Tryz.sizeOf24 (o' := 0) rfl) fun a hf => ?_
 refine pi_q hf rfl rfl rfl rfl (ExtM.refl _ _) (e_load1M hf rfl Tryz.isAgg24 (hM.boxCell (k := 0) rfl rfl) (hM.apart (js := [2]) rfl (k := 0) rfl rfl rfl)) fun a hf => ?_
 refine pi_q hf rfl rfl rfl rfl (ExtM.refl _ _) (e_move hf rfl) fun a hf => ?_
 obtain ⟨e29, hz30, h⟩ := bind_some h
 obtain ⟨b34, o35, _, hA36, h31, h32, hr33, hM⟩ := hM.elem (hM.dat (k := 0) rfl) (n := 3) rfl hz30
 obtain ⟨A38, c39, rfl, hv37, hv40⟩ := NodeRep_open hr33
 have hM := hM.add (y := .dat (sliceRep intRep) e29.Next [vL A38 e29.Next c39]) hv40
 refine pi_q hf rfl rfl rfl rfl (ExtM.refl _ _) (e_indexAddr (A := A3) (b := b34) (o := o35) (xs := r1.old) (i := k10) hf hA36 rfl rfl Tryz.underlying24 Tryz.sizeOf79 h31 h32) fun a hf => ?_
 refine pi_q hf rfl rfl rfl rfl (ExtM.refl _ _) (e_field hf rfl Tryz.underlying79 rfl Tryz.sizeOf4 (o' := (o35 + (k10 : Int).toNat * 3) + 0) rfl) fun a hf => ?_
 refine pi_q hf rfl rfl rfl rfl (ExtM.refl _ _) (e_load1M hf rfl Tryz.isAgg4 (hM.litCell (k := 1) (j := 0) rfl rfl rfl) (hM.apartS (js := [2]) rfl (hM.at_ (k := 1) rfl).1)) fun a hf => ?_
 refine pi_q hf rfl rfl rfl rfl (ExtM.refl _ _) (e_move hf rfl) fun a hf => ?_
 refine pi_q hf rfl rfl rfl rfl (ExtM.refl _ _) (e_nil hf rfl) fun a hf => ?_
 refine pi_q hf rfl rfl rfl rfl (ExtM.refl _ _) (e_field hf rfl Tryz.underlying157 rfl Tryz.sizeOf24 (o' := 0) rfl) fun a hf => ?_
 refine pi_q hf rfl rfl rfl rfl (ExtM.refl _ _) (e_load1M hf rfl Tryz.isAgg24 (hM.boxCell (k := 0) rfl rfl) (hM.apart (js := [2]) rfl (k := 0) rfl rfl rfl)) fun a hf => ?_
 refine pi_q hf rfl rfl rfl rfl (ExtM.refl _ _) (e_move hf rfl) fun a hf => ?_
 obtain ⟨e41, hz42, h⟩ := bind_some h
 obtain ⟨b46, o47, _, hA48, h43, h44, hr45, hM⟩ := hM.elem (hM.dat (k := 2) rfl) (n := 3) rfl hz42
 obtain ⟨A50, c51, rfl, hv49, hv52⟩ := NodeRep_open hr45
 have hM := hM.add (y := .dat (sliceRep intRep) e41.Next [vL A50 e41.Next c51]) hv52
 refine pi_q hf rfl rfl rfl rfl (ExtM.refl _ _) (e_indexAddr (A := A3) (b := b46) (o := o47) (xs := r1.old) (i := k10) hf hA48 rfl rfl Tryz.underlying24 Tryz.sizeOf79 h43 h44) fun a hf => ?_
 refine pi_q hf rfl rfl rfl rfl (ExtM.refl _ _) (e_field hf rfl Tryz.underlying79 rfl Tryz.sizeOf9 (o' := (o47 + (k10 : Int).toNat * 3) + 1) rfl) fun a hf => ?_
 refine pi_q hf rfl rfl rfl rfl (ExtM.refl _ _) (e_load1M hf rfl Tryz.isAgg9 (hM.litCell (k := 1) (j := 1) rfl rfl rfl) (hM.apartS (js := [2]) rfl (hM.at_ (k := 1) rfl).1)) fun a hf => ?_
 refine pi_q hf rfl rfl rfl rfl (ExtM.refl _ _) (e_build hf Tryz.zeroValue79 Tryz.underlying79 (bp_79 _ Tryz.underlying79.symm) rfl (cs := #[.bool (e29.Final), vS (e41.Letters), vL none (([] : (List Int))) 0]) (by kernel_rfl)) fun a hf => ?_
 refine pi_one ?_
 refine pi_l hf rfl rfl rfl rfl (w_slice hf hM (K := NodeNilRep) (xs := ([(⟨e29.Final, e41.Letters, ([] : (List Int))⟩ : Node)] : (List Node))) (os := [.tmp 38]) Tryz.underlying24 ei_79 rfl rfl rfl rfl rfl ⟨⟨[.bool (e29.Final), vS (e41.Letters), vL none (([] : (List Int))) 0], rfl, (NodeNilRep_mk (x := (⟨e29.Final, e41.Letters, ([] : (List Int))⟩ : Node)) hv49)⟩, trivial⟩ rfl fun b53 w54 hx55 hM => ⟨ExtM [A8.map (·.block)] w54, fun _ h => ExtM.trans hx55 h, ExtM.refl _ _, fun a hf => ?_⟩)
 refine pi_one ?_
 obtain ⟨xs56, hz57, h⟩ := bind_some h
 refine pi_l hf rfl rfl rfl rfl (w_appendX hf hM Tryz.underlying24 ei_79 rfl rfl rfl (k := 3) rfl (hM.srcRow (k := 0) rfl) hz57 fun A58 c59 w60 hsz62 hold61 hM => ⟨Ext w60, fun _ h => ExtM.last (ExtM.ofRow (List.mem_of_getElem? (i := 0) rfl) hold61) hsz62 h, Ext.refl _, fun a hf => ?_⟩)
 dsimp only [List.set] at hM
 refine pi_q hf rfl rfl rfl rfl (Ext.refl _) (e_nil hf rfl) fun a hf => ?_
 refine pi_q hf rfl rfl rfl rfl (Ext.refl _) (e_field hf rfl Tryz.underlying157 rfl Tryz.sizeOf24 (o' := 2) rfl) fun a hf => ?_
 refine pi_one ?_
 refine pi_z0 hf rfl rfl rfl (by kernel_rfl) (w_store hf hM (us := [vL A58 (xs56) c59]) (cs' := [vL A3 (r1.old) c4, vL A6 (xs24) c7, vL A58 (xs56) c59]) rfl rfl (k := 1) rfl rfl Tryz.sizeOf24 rfl rfl rfl fun w63 hM => ?_)
 dsimp only [List.set] at hM
 refine pi_nil ?_
 refine then_n ?_
 refine wp_seq ?_
 refine region_pl ?_
 refine q_ hf rfl rfl rfl (e_assign hf rfl) fun a hf => ?_
 refine pl_nil ?_
 refine then_n ?_
 refine wp_block ?_
 obtain ⟨x81, h82, h⟩ := bind_some h
 refine wp_loopM h82 (fun s a w => ∃ (xs66 : (List Int)) (xs69 : (List Node)) (n72 : Int) (A67 : Option Addr) (c68 : Nat) (A70 : Option Addr) (c71 : Nat), (xs66, xs69, n72) = s ∧ Has 78 a [(0, vP b2 (0)), (1, vI (k10)), (4, vI (n72))] ∧ Mem C w [.row NodeNilRep (some ⟨b53, 0, none⟩) 1 79 ([(⟨e29.Final, e41.Letters, ([] : (List Int))⟩ : Node)] : (List Node)) true, .box b2 [vL A3 (r1.old) c4, vL A67 (xs66) c68, vL A70 (xs69) c71] 157, .row intRep A67 c68 2 xs66 true, .row NodeNilRep A70 c71 79 xs69 true] [.dat (sliceRep intRep) e41.Next [vL A50 e41.Next c51], .lit b46 (o47 + (k10 : Int).toNat * 3) [.bool (e41.Final), vS (e41.Letters), vL A50 (e41.Next) c51], .dat (sliceRep intRep) e29.Next [vL A38 e29.Next c39], .lit b34 (o35 + (k10 : Int).toNat * 3) [.bool (e29.Final), vS (e29.Letters), vL A38 (e29.Next) c39], .dat (sliceRep NodeRep) r1.old [vL A3 r1.old c4]] ∧ R64 n72) ?_ ?_
 ·exact ⟨xs24, xs56, 0, A6, c7, A58, c59, rfl, hf.keep ⟨rfl, rfl, rfl, trivial⟩, hM.pick [0, 1, 2, 3, 4] rfl, (R64_lit rfl)⟩
 rintro s o83 a w74 ⟨xs66, xs69, n72, A67, c68, A70, c71, rfl, hf, hM, hv73⟩ h84 hd85
 replace h84 : m_spec_l06R_visit_l1 r1 k10 rc xs66 xs69 n72 = some o83 := h84
 unfold m_spec_l06R_visit_l1 at h84
 iterate 2 refine wp_seq ?_
 refine region_pl ?_
 iterate 2 refine q_ hf rfl rfl rfl (e_move hf rfl) fun a hf => ?_
 refine q_ hf rfl rfl rfl (e_nil hf rfl) fun a hf => ?_
 refine q_ hf rfl rfl rfl (e_field hf rfl Tryz.underlying157 rfl Tryz.sizeOf24 (o' := 0) rfl) fun a hf => ?_
 refine q_ hf rfl rfl rfl (e_load1 hf rfl Tryz.isAgg24 (hM.boxCell (k := 1) rfl rfl)) fun a hf => ?_
 refine q_ hf rfl rfl rfl (e_move hf rfl) fun a hf => ?_
 obtain ⟨e86, hz87, h84⟩ := bind_some h84
 obtain ⟨b91, o92, _, hA93, h88, h89, hr90, hM⟩ := hM.elem (hM.dat (k := 4) rfl) (n := 3) rfl hz87
 obtain ⟨A95, c96, rfl, hv94, hv97⟩ := NodeRep_open hr90
 have hM := hM.add (y := .dat (sliceRep intRep) e86.Next [vL A95 e86.Next c96]) hv97
 refine q_ hf rfl rfl rfl (e_indexAddr (A := A3) (b := b91) (o := o92) (xs := r1.old) (i := k10) hf hA93 rfl rfl Tryz.underlying24 Tryz.sizeOf79 h88 h89) fun a hf => ?_
 refine q_ hf rfl rfl rfl (e_field hf rfl Tryz.underlying79 rfl Tryz.sizeOf77 (o' := (o92 + (k10 : Int).toNat * 3) + 2) rfl) fun a hf => ?_
 refine q_ hf rfl rfl rfl (e_load1 hf rfl Tryz.isAgg77 (hM.litCell (k := 1) (j := 2) rfl rfl rfl)) fun a hf => ?_
 have hl98 := slice_len (hM.dat (k := 0) rfl)
 refine q_ hf rfl rfl rfl (e_lenL hf (x := e86.Next) rfl Tryz.underlying77) fun a hf => ?_
 refine q_ hf rfl rfl rfl (e_lt hf (x := n72) (y := (e86.Next.length : Int)) rfl rfl) fun a hf => ?_
 refine pl_nil ?_
 refine then_n ?_
 rcases cond_some h84 with ⟨hc99, h84⟩ | ⟨hc99, h84⟩
 ·refine cond_t hf rfl hc99 ?_
  refine wp_skip ?_
  refine then_n ?_
  obtain ⟨x106, h107, h84⟩ := bind_some h84
  refine seq_join (fun a w => ∃ (xs100 : (List Int)) (xs103 : (List Node)) (A101 : Option Addr) (c102 : Nat) (A104 : Option Addr) (c105 : Nat), (xs100, xs103) = x106 ∧ Has 78 a [(0, vP b2 (0)), (1, vI (k10)), (4, vI (n72))] ∧ Mem C w [.row NodeNilRep (some ⟨b53, 0, none⟩) 1 79 ([(⟨e29.Final, e41.Letters, ([] : (List Int))⟩ : Node)] : (List Node)) true, .box b2 [vL A3 (r1.old) c4, vL A101 (xs100) c102, vL A104 (xs103) c105] 157, .row intRep A101 c102 2 xs100 true, .row NodeNilRep A104 c105 79 xs103 true] [.dat (sliceRep intRep) e86.Next [vL A95 e86.Next c96], .lit b91 (o92 + (k10 : Int).toNat * 3) [.bool (e86.Final), vS (e86.Letters), vL A95 (e86.Next) c96], .dat (sliceRep intRep) e41.Next [vL A50 e41.Next c51], .lit b46 (o47 + (k10 : Int).toNat * 3) [.bool (e41.Final), vS (e41.Letters), vL A50 (e41.Next) c51], .dat (sliceRep intRep) e29.Next [vL A38 e29.Next c39], .lit b34 (o35 + (k10 : Int).toNat * 3) [.bool (e29.Final), vS (e29.Letters), vL A38 (e29.Next) c39], .dat (sliceRep NodeRep) r1.old [vL A3 r1.old c4]]) ?_ ?_
  ·refine wp_block ?_
   refine wp_seq ?_
   refine region_pl ?_
   refine q_ hf rfl rfl rfl (e_move hf rfl) fun a hf => ?_
   refine q_ hf rfl rfl rfl (e_nil hf rfl) fun a hf => ?_
   refine q_ hf rfl rfl rfl (e_field hf rfl Tryz.underlying157 rfl Tryz.sizeOf24 (o' := 0) rfl) fun a hf => ?_
   refine q_ hf rfl rfl rfl (e_load1 hf rfl Tryz.isAgg24 (hM.boxCell (k := 1) rfl rfl)) fun a hf => ?_
   refine q_ hf rfl rfl rfl (e_move hf rfl) fun a hf => ?_
   obtain ⟨e108, hz109, h107⟩ := bind_some h107
   obtain ⟨b113, o114, _, hA115, h110, h111, hr112, hM⟩ := hM.elem (hM.dat (k := 6) rfl) (n := 3) rfl hz109
   obtain ⟨A117, c118, rfl, hv116, hv119⟩ := NodeRep_open hr112
   have hM := hM.add (y := .dat (sliceRep intRep) e108.Next [vL A117 e108.Next c118]) hv119
   refine q_ hf rfl rfl rfl (e_indexAddr (A := A3) (b := b113) (o := o114) (xs := r1.old) (i := k10) hf hA115 rfl rfl Tryz.underlying24 Tryz.sizeOf79 h110 h111) fun a hf => ?_
   refine q_ hf rfl rfl rfl (e_field hf rfl Tryz.underlying79 rfl Tryz.sizeOf77 (o' := (o114 + (k10 : Int).toNat * 3) + 2) rfl) fun a hf => ?_
   refine q_ hf rfl rfl rfl (e_load1 hf rfl Tryz.isAgg77 (hM.litCell (k := 1) (j := 2) rfl rfl rfl)) fun a hf => ?_
   refine q_ hf rfl rfl rfl (e_move hf rfl) fun a hf => ?_
   obtain ⟨e120, hz121, h107⟩ := bind_some h107
   obtain ⟨b125, o126, _, hA127, h122, h123, hr124, hM⟩ := hM.elem (hM.dat (k := 0) rfl) (n := 1) rfl hz121
   obtain ⟨rfl, hv128⟩ := hr124
   refine q_ hf rfl rfl rfl (e_indexAddr (A := A117) (b := b125) (o := o126) (xs := e108.Next) (i := n72) hf hA127 rfl rfl Tryz.underlying77 Tryz.sizeOf2 h122 h123) fun a hf => ?_
   refine q_ hf rfl rfl rfl (e_load1 hf rfl Tryz.isAgg2 (hM.litCell (k := 0) (j := 0) rfl rfl rfl)) fun a hf => ?_
   refine q_ hf rfl rfl rfl (e_assign hf rfl) fun a hf => ?_
   refine pl_nil ?_
   refine then_n ?_
   refine wp_seq ?_
   refine region_pl ?_
   refine q_ hf rfl rfl rfl (e_move hf rfl) fun a hf => ?_
   refine q_ hf rfl rfl rfl (e_nil hf rfl) fun a hf => ?_
   refine q_ hf rfl rfl rfl (e_field hf rfl Tryz.underlying157 rfl Tryz.sizeOf77 (o' := 1) rfl) fun a hf => ?_
   refine q_ hf rfl rfl rfl (e_load1 hf rfl Tryz.isAgg77 (hM.boxCell (k := 1) rfl rfl)) fun a hf => ?_
   refine q_ hf rfl rfl rfl (e_move hf rfl) fun a hf => ?_
   obtain ⟨e129, hz130, h107⟩ := bind_some h107
   obtain ⟨b135, _, hA136, h131, h132, hr133, hcell134⟩ := hM.rowElemN (k := 2) rfl (n := 1) rfl hz130
   obtain ⟨rfl, hv137⟩ := hr133
   refine q_ hf rfl rfl rfl (e_indexAddr (A := A67) (b := b135) (o := 0) (xs := xs66) (i := e120) hf hA136 rfl rfl Tryz.underlying77 Tryz.sizeOf2 h131 h132) fun a hf => ?_
   refine q_ hf rfl rfl rfl (e_load1 hf rfl Tryz.isAgg2 (hcell134 0 _ rfl)) fun a hf => ?_
   refine q_ hf rfl rfl rfl (e_lt hf (x := e129) (y := 0) rfl rfl) fun a hf => ?_
   refine pl_nil ?_
   refine then_n ?_
   rcases cond_some h107 with ⟨hc138, h107⟩ | ⟨hc138, h107⟩
   ·refine cond_t hf rfl hc138 ?_
    refine region_pl ?_
    iterate 2 refine q_ hf rfl rfl rfl (e_move hf rfl) fun a hf => ?_
    have hM := hM.front (k := 3) rfl
    dsimp only [List.eraseIdx] at hM
    have hM := hM.front (k := 3) rfl
    dsimp only [List.eraseIdx] at hM
    have hM := hM.front (k := 3) rfl
    dsimp only [List.eraseIdx] at hM
    have hM : Mem C _ ([.box b2 [vL A3 (r1.old) c4, vL A67 (xs66) c68, vL A70 (xs69) c71] 157, .row intRep A67 c68 2 xs66 true, .row NodeNilRep A70 c71 79 xs69 true] ++ [.row NodeNilRep (some ⟨b53, 0, none⟩) 1 79 ([(⟨e29.Final, e41.Letters, ([] : (List Int))⟩ : Node)] : (List Node)) true]) _ := hM
    obtain ⟨y139, hz140, h107⟩ := bind_some h107
    refine pl_l hf rfl rfl rfl (w_call hf Tryz.call102 rfl (ih ⟨_, Sh C _ _, ownB _, hM.sh_lt, sub_dis, C.G, hM.g_lt, hM.g_own, hM.tabs⟩ (⟨r1.old, xs66, xs69⟩ : l06R) _ _ _ (hM.dat (k := 9) rfl) _ _ _ _ e120 hv128 hM.sub sub_dis _ hz140) ?_)
    rintro _ w145 ⟨A141, c142, A143, c144, rfl, hM2⟩
    obtain ⟨hM, hup147⟩ := hM.backG hM2
    dsimp only [List.cons_append, List.nil_append] at hM hup147
    clear hM2
    refine ⟨_, rfl, fun a hf => ?_⟩
    refine pl_nil ?_
    refine blk_n ?_
    obtain rfl := some_inj h107
    refine then_n ?_
    have hM := hM.front (k := 2) rfl
    dsimp only [List.eraseIdx] at hM
    have hM := hM.front (k := 2) rfl
    dsimp only [List.eraseIdx] at hM
    have hM := hM.front (k := 2) rfl
    dsimp only [List.eraseIdx] at hM
    have hM := hM.front (k := 3) rfl
    dsimp only [List.eraseIdx] at hM
    exact ⟨y139.place, y139.out, A141, c142, A143, c144, rfl, hf.keep ⟨rfl, rfl, rfl, trivial⟩, hM.pick [3, 4, 5, 6, 7, 8, 9] rfl⟩
   refine cond_f hf rfl hc138 ?_
   refine wp_skip ?_
   refine blk_n ?_
   obtain rfl := some_inj h107
   refine then_n ?_
   exact ⟨xs66, xs69, A67, c68, A70, c71, rfl, hf.keep ⟨rfl, rfl, rfl, trivial⟩, hM.pick [3, 4, 5, 6, 7, 8, 9] rfl⟩
  rintro a w150 ⟨xs100, xs103, A101, c102, A104, c105, rfl, hf, hM⟩
  try dsimp only at h84
  refine region_pl ?_
  refine q_ hf rfl rfl rfl (e_move hf rfl) fun a hf => ?_
  obtain ⟨z151, hz152, h84⟩ := bind_some h84
  refine q_ hf rfl rfl rfl (e_add hf rfl rfl hz152) fun a hf => ?_
  refine q_ hf rfl rfl rfl (e_assign hf rfl) fun a hf => ?_
  refine pl_nil ?_
  obtain rfl := some_inj h84
  refine then_n ⟨_, rfl, ?_⟩
  exact ⟨xs100, xs103, z151, A101, c102, A104, c105, rfl, hf.keep ⟨rfl, rfl, rfl, trivial⟩, hM.pick [2, 3, 4, 5, 6] rfl, (chk_R hz152)⟩
 refine cond_f hf rfl hc99 ?_
 refine wp_exit ?_
 refine then_x ?_
 obtain rfl := some_inj h84
 obtain rfl := hd85 _ rfl
 try dsimp only at h
 refine then_x ?_
 refine exit_hit ?_
 obtain rfl := some_inj h
 have hM := hM.front (k := 3) rfl
 dsimp only [List.eraseIdx] at hM
 have hM := hM.front (k := 3) rfl
 dsimp only [List.eraseIdx] at hM
 have hM := hM.front (k := 3) rfl
 dsimp only [List.eraseIdx] at hM
 have hM := hM.outs (own' := [.box b2 [vL A3 (r1.old) c4, vL A67 (xs66) c68, vL A70 (xs69) c71] 157, .row intRep A67 c68 2 xs66 true, .row NodeNilRep A70 c71 79 xs69 true]) 3 rfl
 exact leave0n hf rfl ⟨A67, c68, A70, c71, rfl, hM.fin⟩
theorem r_spec_l06R_visit_n : ∀ n, Ct_spec_l06R_visit (m_spec_l06R_visit_n n)
  | 0 => fun C r1 b2 A3 c4 hp5 A6 c7 A8 c9 k10 hp11 hO hd r h => by cases h
  | n + 1 => r_spec_l06R_visit_b _ (r_spec_l06R_visit_n n)
theorem r_spec_l06R_visit : Ct_spec_l06R_visit (m_spec_l06R_visit) := r_spec_l06R_visit_n fuelN
theorem r_spec_l06Number (C : Cx) (nodes1 : (List Node)) (A2 : Option Addr) (c3 : Nat) (hp4 : (sliceRep NodeRep).R C.w0 C.S0 nodes1 [vL A2 nodes1 c3]) (root5 : Int) (hp6 : R64 root5) (r : (List Node)) (h : m_spec_l06Number nodes1 root5 = some r) :
    Calls Tryz.prog 71 #[vL A2 (nodes1) c3, vI (root5)] C.w0 fun e w => ∃ (A_1 : Option Addr), ∃ (c_1 : Nat), e = .returned (vL A_1 (r) c_1) ∧ Mem C w [] [] ∧ (sliceRep NodeRep).R w (Sh C [] w) r [vL A_1 r c_1] := by
 have hM := Mem.begin C [.dat (sliceRep NodeRep) nodes1 [vL A2 nodes1 c3]] ⟨hp4, trivial⟩
 refine enter Tryz.func71 rfl Tryz.ntmps71 rfl fun a hf => ?_
 unfold m_spec_l06Number at h
 refine wp_seq ?_
 refine region_pl ?_
 refine q_ hf rfl rfl rfl (e_assign hf rfl) fun a hf => ?_
 refine pl_nil ?_
 refine then_n ?_
 refine wp_seq ?_
 refine region_pl ?_
 refine q_ hf rfl rfl rfl (e_move hf rfl) fun a hf => ?_
 refine q_ hf rfl rfl rfl (e_build hf Tryz.zeroValue157 Tryz.underlying157 (bp_157 _ Tryz.underlying157.symm) rfl (cs := #[vL A2 (nodes1) c3, vL none (([] : (List Int))) 0, vL none (([] : (List Node))) 0]) (by kernel_rfl)) fun a hf => ?_
 refine pl_l hf rfl rfl rfl (w_box hf hM (cs := [vL A2 (nodes1) c3, vL none (([] : (List Int))) 0, vL none (([] : (List Node))) 0]) rfl rfl fun b7 w8 hx9 hM a hf => ?_)
 refine q_ hf rfl rfl rfl (e_assign hf rfl) fun a hf => ?_
 refine pl_nil ?_
 refine then_n ?_
 obtain ⟨x17, h18, h⟩ := bind_some h
 refine seq_join (fun a w => ∃ (xs11 : (List Int)) (xs14 : (List Node)) (A12 : Option Addr) (c13 : Nat) (A15 : Option Addr) (c16 : Nat), (xs11, xs14) = x17 ∧ Has 89 a [(0, vL A2 (nodes1) c3), (1, vI (root5)), (5, vP b7 (0))] ∧ Mem C w [.row NodeNilRep A15 c16 79 xs14 true, .row intRep A12 c13 2 xs11 true, .box b7 [vL A2 (nodes1) c3, vL A12 (xs11) c13, vL A15 (xs14) c16] 157] [.dat (sliceRep NodeRep) nodes1 [vL A2 nodes1 c3]]) ?_ ?_
 ·refine wp_seq ?_
  refine region_pl ?_
  refine q_ hf rfl rfl rfl (e_move hf rfl) fun a hf => ?_
  have hl19 := slice_len (hM.dat (k := 0) rfl)
  refine q_ hf rfl rfl rfl (e_lenL hf (x := nodes1) rfl Tryz.underlying24) fun a hf => ?_
  refine q_ hf rfl rfl rfl (e_move hf rfl) fun a hf => ?_
  refine pl_nil ?_
  refine then_n ?_
  refine wp_block ?_
  have hM := hM.nilRow intRep 2
  have hM := hM.nilRow NodeNilRep 79
  obtain ⟨x29, h30, h18⟩ := bind_some h18
  refine wp_loopM h30 (fun s a w => ∃ (xs20 : (List Int)) (n23 : Int) (A21 : Option Addr) (c22 : Nat), (xs20, n23) = s ∧ Has 89 a [(0, vL A2 (nodes1) c3), (1, vI (root5)), (5, vP b7 (0)), (13, vI ((nodes1.length : Int))), (14, vI (n23))] ∧ Mem C w [.row NodeNilRep none 0 79 ([] : (List Node)) true, .row intRep A21 c22 2 xs20 true, .box b7 [vL A2 (nodes1) c3, vL A21 (xs20) c22, vL none (([] : (List Node))) 0] 157] [.dat (sliceRep NodeRep) nodes1 [vL A2 nodes1 c3]] ∧ R64 n23) ?_ ?_
  ·exact ⟨([] : (List Int)), 0, none, 0, rfl, hf.keep ⟨rfl, rfl, rfl, rfl, rfl, trivial⟩, hM.pick [0] rfl, (R64_lit rfl)⟩
  rintro s o31 a w25 ⟨xs20, n23, A21, c22, rfl, hf, hM, hv24⟩ h32 hd33
  replace h32 : m_spec_l06Number_l1 nodes1 xs20 n23 = some o31 := h32
  unfold m_spec_l06Number_l1 at h32
  refine wp_seq ?_
  refine region_pl ?_
  refine q_ hf rfl rfl rfl (e_lt hf (x := n23) (y := (nodes1.length : Int)) rfl rfl) fun a hf => ?_
  refine pl_nil ?_
  refine then_n ?_
  refine wp_seq ?_
  rcases cond_some h32 with ⟨hc34, h32⟩ | ⟨hc34, h32⟩
  ·refine cond_t hf rfl hc34 ?_
   refine wp_skip ?_
   refine then_n ?_
   refine wp_seq ?_
   refine wp_block ?_
   refine region_pl ?_
   iterate 2 refine q_ hf rfl rfl rfl (e_move hf rfl) fun a hf => ?_
   refine q_ hf rfl rfl rfl (e_nil hf rfl) fun a hf => ?_
   refine q_ hf rfl rfl rfl (e_field hf rfl Tryz.underlying157 rfl Tryz.sizeOf77 (o' := 1) rfl) fun a hf => ?_
   refine q_ hf rfl rfl rfl (e_load1 hf rfl Tryz.isAgg77 (hM.boxCell (k := 2) rfl rfl)) fun a hf => ?_
   refine pl_l hf rfl rfl rfl (w_slice hf hM (K := intRep) (xs := ([(-1)] : (List Int))) (os := [.const (.int .i64 (-1))]) Tryz.underlying77 ei_2 rfl rfl rfl rfl rfl ⟨⟨[vI ((-1))], rfl, ⟨rfl, (R64_lit rfl)⟩⟩, trivial⟩ rfl fun b35 w36 hx37 hM a hf => ?_)
   obtain ⟨xs38, hz39, h32⟩ := bind_some h32
   refine pl_l hf rfl rfl rfl (w_append hf hM Tryz.underlying77 ei_2 rfl rfl rfl (k := 2) rfl (hM.srcRow (k := 0) rfl) hz39 fun A40 c41 w42 hM a hf => ?_)
   dsimp only [List.set] at hM
   refine q_ hf rfl rfl rfl (e_nil hf rfl) fun a hf => ?_
   refine q_ hf rfl rfl rfl (e_field hf rfl Tryz.underlying157 rfl Tryz.sizeOf77 (o' := 1) rfl) fun a hf => ?_
   refine pl_0 hf rfl rfl (w_store hf hM (us := [vL A40 (xs38) c41]) (cs' := [vL A2 (nodes1) c3, vL A40 (xs38) c41, vL none (([] : (List Node))) 0]) rfl rfl (k := 3) rfl rfl Tryz.sizeOf77 rfl rfl rfl fun w45 hM => ?_)
   dsimp only [List.set] at hM
   refine pl_nil ?_
   refine blk_n ?_
   refine then_n ?_
   refine region_pl ?_
   obtain ⟨z48, hz49, h32⟩ := bind_some h32
   refine q_ hf rfl rfl rfl (e_add hf rfl rfl hz49) fun a hf => ?_
   refine q_ hf rfl rfl rfl (e_move hf rfl) fun a hf => ?_
   refine pl_nil ?_
   obtain rfl := some_inj h32
   refine then_n ⟨_, rfl, ?_⟩
   exact ⟨xs38, z48, A40, c41, rfl, hf.keep ⟨rfl, rfl, rfl, rfl, rfl, trivial⟩, (hM.drop (.cons _ (.cons_cons _ (.cons_cons _ (.cons_cons _ .slnil))))).pick [0] rfl, (chk_R hz49)⟩
  refine cond_f hf rfl hc34 ?_
  refine wp_exit ?_
  refine then_x ?_
  obtain rfl := some_inj h32
  obtain rfl := hd33 _ rfl
  try dsimp only at h18
  refine then_x ?_
  refine exit_hit ?_
  obtain rfl := some_inj h18
  refine then_n ?_
  exact ⟨xs20, ([] : (List Node)), A21, c22, none, 0, rfl, hf.keep ⟨rfl, rfl, rfl, trivial⟩, hM.pick [0] rfl⟩
 rintro a w55 ⟨xs11, xs14, A12, c13, A15, c16, rfl, hf, hM⟩
 try dsimp only at h
 refine wp_seq ?_
 refine region_pl ?_
 iterate 2 refine q_ hf rfl rfl rfl (e_move hf rfl) fun a hf => ?_
 have hM := hM.front (k := 0) rfl
 dsimp only [List.eraseIdx] at hM
 have hM := hM.front (k := 1) rfl
 dsimp only [List.eraseIdx] at hM
 have hM := hM.front (k := 2) rfl
 dsimp only [List.eraseIdx] at hM
 have hM : Mem C _ ([.box b7 [vL A2 (nodes1) c3, vL A12 (xs11) c13, vL A15 (xs14) c16] 157, .row intRep A12 c13 2 xs11 true, .row NodeNilRep A15 c16 79 xs14 true] ++ []) _ := hM
 obtain ⟨y56, hz57, h⟩ := bind_some h
 refine pl_l hf rfl rfl rfl (w_call hf Tryz.call102 rfl (r_spec_l06R_visit ⟨_, Sh C _ _, ownB _, hM.sh_lt, sub_dis, C.G, hM.g_lt, hM.g_own, hM.tabs⟩ (⟨nodes1, xs11, xs14⟩ : l06R) _ _ _ (hM.dat (k := 0) rfl) _ _ _ _ root5 hp6 hM.sub sub_dis _ hz57) ?_)
 rintro _ w62 ⟨A58, c59, A60, c61, rfl, hM2⟩
 obtain ⟨hM, hup64⟩ := hM.backG hM2
 dsimp only [List.cons_append, List.nil_append] at hM hup64
 clear hM2
 refine ⟨_, rfl, fun a hf => ?_⟩
 refine pl_nil ?_
 refine then_n ?_
 obtain ⟨ws0, hw0, hM⟩ := hM.nest 2
 have hl0 : ws0.length = y56.out.length := by rw [← hw0, List.length_map]
 obtain ⟨x65, h66, h⟩ := bind_some h
 refine seq_join (fun a w => ∃ (xs : List Node) (ws : List NodeW), xs = x65 ∧ ws.map NodeW.to = xs ∧ ws.length = y56.out.length ∧ Has 89 a [(5, vP b7 (0))] ∧ Mem C w ([.box b7 [vL A2 (nodes1) c3, vL A58 (y56.place) c59, vL A60 (y56.out) c61] 157, .row intRep A58 c59 2 y56.place true, .row NodeWRep A60 c61 79 ws true] ++ nestO 2 ws) [.dat (sliceRep NodeRep) nodes1 [vL A2 nodes1 c3]]) ?_ ?_
 ·refine wp_seq ?_
  refine region_pl ?_
  refine q_ hf rfl rfl rfl (e_assign hf rfl) fun a hf => ?_
  refine pl_nil ?_
  refine then_n ?_
  refine wp_block ?_
  refine wp_loopM h66 (fun s a w => ∃ (xs : List Node) (ws : List NodeW) (i67 : Int), (xs, i67) = s ∧ ws.map NodeW.to = xs ∧ ws.length = y56.out.length ∧ Has 89 a [(0, vL A2 (nodes1) c3), (5, vP b7 (0)), (6, vI (i67))] ∧ Mem C w ([.box b7 [vL A2 (nodes1) c3, vL A58 (y56.place) c59, vL A60 (y56.out) c61] 157, .row intRep A58 c59 2 y56.place true, .row NodeWRep A60 c61 79 ws true] ++ nestO 2 ws) [.dat (sliceRep NodeRep) nodes1 [vL A2 nodes1 c3]] ∧ R64 i67) ?_ ?_
  ·exact ⟨y56.out, ws0, 0, rfl, hw0, hl0, hf.keep ⟨rfl, rfl, rfl, trivial⟩, hM.pick [0] rfl, (R64_lit rfl)⟩
  rintro s o72 a w69 ⟨xs, ws, i67, rfl, hw1, hl1, hf, hM, hv68⟩ h73 hd74
  replace h73 : m_spec_l06Number_l2 nodes1 y56.place xs i67 = some o72 := h73
  unfold m_spec_l06Number_l2 at h73
  iterate 2 refine wp_seq ?_
  refine region_pl ?_
  iterate 2 refine q_ hf rfl rfl rfl (e_move hf rfl) fun a hf => ?_
  have hl75 := slice_len (hM.dat (k := 0) rfl)
  refine q_ hf rfl rfl rfl (e_lenL hf (x := nodes1) rfl Tryz.underlying24) fun a hf => ?_
  refine q_ hf rfl rfl rfl (e_lt hf (x := i67) (y := (nodes1.length : Int)) rfl rfl) fun a hf => ?_
  refine pl_nil ?_
  refine then_n ?_
  rcases cond_some h73 with ⟨hc76, h73⟩ | ⟨hc76, h73⟩
  ·refine cond_t hf rfl hc76 ?_
   refine wp_skip ?_
   refine then_n ?_
   obtain ⟨x77, h78, h73⟩ := bind_some h73
   refine seq_join (fun a w => ∃ (xs : List Node) (ws : List NodeW), xs = x77 ∧ ws.map NodeW.to = xs ∧ ws.length = y56.out.length ∧ Has 89 a [(0, vL A2 (nodes1) c3), (5, vP b7 (0)), (6, vI (i67))] ∧ Mem C w ([.box b7 [vL A2 (nodes1) c3, vL A58 (y56.place) c59, vL A60 (y56.out) c61] 157, .row intRep A58 c59 2 y56.place true, .row NodeWRep A60 c61 79 ws true] ++ nestO 2 ws) [.dat (sliceRep NodeRep) nodes1 [vL A2 nodes1 c3]]) ?_ ?_
   ·refine wp_block ?_
    refine wp_seq ?_
    refine region_pl ?_
    refine q_ hf rfl rfl rfl (e_move hf rfl) fun a hf => ?_
    refine q_ hf rfl rfl rfl (e_nil hf rfl) fun a hf => ?_
    refine q_ hf rfl rfl rfl (e_field hf rfl Tryz.underlying157 rfl Tryz.sizeOf77 (o' := 1) rfl) fun a hf => ?_
    refine q_ hf rfl rfl rfl (e_load1 hf rfl Tryz.isAgg77 (hM.boxCell (k := 0) rfl rfl)) fun a hf => ?_
    refine q_ hf rfl rfl rfl (e_move hf rfl) fun a hf => ?_
    obtain ⟨e79, hz80, h78⟩ := bind_some h78
    obtain ⟨b85, _, hA86, h81, h82, hr83, hcell84⟩ := hM.rowElemN (k := 1) rfl (n := 1) rfl hz80
    obtain ⟨rfl, hv87⟩ := hr83
    refine q_ hf rfl rfl rfl (e_indexAddr (A := A58) (b := b85) (o := 0) (xs := y56.place) (i := i67) hf hA86 rfl rfl Tryz.underlying77 Tryz.sizeOf2 h81 h82) fun a hf => ?_
    refine q_ hf rfl rfl rfl (e_load1 hf rfl Tryz.isAgg2 (hcell84 0 _ rfl)) fun a hf => ?_
    refine q_ hf rfl rfl rfl (e_assign hf rfl) fun a hf => ?_
    refine pl_nil ?_
    refine then_n ?_
    iterate 2 refine wp_seq ?_
    refine region_pl ?_
    refine q_ hf rfl rfl rfl (e_move hf rfl) fun a hf => ?_
    refine q_ hf rfl rfl rfl (e_lt hf (x := e79) (y := 0) rfl rfl) fun a hf => ?_
    refine pl_nil ?_
    refine then_n ?_
    rcases cond_some h78 with ⟨hc88, h78⟩ | ⟨hc88, h78⟩
    ·refine cond_t hf rfl hc88 ?_
     refine wp_exit ?_
     refine then_x ?_
     refine exit_hit ?_
     obtain rfl := some_inj h78
     refine then_n ?_
     exact ⟨xs, ws, rfl, hw1, hl1, hf.keep ⟨rfl, rfl, rfl, trivial⟩, hM.pick [0] rfl⟩
    refine cond_f hf rfl hc88 ?_
    refine wp_skip ?_
    refine then_n ?_
    refine wp_seq ?_
    refine region_pl ?_
    refine q_ hf rfl rfl rfl (e_assign hf rfl) fun a hf => ?_
    refine pl_nil ?_
    refine then_n ?_
    refine wp_block ?_
    refine wp_loopM h78 (fun s a w => ∃ (xs : List Node) (ws : List NodeW) (n90 : Int), (xs, n90) = s ∧ ws.map NodeW.to = xs ∧ ws.length = y56.out.length ∧ Has 89 a [(0, vL A2 (nodes1) c3), (5, vP b7 (0)), (6, vI (i67)), (7, vI (e79)), (8, vI (n90))] ∧ Mem C w ([.box b7 [vL A2 (nodes1) c3, vL A58 (y56.place) c59, vL A60 (y56.out) c61] 157, .row intRep A58 c59 2 y56.place true, .row NodeWRep A60 c61 79 ws true] ++ nestO 2 ws) [.dat (sliceRep NodeRep) nodes1 [vL A2 nodes1 c3]] ∧ R64 n90) ?_ ?_
    ·exact ⟨xs, ws, 0, rfl, hw1, hl1, hf.keep ⟨rfl, rfl, rfl, rfl, rfl, trivial⟩, hM.pick [0] rfl, (R64_lit rfl)⟩
    clear hw1 hl1 hM
    rintro s o95 a w92 ⟨xs, ws, n90, rfl, hw1, hl1, hf, hM, hv91⟩ h96 hd97
    replace h96 : m_spec_l06Number_l3 nodes1 y56.place i67 e79 xs n90 = some o95 := h96
    unfold m_spec_l06Number_l3 at h96
    iterate 2 refine wp_seq ?_
    refine region_pl ?_
    iterate 3 refine q_ hf rfl rfl rfl (e_move hf rfl) fun a hf => ?_
    obtain ⟨e98, hz99, h96⟩ := bind_some h96
    obtain ⟨b103, o104, _, hA105, h100, h101, hr102, hM⟩ := hM.elem (hM.dat (k := 0) rfl) (n := 3) rfl hz99
    obtain ⟨A107, c108, rfl, hv106, hv109⟩ := NodeRep_open hr102
    have hM := hM.add (y := .dat (sliceRep intRep) e98.Next [vL A107 e98.Next c108]) hv109
    refine q_ hf rfl rfl rfl (e_indexAddr (A := A2) (b := b103) (o := o104) (xs := nodes1) (i := i67) hf hA105 rfl rfl Tryz.underlying24 Tryz.sizeOf79 h100 h101) fun a hf => ?_
    refine q_ hf rfl rfl rfl (e_field hf rfl Tryz.underlying79 rfl Tryz.sizeOf77 (o' := (o104 + (i67 : Int).toNat * 3) + 2) rfl) fun a hf => ?_
    refine q_ hf rfl rfl rfl (e_load1 hf rfl Tryz.isAgg77 (hM.litCell (k := 1) (j := 2) rfl rfl rfl)) fun a hf => ?_
    have hl110 := slice_len (hM.dat (k := 0) rfl)
    refine q_ hf rfl rfl rfl (e_lenL hf (x := e98.Next) rfl Tryz.underlying77) fun a hf => ?_
    refine q_ hf rfl rfl rfl (e_lt hf (x := n90) (y := (e98.Next.length : Int)) rfl rfl) fun a hf => ?_
    refine pl_nil ?_
    refine then_n ?_
    rcases cond_some h96 with ⟨hc111, h96⟩ | ⟨hc111, h96⟩
    ·refine cond_t hf rfl hc111 ?_
     refine wp_skip ?_
     refine then_n ?_
     refine wp_seq ?_
     refine wp_block ?_
     obtain ⟨e113, hz114, h96⟩ := bind_some h96
     obtain ⟨A122, c123, hzx⟩ := nest_get hw1 hz114
     have hat := nest_at 2 [.box b7 [vL A2 (nodes1) c3, vL A58 (y56.place) c59, vL A60 (y56.out) c61] 157, .row intRep A58 c59 2 y56.place true, .row NodeWRep A60 c61 79 ws true] hzx
     obtain ⟨w112, hw⟩ : ∃ x, x = w92.drew := ⟨_, rfl⟩
     refine region_pi (.q 0 (.q 1 (.q 2 (.q 3 (.q 4 (.q 5 (.q 6 (.q 7 (.q 8 (.q 9 (.q 10 (.q 11 (.q 12 (.q 13 (.q 14 (.q 15 (.q 16 (.q 17 (.q 18 (.q 19 (.q 20 (.q 21 (.q 22 (.q 23 (.q 24 (.q 25 (.q 26 (.l 27 (.l 28 (.q 29 (.q 30 (.l 31 (.nil))))))))))))))))))))))))))))))))) (ExtM [A122.map (·.block)] w112) rfl (by kernel_rfl) ?_
     have hM := hM.drew
     rw [← hw] at hM ⊢
     clear hw
     have hne : ∀ m : Nat, m < 3 → 3 + (e79 : Int).toNat ≠ m := fun m hm => by omega
     have hap0 : ¬ some b7 ∈ [A122.map (·.block)] := apartN hM hat rfl (k := 0) rfl rfl (hne 0 (by decide))
     refine pi_q hf rfl rfl rfl rfl (ExtM.refl _ _) (e_move hf rfl) fun a hf => ?_
     refine pi_q hf rfl rfl rfl rfl (ExtM.refl _ _) (e_nil hf rfl) fun a hf => ?_
     refine pi_q hf rfl rfl rfl rfl (ExtM.refl _ _) (e_field hf rfl Tryz.underlying157 rfl Tryz.sizeOf24 (o' := 2) rfl) fun a hf => ?_
     refine pi_q hf rfl rfl rfl rfl (ExtM.refl _ _) (e_load1M hf rfl Tryz.isAgg24 (hM.boxCell (k := 0) rfl rfl) hap0) fun a hf => ?_
     iterate 2 refine pi_q hf rfl rfl rfl rfl (ExtM.refl _ _) (e_move hf rfl) fun a hf => ?_
     refine pi_q hf rfl rfl rfl rfl (ExtM.refl _ _) (e_nil hf rfl) fun a hf => ?_
     refine pi_q hf rfl rfl rfl rfl (ExtM.refl _ _) (e_field hf rfl Tryz.underlying157 rfl Tryz.sizeOf24 (o' := 2) rfl) fun a hf => ?_
     refine pi_q hf rfl rfl rfl rfl (ExtM.refl _ _) (e_load1M hf rfl Tryz.isAgg24 (hM.boxCell (k := 0) rfl rfl) hap0) fun a hf => ?_
     refine pi_q hf rfl rfl rfl rfl (ExtM.refl _ _) (e_move hf rfl) fun a hf => ?_
     obtain ⟨b119, _, hA120, h115, h116, hr117, hcell118⟩ := hM.rowElemN (k := 2) rfl (n := 3) rfl hzx
     obtain ⟨rfl, hv121⟩ := hr117
     have h116' : (e79 : Int) < y56.out.length := by rw [← hl1]; exact h116
     have hap2 : ¬ some b119 ∈ [A122.map (·.block)] := apartN hM hat rfl (k := 2) rfl (by show A60.map (·.block) = _; rw [hA120]; rfl) (hne 2 (by decide))
     refine pi_q hf rfl rfl rfl rfl (ExtM.refl _ _) (e_indexAddr (A := A60) (b := b119) (o := 0) (xs := y56.out) (i := e79) hf hA120 rfl rfl Tryz.underlying24 Tryz.sizeOf79 h115 h116') fun a hf => ?_
     refine pi_q hf rfl rfl rfl rfl (ExtM.refl _ _) (e_field hf rfl Tryz.underlying79 rfl Tryz.sizeOf77 (o' := (0 + (e79 : Int).toNat * 3) + 2) rfl) fun a hf => ?_
     refine pi_q hf rfl rfl rfl rfl (ExtM.refl _ _) (e_load1M hf rfl Tryz.isAgg77 (hcell118 2 _ rfl) hap2) fun a hf => ?_
     refine pi_q hf rfl rfl rfl rfl (ExtM.refl _ _) (e_move hf rfl) fun a hf => ?_
     refine pi_q hf rfl rfl rfl rfl (ExtM.refl _ _) (e_nil hf rfl) fun a hf => ?_
     refine pi_q hf rfl rfl rfl rfl (ExtM.refl _ _) (e_field hf rfl Tryz.underlying157 rfl Tryz.sizeOf77 (o' := 1) rfl) fun a hf => ?_
     refine pi_q hf rfl rfl rfl rfl (ExtM.refl _ _) (e_load1M hf rfl Tryz.isAgg77 (hM.boxCell (k := 0) rfl rfl) hap0) fun a hf => ?_
     iterate 2 refine pi_q hf rfl rfl rfl rfl (ExtM.refl _ _) (e_move hf rfl) fun a hf => ?_
     obtain ⟨e125, hz126, h96⟩ := bind_some h96
     obtain ⟨b130, o131, _, hA132, h127, h128, hr129, hM⟩ := hM.elem (hM.dat (k := 2) rfl) (n := 3) rfl hz126
     obtain ⟨A134, c135, rfl, hv133, hv136⟩ := NodeRep_open hr129
     have hM := hM.add (y := .dat (sliceRep intRep) e125.Next [vL A134 e125.Next c135]) hv136
     refine pi_q hf rfl rfl rfl rfl (ExtM.refl _ _) (e_indexAddr (A := A2) (b := b130) (o := o131) (xs := nodes1) (i := i67) hf hA132 rfl rfl Tryz.underlying24 Tryz.sizeOf79 h127 h128) fun a hf => ?_
     refine pi_q hf rfl rfl rfl rfl (ExtM.refl _ _) (e_field hf rfl Tryz.underlying79 rfl Tryz.sizeOf77 (o' := (o131 + (i67 : Int).toNat * 3) + 2) rfl) fun a hf => ?_
     refine pi_q hf rfl rfl rfl rfl (ExtM.refl _ _) (e_load1M hf rfl Tryz.isAgg77 (hM.litCell (k := 1) (j := 2) rfl rfl rfl) (apartNS hM hat rfl (hM.at_ (k := 1) rfl).1)) fun a hf => ?_
     refine pi_q hf rfl rfl rfl rfl (ExtM.refl _ _) (e_move hf rfl) fun a hf => ?_
     obtain ⟨e137, hz138, h96⟩ := bind_some h96
     obtain ⟨b142, o143, _, hA144, h139, h140, hr141, hM⟩ := hM.elem (hM.dat (k := 0) rfl) (n := 1) rfl hz138
     obtain ⟨rfl, hv145⟩ := hr141
     refine pi_q hf rfl rfl rfl rfl (ExtM.refl _ _) (e_indexAddr (A := A134) (b := b142) (o := o143) (xs := e125.Next) (i := n90) hf hA144 rfl rfl Tryz.underlying77 Tryz.sizeOf2 h139 h140) fun a hf => ?_
     refine pi_q hf rfl rfl rfl rfl (ExtM.refl _ _) (e_load1M hf rfl Tryz.isAgg2 (hM.litCell (k := 0) (j := 0) rfl rfl rfl) (apartNS hM hat rfl (hM.at_ (k := 0) rfl).1)) fun a hf => ?_
     obtain ⟨e146, hz147, h96⟩ := bind_some h96
     obtain ⟨b152, _, hA153, h148, h149, hr150, hcell151⟩ := hM.rowElemN (k := 1) rfl (n := 1) rfl hz147
     obtain ⟨rfl, hv154⟩ := hr150
     have hap1 : ¬ some b152 ∈ [A122.map (·.block)] := apartN hM hat rfl (k := 1) rfl (by show A58.map (·.block) = _; rw [hA153]; rfl) (hne 1 (by decide))
     refine pi_q hf rfl rfl rfl rfl (ExtM.refl _ _) (e_indexAddr (A := A58) (b := b152) (o := 0) (xs := y56.place) (i := e137) hf hA153 rfl rfl Tryz.underlying77 Tryz.sizeOf2 h148 h149) fun a hf => ?_
     refine pi_q hf rfl rfl rfl rfl (ExtM.refl _ _) (e_load1M hf rfl Tryz.isAgg2 (hcell151 0 _ rfl) hap1) fun a hf => ?_
     refine pi_one ?_
     refine pi_l hf rfl rfl rfl rfl (w_slice hf hM (K := intRep) (xs := ([e146] : (List Int))) (os := [.tmp 80]) Tryz.underlying77 ei_2 rfl rfl rfl rfl rfl ⟨⟨[vI (e146)], rfl, ⟨rfl, hv154⟩⟩, trivial⟩ rfl fun b155 w156 hx157 hM => ⟨ExtM [A122.map (·.block)] w156, fun _ h => ExtM.trans hx157 h, ExtM.refl _ _, fun a hf => ?_⟩)
     refine pi_one ?_
     obtain ⟨ys, hzy, h96⟩ := bind_some h96
     obtain ⟨xs2, hzs, h96⟩ := bind_some h96
     have hat2 := nest_at 2 [.row intRep (some ⟨b155, 0, none⟩) 1 2 ([e146] : (List Int)) true, .box b7 [vL A2 (nodes1) c3, vL A58 (y56.place) c59, vL A60 (y56.out) c61] 157, .row intRep A58 c59 2 y56.place true, .row NodeWRep A60 c61 79 ws true] hzx
     refine pi_l hf rfl rfl rfl rfl (w_appendX hf hM Tryz.underlying77 ei_2 rfl rfl rfl (k := 4 + (e79 : Int).toNat) hat2 (hM.srcRow (k := 0) rfl) hzy fun A40 c41 w158 hsz160 hold159 hM => ⟨Ext w158, fun _ h => ExtM.last (ExtM.ofRow (List.mem_of_getElem? (i := 0) rfl) hold159) hsz160 h, Ext.refl _, fun a hf => ?_⟩)
     have hM : Mem C w158 ([.row intRep (some ⟨b155, 0, none⟩) 1 2 ([e146] : (List Int)) true, .box b7 [vL A2 (nodes1) c3, vL A58 (y56.place) c59, vL A60 (y56.out) c61] 157, .row intRep A58 c59 2 y56.place true, .row NodeWRep A60 c61 79 ws true] ++ nestO 2 (ws.set (e79 : Int).toNat ⟨e113.Final, e113.Letters, A40, c41, ys⟩)) _ := (nest_set 2 [.row intRep (some ⟨b155, 0, none⟩) 1 2 ([e146] : (List Int)) true, .box b7 [vL A2 (nodes1) c3, vL A58 (y56.place) c59, vL A60 (y56.out) c61] 157, .row intRep A58 c59 2 y56.place true, .row NodeWRep A60 c61 79 ws true] (ws := ws) (i := e79) ⟨e113.Final, e113.Letters, A40, c41, ys⟩) ▸ hM
     refine pi_q hf rfl rfl rfl rfl (Ext.refl _) (e_indexAddr (A := A60) (b := b119) (o := 0) (xs := y56.out) (i := e79) hf hA120 rfl rfl Tryz.underlying24 Tryz.sizeOf79 h115 h116') fun a hf => ?_
     refine pi_q hf rfl rfl rfl rfl (Ext.refl _) (e_field hf rfl Tryz.underlying79 rfl Tryz.sizeOf77 (o' := (0 + (e79 : Int).toNat * 3) + 2) rfl) fun a hf => ?_
     refine pi_one ?_
     obtain ⟨_, _, _, hr162, hcell163⟩ := hM.rowElemA hA120 (k := 3) rfl (n := 3) rfl hzx
     obtain ⟨rfl, hv163⟩ := hr162
     refine pi_z0 hf rfl rfl rfl (by kernel_rfl) (w_storePart hf hM (K := NodeWRep) (x := (⟨e113.Final, e113.Letters, A40, c41, ys⟩ : NodeW)) (us := [vL A40 (ys) c41]) (row := [.bool (e113.Final), vS (e113.Letters), vL A122 (e113.Next) c123]) (i := e79) (d := 2) rfl rfl rfl hA120 (k := 3) rfl rfl Tryz.sizeOf77 hcell163 ⟨rfl, hv163⟩ (setL_nest hzx) rfl rfl fun w200 hM => ?_)
     have hM : Mem C w200 ([.row intRep (some ⟨b155, 0, none⟩) 1 2 ([e146] : (List Int)) true, .box b7 [vL A2 (nodes1) c3, vL A58 (y56.place) c59, vL A60 (y56.out) c61] 157, .row intRep A58 c59 2 y56.place true, .row NodeWRep A60 c61 79 (ws.set (e79 : Int).toNat ⟨e113.Final, e113.Letters, A40, c41, ys⟩) true] ++ nestO 2 (ws.set (e79 : Int).toNat ⟨e113.Final, e113.Letters, A40, c41, ys⟩)) _ := hM
     refine pi_nil ?_
     refine blk_n ?_
     refine then_n ?_
     refine region_pl ?_
     refine q_ hf rfl rfl rfl (e_move hf rfl) fun a hf => ?_
     obtain ⟨z170, hz171, h96⟩ := bind_some h96
     refine q_ hf rfl rfl rfl (e_add hf rfl rfl hz171) fun a hf => ?_
     refine q_ hf rfl rfl rfl (e_assign hf rfl) fun a hf => ?_
     refine pl_nil ?_
     obtain rfl := some_inj h96
     refine then_n ⟨_, rfl, ?_⟩
     exact ⟨xs2, ws.set (e79 : Int).toNat ⟨e113.Final, e113.Letters, A40, c41, ys⟩, z170, rfl, nest_to hw1 hzs rfl, by rw [List.length_set]; exact hl1, hf.keep ⟨rfl, rfl, rfl, rfl, rfl, trivial⟩, (hM.drop (.cons _ (List.Sublist.refl _))).pick [5] rfl, (chk_R hz171)⟩
    refine cond_f hf rfl hc111 ?_
    refine wp_exit ?_
    refine then_x ?_
    obtain rfl := some_inj h96
    obtain rfl := hd97 _ rfl
    refine then_x ?_
    refine exit_hit ?_
    refine blk_n ?_
    refine then_n ?_
    exact ⟨xs, ws, rfl, hw1, hl1, hf.keep ⟨rfl, rfl, rfl, trivial⟩, hM.pick [2] rfl⟩
   clear hw1 hl1 hM
   rintro a w177 ⟨xs, ws, rfl, hw1, hl1, hf, hM⟩
   try dsimp only at h73
   refine region_pl ?_
   refine q_ hf rfl rfl rfl (e_move hf rfl) fun a hf => ?_
   obtain ⟨z178, hz179, h73⟩ := bind_some h73
   refine q_ hf rfl rfl rfl (e_add hf rfl rfl hz179) fun a hf => ?_
   refine q_ hf rfl rfl rfl (e_assign hf rfl) fun a hf => ?_
   refine pl_nil ?_
   obtain rfl := some_inj h73
   refine then_n ⟨_, rfl, ?_⟩
   exact ⟨xs, ws, z178, rfl, hw1, hl1, hf.keep ⟨rfl, rfl, rfl, trivial⟩, hM.pick [0] rfl, (chk_R hz179)⟩
  refine cond_f hf rfl hc76 ?_
  refine wp_exit ?_
  refine then_x ?_
  obtain rfl := some_inj h73
  obtain rfl := hd74 _ rfl
  refine then_x ?_
  refine exit_hit ?_
  refine then_n ?_
  exact ⟨xs, ws, rfl, hw1, hl1, hf.keep ⟨rfl, trivial⟩, hM.pick [0] rfl⟩
 clear hM
 rintro a w185 ⟨xs, ws, rfl, hw1, hl1, hf, hM⟩
 try dsimp only at h
 obtain rfl := some_inj h
 refine wp_seq ?_
 refine region_pl ?_
 refine q_ hf rfl rfl rfl (e_move hf rfl) fun a hf => ?_
 refine q_ hf rfl rfl rfl (e_nil hf rfl) fun a hf => ?_
 refine q_ hf rfl rfl rfl (e_field hf rfl Tryz.underlying157 rfl Tryz.sizeOf24 (o' := 2) rfl) fun a hf => ?_
 refine q_ hf rfl rfl rfl (e_load1 hf rfl Tryz.isAgg24 (hM.boxCell (k := 0) rfl rfl)) fun a hf => ?_
 refine q_ hf rfl rfl rfl (e_assign hf rfl) fun a hf => ?_
 refine pl_nil ?_
 refine then_n ?_
 refine wp_ret ?_
 have hM := hM.unnest hw1
 have hlen : vL A60 y56.out c61 = vL A60 xs c61 := by unfold vL; rw [← hl1, ← hw1, List.length_map]
 rw [hlen] at hf
 exact leave1 hf rfl rfl ⟨A60, c61, rfl, hM.fin, (hM.dat (k := 0) rfl)⟩
theorem r_spec_l06Build (C : Cx) (list1 : (List Str)) (A2 : Option Addr) (c3 : Nat) (hp4 : (sliceRep strRep).R C.w0 C.S0 list1 [vL A2 list1 c3]) (r : Dawg) (h : m_spec_l06Build list1 = some r) :
    Calls Tryz.prog 45 #[vL A2 (list1) c3] C.w0 fun e w => ∃ (A_1 : Option Addr), ∃ (c_1 : Nat), e = .returned (.agg #[vL A_1 (r.Nodes) c_1]) ∧ Mem C w [] [] ∧ (sliceRep NodeRep).R w (Sh C [] w) r.Nodes [vL A_1 r.Nodes c_1] := by
 have hM := Mem.begin C [.dat (sliceRep strRep) list1 [vL A2 list1 c3]] ⟨hp4, trivial⟩
 refine enter Tryz.func45 rfl Tryz.ntmps45 rfl fun a hf => ?_
 unfold m_spec_l06Build at h
 refine wp_seq ?_
 refine region_pl ?_
 refine pl_l hf rfl rfl rfl (w_alloc hM (cs := [vL none (([] : (List Node))) 0]) Tryz.zeroValue26 rfl fun b5 w6 hx7 hM a hf => ?_)
 refine pl_nil ?_
 refine then_n ?_
 refine wp_seq ?_
 refine region_pl ?_
 refine q_ hf rfl rfl rfl (e_build hf Tryz.zeroValue116 Tryz.underlying116 (bp_116 _ Tryz.underlying116.symm) rfl (cs := #[vL none (([] : (List Node))) 0]) (by kernel_rfl)) fun a hf => ?_
 refine pl_l hf rfl rfl rfl (w_box hf hM (cs := [vL none (([] : (List Node))) 0]) rfl rfl fun b9 w10 hx11 hM a hf => ?_)
 refine q_ hf rfl rfl rfl (e_assign hf rfl) fun a hf => ?_
 refine pl_nil ?_
 refine then_n ?_
 refine wp_seq ?_
 refine region_pl ?_
 iterate 2 refine q_ hf rfl rfl rfl (e_move hf rfl) fun a hf => ?_
 have hM := hM.nilRow NodeRep 79
 have hM := hM.front (k := 0) rfl
 dsimp only [List.eraseIdx] at hM
 have hM := hM.front (k := 1) rfl
 dsimp only [List.eraseIdx] at hM
 have hM : Mem C _ ([.box b9 [vL none (([] : (List Node))) 0] 116, .row NodeRep none 0 79 ([] : (List Node)) true] ++ [.box b5 [vL none (([] : (List Node))) 0] 26]) _ := hM
 obtain ⟨y13, hz14, h⟩ := bind_some h
 refine pl_l hf rfl rfl rfl (w_call hf Tryz.call70 rfl (r_spec_l06B_build ⟨_, Sh C _ _, ownB _, hM.sh_lt, sub_dis, C.G, hM.g_lt, hM.g_own, hM.tabs⟩ (⟨([] : (List Node))⟩ : l06B) _ _ _ list1 _ _ (hM.dat (k := 0) rfl) hM.sub sub_dis _ hz14) ?_)
 rintro _ w18 ⟨A15, c16, rfl, hM2, hv17⟩
 obtain ⟨hM, hup20⟩ := hM.backG hM2
 dsimp only [List.cons_append, List.nil_append] at hM hup20
 clear hM2
 refine ⟨_, rfl, fun a hf => ?_⟩
 refine q_ hf rfl rfl rfl (e_assign hf rfl) fun a hf => ?_
 refine pl_nil ?_
 refine then_n ?_
 refine wp_seq ?_
 refine region_pl ?_
 refine q_ hf rfl rfl rfl (e_move hf rfl) fun a hf => ?_
 refine q_ hf rfl rfl rfl (e_nil hf rfl) fun a hf => ?_
 refine q_ hf rfl rfl rfl (e_field hf rfl Tryz.underlying116 rfl Tryz.sizeOf24 (o' := 0) rfl) fun a hf => ?_
 refine q_ hf rfl rfl rfl (e_load1 hf rfl Tryz.isAgg24 (hM.boxCell (k := 0) rfl rfl)) fun a hf => ?_
 refine q_ hf rfl rfl rfl (e_move hf rfl) fun a hf => ?_
 have hM := hM.freezeRow (k := 1) rfl rfl
 dsimp only [List.eraseIdx] at hM
 obtain ⟨y21, hz22, h⟩ := bind_some h
 refine pl_l hf rfl rfl rfl (w_call hf Tryz.call71 rfl (r_spec_l06Number ⟨_, Sh C _ _, none_, hM.sh_lt, none_not, C.G, hM.g_lt, g_none, hM.tabs⟩ y13.2.nodes _ _ (hM.dat (k := 0) rfl) y13.1 hv17 _ hz22) ?_)
 rintro _ w26 ⟨A23, c24, rfl, hM2, hv25⟩
 obtain ⟨hM, hx27, hup28⟩ := hM.back hM2
 dsimp only [List.cons_append, List.nil_append] at hM hup28
 clear hM2
 have hM := hM.add (y := .dat (sliceRep NodeRep) y21 [vL A23 y21 c24]) (hup28 hv25)
 refine ⟨_, rfl, fun a hf => ?_⟩
 refine q_ hf rfl rfl rfl (e_build hf Tryz.zeroValue26 Tryz.underlying26 (bp_26 _ Tryz.underlying26.symm) rfl (cs := #[vL A23 (y21) c24]) (by kernel_rfl)) fun a hf => ?_
 refine pl_0 hf rfl rfl (w_store hf hM (us := [vL A23 (y21) c24]) (cs' := [vL A23 (y21) c24]) rfl rfl (k := 1) rfl rfl Tryz.sizeOf26 rfl rfl rfl fun w29 hM => ?_)
 dsimp only [List.set] at hM
 refine pl_nil ?_
 refine then_n ?_
 refine wp_ret ?_
 obtain rfl := some_inj h
 have hres32 := leaveV1 (P := Tryz.prog) (w := w29) Tryz.results45 (res_agg hf rfl ⟨Tryz.isAgg26, Tryz.sizeOf26⟩ (us := [vL A23 (y21) c24]) rfl (hM.boxSub (k := 1) (o := 0) rfl rfl))
 have hM := hM.outs (own' := []) 0 rfl
 exact bodyPost_ret hres32 hf.defers ⟨A23, c24, rfl, hM.fin, (hM.dat (k := 0) rfl)⟩
theorem r_spec_l06Same (C : Cx) (a1 : Dawg) (b2 : Nat) (o3 : Nat) (hp4 : (ptrRep DawgRep).R C.w0 C.S0 a1 [vP b2 o3]) (b5 : Dawg) (b6 : Nat) (o7 : Nat) (hp8 : (ptrRep DawgRep).R C.w0 C.S0 b5 [vP b6 o7]) (r : Bool) (h : m_spec_l06Same a1 b5 = some r) :
    Calls Tryz.prog 34 #[vP b2 (o3), vP b6 (o7)] C.w0 fun e w => e = .returned (.bool (r)) ∧ Mem C w [] [] := by
 have hM := Mem.begin C [.dat (ptrRep DawgRep) b5 [vP b6 o7], .dat (ptrRep DawgRep) a1 [vP b2 o3]] ⟨hp8, hp4, trivial⟩
 refine enter Tryz.func34 rfl Tryz.ntmps34 rfl fun a hf => ?_
 unfold m_spec_l06Same at h
 refine wp_seq ?_
 refine region_pl ?_
 refine q_ hf rfl rfl rfl (e_assign hf rfl) fun a hf => ?_
 refine pl_nil ?_
 refine then_n ?_
 iterate 2 refine wp_seq ?_
 obtain ⟨w9, hw⟩ : ∃ x, x = C.w0.drew := ⟨_, rfl⟩
 refine region_pi (.q 0 (.q 1 (.q 2 (.q 3 (.q 4 (.q 5 (.q 6 (.q 7 (.q 8 (.q 9 (.q 10 (.nil)))))))))))) (Ext w9) rfl (by kernel_rfl) ?_
 have hM := hM.drew
 rw [← hw] at hM ⊢
 clear hw
 refine pi_q hf rfl rfl rfl rfl (Ext.refl _) (e_move hf rfl) fun a hf => ?_
 refine pi_q hf rfl rfl rfl rfl (Ext.refl _) (e_nil hf rfl) fun a hf => ?_
 obtain ⟨_, hr10, hM⟩ := hM.deref (hM.dat (k := 1) rfl)
 obtain ⟨A11, c12, rfl, hv13⟩ := DawgRep_open hr10
 have hM := hM.add (y := .dat (sliceRep NodeRep) a1.Nodes [vL A11 a1.Nodes c12]) hv13
 refine pi_q hf rfl rfl rfl rfl (Ext.refl _) (e_field hf rfl Tryz.underlying26 rfl Tryz.sizeOf24 (o' := o3 + 0) rfl) fun a hf => ?_
 refine pi_q hf rfl rfl rfl rfl (Ext.refl _) (e_load1 hf rfl Tryz.isAgg24 (hM.litCell (k := 1) (j := 0) rfl rfl rfl)) fun a hf => ?_
 have hl14 := slice_len (hM.dat (k := 0) rfl)
 refine pi_q hf rfl rfl rfl rfl (Ext.refl _) (e_lenL hf (x := a1.Nodes) rfl Tryz.underlying24) fun a hf => ?_
 refine pi_q hf rfl rfl rfl rfl (Ext.refl _) (e_move hf rfl) fun a hf => ?_
 refine pi_q hf rfl rfl rfl rfl (Ext.refl _) (e_nil hf rfl) fun a hf => ?_
 obtain ⟨_, hr15, hM⟩ := hM.deref (hM.dat (k := 2) rfl)
 obtain ⟨A16, c17, rfl, hv18⟩ := DawgRep_open hr15
 have hM := hM.add (y := .dat (sliceRep NodeRep) b5.Nodes [vL A16 b5.Nodes c17]) hv18
 refine pi_q hf rfl rfl rfl rfl (Ext.refl _) (e_field hf rfl Tryz.underlying26 rfl Tryz.sizeOf24 (o' := o7 + 0) rfl) fun a hf => ?_
 refine pi_q hf rfl rfl rfl rfl (Ext.refl _) (e_load1 hf rfl Tryz.isAgg24 (hM.litCell (k := 1) (j := 0) rfl rfl rfl)) fun a hf => ?_
 have hl19 := slice_len (hM.dat (k := 0) rfl)
 refine pi_q hf rfl rfl rfl rfl (Ext.refl _) (e_lenL hf (x := b5.Nodes) rfl Tryz.underlying24) fun a hf => ?_
 refine pi_q hf rfl rfl rfl rfl (Ext.refl _) (e_ne hf (x := (a1.Nodes.length : Int)) (y := (b5.Nodes.length : Int)) rfl rfl) fun a hf => ?_
 refine pi_nil ?_
 refine then_n ?_
 rcases cond_some h with ⟨hc20, h⟩ | ⟨hc20, h⟩
 ·refine cond_t hf rfl hc20 ?_
  refine wp_seq ?_
  refine region_pl ?_
  refine q_ hf rfl rfl rfl (e_assign hf rfl) fun a hf => ?_
  refine pl_nil ?_
  refine then_n ?_
  refine wp_ret ?_
  refine then_r ?_
  obtain rfl := some_inj h
  exact leave1 hf rfl rfl ⟨rfl, hM.fin⟩
 refine cond_f hf rfl hc20 ?_
 refine wp_skip ?_
 refine then_n ?_
 obtain ⟨x21, h22, h⟩ := bind_some h
 refine seq_join (fun a w => (.inl ()) = x21 ∧ Has 40 a [] ∧ Mem C w [] [.dat (sliceRep NodeRep) b5.Nodes [vL A16 b5.Nodes c17], .lit b6 (o7) [vL A16 (b5.Nodes) c17], .dat (sliceRep NodeRep) a1.Nodes [vL A11 a1.Nodes c12], .lit b2 (o3) [vL A11 (a1.Nodes) c12], .dat (ptrRep DawgRep) b5 [vP b6 o7], .dat (ptrRep DawgRep) a1 [vP b2 o3]]) ?_ ?_
 ·refine wp_seq ?_
  refine region_pl ?_
  refine q_ hf rfl rfl rfl (e_assign hf rfl) fun a hf => ?_
  refine pl_nil ?_
  refine then_n ?_
  refine wp_block ?_
  obtain ⟨x26, h27, h22⟩ := bind_some h22
  refine wp_loopM h27 (fun s a w => ∃ (n23 : Int), n23 = s ∧ Has 40 a [(0, vP b2 (o3)), (1, vP b6 (o7)), (5, vI (n23))] ∧ Mem C w [] [.dat (sliceRep NodeRep) b5.Nodes [vL A16 b5.Nodes c17], .lit b6 (o7) [vL A16 (b5.Nodes) c17], .dat (sliceRep NodeRep) a1.Nodes [vL A11 a1.Nodes c12], .lit b2 (o3) [vL A11 (a1.Nodes) c12], .dat (ptrRep DawgRep) b5 [vP b6 o7], .dat (ptrRep DawgRep) a1 [vP b2 o3]] ∧ R64 n23) ?_ ?_
  ·exact ⟨0, rfl, hf.keep ⟨rfl, rfl, rfl, trivial⟩, hM.pick [0, 1, 2, 3, 4, 5] rfl, (R64_lit rfl)⟩
  rintro s o28 a w25 ⟨n23, rfl, hf, hM, hv24⟩ h29 hd30
  replace h29 : m_spec_l06Same_l1 a1 b5 n23 = some o28 := h29
  unfold m_spec_l06Same_l1 at h29
  iterate 2 refine wp_seq ?_
  refine region_pl ?_
  iterate 2 refine q_ hf rfl rfl rfl (e_move hf rfl) fun a hf => ?_
  refine q_ hf rfl rfl rfl (e_nil hf rfl) fun a hf => ?_
  refine q_ hf rfl rfl rfl (e_field hf rfl Tryz.underlying26 rfl Tryz.sizeOf24 (o' := o3 + 0) rfl) fun a hf => ?_
  refine q_ hf rfl rfl rfl (e_load1 hf rfl Tryz.isAgg24 (hM.litCell (k := 3) (j := 0) rfl rfl rfl)) fun a hf => ?_
  have hl31 := slice_len (hM.dat (k := 2) rfl)
  refine q_ hf rfl rfl rfl (e_lenL hf (x := a1.Nodes) rfl Tryz.underlying24) fun a hf => ?_
  refine q_ hf rfl rfl rfl (e_lt hf (x := n23) (y := (a1.Nodes.length : Int)) rfl rfl) fun a hf => ?_
  refine pl_nil ?_
  refine then_n ?_
  rcases cond_some h29 with ⟨hc32, h29⟩ | ⟨hc32, h29⟩
  ·refine cond_t hf rfl hc32 ?_
   refine wp_skip ?_
   refine then_n ?_
   refine wp_seq ?_
   refine wp_block ?_
   refine wp_seq ?_
   obtain ⟨w33, hw⟩ : ∃ x, x = w25.drew := ⟨_, rfl⟩
   refine region_pi (.q 0 (.q 1 (.q 2 (.q 3 (.q 4 (.q 5 (.q 6 (.q 7 (.q 8 (.q 9 (.q 10 (.q 11 (.l 12 (.q 13 (.nil))))))))))))))) (Ext w33) rfl (by kernel_rfl) ?_
   have hM := hM.drew
   rw [← hw] at hM ⊢
   clear hw
   refine pi_q hf rfl rfl rfl rfl (Ext.refl _) (e_move hf rfl) fun a hf => ?_
   refine pi_q hf rfl rfl rfl rfl (Ext.refl _) (e_nil hf rfl) fun a hf => ?_
   refine pi_q hf rfl rfl rfl rfl (Ext.refl _) (e_field hf rfl Tryz.underlying26 rfl Tryz.sizeOf24 (o' := o3 + 0) rfl) fun a hf => ?_
   refine pi_q hf rfl rfl rfl rfl (Ext.refl _) (e_load1 hf rfl Tryz.isAgg24 (hM.litCell (k := 3) (j := 0) rfl rfl rfl)) fun a hf => ?_
   refine pi_q hf rfl rfl rfl rfl (Ext.refl _) (e_move hf rfl) fun a hf => ?_
   obtain ⟨e34, hz35, h29⟩ := bind_some h29
   obtain ⟨b39, o40, _, hA41, h36, h37, hr38, hM⟩ := hM.elem (hM.dat (k := 2) rfl) (n := 3) rfl hz35
   obtain ⟨A43, c44, rfl, hv42, hv45⟩ := NodeRep_open hr38
   have hM := hM.add (y := .dat (sliceRep intRep) e34.Next [vL A43 e34.Next c44]) hv45
   refine pi_q hf rfl rfl rfl rfl (Ext.refl _) (e_indexAddr (A := A11) (b := b39) (o := o40) (xs := a1.Nodes) (i := n23) hf hA41 rfl rfl Tryz.underlying24 Tryz.sizeOf79 h36 h37) fun a hf => ?_
   refine pi_q hf rfl rfl rfl rfl (Ext.refl _) (e_move hf rfl) fun a hf => ?_
   refine pi_q hf rfl rfl rfl rfl (Ext.refl _) (e_nil hf rfl) fun a hf => ?_
   refine pi_q hf rfl rfl rfl rfl (Ext.refl _) (e_field hf rfl Tryz.underlying26 rfl Tryz.sizeOf24 (o' := o7 + 0) rfl) fun a hf => ?_
   refine pi_q hf rfl rfl rfl rfl (Ext.refl _) (e_load1 hf rfl Tryz.isAgg24 (hM.litCell (k := 3) (j := 0) rfl rfl rfl)) fun a hf => ?_
   refine pi_q hf rfl rfl rfl rfl (Ext.refl _) (e_move hf rfl) fun a hf => ?_
   obtain ⟨e46, hz47, h29⟩ := bind_some h29
   obtain ⟨b51, o52, _, hA53, h48, h49, hr50, hM⟩ := hM.elem (hM.dat (k := 2) rfl) (n := 3) rfl hz47
   obtain ⟨A55, c56, rfl, hv54, hv57⟩ := NodeRep_open hr50
   have hM := hM.add (y := .dat (sliceRep intRep) e46.Next [vL A55 e46.Next c56]) hv57
   refine pi_q hf rfl rfl rfl rfl (Ext.refl _) (e_indexAddr (A := A16) (b := b51) (o := o52) (xs := b5.Nodes) (i := n23) hf hA53 rfl rfl Tryz.underlying24 Tryz.sizeOf79 h48 h49) fun a hf => ?_
   refine pi_one ?_
   obtain ⟨y58, hz59, h29⟩ := bind_some h29
   refine pi_l hf rfl rfl rfl rfl (w_call hf Tryz.call59 rfl (r_spec_l06Equal ⟨_, Sh C _ _, none_, hM.sh_lt, none_not, C.G, hM.g_lt, g_none, hM.tabs⟩ e34 _ _ (hM.litPtr (k := 3) (d := 0) (us := [.bool (e34.Final), vS (e34.Letters), vL A43 (e34.Next) c44]) rfl rfl rfl (NodeRep_mk (x := e34) hv42 (hM.dat (k := 2) rfl))) e46 _ _ (hM.litPtr (k := 1) (d := 0) (us := [.bool (e46.Final), vS (e46.Letters), vL A55 (e46.Next) c56]) rfl rfl rfl (NodeRep_mk (x := e46) hv54 (hM.dat (k := 0) rfl))) _ hz59) ?_)
   rintro _ w60 ⟨rfl, hM2⟩
   obtain ⟨hM, hx61, hup62⟩ := hM.back hM2
   dsimp only [List.cons_append, List.nil_append] at hM hup62
   clear hM2
   refine ⟨_, rfl, Ext w60, fun _ h => Ext.trans hx61 h, Ext.refl _, fun a hf => ?_⟩
   refine pi_q hf rfl rfl rfl rfl (Ext.refl _) (e_not hf rfl) fun a hf => ?_
   refine pi_nil ?_
   refine then_n ?_
   rcases cond_some h29 with ⟨hc63, h29⟩ | ⟨hc63, h29⟩
   ·refine cond_t hf rfl hc63 ?_
    refine wp_seq ?_
    refine region_pl ?_
    refine q_ hf rfl rfl rfl (e_assign hf rfl) fun a hf => ?_
    refine pl_nil ?_
    refine then_n ?_
    refine wp_ret ?_
    refine blk_r ?_
    refine then_r ?_
    obtain rfl := some_inj h29
    obtain rfl := hd30 _ rfl
    try dsimp only at h22
    refine then_r ?_
    refine blk_r ?_
    obtain rfl := some_inj h22
    try dsimp only at h
    refine then_r ?_
    obtain rfl := some_inj h
    exact leave1 hf rfl rfl ⟨rfl, hM.fin⟩
   refine cond_f hf rfl hc63 ?_
   refine wp_skip ?_
   refine blk_n ?_
   refine then_n ?_
   refine region_pl ?_
   refine q_ hf rfl rfl rfl (e_move hf rfl) fun a hf => ?_
   obtain ⟨z64, hz65, h29⟩ := bind_some h29
   refine q_ hf rfl rfl rfl (e_add hf rfl rfl hz65) fun a hf => ?_
   refine q_ hf rfl rfl rfl (e_assign hf rfl) fun a hf => ?_
   refine pl_nil ?_
   obtain rfl := some_inj h29
   refine then_n ⟨_, rfl, ?_⟩
   exact ⟨z64, rfl, hf.keep ⟨rfl, rfl, rfl, trivial⟩, hM.pick [4, 5, 6, 7, 8, 9] rfl, (chk_R hz65)⟩
  refine cond_f hf rfl hc32 ?_
  refine wp_exit ?_
  refine then_x ?_
  obtain rfl := some_inj h29
  obtain rfl := hd30 _ rfl
  try dsimp only at h22
  refine then_x ?_
  refine exit_hit ?_
  obtain rfl := some_inj h22
  refine then_n ?_
  exact ⟨rfl, hf.keep trivial, hM.pick [0, 1, 2, 3, 4, 5] rfl⟩
 rintro a w72 ⟨rfl, hf, hM⟩
 try dsimp only at h
 refine wp_seq ?_
 refine region_pl ?_
 refine q_ hf rfl rfl rfl (e_assign hf rfl) fun a hf => ?_
 refine pl_nil ?_
 refine then_n ?_
 refine wp_ret ?_
 obtain rfl := some_inj h
 exact leave1 hf rfl rfl ⟨rfl, hM.fin⟩
theorem r_spec_l06Ok (C : Cx) (d1 : Dawg) (b2 : Nat) (o3 : Nat) (hp4 : (ptrRep DawgRep).R C.w0 C.S0 d1 [vP b2 o3]) (r : Bool) (h : m_spec_l06Ok d1 = some r) :
    Calls Tryz.prog 29 #[vP b2 (o3)] C.w0 fun e w => e = .returned (.bool (r)) ∧ Mem C w [] [] := by
 have hM := Mem.begin C [.dat (ptrRep DawgRep) d1 [vP b2 o3]] ⟨hp4, trivial⟩
 refine enter Tryz.func29 rfl Tryz.ntmps29 rfl fun a hf => ?_
 unfold m_spec_l06Ok at h
 refine wp_seq ?_
 refine region_pl ?_
 refine q_ hf rfl rfl rfl (e_assign hf rfl) fun a hf => ?_
 refine pl_nil ?_
 refine then_n ?_
 refine wp_seq ?_
 obtain ⟨x7, h8, h⟩ := bind_some h
 refine seq_join (fun a w => ∃ (t5 : Bool), t5 = x7 ∧ Has 34 a [(0, vP b2 (o3)), (22, .bool (t5))] ∧ Mem C w [] [.dat (ptrRep DawgRep) d1 [vP b2 o3]]) ?_ ?_
 ·refine region_pl ?_
  refine q_ hf rfl rfl rfl (e_move hf rfl) fun a hf => ?_
  obtain ⟨y9, hz10, h8⟩ := bind_some h8
  refine pl_l hf rfl rfl rfl (w_call hf Tryz.call51 rfl (r_spec_l06Shape ⟨_, Sh C _ _, none_, hM.sh_lt, none_not, C.G, hM.g_lt, g_none, hM.tabs⟩ d1 _ _ (hM.dat (k := 0) rfl) _ hz10) ?_)
  rintro _ w11 ⟨rfl, hM2⟩
  obtain ⟨hM, hx12, hup13⟩ := hM.back hM2
  dsimp only [List.cons_append, List.nil_append] at hM hup13
  clear hM2
  refine ⟨_, rfl, fun a hf => ?_⟩
  refine q_ hf rfl rfl rfl (e_not hf rfl) fun a hf => ?_
  refine q_ hf rfl rfl rfl (e_move hf rfl) fun a hf => ?_
  rcases cond_some h8 with ⟨hc14, h8⟩ | ⟨hc14, h8⟩
  ·iterate 7 refine pl_gs (wanted_f hf rfl rfl rfl rfl hc14) hf rfl rfl fun a hf => ?_
   refine q_ hf rfl rfl rfl (e_pick_t hf rfl hc14 rfl) fun a hf => ?_
   refine q_ hf rfl rfl rfl (e_move hf rfl) fun a hf => ?_
   iterate 3 refine pl_gs (wanted_f hf rfl rfl rfl rfl rfl) hf rfl rfl fun a hf => ?_
   refine q_ hf rfl rfl rfl (e_pick_t hf rfl rfl rfl) fun a hf => ?_
   refine pl_nil ?_
   obtain rfl := some_inj h8
   refine then_n ?_
   exact ⟨true, rfl, hf.keep ⟨rfl, rfl, trivial⟩, hM.pick [0] rfl⟩
  refine gq (wanted_t hf rfl rfl rfl rfl hc14) hf rfl rfl (e_move hf rfl) fun a hf => ?_
  refine gq (wanted_t hf rfl rfl rfl rfl hc14) hf rfl rfl (e_nil hf rfl) fun a hf => ?_
  obtain ⟨_, hr16, hM⟩ := hM.deref (hM.dat (k := 0) rfl)
  obtain ⟨A17, c18, rfl, hv19⟩ := DawgRep_open hr16
  have hM := hM.add (y := .dat (sliceRep NodeRep) d1.Nodes [vL A17 d1.Nodes c18]) hv19
  refine gq (wanted_t hf rfl rfl rfl rfl hc14) hf rfl rfl (e_field hf rfl Tryz.underlying26 rfl Tryz.sizeOf24 (o' := o3 + 0) rfl) fun a hf => ?_
  refine gq (wanted_t hf rfl rfl rfl rfl hc14) hf rfl rfl (e_load1 hf rfl Tryz.isAgg24 (hM.litCell (k := 1) (j := 0) rfl rfl rfl)) fun a hf => ?_
  obtain ⟨e20, hz21, h8⟩ := bind_some h8
  obtain ⟨b25, o26, _, hA27, h22, h23, hr24, hM⟩ := hM.elem (hM.dat (k := 0) rfl) (n := 3) rfl hz21
  obtain ⟨A29, c30, rfl, hv28, hv31⟩ := NodeRep_open hr24
  have hM := hM.add (y := .dat (sliceRep intRep) e20.Next [vL A29 e20.Next c30]) hv31
  refine gq (wanted_t hf rfl rfl rfl rfl hc14) hf rfl rfl (e_indexAddr (A := A17) (b := b25) (o := o26) (xs := d1.Nodes) (i := 0) hf hA27 rfl rfl Tryz.underlying24 Tryz.sizeOf79 h22 h23) fun a hf => ?_
  refine gq (wanted_t hf rfl rfl rfl rfl hc14) hf rfl rfl (e_field hf rfl Tryz.underlying79 rfl Tryz.sizeOf4 (o' := (o26 + (0 : Int).toNat * 3) + 0) rfl) fun a hf => ?_
  refine gq (wanted_t hf rfl rfl rfl rfl hc14) hf rfl rfl (e_load1 hf rfl Tryz.isAgg4 (hM.litCell (k := 1) (j := 0) rfl rfl rfl)) fun a hf => ?_
  refine q_ hf rfl rfl rfl (e_pick_f hf rfl hc14 rfl) fun a hf => ?_
  refine q_ hf rfl rfl rfl (e_move hf rfl) fun a hf => ?_
  rcases cond_some h8 with ⟨hc32, h8⟩ | ⟨hc32, h8⟩
  ·iterate 3 refine pl_gs (wanted_f hf rfl rfl rfl rfl hc32) hf rfl rfl fun a hf => ?_
   refine q_ hf rfl rfl rfl (e_pick_t hf rfl hc32 rfl) fun a hf => ?_
   refine pl_nil ?_
   obtain rfl := some_inj h8
   refine then_n ?_
   exact ⟨true, rfl, hf.keep ⟨rfl, rfl, trivial⟩, hM.pick [4] rfl⟩
  refine gq (wanted_t hf rfl rfl rfl rfl hc32) hf rfl rfl (e_move hf rfl) fun a hf => ?_
  obtain ⟨y34, hz35, h8⟩ := bind_some h8
  refine pl_gl (wanted_t hf rfl rfl rfl rfl hc32) hf rfl rfl (w_call hf Tryz.call52 rfl (r_spec_l06Useful ⟨_, Sh C _ _, none_, hM.sh_lt, none_not, C.G, hM.g_lt, g_none, hM.tabs⟩ d1 _ _ (hM.dat (k := 4) rfl) _ hz35) ?_)
  rintro _ w36 ⟨rfl, hM2⟩
  obtain ⟨hM, hx37, hup38⟩ := hM.back hM2
  dsimp only [List.cons_append, List.nil_append] at hM hup38
  clear hM2
  refine ⟨_, rfl, fun a hf => ?_⟩
  refine gq (wanted_t hf rfl rfl rfl rfl hc32) hf rfl rfl (e_not hf rfl) fun a hf => ?_
  refine q_ hf rfl rfl rfl (e_pick_f hf rfl hc32 rfl) fun a hf => ?_
  refine pl_nil ?_
  obtain rfl := some_inj h8
  refine then_n ?_
  exact ⟨(!y34), rfl, hf.keep ⟨rfl, rfl, trivial⟩, hM.pick [4] rfl⟩
 rintro a w40 ⟨t5, rfl, hf, hM⟩
 try dsimp only at h
 rcases cond_some h with ⟨hc41, h⟩ | ⟨hc41, h⟩
 ·refine cond_t hf rfl hc41 ?_
  refine wp_seq ?_
  refine region_pl ?_
  refine q_ hf rfl rfl rfl (e_assign hf rfl) fun a hf => ?_
  refine pl_nil ?_
  refine then_n ?_
  refine wp_ret ?_
  refine then_r ?_
  obtain rfl := some_inj h
  exact leave1 hf rfl rfl ⟨rfl, hM.fin⟩
 refine cond_f hf rfl hc41 ?_
 refine wp_skip ?_
 refine then_n ?_
 refine wp_seq ?_
 refine region_pl ?_
 refine q_ hf rfl rfl rfl (e_move hf rfl) fun a hf => ?_
 obtain ⟨y42, hz43, h⟩ := bind_some h
 refine pl_l hf rfl rfl rfl (w_call hf Tryz.call30 rfl (r_spec_l06Words ⟨_, Sh C _ _, none_, hM.sh_lt, none_not, C.G, hM.g_lt, g_none, hM.tabs⟩ d1 _ _ (hM.dat (k := 0) rfl) _ hz43) ?_)
 rintro _ w46 ⟨A44, c45, rfl, hM2⟩
 obtain ⟨hM, hx47, hup48⟩ := hM.back hM2
 dsimp only [List.cons_append, List.nil_append] at hM hup48
 clear hM2
 refine ⟨_, rfl, fun a hf => ?_⟩
 refine q_ hf rfl rfl rfl (e_move hf rfl) fun a hf => ?_
 iterate 2 refine q_ hf rfl rfl rfl (e_extract hf rfl rfl) fun a hf => ?_
 iterate 2 refine q_ hf rfl rfl rfl (e_assign hf rfl) fun a hf => ?_
 refine pl_nil ?_
 refine then_n ?_
 iterate 2 refine wp_seq ?_
 refine region_pl ?_
 refine q_ hf rfl rfl rfl (e_move hf rfl) fun a hf => ?_
 refine q_ hf rfl rfl rfl (e_not hf rfl) fun a hf => ?_
 refine pl_nil ?_
 refine then_n ?_
 rcases cond_some h with ⟨hc49, h⟩ | ⟨hc49, h⟩
 ·refine cond_t hf rfl hc49 ?_
  refine wp_seq ?_
  refine region_pl ?_
  refine q_ hf rfl rfl rfl (e_assign hf rfl) fun a hf => ?_
  refine pl_nil ?_
  refine then_n ?_
  refine wp_ret ?_
  refine then_r ?_
  obtain rfl := some_inj h
  have hM := hM.outs (own' := []) 0 rfl
  exact leave1 hf rfl rfl ⟨rfl, hM.fin⟩
 refine cond_f hf rfl hc49 ?_
 refine wp_skip ?_
 refine then_n ?_
 refine wp_seq ?_
 refine region_pl ?_
 refine q_ hf rfl rfl rfl (e_move hf rfl) fun a hf => ?_
 have hM := hM.freezeRow (k := 0) rfl rfl
 dsimp only [List.eraseIdx] at hM
 obtain ⟨y50, hz51, h⟩ := bind_some h
 refine pl_l hf rfl rfl rfl (w_call hf Tryz.call45 rfl (r_spec_l06Build ⟨_, Sh C _ _, none_, hM.sh_lt, none_not, C.G, hM.g_lt, g_none, hM.tabs⟩ y42.1 _ _ (hM.dat (k := 0) rfl) _ hz51) ?_)
 rintro _ w55 ⟨A52, c53, rfl, hM2, hv54⟩
 obtain ⟨hM, hx56, hup57⟩ := hM.back hM2
 dsimp only [List.cons_append, List.nil_append] at hM hup57
 clear hM2
 have hM := hM.add (y := .dat (sliceRep NodeRep) y50.Nodes [vL A52 y50.Nodes c53]) (hup57 hv54)
 refine ⟨_, rfl, fun a hf => ?_⟩
 refine pl_l hf rfl rfl rfl (w_alloc hM (cs := [vL none (([] : (List Node))) 0]) Tryz.zeroValue26 rfl fun b58 w59 hx60 hM a hf => ?_)
 refine pl_0 hf rfl rfl (w_store hf hM (us := [vL A52 (y50.Nodes) c53]) (cs' := [vL A52 (y50.Nodes) c53]) rfl rfl (k := 0) rfl rfl Tryz.sizeOf26 rfl rfl rfl fun w62 hM => ?_)
 dsimp only [List.set] at hM
 refine pl_nil ?_
 refine then_n ?_
 refine wp_seq ?_
 refine region_pl ?_
 refine q_ hf rfl rfl rfl (e_move hf rfl) fun a hf => ?_
 obtain ⟨y65, hz66, h⟩ := bind_some h
 refine pl_l hf rfl rfl rfl (w_call hf Tryz.call34 rfl (r_spec_l06Same ⟨_, All C _ _, none_, hM.all_lt, none_not, C.G, hM.g_lt, g_none, hM.tabs⟩ d1 _ _ (hM.lendDat (k := 2) rfl) y50 _ _ (hM.lendBox (k := 0) rfl (DawgRep_mk (x := y50) (hM.lendDat (k := 0) rfl))) _ hz66) ?_)
 rintro _ w67 ⟨rfl, hM2⟩
 obtain ⟨hM, hx68⟩ := hM.backA hM2
 clear hM2
 refine ⟨_, rfl, fun a hf => ?_⟩
 refine q_ hf rfl rfl rfl (e_assign hf rfl) fun a hf => ?_
 refine pl_nil ?_
 refine then_n ?_
 refine wp_ret ?_
 obtain rfl := some_inj h
 have hM := hM.outs (own' := []) 0 rfl
 exact leave1 hf rfl rfl ⟨rfl, hM.fin⟩
theorem r_spec_l08List (C : Cx) (d1 : Dawg) (b2 : Nat) (o3 : Nat) (hp4 : (ptrRep DawgRep).R C.w0 C.S0 d1 [vP b2 o3]) (r : (List Str)) (h : m_spec_l08List d1 = some r) :
    Calls Tryz.prog 38 #[vP b2 (o3)] C.w0 fun e w => ∃ (A_1 : Option Addr), ∃ (c_1 : Nat), e = .returned (vL A_1 (r) c_1) ∧ Mem C w [.row strRep A_1 c_1 9 r true] [] := by
 have hM := Mem.begin C [.dat (ptrRep DawgRep) d1 [vP b2 o3]] ⟨hp4, trivial⟩
 refine enter Tryz.func38 rfl Tryz.ntmps38 rfl fun a hf => ?_
 unfold m_spec_l08List at h
 refine wp_seq ?_
 refine region_pl ?_
 refine q_ hf rfl rfl rfl (e_assign hf rfl) fun a hf => ?_
 refine pl_nil ?_
 refine then_n ?_
 refine wp_seq ?_
 refine region_pl ?_
 refine q_ hf rfl rfl rfl (e_move hf rfl) fun a hf => ?_
 obtain ⟨y5, hz6, h⟩ := bind_some h
 refine pl_l hf rfl rfl rfl (w_call hf Tryz.call30 rfl (r_spec_l06Words ⟨_, Sh C _ _, none_, hM.sh_lt, none_not, C.G, hM.g_lt, g_none, hM.tabs⟩ d1 _ _ (hM.dat (k := 0) rfl) _ hz6) ?_)
 rintro _ w9 ⟨A7, c8, rfl, hM2⟩
 obtain ⟨hM, hx10, hup11⟩ := hM.back hM2
 dsimp only [List.cons_append, List.nil_append] at hM hup11
 clear hM2
 refine ⟨_, rfl, fun a hf => ?_⟩
 refine q_ hf rfl rfl rfl (e_move hf rfl) fun a hf => ?_
 iterate 2 refine q_ hf rfl rfl rfl (e_extract hf rfl rfl) fun a hf => ?_
 iterate 2 refine q_ hf rfl rfl rfl (e_assign hf rfl) fun a hf => ?_
 refine pl_nil ?_
 refine then_n ?_
 refine wp_seq ?_
 refine region_pl ?_
 refine q_ hf rfl rfl rfl (e_move hf rfl) fun a hf => ?_
 refine q_ hf rfl rfl rfl (e_assign hf rfl) fun a hf => ?_
 refine pl_nil ?_
 refine then_n ?_
 refine wp_ret ?_
 obtain rfl := some_inj h
 exact leave1 hf rfl rfl ⟨A7, c8, rfl, hM.fin⟩
end Go.Proofs.YtccoeheoifbpcaaGreatDoor
