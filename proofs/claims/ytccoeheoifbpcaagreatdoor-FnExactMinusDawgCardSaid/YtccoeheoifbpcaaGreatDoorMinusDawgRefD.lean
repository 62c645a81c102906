/- The functions that this law reaches do what their models say. Printed by gen.py. -/
import Derived.Test.YtccoeheoifbpcaaGreatDoorMod
import Derived.Test.YtccoeheoifbpcaaGreatDoorLib
import Derived.Test.YtccoeheoifbpcaaGreatDoorMinusDawgRefC
namespace Go.Proofs.YtccoeheoifbpcaaGreatDoor
open Go Go.RowKit
set_option linter.unusedSimpArgs false
set_option linter.unusedVariables false
set_option maxRecDepth 100000
set_option maxHeartbeats 4000000
theorem r_laws_FnExactMinusDawg (C : Cx) (aA1 : Dawg) (A2 : Option Addr) (c3 : Nat) (hp4 : (sliceRep NodeRep).R C.w0 C.S0 aA1.Nodes [vL A2 aA1.Nodes c3]) (aB5 : Dawg) (A6 : Option Addr) (c7 : Nat) (hp8 : (sliceRep NodeRep).R C.w0 C.S0 aB5.Nodes [vL A6 aB5.Nodes c7]) (r : Bool) (h : m_laws_FnExactMinusDawg aA1 aB5 = some r) :
    Calls Tryz.prog 6 #[.agg #[vL A2 (aA1.Nodes) c3], .agg #[vL A6 (aB5.Nodes) c7]] C.w0 fun e w => e = .returned (.bool (r)) ∧ Mem C w [] [] := by
 have hM := Mem.begin C [.dat (sliceRep NodeRep) aB5.Nodes [vL A6 aB5.Nodes c7], .dat (sliceRep NodeRep) aA1.Nodes [vL A2 aA1.Nodes c3]] ⟨hp8, hp4, trivial⟩
 refine enter Tryz.func6 rfl Tryz.ntmps6 rfl fun a hf => ?_
 unfold m_laws_FnExactMinusDawg at h
 refine wp_seq ?_
 refine region_pl ?_
 refine pl_l hf rfl rfl rfl (w_box hf hM (cs := [vL A2 (aA1.Nodes) c3]) rfl rfl fun b9 w10 hx11 hM a hf => ?_)
 refine pl_l hf rfl rfl rfl (w_box hf hM (cs := [vL A6 (aB5.Nodes) c7]) rfl rfl fun b13 w14 hx15 hM a hf => ?_)
 refine q_ hf rfl rfl rfl (e_assign hf rfl) fun a hf => ?_
 refine pl_nil ?_
 refine then_n ?_
 refine wp_seq ?_
 refine region_pl ?_
 refine q_ hf rfl rfl rfl (e_assign hf rfl) fun a hf => ?_
 refine pl_nil ?_
 refine then_n ?_
 refine wp_seq ?_
 refine region_pl ?_
 refine q_ hf rfl rfl rfl (e_loadA hf (us := [vL A2 (aA1.Nodes) c3]) rfl ⟨Tryz.isAgg37, Tryz.sizeOf37⟩ rfl (hM.boxSub (k := 1) (us := [vL A2 (aA1.Nodes) c3]) (o := 0) rfl rfl)) fun a hf => ?_
 refine q_ hf rfl rfl rfl (e_move hf rfl) fun a hf => ?_
 obtain ⟨y17, hz18, h⟩ := bind_some h
 refine pl_l hf rfl rfl rfl (w_call hf Tryz.call16 rfl (r_laws_szDawg ⟨_, Sh C _ _, none_, hM.sh_lt, none_not, C.G, hM.g_lt, g_none, hM.tabs⟩ aA1 _ _ (hM.dat (k := 1) rfl) 1048576 (R64_lit rfl) _ hz18) ?_)
 rintro _ w20 ⟨rfl, hM2, hv19⟩
 obtain ⟨hM, hx21, hup22⟩ := hM.back hM2
 dsimp only [List.cons_append, List.nil_append] at hM hup22
 clear hM2
 refine ⟨_, rfl, fun a hf => ?_⟩
 refine q_ hf rfl rfl rfl (e_assign hf rfl) fun a hf => ?_
 refine pl_nil ?_
 refine then_n ?_
 iterate 2 refine wp_seq ?_
 refine region_pl ?_
 refine q_ hf rfl rfl rfl (e_move hf rfl) fun a hf => ?_
 refine q_ hf rfl rfl rfl (e_lt hf (x := y17) (y := 0) rfl rfl) fun a hf => ?_
 refine pl_nil ?_
 refine then_n ?_
 rcases cond_some h with ⟨hc23, h⟩ | ⟨hc23, h⟩
 ·refine cond_t hf rfl hc23 ?_
  refine wp_seq ?_
  refine region_pl ?_
  refine q_ hf rfl rfl rfl (e_assign hf rfl) fun a hf => ?_
  refine pl_nil ?_
  refine then_n ?_
  refine wp_ret ?_
  refine then_r ?_
  obtain rfl := some_inj h
  have hM := hM.outs (own' := []) 0 rfl
  exact leave1 hf rfl rfl ⟨rfl, hM.fin⟩
 refine cond_f hf rfl hc23 ?_
 refine wp_skip ?_
 refine then_n ?_
 refine wp_seq ?_
 refine region_pl ?_
 refine q_ hf rfl rfl rfl (e_loadA hf (us := [vL A6 (aB5.Nodes) c7]) rfl ⟨Tryz.isAgg37, Tryz.sizeOf37⟩ rfl (hM.boxSub (k := 0) (us := [vL A6 (aB5.Nodes) c7]) (o := 0) rfl rfl)) fun a hf => ?_
 refine q_ hf rfl rfl rfl (e_move hf rfl) fun a hf => ?_
 obtain ⟨y24, hz25, h⟩ := bind_some h
 refine pl_l hf rfl rfl rfl (w_call hf Tryz.call16 rfl (r_laws_szDawg ⟨_, Sh C _ _, none_, hM.sh_lt, none_not, C.G, hM.g_lt, g_none, hM.tabs⟩ aB5 _ _ (hM.dat (k := 0) rfl) y17 hv19 _ hz25) ?_)
 rintro _ w27 ⟨rfl, hM2, hv26⟩
 obtain ⟨hM, hx28, hup29⟩ := hM.back hM2
 dsimp only [List.cons_append, List.nil_append] at hM hup29
 clear hM2
 refine ⟨_, rfl, fun a hf => ?_⟩
 refine q_ hf rfl rfl rfl (e_assign hf rfl) fun a hf => ?_
 refine pl_nil ?_
 refine then_n ?_
 iterate 2 refine wp_seq ?_
 refine region_pl ?_
 refine q_ hf rfl rfl rfl (e_move hf rfl) fun a hf => ?_
 refine q_ hf rfl rfl rfl (e_lt hf (x := y24) (y := 0) rfl rfl) fun a hf => ?_
 refine pl_nil ?_
 refine then_n ?_
 rcases cond_some h with ⟨hc30, h⟩ | ⟨hc30, h⟩
 ·refine cond_t hf rfl hc30 ?_
  refine wp_seq ?_
  refine region_pl ?_
  refine q_ hf rfl rfl rfl (e_assign hf rfl) fun a hf => ?_
  refine pl_nil ?_
  refine then_n ?_
  refine wp_ret ?_
  refine then_r ?_
  obtain rfl := some_inj h
  have hM := hM.outs (own' := []) 0 rfl
  exact leave1 hf rfl rfl ⟨rfl, hM.fin⟩
 refine cond_f hf rfl hc30 ?_
 refine wp_skip ?_
 refine then_n ?_
 obtain ⟨y32, hz33, h⟩ := bind_some h
 obtain ⟨y41, hz42, h⟩ := bind_some h
 obtain ⟨y50, hz51, h⟩ := bind_some h
 refine seq_join (fun a w => ∃ (A52 : Option Addr) (b59 : Nat) (c53 : Nat), Has 119 a [(2, vP b9 (0)), (3, vP b13 (0)), (6, vP b59 (0)), (7, vI (y50.2))] ∧ Mem C w [.box b59 [vL A52 (y50.1.Nodes) c53] 26, .box b13 [vL A6 (aB5.Nodes) c7] 37, .box b9 [vL A2 (aA1.Nodes) c3] 37] [.dat (sliceRep NodeRep) y50.1.Nodes [vL A52 y50.1.Nodes c53], .dat (sliceRep NodeRep) aB5.Nodes [vL A6 aB5.Nodes c7], .dat (sliceRep NodeRep) aA1.Nodes [vL A2 aA1.Nodes c3]] ∧ R64 (y50.2)) ?_ ?_
 ·obtain ⟨w31, hw⟩ : ∃ x, x = w27.drew := ⟨_, rfl⟩
  refine region_pi (.q 0 (.q 2 (.b 1 8 (.b 3 8 (.b 4 8 (.q 5 (.q 6 (.q 7 (.l 8 (.l 9 (.q 10 (.nil))))))) (.l 4 (.q 5 (.q 6 (.q 7 (.l 9 (.q 10 (.nil)))))))) (.l 3 (.l 4 (.q 5 (.q 6 (.q 7 (.l 9 (.q 10 (.nil))))))))) (.l 1 (.l 3 (.l 4 (.q 5 (.q 6 (.q 7 (.l 9 (.q 10 (.nil)))))))))))) (ExtM [] w31) rfl (by kernel_rfl) ?_
  have hM := hM.drew
  rw [← hw] at hM ⊢
  clear hw
  refine pi_q hf rfl rfl rfl rfl (ExtM.refl _ _) (e_loadAM hf (us := [vL A2 (aA1.Nodes) c3]) rfl ⟨Tryz.isAgg37, Tryz.sizeOf37⟩ rfl (hM.boxSub (k := 1) (us := [vL A2 (aA1.Nodes) c3]) (o := 0) rfl rfl) (hM.apart (js := []) rfl (k := 1) rfl rfl rfl)) fun a hf => ?_
  refine pi_q hf rfl rfl rfl rfl (ExtM.refl _ _) (e_loadAM hf (us := [vL A6 (aB5.Nodes) c7]) rfl ⟨Tryz.isAgg37, Tryz.sizeOf37⟩ rfl (hM.boxSub (k := 0) (us := [vL A6 (aB5.Nodes) c7]) (o := 0) rfl rfl) (hM.apart (js := []) rfl (k := 0) rfl rfl rfl)) fun a hf => ?_
  refine pi_two ?_ ?_
  ·refine pi_l hf rfl rfl rfl rfl (w_call hf Tryz.call18 rfl (r_laws_toDawg ⟨_, Sh C _ _, none_, hM.sh_lt, none_not, C.G, hM.g_lt, g_none, hM.tabs⟩ aA1 _ _ (hM.dat (k := 1) rfl) _ hz33) ?_)
   rintro _ w76 ⟨A72, c73, ws74, rfl, hM2, hw75⟩
   obtain ⟨hM, hx77, hup78⟩ := hM.back hM2
   try dsimp only [List.cons_append, List.nil_append] at hM hup78
   clear hM2
   have hM : Mem C _ (.box b13 [vL A6 (aB5.Nodes) c7] 37 :: .box b9 [vL A2 (aA1.Nodes) c3] 37 :: (nestW A72 c73 79 2 ws74)) _ := Mem.perm (own := (nestW A72 c73 79 2 ws74) ++ [.box b13 [vL A6 (aB5.Nodes) c7] 37, .box b9 [vL A2 (aA1.Nodes) c3] 37]) (own' := ([] ++ [.box b13 [vL A6 (aB5.Nodes) c7] 37, .box b9 [vL A2 (aA1.Nodes) c3] 37]) ++ (nestW A72 c73 79 2 ws74)) hM (fun a => by simp only [List.count_append, List.count_nil]; omega)
   refine ⟨_, rfl, ExtM [] w76, fun _ h => ExtM.trans hx77 h, ExtM.refl _ _, fun a hf => ?_⟩
   refine pi_two ?_ ?_
   ·refine pi_l hf rfl rfl rfl rfl (w_call hf Tryz.call18 rfl (r_laws_toDawg ⟨_, Sh C _ _, none_, hM.sh_lt, none_not, C.G, hM.g_lt, g_none, hM.tabs⟩ aB5 _ _ (hM.dat (k := 0) rfl) _ hz42) ?_)
    rintro _ w83 ⟨A79, c80, ws81, rfl, hM2, hw82⟩
    obtain ⟨hM, hx84, hup85⟩ := hM.back hM2
    try dsimp only [List.cons_append, List.nil_append] at hM hup85
    clear hM2
    have hM : Mem C _ (.box b13 [vL A6 (aB5.Nodes) c7] 37 :: .box b9 [vL A2 (aA1.Nodes) c3] 37 :: ((nestW A72 c73 79 2 ws74) ++ nestW A79 c80 79 2 ws81)) _ := Mem.perm (own := (nestW A79 c80 79 2 ws81) ++ ([.box b13 [vL A6 (aB5.Nodes) c7] 37, .box b9 [vL A2 (aA1.Nodes) c3] 37] ++ (nestW A72 c73 79 2 ws74))) (own' := ([] ++ [.box b13 [vL A6 (aB5.Nodes) c7] 37, .box b9 [vL A2 (aA1.Nodes) c3] 37]) ++ ((nestW A72 c73 79 2 ws74) ++ nestW A79 c80 79 2 ws81)) hM (fun a => by simp only [List.count_append, List.count_nil]; omega)
    refine ⟨_, rfl, ExtM [] w83, fun _ h => ExtM.trans hx84 h, ExtM.refl _ _, fun a hf => ?_⟩
    refine pi_two ?_ ?_
    ·have hM : Mem C _ ((nestW A72 c73 79 2 ws74) ++ ([.box b13 [vL A6 (aB5.Nodes) c7] 37, .box b9 [vL A2 (aA1.Nodes) c3] 37] ++ (nestW A79 c80 79 2 ws81))) _ := Mem.perm (own := ([.box b13 [vL A6 (aB5.Nodes) c7] 37, .box b9 [vL A2 (aA1.Nodes) c3] 37] ++ ((nestW A72 c73 79 2 ws74) ++ nestW A79 c80 79 2 ws81))) hM (fun a => by simp only [List.count_append, List.count_nil]; omega)
     have hM := Mem.freezeNest (A := A72) (c := c73) (E := 79) (E2 := 2) (ws := ws74) hM hw75
     have hM : Mem C _ (.box b13 [vL A6 (aB5.Nodes) c7] 37 :: .box b9 [vL A2 (aA1.Nodes) c3] 37 :: (nestW A79 c80 79 2 ws81)) _ := hM
     have hM : Mem C _ ((nestW A79 c80 79 2 ws81) ++ [.box b13 [vL A6 (aB5.Nodes) c7] 37, .box b9 [vL A2 (aA1.Nodes) c3] 37]) _ := Mem.perm (own := ([.box b13 [vL A6 (aB5.Nodes) c7] 37, .box b9 [vL A2 (aA1.Nodes) c3] 37] ++ (nestW A79 c80 79 2 ws81))) hM (fun a => by simp only [List.count_append, List.count_nil]; omega)
     have hM := Mem.freezeNest (A := A79) (c := c80) (E := 79) (E2 := 2) (ws := ws81) hM hw82
     have hM : Mem C _ [.box b13 [vL A6 (aB5.Nodes) c7] 37, .box b9 [vL A2 (aA1.Nodes) c3] 37] _ := hM
     refine pi_l hf rfl rfl rfl rfl (w_call hf Tryz.call23 rfl (r_spec_MinusDawg ⟨_, Sh C _ _, none_, hM.sh_lt, none_not, C.G, hM.g_lt, g_none, hM.tabs⟩ y32 _ _ (hM.dat (k := 1) rfl) y41 _ _ (hM.dat (k := 0) rfl) _ hz51) ?_)
     rintro _ w90 ⟨A86, c87, rfl, hM2, hv88, hv89⟩
     obtain ⟨hM, hx91, hup92⟩ := hM.back hM2
     dsimp only [List.cons_append, List.nil_append] at hM hup92
     clear hM2
     have hM := hM.add (y := .dat (sliceRep NodeRep) y50.1.Nodes [vL A86 y50.1.Nodes c87]) (hup92 hv88)
     refine ⟨_, rfl, ExtM [] w90, fun _ h => ExtM.trans hx91 h, ExtM.refl _ _, fun a hf => ?_⟩
     refine pi_q hf rfl rfl rfl rfl (ExtM.refl _ _) (e_move hf rfl) fun a hf => ?_
     iterate 2 refine pi_q hf rfl rfl rfl rfl (ExtM.refl _ _) (e_extract hf rfl rfl) fun a hf => ?_
     refine pi_one ?_
     refine pi_l hf rfl rfl rfl rfl (w_allocM hM (cs := [vL none (([] : (List Node))) 0]) Tryz.zeroValue26 rfl fun b93 w94 hx95 hn96 hM => ⟨ExtM [some b93] w94, fun _ h => ExtM.grow hx95 hn96 h, ExtM.refl _ _, fun a hf => ?_⟩)
     refine pi_one ?_
     refine pi_l0 hf rfl rfl rfl (w_storeM hf (List.mem_of_getElem? (i := 0) rfl) hM (us := [vL A86 (y50.1.Nodes) c87]) (cs' := [vL A86 (y50.1.Nodes) c87]) rfl rfl (k := 0) rfl rfl Tryz.sizeOf26 rfl rfl rfl fun w97 hxm98 hsz99 hM => ⟨Ext w97, fun _ h => ExtM.last hxm98 hsz99 h, Ext.refl _, ?_⟩)
     dsimp only [List.set] at hM
     refine pi_q hf rfl rfl rfl rfl (Ext.refl _) (e_assign hf rfl) fun a hf => ?_
     refine pi_nil ?_
     refine then_n ?_
     exact ⟨A86, b93, c87, hf.keep ⟨rfl, rfl, rfl, rfl, trivial⟩, hM.pick [0, 3, 4] rfl, hv89⟩
    refine pi_l hf rfl rfl rfl rfl (w_allocM hM (cs := [vL none (([] : (List Node))) 0]) Tryz.zeroValue26 rfl fun b100 w101 hx102 hn103 hM => ⟨ExtM [some b100] w101, fun _ h => ExtM.grow hx102 hn103 h, ExtM.refl _ _, fun a hf => ?_⟩)
    refine pi_one ?_
    have hM : Mem C _ ((nestW A72 c73 79 2 ws74) ++ ([.box b100 [vL none (([] : (List Node))) 0] 26, .box b13 [vL A6 (aB5.Nodes) c7] 37, .box b9 [vL A2 (aA1.Nodes) c3] 37] ++ (nestW A79 c80 79 2 ws81))) _ := Mem.perm (own := ([.box b100 [vL none (([] : (List Node))) 0] 26, .box b13 [vL A6 (aB5.Nodes) c7] 37, .box b9 [vL A2 (aA1.Nodes) c3] 37] ++ ((nestW A72 c73 79 2 ws74) ++ nestW A79 c80 79 2 ws81))) hM (fun a => by simp only [List.count_append, List.count_nil]; omega)
    have hM := Mem.freezeNest (A := A72) (c := c73) (E := 79) (E2 := 2) (ws := ws74) hM hw75
    have hM : Mem C _ (.box b100 [vL none (([] : (List Node))) 0] 26 :: .box b13 [vL A6 (aB5.Nodes) c7] 37 :: .box b9 [vL A2 (aA1.Nodes) c3] 37 :: (nestW A79 c80 79 2 ws81)) _ := hM
    have hM : Mem C _ ((nestW A79 c80 79 2 ws81) ++ [.box b100 [vL none (([] : (List Node))) 0] 26, .box b13 [vL A6 (aB5.Nodes) c7] 37, .box b9 [vL A2 (aA1.Nodes) c3] 37]) _ := Mem.perm (own := ([.box b100 [vL none (([] : (List Node))) 0] 26, .box b13 [vL A6 (aB5.Nodes) c7] 37, .box b9 [vL A2 (aA1.Nodes) c3] 37] ++ (nestW A79 c80 79 2 ws81))) hM (fun a => by simp only [List.count_append, List.count_nil]; omega)
    have hM := Mem.freezeNest (A := A79) (c := c80) (E := 79) (E2 := 2) (ws := ws81) hM hw82
    have hM : Mem C _ [.box b100 [vL none (([] : (List Node))) 0] 26, .box b13 [vL A6 (aB5.Nodes) c7] 37, .box b9 [vL A2 (aA1.Nodes) c3] 37] _ := hM
    refine pi_l hf rfl rfl rfl rfl (w_call hf Tryz.call23 rfl (r_spec_MinusDawg ⟨_, Sh C _ _, none_, hM.sh_lt, none_not, C.G, hM.g_lt, g_none, hM.tabs⟩ y32 _ _ (hM.dat (k := 1) rfl) y41 _ _ (hM.dat (k := 0) rfl) _ hz51) ?_)
    rintro _ w108 ⟨A104, c105, rfl, hM2, hv106, hv107⟩
    obtain ⟨hM, hx109, hup110⟩ := hM.back hM2
    dsimp only [List.cons_append, List.nil_append] at hM hup110
    clear hM2
    have hM := hM.add (y := .dat (sliceRep NodeRep) y50.1.Nodes [vL A104 y50.1.Nodes c105]) (hup110 hv106)
    refine ⟨_, rfl, ExtM [some b100] w108, fun _ h => ExtM.trans hx109 h, ExtM.refl _ _, fun a hf => ?_⟩
    refine pi_q hf rfl rfl rfl rfl (ExtM.refl _ _) (e_move hf rfl) fun a hf => ?_
    iterate 2 refine pi_q hf rfl rfl rfl rfl (ExtM.refl _ _) (e_extract hf rfl rfl) fun a hf => ?_
    refine pi_one ?_
    refine pi_l0 hf rfl rfl rfl (w_storeM hf (List.mem_of_getElem? (i := 0) rfl) hM (us := [vL A104 (y50.1.Nodes) c105]) (cs' := [vL A104 (y50.1.Nodes) c105]) rfl rfl (k := 0) rfl rfl Tryz.sizeOf26 rfl rfl rfl fun w111 hxm112 hsz113 hM => ⟨Ext w111, fun _ h => ExtM.last hxm112 hsz113 h, Ext.refl _, ?_⟩)
    dsimp only [List.set] at hM
    refine pi_q hf rfl rfl rfl rfl (Ext.refl _) (e_assign hf rfl) fun a hf => ?_
    refine pi_nil ?_
    refine then_n ?_
    exact ⟨A104, b100, c105, hf.keep ⟨rfl, rfl, rfl, rfl, trivial⟩, hM.pick [0, 3, 4] rfl, hv107⟩
   refine pi_l hf rfl rfl rfl rfl (w_allocM hM (cs := [vL none (([] : (List Node))) 0]) Tryz.zeroValue26 rfl fun b114 w115 hx116 hn117 hM => ⟨ExtM [some b114] w115, fun _ h => ExtM.grow hx116 hn117 h, ExtM.refl _ _, fun a hf => ?_⟩)
   refine pi_one ?_
   refine pi_l hf rfl rfl rfl rfl (w_call hf Tryz.call18 rfl (r_laws_toDawg ⟨_, Sh C _ _, none_, hM.sh_lt, none_not, C.G, hM.g_lt, g_none, hM.tabs⟩ aB5 _ _ (hM.dat (k := 0) rfl) _ hz42) ?_)
   rintro _ w122 ⟨A118, c119, ws120, rfl, hM2, hw121⟩
   obtain ⟨hM, hx123, hup124⟩ := hM.back hM2
   try dsimp only [List.cons_append, List.nil_append] at hM hup124
   clear hM2
   have hM : Mem C _ (.box b114 [vL none (([] : (List Node))) 0] 26 :: .box b13 [vL A6 (aB5.Nodes) c7] 37 :: .box b9 [vL A2 (aA1.Nodes) c3] 37 :: ((nestW A72 c73 79 2 ws74) ++ nestW A118 c119 79 2 ws120)) _ := Mem.perm (own := (nestW A118 c119 79 2 ws120) ++ ([.box b114 [vL none (([] : (List Node))) 0] 26, .box b13 [vL A6 (aB5.Nodes) c7] 37, .box b9 [vL A2 (aA1.Nodes) c3] 37] ++ (nestW A72 c73 79 2 ws74))) (own' := ([] ++ [.box b114 [vL none (([] : (List Node))) 0] 26, .box b13 [vL A6 (aB5.Nodes) c7] 37, .box b9 [vL A2 (aA1.Nodes) c3] 37]) ++ ((nestW A72 c73 79 2 ws74) ++ nestW A118 c119 79 2 ws120)) hM (fun a => by simp only [List.count_append, List.count_nil]; omega)
   refine ⟨_, rfl, ExtM [some b114] w122, fun _ h => ExtM.trans hx123 h, ExtM.refl _ _, fun a hf => ?_⟩
   refine pi_one ?_
   have hM : Mem C _ ((nestW A72 c73 79 2 ws74) ++ ([.box b114 [vL none (([] : (List Node))) 0] 26, .box b13 [vL A6 (aB5.Nodes) c7] 37, .box b9 [vL A2 (aA1.Nodes) c3] 37] ++ (nestW A118 c119 79 2 ws120))) _ := Mem.perm (own := ([.box b114 [vL none (([] : (List Node))) 0] 26, .box b13 [vL A6 (aB5.Nodes) c7] 37, .box b9 [vL A2 (aA1.Nodes) c3] 37] ++ ((nestW A72 c73 79 2 ws74) ++ nestW A118 c119 79 2 ws120))) hM (fun a => by simp only [List.count_append, List.count_nil]; omega)
   have hM := Mem.freezeNest (A := A72) (c := c73) (E := 79) (E2 := 2) (ws := ws74) hM hw75
   have hM : Mem C _ (.box b114 [vL none (([] : (List Node))) 0] 26 :: .box b13 [vL A6 (aB5.Nodes) c7] 37 :: .box b9 [vL A2 (aA1.Nodes) c3] 37 :: (nestW A118 c119 79 2 ws120)) _ := hM
   have hM : Mem C _ ((nestW A118 c119 79 2 ws120) ++ [.box b114 [vL none (([] : (List Node))) 0] 26, .box b13 [vL A6 (aB5.Nodes) c7] 37, .box b9 [vL A2 (aA1.Nodes) c3] 37]) _ := Mem.perm (own := ([.box b114 [vL none (([] : (List Node))) 0] 26, .box b13 [vL A6 (aB5.Nodes) c7] 37, .box b9 [vL A2 (aA1.Nodes) c3] 37] ++ (nestW A118 c119 79 2 ws120))) hM (fun a => by simp only [List.count_append, List.count_nil]; omega)
   have hM := Mem.freezeNest (A := A118) (c := c119) (E := 79) (E2 := 2) (ws := ws120) hM hw121
   have hM : Mem C _ [.box b114 [vL none (([] : (List Node))) 0] 26, .box b13 [vL A6 (aB5.Nodes) c7] 37, .box b9 [vL A2 (aA1.Nodes) c3] 37] _ := hM
   refine pi_l hf rfl rfl rfl rfl (w_call hf Tryz.call23 rfl (r_spec_MinusDawg ⟨_, Sh C _ _, none_, hM.sh_lt, none_not, C.G, hM.g_lt, g_none, hM.tabs⟩ y32 _ _ (hM.dat (k := 1) rfl) y41 _ _ (hM.dat (k := 0) rfl) _ hz51) ?_)
   rintro _ w129 ⟨A125, c126, rfl, hM2, hv127, hv128⟩
   obtain ⟨hM, hx130, hup131⟩ := hM.back hM2
   dsimp only [List.cons_append, List.nil_append] at hM hup131
   clear hM2
   have hM := hM.add (y := .dat (sliceRep NodeRep) y50.1.Nodes [vL A125 y50.1.Nodes c126]) (hup131 hv127)
   refine ⟨_, rfl, ExtM [some b114] w129, fun _ h => ExtM.trans hx130 h, ExtM.refl _ _, fun a hf => ?_⟩
   refine pi_q hf rfl rfl rfl rfl (ExtM.refl _ _) (e_move hf rfl) fun a hf => ?_
   iterate 2 refine pi_q hf rfl rfl rfl rfl (ExtM.refl _ _) (e_extract hf rfl rfl) fun a hf => ?_
   refine pi_one ?_
   refine pi_l0 hf rfl rfl rfl (w_storeM hf (List.mem_of_getElem? (i := 0) rfl) hM (us := [vL A125 (y50.1.Nodes) c126]) (cs' := [vL A125 (y50.1.Nodes) c126]) rfl rfl (k := 0) rfl rfl Tryz.sizeOf26 rfl rfl rfl fun w132 hxm133 hsz134 hM => ⟨Ext w132, fun _ h => ExtM.last hxm133 hsz134 h, Ext.refl _, ?_⟩)
   dsimp only [List.set] at hM
   refine pi_q hf rfl rfl rfl rfl (Ext.refl _) (e_assign hf rfl) fun a hf => ?_
   refine pi_nil ?_
   refine then_n ?_
   exact ⟨A125, b114, c126, hf.keep ⟨rfl, rfl, rfl, rfl, trivial⟩, hM.pick [0, 3, 4] rfl, hv128⟩
  refine pi_l hf rfl rfl rfl rfl (w_allocM hM (cs := [vL none (([] : (List Node))) 0]) Tryz.zeroValue26 rfl fun b135 w136 hx137 hn138 hM => ⟨ExtM [some b135] w136, fun _ h => ExtM.grow hx137 hn138 h, ExtM.refl _ _, fun a hf => ?_⟩)
  refine pi_one ?_
  refine pi_l hf rfl rfl rfl rfl (w_call hf Tryz.call18 rfl (r_laws_toDawg ⟨_, Sh C _ _, none_, hM.sh_lt, none_not, C.G, hM.g_lt, g_none, hM.tabs⟩ aA1 _ _ (hM.dat (k := 1) rfl) _ hz33) ?_)
  rintro _ w143 ⟨A139, c140, ws141, rfl, hM2, hw142⟩
  obtain ⟨hM, hx144, hup145⟩ := hM.back hM2
  try dsimp only [List.cons_append, List.nil_append] at hM hup145
  clear hM2
  have hM : Mem C _ (.box b135 [vL none (([] : (List Node))) 0] 26 :: .box b13 [vL A6 (aB5.Nodes) c7] 37 :: .box b9 [vL A2 (aA1.Nodes) c3] 37 :: (nestW A139 c140 79 2 ws141)) _ := Mem.perm (own := (nestW A139 c140 79 2 ws141) ++ [.box b135 [vL none (([] : (List Node))) 0] 26, .box b13 [vL A6 (aB5.Nodes) c7] 37, .box b9 [vL A2 (aA1.Nodes) c3] 37]) (own' := ([] ++ [.box b135 [vL none (([] : (List Node))) 0] 26, .box b13 [vL A6 (aB5.Nodes) c7] 37, .box b9 [vL A2 (aA1.Nodes) c3] 37]) ++ (nestW A139 c140 79 2 ws141)) hM (fun a => by simp only [List.count_append, List.count_nil]; omega)
  refine ⟨_, rfl, ExtM [some b135] w143, fun _ h => ExtM.trans hx144 h, ExtM.refl _ _, fun a hf => ?_⟩
  refine pi_one ?_
  refine pi_l hf rfl rfl rfl rfl (w_call hf Tryz.call18 rfl (r_laws_toDawg ⟨_, Sh C _ _, none_, hM.sh_lt, none_not, C.G, hM.g_lt, g_none, hM.tabs⟩ aB5 _ _ (hM.dat (k := 0) rfl) _ hz42) ?_)
  rintro _ w150 ⟨A146, c147, ws148, rfl, hM2, hw149⟩
  obtain ⟨hM, hx151, hup152⟩ := hM.back hM2
  try dsimp only [List.cons_append, List.nil_append] at hM hup152
  clear hM2
  have hM : Mem C _ (.box b135 [vL none (([] : (List Node))) 0] 26 :: .box b13 [vL A6 (aB5.Nodes) c7] 37 :: .box b9 [vL A2 (aA1.Nodes) c3] 37 :: ((nestW A139 c140 79 2 ws141) ++ nestW A146 c147 79 2 ws148)) _ := Mem.perm (own := (nestW A146 c147 79 2 ws148) ++ ([.box b135 [vL none (([] : (List Node))) 0] 26, .box b13 [vL A6 (aB5.Nodes) c7] 37, .box b9 [vL A2 (aA1.Nodes) c3] 37] ++ (nestW A139 c140 79 2 ws141))) (own' := ([] ++ [.box b135 [vL none (([] : (List Node))) 0] 26, .box b13 [vL A6 (aB5.Nodes) c7] 37, .box b9 [vL A2 (aA1.Nodes) c3] 37]) ++ ((nestW A139 c140 79 2 ws141) ++ nestW A146 c147 79 2 ws148)) hM (fun a => by simp only [List.count_append, List.count_nil]; omega)
  refine ⟨_, rfl, ExtM [some b135] w150, fun _ h => ExtM.trans hx151 h, ExtM.refl _ _, fun a hf => ?_⟩
  refine pi_one ?_
  have hM : Mem C _ ((nestW A139 c140 79 2 ws141) ++ ([.box b135 [vL none (([] : (List Node))) 0] 26, .box b13 [vL A6 (aB5.Nodes) c7] 37, .box b9 [vL A2 (aA1.Nodes) c3] 37] ++ (nestW A146 c147 79 2 ws148))) _ := Mem.perm (own := ([.box b135 [vL none (([] : (List Node))) 0] 26, .box b13 [vL A6 (aB5.Nodes) c7] 37, .box b9 [vL A2 (aA1.Nodes) c3] 37] ++ ((nestW A139 c140 79 2 ws141) ++ nestW A146 c147 79 2 ws148))) hM (fun a => by simp only [List.count_append, List.count_nil]; omega)
  have hM := Mem.freezeNest (A := A139) (c := c140) (E := 79) (E2 := 2) (ws := ws141) hM hw142
  have hM : Mem C _ (.box b135 [vL none (([] : (List Node))) 0] 26 :: .box b13 [vL A6 (aB5.Nodes) c7] 37 :: .box b9 [vL A2 (aA1.Nodes) c3] 37 :: (nestW A146 c147 79 2 ws148)) _ := hM
  have hM : Mem C _ ((nestW A146 c147 79 2 ws148) ++ [.box b135 [vL none (([] : (List Node))) 0] 26, .box b13 [vL A6 (aB5.Nodes) c7] 37, .box b9 [vL A2 (aA1.Nodes) c3] 37]) _ := Mem.perm (own := ([.box b135 [vL none (([] : (List Node))) 0] 26, .box b13 [vL A6 (aB5.Nodes) c7] 37, .box b9 [vL A2 (aA1.Nodes) c3] 37] ++ (nestW A146 c147 79 2 ws148))) hM (fun a => by simp only [List.count_append, List.count_nil]; omega)
  have hM := Mem.freezeNest (A := A146) (c := c147) (E := 79) (E2 := 2) (ws := ws148) hM hw149
  have hM : Mem C _ [.box b135 [vL none (([] : (List Node))) 0] 26, .box b13 [vL A6 (aB5.Nodes) c7] 37, .box b9 [vL A2 (aA1.Nodes) c3] 37] _ := hM
  refine pi_l hf rfl rfl rfl rfl (w_call hf Tryz.call23 rfl (r_spec_MinusDawg ⟨_, Sh C _ _, none_, hM.sh_lt, none_not, C.G, hM.g_lt, g_none, hM.tabs⟩ y32 _ _ (hM.dat (k := 1) rfl) y41 _ _ (hM.dat (k := 0) rfl) _ hz51) ?_)
  rintro _ w157 ⟨A153, c154, rfl, hM2, hv155, hv156⟩
  obtain ⟨hM, hx158, hup159⟩ := hM.back hM2
  dsimp only [List.cons_append, List.nil_append] at hM hup159
  clear hM2
  have hM := hM.add (y := .dat (sliceRep NodeRep) y50.1.Nodes [vL A153 y50.1.Nodes c154]) (hup159 hv155)
  refine ⟨_, rfl, ExtM [some b135] w157, fun _ h => ExtM.trans hx158 h, ExtM.refl _ _, fun a hf => ?_⟩
  refine pi_q hf rfl rfl rfl rfl (ExtM.refl _ _) (e_move hf rfl) fun a hf => ?_
  iterate 2 refine pi_q hf rfl rfl rfl rfl (ExtM.refl _ _) (e_extract hf rfl rfl) fun a hf => ?_
  refine pi_one ?_
  refine pi_l0 hf rfl rfl rfl (w_storeM hf (List.mem_of_getElem? (i := 0) rfl) hM (us := [vL A153 (y50.1.Nodes) c154]) (cs' := [vL A153 (y50.1.Nodes) c154]) rfl rfl (k := 0) rfl rfl Tryz.sizeOf26 rfl rfl rfl fun w160 hxm161 hsz162 hM => ⟨Ext w160, fun _ h => ExtM.last hxm161 hsz162 h, Ext.refl _, ?_⟩)
  dsimp only [List.set] at hM
  refine pi_q hf rfl rfl rfl rfl (Ext.refl _) (e_assign hf rfl) fun a hf => ?_
  refine pi_nil ?_
  refine then_n ?_
  exact ⟨A153, b135, c154, hf.keep ⟨rfl, rfl, rfl, rfl, trivial⟩, hM.pick [0, 3, 4] rfl, hv156⟩
 rintro a w67 ⟨A52, b59, c53, hf, hM, hv66⟩
 refine wp_seq ?_
 refine region_pl ?_
 refine q_ hf rfl rfl rfl (e_loadA hf (us := [vL A2 (aA1.Nodes) c3]) rfl ⟨Tryz.isAgg37, Tryz.sizeOf37⟩ rfl (hM.boxSub (k := 2) (us := [vL A2 (aA1.Nodes) c3]) (o := 0) rfl rfl)) fun a hf => ?_
 obtain ⟨y163, hz164, h⟩ := bind_some h
 refine pl_l hf rfl rfl rfl (w_call hf Tryz.call18 rfl (r_laws_toDawg ⟨_, Sh C _ _, none_, hM.sh_lt, none_not, C.G, hM.g_lt, g_none, hM.tabs⟩ aA1 _ _ (hM.dat (k := 2) rfl) _ hz164) ?_)
 rintro _ w169 ⟨A165, c166, ws167, rfl, hM2, hw168⟩
 obtain ⟨hM, hx170, hup171⟩ := hM.back hM2
 try dsimp only [List.cons_append, List.nil_append] at hM hup171
 clear hM2
 have hM : Mem C _ (.box b59 [vL A52 (y50.1.Nodes) c53] 26 :: .box b13 [vL A6 (aB5.Nodes) c7] 37 :: .box b9 [vL A2 (aA1.Nodes) c3] 37 :: (nestW A165 c166 79 2 ws167)) _ := Mem.perm (own := (nestW A165 c166 79 2 ws167) ++ [.box b59 [vL A52 (y50.1.Nodes) c53] 26, .box b13 [vL A6 (aB5.Nodes) c7] 37, .box b9 [vL A2 (aA1.Nodes) c3] 37]) (own' := ([] ++ [.box b59 [vL A52 (y50.1.Nodes) c53] 26, .box b13 [vL A6 (aB5.Nodes) c7] 37, .box b9 [vL A2 (aA1.Nodes) c3] 37]) ++ (nestW A165 c166 79 2 ws167)) hM (fun a => by simp only [List.count_append, List.count_nil]; omega)
 refine ⟨_, rfl, fun a hf => ?_⟩
 refine pl_l hf rfl rfl rfl (w_alloc hM (cs := [vL none (([] : (List Node))) 0]) Tryz.zeroValue26 rfl fun b172 w173 hx174 hM a hf => ?_)
 refine pl_0 hf rfl rfl (w_store hf hM (us := [vL A165 (y163.Nodes) c166]) (cs' := [vL A165 (y163.Nodes) c166]) rfl rfl (k := 0) rfl rfl Tryz.sizeOf26 rfl rfl rfl fun w176 hM => ?_)
 dsimp only [List.set] at hM
 refine pl_nil ?_
 refine then_n ?_
 refine wp_seq ?_
 refine region_pl ?_
 refine q_ hf rfl rfl rfl (e_loadA hf (us := [vL A6 (aB5.Nodes) c7]) rfl ⟨Tryz.isAgg37, Tryz.sizeOf37⟩ rfl (hM.boxSub (k := 2) (us := [vL A6 (aB5.Nodes) c7]) (o := 0) rfl rfl)) fun a hf => ?_
 obtain ⟨y179, hz180, h⟩ := bind_some h
 refine pl_l hf rfl rfl rfl (w_call hf Tryz.call18 rfl (r_laws_toDawg ⟨_, Sh C _ _, none_, hM.sh_lt, none_not, C.G, hM.g_lt, g_none, hM.tabs⟩ aB5 _ _ (hM.dat (k := 1) rfl) _ hz180) ?_)
 rintro _ w185 ⟨A181, c182, ws183, rfl, hM2, hw184⟩
 obtain ⟨hM, hx186, hup187⟩ := hM.back hM2
 try dsimp only [List.cons_append, List.nil_append] at hM hup187
 clear hM2
 have hM : Mem C _ (.box b172 [vL A165 (y163.Nodes) c166] 26 :: .box b59 [vL A52 (y50.1.Nodes) c53] 26 :: .box b13 [vL A6 (aB5.Nodes) c7] 37 :: .box b9 [vL A2 (aA1.Nodes) c3] 37 :: ((nestW A165 c166 79 2 ws167) ++ nestW A181 c182 79 2 ws183)) _ := Mem.perm (own := (nestW A181 c182 79 2 ws183) ++ ([.box b172 [vL A165 (y163.Nodes) c166] 26, .box b59 [vL A52 (y50.1.Nodes) c53] 26, .box b13 [vL A6 (aB5.Nodes) c7] 37, .box b9 [vL A2 (aA1.Nodes) c3] 37] ++ (nestW A165 c166 79 2 ws167))) (own' := ([] ++ [.box b172 [vL A165 (y163.Nodes) c166] 26, .box b59 [vL A52 (y50.1.Nodes) c53] 26, .box b13 [vL A6 (aB5.Nodes) c7] 37, .box b9 [vL A2 (aA1.Nodes) c3] 37]) ++ ((nestW A165 c166 79 2 ws167) ++ nestW A181 c182 79 2 ws183)) hM (fun a => by simp only [List.count_append, List.count_nil]; omega)
 refine ⟨_, rfl, fun a hf => ?_⟩
 refine pl_l hf rfl rfl rfl (w_alloc hM (cs := [vL none (([] : (List Node))) 0]) Tryz.zeroValue26 rfl fun b188 w189 hx190 hM a hf => ?_)
 refine pl_0 hf rfl rfl (w_store hf hM (us := [vL A181 (y179.Nodes) c182]) (cs' := [vL A181 (y179.Nodes) c182]) rfl rfl (k := 0) rfl rfl Tryz.sizeOf26 rfl rfl rfl fun w192 hM => ?_)
 dsimp only [List.set] at hM
 refine pl_nil ?_
 refine then_n ?_
 refine wp_seq ?_
 refine region_pl ?_
 refine q_ hf rfl rfl rfl (e_loadA hf (us := [vL A165 (y163.Nodes) c166]) rfl ⟨Tryz.isAgg26, Tryz.sizeOf26⟩ rfl (hM.boxSub (k := 1) (us := [vL A165 (y163.Nodes) c166]) (o := 0) rfl rfl)) fun a hf => ?_
 refine q_ hf rfl rfl rfl (e_loadA hf (us := [vL A181 (y179.Nodes) c182]) rfl ⟨Tryz.isAgg26, Tryz.sizeOf26⟩ rfl (hM.boxSub (k := 0) (us := [vL A181 (y179.Nodes) c182]) (o := 0) rfl rfl)) fun a hf => ?_
 obtain ⟨y195, hz196, h⟩ := bind_some h
 refine pl_l hf rfl rfl rfl (w_call hf Tryz.call11 rfl (r_impl_MinusDawg ⟨_, All C _ _, none_, hM.all_lt, none_not, C.G, hM.g_lt, g_none, hM.tabs⟩ y163 _ _ (hM.lendNest (A := A165) (c := c166) (E := 79) (E2 := 2) (ws := ws167) (fun q hq => by simp [hq]) hw168) y179 _ _ (hM.lendNest (A := A181) (c := c182) (E := 79) (E2 := 2) (ws := ws183) (fun q hq => by simp [hq]) hw184) _ hz196) ?_)
 rintro _ w202 ⟨A197, c198, ws199, rfl, hM2, hw200, hv201⟩
 obtain ⟨hM, hx203⟩ := hM.backAL OFlat.nest hM2
 clear hM2
 have hM : Mem C _ (.box b188 [vL A181 (y179.Nodes) c182] 26 :: .box b172 [vL A165 (y163.Nodes) c166] 26 :: .box b59 [vL A52 (y50.1.Nodes) c53] 26 :: .box b13 [vL A6 (aB5.Nodes) c7] 37 :: .box b9 [vL A2 (aA1.Nodes) c3] 37 :: (((nestW A165 c166 79 2 ws167) ++ nestW A181 c182 79 2 ws183) ++ nestW A197 c198 79 2 ws199)) _ := Mem.perm (own := (nestW A197 c198 79 2 ws199) ++ ([.box b188 [vL A181 (y179.Nodes) c182] 26, .box b172 [vL A165 (y163.Nodes) c166] 26, .box b59 [vL A52 (y50.1.Nodes) c53] 26, .box b13 [vL A6 (aB5.Nodes) c7] 37, .box b9 [vL A2 (aA1.Nodes) c3] 37] ++ ((nestW A165 c166 79 2 ws167) ++ nestW A181 c182 79 2 ws183))) (own' := ([] ++ [.box b188 [vL A181 (y179.Nodes) c182] 26, .box b172 [vL A165 (y163.Nodes) c166] 26, .box b59 [vL A52 (y50.1.Nodes) c53] 26, .box b13 [vL A6 (aB5.Nodes) c7] 37, .box b9 [vL A2 (aA1.Nodes) c3] 37]) ++ (((nestW A165 c166 79 2 ws167) ++ nestW A181 c182 79 2 ws183) ++ nestW A197 c198 79 2 ws199)) hM (fun a => by simp only [List.count_append, List.count_nil]; omega)
 refine ⟨_, rfl, fun a hf => ?_⟩
 refine q_ hf rfl rfl rfl (e_move hf rfl) fun a hf => ?_
 iterate 2 refine q_ hf rfl rfl rfl (e_extract hf rfl rfl) fun a hf => ?_
 refine pl_l hf rfl rfl rfl (w_alloc hM (cs := [vL none (([] : (List Node))) 0]) Tryz.zeroValue26 rfl fun b205 w206 hx207 hM a hf => ?_)
 refine pl_0 hf rfl rfl (w_store hf hM (us := [vL A197 (y195.1.Nodes) c198]) (cs' := [vL A197 (y195.1.Nodes) c198]) rfl rfl (k := 0) rfl rfl Tryz.sizeOf26 rfl rfl rfl fun w209 hM => ?_)
 dsimp only [List.set] at hM
 refine q_ hf rfl rfl rfl (e_assign hf rfl) fun a hf => ?_
 refine pl_nil ?_
 refine then_n ?_
 refine wp_seq ?_
 obtain ⟨x214, h215, h⟩ := bind_some h
 refine seq_join (fun a w => ∃ (t212 : Bool), t212 = x214 ∧ Has 119 a [(2, vP b9 (0)), (3, vP b13 (0)), (6, vP b59 (0)), (7, vI (y50.2)), (8, vP b172 (0)), (9, vP b188 (0)), (10, vP b205 (0)), (11, vI (y195.2)), (53, .bool (t212))] ∧ Mem C w (.box b205 [vL A197 (y195.1.Nodes) c198] 26 :: .box b188 [vL A181 (y179.Nodes) c182] 26 :: .box b172 [vL A165 (y163.Nodes) c166] 26 :: .box b59 [vL A52 (y50.1.Nodes) c53] 26 :: .box b13 [vL A6 (aB5.Nodes) c7] 37 :: .box b9 [vL A2 (aA1.Nodes) c3] 37 :: (((nestW A165 c166 79 2 ws167) ++ nestW A181 c182 79 2 ws183) ++ nestW A197 c198 79 2 ws199)) [.dat (sliceRep NodeRep) y50.1.Nodes [vL A52 y50.1.Nodes c53], .dat (sliceRep NodeRep) aB5.Nodes [vL A6 aB5.Nodes c7], .dat (sliceRep NodeRep) aA1.Nodes [vL A2 aA1.Nodes c3]]) ?_ ?_
 ·refine region_pl ?_
  refine q_ hf rfl rfl rfl (e_loadA hf (us := [vL A197 (y195.1.Nodes) c198]) rfl ⟨Tryz.isAgg26, Tryz.sizeOf26⟩ rfl (hM.boxSub (k := 0) (us := [vL A197 (y195.1.Nodes) c198]) (o := 0) rfl rfl)) fun a hf => ?_
  refine q_ hf rfl rfl rfl (e_loadA hf (us := [vL A52 (y50.1.Nodes) c53]) rfl ⟨Tryz.isAgg26, Tryz.sizeOf26⟩ rfl (hM.boxSub (k := 3) (us := [vL A52 (y50.1.Nodes) c53]) (o := 0) rfl rfl)) fun a hf => ?_
  obtain ⟨y216, hz217, h215⟩ := bind_some h215
  refine pl_l hf rfl rfl rfl (w_call hf Tryz.call19 rfl (r_laws_eqDawg ⟨_, All C _ _, none_, hM.all_lt, none_not, C.G, hM.g_lt, g_none, hM.tabs⟩ y195.1 _ _ (hM.lendNest (A := A197) (c := c198) (E := 79) (E2 := 2) (ws := ws199) (fun q hq => by simp [hq]) hw200) y50.1 _ _ (hM.lendDat (k := 0) rfl) _ hz217) ?_)
  rintro _ w218 ⟨rfl, hM2⟩
  obtain ⟨hM, hx219⟩ := hM.backA hM2
  clear hM2
  refine ⟨_, rfl, fun a hf => ?_⟩
  refine q_ hf rfl rfl rfl (e_not hf rfl) fun a hf => ?_
  refine q_ hf rfl rfl rfl (e_move hf rfl) fun a hf => ?_
  rcases cond_some h215 with ⟨hc221, h215⟩ | ⟨hc221, h215⟩
  ·iterate 3 refine pl_gs (wanted_f hf rfl rfl rfl rfl hc221) hf rfl rfl fun a hf => ?_
   refine q_ hf rfl rfl rfl (e_pick_t hf rfl hc221 rfl) fun a hf => ?_
   refine pl_nil ?_
   obtain rfl := some_inj h215
   refine then_n ?_
   exact ⟨true, rfl, hf.keep ⟨rfl, rfl, rfl, rfl, rfl, rfl, rfl, rfl, rfl, trivial⟩, hM.pick [0, 1, 2] rfl⟩
  iterate 2 refine gq (wanted_t hf rfl rfl rfl rfl hc221) hf rfl rfl (e_move hf rfl) fun a hf => ?_
  refine gq (wanted_t hf rfl rfl rfl rfl hc221) hf rfl rfl (e_ne hf (x := y195.2) (y := y50.2) rfl rfl) fun a hf => ?_
  refine q_ hf rfl rfl rfl (e_pick_f hf rfl hc221 rfl) fun a hf => ?_
  refine pl_nil ?_
  obtain rfl := some_inj h215
  refine then_n ?_
  exact ⟨(y195.2 != y50.2), rfl, hf.keep ⟨rfl, rfl, rfl, rfl, rfl, rfl, rfl, rfl, rfl, trivial⟩, hM.pick [0, 1, 2] rfl⟩
 rintro a w224 ⟨t212, rfl, hf, hM⟩
 try dsimp only at h
 rcases cond_some h with ⟨hc225, h⟩ | ⟨hc225, h⟩
 ·refine cond_t hf rfl hc225 ?_
  refine wp_seq ?_
  refine region_pl ?_
  refine q_ hf rfl rfl rfl (e_assign hf rfl) fun a hf => ?_
  refine pl_nil ?_
  refine then_n ?_
  refine wp_ret ?_
  refine then_r ?_
  obtain rfl := some_inj h
  have hM := hM.outs (own' := []) 0 rfl
  exact leave1 hf rfl rfl ⟨rfl, hM.fin⟩
 refine cond_f hf rfl hc225 ?_
 refine wp_skip ?_
 refine then_n ?_
 iterate 2 refine wp_seq ?_
 obtain ⟨w226, hw⟩ : ∃ x, x = w224.drew := ⟨_, rfl⟩
 refine region_pi (.q 0 (.q 1 (.l 2 (.l 3 (.q 4 (.nil)))))) (Ext w226) rfl (by kernel_rfl) ?_
 have hM := hM.drew
 rw [← hw] at hM ⊢
 clear hw
 refine pi_q hf rfl rfl rfl rfl (Ext.refl _) (e_loadA hf (us := [vL A165 (y163.Nodes) c166]) rfl ⟨Tryz.isAgg26, Tryz.sizeOf26⟩ rfl (hM.boxSub (k := 2) (us := [vL A165 (y163.Nodes) c166]) (o := 0) rfl rfl)) fun a hf => ?_
 refine pi_q hf rfl rfl rfl rfl (Ext.refl _) (e_loadA hf (us := [vL A2 (aA1.Nodes) c3]) rfl ⟨Tryz.isAgg37, Tryz.sizeOf37⟩ rfl (hM.boxSub (k := 5) (us := [vL A2 (aA1.Nodes) c3]) (o := 0) rfl rfl)) fun a hf => ?_
 refine pi_one ?_
 obtain ⟨y227, hz228, h⟩ := bind_some h
 refine pi_l hf rfl rfl rfl rfl (w_call hf Tryz.call18 rfl (r_laws_toDawg ⟨_, Sh C _ _, none_, hM.sh_lt, none_not, C.G, hM.g_lt, g_none, hM.tabs⟩ aA1 _ _ (hM.dat (k := 2) rfl) _ hz228) ?_)
 rintro _ w233 ⟨A229, c230, ws231, rfl, hM2, hw232⟩
 obtain ⟨hM, hx234, hup235⟩ := hM.back hM2
 try dsimp only [List.cons_append, List.nil_append] at hM hup235
 clear hM2
 have hM : Mem C _ (.box b205 [vL A197 (y195.1.Nodes) c198] 26 :: .box b188 [vL A181 (y179.Nodes) c182] 26 :: .box b172 [vL A165 (y163.Nodes) c166] 26 :: .box b59 [vL A52 (y50.1.Nodes) c53] 26 :: .box b13 [vL A6 (aB5.Nodes) c7] 37 :: .box b9 [vL A2 (aA1.Nodes) c3] 37 :: ((((nestW A165 c166 79 2 ws167) ++ nestW A181 c182 79 2 ws183) ++ nestW A197 c198 79 2 ws199) ++ nestW A229 c230 79 2 ws231)) _ := Mem.perm (own := (nestW A229 c230 79 2 ws231) ++ ([.box b205 [vL A197 (y195.1.Nodes) c198] 26, .box b188 [vL A181 (y179.Nodes) c182] 26, .box b172 [vL A165 (y163.Nodes) c166] 26, .box b59 [vL A52 (y50.1.Nodes) c53] 26, .box b13 [vL A6 (aB5.Nodes) c7] 37, .box b9 [vL A2 (aA1.Nodes) c3] 37] ++ (((nestW A165 c166 79 2 ws167) ++ nestW A181 c182 79 2 ws183) ++ nestW A197 c198 79 2 ws199))) (own' := ([] ++ [.box b205 [vL A197 (y195.1.Nodes) c198] 26, .box b188 [vL A181 (y179.Nodes) c182] 26, .box b172 [vL A165 (y163.Nodes) c166] 26, .box b59 [vL A52 (y50.1.Nodes) c53] 26, .box b13 [vL A6 (aB5.Nodes) c7] 37, .box b9 [vL A2 (aA1.Nodes) c3] 37]) ++ ((((nestW A165 c166 79 2 ws167) ++ nestW A181 c182 79 2 ws183) ++ nestW A197 c198 79 2 ws199) ++ nestW A229 c230 79 2 ws231)) hM (fun a => by simp only [List.count_append, List.count_nil]; omega)
 refine ⟨_, rfl, Ext w233, fun _ h => Ext.trans hx234 h, Ext.refl _, fun a hf => ?_⟩
 refine pi_one ?_
 obtain ⟨y236, hz237, h⟩ := bind_some h
 refine pi_l hf rfl rfl rfl rfl (w_call hf Tryz.call19 rfl (r_laws_eqDawg ⟨_, All C _ _, none_, hM.all_lt, none_not, C.G, hM.g_lt, g_none, hM.tabs⟩ y163 _ _ (hM.lendNest (A := A165) (c := c166) (E := 79) (E2 := 2) (ws := ws167) (fun q hq => by simp [hq]) hw168) y227 _ _ (hM.lendNest (A := A229) (c := c230) (E := 79) (E2 := 2) (ws := ws231) (fun q hq => by simp [hq]) hw232) _ hz237) ?_)
 rintro _ w238 ⟨rfl, hM2⟩
 obtain ⟨hM, hx239⟩ := hM.backA hM2
 clear hM2
 refine ⟨_, rfl, Ext w238, fun _ h => Ext.trans hx239 h, Ext.refl _, fun a hf => ?_⟩
 refine pi_q hf rfl rfl rfl rfl (Ext.refl _) (e_not hf rfl) fun a hf => ?_
 refine pi_nil ?_
 refine then_n ?_
 rcases cond_some h with ⟨hc241, h⟩ | ⟨hc241, h⟩
 ·refine cond_t hf rfl hc241 ?_
  refine wp_seq ?_
  refine region_pl ?_
  refine q_ hf rfl rfl rfl (e_assign hf rfl) fun a hf => ?_
  refine pl_nil ?_
  refine then_n ?_
  refine wp_ret ?_
  refine then_r ?_
  obtain rfl := some_inj h
  have hM := hM.outs (own' := []) 0 rfl
  exact leave1 hf rfl rfl ⟨rfl, hM.fin⟩
 refine cond_f hf rfl hc241 ?_
 refine wp_skip ?_
 refine then_n ?_
 iterate 2 refine wp_seq ?_
 obtain ⟨w242, hw⟩ : ∃ x, x = w238.drew := ⟨_, rfl⟩
 refine region_pi (.q 0 (.q 1 (.l 2 (.l 3 (.q 4 (.nil)))))) (Ext w242) rfl (by kernel_rfl) ?_
 have hM := hM.drew
 rw [← hw] at hM ⊢
 clear hw
 refine pi_q hf rfl rfl rfl rfl (Ext.refl _) (e_loadA hf (us := [vL A181 (y179.Nodes) c182]) rfl ⟨Tryz.isAgg26, Tryz.sizeOf26⟩ rfl (hM.boxSub (k := 1) (us := [vL A181 (y179.Nodes) c182]) (o := 0) rfl rfl)) fun a hf => ?_
 refine pi_q hf rfl rfl rfl rfl (Ext.refl _) (e_loadA hf (us := [vL A6 (aB5.Nodes) c7]) rfl ⟨Tryz.isAgg37, Tryz.sizeOf37⟩ rfl (hM.boxSub (k := 4) (us := [vL A6 (aB5.Nodes) c7]) (o := 0) rfl rfl)) fun a hf => ?_
 refine pi_one ?_
 obtain ⟨y243, hz244, h⟩ := bind_some h
 refine pi_l hf rfl rfl rfl rfl (w_call hf Tryz.call18 rfl (r_laws_toDawg ⟨_, Sh C _ _, none_, hM.sh_lt, none_not, C.G, hM.g_lt, g_none, hM.tabs⟩ aB5 _ _ (hM.dat (k := 1) rfl) _ hz244) ?_)
 rintro _ w249 ⟨A245, c246, ws247, rfl, hM2, hw248⟩
 obtain ⟨hM, hx250, hup251⟩ := hM.back hM2
 try dsimp only [List.cons_append, List.nil_append] at hM hup251
 clear hM2
 have hM : Mem C _ (.box b205 [vL A197 (y195.1.Nodes) c198] 26 :: .box b188 [vL A181 (y179.Nodes) c182] 26 :: .box b172 [vL A165 (y163.Nodes) c166] 26 :: .box b59 [vL A52 (y50.1.Nodes) c53] 26 :: .box b13 [vL A6 (aB5.Nodes) c7] 37 :: .box b9 [vL A2 (aA1.Nodes) c3] 37 :: (((((nestW A165 c166 79 2 ws167) ++ nestW A181 c182 79 2 ws183) ++ nestW A197 c198 79 2 ws199) ++ nestW A229 c230 79 2 ws231) ++ nestW A245 c246 79 2 ws247)) _ := Mem.perm (own := (nestW A245 c246 79 2 ws247) ++ ([.box b205 [vL A197 (y195.1.Nodes) c198] 26, .box b188 [vL A181 (y179.Nodes) c182] 26, .box b172 [vL A165 (y163.Nodes) c166] 26, .box b59 [vL A52 (y50.1.Nodes) c53] 26, .box b13 [vL A6 (aB5.Nodes) c7] 37, .box b9 [vL A2 (aA1.Nodes) c3] 37] ++ ((((nestW A165 c166 79 2 ws167) ++ nestW A181 c182 79 2 ws183) ++ nestW A197 c198 79 2 ws199) ++ nestW A229 c230 79 2 ws231))) (own' := ([] ++ [.box b205 [vL A197 (y195.1.Nodes) c198] 26, .box b188 [vL A181 (y179.Nodes) c182] 26, .box b172 [vL A165 (y163.Nodes) c166] 26, .box b59 [vL A52 (y50.1.Nodes) c53] 26, .box b13 [vL A6 (aB5.Nodes) c7] 37, .box b9 [vL A2 (aA1.Nodes) c3] 37]) ++ (((((nestW A165 c166 79 2 ws167) ++ nestW A181 c182 79 2 ws183) ++ nestW A197 c198 79 2 ws199) ++ nestW A229 c230 79 2 ws231) ++ nestW A245 c246 79 2 ws247)) hM (fun a => by simp only [List.count_append, List.count_nil]; omega)
 refine ⟨_, rfl, Ext w249, fun _ h => Ext.trans hx250 h, Ext.refl _, fun a hf => ?_⟩
 refine pi_one ?_
 obtain ⟨y252, hz253, h⟩ := bind_some h
 refine pi_l hf rfl rfl rfl rfl (w_call hf Tryz.call19 rfl (r_laws_eqDawg ⟨_, All C _ _, none_, hM.all_lt, none_not, C.G, hM.g_lt, g_none, hM.tabs⟩ y179 _ _ (hM.lendNest (A := A181) (c := c182) (E := 79) (E2 := 2) (ws := ws183) (fun q hq => by simp [hq]) hw184) y243 _ _ (hM.lendNest (A := A245) (c := c246) (E := 79) (E2 := 2) (ws := ws247) (fun q hq => by simp [hq]) hw248) _ hz253) ?_)
 rintro _ w254 ⟨rfl, hM2⟩
 obtain ⟨hM, hx255⟩ := hM.backA hM2
 clear hM2
 refine ⟨_, rfl, Ext w254, fun _ h => Ext.trans hx255 h, Ext.refl _, fun a hf => ?_⟩
 refine pi_q hf rfl rfl rfl rfl (Ext.refl _) (e_not hf rfl) fun a hf => ?_
 refine pi_nil ?_
 refine then_n ?_
 rcases cond_some h with ⟨hc257, h⟩ | ⟨hc257, h⟩
 ·refine cond_t hf rfl hc257 ?_
  refine wp_seq ?_
  refine region_pl ?_
  refine q_ hf rfl rfl rfl (e_assign hf rfl) fun a hf => ?_
  refine pl_nil ?_
  refine then_n ?_
  refine wp_ret ?_
  refine then_r ?_
  obtain rfl := some_inj h
  have hM := hM.outs (own' := []) 0 rfl
  exact leave1 hf rfl rfl ⟨rfl, hM.fin⟩
 refine cond_f hf rfl hc257 ?_
 refine wp_skip ?_
 refine then_n ?_
 refine wp_seq ?_
 refine region_pl ?_
 refine q_ hf rfl rfl rfl (e_assign hf rfl) fun a hf => ?_
 refine pl_nil ?_
 refine then_n ?_
 refine wp_seq ?_
 refine region_pl ?_
 refine q_ hf rfl rfl rfl (e_loadA hf (us := [vL A165 (y163.Nodes) c166]) rfl ⟨Tryz.isAgg26, Tryz.sizeOf26⟩ rfl (hM.boxSub (k := 2) (us := [vL A165 (y163.Nodes) c166]) (o := 0) rfl rfl)) fun a hf => ?_
 refine q_ hf rfl rfl rfl (e_move hf rfl) fun a hf => ?_
 have hM : Mem C _ ((nestW A165 c166 79 2 ws167) ++ ([.box b205 [vL A197 (y195.1.Nodes) c198] 26, .box b188 [vL A181 (y179.Nodes) c182] 26, .box b172 [vL A165 (y163.Nodes) c166] 26, .box b59 [vL A52 (y50.1.Nodes) c53] 26, .box b13 [vL A6 (aB5.Nodes) c7] 37, .box b9 [vL A2 (aA1.Nodes) c3] 37] ++ ((((nestW A181 c182 79 2 ws183) ++ nestW A197 c198 79 2 ws199) ++ nestW A229 c230 79 2 ws231) ++ nestW A245 c246 79 2 ws247))) _ := Mem.perm (own := ([.box b205 [vL A197 (y195.1.Nodes) c198] 26, .box b188 [vL A181 (y179.Nodes) c182] 26, .box b172 [vL A165 (y163.Nodes) c166] 26, .box b59 [vL A52 (y50.1.Nodes) c53] 26, .box b13 [vL A6 (aB5.Nodes) c7] 37, .box b9 [vL A2 (aA1.Nodes) c3] 37] ++ (((((nestW A165 c166 79 2 ws167) ++ nestW A181 c182 79 2 ws183) ++ nestW A197 c198 79 2 ws199) ++ nestW A229 c230 79 2 ws231) ++ nestW A245 c246 79 2 ws247))) hM (fun a => by simp only [List.count_append, List.count_nil]; omega)
 obtain ⟨y258, hz259, h⟩ := bind_some h
 refine pl_l hf rfl rfl rfl (w_call hf Tryz.call20 rfl (r_laws_markDawg ⟨_, Sh C _ _, ownB _, hM.sh_lt, sub_dis, C.G, hM.g_lt, hM.g_own, hM.tabs⟩ y163 _ _ _ hw168 1 (R64_lit rfl) hM.sub sub_dis _ hz259) ?_)
 rintro _ w264 ⟨ws260, rfl, hM2, hw261, hl262, hv263⟩
 obtain ⟨hM, hup266⟩ := hM.backG hM2
 try dsimp only [List.cons_append, List.nil_append] at hM hup266
 clear hM2
 have hM : Mem C _ (.box b205 [vL A197 (y195.1.Nodes) c198] 26 :: .box b188 [vL A181 (y179.Nodes) c182] 26 :: .box b172 [vL A165 (y163.Nodes) c166] 26 :: .box b59 [vL A52 (y50.1.Nodes) c53] 26 :: .box b13 [vL A6 (aB5.Nodes) c7] 37 :: .box b9 [vL A2 (aA1.Nodes) c3] 37 :: (((((nestW A181 c182 79 2 ws183) ++ nestW A197 c198 79 2 ws199) ++ nestW A229 c230 79 2 ws231) ++ nestW A245 c246 79 2 ws247) ++ nestW A165 c166 79 2 ws260)) _ := Mem.perm (own := (nestW A165 c166 79 2 ws260) ++ ([.box b205 [vL A197 (y195.1.Nodes) c198] 26, .box b188 [vL A181 (y179.Nodes) c182] 26, .box b172 [vL A165 (y163.Nodes) c166] 26, .box b59 [vL A52 (y50.1.Nodes) c53] 26, .box b13 [vL A6 (aB5.Nodes) c7] 37, .box b9 [vL A2 (aA1.Nodes) c3] 37] ++ ((((nestW A181 c182 79 2 ws183) ++ nestW A197 c198 79 2 ws199) ++ nestW A229 c230 79 2 ws231) ++ nestW A245 c246 79 2 ws247))) (own' := ([] ++ [.box b205 [vL A197 (y195.1.Nodes) c198] 26, .box b188 [vL A181 (y179.Nodes) c182] 26, .box b172 [vL A165 (y163.Nodes) c166] 26, .box b59 [vL A52 (y50.1.Nodes) c53] 26, .box b13 [vL A6 (aB5.Nodes) c7] 37, .box b9 [vL A2 (aA1.Nodes) c3] 37]) ++ (((((nestW A181 c182 79 2 ws183) ++ nestW A197 c198 79 2 ws199) ++ nestW A229 c230 79 2 ws231) ++ nestW A245 c246 79 2 ws247) ++ nestW A165 c166 79 2 ws260)) hM (fun a => by simp only [List.count_append, List.count_nil]; omega)
 refine ⟨_, rfl, fun a hf => ?_⟩
 have hf := hf.alter (d := 54) (v := .agg #[vL A165 (y258.2) c166]) rfl (by rw [vL_len (A := A165) (c := c166) hl262])
 have hf := hf.alter (d := 64) (v := .agg #[vL A165 (y258.2) c166]) rfl (by rw [vL_len (A := A165) (c := c166) hl262])
 rw [vL_len (A := A165) (c := c166) hl262] at hM
 refine q_ hf rfl rfl rfl (e_assign hf rfl) fun a hf => ?_
 refine pl_nil ?_
 refine then_n ?_
 refine wp_seq ?_
 refine region_pl ?_
 refine q_ hf rfl rfl rfl (e_loadA hf (us := [vL A181 (y179.Nodes) c182]) rfl ⟨Tryz.isAgg26, Tryz.sizeOf26⟩ rfl (hM.boxSub (k := 1) (us := [vL A181 (y179.Nodes) c182]) (o := 0) rfl rfl)) fun a hf => ?_
 refine q_ hf rfl rfl rfl (e_move hf rfl) fun a hf => ?_
 have hM : Mem C _ ((nestW A181 c182 79 2 ws183) ++ ([.box b205 [vL A197 (y195.1.Nodes) c198] 26, .box b188 [vL A181 (y179.Nodes) c182] 26, .box b172 [vL A165 (y258.2) c166] 26, .box b59 [vL A52 (y50.1.Nodes) c53] 26, .box b13 [vL A6 (aB5.Nodes) c7] 37, .box b9 [vL A2 (aA1.Nodes) c3] 37] ++ ((((nestW A197 c198 79 2 ws199) ++ nestW A229 c230 79 2 ws231) ++ nestW A245 c246 79 2 ws247) ++ nestW A165 c166 79 2 ws260))) _ := Mem.perm (own := ([.box b205 [vL A197 (y195.1.Nodes) c198] 26, .box b188 [vL A181 (y179.Nodes) c182] 26, .box b172 [vL A165 (y258.2) c166] 26, .box b59 [vL A52 (y50.1.Nodes) c53] 26, .box b13 [vL A6 (aB5.Nodes) c7] 37, .box b9 [vL A2 (aA1.Nodes) c3] 37] ++ (((((nestW A181 c182 79 2 ws183) ++ nestW A197 c198 79 2 ws199) ++ nestW A229 c230 79 2 ws231) ++ nestW A245 c246 79 2 ws247) ++ nestW A165 c166 79 2 ws260))) hM (fun a => by simp only [List.count_append, List.count_nil]; omega)
 obtain ⟨y267, hz268, h⟩ := bind_some h
 refine pl_l hf rfl rfl rfl (w_call hf Tryz.call20 rfl (r_laws_markDawg ⟨_, Sh C _ _, ownB _, hM.sh_lt, sub_dis, C.G, hM.g_lt, hM.g_own, hM.tabs⟩ y179 _ _ _ hw184 y258.1 hv263 hM.sub sub_dis _ hz268) ?_)
 rintro _ w273 ⟨ws269, rfl, hM2, hw270, hl271, hv272⟩
 obtain ⟨hM, hup275⟩ := hM.backG hM2
 try dsimp only [List.cons_append, List.nil_append] at hM hup275
 clear hM2
 have hM : Mem C _ (.box b205 [vL A197 (y195.1.Nodes) c198] 26 :: .box b188 [vL A181 (y179.Nodes) c182] 26 :: .box b172 [vL A165 (y258.2) c166] 26 :: .box b59 [vL A52 (y50.1.Nodes) c53] 26 :: .box b13 [vL A6 (aB5.Nodes) c7] 37 :: .box b9 [vL A2 (aA1.Nodes) c3] 37 :: (((((nestW A197 c198 79 2 ws199) ++ nestW A229 c230 79 2 ws231) ++ nestW A245 c246 79 2 ws247) ++ nestW A165 c166 79 2 ws260) ++ nestW A181 c182 79 2 ws269)) _ := Mem.perm (own := (nestW A181 c182 79 2 ws269) ++ ([.box b205 [vL A197 (y195.1.Nodes) c198] 26, .box b188 [vL A181 (y179.Nodes) c182] 26, .box b172 [vL A165 (y258.2) c166] 26, .box b59 [vL A52 (y50.1.Nodes) c53] 26, .box b13 [vL A6 (aB5.Nodes) c7] 37, .box b9 [vL A2 (aA1.Nodes) c3] 37] ++ ((((nestW A197 c198 79 2 ws199) ++ nestW A229 c230 79 2 ws231) ++ nestW A245 c246 79 2 ws247) ++ nestW A165 c166 79 2 ws260))) (own' := ([] ++ [.box b205 [vL A197 (y195.1.Nodes) c198] 26, .box b188 [vL A181 (y179.Nodes) c182] 26, .box b172 [vL A165 (y258.2) c166] 26, .box b59 [vL A52 (y50.1.Nodes) c53] 26, .box b13 [vL A6 (aB5.Nodes) c7] 37, .box b9 [vL A2 (aA1.Nodes) c3] 37]) ++ (((((nestW A197 c198 79 2 ws199) ++ nestW A229 c230 79 2 ws231) ++ nestW A245 c246 79 2 ws247) ++ nestW A165 c166 79 2 ws260) ++ nestW A181 c182 79 2 ws269)) hM (fun a => by simp only [List.count_append, List.count_nil]; omega)
 refine ⟨_, rfl, fun a hf => ?_⟩
 have hf := hf.alter (d := 59) (v := .agg #[vL A181 (y267.2) c182]) rfl (by rw [vL_len (A := A181) (c := c182) hl271])
 have hf := hf.alter (d := 67) (v := .agg #[vL A181 (y267.2) c182]) rfl (by rw [vL_len (A := A181) (c := c182) hl271])
 rw [vL_len (A := A181) (c := c182) hl271] at hM
 refine q_ hf rfl rfl rfl (e_assign hf rfl) fun a hf => ?_
 refine pl_nil ?_
 refine then_n ?_
 refine wp_seq ?_
 obtain ⟨x278, h279, h⟩ := bind_some h
 refine seq_join (fun a w => ∃ (t276 : Bool), t276 = x278 ∧ Has 119 a [(2, vP b9 (0)), (3, vP b13 (0)), (6, vP b59 (0)), (7, vI (y50.2)), (10, vP b205 (0)), (82, .bool (t276))] ∧ Mem C w (.box b205 [vL A197 (y195.1.Nodes) c198] 26 :: .box b188 [vL A181 (y267.2) c182] 26 :: .box b172 [vL A165 (y258.2) c166] 26 :: .box b59 [vL A52 (y50.1.Nodes) c53] 26 :: .box b13 [vL A6 (aB5.Nodes) c7] 37 :: .box b9 [vL A2 (aA1.Nodes) c3] 37 :: (((((nestW A197 c198 79 2 ws199) ++ nestW A229 c230 79 2 ws231) ++ nestW A245 c246 79 2 ws247) ++ nestW A165 c166 79 2 ws260) ++ nestW A181 c182 79 2 ws269)) [.dat (sliceRep NodeRep) y50.1.Nodes [vL A52 y50.1.Nodes c53], .dat (sliceRep NodeRep) aB5.Nodes [vL A6 aB5.Nodes c7], .dat (sliceRep NodeRep) aA1.Nodes [vL A2 aA1.Nodes c3]]) ?_ ?_
 ·refine region_pl ?_
  refine q_ hf rfl rfl rfl (e_move hf rfl) fun a hf => ?_
  refine q_ hf rfl rfl rfl (e_lt hf (x := y267.1) (y := 0) rfl rfl) fun a hf => ?_
  refine q_ hf rfl rfl rfl (e_move hf rfl) fun a hf => ?_
  rcases cond_some h279 with ⟨hc280, h279⟩ | ⟨hc280, h279⟩
  ·iterate 4 refine pl_gs (wanted_f hf rfl rfl rfl rfl hc280) hf rfl rfl fun a hf => ?_
   refine q_ hf rfl rfl rfl (e_pick_t hf rfl hc280 rfl) fun a hf => ?_
   refine q_ hf rfl rfl rfl (e_move hf rfl) fun a hf => ?_
   iterate 3 refine pl_gs (wanted_f hf rfl rfl rfl rfl rfl) hf rfl rfl fun a hf => ?_
   refine q_ hf rfl rfl rfl (e_pick_t hf rfl rfl rfl) fun a hf => ?_
   refine pl_nil ?_
   obtain rfl := some_inj h279
   refine then_n ?_
   exact ⟨true, rfl, hf.keep ⟨rfl, rfl, rfl, rfl, rfl, rfl, trivial⟩, hM.pick [0, 1, 2] rfl⟩
  refine gq (wanted_t hf rfl rfl rfl rfl hc280) hf rfl rfl (e_loadA hf (us := [vL A197 (y195.1.Nodes) c198]) rfl ⟨Tryz.isAgg26, Tryz.sizeOf26⟩ rfl (hM.boxSub (k := 0) (us := [vL A197 (y195.1.Nodes) c198]) (o := 0) rfl rfl)) fun a hf => ?_
  refine gq (wanted_t hf rfl rfl rfl rfl hc280) hf rfl rfl (e_loadA hf (us := [vL A52 (y50.1.Nodes) c53]) rfl ⟨Tryz.isAgg26, Tryz.sizeOf26⟩ rfl (hM.boxSub (k := 3) (us := [vL A52 (y50.1.Nodes) c53]) (o := 0) rfl rfl)) fun a hf => ?_
  obtain ⟨y282, hz283, h279⟩ := bind_some h279
  refine pl_gl (wanted_t hf rfl rfl rfl rfl hc280) hf rfl rfl (w_call hf Tryz.call19 rfl (r_laws_eqDawg ⟨_, All C _ _, none_, hM.all_lt, none_not, C.G, hM.g_lt, g_none, hM.tabs⟩ y195.1 _ _ (hM.lendNest (A := A197) (c := c198) (E := 79) (E2 := 2) (ws := ws199) (fun q hq => by simp [hq]) hw200) y50.1 _ _ (hM.lendDat (k := 0) rfl) _ hz283) ?_)
  rintro _ w284 ⟨rfl, hM2⟩
  obtain ⟨hM, hx285⟩ := hM.backA hM2
  clear hM2
  refine ⟨_, rfl, fun a hf => ?_⟩
  refine gq (wanted_t hf rfl rfl rfl rfl hc280) hf rfl rfl (e_not hf rfl) fun a hf => ?_
  refine q_ hf rfl rfl rfl (e_pick_f hf rfl hc280 rfl) fun a hf => ?_
  refine q_ hf rfl rfl rfl (e_move hf rfl) fun a hf => ?_
  rcases cond_some h279 with ⟨hc287, h279⟩ | ⟨hc287, h279⟩
  ·iterate 3 refine pl_gs (wanted_f hf rfl rfl rfl rfl hc287) hf rfl rfl fun a hf => ?_
   refine q_ hf rfl rfl rfl (e_pick_t hf rfl hc287 rfl) fun a hf => ?_
   refine pl_nil ?_
   obtain rfl := some_inj h279
   refine then_n ?_
   exact ⟨true, rfl, hf.keep ⟨rfl, rfl, rfl, rfl, rfl, rfl, trivial⟩, hM.pick [0, 1, 2] rfl⟩
  iterate 2 refine gq (wanted_t hf rfl rfl rfl rfl hc287) hf rfl rfl (e_move hf rfl) fun a hf => ?_
  refine gq (wanted_t hf rfl rfl rfl rfl hc287) hf rfl rfl (e_ne hf (x := y195.2) (y := y50.2) rfl rfl) fun a hf => ?_
  refine q_ hf rfl rfl rfl (e_pick_f hf rfl hc287 rfl) fun a hf => ?_
  refine pl_nil ?_
  obtain rfl := some_inj h279
  refine then_n ?_
  exact ⟨(y195.2 != y50.2), rfl, hf.keep ⟨rfl, rfl, rfl, rfl, rfl, rfl, trivial⟩, hM.pick [0, 1, 2] rfl⟩
 rintro a w290 ⟨t276, rfl, hf, hM⟩
 try dsimp only at h
 rcases cond_some h with ⟨hc291, h⟩ | ⟨hc291, h⟩
 ·refine cond_t hf rfl hc291 ?_
  refine wp_seq ?_
  refine region_pl ?_
  refine q_ hf rfl rfl rfl (e_assign hf rfl) fun a hf => ?_
  refine pl_nil ?_
  refine then_n ?_
  refine wp_ret ?_
  refine then_r ?_
  obtain rfl := some_inj h
  have hM := hM.outs (own' := []) 0 rfl
  exact leave1 hf rfl rfl ⟨rfl, hM.fin⟩
 refine cond_f hf rfl hc291 ?_
 refine wp_skip ?_
 refine then_n ?_
 refine wp_seq ?_
 refine region_pl ?_
 refine q_ hf rfl rfl rfl (e_assign hf rfl) fun a hf => ?_
 refine pl_nil ?_
 refine then_n ?_
 refine wp_seq ?_
 refine region_pl ?_
 refine q_ hf rfl rfl rfl (e_loadA hf (us := [vL A197 (y195.1.Nodes) c198]) rfl ⟨Tryz.isAgg26, Tryz.sizeOf26⟩ rfl (hM.boxSub (k := 0) (us := [vL A197 (y195.1.Nodes) c198]) (o := 0) rfl rfl)) fun a hf => ?_
 refine q_ hf rfl rfl rfl (e_move hf rfl) fun a hf => ?_
 have hM : Mem C _ ((nestW A197 c198 79 2 ws199) ++ ([.box b205 [vL A197 (y195.1.Nodes) c198] 26, .box b188 [vL A181 (y267.2) c182] 26, .box b172 [vL A165 (y258.2) c166] 26, .box b59 [vL A52 (y50.1.Nodes) c53] 26, .box b13 [vL A6 (aB5.Nodes) c7] 37, .box b9 [vL A2 (aA1.Nodes) c3] 37] ++ ((((nestW A229 c230 79 2 ws231) ++ nestW A245 c246 79 2 ws247) ++ nestW A165 c166 79 2 ws260) ++ nestW A181 c182 79 2 ws269))) _ := Mem.perm (own := ([.box b205 [vL A197 (y195.1.Nodes) c198] 26, .box b188 [vL A181 (y267.2) c182] 26, .box b172 [vL A165 (y258.2) c166] 26, .box b59 [vL A52 (y50.1.Nodes) c53] 26, .box b13 [vL A6 (aB5.Nodes) c7] 37, .box b9 [vL A2 (aA1.Nodes) c3] 37] ++ (((((nestW A197 c198 79 2 ws199) ++ nestW A229 c230 79 2 ws231) ++ nestW A245 c246 79 2 ws247) ++ nestW A165 c166 79 2 ws260) ++ nestW A181 c182 79 2 ws269))) hM (fun a => by simp only [List.count_append, List.count_nil]; omega)
 obtain ⟨y292, hz293, h⟩ := bind_some h
 refine pl_l hf rfl rfl rfl (w_call hf Tryz.call20 rfl (r_laws_markDawg ⟨_, Sh C _ _, ownB _, hM.sh_lt, sub_dis, C.G, hM.g_lt, hM.g_own, hM.tabs⟩ y195.1 _ _ _ hw200 1 (R64_lit rfl) hM.sub sub_dis _ hz293) ?_)
 rintro _ w298 ⟨ws294, rfl, hM2, hw295, hl296, hv297⟩
 obtain ⟨hM, hup300⟩ := hM.backG hM2
 try dsimp only [List.cons_append, List.nil_append] at hM hup300
 clear hM2
 have hM : Mem C _ (.box b205 [vL A197 (y195.1.Nodes) c198] 26 :: .box b188 [vL A181 (y267.2) c182] 26 :: .box b172 [vL A165 (y258.2) c166] 26 :: .box b59 [vL A52 (y50.1.Nodes) c53] 26 :: .box b13 [vL A6 (aB5.Nodes) c7] 37 :: .box b9 [vL A2 (aA1.Nodes) c3] 37 :: (((((nestW A229 c230 79 2 ws231) ++ nestW A245 c246 79 2 ws247) ++ nestW A165 c166 79 2 ws260) ++ nestW A181 c182 79 2 ws269) ++ nestW A197 c198 79 2 ws294)) _ := Mem.perm (own := (nestW A197 c198 79 2 ws294) ++ ([.box b205 [vL A197 (y195.1.Nodes) c198] 26, .box b188 [vL A181 (y267.2) c182] 26, .box b172 [vL A165 (y258.2) c166] 26, .box b59 [vL A52 (y50.1.Nodes) c53] 26, .box b13 [vL A6 (aB5.Nodes) c7] 37, .box b9 [vL A2 (aA1.Nodes) c3] 37] ++ ((((nestW A229 c230 79 2 ws231) ++ nestW A245 c246 79 2 ws247) ++ nestW A165 c166 79 2 ws260) ++ nestW A181 c182 79 2 ws269))) (own' := ([] ++ [.box b205 [vL A197 (y195.1.Nodes) c198] 26, .box b188 [vL A181 (y267.2) c182] 26, .box b172 [vL A165 (y258.2) c166] 26, .box b59 [vL A52 (y50.1.Nodes) c53] 26, .box b13 [vL A6 (aB5.Nodes) c7] 37, .box b9 [vL A2 (aA1.Nodes) c3] 37]) ++ (((((nestW A229 c230 79 2 ws231) ++ nestW A245 c246 79 2 ws247) ++ nestW A165 c166 79 2 ws260) ++ nestW A181 c182 79 2 ws269) ++ nestW A197 c198 79 2 ws294)) hM (fun a => by simp only [List.count_append, List.count_nil]; omega)
 refine ⟨_, rfl, fun a hf => ?_⟩
 have hf := hf.alter (d := 83) (v := .agg #[vL A197 (y292.2) c198]) rfl (by rw [vL_len (A := A197) (c := c198) hl296])
 rw [vL_len (A := A197) (c := c198) hl296] at hM
 refine q_ hf rfl rfl rfl (e_assign hf rfl) fun a hf => ?_
 refine pl_nil ?_
 refine then_n ?_
 refine wp_seq ?_
 refine region_pl ?_
 refine q_ hf rfl rfl rfl (e_assign hf rfl) fun a hf => ?_
 refine pl_nil ?_
 refine then_n ?_
 refine wp_seq ?_
 refine region_pl ?_
 refine q_ hf rfl rfl rfl (e_loadA hf (us := [vL A197 (y292.2) c198]) rfl ⟨Tryz.isAgg26, Tryz.sizeOf26⟩ rfl (hM.boxSub (k := 0) (us := [vL A197 (y292.2) c198]) (o := 0) rfl rfl)) fun a hf => ?_
 refine q_ hf rfl rfl rfl (e_move hf rfl) fun a hf => ?_
 obtain ⟨y301, hz302, h⟩ := bind_some h
 refine pl_l hf rfl rfl rfl (w_call hf Tryz.call21 rfl (r_laws_heldDawg ⟨_, All C _ _, none_, hM.all_lt, none_not, C.G, hM.g_lt, g_none, hM.tabs⟩ (⟨y292.2⟩ : Dawg) _ _ (hM.lendNest (A := A197) (c := c198) (E := 79) (E2 := 2) (ws := ws294) (fun q hq => by simp [hq]) hw295) 1 (R64_lit rfl) _ hz302) ?_)
 rintro _ w304 ⟨rfl, hM2, hv303⟩
 obtain ⟨hM, hx305⟩ := hM.backA hM2
 clear hM2
 refine ⟨_, rfl, fun a hf => ?_⟩
 refine q_ hf rfl rfl rfl (e_assign hf rfl) fun a hf => ?_
 refine pl_nil ?_
 refine then_n ?_
 iterate 2 refine wp_seq ?_
 refine region_pl ?_
 refine q_ hf rfl rfl rfl (e_move hf rfl) fun a hf => ?_
 refine q_ hf rfl rfl rfl (e_lt hf (x := y301) (y := 0) rfl rfl) fun a hf => ?_
 refine pl_nil ?_
 refine then_n ?_
 rcases cond_some h with ⟨hc307, h⟩ | ⟨hc307, h⟩
 ·refine cond_t hf rfl hc307 ?_
  refine wp_seq ?_
  refine region_pl ?_
  refine q_ hf rfl rfl rfl (e_assign hf rfl) fun a hf => ?_
  refine pl_nil ?_
  refine then_n ?_
  refine wp_ret ?_
  refine then_r ?_
  obtain rfl := some_inj h
  have hM := hM.outs (own' := []) 0 rfl
  exact leave1 hf rfl rfl ⟨rfl, hM.fin⟩
 refine cond_f hf rfl hc307 ?_
 refine wp_skip ?_
 refine then_n ?_
 iterate 2 refine wp_seq ?_
 refine region_pl ?_
 iterate 2 refine q_ hf rfl rfl rfl (e_move hf rfl) fun a hf => ?_
 refine q_ hf rfl rfl rfl (e_ne hf (x := y301) (y := y292.1) rfl rfl) fun a hf => ?_
 refine pl_nil ?_
 refine then_n ?_
 rcases cond_some h with ⟨hc308, h⟩ | ⟨hc308, h⟩
 ·refine cond_t hf rfl hc308 ?_
  refine wp_seq ?_
  refine region_pl ?_
  refine q_ hf rfl rfl rfl (e_assign hf rfl) fun a hf => ?_
  refine pl_nil ?_
  refine then_n ?_
  refine wp_ret ?_
  refine then_r ?_
  obtain rfl := some_inj h
  have hM := hM.outs (own' := []) 0 rfl
  exact leave1 hf rfl rfl ⟨rfl, hM.fin⟩
 refine cond_f hf rfl hc308 ?_
 refine wp_skip ?_
 refine then_n ?_
 obtain ⟨y310, hz311, h⟩ := bind_some h
 obtain ⟨y319, hz320, h⟩ := bind_some h
 obtain ⟨y328, hz329, h⟩ := bind_some h
 refine seq_join (fun a w => ∃ (A312 : Option Addr) (A321 : Option Addr) (A330 : Option Addr) (b338 : Nat) (c313 : Nat) (c322 : Nat) (c331 : Nat) (ws314 : List NodeW) (ws323 : List NodeW) (ws332 : List NodeW), Has 119 a [(6, vP b59 (0)), (7, vI (y50.2)), (10, vP b205 (0)), (13, vI (y292.1)), (15, vP b338 (0)), (16, vI (y328.2))] ∧ Mem C w (.box b338 [vL A330 (y328.1.Nodes) c331] 26 :: .box b205 [vL A197 (y292.2) c198] 26 :: .box b188 [vL A181 (y267.2) c182] 26 :: .box b172 [vL A165 (y258.2) c166] 26 :: .box b59 [vL A52 (y50.1.Nodes) c53] 26 :: .box b13 [vL A6 (aB5.Nodes) c7] 37 :: .box b9 [vL A2 (aA1.Nodes) c3] 37 :: ((((((((nestW A229 c230 79 2 ws231) ++ nestW A245 c246 79 2 ws247) ++ nestW A165 c166 79 2 ws260) ++ nestW A181 c182 79 2 ws269) ++ nestW A197 c198 79 2 ws294) ++ nestW A312 c313 79 2 ws314) ++ nestW A321 c322 79 2 ws323) ++ nestW A330 c331 79 2 ws332)) [.dat (sliceRep NodeRep) y50.1.Nodes [vL A52 y50.1.Nodes c53], .dat (sliceRep NodeRep) aB5.Nodes [vL A6 aB5.Nodes c7], .dat (sliceRep NodeRep) aA1.Nodes [vL A2 aA1.Nodes c3]] ∧ R64 (y328.2) ∧ ws314.map NodeW.to = y310.Nodes ∧ ws323.map NodeW.to = y319.Nodes ∧ ws332.map NodeW.to = y328.1.Nodes) ?_ ?_
 ·obtain ⟨w309, hw⟩ : ∃ x, x = w304.drew := ⟨_, rfl⟩
  refine region_pi (.q 0 (.q 2 (.b 1 8 (.b 3 8 (.b 4 8 (.q 5 (.q 6 (.q 7 (.l 8 (.l 9 (.q 10 (.nil))))))) (.l 4 (.q 5 (.q 6 (.q 7 (.l 9 (.q 10 (.nil)))))))) (.l 3 (.l 4 (.q 5 (.q 6 (.q 7 (.l 9 (.q 10 (.nil))))))))) (.l 1 (.l 3 (.l 4 (.q 5 (.q 6 (.q 7 (.l 9 (.q 10 (.nil)))))))))))) (ExtM [] w309) rfl (by kernel_rfl) ?_
  have hM := hM.drew
  rw [← hw] at hM ⊢
  clear hw
  refine pi_q hf rfl rfl rfl rfl (ExtM.refl _ _) (e_loadAM hf (us := [vL A2 (aA1.Nodes) c3]) rfl ⟨Tryz.isAgg37, Tryz.sizeOf37⟩ rfl (hM.boxSub (k := 5) (us := [vL A2 (aA1.Nodes) c3]) (o := 0) rfl rfl) (hM.apart (js := []) rfl (k := 5) rfl rfl rfl)) fun a hf => ?_
  refine pi_q hf rfl rfl rfl rfl (ExtM.refl _ _) (e_loadAM hf (us := [vL A6 (aB5.Nodes) c7]) rfl ⟨Tryz.isAgg37, Tryz.sizeOf37⟩ rfl (hM.boxSub (k := 4) (us := [vL A6 (aB5.Nodes) c7]) (o := 0) rfl rfl) (hM.apart (js := []) rfl (k := 4) rfl rfl rfl)) fun a hf => ?_
  refine pi_two ?_ ?_
  ·refine pi_l hf rfl rfl rfl rfl (w_call hf Tryz.call18 rfl (r_laws_toDawg ⟨_, Sh C _ _, none_, hM.sh_lt, none_not, C.G, hM.g_lt, g_none, hM.tabs⟩ aA1 _ _ (hM.dat (k := 2) rfl) _ hz311) ?_)
   rintro _ w358 ⟨A354, c355, ws356, rfl, hM2, hw357⟩
   obtain ⟨hM, hx359, hup360⟩ := hM.back hM2
   try dsimp only [List.cons_append, List.nil_append] at hM hup360
   clear hM2
   have hM : Mem C _ (.box b205 [vL A197 (y292.2) c198] 26 :: .box b188 [vL A181 (y267.2) c182] 26 :: .box b172 [vL A165 (y258.2) c166] 26 :: .box b59 [vL A52 (y50.1.Nodes) c53] 26 :: .box b13 [vL A6 (aB5.Nodes) c7] 37 :: .box b9 [vL A2 (aA1.Nodes) c3] 37 :: ((((((nestW A229 c230 79 2 ws231) ++ nestW A245 c246 79 2 ws247) ++ nestW A165 c166 79 2 ws260) ++ nestW A181 c182 79 2 ws269) ++ nestW A197 c198 79 2 ws294) ++ nestW A354 c355 79 2 ws356)) _ := Mem.perm (own := (nestW A354 c355 79 2 ws356) ++ ([.box b205 [vL A197 (y292.2) c198] 26, .box b188 [vL A181 (y267.2) c182] 26, .box b172 [vL A165 (y258.2) c166] 26, .box b59 [vL A52 (y50.1.Nodes) c53] 26, .box b13 [vL A6 (aB5.Nodes) c7] 37, .box b9 [vL A2 (aA1.Nodes) c3] 37] ++ (((((nestW A229 c230 79 2 ws231) ++ nestW A245 c246 79 2 ws247) ++ nestW A165 c166 79 2 ws260) ++ nestW A181 c182 79 2 ws269) ++ nestW A197 c198 79 2 ws294))) (own' := ([] ++ [.box b205 [vL A197 (y292.2) c198] 26, .box b188 [vL A181 (y267.2) c182] 26, .box b172 [vL A165 (y258.2) c166] 26, .box b59 [vL A52 (y50.1.Nodes) c53] 26, .box b13 [vL A6 (aB5.Nodes) c7] 37, .box b9 [vL A2 (aA1.Nodes) c3] 37]) ++ ((((((nestW A229 c230 79 2 ws231) ++ nestW A245 c246 79 2 ws247) ++ nestW A165 c166 79 2 ws260) ++ nestW A181 c182 79 2 ws269) ++ nestW A197 c198 79 2 ws294) ++ nestW A354 c355 79 2 ws356)) hM (fun a => by simp only [List.count_append, List.count_nil]; omega)
   refine ⟨_, rfl, ExtM [] w358, fun _ h => ExtM.trans hx359 h, ExtM.refl _ _, fun a hf => ?_⟩
   refine pi_two ?_ ?_
   ·refine pi_l hf rfl rfl rfl rfl (w_call hf Tryz.call18 rfl (r_laws_toDawg ⟨_, Sh C _ _, none_, hM.sh_lt, none_not, C.G, hM.g_lt, g_none, hM.tabs⟩ aB5 _ _ (hM.dat (k := 1) rfl) _ hz320) ?_)
    rintro _ w365 ⟨A361, c362, ws363, rfl, hM2, hw364⟩
    obtain ⟨hM, hx366, hup367⟩ := hM.back hM2
    try dsimp only [List.cons_append, List.nil_append] at hM hup367
    clear hM2
    have hM : Mem C _ (.box b205 [vL A197 (y292.2) c198] 26 :: .box b188 [vL A181 (y267.2) c182] 26 :: .box b172 [vL A165 (y258.2) c166] 26 :: .box b59 [vL A52 (y50.1.Nodes) c53] 26 :: .box b13 [vL A6 (aB5.Nodes) c7] 37 :: .box b9 [vL A2 (aA1.Nodes) c3] 37 :: (((((((nestW A229 c230 79 2 ws231) ++ nestW A245 c246 79 2 ws247) ++ nestW A165 c166 79 2 ws260) ++ nestW A181 c182 79 2 ws269) ++ nestW A197 c198 79 2 ws294) ++ nestW A354 c355 79 2 ws356) ++ nestW A361 c362 79 2 ws363)) _ := Mem.perm (own := (nestW A361 c362 79 2 ws363) ++ ([.box b205 [vL A197 (y292.2) c198] 26, .box b188 [vL A181 (y267.2) c182] 26, .box b172 [vL A165 (y258.2) c166] 26, .box b59 [vL A52 (y50.1.Nodes) c53] 26, .box b13 [vL A6 (aB5.Nodes) c7] 37, .box b9 [vL A2 (aA1.Nodes) c3] 37] ++ ((((((nestW A229 c230 79 2 ws231) ++ nestW A245 c246 79 2 ws247) ++ nestW A165 c166 79 2 ws260) ++ nestW A181 c182 79 2 ws269) ++ nestW A197 c198 79 2 ws294) ++ nestW A354 c355 79 2 ws356))) (own' := ([] ++ [.box b205 [vL A197 (y292.2) c198] 26, .box b188 [vL A181 (y267.2) c182] 26, .box b172 [vL A165 (y258.2) c166] 26, .box b59 [vL A52 (y50.1.Nodes) c53] 26, .box b13 [vL A6 (aB5.Nodes) c7] 37, .box b9 [vL A2 (aA1.Nodes) c3] 37]) ++ (((((((nestW A229 c230 79 2 ws231) ++ nestW A245 c246 79 2 ws247) ++ nestW A165 c166 79 2 ws260) ++ nestW A181 c182 79 2 ws269) ++ nestW A197 c198 79 2 ws294) ++ nestW A354 c355 79 2 ws356) ++ nestW A361 c362 79 2 ws363)) hM (fun a => by simp only [List.count_append, List.count_nil]; omega)
    refine ⟨_, rfl, ExtM [] w365, fun _ h => ExtM.trans hx366 h, ExtM.refl _ _, fun a hf => ?_⟩
    refine pi_two ?_ ?_
    ·refine pi_l hf rfl rfl rfl rfl (w_call hf Tryz.call11 rfl (r_impl_MinusDawg ⟨_, All C _ _, none_, hM.all_lt, none_not, C.G, hM.g_lt, g_none, hM.tabs⟩ y310 _ _ (hM.lendNest (A := A354) (c := c355) (E := 79) (E2 := 2) (ws := ws356) (fun q hq => by simp [hq]) hw357) y319 _ _ (hM.lendNest (A := A361) (c := c362) (E := 79) (E2 := 2) (ws := ws363) (fun q hq => by simp [hq]) hw364) _ hz329) ?_)
     rintro _ w373 ⟨A368, c369, ws370, rfl, hM2, hw371, hv372⟩
     obtain ⟨hM, hx374⟩ := hM.backAL OFlat.nest hM2
     clear hM2
     have hM : Mem C _ (.box b205 [vL A197 (y292.2) c198] 26 :: .box b188 [vL A181 (y267.2) c182] 26 :: .box b172 [vL A165 (y258.2) c166] 26 :: .box b59 [vL A52 (y50.1.Nodes) c53] 26 :: .box b13 [vL A6 (aB5.Nodes) c7] 37 :: .box b9 [vL A2 (aA1.Nodes) c3] 37 :: ((((((((nestW A229 c230 79 2 ws231) ++ nestW A245 c246 79 2 ws247) ++ nestW A165 c166 79 2 ws260) ++ nestW A181 c182 79 2 ws269) ++ nestW A197 c198 79 2 ws294) ++ nestW A354 c355 79 2 ws356) ++ nestW A361 c362 79 2 ws363) ++ nestW A368 c369 79 2 ws370)) _ := Mem.perm (own := (nestW A368 c369 79 2 ws370) ++ ([.box b205 [vL A197 (y292.2) c198] 26, .box b188 [vL A181 (y267.2) c182] 26, .box b172 [vL A165 (y258.2) c166] 26, .box b59 [vL A52 (y50.1.Nodes) c53] 26, .box b13 [vL A6 (aB5.Nodes) c7] 37, .box b9 [vL A2 (aA1.Nodes) c3] 37] ++ (((((((nestW A229 c230 79 2 ws231) ++ nestW A245 c246 79 2 ws247) ++ nestW A165 c166 79 2 ws260) ++ nestW A181 c182 79 2 ws269) ++ nestW A197 c198 79 2 ws294) ++ nestW A354 c355 79 2 ws356) ++ nestW A361 c362 79 2 ws363))) (own' := ([] ++ [.box b205 [vL A197 (y292.2) c198] 26, .box b188 [vL A181 (y267.2) c182] 26, .box b172 [vL A165 (y258.2) c166] 26, .box b59 [vL A52 (y50.1.Nodes) c53] 26, .box b13 [vL A6 (aB5.Nodes) c7] 37, .box b9 [vL A2 (aA1.Nodes) c3] 37]) ++ ((((((((nestW A229 c230 79 2 ws231) ++ nestW A245 c246 79 2 ws247) ++ nestW A165 c166 79 2 ws260) ++ nestW A181 c182 79 2 ws269) ++ nestW A197 c198 79 2 ws294) ++ nestW A354 c355 79 2 ws356) ++ nestW A361 c362 79 2 ws363) ++ nestW A368 c369 79 2 ws370)) hM (fun a => by simp only [List.count_append, List.count_nil]; omega)
     refine ⟨_, rfl, ExtM [] w373, fun _ h => ExtM.trans hx374 h, ExtM.refl _ _, fun a hf => ?_⟩
     refine pi_q hf rfl rfl rfl rfl (ExtM.refl _ _) (e_move hf rfl) fun a hf => ?_
     iterate 2 refine pi_q hf rfl rfl rfl rfl (ExtM.refl _ _) (e_extract hf rfl rfl) fun a hf => ?_
     refine pi_one ?_
     refine pi_l hf rfl rfl rfl rfl (w_allocM hM (cs := [vL none (([] : (List Node))) 0]) Tryz.zeroValue26 rfl fun b376 w377 hx378 hn379 hM => ⟨ExtM [some b376] w377, fun _ h => ExtM.grow hx378 hn379 h, ExtM.refl _ _, fun a hf => ?_⟩)
     refine pi_one ?_
     refine pi_l0 hf rfl rfl rfl (w_storeM hf (List.mem_of_getElem? (i := 0) rfl) hM (us := [vL A368 (y328.1.Nodes) c369]) (cs' := [vL A368 (y328.1.Nodes) c369]) rfl rfl (k := 0) rfl rfl Tryz.sizeOf26 rfl rfl rfl fun w380 hxm381 hsz382 hM => ⟨Ext w380, fun _ h => ExtM.last hxm381 hsz382 h, Ext.refl _, ?_⟩)
     dsimp only [List.set] at hM
     refine pi_q hf rfl rfl rfl rfl (Ext.refl _) (e_assign hf rfl) fun a hf => ?_
     refine pi_nil ?_
     refine then_n ?_
     exact ⟨A354, A361, A368, b376, c355, c362, c369, ws356, ws363, ws370, hf.keep ⟨rfl, rfl, rfl, rfl, rfl, rfl, trivial⟩, hM.pick [0, 1, 2] rfl, hv372, hw357, hw364, hw371⟩
    refine pi_l hf rfl rfl rfl rfl (w_allocM hM (cs := [vL none (([] : (List Node))) 0]) Tryz.zeroValue26 rfl fun b383 w384 hx385 hn386 hM => ⟨ExtM [some b383] w384, fun _ h => ExtM.grow hx385 hn386 h, ExtM.refl _ _, fun a hf => ?_⟩)
    refine pi_one ?_
    refine pi_l hf rfl rfl rfl rfl (w_call hf Tryz.call11 rfl (r_impl_MinusDawg ⟨_, All C _ _, none_, hM.all_lt, none_not, C.G, hM.g_lt, g_none, hM.tabs⟩ y310 _ _ (hM.lendNest (A := A354) (c := c355) (E := 79) (E2 := 2) (ws := ws356) (fun q hq => by simp [hq]) hw357) y319 _ _ (hM.lendNest (A := A361) (c := c362) (E := 79) (E2 := 2) (ws := ws363) (fun q hq => by simp [hq]) hw364) _ hz329) ?_)
    rintro _ w392 ⟨A387, c388, ws389, rfl, hM2, hw390, hv391⟩
    obtain ⟨hM, hx393⟩ := hM.backAL OFlat.nest hM2
    clear hM2
    have hM : Mem C _ (.box b383 [vL none (([] : (List Node))) 0] 26 :: .box b205 [vL A197 (y292.2) c198] 26 :: .box b188 [vL A181 (y267.2) c182] 26 :: .box b172 [vL A165 (y258.2) c166] 26 :: .box b59 [vL A52 (y50.1.Nodes) c53] 26 :: .box b13 [vL A6 (aB5.Nodes) c7] 37 :: .box b9 [vL A2 (aA1.Nodes) c3] 37 :: ((((((((nestW A229 c230 79 2 ws231) ++ nestW A245 c246 79 2 ws247) ++ nestW A165 c166 79 2 ws260) ++ nestW A181 c182 79 2 ws269) ++ nestW A197 c198 79 2 ws294) ++ nestW A354 c355 79 2 ws356) ++ nestW A361 c362 79 2 ws363) ++ nestW A387 c388 79 2 ws389)) _ := Mem.perm (own := (nestW A387 c388 79 2 ws389) ++ ([.box b383 [vL none (([] : (List Node))) 0] 26, .box b205 [vL A197 (y292.2) c198] 26, .box b188 [vL A181 (y267.2) c182] 26, .box b172 [vL A165 (y258.2) c166] 26, .box b59 [vL A52 (y50.1.Nodes) c53] 26, .box b13 [vL A6 (aB5.Nodes) c7] 37, .box b9 [vL A2 (aA1.Nodes) c3] 37] ++ (((((((nestW A229 c230 79 2 ws231) ++ nestW A245 c246 79 2 ws247) ++ nestW A165 c166 79 2 ws260) ++ nestW A181 c182 79 2 ws269) ++ nestW A197 c198 79 2 ws294) ++ nestW A354 c355 79 2 ws356) ++ nestW A361 c362 79 2 ws363))) (own' := ([] ++ [.box b383 [vL none (([] : (List Node))) 0] 26, .box b205 [vL A197 (y292.2) c198] 26, .box b188 [vL A181 (y267.2) c182] 26, .box b172 [vL A165 (y258.2) c166] 26, .box b59 [vL A52 (y50.1.Nodes) c53] 26, .box b13 [vL A6 (aB5.Nodes) c7] 37, .box b9 [vL A2 (aA1.Nodes) c3] 37]) ++ ((((((((nestW A229 c230 79 2 ws231) ++ nestW A245 c246 79 2 ws247) ++ nestW A165 c166 79 2 ws260) ++ nestW A181 c182 79 2 ws269) ++ nestW A197 c198 79 2 ws294) ++ nestW A354 c355 79 2 ws356) ++ nestW A361 c362 79 2 ws363) ++ nestW A387 c388 79 2 ws389)) hM (fun a => by simp only [List.count_append, List.count_nil]; omega)
    refine ⟨_, rfl, ExtM [some b383] w392, fun _ h => ExtM.trans hx393 h, ExtM.refl _ _, fun a hf => ?_⟩
    refine pi_q hf rfl rfl rfl rfl (ExtM.refl _ _) (e_move hf rfl) fun a hf => ?_
    iterate 2 refine pi_q hf rfl rfl rfl rfl (ExtM.refl _ _) (e_extract hf rfl rfl) fun a hf => ?_
    refine pi_one ?_
    refine pi_l0 hf rfl rfl rfl (w_storeM hf (List.mem_of_getElem? (i := 0) rfl) hM (us := [vL A387 (y328.1.Nodes) c388]) (cs' := [vL A387 (y328.1.Nodes) c388]) rfl rfl (k := 0) rfl rfl Tryz.sizeOf26 rfl rfl rfl fun w395 hxm396 hsz397 hM => ⟨Ext w395, fun _ h => ExtM.last hxm396 hsz397 h, Ext.refl _, ?_⟩)
    dsimp only [List.set] at hM
    refine pi_q hf rfl rfl rfl rfl (Ext.refl _) (e_assign hf rfl) fun a hf => ?_
    refine pi_nil ?_
    refine then_n ?_
    exact ⟨A354, A361, A387, b383, c355, c362, c388, ws356, ws363, ws389, hf.keep ⟨rfl, rfl, rfl, rfl, rfl, rfl, trivial⟩, hM.pick [0, 1, 2] rfl, hv391, hw357, hw364, hw390⟩
   refine pi_l hf rfl rfl rfl rfl (w_allocM hM (cs := [vL none (([] : (List Node))) 0]) Tryz.zeroValue26 rfl fun b398 w399 hx400 hn401 hM => ⟨ExtM [some b398] w399, fun _ h => ExtM.grow hx400 hn401 h, ExtM.refl _ _, fun a hf => ?_⟩)
   refine pi_one ?_
   refine pi_l hf rfl rfl rfl rfl (w_call hf Tryz.call18 rfl (r_laws_toDawg ⟨_, Sh C _ _, none_, hM.sh_lt, none_not, C.G, hM.g_lt, g_none, hM.tabs⟩ aB5 _ _ (hM.dat (k := 1) rfl) _ hz320) ?_)
   rintro _ w406 ⟨A402, c403, ws404, rfl, hM2, hw405⟩
   obtain ⟨hM, hx407, hup408⟩ := hM.back hM2
   try dsimp only [List.cons_append, List.nil_append] at hM hup408
   clear hM2
   have hM : Mem C _ (.box b398 [vL none (([] : (List Node))) 0] 26 :: .box b205 [vL A197 (y292.2) c198] 26 :: .box b188 [vL A181 (y267.2) c182] 26 :: .box b172 [vL A165 (y258.2) c166] 26 :: .box b59 [vL A52 (y50.1.Nodes) c53] 26 :: .box b13 [vL A6 (aB5.Nodes) c7] 37 :: .box b9 [vL A2 (aA1.Nodes) c3] 37 :: (((((((nestW A229 c230 79 2 ws231) ++ nestW A245 c246 79 2 ws247) ++ nestW A165 c166 79 2 ws260) ++ nestW A181 c182 79 2 ws269) ++ nestW A197 c198 79 2 ws294) ++ nestW A354 c355 79 2 ws356) ++ nestW A402 c403 79 2 ws404)) _ := Mem.perm (own := (nestW A402 c403 79 2 ws404) ++ ([.box b398 [vL none (([] : (List Node))) 0] 26, .box b205 [vL A197 (y292.2) c198] 26, .box b188 [vL A181 (y267.2) c182] 26, .box b172 [vL A165 (y258.2) c166] 26, .box b59 [vL A52 (y50.1.Nodes) c53] 26, .box b13 [vL A6 (aB5.Nodes) c7] 37, .box b9 [vL A2 (aA1.Nodes) c3] 37] ++ ((((((nestW A229 c230 79 2 ws231) ++ nestW A245 c246 79 2 ws247) ++ nestW A165 c166 79 2 ws260) ++ nestW A181 c182 79 2 ws269) ++ nestW A197 c198 79 2 ws294) ++ nestW A354 c355 79 2 ws356))) (own' := ([] ++ [.box b398 [vL none (([] : (List Node))) 0] 26, .box b205 [vL A197 (y292.2) c198] 26, .box b188 [vL A181 (y267.2) c182] 26, .box b172 [vL A165 (y258.2) c166] 26, .box b59 [vL A52 (y50.1.Nodes) c53] 26, .box b13 [vL A6 (aB5.Nodes) c7] 37, .box b9 [vL A2 (aA1.Nodes) c3] 37]) ++ (((((((nestW A229 c230 79 2 ws231) ++ nestW A245 c246 79 2 ws247) ++ nestW A165 c166 79 2 ws260) ++ nestW A181 c182 79 2 ws269) ++ nestW A197 c198 79 2 ws294) ++ nestW A354 c355 79 2 ws356) ++ nestW A402 c403 79 2 ws404)) hM (fun a => by simp only [List.count_append, List.count_nil]; omega)
   refine ⟨_, rfl, ExtM [some b398] w406, fun _ h => ExtM.trans hx407 h, ExtM.refl _ _, fun a hf => ?_⟩
   refine pi_one ?_
   refine pi_l hf rfl rfl rfl rfl (w_call hf Tryz.call11 rfl (r_impl_MinusDawg ⟨_, All C _ _, none_, hM.all_lt, none_not, C.G, hM.g_lt, g_none, hM.tabs⟩ y310 _ _ (hM.lendNest (A := A354) (c := c355) (E := 79) (E2 := 2) (ws := ws356) (fun q hq => by simp [hq]) hw357) y319 _ _ (hM.lendNest (A := A402) (c := c403) (E := 79) (E2 := 2) (ws := ws404) (fun q hq => by simp [hq]) hw405) _ hz329) ?_)
   rintro _ w414 ⟨A409, c410, ws411, rfl, hM2, hw412, hv413⟩
   obtain ⟨hM, hx415⟩ := hM.backAL OFlat.nest hM2
   clear hM2
   have hM : Mem C _ (.box b398 [vL none (([] : (List Node))) 0] 26 :: .box b205 [vL A197 (y292.2) c198] 26 :: .box b188 [vL A181 (y267.2) c182] 26 :: .box b172 [vL A165 (y258.2) c166] 26 :: .box b59 [vL A52 (y50.1.Nodes) c53] 26 :: .box b13 [vL A6 (aB5.Nodes) c7] 37 :: .box b9 [vL A2 (aA1.Nodes) c3] 37 :: ((((((((nestW A229 c230 79 2 ws231) ++ nestW A245 c246 79 2 ws247) ++ nestW A165 c166 79 2 ws260) ++ nestW A181 c182 79 2 ws269) ++ nestW A197 c198 79 2 ws294) ++ nestW A354 c355 79 2 ws356) ++ nestW A402 c403 79 2 ws404) ++ nestW A409 c410 79 2 ws411)) _ := Mem.perm (own := (nestW A409 c410 79 2 ws411) ++ ([.box b398 [vL none (([] : (List Node))) 0] 26, .box b205 [vL A197 (y292.2) c198] 26, .box b188 [vL A181 (y267.2) c182] 26, .box b172 [vL A165 (y258.2) c166] 26, .box b59 [vL A52 (y50.1.Nodes) c53] 26, .box b13 [vL A6 (aB5.Nodes) c7] 37, .box b9 [vL A2 (aA1.Nodes) c3] 37] ++ (((((((nestW A229 c230 79 2 ws231) ++ nestW A245 c246 79 2 ws247) ++ nestW A165 c166 79 2 ws260) ++ nestW A181 c182 79 2 ws269) ++ nestW A197 c198 79 2 ws294) ++ nestW A354 c355 79 2 ws356) ++ nestW A402 c403 79 2 ws404))) (own' := ([] ++ [.box b398 [vL none (([] : (List Node))) 0] 26, .box b205 [vL A197 (y292.2) c198] 26, .box b188 [vL A181 (y267.2) c182] 26, .box b172 [vL A165 (y258.2) c166] 26, .box b59 [vL A52 (y50.1.Nodes) c53] 26, .box b13 [vL A6 (aB5.Nodes) c7] 37, .box b9 [vL A2 (aA1.Nodes) c3] 37]) ++ ((((((((nestW A229 c230 79 2 ws231) ++ nestW A245 c246 79 2 ws247) ++ nestW A165 c166 79 2 ws260) ++ nestW A181 c182 79 2 ws269) ++ nestW A197 c198 79 2 ws294) ++ nestW A354 c355 79 2 ws356) ++ nestW A402 c403 79 2 ws404) ++ nestW A409 c410 79 2 ws411)) hM (fun a => by simp only [List.count_append, List.count_nil]; omega)
   refine ⟨_, rfl, ExtM [some b398] w414, fun _ h => ExtM.trans hx415 h, ExtM.refl _ _, fun a hf => ?_⟩
   refine pi_q hf rfl rfl rfl rfl (ExtM.refl _ _) (e_move hf rfl) fun a hf => ?_
   iterate 2 refine pi_q hf rfl rfl rfl rfl (ExtM.refl _ _) (e_extract hf rfl rfl) fun a hf => ?_
   refine pi_one ?_
   refine pi_l0 hf rfl rfl rfl (w_storeM hf (List.mem_of_getElem? (i := 0) rfl) hM (us := [vL A409 (y328.1.Nodes) c410]) (cs' := [vL A409 (y328.1.Nodes) c410]) rfl rfl (k := 0) rfl rfl Tryz.sizeOf26 rfl rfl rfl fun w417 hxm418 hsz419 hM => ⟨Ext w417, fun _ h => ExtM.last hxm418 hsz419 h, Ext.refl _, ?_⟩)
   dsimp only [List.set] at hM
   refine pi_q hf rfl rfl rfl rfl (Ext.refl _) (e_assign hf rfl) fun a hf => ?_
   refine pi_nil ?_
   refine then_n ?_
   exact ⟨A354, A402, A409, b398, c355, c403, c410, ws356, ws404, ws411, hf.keep ⟨rfl, rfl, rfl, rfl, rfl, rfl, trivial⟩, hM.pick [0, 1, 2] rfl, hv413, hw357, hw405, hw412⟩
  refine pi_l hf rfl rfl rfl rfl (w_allocM hM (cs := [vL none (([] : (List Node))) 0]) Tryz.zeroValue26 rfl fun b420 w421 hx422 hn423 hM => ⟨ExtM [some b420] w421, fun _ h => ExtM.grow hx422 hn423 h, ExtM.refl _ _, fun a hf => ?_⟩)
  refine pi_one ?_
  refine pi_l hf rfl rfl rfl rfl (w_call hf Tryz.call18 rfl (r_laws_toDawg ⟨_, Sh C _ _, none_, hM.sh_lt, none_not, C.G, hM.g_lt, g_none, hM.tabs⟩ aA1 _ _ (hM.dat (k := 2) rfl) _ hz311) ?_)
  rintro _ w428 ⟨A424, c425, ws426, rfl, hM2, hw427⟩
  obtain ⟨hM, hx429, hup430⟩ := hM.back hM2
  try dsimp only [List.cons_append, List.nil_append] at hM hup430
  clear hM2
  have hM : Mem C _ (.box b420 [vL none (([] : (List Node))) 0] 26 :: .box b205 [vL A197 (y292.2) c198] 26 :: .box b188 [vL A181 (y267.2) c182] 26 :: .box b172 [vL A165 (y258.2) c166] 26 :: .box b59 [vL A52 (y50.1.Nodes) c53] 26 :: .box b13 [vL A6 (aB5.Nodes) c7] 37 :: .box b9 [vL A2 (aA1.Nodes) c3] 37 :: ((((((nestW A229 c230 79 2 ws231) ++ nestW A245 c246 79 2 ws247) ++ nestW A165 c166 79 2 ws260) ++ nestW A181 c182 79 2 ws269) ++ nestW A197 c198 79 2 ws294) ++ nestW A424 c425 79 2 ws426)) _ := Mem.perm (own := (nestW A424 c425 79 2 ws426) ++ ([.box b420 [vL none (([] : (List Node))) 0] 26, .box b205 [vL A197 (y292.2) c198] 26, .box b188 [vL A181 (y267.2) c182] 26, .box b172 [vL A165 (y258.2) c166] 26, .box b59 [vL A52 (y50.1.Nodes) c53] 26, .box b13 [vL A6 (aB5.Nodes) c7] 37, .box b9 [vL A2 (aA1.Nodes) c3] 37] ++ (((((nestW A229 c230 79 2 ws231) ++ nestW A245 c246 79 2 ws247) ++ nestW A165 c166 79 2 ws260) ++ nestW A181 c182 79 2 ws269) ++ nestW A197 c198 79 2 ws294))) (own' := ([] ++ [.box b420 [vL none (([] : (List Node))) 0] 26, .box b205 [vL A197 (y292.2) c198] 26, .box b188 [vL A181 (y267.2) c182] 26, .box b172 [vL A165 (y258.2) c166] 26, .box b59 [vL A52 (y50.1.Nodes) c53] 26, .box b13 [vL A6 (aB5.Nodes) c7] 37, .box b9 [vL A2 (aA1.Nodes) c3] 37]) ++ ((((((nestW A229 c230 79 2 ws231) ++ nestW A245 c246 79 2 ws247) ++ nestW A165 c166 79 2 ws260) ++ nestW A181 c182 79 2 ws269) ++ nestW A197 c198 79 2 ws294) ++ nestW A424 c425 79 2 ws426)) hM (fun a => by simp only [List.count_append, List.count_nil]; omega)
  refine ⟨_, rfl, ExtM [some b420] w428, fun _ h => ExtM.trans hx429 h, ExtM.refl _ _, fun a hf => ?_⟩
  refine pi_one ?_
  refine pi_l hf rfl rfl rfl rfl (w_call hf Tryz.call18 rfl (r_laws_toDawg ⟨_, Sh C _ _, none_, hM.sh_lt, none_not, C.G, hM.g_lt, g_none, hM.tabs⟩ aB5 _ _ (hM.dat (k := 1) rfl) _ hz320) ?_)
  rintro _ w435 ⟨A431, c432, ws433, rfl, hM2, hw434⟩
  obtain ⟨hM, hx436, hup437⟩ := hM.back hM2
  try dsimp only [List.cons_append, List.nil_append] at hM hup437
  clear hM2
  have hM : Mem C _ (.box b420 [vL none (([] : (List Node))) 0] 26 :: .box b205 [vL A197 (y292.2) c198] 26 :: .box b188 [vL A181 (y267.2) c182] 26 :: .box b172 [vL A165 (y258.2) c166] 26 :: .box b59 [vL A52 (y50.1.Nodes) c53] 26 :: .box b13 [vL A6 (aB5.Nodes) c7] 37 :: .box b9 [vL A2 (aA1.Nodes) c3] 37 :: (((((((nestW A229 c230 79 2 ws231) ++ nestW A245 c246 79 2 ws247) ++ nestW A165 c166 79 2 ws260) ++ nestW A181 c182 79 2 ws269) ++ nestW A197 c198 79 2 ws294) ++ nestW A424 c425 79 2 ws426) ++ nestW A431 c432 79 2 ws433)) _ := Mem.perm (own := (nestW A431 c432 79 2 ws433) ++ ([.box b420 [vL none (([] : (List Node))) 0] 26, .box b205 [vL A197 (y292.2) c198] 26, .box b188 [vL A181 (y267.2) c182] 26, .box b172 [vL A165 (y258.2) c166] 26, .box b59 [vL A52 (y50.1.Nodes) c53] 26, .box b13 [vL A6 (aB5.Nodes) c7] 37, .box b9 [vL A2 (aA1.Nodes) c3] 37] ++ ((((((nestW A229 c230 79 2 ws231) ++ nestW A245 c246 79 2 ws247) ++ nestW A165 c166 79 2 ws260) ++ nestW A181 c182 79 2 ws269) ++ nestW A197 c198 79 2 ws294) ++ nestW A424 c425 79 2 ws426))) (own' := ([] ++ [.box b420 [vL none (([] : (List Node))) 0] 26, .box b205 [vL A197 (y292.2) c198] 26, .box b188 [vL A181 (y267.2) c182] 26, .box b172 [vL A165 (y258.2) c166] 26, .box b59 [vL A52 (y50.1.Nodes) c53] 26, .box b13 [vL A6 (aB5.Nodes) c7] 37, .box b9 [vL A2 (aA1.Nodes) c3] 37]) ++ (((((((nestW A229 c230 79 2 ws231) ++ nestW A245 c246 79 2 ws247) ++ nestW A165 c166 79 2 ws260) ++ nestW A181 c182 79 2 ws269) ++ nestW A197 c198 79 2 ws294) ++ nestW A424 c425 79 2 ws426) ++ nestW A431 c432 79 2 ws433)) hM (fun a => by simp only [List.count_append, List.count_nil]; omega)
  refine ⟨_, rfl, ExtM [some b420] w435, fun _ h => ExtM.trans hx436 h, ExtM.refl _ _, fun a hf => ?_⟩
  refine pi_one ?_
  refine pi_l hf rfl rfl rfl rfl (w_call hf Tryz.call11 rfl (r_impl_MinusDawg ⟨_, All C _ _, none_, hM.all_lt, none_not, C.G, hM.g_lt, g_none, hM.tabs⟩ y310 _ _ (hM.lendNest (A := A424) (c := c425) (E := 79) (E2 := 2) (ws := ws426) (fun q hq => by simp [hq]) hw427) y319 _ _ (hM.lendNest (A := A431) (c := c432) (E := 79) (E2 := 2) (ws := ws433) (fun q hq => by simp [hq]) hw434) _ hz329) ?_)
  rintro _ w443 ⟨A438, c439, ws440, rfl, hM2, hw441, hv442⟩
  obtain ⟨hM, hx444⟩ := hM.backAL OFlat.nest hM2
  clear hM2
  have hM : Mem C _ (.box b420 [vL none (([] : (List Node))) 0] 26 :: .box b205 [vL A197 (y292.2) c198] 26 :: .box b188 [vL A181 (y267.2) c182] 26 :: .box b172 [vL A165 (y258.2) c166] 26 :: .box b59 [vL A52 (y50.1.Nodes) c53] 26 :: .box b13 [vL A6 (aB5.Nodes) c7] 37 :: .box b9 [vL A2 (aA1.Nodes) c3] 37 :: ((((((((nestW A229 c230 79 2 ws231) ++ nestW A245 c246 79 2 ws247) ++ nestW A165 c166 79 2 ws260) ++ nestW A181 c182 79 2 ws269) ++ nestW A197 c198 79 2 ws294) ++ nestW A424 c425 79 2 ws426) ++ nestW A431 c432 79 2 ws433) ++ nestW A438 c439 79 2 ws440)) _ := Mem.perm (own := (nestW A438 c439 79 2 ws440) ++ ([.box b420 [vL none (([] : (List Node))) 0] 26, .box b205 [vL A197 (y292.2) c198] 26, .box b188 [vL A181 (y267.2) c182] 26, .box b172 [vL A165 (y258.2) c166] 26, .box b59 [vL A52 (y50.1.Nodes) c53] 26, .box b13 [vL A6 (aB5.Nodes) c7] 37, .box b9 [vL A2 (aA1.Nodes) c3] 37] ++ (((((((nestW A229 c230 79 2 ws231) ++ nestW A245 c246 79 2 ws247) ++ nestW A165 c166 79 2 ws260) ++ nestW A181 c182 79 2 ws269) ++ nestW A197 c198 79 2 ws294) ++ nestW A424 c425 79 2 ws426) ++ nestW A431 c432 79 2 ws433))) (own' := ([] ++ [.box b420 [vL none (([] : (List Node))) 0] 26, .box b205 [vL A197 (y292.2) c198] 26, .box b188 [vL A181 (y267.2) c182] 26, .box b172 [vL A165 (y258.2) c166] 26, .box b59 [vL A52 (y50.1.Nodes) c53] 26, .box b13 [vL A6 (aB5.Nodes) c7] 37, .box b9 [vL A2 (aA1.Nodes) c3] 37]) ++ ((((((((nestW A229 c230 79 2 ws231) ++ nestW A245 c246 79 2 ws247) ++ nestW A165 c166 79 2 ws260) ++ nestW A181 c182 79 2 ws269) ++ nestW A197 c198 79 2 ws294) ++ nestW A424 c425 79 2 ws426) ++ nestW A431 c432 79 2 ws433) ++ nestW A438 c439 79 2 ws440)) hM (fun a => by simp only [List.count_append, List.count_nil]; omega)
  refine ⟨_, rfl, ExtM [some b420] w443, fun _ h => ExtM.trans hx444 h, ExtM.refl _ _, fun a hf => ?_⟩
  refine pi_q hf rfl rfl rfl rfl (ExtM.refl _ _) (e_move hf rfl) fun a hf => ?_
  iterate 2 refine pi_q hf rfl rfl rfl rfl (ExtM.refl _ _) (e_extract hf rfl rfl) fun a hf => ?_
  refine pi_one ?_
  refine pi_l0 hf rfl rfl rfl (w_storeM hf (List.mem_of_getElem? (i := 0) rfl) hM (us := [vL A438 (y328.1.Nodes) c439]) (cs' := [vL A438 (y328.1.Nodes) c439]) rfl rfl (k := 0) rfl rfl Tryz.sizeOf26 rfl rfl rfl fun w446 hxm447 hsz448 hM => ⟨Ext w446, fun _ h => ExtM.last hxm447 hsz448 h, Ext.refl _, ?_⟩)
  dsimp only [List.set] at hM
  refine pi_q hf rfl rfl rfl rfl (Ext.refl _) (e_assign hf rfl) fun a hf => ?_
  refine pi_nil ?_
  refine then_n ?_
  exact ⟨A424, A431, A438, b420, c425, c432, c439, ws426, ws433, ws440, hf.keep ⟨rfl, rfl, rfl, rfl, rfl, rfl, trivial⟩, hM.pick [0, 1, 2] rfl, hv442, hw427, hw434, hw441⟩
 rintro a w349 ⟨A312, A321, A330, b338, c313, c322, c331, ws314, ws323, ws332, hf, hM, hv345, hw346, hw347, hw348⟩
 refine wp_seq ?_
 obtain ⟨x451, h452, h⟩ := bind_some h
 refine seq_join (fun a w => ∃ (t449 : Bool), t449 = x451 ∧ Has 119 a [(10, vP b205 (0)), (13, vI (y292.1)), (110, .bool (t449))] ∧ Mem C w (.box b338 [vL A330 (y328.1.Nodes) c331] 26 :: .box b205 [vL A197 (y292.2) c198] 26 :: .box b188 [vL A181 (y267.2) c182] 26 :: .box b172 [vL A165 (y258.2) c166] 26 :: .box b59 [vL A52 (y50.1.Nodes) c53] 26 :: .box b13 [vL A6 (aB5.Nodes) c7] 37 :: .box b9 [vL A2 (aA1.Nodes) c3] 37 :: ((((((((nestW A229 c230 79 2 ws231) ++ nestW A245 c246 79 2 ws247) ++ nestW A165 c166 79 2 ws260) ++ nestW A181 c182 79 2 ws269) ++ nestW A197 c198 79 2 ws294) ++ nestW A312 c313 79 2 ws314) ++ nestW A321 c322 79 2 ws323) ++ nestW A330 c331 79 2 ws332)) [.dat (sliceRep NodeRep) y50.1.Nodes [vL A52 y50.1.Nodes c53], .dat (sliceRep NodeRep) aB5.Nodes [vL A6 aB5.Nodes c7], .dat (sliceRep NodeRep) aA1.Nodes [vL A2 aA1.Nodes c3]]) ?_ ?_
 ·refine region_pl ?_
  refine q_ hf rfl rfl rfl (e_loadA hf (us := [vL A330 (y328.1.Nodes) c331]) rfl ⟨Tryz.isAgg26, Tryz.sizeOf26⟩ rfl (hM.boxSub (k := 0) (us := [vL A330 (y328.1.Nodes) c331]) (o := 0) rfl rfl)) fun a hf => ?_
  refine q_ hf rfl rfl rfl (e_loadA hf (us := [vL A52 (y50.1.Nodes) c53]) rfl ⟨Tryz.isAgg26, Tryz.sizeOf26⟩ rfl (hM.boxSub (k := 4) (us := [vL A52 (y50.1.Nodes) c53]) (o := 0) rfl rfl)) fun a hf => ?_
  obtain ⟨y453, hz454, h452⟩ := bind_some h452
  refine pl_l hf rfl rfl rfl (w_call hf Tryz.call19 rfl (r_laws_eqDawg ⟨_, All C _ _, none_, hM.all_lt, none_not, C.G, hM.g_lt, g_none, hM.tabs⟩ y328.1 _ _ (hM.lendNest (A := A330) (c := c331) (E := 79) (E2 := 2) (ws := ws332) (fun q hq => by simp [hq]) hw348) y50.1 _ _ (hM.lendDat (k := 0) rfl) _ hz454) ?_)
  rintro _ w455 ⟨rfl, hM2⟩
  obtain ⟨hM, hx456⟩ := hM.backA hM2
  clear hM2
  refine ⟨_, rfl, fun a hf => ?_⟩
  refine q_ hf rfl rfl rfl (e_not hf rfl) fun a hf => ?_
  refine q_ hf rfl rfl rfl (e_move hf rfl) fun a hf => ?_
  rcases cond_some h452 with ⟨hc458, h452⟩ | ⟨hc458, h452⟩
  ·iterate 3 refine pl_gs (wanted_f hf rfl rfl rfl rfl hc458) hf rfl rfl fun a hf => ?_
   refine q_ hf rfl rfl rfl (e_pick_t hf rfl hc458 rfl) fun a hf => ?_
   refine pl_nil ?_
   obtain rfl := some_inj h452
   refine then_n ?_
   exact ⟨true, rfl, hf.keep ⟨rfl, rfl, rfl, trivial⟩, hM.pick [0, 1, 2] rfl⟩
  iterate 2 refine gq (wanted_t hf rfl rfl rfl rfl hc458) hf rfl rfl (e_move hf rfl) fun a hf => ?_
  refine gq (wanted_t hf rfl rfl rfl rfl hc458) hf rfl rfl (e_ne hf (x := y328.2) (y := y50.2) rfl rfl) fun a hf => ?_
  refine q_ hf rfl rfl rfl (e_pick_f hf rfl hc458 rfl) fun a hf => ?_
  refine pl_nil ?_
  obtain rfl := some_inj h452
  refine then_n ?_
  exact ⟨(y328.2 != y50.2), rfl, hf.keep ⟨rfl, rfl, rfl, trivial⟩, hM.pick [0, 1, 2] rfl⟩
 rintro a w461 ⟨t449, rfl, hf, hM⟩
 try dsimp only at h
 rcases cond_some h with ⟨hc462, h⟩ | ⟨hc462, h⟩
 ·refine cond_t hf rfl hc462 ?_
  refine wp_seq ?_
  refine region_pl ?_
  refine q_ hf rfl rfl rfl (e_assign hf rfl) fun a hf => ?_
  refine pl_nil ?_
  refine then_n ?_
  refine wp_ret ?_
  refine then_r ?_
  obtain rfl := some_inj h
  have hM := hM.outs (own' := []) 0 rfl
  exact leave1 hf rfl rfl ⟨rfl, hM.fin⟩
 refine cond_f hf rfl hc462 ?_
 refine wp_skip ?_
 refine then_n ?_
 refine wp_seq ?_
 refine region_pl ?_
 refine q_ hf rfl rfl rfl (e_assign hf rfl) fun a hf => ?_
 refine pl_nil ?_
 refine then_n ?_
 refine wp_seq ?_
 refine region_pl ?_
 refine q_ hf rfl rfl rfl (e_loadA hf (us := [vL A197 (y292.2) c198]) rfl ⟨Tryz.isAgg26, Tryz.sizeOf26⟩ rfl (hM.boxSub (k := 1) (us := [vL A197 (y292.2) c198]) (o := 0) rfl rfl)) fun a hf => ?_
 refine q_ hf rfl rfl rfl (e_move hf rfl) fun a hf => ?_
 obtain ⟨y463, hz464, h⟩ := bind_some h
 refine pl_l hf rfl rfl rfl (w_call hf Tryz.call21 rfl (r_laws_heldDawg ⟨_, All C _ _, none_, hM.all_lt, none_not, C.G, hM.g_lt, g_none, hM.tabs⟩ (⟨y292.2⟩ : Dawg) _ _ (hM.lendNest (A := A197) (c := c198) (E := 79) (E2 := 2) (ws := ws294) (fun q hq => by simp [hq]) hw295) 1 (R64_lit rfl) _ hz464) ?_)
 rintro _ w466 ⟨rfl, hM2, hv465⟩
 obtain ⟨hM, hx467⟩ := hM.backA hM2
 clear hM2
 refine ⟨_, rfl, fun a hf => ?_⟩
 refine q_ hf rfl rfl rfl (e_assign hf rfl) fun a hf => ?_
 refine pl_nil ?_
 refine then_n ?_
 iterate 2 refine wp_seq ?_
 refine region_pl ?_
 refine q_ hf rfl rfl rfl (e_move hf rfl) fun a hf => ?_
 refine q_ hf rfl rfl rfl (e_lt hf (x := y463) (y := 0) rfl rfl) fun a hf => ?_
 refine pl_nil ?_
 refine then_n ?_
 rcases cond_some h with ⟨hc469, h⟩ | ⟨hc469, h⟩
 ·refine cond_t hf rfl hc469 ?_
  refine wp_seq ?_
  refine region_pl ?_
  refine q_ hf rfl rfl rfl (e_assign hf rfl) fun a hf => ?_
  refine pl_nil ?_
  refine then_n ?_
  refine wp_ret ?_
  refine then_r ?_
  obtain rfl := some_inj h
  have hM := hM.outs (own' := []) 0 rfl
  exact leave1 hf rfl rfl ⟨rfl, hM.fin⟩
 refine cond_f hf rfl hc469 ?_
 refine wp_skip ?_
 refine then_n ?_
 iterate 2 refine wp_seq ?_
 refine region_pl ?_
 iterate 2 refine q_ hf rfl rfl rfl (e_move hf rfl) fun a hf => ?_
 refine q_ hf rfl rfl rfl (e_ne hf (x := y463) (y := y292.1) rfl rfl) fun a hf => ?_
 refine pl_nil ?_
 refine then_n ?_
 rcases cond_some h with ⟨hc470, h⟩ | ⟨hc470, h⟩
 ·refine cond_t hf rfl hc470 ?_
  refine wp_seq ?_
  refine region_pl ?_
  refine q_ hf rfl rfl rfl (e_assign hf rfl) fun a hf => ?_
  refine pl_nil ?_
  refine then_n ?_
  refine wp_ret ?_
  refine then_r ?_
  obtain rfl := some_inj h
  have hM := hM.outs (own' := []) 0 rfl
  exact leave1 hf rfl rfl ⟨rfl, hM.fin⟩
 refine cond_f hf rfl hc470 ?_
 refine wp_skip ?_
 refine then_n ?_
 refine wp_seq ?_
 refine region_pl ?_
 refine q_ hf rfl rfl rfl (e_assign hf rfl) fun a hf => ?_
 refine pl_nil ?_
 refine then_n ?_
 refine wp_ret ?_
 obtain rfl := some_inj h
 have hM := hM.outs (own' := []) 0 rfl
 exact leave1 hf rfl rfl ⟨rfl, hM.fin⟩
end Go.Proofs.YtccoeheoifbpcaaGreatDoor
