/- The functions that this law reaches do what their models say. Printed by gen.py. -/
import Derived.Test.YtgmikhdealhlfaaGreatDoorMod
import Derived.Test.YtgmikhdealhlfaaGreatDoorLib
import Derived.Test.YtgmikhdealhlfaaGreatDoorFnSlotsRefC
namespace Go.Proofs.YtgmikhdealhlfaaGreatDoor
open Go Go.RowKit
set_option linter.unusedSimpArgs false
set_option linter.unusedVariables false

set_option maxRecDepth 100000 in
set_option maxHeartbeats 4000000 in
theorem r_laws_FnSlots (C : Cx) (code1 : Str) (A2 : Option Addr) (c3 : Nat) (hp4 : (sliceRep byteRep).R C.w0 C.S0 code1 [vL A2 code1 c3]) (r : Bool) (h : m_laws_FnSlots code1 = some r) :
    Calls Tryz.prog 3 #[vL A2 (code1) c3] C.w0 fun e w => e = .returned (.bool (r)) ∧ Mem C w [] [] := by
  have hM := Mem.begin C [.dat (sliceRep byteRep) code1 [vL A2 code1 c3]] ⟨hp4, trivial⟩
  refine enter Tryz.func3 rfl Tryz.ntmps3 rfl fun a hf => ?_
  unfold m_laws_FnSlots at h
  refine wp_seq ?_
  refine region_pl ?_
  refine q_ hf rfl rfl rfl (e_assign hf rfl) fun a hf => ?_
  refine pl_nil ?_
  refine then_n ?_
  refine wp_seq ?_
  refine wp_seq ?_
  refine region_pl ?_
  refine q_ hf rfl rfl rfl (e_move hf rfl) fun a hf => ?_
  obtain ⟨y5, hz6, h⟩ := bind_some h
  refine pl_l hf rfl rfl rfl (w_call hf Tryz.call4 rfl (r_laws_f6big ⟨_, Sh C _ _, none_, hM.sh_lt, none_not, C.G, hM.g_lt, g_none, hM.tabs⟩ code1 _ _ (hM.dat (k := 0) rfl) _ hz6) ?_)
  rintro _ w7 ⟨rfl, hM2⟩
  obtain ⟨hM, hx8, hup9⟩ := hM.back hM2
  dsimp only [List.cons_append, List.nil_append] at hM hup9
  clear hM2
  refine ⟨_, rfl, fun a hf => ?_⟩
  refine pl_nil ?_
  refine then_n ?_
  rcases cond_some h with ⟨hc10, h⟩ | ⟨hc10, h⟩
  · refine cond_t hf rfl hc10 ?_
    refine wp_seq ?_
    refine region_pl ?_
    refine q_ hf rfl rfl rfl (e_assign hf rfl) fun a hf => ?_
    refine pl_nil ?_
    refine then_n ?_
    refine wp_ret ?_
    refine then_r ?_
    obtain rfl := some_inj h
    exact leave1 hf rfl rfl ⟨rfl, hM.fin⟩
  · refine cond_f hf rfl hc10 ?_
    refine wp_skip ?_
    refine then_n ?_
    refine wp_seq ?_
    refine region_pl ?_
    refine q_ hf rfl rfl rfl (e_move hf rfl) fun a hf => ?_
    obtain ⟨y11, hz12, h⟩ := bind_some h
    refine pl_l hf rfl rfl rfl (w_call hf Tryz.call5 rfl (r_spec_DrawPutWord ⟨_, Sh C _ _, none_, hM.sh_lt, none_not, C.G, hM.g_lt, g_none, hM.tabs⟩ code1 _ _ (hM.dat (k := 0) rfl) _ hz12) ?_)
    rintro _ w18 ⟨rfl, hM2, hv13, hv14, hv15, hv16, hv17⟩
    obtain ⟨hM, hx19, hup20⟩ := hM.back hM2
    dsimp only [List.cons_append, List.nil_append] at hM hup20
    clear hM2
    refine ⟨_, rfl, fun a hf => ?_⟩
    refine q_ hf rfl rfl rfl (e_move hf rfl) fun a hf => ?_
    refine q_ hf rfl rfl rfl (e_extract hf rfl rfl) fun a hf => ?_
    refine q_ hf rfl rfl rfl (e_extract hf rfl rfl) fun a hf => ?_
    refine q_ hf rfl rfl rfl (e_extract hf rfl rfl) fun a hf => ?_
    refine pl_l hf rfl rfl rfl (w_alloc hM (cs := [vI (0), vI (0), vS (([] : Str))]) Tryz.zeroValue25 rfl fun b21 w22 hx23 hM a hf => ?_)
    refine pl_0 hf rfl rfl (w_store hf hM (us := [vI (y11.1.Rows), vI (y11.1.Cols), vS (y11.1.Cells)]) (cs' := [vI (y11.1.Rows), vI (y11.1.Cols), vS (y11.1.Cells)]) rfl rfl (k := 0) rfl rfl Tryz.sizeOf25 rfl rfl rfl fun w25 hM => ?_)
    dsimp only [List.set] at hM
    refine q_ hf rfl rfl rfl (e_assign hf rfl) fun a hf => ?_
    refine q_ hf rfl rfl rfl (e_assign hf rfl) fun a hf => ?_
    refine pl_nil ?_
    refine then_n ?_
    refine wp_seq ?_
    refine region_pl ?_
    refine q_ hf rfl rfl rfl (e_loadA hf (us := [vI (y11.1.Rows), vI (y11.1.Cols), vS (y11.1.Cells)]) rfl ⟨Tryz.isAgg25, Tryz.sizeOf25⟩ rfl (hM.boxSub (k := 0) (us := [vI (y11.1.Rows), vI (y11.1.Cols), vS (y11.1.Cells)]) (o := 0) rfl rfl)) fun a hf => ?_
    refine q_ hf rfl rfl rfl (e_move hf rfl) fun a hf => ?_
    refine q_ hf rfl rfl rfl (e_move hf rfl) fun a hf => ?_
    obtain ⟨y28, hz29, h⟩ := bind_some h
    refine pl_l hf rfl rfl rfl (w_call hf Tryz.call6 rfl (r_impl_PutWord ⟨_, Sh C _ _, none_, hM.sh_lt, none_not, C.G, hM.g_lt, g_none, hM.tabs⟩ y11.1 hv13 hv14 hv15 y11.2.1 hv16 y11.2.2 hv17 _ hz29) ?_)
    rintro _ w34 ⟨rfl, hM2, hv30, hv31, hv32, hv33⟩
    obtain ⟨hM, hx35, hup36⟩ := hM.back hM2
    dsimp only [List.cons_append, List.nil_append] at hM hup36
    clear hM2
    refine ⟨_, rfl, fun a hf => ?_⟩
    refine q_ hf rfl rfl rfl (e_move hf rfl) fun a hf => ?_
    refine q_ hf rfl rfl rfl (e_extract hf rfl rfl) fun a hf => ?_
    refine q_ hf rfl rfl rfl (e_extract hf rfl rfl) fun a hf => ?_
    refine pl_l hf rfl rfl rfl (w_alloc hM (cs := [vI (0), vI (0), vS (([] : Str))]) Tryz.zeroValue25 rfl fun b37 w38 hx39 hM a hf => ?_)
    refine pl_0 hf rfl rfl (w_store hf hM (us := [vI (y28.1.Rows), vI (y28.1.Cols), vS (y28.1.Cells)]) (cs' := [vI (y28.1.Rows), vI (y28.1.Cols), vS (y28.1.Cells)]) rfl rfl (k := 0) rfl rfl Tryz.sizeOf25 rfl rfl rfl fun w41 hM => ?_)
    dsimp only [List.set] at hM
    refine q_ hf rfl rfl rfl (e_assign hf rfl) fun a hf => ?_
    refine pl_nil ?_
    refine then_n ?_
    refine wp_seq ?_
    refine region_pl ?_
    refine q_ hf rfl rfl rfl (e_loadA hf (us := [vI (y11.1.Rows), vI (y11.1.Cols), vS (y11.1.Cells)]) rfl ⟨Tryz.isAgg25, Tryz.sizeOf25⟩ rfl (hM.boxSub (k := 1) (us := [vI (y11.1.Rows), vI (y11.1.Cols), vS (y11.1.Cells)]) (o := 0) rfl rfl)) fun a hf => ?_
    refine q_ hf rfl rfl rfl (e_move hf rfl) fun a hf => ?_
    refine q_ hf rfl rfl rfl (e_move hf rfl) fun a hf => ?_
    obtain ⟨y44, hz45, h⟩ := bind_some h
    refine pl_l hf rfl rfl rfl (w_call hf Tryz.call7 rfl (r_spec_PutWord ⟨_, Sh C _ _, none_, hM.sh_lt, none_not, C.G, hM.g_lt, g_none, hM.tabs⟩ y11.1 hv13 hv14 hv15 y11.2.1 hv16 y11.2.2 hv17 _ hz45) ?_)
    rintro _ w50 ⟨rfl, hM2, hv46, hv47, hv48, hv49⟩
    obtain ⟨hM, hx51, hup52⟩ := hM.back hM2
    dsimp only [List.cons_append, List.nil_append] at hM hup52
    clear hM2
    refine ⟨_, rfl, fun a hf => ?_⟩
    refine q_ hf rfl rfl rfl (e_move hf rfl) fun a hf => ?_
    refine q_ hf rfl rfl rfl (e_extract hf rfl rfl) fun a hf => ?_
    refine q_ hf rfl rfl rfl (e_extract hf rfl rfl) fun a hf => ?_
    refine pl_l hf rfl rfl rfl (w_alloc hM (cs := [vI (0), vI (0), vS (([] : Str))]) Tryz.zeroValue25 rfl fun b53 w54 hx55 hM a hf => ?_)
    refine pl_0 hf rfl rfl (w_store hf hM (us := [vI (y44.1.Rows), vI (y44.1.Cols), vS (y44.1.Cells)]) (cs' := [vI (y44.1.Rows), vI (y44.1.Cols), vS (y44.1.Cells)]) rfl rfl (k := 0) rfl rfl Tryz.sizeOf25 rfl rfl rfl fun w57 hM => ?_)
    dsimp only [List.set] at hM
    refine q_ hf rfl rfl rfl (e_assign hf rfl) fun a hf => ?_
    refine pl_nil ?_
    refine then_n ?_
    refine wp_seq ?_
    refine region_pl ?_
    refine q_ hf rfl rfl rfl (e_loadA hf (us := [vI (y11.1.Rows), vI (y11.1.Cols), vS (y11.1.Cells)]) rfl ⟨Tryz.isAgg25, Tryz.sizeOf25⟩ rfl (hM.boxSub (k := 2) (us := [vI (y11.1.Rows), vI (y11.1.Cols), vS (y11.1.Cells)]) (o := 0) rfl rfl)) fun a hf => ?_
    obtain ⟨y60, hz61, h⟩ := bind_some h
    refine pl_l hf rfl rfl rfl (w_call hf Tryz.call8 rfl (r_impl_SlotsOf ⟨_, Sh C _ _, none_, hM.sh_lt, none_not, C.G, hM.g_lt, g_none, hM.tabs⟩ y11.1 hv13 hv14 hv15 _ hz61) ?_)
    rintro _ w65 ⟨A62, c63, rfl, hM2, hv64⟩
    obtain ⟨hM, hx66, hup67⟩ := hM.back hM2
    dsimp only [List.cons_append, List.nil_append] at hM hup67
    clear hM2
    refine ⟨_, rfl, fun a hf => ?_⟩
    refine q_ hf rfl rfl rfl (e_move hf rfl) fun a hf => ?_
    refine q_ hf rfl rfl rfl (e_extract hf rfl rfl) fun a hf => ?_
    refine q_ hf rfl rfl rfl (e_extract hf rfl rfl) fun a hf => ?_
    refine q_ hf rfl rfl rfl (e_assign hf rfl) fun a hf => ?_
    refine q_ hf rfl rfl rfl (e_assign hf rfl) fun a hf => ?_
    refine pl_nil ?_
    refine then_n ?_
    refine wp_seq ?_
    refine region_pl ?_
    refine q_ hf rfl rfl rfl (e_loadA hf (us := [vI (y11.1.Rows), vI (y11.1.Cols), vS (y11.1.Cells)]) rfl ⟨Tryz.isAgg25, Tryz.sizeOf25⟩ rfl (hM.boxSub (k := 3) (us := [vI (y11.1.Rows), vI (y11.1.Cols), vS (y11.1.Cells)]) (o := 0) rfl rfl)) fun a hf => ?_
    obtain ⟨y68, hz69, h⟩ := bind_some h
    refine pl_l hf rfl rfl rfl (w_call hf Tryz.call9 rfl (r_spec_SlotsOf ⟨_, Sh C _ _, none_, hM.sh_lt, none_not, C.G, hM.g_lt, g_none, hM.tabs⟩ y11.1 hv13 hv14 hv15 _ hz69) ?_)
    rintro _ w73 ⟨A70, c71, rfl, hM2, hv72⟩
    obtain ⟨hM, hx74, hup75⟩ := hM.back hM2
    dsimp only [List.cons_append, List.nil_append] at hM hup75
    clear hM2
    refine ⟨_, rfl, fun a hf => ?_⟩
    refine q_ hf rfl rfl rfl (e_move hf rfl) fun a hf => ?_
    refine q_ hf rfl rfl rfl (e_extract hf rfl rfl) fun a hf => ?_
    refine q_ hf rfl rfl rfl (e_extract hf rfl rfl) fun a hf => ?_
    refine q_ hf rfl rfl rfl (e_assign hf rfl) fun a hf => ?_
    refine q_ hf rfl rfl rfl (e_assign hf rfl) fun a hf => ?_
    refine pl_nil ?_
    refine then_n ?_
    refine wp_seq ?_
    refine region_pl ?_
    refine q_ hf rfl rfl rfl (e_loadA hf (us := [vI (y11.1.Rows), vI (y11.1.Cols), vS (y11.1.Cells)]) rfl ⟨Tryz.isAgg25, Tryz.sizeOf25⟩ rfl (hM.boxSub (k := 4) (us := [vI (y11.1.Rows), vI (y11.1.Cols), vS (y11.1.Cells)]) (o := 0) rfl rfl)) fun a hf => ?_
    refine q_ hf rfl rfl rfl (e_move hf rfl) fun a hf => ?_
    obtain ⟨y76, hz77, h⟩ := bind_some h
    refine pl_l hf rfl rfl rfl (w_call hf Tryz.call10 rfl (r_impl_PatternOf ⟨_, Sh C _ _, none_, hM.sh_lt, none_not, C.G, hM.g_lt, g_none, hM.tabs⟩ y11.1 hv13 hv14 hv15 y11.2.1 hv16 _ hz77) ?_)
    rintro _ w80 ⟨rfl, hM2, hv78, hv79⟩
    obtain ⟨hM, hx81, hup82⟩ := hM.back hM2
    dsimp only [List.cons_append, List.nil_append] at hM hup82
    clear hM2
    refine ⟨_, rfl, fun a hf => ?_⟩
    refine q_ hf rfl rfl rfl (e_move hf rfl) fun a hf => ?_
    refine q_ hf rfl rfl rfl (e_extract hf rfl rfl) fun a hf => ?_
    refine q_ hf rfl rfl rfl (e_extract hf rfl rfl) fun a hf => ?_
    refine q_ hf rfl rfl rfl (e_assign hf rfl) fun a hf => ?_
    refine q_ hf rfl rfl rfl (e_assign hf rfl) fun a hf => ?_
    refine pl_nil ?_
    refine then_n ?_
    refine wp_seq ?_
    refine region_pl ?_
    refine q_ hf rfl rfl rfl (e_loadA hf (us := [vI (y11.1.Rows), vI (y11.1.Cols), vS (y11.1.Cells)]) rfl ⟨Tryz.isAgg25, Tryz.sizeOf25⟩ rfl (hM.boxSub (k := 4) (us := [vI (y11.1.Rows), vI (y11.1.Cols), vS (y11.1.Cells)]) (o := 0) rfl rfl)) fun a hf => ?_
    refine q_ hf rfl rfl rfl (e_move hf rfl) fun a hf => ?_
    obtain ⟨y83, hz84, h⟩ := bind_some h
    refine pl_l hf rfl rfl rfl (w_call hf Tryz.call11 rfl (r_spec_PatternOf ⟨_, Sh C _ _, none_, hM.sh_lt, none_not, C.G, hM.g_lt, g_none, hM.tabs⟩ y11.1 hv13 hv14 hv15 y11.2.1 hv16 _ hz84) ?_)
    rintro _ w87 ⟨rfl, hM2, hv85, hv86⟩
    obtain ⟨hM, hx88, hup89⟩ := hM.back hM2
    dsimp only [List.cons_append, List.nil_append] at hM hup89
    clear hM2
    refine ⟨_, rfl, fun a hf => ?_⟩
    refine q_ hf rfl rfl rfl (e_move hf rfl) fun a hf => ?_
    refine q_ hf rfl rfl rfl (e_extract hf rfl rfl) fun a hf => ?_
    refine q_ hf rfl rfl rfl (e_extract hf rfl rfl) fun a hf => ?_
    refine q_ hf rfl rfl rfl (e_assign hf rfl) fun a hf => ?_
    refine q_ hf rfl rfl rfl (e_assign hf rfl) fun a hf => ?_
    refine pl_nil ?_
    refine then_n ?_
    refine wp_seq ?_
    refine region_pl ?_
    refine q_ hf rfl rfl rfl (e_loadA hf (us := [vI (y11.1.Rows), vI (y11.1.Cols), vS (y11.1.Cells)]) rfl ⟨Tryz.isAgg25, Tryz.sizeOf25⟩ rfl (hM.boxSub (k := 4) (us := [vI (y11.1.Rows), vI (y11.1.Cols), vS (y11.1.Cells)]) (o := 0) rfl rfl)) fun a hf => ?_
    obtain ⟨y90, hz91, h⟩ := bind_some h
    refine pl_l hf rfl rfl rfl (w_call hf Tryz.call12 rfl (r_impl_GridText ⟨_, Sh C _ _, none_, hM.sh_lt, none_not, C.G, hM.g_lt, g_none, hM.tabs⟩ y11.1 hv13 hv14 hv15 _ hz91) ?_)
    rintro _ w93 ⟨rfl, hM2, hv92⟩
    obtain ⟨hM, hx94, hup95⟩ := hM.back hM2
    dsimp only [List.cons_append, List.nil_append] at hM hup95
    clear hM2
    refine ⟨_, rfl, fun a hf => ?_⟩
    refine q_ hf rfl rfl rfl (e_assign hf rfl) fun a hf => ?_
    refine pl_nil ?_
    refine then_n ?_
    refine wp_seq ?_
    refine region_pl ?_
    refine q_ hf rfl rfl rfl (e_move hf rfl) fun a hf => ?_
    obtain ⟨y96, hz97, h⟩ := bind_some h
    refine pl_l hf rfl rfl rfl (w_call hf Tryz.call13 rfl (r_impl_ReadGrid ⟨_, Sh C _ _, none_, hM.sh_lt, none_not, C.G, hM.g_lt, g_none, hM.tabs⟩ y90 hv92 _ hz97) ?_)
    rintro _ w101 ⟨rfl, hM2, hv98, hv99, hv100⟩
    obtain ⟨hM, hx102, hup103⟩ := hM.back hM2
    dsimp only [List.cons_append, List.nil_append] at hM hup103
    clear hM2
    refine ⟨_, rfl, fun a hf => ?_⟩
    refine q_ hf rfl rfl rfl (e_move hf rfl) fun a hf => ?_
    refine q_ hf rfl rfl rfl (e_extract hf rfl rfl) fun a hf => ?_
    refine q_ hf rfl rfl rfl (e_extract hf rfl rfl) fun a hf => ?_
    refine pl_l hf rfl rfl rfl (w_alloc hM (cs := [vI (0), vI (0), vS (([] : Str))]) Tryz.zeroValue25 rfl fun b104 w105 hx106 hM a hf => ?_)
    refine pl_0 hf rfl rfl (w_store hf hM (us := [vI (y96.1.Rows), vI (y96.1.Cols), vS (y96.1.Cells)]) (cs' := [vI (y96.1.Rows), vI (y96.1.Cols), vS (y96.1.Cells)]) rfl rfl (k := 0) rfl rfl Tryz.sizeOf25 rfl rfl rfl fun w108 hM => ?_)
    dsimp only [List.set] at hM
    refine q_ hf rfl rfl rfl (e_assign hf rfl) fun a hf => ?_
    refine pl_nil ?_
    refine then_n ?_
    refine wp_seq ?_
    refine region_pl ?_
    refine q_ hf rfl rfl rfl (e_move hf rfl) fun a hf => ?_
    obtain ⟨y111, hz112, h⟩ := bind_some h
    refine pl_l hf rfl rfl rfl (w_call hf Tryz.call14 rfl (r_spec_DrawReadGrid ⟨_, Sh C _ _, none_, hM.sh_lt, none_not, C.G, hM.g_lt, g_none, hM.tabs⟩ code1 _ _ (hM.dat (k := 0) rfl) _ hz112) ?_)
    rintro _ w114 ⟨rfl, hM2, hv113⟩
    obtain ⟨hM, hx115, hup116⟩ := hM.back hM2
    dsimp only [List.cons_append, List.nil_append] at hM hup116
    clear hM2
    refine ⟨_, rfl, fun a hf => ?_⟩
    refine q_ hf rfl rfl rfl (e_assign hf rfl) fun a hf => ?_
    refine pl_nil ?_
    refine then_n ?_
    refine wp_seq ?_
    refine region_pl ?_
    refine q_ hf rfl rfl rfl (e_move hf rfl) fun a hf => ?_
    obtain ⟨y117, hz118, h⟩ := bind_some h
    refine pl_l hf rfl rfl rfl (w_call hf Tryz.call13 rfl (r_impl_ReadGrid ⟨_, Sh C _ _, none_, hM.sh_lt, none_not, C.G, hM.g_lt, g_none, hM.tabs⟩ y111 hv113 _ hz118) ?_)
    rintro _ w122 ⟨rfl, hM2, hv119, hv120, hv121⟩
    obtain ⟨hM, hx123, hup124⟩ := hM.back hM2
    dsimp only [List.cons_append, List.nil_append] at hM hup124
    clear hM2
    refine ⟨_, rfl, fun a hf => ?_⟩
    refine q_ hf rfl rfl rfl (e_move hf rfl) fun a hf => ?_
    refine q_ hf rfl rfl rfl (e_extract hf rfl rfl) fun a hf => ?_
    refine q_ hf rfl rfl rfl (e_extract hf rfl rfl) fun a hf => ?_
    refine pl_l hf rfl rfl rfl (w_alloc hM (cs := [vI (0), vI (0), vS (([] : Str))]) Tryz.zeroValue25 rfl fun b125 w126 hx127 hM a hf => ?_)
    refine pl_0 hf rfl rfl (w_store hf hM (us := [vI (y117.1.Rows), vI (y117.1.Cols), vS (y117.1.Cells)]) (cs' := [vI (y117.1.Rows), vI (y117.1.Cols), vS (y117.1.Cells)]) rfl rfl (k := 0) rfl rfl Tryz.sizeOf25 rfl rfl rfl fun w129 hM => ?_)
    dsimp only [List.set] at hM
    refine q_ hf rfl rfl rfl (e_assign hf rfl) fun a hf => ?_
    refine pl_nil ?_
    refine then_n ?_
    refine wp_seq ?_
    refine region_pl ?_
    refine q_ hf rfl rfl rfl (e_move hf rfl) fun a hf => ?_
    obtain ⟨y132, hz133, h⟩ := bind_some h
    refine pl_l hf rfl rfl rfl (w_call hf Tryz.call15 rfl (r_spec_ReadGrid ⟨_, Sh C _ _, none_, hM.sh_lt, none_not, C.G, hM.g_lt, g_none, hM.tabs⟩ y111 hv113 _ hz133) ?_)
    rintro _ w137 ⟨rfl, hM2, hv134, hv135, hv136⟩
    obtain ⟨hM, hx138, hup139⟩ := hM.back hM2
    dsimp only [List.cons_append, List.nil_append] at hM hup139
    clear hM2
    refine ⟨_, rfl, fun a hf => ?_⟩
    refine q_ hf rfl rfl rfl (e_move hf rfl) fun a hf => ?_
    refine q_ hf rfl rfl rfl (e_extract hf rfl rfl) fun a hf => ?_
    refine q_ hf rfl rfl rfl (e_extract hf rfl rfl) fun a hf => ?_
    refine pl_l hf rfl rfl rfl (w_alloc hM (cs := [vI (0), vI (0), vS (([] : Str))]) Tryz.zeroValue25 rfl fun b140 w141 hx142 hM a hf => ?_)
    refine pl_0 hf rfl rfl (w_store hf hM (us := [vI (y132.1.Rows), vI (y132.1.Cols), vS (y132.1.Cells)]) (cs' := [vI (y132.1.Rows), vI (y132.1.Cols), vS (y132.1.Cells)]) rfl rfl (k := 0) rfl rfl Tryz.sizeOf25 rfl rfl rfl fun w144 hM => ?_)
    dsimp only [List.set] at hM
    refine q_ hf rfl rfl rfl (e_assign hf rfl) fun a hf => ?_
    refine pl_nil ?_
    refine then_n ?_
    refine wp_seq ?_
    refine region_pl ?_
    refine q_ hf rfl rfl rfl (e_move hf rfl) fun a hf => ?_
    obtain ⟨y147, hz148, h⟩ := bind_some h
    refine pl_l hf rfl rfl rfl (w_call hf Tryz.call16 rfl (r_spec_DrawCandidatesOf ⟨_, Sh C _ _, none_, hM.sh_lt, none_not, C.G, hM.g_lt, g_none, hM.tabs⟩ code1 _ _ (hM.dat (k := 0) rfl) _ hz148) ?_)
    rintro _ w155 ⟨A152, c153, rfl, hM2, hv149, hv150, hv151, hv154⟩
    obtain ⟨hM, hx156, hup157⟩ := hM.back hM2
    dsimp only [List.cons_append, List.nil_append] at hM hup157
    clear hM2
    refine ⟨_, rfl, fun a hf => ?_⟩
    refine q_ hf rfl rfl rfl (e_move hf rfl) fun a hf => ?_
    refine q_ hf rfl rfl rfl (e_extract hf rfl rfl) fun a hf => ?_
    refine q_ hf rfl rfl rfl (e_extract hf rfl rfl) fun a hf => ?_
    refine q_ hf rfl rfl rfl (e_extract hf rfl rfl) fun a hf => ?_
    refine pl_l hf rfl rfl rfl (w_alloc hM (cs := [vI (0), vI (0), vS (([] : Str))]) Tryz.zeroValue25 rfl fun b158 w159 hx160 hM a hf => ?_)
    refine pl_l hf rfl rfl rfl (w_alloc hM (cs := [vL none (([] : (List Str))) 0]) Tryz.zeroValue41 rfl fun b162 w163 hx164 hM a hf => ?_)
    refine pl_0 hf rfl rfl (w_store hf hM (us := [vI (y147.1.Rows), vI (y147.1.Cols), vS (y147.1.Cells)]) (cs' := [vI (y147.1.Rows), vI (y147.1.Cols), vS (y147.1.Cells)]) rfl rfl (k := 1) rfl rfl Tryz.sizeOf25 rfl rfl rfl fun w166 hM => ?_)
    dsimp only [List.set] at hM
    refine pl_0 hf rfl rfl (w_store hf hM (us := [vL A152 (y147.2.1.Words) c153]) (cs' := [vL A152 (y147.2.1.Words) c153]) rfl rfl (k := 0) rfl rfl Tryz.sizeOf41 rfl rfl rfl fun w169 hM => ?_)
    dsimp only [List.set] at hM
    refine q_ hf rfl rfl rfl (e_assign hf rfl) fun a hf => ?_
    refine pl_nil ?_
    refine then_n ?_
    refine wp_seq ?_
    refine region_pl ?_
    refine q_ hf rfl rfl rfl (e_loadA hf (us := [vI (y147.1.Rows), vI (y147.1.Cols), vS (y147.1.Cells)]) rfl ⟨Tryz.isAgg25, Tryz.sizeOf25⟩ rfl (hM.boxSub (k := 1) (us := [vI (y147.1.Rows), vI (y147.1.Cols), vS (y147.1.Cells)]) (o := 0) rfl rfl)) fun a hf => ?_
    refine q_ hf rfl rfl rfl (e_loadA hf (us := [vL A152 (y147.2.1.Words) c153]) rfl ⟨Tryz.isAgg41, Tryz.sizeOf41⟩ rfl (hM.boxSub (k := 0) (us := [vL A152 (y147.2.1.Words) c153]) (o := 0) rfl rfl)) fun a hf => ?_
    refine q_ hf rfl rfl rfl (e_move hf rfl) fun a hf => ?_
    obtain ⟨y172, hz173, h⟩ := bind_some h
    refine pl_l hf rfl rfl rfl (w_call hf Tryz.call17 rfl (r_impl_CandidatesOf ⟨_, All C _ _, none_, hM.all_lt, none_not, C.G, hM.g_lt, g_none, hM.tabs⟩ y147.1 hv149 hv150 hv151 y147.2.1 _ _ (hM.lendRow (k := 2) rfl) y147.2.2 hv154 _ hz173) ?_)
    rintro _ w177 ⟨A174, c175, rfl, hM2, hv176⟩
    obtain ⟨hM, hx178⟩ := hM.backAF strRep_flat hM2
    clear hM2
    refine ⟨_, rfl, fun a hf => ?_⟩
    refine q_ hf rfl rfl rfl (e_move hf rfl) fun a hf => ?_
    refine q_ hf rfl rfl rfl (e_extract hf rfl rfl) fun a hf => ?_
    refine q_ hf rfl rfl rfl (e_extract hf rfl rfl) fun a hf => ?_
    refine q_ hf rfl rfl rfl (e_assign hf rfl) fun a hf => ?_
    refine q_ hf rfl rfl rfl (e_assign hf rfl) fun a hf => ?_
    refine pl_nil ?_
    refine then_n ?_
    refine wp_seq ?_
    refine region_pl ?_
    refine q_ hf rfl rfl rfl (e_loadA hf (us := [vI (y147.1.Rows), vI (y147.1.Cols), vS (y147.1.Cells)]) rfl ⟨Tryz.isAgg25, Tryz.sizeOf25⟩ rfl (hM.boxSub (k := 2) (us := [vI (y147.1.Rows), vI (y147.1.Cols), vS (y147.1.Cells)]) (o := 0) rfl rfl)) fun a hf => ?_
    refine q_ hf rfl rfl rfl (e_loadA hf (us := [vL A152 (y147.2.1.Words) c153]) rfl ⟨Tryz.isAgg41, Tryz.sizeOf41⟩ rfl (hM.boxSub (k := 1) (us := [vL A152 (y147.2.1.Words) c153]) (o := 0) rfl rfl)) fun a hf => ?_
    refine q_ hf rfl rfl rfl (e_move hf rfl) fun a hf => ?_
    obtain ⟨y180, hz181, h⟩ := bind_some h
    refine pl_l hf rfl rfl rfl (w_call hf Tryz.call18 rfl (r_spec_CandidatesOf ⟨_, All C _ _, none_, hM.all_lt, none_not, C.G, hM.g_lt, g_none, hM.tabs⟩ y147.1 hv149 hv150 hv151 y147.2.1 _ _ (hM.lendRow (k := 3) rfl) y147.2.2 hv154 _ hz181) ?_)
    rintro _ w185 ⟨A182, c183, rfl, hM2, hv184⟩
    obtain ⟨hM, hx186⟩ := hM.backAF strRep_flat hM2
    clear hM2
    refine ⟨_, rfl, fun a hf => ?_⟩
    refine q_ hf rfl rfl rfl (e_move hf rfl) fun a hf => ?_
    refine q_ hf rfl rfl rfl (e_extract hf rfl rfl) fun a hf => ?_
    refine q_ hf rfl rfl rfl (e_extract hf rfl rfl) fun a hf => ?_
    refine q_ hf rfl rfl rfl (e_assign hf rfl) fun a hf => ?_
    refine q_ hf rfl rfl rfl (e_assign hf rfl) fun a hf => ?_
    refine pl_nil ?_
    refine then_n ?_
    refine wp_seq ?_
    obtain ⟨x190, h191, h⟩ := bind_some h
    refine seq_join (fun a w => ∃ (t188 : Bool), t188 = x190 ∧ Has 248 a [(4, vI (y11.2.1)), (5, vS (y11.2.2)), (6, vP b37 (0)), (7, vI (y28.2)), (26, vP b158 (0)), (28, vI (y147.2.2)), (29, vL A174 (y172.1) c175), (30, vI (y172.2)), (192, .bool (t188))] ∧ Mem C w [.row strRep A182 c183 9 y180.1 true, .row strRep A174 c175 9 y172.1 true, .box b162 [vL A152 (y147.2.1.Words) c153] 41, .box b158 [vI (y147.1.Rows), vI (y147.1.Cols), vS (y147.1.Cells)] 25, .row strRep A152 c153 9 y147.2.1.Words true, .box b140 [vI (y132.1.Rows), vI (y132.1.Cols), vS (y132.1.Cells)] 25, .box b125 [vI (y117.1.Rows), vI (y117.1.Cols), vS (y117.1.Cells)] 25, .box b104 [vI (y96.1.Rows), vI (y96.1.Cols), vS (y96.1.Cells)] 25, .row SlotRep A70 c71 60 y68.1 true, .row SlotRep A62 c63 60 y60.1 true, .box b53 [vI (y44.1.Rows), vI (y44.1.Cols), vS (y44.1.Cells)] 25, .box b37 [vI (y28.1.Rows), vI (y28.1.Cols), vS (y28.1.Cells)] 25, .box b21 [vI (y11.1.Rows), vI (y11.1.Cols), vS (y11.1.Cells)] 25] [.dat (sliceRep byteRep) code1 [vL A2 code1 c3]]) ?_ ?_
    · refine region_pl ?_
      refine q_ hf rfl rfl rfl (e_move hf rfl) fun a hf => ?_
      refine q_ hf rfl rfl rfl (e_move hf rfl) fun a hf => ?_
      refine q_ hf rfl rfl rfl (e_ne hf (x := y28.2) (y := y44.2) rfl rfl) fun a hf => ?_
      refine q_ hf rfl rfl rfl (e_move hf rfl) fun a hf => ?_
      rcases cond_some h191 with ⟨hc192, h191⟩ | ⟨hc192, h191⟩
      · refine pl_gs (wanted_f hf rfl rfl rfl rfl hc192) hf rfl rfl fun a hf => ?_
        refine pl_gs (wanted_f hf rfl rfl rfl rfl hc192) hf rfl rfl fun a hf => ?_
        refine pl_gs (wanted_f hf rfl rfl rfl rfl hc192) hf rfl rfl fun a hf => ?_
        refine q_ hf rfl rfl rfl (e_pick_t hf rfl hc192 rfl) fun a hf => ?_
        refine q_ hf rfl rfl rfl (e_move hf rfl) fun a hf => ?_
        refine pl_gs (wanted_f hf rfl rfl rfl rfl rfl) hf rfl rfl fun a hf => ?_
        refine pl_gs (wanted_f hf rfl rfl rfl rfl rfl) hf rfl rfl fun a hf => ?_
        refine pl_gs (wanted_f hf rfl rfl rfl rfl rfl) hf rfl rfl fun a hf => ?_
        refine q_ hf rfl rfl rfl (e_pick_t hf rfl rfl rfl) fun a hf => ?_
        refine q_ hf rfl rfl rfl (e_move hf rfl) fun a hf => ?_
        refine pl_gs (wanted_f hf rfl rfl rfl rfl rfl) hf rfl rfl fun a hf => ?_
        refine pl_gs (wanted_f hf rfl rfl rfl rfl rfl) hf rfl rfl fun a hf => ?_
        refine pl_gs (wanted_f hf rfl rfl rfl rfl rfl) hf rfl rfl fun a hf => ?_
        refine pl_gs (wanted_f hf rfl rfl rfl rfl rfl) hf rfl rfl fun a hf => ?_
        refine q_ hf rfl rfl rfl (e_pick_t hf rfl rfl rfl) fun a hf => ?_
        refine q_ hf rfl rfl rfl (e_move hf rfl) fun a hf => ?_
        refine pl_gs (wanted_f hf rfl rfl rfl rfl rfl) hf rfl rfl fun a hf => ?_
        refine pl_gs (wanted_f hf rfl rfl rfl rfl rfl) hf rfl rfl fun a hf => ?_
        refine pl_gs (wanted_f hf rfl rfl rfl rfl rfl) hf rfl rfl fun a hf => ?_
        refine q_ hf rfl rfl rfl (e_pick_t hf rfl rfl rfl) fun a hf => ?_
        refine q_ hf rfl rfl rfl (e_move hf rfl) fun a hf => ?_
        refine pl_gs (wanted_f hf rfl rfl rfl rfl rfl) hf rfl rfl fun a hf => ?_
        refine pl_gs (wanted_f hf rfl rfl rfl rfl rfl) hf rfl rfl fun a hf => ?_
        refine pl_gs (wanted_f hf rfl rfl rfl rfl rfl) hf rfl rfl fun a hf => ?_
        refine q_ hf rfl rfl rfl (e_pick_t hf rfl rfl rfl) fun a hf => ?_
        refine q_ hf rfl rfl rfl (e_move hf rfl) fun a hf => ?_
        refine pl_gs (wanted_f hf rfl rfl rfl rfl rfl) hf rfl rfl fun a hf => ?_
        refine pl_gs (wanted_f hf rfl rfl rfl rfl rfl) hf rfl rfl fun a hf => ?_
        refine pl_gs (wanted_f hf rfl rfl rfl rfl rfl) hf rfl rfl fun a hf => ?_
        refine pl_gs (wanted_f hf rfl rfl rfl rfl rfl) hf rfl rfl fun a hf => ?_
        refine q_ hf rfl rfl rfl (e_pick_t hf rfl rfl rfl) fun a hf => ?_
        refine q_ hf rfl rfl rfl (e_move hf rfl) fun a hf => ?_
        refine pl_gs (wanted_f hf rfl rfl rfl rfl rfl) hf rfl rfl fun a hf => ?_
        refine pl_gs (wanted_f hf rfl rfl rfl rfl rfl) hf rfl rfl fun a hf => ?_
        refine pl_gs (wanted_f hf rfl rfl rfl rfl rfl) hf rfl rfl fun a hf => ?_
        refine pl_gs (wanted_f hf rfl rfl rfl rfl rfl) hf rfl rfl fun a hf => ?_
        refine q_ hf rfl rfl rfl (e_pick_t hf rfl rfl rfl) fun a hf => ?_
        refine q_ hf rfl rfl rfl (e_move hf rfl) fun a hf => ?_
        refine pl_gs (wanted_f hf rfl rfl rfl rfl rfl) hf rfl rfl fun a hf => ?_
        refine pl_gs (wanted_f hf rfl rfl rfl rfl rfl) hf rfl rfl fun a hf => ?_
        refine pl_gs (wanted_u hf rfl rfl rfl rfl) hf rfl rfl fun a hf => ?_
        refine pl_gs (wanted_u hf rfl rfl rfl rfl) hf rfl rfl fun a hf => ?_
        refine pl_gs (wanted_u hf rfl rfl rfl rfl) hf rfl rfl fun a hf => ?_
        refine pl_gs (wanted_f hf rfl rfl rfl rfl rfl) hf rfl rfl fun a hf => ?_
        refine q_ hf rfl rfl rfl (e_pick_t hf rfl rfl rfl) fun a hf => ?_
        refine q_ hf rfl rfl rfl (e_move hf rfl) fun a hf => ?_
        refine pl_gs (wanted_f hf rfl rfl rfl rfl rfl) hf rfl rfl fun a hf => ?_
        refine pl_gs (wanted_f hf rfl rfl rfl rfl rfl) hf rfl rfl fun a hf => ?_
        refine pl_gs (wanted_f hf rfl rfl rfl rfl rfl) hf rfl rfl fun a hf => ?_
        refine q_ hf rfl rfl rfl (e_pick_t hf rfl rfl rfl) fun a hf => ?_
        refine q_ hf rfl rfl rfl (e_move hf rfl) fun a hf => ?_
        refine pl_gs (wanted_f hf rfl rfl rfl rfl rfl) hf rfl rfl fun a hf => ?_
        refine pl_gs (wanted_f hf rfl rfl rfl rfl rfl) hf rfl rfl fun a hf => ?_
        refine pl_gs (wanted_f hf rfl rfl rfl rfl rfl) hf rfl rfl fun a hf => ?_
        refine q_ hf rfl rfl rfl (e_pick_t hf rfl rfl rfl) fun a hf => ?_
        refine q_ hf rfl rfl rfl (e_move hf rfl) fun a hf => ?_
        refine pl_gs (wanted_f hf rfl rfl rfl rfl rfl) hf rfl rfl fun a hf => ?_
        refine pl_gs (wanted_f hf rfl rfl rfl rfl rfl) hf rfl rfl fun a hf => ?_
        refine pl_gs (wanted_f hf rfl rfl rfl rfl rfl) hf rfl rfl fun a hf => ?_
        refine q_ hf rfl rfl rfl (e_pick_t hf rfl rfl rfl) fun a hf => ?_
        refine q_ hf rfl rfl rfl (e_move hf rfl) fun a hf => ?_
        refine pl_gs (wanted_f hf rfl rfl rfl rfl rfl) hf rfl rfl fun a hf => ?_
        refine pl_gs (wanted_f hf rfl rfl rfl rfl rfl) hf rfl rfl fun a hf => ?_
        refine pl_gs (wanted_f hf rfl rfl rfl rfl rfl) hf rfl rfl fun a hf => ?_
        refine pl_gs (wanted_f hf rfl rfl rfl rfl rfl) hf rfl rfl fun a hf => ?_
        refine q_ hf rfl rfl rfl (e_pick_t hf rfl rfl rfl) fun a hf => ?_
        refine pl_nil ?_
        obtain rfl := some_inj h191
        refine then_n ?_
        exact ⟨true, rfl, hf.keep ⟨rfl, rfl, rfl, rfl, rfl, rfl, rfl, rfl, rfl, trivial⟩, hM.pick [0] rfl⟩
      · refine gq (wanted_t hf rfl rfl rfl rfl hc192) hf rfl rfl (e_loadA hf (us := [vI (y28.1.Rows), vI (y28.1.Cols), vS (y28.1.Cells)]) rfl ⟨Tryz.isAgg25, Tryz.sizeOf25⟩ rfl (hM.boxSub (k := 11) (us := [vI (y28.1.Rows), vI (y28.1.Cols), vS (y28.1.Cells)]) (o := 0) rfl rfl)) fun a hf => ?_
        refine gq (wanted_t hf rfl rfl rfl rfl hc192) hf rfl rfl (e_loadA hf (us := [vI (y44.1.Rows), vI (y44.1.Cols), vS (y44.1.Cells)]) rfl ⟨Tryz.isAgg25, Tryz.sizeOf25⟩ rfl (hM.boxSub (k := 10) (us := [vI (y44.1.Rows), vI (y44.1.Cols), vS (y44.1.Cells)]) (o := 0) rfl rfl)) fun a hf => ?_
        refine gq (wanted_t hf rfl rfl rfl rfl hc192) hf rfl rfl (Grid_neq hf (x := y28.1) (y := y44.1) rfl rfl) fun a hf => ?_
        refine q_ hf rfl rfl rfl (e_pick_f hf rfl hc192 rfl) fun a hf => ?_
        refine q_ hf rfl rfl rfl (e_move hf rfl) fun a hf => ?_
        rcases cond_some h191 with ⟨hc194, h191⟩ | ⟨hc194, h191⟩
        · refine pl_gs (wanted_f hf rfl rfl rfl rfl hc194) hf rfl rfl fun a hf => ?_
          refine pl_gs (wanted_f hf rfl rfl rfl rfl hc194) hf rfl rfl fun a hf => ?_
          refine pl_gs (wanted_f hf rfl rfl rfl rfl hc194) hf rfl rfl fun a hf => ?_
          refine q_ hf rfl rfl rfl (e_pick_t hf rfl hc194 rfl) fun a hf => ?_
          refine q_ hf rfl rfl rfl (e_move hf rfl) fun a hf => ?_
          refine pl_gs (wanted_f hf rfl rfl rfl rfl rfl) hf rfl rfl fun a hf => ?_
          refine pl_gs (wanted_f hf rfl rfl rfl rfl rfl) hf rfl rfl fun a hf => ?_
          refine pl_gs (wanted_f hf rfl rfl rfl rfl rfl) hf rfl rfl fun a hf => ?_
          refine pl_gs (wanted_f hf rfl rfl rfl rfl rfl) hf rfl rfl fun a hf => ?_
          refine q_ hf rfl rfl rfl (e_pick_t hf rfl rfl rfl) fun a hf => ?_
          refine q_ hf rfl rfl rfl (e_move hf rfl) fun a hf => ?_
          refine pl_gs (wanted_f hf rfl rfl rfl rfl rfl) hf rfl rfl fun a hf => ?_
          refine pl_gs (wanted_f hf rfl rfl rfl rfl rfl) hf rfl rfl fun a hf => ?_
          refine pl_gs (wanted_f hf rfl rfl rfl rfl rfl) hf rfl rfl fun a hf => ?_
          refine q_ hf rfl rfl rfl (e_pick_t hf rfl rfl rfl) fun a hf => ?_
          refine q_ hf rfl rfl rfl (e_move hf rfl) fun a hf => ?_
          refine pl_gs (wanted_f hf rfl rfl rfl rfl rfl) hf rfl rfl fun a hf => ?_
          refine pl_gs (wanted_f hf rfl rfl rfl rfl rfl) hf rfl rfl fun a hf => ?_
          refine pl_gs (wanted_f hf rfl rfl rfl rfl rfl) hf rfl rfl fun a hf => ?_
          refine q_ hf rfl rfl rfl (e_pick_t hf rfl rfl rfl) fun a hf => ?_
          refine q_ hf rfl rfl rfl (e_move hf rfl) fun a hf => ?_
          refine pl_gs (wanted_f hf rfl rfl rfl rfl rfl) hf rfl rfl fun a hf => ?_
          refine pl_gs (wanted_f hf rfl rfl rfl rfl rfl) hf rfl rfl fun a hf => ?_
          refine pl_gs (wanted_f hf rfl rfl rfl rfl rfl) hf rfl rfl fun a hf => ?_
          refine pl_gs (wanted_f hf rfl rfl rfl rfl rfl) hf rfl rfl fun a hf => ?_
          refine q_ hf rfl rfl rfl (e_pick_t hf rfl rfl rfl) fun a hf => ?_
          refine q_ hf rfl rfl rfl (e_move hf rfl) fun a hf => ?_
          refine pl_gs (wanted_f hf rfl rfl rfl rfl rfl) hf rfl rfl fun a hf => ?_
          refine pl_gs (wanted_f hf rfl rfl rfl rfl rfl) hf rfl rfl fun a hf => ?_
          refine pl_gs (wanted_f hf rfl rfl rfl rfl rfl) hf rfl rfl fun a hf => ?_
          refine pl_gs (wanted_f hf rfl rfl rfl rfl rfl) hf rfl rfl fun a hf => ?_
          refine q_ hf rfl rfl rfl (e_pick_t hf rfl rfl rfl) fun a hf => ?_
          refine q_ hf rfl rfl rfl (e_move hf rfl) fun a hf => ?_
          refine pl_gs (wanted_f hf rfl rfl rfl rfl rfl) hf rfl rfl fun a hf => ?_
          refine pl_gs (wanted_f hf rfl rfl rfl rfl rfl) hf rfl rfl fun a hf => ?_
          refine pl_gs (wanted_u hf rfl rfl rfl rfl) hf rfl rfl fun a hf => ?_
          refine pl_gs (wanted_u hf rfl rfl rfl rfl) hf rfl rfl fun a hf => ?_
          refine pl_gs (wanted_u hf rfl rfl rfl rfl) hf rfl rfl fun a hf => ?_
          refine pl_gs (wanted_f hf rfl rfl rfl rfl rfl) hf rfl rfl fun a hf => ?_
          refine q_ hf rfl rfl rfl (e_pick_t hf rfl rfl rfl) fun a hf => ?_
          refine q_ hf rfl rfl rfl (e_move hf rfl) fun a hf => ?_
          refine pl_gs (wanted_f hf rfl rfl rfl rfl rfl) hf rfl rfl fun a hf => ?_
          refine pl_gs (wanted_f hf rfl rfl rfl rfl rfl) hf rfl rfl fun a hf => ?_
          refine pl_gs (wanted_f hf rfl rfl rfl rfl rfl) hf rfl rfl fun a hf => ?_
          refine q_ hf rfl rfl rfl (e_pick_t hf rfl rfl rfl) fun a hf => ?_
          refine q_ hf rfl rfl rfl (e_move hf rfl) fun a hf => ?_
          refine pl_gs (wanted_f hf rfl rfl rfl rfl rfl) hf rfl rfl fun a hf => ?_
          refine pl_gs (wanted_f hf rfl rfl rfl rfl rfl) hf rfl rfl fun a hf => ?_
          refine pl_gs (wanted_f hf rfl rfl rfl rfl rfl) hf rfl rfl fun a hf => ?_
          refine q_ hf rfl rfl rfl (e_pick_t hf rfl rfl rfl) fun a hf => ?_
          refine q_ hf rfl rfl rfl (e_move hf rfl) fun a hf => ?_
          refine pl_gs (wanted_f hf rfl rfl rfl rfl rfl) hf rfl rfl fun a hf => ?_
          refine pl_gs (wanted_f hf rfl rfl rfl rfl rfl) hf rfl rfl fun a hf => ?_
          refine pl_gs (wanted_f hf rfl rfl rfl rfl rfl) hf rfl rfl fun a hf => ?_
          refine q_ hf rfl rfl rfl (e_pick_t hf rfl rfl rfl) fun a hf => ?_
          refine q_ hf rfl rfl rfl (e_move hf rfl) fun a hf => ?_
          refine pl_gs (wanted_f hf rfl rfl rfl rfl rfl) hf rfl rfl fun a hf => ?_
          refine pl_gs (wanted_f hf rfl rfl rfl rfl rfl) hf rfl rfl fun a hf => ?_
          refine pl_gs (wanted_f hf rfl rfl rfl rfl rfl) hf rfl rfl fun a hf => ?_
          refine pl_gs (wanted_f hf rfl rfl rfl rfl rfl) hf rfl rfl fun a hf => ?_
          refine q_ hf rfl rfl rfl (e_pick_t hf rfl rfl rfl) fun a hf => ?_
          refine pl_nil ?_
          obtain rfl := some_inj h191
          refine then_n ?_
          exact ⟨true, rfl, hf.keep ⟨rfl, rfl, rfl, rfl, rfl, rfl, rfl, rfl, rfl, trivial⟩, hM.pick [0] rfl⟩
        · refine gq (wanted_t hf rfl rfl rfl rfl hc194) hf rfl rfl (e_move hf rfl) fun a hf => ?_
          refine gq (wanted_t hf rfl rfl rfl rfl hc194) hf rfl rfl (e_move hf rfl) fun a hf => ?_
          refine gq (wanted_t hf rfl rfl rfl rfl hc194) hf rfl rfl (e_ne hf (x := y60.2) (y := y68.2) rfl rfl) fun a hf => ?_
          refine q_ hf rfl rfl rfl (e_pick_f hf rfl hc194 rfl) fun a hf => ?_
          refine q_ hf rfl rfl rfl (e_move hf rfl) fun a hf => ?_
          rcases cond_some h191 with ⟨hc196, h191⟩ | ⟨hc196, h191⟩
          · refine pl_gs (wanted_f hf rfl rfl rfl rfl hc196) hf rfl rfl fun a hf => ?_
            refine pl_gs (wanted_f hf rfl rfl rfl rfl hc196) hf rfl rfl fun a hf => ?_
            refine pl_gs (wanted_f hf rfl rfl rfl rfl hc196) hf rfl rfl fun a hf => ?_
            refine pl_gs (wanted_f hf rfl rfl rfl rfl hc196) hf rfl rfl fun a hf => ?_
            refine q_ hf rfl rfl rfl (e_pick_t hf rfl hc196 rfl) fun a hf => ?_
            refine q_ hf rfl rfl rfl (e_move hf rfl) fun a hf => ?_
            refine pl_gs (wanted_f hf rfl rfl rfl rfl rfl) hf rfl rfl fun a hf => ?_
            refine pl_gs (wanted_f hf rfl rfl rfl rfl rfl) hf rfl rfl fun a hf => ?_
            refine pl_gs (wanted_f hf rfl rfl rfl rfl rfl) hf rfl rfl fun a hf => ?_
            refine q_ hf rfl rfl rfl (e_pick_t hf rfl rfl rfl) fun a hf => ?_
            refine q_ hf rfl rfl rfl (e_move hf rfl) fun a hf => ?_
            refine pl_gs (wanted_f hf rfl rfl rfl rfl rfl) hf rfl rfl fun a hf => ?_
            refine pl_gs (wanted_f hf rfl rfl rfl rfl rfl) hf rfl rfl fun a hf => ?_
            refine pl_gs (wanted_f hf rfl rfl rfl rfl rfl) hf rfl rfl fun a hf => ?_
            refine q_ hf rfl rfl rfl (e_pick_t hf rfl rfl rfl) fun a hf => ?_
            refine q_ hf rfl rfl rfl (e_move hf rfl) fun a hf => ?_
            refine pl_gs (wanted_f hf rfl rfl rfl rfl rfl) hf rfl rfl fun a hf => ?_
            refine pl_gs (wanted_f hf rfl rfl rfl rfl rfl) hf rfl rfl fun a hf => ?_
            refine pl_gs (wanted_f hf rfl rfl rfl rfl rfl) hf rfl rfl fun a hf => ?_
            refine pl_gs (wanted_f hf rfl rfl rfl rfl rfl) hf rfl rfl fun a hf => ?_
            refine q_ hf rfl rfl rfl (e_pick_t hf rfl rfl rfl) fun a hf => ?_
            refine q_ hf rfl rfl rfl (e_move hf rfl) fun a hf => ?_
            refine pl_gs (wanted_f hf rfl rfl rfl rfl rfl) hf rfl rfl fun a hf => ?_
            refine pl_gs (wanted_f hf rfl rfl rfl rfl rfl) hf rfl rfl fun a hf => ?_
            refine pl_gs (wanted_f hf rfl rfl rfl rfl rfl) hf rfl rfl fun a hf => ?_
            refine pl_gs (wanted_f hf rfl rfl rfl rfl rfl) hf rfl rfl fun a hf => ?_
            refine q_ hf rfl rfl rfl (e_pick_t hf rfl rfl rfl) fun a hf => ?_
            refine q_ hf rfl rfl rfl (e_move hf rfl) fun a hf => ?_
            refine pl_gs (wanted_f hf rfl rfl rfl rfl rfl) hf rfl rfl fun a hf => ?_
            refine pl_gs (wanted_f hf rfl rfl rfl rfl rfl) hf rfl rfl fun a hf => ?_
            refine pl_gs (wanted_u hf rfl rfl rfl rfl) hf rfl rfl fun a hf => ?_
            refine pl_gs (wanted_u hf rfl rfl rfl rfl) hf rfl rfl fun a hf => ?_
            refine pl_gs (wanted_u hf rfl rfl rfl rfl) hf rfl rfl fun a hf => ?_
            refine pl_gs (wanted_f hf rfl rfl rfl rfl rfl) hf rfl rfl fun a hf => ?_
            refine q_ hf rfl rfl rfl (e_pick_t hf rfl rfl rfl) fun a hf => ?_
            refine q_ hf rfl rfl rfl (e_move hf rfl) fun a hf => ?_
            refine pl_gs (wanted_f hf rfl rfl rfl rfl rfl) hf rfl rfl fun a hf => ?_
            refine pl_gs (wanted_f hf rfl rfl rfl rfl rfl) hf rfl rfl fun a hf => ?_
            refine pl_gs (wanted_f hf rfl rfl rfl rfl rfl) hf rfl rfl fun a hf => ?_
            refine q_ hf rfl rfl rfl (e_pick_t hf rfl rfl rfl) fun a hf => ?_
            refine q_ hf rfl rfl rfl (e_move hf rfl) fun a hf => ?_
            refine pl_gs (wanted_f hf rfl rfl rfl rfl rfl) hf rfl rfl fun a hf => ?_
            refine pl_gs (wanted_f hf rfl rfl rfl rfl rfl) hf rfl rfl fun a hf => ?_
            refine pl_gs (wanted_f hf rfl rfl rfl rfl rfl) hf rfl rfl fun a hf => ?_
            refine q_ hf rfl rfl rfl (e_pick_t hf rfl rfl rfl) fun a hf => ?_
            refine q_ hf rfl rfl rfl (e_move hf rfl) fun a hf => ?_
            refine pl_gs (wanted_f hf rfl rfl rfl rfl rfl) hf rfl rfl fun a hf => ?_
            refine pl_gs (wanted_f hf rfl rfl rfl rfl rfl) hf rfl rfl fun a hf => ?_
            refine pl_gs (wanted_f hf rfl rfl rfl rfl rfl) hf rfl rfl fun a hf => ?_
            refine q_ hf rfl rfl rfl (e_pick_t hf rfl rfl rfl) fun a hf => ?_
            refine q_ hf rfl rfl rfl (e_move hf rfl) fun a hf => ?_
            refine pl_gs (wanted_f hf rfl rfl rfl rfl rfl) hf rfl rfl fun a hf => ?_
            refine pl_gs (wanted_f hf rfl rfl rfl rfl rfl) hf rfl rfl fun a hf => ?_
            refine pl_gs (wanted_f hf rfl rfl rfl rfl rfl) hf rfl rfl fun a hf => ?_
            refine pl_gs (wanted_f hf rfl rfl rfl rfl rfl) hf rfl rfl fun a hf => ?_
            refine q_ hf rfl rfl rfl (e_pick_t hf rfl rfl rfl) fun a hf => ?_
            refine pl_nil ?_
            obtain rfl := some_inj h191
            refine then_n ?_
            exact ⟨true, rfl, hf.keep ⟨rfl, rfl, rfl, rfl, rfl, rfl, rfl, rfl, rfl, trivial⟩, hM.pick [0] rfl⟩
          · refine gq (wanted_t hf rfl rfl rfl rfl hc196) hf rfl rfl (e_move hf rfl) fun a hf => ?_
            refine gq (wanted_t hf rfl rfl rfl rfl hc196) hf rfl rfl (e_move hf rfl) fun a hf => ?_
            obtain ⟨y198, hz199, h191⟩ := bind_some h191
            refine pl_gl (wanted_t hf rfl rfl rfl rfl hc196) hf rfl rfl (w_call hf Tryz.call19 rfl (r_laws_f6slots ⟨_, All C _ _, none_, hM.all_lt, none_not, C.G, hM.g_lt, g_none, hM.tabs⟩ y60.1 _ _ (hM.lendRow (k := 9) rfl) y68.1 _ _ (hM.lendRow (k := 8) rfl) _ hz199) ?_)
            rintro _ w200 ⟨rfl, hM2⟩
            obtain ⟨hM, hx201⟩ := hM.backA hM2
            clear hM2
            refine ⟨_, rfl, fun a hf => ?_⟩
            refine gq (wanted_t hf rfl rfl rfl rfl hc196) hf rfl rfl (e_not hf rfl) fun a hf => ?_
            refine q_ hf rfl rfl rfl (e_pick_f hf rfl hc196 rfl) fun a hf => ?_
            refine q_ hf rfl rfl rfl (e_move hf rfl) fun a hf => ?_
            rcases cond_some h191 with ⟨hc203, h191⟩ | ⟨hc203, h191⟩
            · refine pl_gs (wanted_f hf rfl rfl rfl rfl hc203) hf rfl rfl fun a hf => ?_
              refine pl_gs (wanted_f hf rfl rfl rfl rfl hc203) hf rfl rfl fun a hf => ?_
              refine pl_gs (wanted_f hf rfl rfl rfl rfl hc203) hf rfl rfl fun a hf => ?_
              refine q_ hf rfl rfl rfl (e_pick_t hf rfl hc203 rfl) fun a hf => ?_
              refine q_ hf rfl rfl rfl (e_move hf rfl) fun a hf => ?_
              refine pl_gs (wanted_f hf rfl rfl rfl rfl rfl) hf rfl rfl fun a hf => ?_
              refine pl_gs (wanted_f hf rfl rfl rfl rfl rfl) hf rfl rfl fun a hf => ?_
              refine pl_gs (wanted_f hf rfl rfl rfl rfl rfl) hf rfl rfl fun a hf => ?_
              refine q_ hf rfl rfl rfl (e_pick_t hf rfl rfl rfl) fun a hf => ?_
              refine q_ hf rfl rfl rfl (e_move hf rfl) fun a hf => ?_
              refine pl_gs (wanted_f hf rfl rfl rfl rfl rfl) hf rfl rfl fun a hf => ?_
              refine pl_gs (wanted_f hf rfl rfl rfl rfl rfl) hf rfl rfl fun a hf => ?_
              refine pl_gs (wanted_f hf rfl rfl rfl rfl rfl) hf rfl rfl fun a hf => ?_
              refine pl_gs (wanted_f hf rfl rfl rfl rfl rfl) hf rfl rfl fun a hf => ?_
              refine q_ hf rfl rfl rfl (e_pick_t hf rfl rfl rfl) fun a hf => ?_
              refine q_ hf rfl rfl rfl (e_move hf rfl) fun a hf => ?_
              refine pl_gs (wanted_f hf rfl rfl rfl rfl rfl) hf rfl rfl fun a hf => ?_
              refine pl_gs (wanted_f hf rfl rfl rfl rfl rfl) hf rfl rfl fun a hf => ?_
              refine pl_gs (wanted_f hf rfl rfl rfl rfl rfl) hf rfl rfl fun a hf => ?_
              refine pl_gs (wanted_f hf rfl rfl rfl rfl rfl) hf rfl rfl fun a hf => ?_
              refine q_ hf rfl rfl rfl (e_pick_t hf rfl rfl rfl) fun a hf => ?_
              refine q_ hf rfl rfl rfl (e_move hf rfl) fun a hf => ?_
              refine pl_gs (wanted_f hf rfl rfl rfl rfl rfl) hf rfl rfl fun a hf => ?_
              refine pl_gs (wanted_f hf rfl rfl rfl rfl rfl) hf rfl rfl fun a hf => ?_
              refine pl_gs (wanted_u hf rfl rfl rfl rfl) hf rfl rfl fun a hf => ?_
              refine pl_gs (wanted_u hf rfl rfl rfl rfl) hf rfl rfl fun a hf => ?_
              refine pl_gs (wanted_u hf rfl rfl rfl rfl) hf rfl rfl fun a hf => ?_
              refine pl_gs (wanted_f hf rfl rfl rfl rfl rfl) hf rfl rfl fun a hf => ?_
              refine q_ hf rfl rfl rfl (e_pick_t hf rfl rfl rfl) fun a hf => ?_
              refine q_ hf rfl rfl rfl (e_move hf rfl) fun a hf => ?_
              refine pl_gs (wanted_f hf rfl rfl rfl rfl rfl) hf rfl rfl fun a hf => ?_
              refine pl_gs (wanted_f hf rfl rfl rfl rfl rfl) hf rfl rfl fun a hf => ?_
              refine pl_gs (wanted_f hf rfl rfl rfl rfl rfl) hf rfl rfl fun a hf => ?_
              refine q_ hf rfl rfl rfl (e_pick_t hf rfl rfl rfl) fun a hf => ?_
              refine q_ hf rfl rfl rfl (e_move hf rfl) fun a hf => ?_
              refine pl_gs (wanted_f hf rfl rfl rfl rfl rfl) hf rfl rfl fun a hf => ?_
              refine pl_gs (wanted_f hf rfl rfl rfl rfl rfl) hf rfl rfl fun a hf => ?_
              refine pl_gs (wanted_f hf rfl rfl rfl rfl rfl) hf rfl rfl fun a hf => ?_
              refine q_ hf rfl rfl rfl (e_pick_t hf rfl rfl rfl) fun a hf => ?_
              refine q_ hf rfl rfl rfl (e_move hf rfl) fun a hf => ?_
              refine pl_gs (wanted_f hf rfl rfl rfl rfl rfl) hf rfl rfl fun a hf => ?_
              refine pl_gs (wanted_f hf rfl rfl rfl rfl rfl) hf rfl rfl fun a hf => ?_
              refine pl_gs (wanted_f hf rfl rfl rfl rfl rfl) hf rfl rfl fun a hf => ?_
              refine q_ hf rfl rfl rfl (e_pick_t hf rfl rfl rfl) fun a hf => ?_
              refine q_ hf rfl rfl rfl (e_move hf rfl) fun a hf => ?_
              refine pl_gs (wanted_f hf rfl rfl rfl rfl rfl) hf rfl rfl fun a hf => ?_
              refine pl_gs (wanted_f hf rfl rfl rfl rfl rfl) hf rfl rfl fun a hf => ?_
              refine pl_gs (wanted_f hf rfl rfl rfl rfl rfl) hf rfl rfl fun a hf => ?_
              refine pl_gs (wanted_f hf rfl rfl rfl rfl rfl) hf rfl rfl fun a hf => ?_
              refine q_ hf rfl rfl rfl (e_pick_t hf rfl rfl rfl) fun a hf => ?_
              refine pl_nil ?_
              obtain rfl := some_inj h191
              refine then_n ?_
              exact ⟨true, rfl, hf.keep ⟨rfl, rfl, rfl, rfl, rfl, rfl, rfl, rfl, rfl, trivial⟩, hM.pick [0] rfl⟩
            · refine gq (wanted_t hf rfl rfl rfl rfl hc203) hf rfl rfl (e_move hf rfl) fun a hf => ?_
              refine gq (wanted_t hf rfl rfl rfl rfl hc203) hf rfl rfl (e_move hf rfl) fun a hf => ?_
              refine gq (wanted_t hf rfl rfl rfl rfl hc203) hf rfl rfl (e_ne hf (x := y76.2) (y := y83.2) rfl rfl) fun a hf => ?_
              refine q_ hf rfl rfl rfl (e_pick_f hf rfl hc203 rfl) fun a hf => ?_
              refine q_ hf rfl rfl rfl (e_move hf rfl) fun a hf => ?_
              rcases cond_some h191 with ⟨hc205, h191⟩ | ⟨hc205, h191⟩
              · refine pl_gs (wanted_f hf rfl rfl rfl rfl hc205) hf rfl rfl fun a hf => ?_
                refine pl_gs (wanted_f hf rfl rfl rfl rfl hc205) hf rfl rfl fun a hf => ?_
                refine pl_gs (wanted_f hf rfl rfl rfl rfl hc205) hf rfl rfl fun a hf => ?_
                refine q_ hf rfl rfl rfl (e_pick_t hf rfl hc205 rfl) fun a hf => ?_
                refine q_ hf rfl rfl rfl (e_move hf rfl) fun a hf => ?_
                refine pl_gs (wanted_f hf rfl rfl rfl rfl rfl) hf rfl rfl fun a hf => ?_
                refine pl_gs (wanted_f hf rfl rfl rfl rfl rfl) hf rfl rfl fun a hf => ?_
                refine pl_gs (wanted_f hf rfl rfl rfl rfl rfl) hf rfl rfl fun a hf => ?_
                refine pl_gs (wanted_f hf rfl rfl rfl rfl rfl) hf rfl rfl fun a hf => ?_
                refine q_ hf rfl rfl rfl (e_pick_t hf rfl rfl rfl) fun a hf => ?_
                refine q_ hf rfl rfl rfl (e_move hf rfl) fun a hf => ?_
                refine pl_gs (wanted_f hf rfl rfl rfl rfl rfl) hf rfl rfl fun a hf => ?_
                refine pl_gs (wanted_f hf rfl rfl rfl rfl rfl) hf rfl rfl fun a hf => ?_
                refine pl_gs (wanted_f hf rfl rfl rfl rfl rfl) hf rfl rfl fun a hf => ?_
                refine pl_gs (wanted_f hf rfl rfl rfl rfl rfl) hf rfl rfl fun a hf => ?_
                refine q_ hf rfl rfl rfl (e_pick_t hf rfl rfl rfl) fun a hf => ?_
                refine q_ hf rfl rfl rfl (e_move hf rfl) fun a hf => ?_
                refine pl_gs (wanted_f hf rfl rfl rfl rfl rfl) hf rfl rfl fun a hf => ?_
                refine pl_gs (wanted_f hf rfl rfl rfl rfl rfl) hf rfl rfl fun a hf => ?_
                refine pl_gs (wanted_u hf rfl rfl rfl rfl) hf rfl rfl fun a hf => ?_
                refine pl_gs (wanted_u hf rfl rfl rfl rfl) hf rfl rfl fun a hf => ?_
                refine pl_gs (wanted_u hf rfl rfl rfl rfl) hf rfl rfl fun a hf => ?_
                refine pl_gs (wanted_f hf rfl rfl rfl rfl rfl) hf rfl rfl fun a hf => ?_
                refine q_ hf rfl rfl rfl (e_pick_t hf rfl rfl rfl) fun a hf => ?_
                refine q_ hf rfl rfl rfl (e_move hf rfl) fun a hf => ?_
                refine pl_gs (wanted_f hf rfl rfl rfl rfl rfl) hf rfl rfl fun a hf => ?_
                refine pl_gs (wanted_f hf rfl rfl rfl rfl rfl) hf rfl rfl fun a hf => ?_
                refine pl_gs (wanted_f hf rfl rfl rfl rfl rfl) hf rfl rfl fun a hf => ?_
                refine q_ hf rfl rfl rfl (e_pick_t hf rfl rfl rfl) fun a hf => ?_
                refine q_ hf rfl rfl rfl (e_move hf rfl) fun a hf => ?_
                refine pl_gs (wanted_f hf rfl rfl rfl rfl rfl) hf rfl rfl fun a hf => ?_
                refine pl_gs (wanted_f hf rfl rfl rfl rfl rfl) hf rfl rfl fun a hf => ?_
                refine pl_gs (wanted_f hf rfl rfl rfl rfl rfl) hf rfl rfl fun a hf => ?_
                refine q_ hf rfl rfl rfl (e_pick_t hf rfl rfl rfl) fun a hf => ?_
                refine q_ hf rfl rfl rfl (e_move hf rfl) fun a hf => ?_
                refine pl_gs (wanted_f hf rfl rfl rfl rfl rfl) hf rfl rfl fun a hf => ?_
                refine pl_gs (wanted_f hf rfl rfl rfl rfl rfl) hf rfl rfl fun a hf => ?_
                refine pl_gs (wanted_f hf rfl rfl rfl rfl rfl) hf rfl rfl fun a hf => ?_
                refine q_ hf rfl rfl rfl (e_pick_t hf rfl rfl rfl) fun a hf => ?_
                refine q_ hf rfl rfl rfl (e_move hf rfl) fun a hf => ?_
                refine pl_gs (wanted_f hf rfl rfl rfl rfl rfl) hf rfl rfl fun a hf => ?_
                refine pl_gs (wanted_f hf rfl rfl rfl rfl rfl) hf rfl rfl fun a hf => ?_
                refine pl_gs (wanted_f hf rfl rfl rfl rfl rfl) hf rfl rfl fun a hf => ?_
                refine pl_gs (wanted_f hf rfl rfl rfl rfl rfl) hf rfl rfl fun a hf => ?_
                refine q_ hf rfl rfl rfl (e_pick_t hf rfl rfl rfl) fun a hf => ?_
                refine pl_nil ?_
                obtain rfl := some_inj h191
                refine then_n ?_
                exact ⟨true, rfl, hf.keep ⟨rfl, rfl, rfl, rfl, rfl, rfl, rfl, rfl, rfl, trivial⟩, hM.pick [0] rfl⟩
              · refine gq (wanted_t hf rfl rfl rfl rfl hc205) hf rfl rfl (e_move hf rfl) fun a hf => ?_
                refine gq (wanted_t hf rfl rfl rfl rfl hc205) hf rfl rfl (e_move hf rfl) fun a hf => ?_
                refine gq (wanted_t hf rfl rfl rfl rfl hc205) hf rfl rfl (e_neS hf (x := y76.1) (y := y83.1) rfl rfl) fun a hf => ?_
                refine q_ hf rfl rfl rfl (e_pick_f hf rfl hc205 rfl) fun a hf => ?_
                refine q_ hf rfl rfl rfl (e_move hf rfl) fun a hf => ?_
                rcases cond_some h191 with ⟨hc207, h191⟩ | ⟨hc207, h191⟩
                · refine pl_gs (wanted_f hf rfl rfl rfl rfl hc207) hf rfl rfl fun a hf => ?_
                  refine pl_gs (wanted_f hf rfl rfl rfl rfl hc207) hf rfl rfl fun a hf => ?_
                  refine pl_gs (wanted_f hf rfl rfl rfl rfl hc207) hf rfl rfl fun a hf => ?_
                  refine pl_gs (wanted_f hf rfl rfl rfl rfl hc207) hf rfl rfl fun a hf => ?_
                  refine q_ hf rfl rfl rfl (e_pick_t hf rfl hc207 rfl) fun a hf => ?_
                  refine q_ hf rfl rfl rfl (e_move hf rfl) fun a hf => ?_
                  refine pl_gs (wanted_f hf rfl rfl rfl rfl rfl) hf rfl rfl fun a hf => ?_
                  refine pl_gs (wanted_f hf rfl rfl rfl rfl rfl) hf rfl rfl fun a hf => ?_
                  refine pl_gs (wanted_f hf rfl rfl rfl rfl rfl) hf rfl rfl fun a hf => ?_
                  refine pl_gs (wanted_f hf rfl rfl rfl rfl rfl) hf rfl rfl fun a hf => ?_
                  refine q_ hf rfl rfl rfl (e_pick_t hf rfl rfl rfl) fun a hf => ?_
                  refine q_ hf rfl rfl rfl (e_move hf rfl) fun a hf => ?_
                  refine pl_gs (wanted_f hf rfl rfl rfl rfl rfl) hf rfl rfl fun a hf => ?_
                  refine pl_gs (wanted_f hf rfl rfl rfl rfl rfl) hf rfl rfl fun a hf => ?_
                  refine pl_gs (wanted_u hf rfl rfl rfl rfl) hf rfl rfl fun a hf => ?_
                  refine pl_gs (wanted_u hf rfl rfl rfl rfl) hf rfl rfl fun a hf => ?_
                  refine pl_gs (wanted_u hf rfl rfl rfl rfl) hf rfl rfl fun a hf => ?_
                  refine pl_gs (wanted_f hf rfl rfl rfl rfl rfl) hf rfl rfl fun a hf => ?_
                  refine q_ hf rfl rfl rfl (e_pick_t hf rfl rfl rfl) fun a hf => ?_
                  refine q_ hf rfl rfl rfl (e_move hf rfl) fun a hf => ?_
                  refine pl_gs (wanted_f hf rfl rfl rfl rfl rfl) hf rfl rfl fun a hf => ?_
                  refine pl_gs (wanted_f hf rfl rfl rfl rfl rfl) hf rfl rfl fun a hf => ?_
                  refine pl_gs (wanted_f hf rfl rfl rfl rfl rfl) hf rfl rfl fun a hf => ?_
                  refine q_ hf rfl rfl rfl (e_pick_t hf rfl rfl rfl) fun a hf => ?_
                  refine q_ hf rfl rfl rfl (e_move hf rfl) fun a hf => ?_
                  refine pl_gs (wanted_f hf rfl rfl rfl rfl rfl) hf rfl rfl fun a hf => ?_
                  refine pl_gs (wanted_f hf rfl rfl rfl rfl rfl) hf rfl rfl fun a hf => ?_
                  refine pl_gs (wanted_f hf rfl rfl rfl rfl rfl) hf rfl rfl fun a hf => ?_
                  refine q_ hf rfl rfl rfl (e_pick_t hf rfl rfl rfl) fun a hf => ?_
                  refine q_ hf rfl rfl rfl (e_move hf rfl) fun a hf => ?_
                  refine pl_gs (wanted_f hf rfl rfl rfl rfl rfl) hf rfl rfl fun a hf => ?_
                  refine pl_gs (wanted_f hf rfl rfl rfl rfl rfl) hf rfl rfl fun a hf => ?_
                  refine pl_gs (wanted_f hf rfl rfl rfl rfl rfl) hf rfl rfl fun a hf => ?_
                  refine q_ hf rfl rfl rfl (e_pick_t hf rfl rfl rfl) fun a hf => ?_
                  refine q_ hf rfl rfl rfl (e_move hf rfl) fun a hf => ?_
                  refine pl_gs (wanted_f hf rfl rfl rfl rfl rfl) hf rfl rfl fun a hf => ?_
                  refine pl_gs (wanted_f hf rfl rfl rfl rfl rfl) hf rfl rfl fun a hf => ?_
                  refine pl_gs (wanted_f hf rfl rfl rfl rfl rfl) hf rfl rfl fun a hf => ?_
                  refine pl_gs (wanted_f hf rfl rfl rfl rfl rfl) hf rfl rfl fun a hf => ?_
                  refine q_ hf rfl rfl rfl (e_pick_t hf rfl rfl rfl) fun a hf => ?_
                  refine pl_nil ?_
                  obtain rfl := some_inj h191
                  refine then_n ?_
                  exact ⟨true, rfl, hf.keep ⟨rfl, rfl, rfl, rfl, rfl, rfl, rfl, rfl, rfl, trivial⟩, hM.pick [0] rfl⟩
                · refine gq (wanted_t hf rfl rfl rfl rfl hc207) hf rfl rfl (e_move hf rfl) fun a hf => ?_
                  refine gq (wanted_t hf rfl rfl rfl rfl hc207) hf rfl rfl (e_loadA hf (us := [vI (y11.1.Rows), vI (y11.1.Cols), vS (y11.1.Cells)]) rfl ⟨Tryz.isAgg25, Tryz.sizeOf25⟩ rfl (hM.boxSub (k := 12) (us := [vI (y11.1.Rows), vI (y11.1.Cols), vS (y11.1.Cells)]) (o := 0) rfl rfl)) fun a hf => ?_
                  obtain ⟨y209, hz210, h191⟩ := bind_some h191
                  refine pl_gl (wanted_t hf rfl rfl rfl rfl hc207) hf rfl rfl (w_call hf Tryz.call20 rfl (r_spec_GridText ⟨_, Sh C _ _, none_, hM.sh_lt, none_not, C.G, hM.g_lt, g_none, hM.tabs⟩ y11.1 hv13 hv14 hv15 _ hz210) ?_)
                  rintro _ w212 ⟨rfl, hM2, hv211⟩
                  obtain ⟨hM, hx213, hup214⟩ := hM.back hM2
                  dsimp only [List.cons_append, List.nil_append] at hM hup214
                  clear hM2
                  refine ⟨_, rfl, fun a hf => ?_⟩
                  refine gq (wanted_t hf rfl rfl rfl rfl hc207) hf rfl rfl (e_neS hf (x := y90) (y := y209) rfl rfl) fun a hf => ?_
                  refine q_ hf rfl rfl rfl (e_pick_f hf rfl hc207 rfl) fun a hf => ?_
                  refine q_ hf rfl rfl rfl (e_move hf rfl) fun a hf => ?_
                  rcases cond_some h191 with ⟨hc215, h191⟩ | ⟨hc215, h191⟩
                  · refine pl_gs (wanted_f hf rfl rfl rfl rfl hc215) hf rfl rfl fun a hf => ?_
                    refine pl_gs (wanted_f hf rfl rfl rfl rfl hc215) hf rfl rfl fun a hf => ?_
                    refine pl_gs (wanted_f hf rfl rfl rfl rfl hc215) hf rfl rfl fun a hf => ?_
                    refine pl_gs (wanted_f hf rfl rfl rfl rfl hc215) hf rfl rfl fun a hf => ?_
                    refine q_ hf rfl rfl rfl (e_pick_t hf rfl hc215 rfl) fun a hf => ?_
                    refine q_ hf rfl rfl rfl (e_move hf rfl) fun a hf => ?_
                    refine pl_gs (wanted_f hf rfl rfl rfl rfl rfl) hf rfl rfl fun a hf => ?_
                    refine pl_gs (wanted_f hf rfl rfl rfl rfl rfl) hf rfl rfl fun a hf => ?_
                    refine pl_gs (wanted_u hf rfl rfl rfl rfl) hf rfl rfl fun a hf => ?_
                    refine pl_gs (wanted_u hf rfl rfl rfl rfl) hf rfl rfl fun a hf => ?_
                    refine pl_gs (wanted_u hf rfl rfl rfl rfl) hf rfl rfl fun a hf => ?_
                    refine pl_gs (wanted_f hf rfl rfl rfl rfl rfl) hf rfl rfl fun a hf => ?_
                    refine q_ hf rfl rfl rfl (e_pick_t hf rfl rfl rfl) fun a hf => ?_
                    refine q_ hf rfl rfl rfl (e_move hf rfl) fun a hf => ?_
                    refine pl_gs (wanted_f hf rfl rfl rfl rfl rfl) hf rfl rfl fun a hf => ?_
                    refine pl_gs (wanted_f hf rfl rfl rfl rfl rfl) hf rfl rfl fun a hf => ?_
                    refine pl_gs (wanted_f hf rfl rfl rfl rfl rfl) hf rfl rfl fun a hf => ?_
                    refine q_ hf rfl rfl rfl (e_pick_t hf rfl rfl rfl) fun a hf => ?_
                    refine q_ hf rfl rfl rfl (e_move hf rfl) fun a hf => ?_
                    refine pl_gs (wanted_f hf rfl rfl rfl rfl rfl) hf rfl rfl fun a hf => ?_
                    refine pl_gs (wanted_f hf rfl rfl rfl rfl rfl) hf rfl rfl fun a hf => ?_
                    refine pl_gs (wanted_f hf rfl rfl rfl rfl rfl) hf rfl rfl fun a hf => ?_
                    refine q_ hf rfl rfl rfl (e_pick_t hf rfl rfl rfl) fun a hf => ?_
                    refine q_ hf rfl rfl rfl (e_move hf rfl) fun a hf => ?_
                    refine pl_gs (wanted_f hf rfl rfl rfl rfl rfl) hf rfl rfl fun a hf => ?_
                    refine pl_gs (wanted_f hf rfl rfl rfl rfl rfl) hf rfl rfl fun a hf => ?_
                    refine pl_gs (wanted_f hf rfl rfl rfl rfl rfl) hf rfl rfl fun a hf => ?_
                    refine q_ hf rfl rfl rfl (e_pick_t hf rfl rfl rfl) fun a hf => ?_
                    refine q_ hf rfl rfl rfl (e_move hf rfl) fun a hf => ?_
                    refine pl_gs (wanted_f hf rfl rfl rfl rfl rfl) hf rfl rfl fun a hf => ?_
                    refine pl_gs (wanted_f hf rfl rfl rfl rfl rfl) hf rfl rfl fun a hf => ?_
                    refine pl_gs (wanted_f hf rfl rfl rfl rfl rfl) hf rfl rfl fun a hf => ?_
                    refine pl_gs (wanted_f hf rfl rfl rfl rfl rfl) hf rfl rfl fun a hf => ?_
                    refine q_ hf rfl rfl rfl (e_pick_t hf rfl rfl rfl) fun a hf => ?_
                    refine pl_nil ?_
                    obtain rfl := some_inj h191
                    refine then_n ?_
                    exact ⟨true, rfl, hf.keep ⟨rfl, rfl, rfl, rfl, rfl, rfl, rfl, rfl, rfl, trivial⟩, hM.pick [0] rfl⟩
                  · refine gq (wanted_t hf rfl rfl rfl rfl hc215) hf rfl rfl (e_move hf rfl) fun a hf => ?_
                    refine gq (wanted_t hf rfl rfl rfl rfl hc215) hf rfl rfl (e_move hf rfl) fun a hf => ?_
                    refine gq (wanted_t hf rfl rfl rfl rfl hc215) hf rfl rfl (e_neS hf (x := y90) (y := ([] : Str)) rfl rfl) fun a hf => ?_
                    refine gq (wanted_t hf rfl rfl rfl rfl hc215) hf rfl rfl (e_neT hf rfl rfl Tryz.underlying4) fun a hf => ?_
                    refine q_ hf rfl rfl rfl (e_pick_f hf rfl hc215 rfl) fun a hf => ?_
                    refine q_ hf rfl rfl rfl (e_move hf rfl) fun a hf => ?_
                    rcases cond_some h191 with ⟨hc217, h191⟩ | ⟨hc217, h191⟩
                    · refine pl_gs (wanted_f hf rfl rfl rfl rfl hc217) hf rfl rfl fun a hf => ?_
                      refine pl_gs (wanted_f hf rfl rfl rfl rfl hc217) hf rfl rfl fun a hf => ?_
                      refine pl_gs (wanted_u hf rfl rfl rfl rfl) hf rfl rfl fun a hf => ?_
                      refine pl_gs (wanted_u hf rfl rfl rfl rfl) hf rfl rfl fun a hf => ?_
                      refine pl_gs (wanted_u hf rfl rfl rfl rfl) hf rfl rfl fun a hf => ?_
                      refine pl_gs (wanted_f hf rfl rfl rfl rfl hc217) hf rfl rfl fun a hf => ?_
                      refine q_ hf rfl rfl rfl (e_pick_t hf rfl hc217 rfl) fun a hf => ?_
                      refine q_ hf rfl rfl rfl (e_move hf rfl) fun a hf => ?_
                      refine pl_gs (wanted_f hf rfl rfl rfl rfl rfl) hf rfl rfl fun a hf => ?_
                      refine pl_gs (wanted_f hf rfl rfl rfl rfl rfl) hf rfl rfl fun a hf => ?_
                      refine pl_gs (wanted_f hf rfl rfl rfl rfl rfl) hf rfl rfl fun a hf => ?_
                      refine q_ hf rfl rfl rfl (e_pick_t hf rfl rfl rfl) fun a hf => ?_
                      refine q_ hf rfl rfl rfl (e_move hf rfl) fun a hf => ?_
                      refine pl_gs (wanted_f hf rfl rfl rfl rfl rfl) hf rfl rfl fun a hf => ?_
                      refine pl_gs (wanted_f hf rfl rfl rfl rfl rfl) hf rfl rfl fun a hf => ?_
                      refine pl_gs (wanted_f hf rfl rfl rfl rfl rfl) hf rfl rfl fun a hf => ?_
                      refine q_ hf rfl rfl rfl (e_pick_t hf rfl rfl rfl) fun a hf => ?_
                      refine q_ hf rfl rfl rfl (e_move hf rfl) fun a hf => ?_
                      refine pl_gs (wanted_f hf rfl rfl rfl rfl rfl) hf rfl rfl fun a hf => ?_
                      refine pl_gs (wanted_f hf rfl rfl rfl rfl rfl) hf rfl rfl fun a hf => ?_
                      refine pl_gs (wanted_f hf rfl rfl rfl rfl rfl) hf rfl rfl fun a hf => ?_
                      refine q_ hf rfl rfl rfl (e_pick_t hf rfl rfl rfl) fun a hf => ?_
                      refine q_ hf rfl rfl rfl (e_move hf rfl) fun a hf => ?_
                      refine pl_gs (wanted_f hf rfl rfl rfl rfl rfl) hf rfl rfl fun a hf => ?_
                      refine pl_gs (wanted_f hf rfl rfl rfl rfl rfl) hf rfl rfl fun a hf => ?_
                      refine pl_gs (wanted_f hf rfl rfl rfl rfl rfl) hf rfl rfl fun a hf => ?_
                      refine pl_gs (wanted_f hf rfl rfl rfl rfl rfl) hf rfl rfl fun a hf => ?_
                      refine q_ hf rfl rfl rfl (e_pick_t hf rfl rfl rfl) fun a hf => ?_
                      refine pl_nil ?_
                      obtain rfl := some_inj h191
                      refine then_n ?_
                      exact ⟨true, rfl, hf.keep ⟨rfl, rfl, rfl, rfl, rfl, rfl, rfl, rfl, rfl, trivial⟩, hM.pick [0] rfl⟩
                    · refine gq (wanted_t hf rfl rfl rfl rfl hc217) hf rfl rfl (e_move hf rfl) fun a hf => ?_
                      refine gq (wanted_t hf rfl rfl rfl rfl hc217) hf rfl rfl (e_move hf rfl) fun a hf => ?_
                      rcases cond_some h191 with ⟨hc219, h191⟩ | ⟨hc219, h191⟩
                      · refine gq (wanted_t hf rfl rfl rfl rfl hc219) hf rfl rfl (e_loadA hf (us := [vI (y96.1.Rows), vI (y96.1.Cols), vS (y96.1.Cells)]) rfl ⟨Tryz.isAgg25, Tryz.sizeOf25⟩ rfl (hM.boxSub (k := 7) (us := [vI (y96.1.Rows), vI (y96.1.Cols), vS (y96.1.Cells)]) (o := 0) rfl rfl)) fun a hf => ?_
                        refine gq (wanted_t hf rfl rfl rfl rfl hc219) hf rfl rfl (e_loadA hf (us := [vI (y11.1.Rows), vI (y11.1.Cols), vS (y11.1.Cells)]) rfl ⟨Tryz.isAgg25, Tryz.sizeOf25⟩ rfl (hM.boxSub (k := 12) (us := [vI (y11.1.Rows), vI (y11.1.Cols), vS (y11.1.Cells)]) (o := 0) rfl rfl)) fun a hf => ?_
                        refine gq (wanted_t hf rfl rfl rfl rfl hc219) hf rfl rfl (Grid_neq hf (x := y96.1) (y := y11.1) rfl rfl) fun a hf => ?_
                        refine gq (wanted_t hf rfl rfl rfl rfl hc217) hf rfl rfl (e_pick_t hf rfl hc219 rfl) fun a hf => ?_
                        refine q_ hf rfl rfl rfl (e_pick_f hf rfl hc217 rfl) fun a hf => ?_
                        refine q_ hf rfl rfl rfl (e_move hf rfl) fun a hf => ?_
                        rcases cond_some h191 with ⟨hc220, h191⟩ | ⟨hc220, h191⟩
                        · refine pl_gs (wanted_f hf rfl rfl rfl rfl hc220) hf rfl rfl fun a hf => ?_
                          refine pl_gs (wanted_f hf rfl rfl rfl rfl hc220) hf rfl rfl fun a hf => ?_
                          refine pl_gs (wanted_f hf rfl rfl rfl rfl hc220) hf rfl rfl fun a hf => ?_
                          refine q_ hf rfl rfl rfl (e_pick_t hf rfl hc220 rfl) fun a hf => ?_
                          refine q_ hf rfl rfl rfl (e_move hf rfl) fun a hf => ?_
                          refine pl_gs (wanted_f hf rfl rfl rfl rfl rfl) hf rfl rfl fun a hf => ?_
                          refine pl_gs (wanted_f hf rfl rfl rfl rfl rfl) hf rfl rfl fun a hf => ?_
                          refine pl_gs (wanted_f hf rfl rfl rfl rfl rfl) hf rfl rfl fun a hf => ?_
                          refine q_ hf rfl rfl rfl (e_pick_t hf rfl rfl rfl) fun a hf => ?_
                          refine q_ hf rfl rfl rfl (e_move hf rfl) fun a hf => ?_
                          refine pl_gs (wanted_f hf rfl rfl rfl rfl rfl) hf rfl rfl fun a hf => ?_
                          refine pl_gs (wanted_f hf rfl rfl rfl rfl rfl) hf rfl rfl fun a hf => ?_
                          refine pl_gs (wanted_f hf rfl rfl rfl rfl rfl) hf rfl rfl fun a hf => ?_
                          refine q_ hf rfl rfl rfl (e_pick_t hf rfl rfl rfl) fun a hf => ?_
                          refine q_ hf rfl rfl rfl (e_move hf rfl) fun a hf => ?_
                          refine pl_gs (wanted_f hf rfl rfl rfl rfl rfl) hf rfl rfl fun a hf => ?_
                          refine pl_gs (wanted_f hf rfl rfl rfl rfl rfl) hf rfl rfl fun a hf => ?_
                          refine pl_gs (wanted_f hf rfl rfl rfl rfl rfl) hf rfl rfl fun a hf => ?_
                          refine pl_gs (wanted_f hf rfl rfl rfl rfl rfl) hf rfl rfl fun a hf => ?_
                          refine q_ hf rfl rfl rfl (e_pick_t hf rfl rfl rfl) fun a hf => ?_
                          refine pl_nil ?_
                          obtain rfl := some_inj h191
                          refine then_n ?_
                          exact ⟨true, rfl, hf.keep ⟨rfl, rfl, rfl, rfl, rfl, rfl, rfl, rfl, rfl, trivial⟩, hM.pick [0] rfl⟩
                        · refine gq (wanted_t hf rfl rfl rfl rfl hc220) hf rfl rfl (e_move hf rfl) fun a hf => ?_
                          refine gq (wanted_t hf rfl rfl rfl rfl hc220) hf rfl rfl (e_move hf rfl) fun a hf => ?_
                          refine gq (wanted_t hf rfl rfl rfl rfl hc220) hf rfl rfl (e_neT hf rfl rfl Tryz.underlying4) fun a hf => ?_
                          refine q_ hf rfl rfl rfl (e_pick_f hf rfl hc220 rfl) fun a hf => ?_
                          refine q_ hf rfl rfl rfl (e_move hf rfl) fun a hf => ?_
                          rcases cond_some h191 with ⟨hc222, h191⟩ | ⟨hc222, h191⟩
                          · refine pl_gs (wanted_f hf rfl rfl rfl rfl hc222) hf rfl rfl fun a hf => ?_
                            refine pl_gs (wanted_f hf rfl rfl rfl rfl hc222) hf rfl rfl fun a hf => ?_
                            refine pl_gs (wanted_f hf rfl rfl rfl rfl hc222) hf rfl rfl fun a hf => ?_
                            refine q_ hf rfl rfl rfl (e_pick_t hf rfl hc222 rfl) fun a hf => ?_
                            refine q_ hf rfl rfl rfl (e_move hf rfl) fun a hf => ?_
                            refine pl_gs (wanted_f hf rfl rfl rfl rfl rfl) hf rfl rfl fun a hf => ?_
                            refine pl_gs (wanted_f hf rfl rfl rfl rfl rfl) hf rfl rfl fun a hf => ?_
                            refine pl_gs (wanted_f hf rfl rfl rfl rfl rfl) hf rfl rfl fun a hf => ?_
                            refine q_ hf rfl rfl rfl (e_pick_t hf rfl rfl rfl) fun a hf => ?_
                            refine q_ hf rfl rfl rfl (e_move hf rfl) fun a hf => ?_
                            refine pl_gs (wanted_f hf rfl rfl rfl rfl rfl) hf rfl rfl fun a hf => ?_
                            refine pl_gs (wanted_f hf rfl rfl rfl rfl rfl) hf rfl rfl fun a hf => ?_
                            refine pl_gs (wanted_f hf rfl rfl rfl rfl rfl) hf rfl rfl fun a hf => ?_
                            refine pl_gs (wanted_f hf rfl rfl rfl rfl rfl) hf rfl rfl fun a hf => ?_
                            refine q_ hf rfl rfl rfl (e_pick_t hf rfl rfl rfl) fun a hf => ?_
                            refine pl_nil ?_
                            obtain rfl := some_inj h191
                            refine then_n ?_
                            exact ⟨true, rfl, hf.keep ⟨rfl, rfl, rfl, rfl, rfl, rfl, rfl, rfl, rfl, trivial⟩, hM.pick [0] rfl⟩
                          · refine gq (wanted_t hf rfl rfl rfl rfl hc222) hf rfl rfl (e_loadA hf (us := [vI (y117.1.Rows), vI (y117.1.Cols), vS (y117.1.Cells)]) rfl ⟨Tryz.isAgg25, Tryz.sizeOf25⟩ rfl (hM.boxSub (k := 6) (us := [vI (y117.1.Rows), vI (y117.1.Cols), vS (y117.1.Cells)]) (o := 0) rfl rfl)) fun a hf => ?_
                            refine gq (wanted_t hf rfl rfl rfl rfl hc222) hf rfl rfl (e_loadA hf (us := [vI (y132.1.Rows), vI (y132.1.Cols), vS (y132.1.Cells)]) rfl ⟨Tryz.isAgg25, Tryz.sizeOf25⟩ rfl (hM.boxSub (k := 5) (us := [vI (y132.1.Rows), vI (y132.1.Cols), vS (y132.1.Cells)]) (o := 0) rfl rfl)) fun a hf => ?_
                            refine gq (wanted_t hf rfl rfl rfl rfl hc222) hf rfl rfl (Grid_neq hf (x := y117.1) (y := y132.1) rfl rfl) fun a hf => ?_
                            refine q_ hf rfl rfl rfl (e_pick_f hf rfl hc222 rfl) fun a hf => ?_
                            refine q_ hf rfl rfl rfl (e_move hf rfl) fun a hf => ?_
                            rcases cond_some h191 with ⟨hc224, h191⟩ | ⟨hc224, h191⟩
                            · refine pl_gs (wanted_f hf rfl rfl rfl rfl hc224) hf rfl rfl fun a hf => ?_
                              refine pl_gs (wanted_f hf rfl rfl rfl rfl hc224) hf rfl rfl fun a hf => ?_
                              refine pl_gs (wanted_f hf rfl rfl rfl rfl hc224) hf rfl rfl fun a hf => ?_
                              refine q_ hf rfl rfl rfl (e_pick_t hf rfl hc224 rfl) fun a hf => ?_
                              refine q_ hf rfl rfl rfl (e_move hf rfl) fun a hf => ?_
                              refine pl_gs (wanted_f hf rfl rfl rfl rfl rfl) hf rfl rfl fun a hf => ?_
                              refine pl_gs (wanted_f hf rfl rfl rfl rfl rfl) hf rfl rfl fun a hf => ?_
                              refine pl_gs (wanted_f hf rfl rfl rfl rfl rfl) hf rfl rfl fun a hf => ?_
                              refine pl_gs (wanted_f hf rfl rfl rfl rfl rfl) hf rfl rfl fun a hf => ?_
                              refine q_ hf rfl rfl rfl (e_pick_t hf rfl rfl rfl) fun a hf => ?_
                              refine pl_nil ?_
                              obtain rfl := some_inj h191
                              refine then_n ?_
                              exact ⟨true, rfl, hf.keep ⟨rfl, rfl, rfl, rfl, rfl, rfl, rfl, rfl, rfl, trivial⟩, hM.pick [0] rfl⟩
                            · refine gq (wanted_t hf rfl rfl rfl rfl hc224) hf rfl rfl (e_move hf rfl) fun a hf => ?_
                              refine gq (wanted_t hf rfl rfl rfl rfl hc224) hf rfl rfl (e_move hf rfl) fun a hf => ?_
                              refine gq (wanted_t hf rfl rfl rfl rfl hc224) hf rfl rfl (e_ne hf (x := y172.2) (y := y180.2) rfl rfl) fun a hf => ?_
                              refine q_ hf rfl rfl rfl (e_pick_f hf rfl hc224 rfl) fun a hf => ?_
                              refine q_ hf rfl rfl rfl (e_move hf rfl) fun a hf => ?_
                              rcases cond_some h191 with ⟨hc226, h191⟩ | ⟨hc226, h191⟩
                              · refine pl_gs (wanted_f hf rfl rfl rfl rfl hc226) hf rfl rfl fun a hf => ?_
                                refine pl_gs (wanted_f hf rfl rfl rfl rfl hc226) hf rfl rfl fun a hf => ?_
                                refine pl_gs (wanted_f hf rfl rfl rfl rfl hc226) hf rfl rfl fun a hf => ?_
                                refine pl_gs (wanted_f hf rfl rfl rfl rfl hc226) hf rfl rfl fun a hf => ?_
                                refine q_ hf rfl rfl rfl (e_pick_t hf rfl hc226 rfl) fun a hf => ?_
                                refine pl_nil ?_
                                obtain rfl := some_inj h191
                                refine then_n ?_
                                exact ⟨true, rfl, hf.keep ⟨rfl, rfl, rfl, rfl, rfl, rfl, rfl, rfl, rfl, trivial⟩, hM.pick [0] rfl⟩
                              · refine gq (wanted_t hf rfl rfl rfl rfl hc226) hf rfl rfl (e_move hf rfl) fun a hf => ?_
                                refine gq (wanted_t hf rfl rfl rfl rfl hc226) hf rfl rfl (e_move hf rfl) fun a hf => ?_
                                obtain ⟨y228, hz229, h191⟩ := bind_some h191
                                refine pl_gl (wanted_t hf rfl rfl rfl rfl hc226) hf rfl rfl (w_call hf Tryz.call21 rfl (r_laws_f6same ⟨_, All C _ _, none_, hM.all_lt, none_not, C.G, hM.g_lt, g_none, hM.tabs⟩ y172.1 _ _ (hM.lendRow (k := 1) rfl) y180.1 _ _ (hM.lendRow (k := 0) rfl) _ hz229) ?_)
                                rintro _ w230 ⟨rfl, hM2⟩
                                obtain ⟨hM, hx231⟩ := hM.backA hM2
                                clear hM2
                                refine ⟨_, rfl, fun a hf => ?_⟩
                                refine gq (wanted_t hf rfl rfl rfl rfl hc226) hf rfl rfl (e_not hf rfl) fun a hf => ?_
                                refine q_ hf rfl rfl rfl (e_pick_f hf rfl hc226 rfl) fun a hf => ?_
                                refine pl_nil ?_
                                obtain rfl := some_inj h191
                                refine then_n ?_
                                exact ⟨(!y228), rfl, hf.keep ⟨rfl, rfl, rfl, rfl, rfl, rfl, rfl, rfl, rfl, trivial⟩, hM.pick [0] rfl⟩
                      · refine pl_gs (wanted_f hf rfl rfl rfl rfl hc219) hf rfl rfl fun a hf => ?_
                        refine pl_gs (wanted_f hf rfl rfl rfl rfl hc219) hf rfl rfl fun a hf => ?_
                        refine pl_gs (wanted_f hf rfl rfl rfl rfl hc219) hf rfl rfl fun a hf => ?_
                        refine gq (wanted_t hf rfl rfl rfl rfl hc217) hf rfl rfl (e_pick_f hf rfl hc219 rfl) fun a hf => ?_
                        refine q_ hf rfl rfl rfl (e_pick_f hf rfl hc217 rfl) fun a hf => ?_
                        refine q_ hf rfl rfl rfl (e_move hf rfl) fun a hf => ?_
                        refine gq (wanted_t hf rfl rfl rfl rfl rfl) hf rfl rfl (e_move hf rfl) fun a hf => ?_
                        refine gq (wanted_t hf rfl rfl rfl rfl rfl) hf rfl rfl (e_move hf rfl) fun a hf => ?_
                        refine gq (wanted_t hf rfl rfl rfl rfl rfl) hf rfl rfl (e_neT hf rfl rfl Tryz.underlying4) fun a hf => ?_
                        refine q_ hf rfl rfl rfl (e_pick_f hf rfl rfl rfl) fun a hf => ?_
                        refine q_ hf rfl rfl rfl (e_move hf rfl) fun a hf => ?_
                        rcases cond_some h191 with ⟨hc234, h191⟩ | ⟨hc234, h191⟩
                        · refine pl_gs (wanted_f hf rfl rfl rfl rfl hc234) hf rfl rfl fun a hf => ?_
                          refine pl_gs (wanted_f hf rfl rfl rfl rfl hc234) hf rfl rfl fun a hf => ?_
                          refine pl_gs (wanted_f hf rfl rfl rfl rfl hc234) hf rfl rfl fun a hf => ?_
                          refine q_ hf rfl rfl rfl (e_pick_t hf rfl hc234 rfl) fun a hf => ?_
                          refine q_ hf rfl rfl rfl (e_move hf rfl) fun a hf => ?_
                          refine pl_gs (wanted_f hf rfl rfl rfl rfl rfl) hf rfl rfl fun a hf => ?_
                          refine pl_gs (wanted_f hf rfl rfl rfl rfl rfl) hf rfl rfl fun a hf => ?_
                          refine pl_gs (wanted_f hf rfl rfl rfl rfl rfl) hf rfl rfl fun a hf => ?_
                          refine q_ hf rfl rfl rfl (e_pick_t hf rfl rfl rfl) fun a hf => ?_
                          refine q_ hf rfl rfl rfl (e_move hf rfl) fun a hf => ?_
                          refine pl_gs (wanted_f hf rfl rfl rfl rfl rfl) hf rfl rfl fun a hf => ?_
                          refine pl_gs (wanted_f hf rfl rfl rfl rfl rfl) hf rfl rfl fun a hf => ?_
                          refine pl_gs (wanted_f hf rfl rfl rfl rfl rfl) hf rfl rfl fun a hf => ?_
                          refine pl_gs (wanted_f hf rfl rfl rfl rfl rfl) hf rfl rfl fun a hf => ?_
                          refine q_ hf rfl rfl rfl (e_pick_t hf rfl rfl rfl) fun a hf => ?_
                          refine pl_nil ?_
                          obtain rfl := some_inj h191
                          refine then_n ?_
                          exact ⟨true, rfl, hf.keep ⟨rfl, rfl, rfl, rfl, rfl, rfl, rfl, rfl, rfl, trivial⟩, hM.pick [0] rfl⟩
                        · refine gq (wanted_t hf rfl rfl rfl rfl hc234) hf rfl rfl (e_loadA hf (us := [vI (y117.1.Rows), vI (y117.1.Cols), vS (y117.1.Cells)]) rfl ⟨Tryz.isAgg25, Tryz.sizeOf25⟩ rfl (hM.boxSub (k := 6) (us := [vI (y117.1.Rows), vI (y117.1.Cols), vS (y117.1.Cells)]) (o := 0) rfl rfl)) fun a hf => ?_
                          refine gq (wanted_t hf rfl rfl rfl rfl hc234) hf rfl rfl (e_loadA hf (us := [vI (y132.1.Rows), vI (y132.1.Cols), vS (y132.1.Cells)]) rfl ⟨Tryz.isAgg25, Tryz.sizeOf25⟩ rfl (hM.boxSub (k := 5) (us := [vI (y132.1.Rows), vI (y132.1.Cols), vS (y132.1.Cells)]) (o := 0) rfl rfl)) fun a hf => ?_
                          refine gq (wanted_t hf rfl rfl rfl rfl hc234) hf rfl rfl (Grid_neq hf (x := y117.1) (y := y132.1) rfl rfl) fun a hf => ?_
                          refine q_ hf rfl rfl rfl (e_pick_f hf rfl hc234 rfl) fun a hf => ?_
                          refine q_ hf rfl rfl rfl (e_move hf rfl) fun a hf => ?_
                          rcases cond_some h191 with ⟨hc236, h191⟩ | ⟨hc236, h191⟩
                          · refine pl_gs (wanted_f hf rfl rfl rfl rfl hc236) hf rfl rfl fun a hf => ?_
                            refine pl_gs (wanted_f hf rfl rfl rfl rfl hc236) hf rfl rfl fun a hf => ?_
                            refine pl_gs (wanted_f hf rfl rfl rfl rfl hc236) hf rfl rfl fun a hf => ?_
                            refine q_ hf rfl rfl rfl (e_pick_t hf rfl hc236 rfl) fun a hf => ?_
                            refine q_ hf rfl rfl rfl (e_move hf rfl) fun a hf => ?_
                            refine pl_gs (wanted_f hf rfl rfl rfl rfl rfl) hf rfl rfl fun a hf => ?_
                            refine pl_gs (wanted_f hf rfl rfl rfl rfl rfl) hf rfl rfl fun a hf => ?_
                            refine pl_gs (wanted_f hf rfl rfl rfl rfl rfl) hf rfl rfl fun a hf => ?_
                            refine pl_gs (wanted_f hf rfl rfl rfl rfl rfl) hf rfl rfl fun a hf => ?_
                            refine q_ hf rfl rfl rfl (e_pick_t hf rfl rfl rfl) fun a hf => ?_
                            refine pl_nil ?_
                            obtain rfl := some_inj h191
                            refine then_n ?_
                            exact ⟨true, rfl, hf.keep ⟨rfl, rfl, rfl, rfl, rfl, rfl, rfl, rfl, rfl, trivial⟩, hM.pick [0] rfl⟩
                          · refine gq (wanted_t hf rfl rfl rfl rfl hc236) hf rfl rfl (e_move hf rfl) fun a hf => ?_
                            refine gq (wanted_t hf rfl rfl rfl rfl hc236) hf rfl rfl (e_move hf rfl) fun a hf => ?_
                            refine gq (wanted_t hf rfl rfl rfl rfl hc236) hf rfl rfl (e_ne hf (x := y172.2) (y := y180.2) rfl rfl) fun a hf => ?_
                            refine q_ hf rfl rfl rfl (e_pick_f hf rfl hc236 rfl) fun a hf => ?_
                            refine q_ hf rfl rfl rfl (e_move hf rfl) fun a hf => ?_
                            rcases cond_some h191 with ⟨hc238, h191⟩ | ⟨hc238, h191⟩
                            · refine pl_gs (wanted_f hf rfl rfl rfl rfl hc238) hf rfl rfl fun a hf => ?_
                              refine pl_gs (wanted_f hf rfl rfl rfl rfl hc238) hf rfl rfl fun a hf => ?_
                              refine pl_gs (wanted_f hf rfl rfl rfl rfl hc238) hf rfl rfl fun a hf => ?_
                              refine pl_gs (wanted_f hf rfl rfl rfl rfl hc238) hf rfl rfl fun a hf => ?_
                              refine q_ hf rfl rfl rfl (e_pick_t hf rfl hc238 rfl) fun a hf => ?_
                              refine pl_nil ?_
                              obtain rfl := some_inj h191
                              refine then_n ?_
                              exact ⟨true, rfl, hf.keep ⟨rfl, rfl, rfl, rfl, rfl, rfl, rfl, rfl, rfl, trivial⟩, hM.pick [0] rfl⟩
                            · refine gq (wanted_t hf rfl rfl rfl rfl hc238) hf rfl rfl (e_move hf rfl) fun a hf => ?_
                              refine gq (wanted_t hf rfl rfl rfl rfl hc238) hf rfl rfl (e_move hf rfl) fun a hf => ?_
                              obtain ⟨y240, hz241, h191⟩ := bind_some h191
                              refine pl_gl (wanted_t hf rfl rfl rfl rfl hc238) hf rfl rfl (w_call hf Tryz.call21 rfl (r_laws_f6same ⟨_, All C _ _, none_, hM.all_lt, none_not, C.G, hM.g_lt, g_none, hM.tabs⟩ y172.1 _ _ (hM.lendRow (k := 1) rfl) y180.1 _ _ (hM.lendRow (k := 0) rfl) _ hz241) ?_)
                              rintro _ w242 ⟨rfl, hM2⟩
                              obtain ⟨hM, hx243⟩ := hM.backA hM2
                              clear hM2
                              refine ⟨_, rfl, fun a hf => ?_⟩
                              refine gq (wanted_t hf rfl rfl rfl rfl hc238) hf rfl rfl (e_not hf rfl) fun a hf => ?_
                              refine q_ hf rfl rfl rfl (e_pick_f hf rfl hc238 rfl) fun a hf => ?_
                              refine pl_nil ?_
                              obtain rfl := some_inj h191
                              refine then_n ?_
                              exact ⟨(!y240), rfl, hf.keep ⟨rfl, rfl, rfl, rfl, rfl, rfl, rfl, rfl, rfl, trivial⟩, hM.pick [0] rfl⟩
    · rintro a w246 ⟨t188, rfl, hf, hM⟩
      try dsimp only at h
      rcases cond_some h with ⟨hc247, h⟩ | ⟨hc247, h⟩
      · refine cond_t hf rfl hc247 ?_
        refine wp_seq ?_
        refine region_pl ?_
        refine q_ hf rfl rfl rfl (e_assign hf rfl) fun a hf => ?_
        refine pl_nil ?_
        refine then_n ?_
        refine wp_ret ?_
        refine then_r ?_
        obtain rfl := some_inj h
        have hM := hM.outs (own' := []) 0 rfl
        exact leave1 hf rfl rfl ⟨rfl, hM.fin⟩
      · refine cond_f hf rfl hc247 ?_
        refine wp_skip ?_
        refine then_n ?_
        obtain ⟨x248, h249, h⟩ := bind_some h
        refine seq_join (fun a w => (.inl ()) = x248 ∧ Has 248 a [(4, vI (y11.2.1)), (5, vS (y11.2.2)), (6, vP b37 (0)), (7, vI (y28.2))] ∧ Mem C w [.row strRep A182 c183 9 y180.1 true, .row strRep A174 c175 9 y172.1 true, .box b162 [vL A152 (y147.2.1.Words) c153] 41, .box b158 [vI (y147.1.Rows), vI (y147.1.Cols), vS (y147.1.Cells)] 25, .row strRep A152 c153 9 y147.2.1.Words true, .box b140 [vI (y132.1.Rows), vI (y132.1.Cols), vS (y132.1.Cells)] 25, .box b125 [vI (y117.1.Rows), vI (y117.1.Cols), vS (y117.1.Cells)] 25, .box b104 [vI (y96.1.Rows), vI (y96.1.Cols), vS (y96.1.Cells)] 25, .row SlotRep A70 c71 60 y68.1 true, .row SlotRep A62 c63 60 y60.1 true, .box b53 [vI (y44.1.Rows), vI (y44.1.Cols), vS (y44.1.Cells)] 25, .box b37 [vI (y28.1.Rows), vI (y28.1.Cols), vS (y28.1.Cells)] 25, .box b21 [vI (y11.1.Rows), vI (y11.1.Cols), vS (y11.1.Cells)] 25] [.dat (sliceRep byteRep) code1 [vL A2 code1 c3]]) ?_ ?_
        · refine wp_seq ?_
          refine region_pl ?_
          refine q_ hf rfl rfl rfl (e_assign hf rfl) fun a hf => ?_
          refine pl_nil ?_
          refine then_n ?_
          refine wp_block ?_
          obtain ⟨x253, h254, h249⟩ := bind_some h249
          refine wp_loopM h254 (fun s a w => ∃ (put250 : Int), put250 = s ∧ Has 248 a [(4, vI (y11.2.1)), (5, vS (y11.2.2)), (6, vP b37 (0)), (7, vI (y28.2)), (26, vP b158 (0)), (28, vI (y147.2.2)), (29, vL A174 (y172.1) c175), (30, vI (y172.2)), (33, vI (put250))] ∧ Mem C w [.row strRep A182 c183 9 y180.1 true, .row strRep A174 c175 9 y172.1 true, .box b162 [vL A152 (y147.2.1.Words) c153] 41, .box b158 [vI (y147.1.Rows), vI (y147.1.Cols), vS (y147.1.Cells)] 25, .row strRep A152 c153 9 y147.2.1.Words true, .box b140 [vI (y132.1.Rows), vI (y132.1.Cols), vS (y132.1.Cells)] 25, .box b125 [vI (y117.1.Rows), vI (y117.1.Cols), vS (y117.1.Cells)] 25, .box b104 [vI (y96.1.Rows), vI (y96.1.Cols), vS (y96.1.Cells)] 25, .row SlotRep A70 c71 60 y68.1 true, .row SlotRep A62 c63 60 y60.1 true, .box b53 [vI (y44.1.Rows), vI (y44.1.Cols), vS (y44.1.Cells)] 25, .box b37 [vI (y28.1.Rows), vI (y28.1.Cols), vS (y28.1.Cells)] 25, .box b21 [vI (y11.1.Rows), vI (y11.1.Cols), vS (y11.1.Cells)] 25] [.dat (sliceRep byteRep) code1 [vL A2 code1 c3]] ∧ R64 put250) ?_ ?_
          · exact ⟨0, rfl, hf.keep ⟨rfl, rfl, rfl, rfl, rfl, rfl, rfl, rfl, rfl, trivial⟩, hM.pick [0] rfl, (R64_lit rfl)⟩
          · rintro s o255 a w252 ⟨put250, rfl, hf, hM, hv251⟩ h256 hd257
            replace h256 : m_laws_FnSlots_l1 y172 y147 put250 = some o255 := h256
            unfold m_laws_FnSlots_l1 at h256
            refine wp_seq ?_
            obtain ⟨x260, h261, h256⟩ := bind_some h256
            refine seq_join (fun a w => ∃ (t258 : Bool), t258 = x260 ∧ Has 248 a [(4, vI (y11.2.1)), (5, vS (y11.2.2)), (6, vP b37 (0)), (7, vI (y28.2)), (26, vP b158 (0)), (28, vI (y147.2.2)), (29, vL A174 (y172.1) c175), (30, vI (y172.2)), (33, vI (put250)), (200, .bool (t258))] ∧ Mem C w [.row strRep A182 c183 9 y180.1 true, .row strRep A174 c175 9 y172.1 true, .box b162 [vL A152 (y147.2.1.Words) c153] 41, .box b158 [vI (y147.1.Rows), vI (y147.1.Cols), vS (y147.1.Cells)] 25, .row strRep A152 c153 9 y147.2.1.Words true, .box b140 [vI (y132.1.Rows), vI (y132.1.Cols), vS (y132.1.Cells)] 25, .box b125 [vI (y117.1.Rows), vI (y117.1.Cols), vS (y117.1.Cells)] 25, .box b104 [vI (y96.1.Rows), vI (y96.1.Cols), vS (y96.1.Cells)] 25, .row SlotRep A70 c71 60 y68.1 true, .row SlotRep A62 c63 60 y60.1 true, .box b53 [vI (y44.1.Rows), vI (y44.1.Cols), vS (y44.1.Cells)] 25, .box b37 [vI (y28.1.Rows), vI (y28.1.Cols), vS (y28.1.Cells)] 25, .box b21 [vI (y11.1.Rows), vI (y11.1.Cols), vS (y11.1.Cells)] 25] [.dat (sliceRep byteRep) code1 [vL A2 code1 c3]]) ?_ ?_
            · refine region_pl ?_
              refine q_ hf rfl rfl rfl (e_move hf rfl) fun a hf => ?_
              refine q_ hf rfl rfl rfl (e_eq hf (x := y172.2) (y := 0) rfl rfl) fun a hf => ?_
              refine q_ hf rfl rfl rfl (e_move hf rfl) fun a hf => ?_
              rcases cond_some h261 with ⟨hc262, h261⟩ | ⟨hc262, h261⟩
              · refine gq (wanted_t hf rfl rfl rfl rfl hc262) hf rfl rfl (e_move hf rfl) fun a hf => ?_
                refine gq (wanted_t hf rfl rfl rfl rfl hc262) hf rfl rfl (e_move hf rfl) fun a hf => ?_
                have hl263 := row_len (hM.ownAt (k := 1) rfl)
                refine gq (wanted_t hf rfl rfl rfl rfl hc262) hf rfl rfl (e_lenL hf (x := y172.1) rfl Tryz.underlying39) fun a hf => ?_
                refine gq (wanted_t hf rfl rfl rfl rfl hc262) hf rfl rfl (e_lt hf (x := put250) (y := (y172.1.length : Int)) rfl rfl) fun a hf => ?_
                refine q_ hf rfl rfl rfl (e_pick_t hf rfl hc262 rfl) fun a hf => ?_
                refine pl_nil ?_
                obtain rfl := some_inj h261
                refine then_n ?_
                exact ⟨(decide (put250 < (y172.1.length : Int))), rfl, hf.keep ⟨rfl, rfl, rfl, rfl, rfl, rfl, rfl, rfl, rfl, rfl, trivial⟩, hM.pick [0] rfl⟩
              · refine pl_gs (wanted_f hf rfl rfl rfl rfl hc262) hf rfl rfl fun a hf => ?_
                refine pl_gs (wanted_f hf rfl rfl rfl rfl hc262) hf rfl rfl fun a hf => ?_
                refine pl_gs (wanted_f hf rfl rfl rfl rfl hc262) hf rfl rfl fun a hf => ?_
                refine pl_gs (wanted_f hf rfl rfl rfl rfl hc262) hf rfl rfl fun a hf => ?_
                refine q_ hf rfl rfl rfl (e_pick_f hf rfl hc262 rfl) fun a hf => ?_
                refine pl_nil ?_
                obtain rfl := some_inj h261
                refine then_n ?_
                exact ⟨false, rfl, hf.keep ⟨rfl, rfl, rfl, rfl, rfl, rfl, rfl, rfl, rfl, rfl, trivial⟩, hM.pick [0] rfl⟩
            · rintro a w266 ⟨t258, rfl, hf, hM⟩
              try dsimp only at h256
              rcases cond_some h256 with ⟨hc267, h256⟩ | ⟨hc267, h256⟩
              · refine cond_t hf rfl hc267 ?_
                refine wp_skip ?_
                refine then_n ?_
                refine wp_seq ?_
                refine wp_block ?_
                refine wp_seq ?_
                obtain ⟨w268, hw⟩ : ∃ x, x = w266.drew := ⟨_, rfl⟩
                refine region_pi (.q 0 (.q 1 (.q 2 (.q 3 (.q 4 (.q 5 (.b 6 10 (.q 7 (.q 8 (.q 9 (.l 10 (.l 11 (.q 12 (.nil))))))) (.l 6 (.q 7 (.q 8 (.q 9 (.l 11 (.q 12 (.nil)))))))))))))) (ExtM [] w268) rfl (by kernel_rfl) ?_
                have hM := hM.drew
                rw [← hw] at hM ⊢
                clear hw
                refine pi_q hf rfl rfl rfl rfl (ExtM.refl _ _) (e_loadAM hf (us := [vI (y147.1.Rows), vI (y147.1.Cols), vS (y147.1.Cells)]) rfl ⟨Tryz.isAgg25, Tryz.sizeOf25⟩ rfl (hM.boxSub (k := 3) (us := [vI (y147.1.Rows), vI (y147.1.Cols), vS (y147.1.Cells)]) (o := 0) rfl rfl) (hM.apart (js := []) rfl (k := 3) rfl rfl rfl)) fun a hf => ?_
                refine pi_q hf rfl rfl rfl rfl (ExtM.refl _ _) (e_move hf rfl) fun a hf => ?_
                refine pi_q hf rfl rfl rfl rfl (ExtM.refl _ _) (e_move hf rfl) fun a hf => ?_
                refine pi_q hf rfl rfl rfl rfl (ExtM.refl _ _) (e_move hf rfl) fun a hf => ?_
                obtain ⟨e269, hz270, h256⟩ := bind_some h256
                obtain ⟨b275, _, hA276, h271, h272, hr273, hcell274⟩ := hM.rowElemN (k := 1) rfl (n := 1) rfl hz270
                obtain ⟨rfl, hv277⟩ := hr273
                refine pi_q hf rfl rfl rfl rfl (ExtM.refl _ _) (e_indexAddr (A := A174) (b := b275) (o := 0) (xs := y172.1) (i := put250) hf hA276 rfl rfl Tryz.underlying39 Tryz.sizeOf9 h271 h272) fun a hf => ?_
                refine pi_q hf rfl rfl rfl rfl (ExtM.refl _ _) (e_load1M hf rfl Tryz.isAgg9 (hcell274 0 _ rfl) (hM.apart (js := []) rfl (k := 1) rfl (by rw [hA276]; rfl) rfl)) fun a hf => ?_
                obtain ⟨y278, hz279, h256⟩ := bind_some h256
                refine pi_two ?_ ?_
                · refine pi_l hf rfl rfl rfl rfl (w_call hf Tryz.call6 rfl (r_impl_PutWord ⟨_, Sh C _ _, none_, hM.sh_lt, none_not, C.G, hM.g_lt, g_none, hM.tabs⟩ y147.1 hv149 hv150 hv151 y147.2.2 hv154 e269 hv277 _ hz279) ?_)
                  rintro _ w295 ⟨rfl, hM2, hv291, hv292, hv293, hv294⟩
                  obtain ⟨hM, hx296, hup297⟩ := hM.back hM2
                  dsimp only [List.cons_append, List.nil_append] at hM hup297
                  clear hM2
                  refine ⟨_, rfl, ExtM [] w295, fun _ h => ExtM.trans hx296 h, ExtM.refl _ _, fun a hf => ?_⟩
                  refine pi_q hf rfl rfl rfl rfl (ExtM.refl _ _) (e_move hf rfl) fun a hf => ?_
                  refine pi_q hf rfl rfl rfl rfl (ExtM.refl _ _) (e_extract hf rfl rfl) fun a hf => ?_
                  refine pi_q hf rfl rfl rfl rfl (ExtM.refl _ _) (e_extract hf rfl rfl) fun a hf => ?_
                  refine pi_one ?_
                  refine pi_l hf rfl rfl rfl rfl (w_allocM hM (cs := [vI (0), vI (0), vS (([] : Str))]) Tryz.zeroValue25 rfl fun b298 w299 hx300 hn301 hM => ⟨ExtM [some b298] w299, fun _ h => ExtM.grow hx300 hn301 h, ExtM.refl _ _, fun a hf => ?_⟩)
                  refine pi_one ?_
                  refine pi_l0 hf rfl rfl rfl (w_storeM hf (List.mem_of_getElem? (i := 0) rfl) hM (us := [vI (y278.1.Rows), vI (y278.1.Cols), vS (y278.1.Cells)]) (cs' := [vI (y278.1.Rows), vI (y278.1.Cols), vS (y278.1.Cells)]) rfl rfl (k := 0) rfl rfl Tryz.sizeOf25 rfl rfl rfl fun w302 hxm303 hsz304 hM => ⟨Ext w302, fun _ h => ExtM.last hxm303 hsz304 h, Ext.refl _, ?_⟩)
                  dsimp only [List.set] at hM
                  refine pi_q hf rfl rfl rfl rfl (Ext.refl _) (e_assign hf rfl) fun a hf => ?_
                  refine pi_nil ?_
                  refine then_n ?_
                  refine wp_seq ?_
                  refine region_pl ?_
                  refine q_ hf rfl rfl rfl (e_loadA hf (us := [vI (y278.1.Rows), vI (y278.1.Cols), vS (y278.1.Cells)]) rfl ⟨Tryz.isAgg25, Tryz.sizeOf25⟩ rfl (hM.boxSub (k := 0) (us := [vI (y278.1.Rows), vI (y278.1.Cols), vS (y278.1.Cells)]) (o := 0) rfl rfl)) fun a hf => ?_
                  refine q_ hf rfl rfl rfl (e_move hf rfl) fun a hf => ?_
                  obtain ⟨y305, hz306, h256⟩ := bind_some h256
                  refine pl_l hf rfl rfl rfl (w_call hf Tryz.call10 rfl (r_impl_PatternOf ⟨_, Sh C _ _, none_, hM.sh_lt, none_not, C.G, hM.g_lt, g_none, hM.tabs⟩ y278.1 hv291 hv292 hv293 y147.2.2 hv154 _ hz306) ?_)
                  rintro _ w309 ⟨rfl, hM2, hv307, hv308⟩
                  obtain ⟨hM, hx310, hup311⟩ := hM.back hM2
                  dsimp only [List.cons_append, List.nil_append] at hM hup311
                  clear hM2
                  refine ⟨_, rfl, fun a hf => ?_⟩
                  refine q_ hf rfl rfl rfl (e_move hf rfl) fun a hf => ?_
                  refine q_ hf rfl rfl rfl (e_extract hf rfl rfl) fun a hf => ?_
                  refine q_ hf rfl rfl rfl (e_extract hf rfl rfl) fun a hf => ?_
                  refine q_ hf rfl rfl rfl (e_assign hf rfl) fun a hf => ?_
                  refine q_ hf rfl rfl rfl (e_assign hf rfl) fun a hf => ?_
                  refine pl_nil ?_
                  refine then_n ?_
                  obtain ⟨x314, h315, h256⟩ := bind_some h256
                  refine seq_join (fun a w => ∃ (t312 : Bool), t312 = x314 ∧ Has 248 a [(4, vI (y11.2.1)), (5, vS (y11.2.2)), (6, vP b37 (0)), (7, vI (y28.2)), (26, vP b158 (0)), (28, vI (y147.2.2)), (29, vL A174 (y172.1) c175), (30, vI (y172.2)), (33, vI (put250)), (232, .bool (t312))] ∧ Mem C w [.box b298 [vI (y278.1.Rows), vI (y278.1.Cols), vS (y278.1.Cells)] 25, .row strRep A182 c183 9 y180.1 true, .row strRep A174 c175 9 y172.1 true, .box b162 [vL A152 (y147.2.1.Words) c153] 41, .box b158 [vI (y147.1.Rows), vI (y147.1.Cols), vS (y147.1.Cells)] 25, .row strRep A152 c153 9 y147.2.1.Words true, .box b140 [vI (y132.1.Rows), vI (y132.1.Cols), vS (y132.1.Cells)] 25, .box b125 [vI (y117.1.Rows), vI (y117.1.Cols), vS (y117.1.Cells)] 25, .box b104 [vI (y96.1.Rows), vI (y96.1.Cols), vS (y96.1.Cells)] 25, .row SlotRep A70 c71 60 y68.1 true, .row SlotRep A62 c63 60 y60.1 true, .box b53 [vI (y44.1.Rows), vI (y44.1.Cols), vS (y44.1.Cells)] 25, .box b37 [vI (y28.1.Rows), vI (y28.1.Cols), vS (y28.1.Cells)] 25, .box b21 [vI (y11.1.Rows), vI (y11.1.Cols), vS (y11.1.Cells)] 25] [.dat (sliceRep byteRep) code1 [vL A2 code1 c3]]) ?_ ?_
                  · refine region_pl ?_
                    refine q_ hf rfl rfl rfl (e_move hf rfl) fun a hf => ?_
                    refine q_ hf rfl rfl rfl (e_ne hf (x := y278.2) (y := 0) rfl rfl) fun a hf => ?_
                    refine q_ hf rfl rfl rfl (e_move hf rfl) fun a hf => ?_
                    rcases cond_some h315 with ⟨hc316, h315⟩ | ⟨hc316, h315⟩
                    · refine pl_gs (wanted_f hf rfl rfl rfl rfl hc316) hf rfl rfl fun a hf => ?_
                      refine pl_gs (wanted_f hf rfl rfl rfl rfl hc316) hf rfl rfl fun a hf => ?_
                      refine q_ hf rfl rfl rfl (e_pick_t hf rfl hc316 rfl) fun a hf => ?_
                      refine q_ hf rfl rfl rfl (e_move hf rfl) fun a hf => ?_
                      refine pl_gs (wanted_f hf rfl rfl rfl rfl rfl) hf rfl rfl fun a hf => ?_
                      refine pl_gs (wanted_f hf rfl rfl rfl rfl rfl) hf rfl rfl fun a hf => ?_
                      refine pl_gs (wanted_f hf rfl rfl rfl rfl rfl) hf rfl rfl fun a hf => ?_
                      refine pl_gs (wanted_f hf rfl rfl rfl rfl rfl) hf rfl rfl fun a hf => ?_
                      refine pl_gs (wanted_f hf rfl rfl rfl rfl rfl) hf rfl rfl fun a hf => ?_
                      refine pl_gs (wanted_f hf rfl rfl rfl rfl rfl) hf rfl rfl fun a hf => ?_
                      refine q_ hf rfl rfl rfl (e_pick_t hf rfl rfl rfl) fun a hf => ?_
                      refine pl_nil ?_
                      obtain rfl := some_inj h315
                      refine then_n ?_
                      exact ⟨true, rfl, hf.keep ⟨rfl, rfl, rfl, rfl, rfl, rfl, rfl, rfl, rfl, rfl, trivial⟩, hM.pick [0] rfl⟩
                    · refine gq (wanted_t hf rfl rfl rfl rfl hc316) hf rfl rfl (e_move hf rfl) fun a hf => ?_
                      refine gq (wanted_t hf rfl rfl rfl rfl hc316) hf rfl rfl (e_ne hf (x := y305.2) (y := 0) rfl rfl) fun a hf => ?_
                      refine q_ hf rfl rfl rfl (e_pick_f hf rfl hc316 rfl) fun a hf => ?_
                      refine q_ hf rfl rfl rfl (e_move hf rfl) fun a hf => ?_
                      rcases cond_some h315 with ⟨hc318, h315⟩ | ⟨hc318, h315⟩
                      · refine pl_gs (wanted_f hf rfl rfl rfl rfl hc318) hf rfl rfl fun a hf => ?_
                        refine pl_gs (wanted_f hf rfl rfl rfl rfl hc318) hf rfl rfl fun a hf => ?_
                        refine pl_gs (wanted_f hf rfl rfl rfl rfl hc318) hf rfl rfl fun a hf => ?_
                        refine pl_gs (wanted_f hf rfl rfl rfl rfl hc318) hf rfl rfl fun a hf => ?_
                        refine pl_gs (wanted_f hf rfl rfl rfl rfl hc318) hf rfl rfl fun a hf => ?_
                        refine pl_gs (wanted_f hf rfl rfl rfl rfl hc318) hf rfl rfl fun a hf => ?_
                        refine q_ hf rfl rfl rfl (e_pick_t hf rfl hc318 rfl) fun a hf => ?_
                        refine pl_nil ?_
                        obtain rfl := some_inj h315
                        refine then_n ?_
                        exact ⟨true, rfl, hf.keep ⟨rfl, rfl, rfl, rfl, rfl, rfl, rfl, rfl, rfl, rfl, trivial⟩, hM.pick [0] rfl⟩
                      · refine gq (wanted_t hf rfl rfl rfl rfl hc318) hf rfl rfl (e_move hf rfl) fun a hf => ?_
                        refine gq (wanted_t hf rfl rfl rfl rfl hc318) hf rfl rfl (e_move hf rfl) fun a hf => ?_
                        refine gq (wanted_t hf rfl rfl rfl rfl hc318) hf rfl rfl (e_move hf rfl) fun a hf => ?_
                        obtain ⟨e320, hz321, h315⟩ := bind_some h315
                        obtain ⟨b326, _, hA327, h322, h323, hr324, hcell325⟩ := hM.rowElemN (k := 2) rfl (n := 1) rfl hz321
                        obtain ⟨rfl, hv328⟩ := hr324
                        refine gq (wanted_t hf rfl rfl rfl rfl hc318) hf rfl rfl (e_indexAddr (A := A174) (b := b326) (o := 0) (xs := y172.1) (i := put250) hf hA327 rfl rfl Tryz.underlying39 Tryz.sizeOf9 h322 h323) fun a hf => ?_
                        refine gq (wanted_t hf rfl rfl rfl rfl hc318) hf rfl rfl (e_load1 hf rfl Tryz.isAgg9 (hcell325 0 _ rfl)) fun a hf => ?_
                        refine gq (wanted_t hf rfl rfl rfl rfl hc318) hf rfl rfl (e_neS hf (x := y305.1) (y := e320) rfl rfl) fun a hf => ?_
                        refine q_ hf rfl rfl rfl (e_pick_f hf rfl hc318 rfl) fun a hf => ?_
                        refine pl_nil ?_
                        obtain rfl := some_inj h315
                        refine then_n ?_
                        exact ⟨(y305.1 != e320), rfl, hf.keep ⟨rfl, rfl, rfl, rfl, rfl, rfl, rfl, rfl, rfl, rfl, trivial⟩, hM.pick [0] rfl⟩
                  · rintro a w330 ⟨t312, rfl, hf, hM⟩
                    try dsimp only at h256
                    rcases cond_some h256 with ⟨hc331, h256⟩ | ⟨hc331, h256⟩
                    · refine cond_t hf rfl hc331 ?_
                      refine wp_seq ?_
                      refine region_pl ?_
                      refine q_ hf rfl rfl rfl (e_assign hf rfl) fun a hf => ?_
                      refine pl_nil ?_
                      refine then_n ?_
                      refine wp_ret ?_
                      refine blk_r ?_
                      refine then_r ?_
                      obtain rfl := some_inj h256
                      obtain rfl := hd257 _ rfl
                      try dsimp only at h249
                      refine then_r ?_
                      refine blk_r ?_
                      obtain rfl := some_inj h249
                      try dsimp only at h
                      refine then_r ?_
                      obtain rfl := some_inj h
                      have hM := hM.outs (own' := []) 0 rfl
                      exact leave1 hf rfl rfl ⟨rfl, hM.fin⟩
                    · refine cond_f hf rfl hc331 ?_
                      refine wp_skip ?_
                      refine blk_n ?_
                      refine then_n ?_
                      refine region_pl ?_
                      refine q_ hf rfl rfl rfl (e_move hf rfl) fun a hf => ?_
                      obtain ⟨z332, hz333, h256⟩ := bind_some h256
                      refine q_ hf rfl rfl rfl (e_add hf rfl rfl hz333) fun a hf => ?_
                      refine q_ hf rfl rfl rfl (e_assign hf rfl) fun a hf => ?_
                      refine pl_nil ?_
                      obtain rfl := some_inj h256
                      refine then_n ⟨_, rfl, ?_⟩
                      exact ⟨z332, rfl, hf.keep ⟨rfl, rfl, rfl, rfl, rfl, rfl, rfl, rfl, rfl, trivial⟩, (hM.drop (.cons _ (.cons_cons _ (.cons_cons _ (.cons_cons _ (.cons_cons _ (.cons_cons _ (.cons_cons _ (.cons_cons _ (.cons_cons _ (.cons_cons _ (.cons_cons _ (.cons_cons _ (.cons_cons _ (.cons_cons _ .slnil))))))))))))))).pick [0] rfl, (chk_R hz333)⟩
                · refine pi_l hf rfl rfl rfl rfl (w_allocM hM (cs := [vI (0), vI (0), vS (([] : Str))]) Tryz.zeroValue25 rfl fun b335 w336 hx337 hn338 hM => ⟨ExtM [some b335] w336, fun _ h => ExtM.grow hx337 hn338 h, ExtM.refl _ _, fun a hf => ?_⟩)
                  refine pi_one ?_
                  refine pi_l hf rfl rfl rfl rfl (w_call hf Tryz.call6 rfl (r_impl_PutWord ⟨_, Sh C _ _, none_, hM.sh_lt, none_not, C.G, hM.g_lt, g_none, hM.tabs⟩ y147.1 hv149 hv150 hv151 y147.2.2 hv154 e269 hv277 _ hz279) ?_)
                  rintro _ w343 ⟨rfl, hM2, hv339, hv340, hv341, hv342⟩
                  obtain ⟨hM, hx344, hup345⟩ := hM.back hM2
                  dsimp only [List.cons_append, List.nil_append] at hM hup345
                  clear hM2
                  refine ⟨_, rfl, ExtM [some b335] w343, fun _ h => ExtM.trans hx344 h, ExtM.refl _ _, fun a hf => ?_⟩
                  refine pi_q hf rfl rfl rfl rfl (ExtM.refl _ _) (e_move hf rfl) fun a hf => ?_
                  refine pi_q hf rfl rfl rfl rfl (ExtM.refl _ _) (e_extract hf rfl rfl) fun a hf => ?_
                  refine pi_q hf rfl rfl rfl rfl (ExtM.refl _ _) (e_extract hf rfl rfl) fun a hf => ?_
                  refine pi_one ?_
                  refine pi_l0 hf rfl rfl rfl (w_storeM hf (List.mem_of_getElem? (i := 0) rfl) hM (us := [vI (y278.1.Rows), vI (y278.1.Cols), vS (y278.1.Cells)]) (cs' := [vI (y278.1.Rows), vI (y278.1.Cols), vS (y278.1.Cells)]) rfl rfl (k := 0) rfl rfl Tryz.sizeOf25 rfl rfl rfl fun w346 hxm347 hsz348 hM => ⟨Ext w346, fun _ h => ExtM.last hxm347 hsz348 h, Ext.refl _, ?_⟩)
                  dsimp only [List.set] at hM
                  refine pi_q hf rfl rfl rfl rfl (Ext.refl _) (e_assign hf rfl) fun a hf => ?_
                  refine pi_nil ?_
                  refine then_n ?_
                  refine wp_seq ?_
                  refine region_pl ?_
                  refine q_ hf rfl rfl rfl (e_loadA hf (us := [vI (y278.1.Rows), vI (y278.1.Cols), vS (y278.1.Cells)]) rfl ⟨Tryz.isAgg25, Tryz.sizeOf25⟩ rfl (hM.boxSub (k := 0) (us := [vI (y278.1.Rows), vI (y278.1.Cols), vS (y278.1.Cells)]) (o := 0) rfl rfl)) fun a hf => ?_
                  refine q_ hf rfl rfl rfl (e_move hf rfl) fun a hf => ?_
                  obtain ⟨y349, hz350, h256⟩ := bind_some h256
                  refine pl_l hf rfl rfl rfl (w_call hf Tryz.call10 rfl (r_impl_PatternOf ⟨_, Sh C _ _, none_, hM.sh_lt, none_not, C.G, hM.g_lt, g_none, hM.tabs⟩ y278.1 hv339 hv340 hv341 y147.2.2 hv154 _ hz350) ?_)
                  rintro _ w353 ⟨rfl, hM2, hv351, hv352⟩
                  obtain ⟨hM, hx354, hup355⟩ := hM.back hM2
                  dsimp only [List.cons_append, List.nil_append] at hM hup355
                  clear hM2
                  refine ⟨_, rfl, fun a hf => ?_⟩
                  refine q_ hf rfl rfl rfl (e_move hf rfl) fun a hf => ?_
                  refine q_ hf rfl rfl rfl (e_extract hf rfl rfl) fun a hf => ?_
                  refine q_ hf rfl rfl rfl (e_extract hf rfl rfl) fun a hf => ?_
                  refine q_ hf rfl rfl rfl (e_assign hf rfl) fun a hf => ?_
                  refine q_ hf rfl rfl rfl (e_assign hf rfl) fun a hf => ?_
                  refine pl_nil ?_
                  refine then_n ?_
                  obtain ⟨x358, h359, h256⟩ := bind_some h256
                  refine seq_join (fun a w => ∃ (t356 : Bool), t356 = x358 ∧ Has 248 a [(4, vI (y11.2.1)), (5, vS (y11.2.2)), (6, vP b37 (0)), (7, vI (y28.2)), (26, vP b158 (0)), (28, vI (y147.2.2)), (29, vL A174 (y172.1) c175), (30, vI (y172.2)), (33, vI (put250)), (232, .bool (t356))] ∧ Mem C w [.box b335 [vI (y278.1.Rows), vI (y278.1.Cols), vS (y278.1.Cells)] 25, .row strRep A182 c183 9 y180.1 true, .row strRep A174 c175 9 y172.1 true, .box b162 [vL A152 (y147.2.1.Words) c153] 41, .box b158 [vI (y147.1.Rows), vI (y147.1.Cols), vS (y147.1.Cells)] 25, .row strRep A152 c153 9 y147.2.1.Words true, .box b140 [vI (y132.1.Rows), vI (y132.1.Cols), vS (y132.1.Cells)] 25, .box b125 [vI (y117.1.Rows), vI (y117.1.Cols), vS (y117.1.Cells)] 25, .box b104 [vI (y96.1.Rows), vI (y96.1.Cols), vS (y96.1.Cells)] 25, .row SlotRep A70 c71 60 y68.1 true, .row SlotRep A62 c63 60 y60.1 true, .box b53 [vI (y44.1.Rows), vI (y44.1.Cols), vS (y44.1.Cells)] 25, .box b37 [vI (y28.1.Rows), vI (y28.1.Cols), vS (y28.1.Cells)] 25, .box b21 [vI (y11.1.Rows), vI (y11.1.Cols), vS (y11.1.Cells)] 25] [.dat (sliceRep byteRep) code1 [vL A2 code1 c3]]) ?_ ?_
                  · refine region_pl ?_
                    refine q_ hf rfl rfl rfl (e_move hf rfl) fun a hf => ?_
                    refine q_ hf rfl rfl rfl (e_ne hf (x := y278.2) (y := 0) rfl rfl) fun a hf => ?_
                    refine q_ hf rfl rfl rfl (e_move hf rfl) fun a hf => ?_
                    rcases cond_some h359 with ⟨hc360, h359⟩ | ⟨hc360, h359⟩
                    · refine pl_gs (wanted_f hf rfl rfl rfl rfl hc360) hf rfl rfl fun a hf => ?_
                      refine pl_gs (wanted_f hf rfl rfl rfl rfl hc360) hf rfl rfl fun a hf => ?_
                      refine q_ hf rfl rfl rfl (e_pick_t hf rfl hc360 rfl) fun a hf => ?_
                      refine q_ hf rfl rfl rfl (e_move hf rfl) fun a hf => ?_
                      refine pl_gs (wanted_f hf rfl rfl rfl rfl rfl) hf rfl rfl fun a hf => ?_
                      refine pl_gs (wanted_f hf rfl rfl rfl rfl rfl) hf rfl rfl fun a hf => ?_
                      refine pl_gs (wanted_f hf rfl rfl rfl rfl rfl) hf rfl rfl fun a hf => ?_
                      refine pl_gs (wanted_f hf rfl rfl rfl rfl rfl) hf rfl rfl fun a hf => ?_
                      refine pl_gs (wanted_f hf rfl rfl rfl rfl rfl) hf rfl rfl fun a hf => ?_
                      refine pl_gs (wanted_f hf rfl rfl rfl rfl rfl) hf rfl rfl fun a hf => ?_
                      refine q_ hf rfl rfl rfl (e_pick_t hf rfl rfl rfl) fun a hf => ?_
                      refine pl_nil ?_
                      obtain rfl := some_inj h359
                      refine then_n ?_
                      exact ⟨true, rfl, hf.keep ⟨rfl, rfl, rfl, rfl, rfl, rfl, rfl, rfl, rfl, rfl, trivial⟩, hM.pick [0] rfl⟩
                    · refine gq (wanted_t hf rfl rfl rfl rfl hc360) hf rfl rfl (e_move hf rfl) fun a hf => ?_
                      refine gq (wanted_t hf rfl rfl rfl rfl hc360) hf rfl rfl (e_ne hf (x := y349.2) (y := 0) rfl rfl) fun a hf => ?_
                      refine q_ hf rfl rfl rfl (e_pick_f hf rfl hc360 rfl) fun a hf => ?_
                      refine q_ hf rfl rfl rfl (e_move hf rfl) fun a hf => ?_
                      rcases cond_some h359 with ⟨hc362, h359⟩ | ⟨hc362, h359⟩
                      · refine pl_gs (wanted_f hf rfl rfl rfl rfl hc362) hf rfl rfl fun a hf => ?_
                        refine pl_gs (wanted_f hf rfl rfl rfl rfl hc362) hf rfl rfl fun a hf => ?_
                        refine pl_gs (wanted_f hf rfl rfl rfl rfl hc362) hf rfl rfl fun a hf => ?_
                        refine pl_gs (wanted_f hf rfl rfl rfl rfl hc362) hf rfl rfl fun a hf => ?_
                        refine pl_gs (wanted_f hf rfl rfl rfl rfl hc362) hf rfl rfl fun a hf => ?_
                        refine pl_gs (wanted_f hf rfl rfl rfl rfl hc362) hf rfl rfl fun a hf => ?_
                        refine q_ hf rfl rfl rfl (e_pick_t hf rfl hc362 rfl) fun a hf => ?_
                        refine pl_nil ?_
                        obtain rfl := some_inj h359
                        refine then_n ?_
                        exact ⟨true, rfl, hf.keep ⟨rfl, rfl, rfl, rfl, rfl, rfl, rfl, rfl, rfl, rfl, trivial⟩, hM.pick [0] rfl⟩
                      · refine gq (wanted_t hf rfl rfl rfl rfl hc362) hf rfl rfl (e_move hf rfl) fun a hf => ?_
                        refine gq (wanted_t hf rfl rfl rfl rfl hc362) hf rfl rfl (e_move hf rfl) fun a hf => ?_
                        refine gq (wanted_t hf rfl rfl rfl rfl hc362) hf rfl rfl (e_move hf rfl) fun a hf => ?_
                        obtain ⟨e364, hz365, h359⟩ := bind_some h359
                        obtain ⟨b370, _, hA371, h366, h367, hr368, hcell369⟩ := hM.rowElemN (k := 2) rfl (n := 1) rfl hz365
                        obtain ⟨rfl, hv372⟩ := hr368
                        refine gq (wanted_t hf rfl rfl rfl rfl hc362) hf rfl rfl (e_indexAddr (A := A174) (b := b370) (o := 0) (xs := y172.1) (i := put250) hf hA371 rfl rfl Tryz.underlying39 Tryz.sizeOf9 h366 h367) fun a hf => ?_
                        refine gq (wanted_t hf rfl rfl rfl rfl hc362) hf rfl rfl (e_load1 hf rfl Tryz.isAgg9 (hcell369 0 _ rfl)) fun a hf => ?_
                        refine gq (wanted_t hf rfl rfl rfl rfl hc362) hf rfl rfl (e_neS hf (x := y349.1) (y := e364) rfl rfl) fun a hf => ?_
                        refine q_ hf rfl rfl rfl (e_pick_f hf rfl hc362 rfl) fun a hf => ?_
                        refine pl_nil ?_
                        obtain rfl := some_inj h359
                        refine then_n ?_
                        exact ⟨(y349.1 != e364), rfl, hf.keep ⟨rfl, rfl, rfl, rfl, rfl, rfl, rfl, rfl, rfl, rfl, trivial⟩, hM.pick [0] rfl⟩
                  · rintro a w374 ⟨t356, rfl, hf, hM⟩
                    try dsimp only at h256
                    rcases cond_some h256 with ⟨hc375, h256⟩ | ⟨hc375, h256⟩
                    · refine cond_t hf rfl hc375 ?_
                      refine wp_seq ?_
                      refine region_pl ?_
                      refine q_ hf rfl rfl rfl (e_assign hf rfl) fun a hf => ?_
                      refine pl_nil ?_
                      refine then_n ?_
                      refine wp_ret ?_
                      refine blk_r ?_
                      refine then_r ?_
                      obtain rfl := some_inj h256
                      obtain rfl := hd257 _ rfl
                      try dsimp only at h249
                      refine then_r ?_
                      refine blk_r ?_
                      obtain rfl := some_inj h249
                      try dsimp only at h
                      refine then_r ?_
                      obtain rfl := some_inj h
                      have hM := hM.outs (own' := []) 0 rfl
                      exact leave1 hf rfl rfl ⟨rfl, hM.fin⟩
                    · refine cond_f hf rfl hc375 ?_
                      refine wp_skip ?_
                      refine blk_n ?_
                      refine then_n ?_
                      refine region_pl ?_
                      refine q_ hf rfl rfl rfl (e_move hf rfl) fun a hf => ?_
                      obtain ⟨z376, hz377, h256⟩ := bind_some h256
                      refine q_ hf rfl rfl rfl (e_add hf rfl rfl hz377) fun a hf => ?_
                      refine q_ hf rfl rfl rfl (e_assign hf rfl) fun a hf => ?_
                      refine pl_nil ?_
                      obtain rfl := some_inj h256
                      refine then_n ⟨_, rfl, ?_⟩
                      exact ⟨z376, rfl, hf.keep ⟨rfl, rfl, rfl, rfl, rfl, rfl, rfl, rfl, rfl, trivial⟩, (hM.drop (.cons _ (.cons_cons _ (.cons_cons _ (.cons_cons _ (.cons_cons _ (.cons_cons _ (.cons_cons _ (.cons_cons _ (.cons_cons _ (.cons_cons _ (.cons_cons _ (.cons_cons _ (.cons_cons _ (.cons_cons _ .slnil))))))))))))))).pick [0] rfl, (chk_R hz377)⟩
              · refine cond_f hf rfl hc267 ?_
                refine wp_exit ?_
                refine then_x ?_
                obtain rfl := some_inj h256
                obtain rfl := hd257 _ rfl
                try dsimp only at h249
                refine then_x ?_
                refine exit_hit ?_
                obtain rfl := some_inj h249
                refine then_n ?_
                exact ⟨rfl, hf.keep ⟨rfl, rfl, rfl, rfl, trivial⟩, hM.pick [0] rfl⟩
        · rintro a w384 ⟨rfl, hf, hM⟩
          try dsimp only at h
          refine wp_seq ?_
          refine wp_seq ?_
          refine region_pl ?_
          refine q_ hf rfl rfl rfl (e_move hf rfl) fun a hf => ?_
          refine q_ hf rfl rfl rfl (e_ne hf (x := y28.2) (y := 0) rfl rfl) fun a hf => ?_
          refine pl_nil ?_
          refine then_n ?_
          rcases cond_some h with ⟨hc385, h⟩ | ⟨hc385, h⟩
          · refine cond_t hf rfl hc385 ?_
            refine wp_seq ?_
            refine region_pl ?_
            refine q_ hf rfl rfl rfl (e_assign hf rfl) fun a hf => ?_
            refine pl_nil ?_
            refine then_n ?_
            refine wp_ret ?_
            refine then_r ?_
            obtain rfl := some_inj h
            have hM := hM.outs (own' := []) 0 rfl
            exact leave1 hf rfl rfl ⟨rfl, hM.fin⟩
          · refine cond_f hf rfl hc385 ?_
            refine wp_skip ?_
            refine then_n ?_
            refine wp_seq ?_
            refine region_pl ?_
            refine q_ hf rfl rfl rfl (e_loadA hf (us := [vI (y28.1.Rows), vI (y28.1.Cols), vS (y28.1.Cells)]) rfl ⟨Tryz.isAgg25, Tryz.sizeOf25⟩ rfl (hM.boxSub (k := 11) (us := [vI (y28.1.Rows), vI (y28.1.Cols), vS (y28.1.Cells)]) (o := 0) rfl rfl)) fun a hf => ?_
            refine q_ hf rfl rfl rfl (e_move hf rfl) fun a hf => ?_
            obtain ⟨y386, hz387, h⟩ := bind_some h
            refine pl_l hf rfl rfl rfl (w_call hf Tryz.call10 rfl (r_impl_PatternOf ⟨_, Sh C _ _, none_, hM.sh_lt, none_not, C.G, hM.g_lt, g_none, hM.tabs⟩ y28.1 hv30 hv31 hv32 y11.2.1 hv16 _ hz387) ?_)
            rintro _ w390 ⟨rfl, hM2, hv388, hv389⟩
            obtain ⟨hM, hx391, hup392⟩ := hM.back hM2
            dsimp only [List.cons_append, List.nil_append] at hM hup392
            clear hM2
            refine ⟨_, rfl, fun a hf => ?_⟩
            refine q_ hf rfl rfl rfl (e_move hf rfl) fun a hf => ?_
            refine q_ hf rfl rfl rfl (e_extract hf rfl rfl) fun a hf => ?_
            refine q_ hf rfl rfl rfl (e_extract hf rfl rfl) fun a hf => ?_
            refine q_ hf rfl rfl rfl (e_assign hf rfl) fun a hf => ?_
            refine q_ hf rfl rfl rfl (e_assign hf rfl) fun a hf => ?_
            refine pl_nil ?_
            refine then_n ?_
            obtain ⟨x395, h396, h⟩ := bind_some h
            refine seq_join (fun a w => ∃ (g393 : Bool), g393 = x395 ∧ Has 248 a [(2, .bool (g393))] ∧ Mem C w [.row strRep A182 c183 9 y180.1 true, .row strRep A174 c175 9 y172.1 true, .box b162 [vL A152 (y147.2.1.Words) c153] 41, .box b158 [vI (y147.1.Rows), vI (y147.1.Cols), vS (y147.1.Cells)] 25, .row strRep A152 c153 9 y147.2.1.Words true, .box b140 [vI (y132.1.Rows), vI (y132.1.Cols), vS (y132.1.Cells)] 25, .box b125 [vI (y117.1.Rows), vI (y117.1.Cols), vS (y117.1.Cells)] 25, .box b104 [vI (y96.1.Rows), vI (y96.1.Cols), vS (y96.1.Cells)] 25, .row SlotRep A70 c71 60 y68.1 true, .row SlotRep A62 c63 60 y60.1 true, .box b53 [vI (y44.1.Rows), vI (y44.1.Cols), vS (y44.1.Cells)] 25, .box b37 [vI (y28.1.Rows), vI (y28.1.Cols), vS (y28.1.Cells)] 25, .box b21 [vI (y11.1.Rows), vI (y11.1.Cols), vS (y11.1.Cells)] 25] [.dat (sliceRep byteRep) code1 [vL A2 code1 c3]]) ?_ ?_
            · refine region_pl ?_
              refine q_ hf rfl rfl rfl (e_move hf rfl) fun a hf => ?_
              refine q_ hf rfl rfl rfl (e_eq hf (x := y386.2) (y := 0) rfl rfl) fun a hf => ?_
              refine q_ hf rfl rfl rfl (e_move hf rfl) fun a hf => ?_
              rcases cond_some h396 with ⟨hc397, h396⟩ | ⟨hc397, h396⟩
              · refine gq (wanted_t hf rfl rfl rfl rfl hc397) hf rfl rfl (e_move hf rfl) fun a hf => ?_
                refine gq (wanted_t hf rfl rfl rfl rfl hc397) hf rfl rfl (e_move hf rfl) fun a hf => ?_
                refine gq (wanted_t hf rfl rfl rfl rfl hc397) hf rfl rfl (e_eqS hf (x := y386.1) (y := y11.2.2) rfl rfl) fun a hf => ?_
                refine q_ hf rfl rfl rfl (e_pick_t hf rfl hc397 rfl) fun a hf => ?_
                refine q_ hf rfl rfl rfl (e_assign hf rfl) fun a hf => ?_
                refine pl_nil ?_
                obtain rfl := some_inj h396
                refine then_n ?_
                exact ⟨(y386.1 == y11.2.2), rfl, hf.keep ⟨rfl, trivial⟩, hM.pick [0] rfl⟩
              · refine pl_gs (wanted_f hf rfl rfl rfl rfl hc397) hf rfl rfl fun a hf => ?_
                refine pl_gs (wanted_f hf rfl rfl rfl rfl hc397) hf rfl rfl fun a hf => ?_
                refine pl_gs (wanted_f hf rfl rfl rfl rfl hc397) hf rfl rfl fun a hf => ?_
                refine q_ hf rfl rfl rfl (e_pick_f hf rfl hc397 rfl) fun a hf => ?_
                refine q_ hf rfl rfl rfl (e_assign hf rfl) fun a hf => ?_
                refine pl_nil ?_
                obtain rfl := some_inj h396
                refine then_n ?_
                exact ⟨false, rfl, hf.keep ⟨rfl, trivial⟩, hM.pick [0] rfl⟩
            · rintro a w400 ⟨g393, rfl, hf, hM⟩
              try dsimp only at h
              refine wp_ret ?_
              obtain rfl := some_inj h
              have hM := hM.outs (own' := []) 0 rfl
              exact leave1 hf rfl rfl ⟨rfl, hM.fin⟩

end Go.Proofs.YtgmikhdealhlfaaGreatDoor
