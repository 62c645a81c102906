/- The functions that this law reaches do what their models say. Printed by gen.py. -/
import Derived.Test.YtgmikhdealhlfaaMod
import Derived.Test.YtgmikhdealhlfaaLib
import Derived.Test.YtgmikhdealhlfaaProveNoFillRefB
namespace Go.Proofs.Ytgmikhdealhlfaa
open Go Go.RowKit
set_option linter.unusedSimpArgs false
set_option linter.unusedVariables false

def q1First (s : Option Grid) : Obj := .cells (match s with | none => [vI 0, vI 0, vS []] | some x => [vI x.Rows, vI x.Cols, vS x.Cells]).toArray 27 (0, 0)
def q2First (s : Option Grid) : Obj := .cells [Value.bool s.isSome].toArray 4 (0, 0)
def q3First (rec : Loop) (s : Option Grid) : Obj := .loop (match s with | none => rec | some _ => { rec with state := .done, pending := some .ret })
def q4First (_ : Option Grid) : Obj := .deferred (some [])

set_option maxRecDepth 100000 in
set_option maxHeartbeats 4000000 in
theorem r_impl_Grid_first (C : Cx) (g : Grid) (h1 : R64 g.Rows) (h2 : R64 g.Cols) (h3 : g.Cells.length ≤ maxLen) (l : Lexicon) (A : Option Addr) (c : Nat) (hl : (sliceRep strRep).R C.w0 C.S0 l.Words [vL A l.Words c]) (r : Grid × Bool) (h : m_impl_Grid_first g l = some r) :
    Calls Try.prog 74 #[.agg #[vI g.Rows, vI g.Cols, vS g.Cells], .agg #[vL A l.Words c]] C.w0 fun e w => e = .returned (.tuple #[.agg #[vI r.1.Rows, vI r.1.Cols, vS r.1.Cells], .bool r.2]) ∧ Mem C w [] [] ∧ R64 r.1.Rows ∧ R64 r.1.Cols ∧ r.1.Cells.length ≤ maxLen := by
  unfold m_impl_Grid_first at h
  obtain ⟨sl, hsl, h⟩ := bind_some h
  obtain ⟨s, hs, h⟩ := bind_some h
  have hM := Mem.begin C [.dat (sliceRep strRep) l.Words [vL A l.Words c]] ⟨hl, trivial⟩
  refine enterM Try.func74 rfl Try.ntmps74 rfl fun a hf => ?_
  refine wpIn_seq ?_
  refine wpIn_wide.2 ?_
  refine region_pl ?_
  refine pl_l hf rfl rfl rfl (w_box hf hM (cs := [vI g.Rows, vI g.Cols, vS g.Cells]) rfl rfl fun b2 w1 hx1 hM a hf => ?_)
  refine pl_l hf rfl rfl rfl (w_box hf hM (cs := [vL A l.Words c]) rfl rfl fun b3 w2 hx2 hM a hf => ?_)
  refine pl_l hf rfl rfl rfl (w_alloc hM (cs := [vI 0, vI 0, vS []]) Try.zeroValue27 rfl fun b4 w3 hx3 hM a hf => ?_)
  refine pl_l hf rfl rfl rfl (w_alloc hM (cs := [.bool false]) Try.zeroValue4 rfl fun b5 w4 hx4 hM a hf => ?_)
  refine pl_nil ?_
  refine then_n ?_
  refine wpIn_seq ?_
  refine wpIn_seq ?_
  refine wpIn_wide.2 ?_
  refine region_pl ?_
  refine q_ hf rfl rfl rfl (e_loadA hf (us := [vI g.Rows, vI g.Cols, vS g.Cells]) rfl ⟨Try.isAgg27, Try.sizeOf27⟩ rfl (hM.boxSub (k := 3) (us := [vI g.Rows, vI g.Cols, vS g.Cells]) (o := 0) rfl rfl)) fun a hf => ?_
  refine q_ hf rfl rfl rfl (e_loadA hf (us := [vL A l.Words c]) rfl ⟨Try.isAgg45, Try.sizeOf45⟩ rfl (hM.boxSub (k := 2) (us := [vL A l.Words c]) (o := 0) rfl rfl)) fun a hf => ?_
  refine pl_l hf rfl rfl rfl (w_call hf Try.call73 rfl (r_fillings ⟨_, Sh C _ _, none_, hM.sh_lt, none_not, C.G, hM.g_lt, g_none, hM.tabs⟩ g h1 h2 h3 l A c (hM.dat (k := 0) rfl) _ hsl) ?_)
  rintro _ w5 ⟨c1, c2, c3, A1, k1, rfl, hM2, hv1, hv2⟩
  obtain ⟨hM, hx5, hup5⟩ := hM.back hM2
  dsimp only [List.cons_append, List.nil_append] at hM hup5
  clear hM2
  have hM := hM.add (y := .dat (sliceRep SlotRep) sl [vL A1 sl k1]) (hup5 hv1)
  have hM := hM.add (y := .dat (sliceRep strRep) l.Words [vL A l.Words c]) (hup5 hv2)
  refine ⟨_, rfl, fun a hf => ?_⟩
  refine pl_nil ?_
  refine then_n ?_
  have hM := hM.freezeBox (k := 0) rfl rfl
  dsimp only [List.eraseIdx] at hM
  have hM := hM.freezeBox (k := 0) rfl rfl
  dsimp only [List.eraseIdx] at hM
  have hM := hM.freezeBox (k := 0) rfl rfl
  dsimp only [List.eraseIdx] at hM
  refine wpIn_block ?_
  refine range_enter hM (hf.ev rfl) Try.call98 (lb := #[vP c1 0, vP c2 0, vP c3 0]) ?_
  intro fn w6 rec hrec hM
  have hM := hM.toObj (k := 2) rfl
  dsimp only [List.set] at hM
  have hM := hM.toObj (k := 3) rfl
  dsimp only [List.set] at hM
  have hM := hM.front (k := 2) rfl
  dsimp only [List.eraseIdx] at hM
  have hM := hM.front (k := 3) rfl
  dsimp only [List.eraseIdx] at hM
  have hM : Mem C _ ([.obj b4 (q1First none), .obj b5 (q2First none), .obj (w5.heap.size + 1) (q3First rec none), .obj w5.heap.size (q4First none)] ++ [.box b3 [vL A l.Words c] 45, .box b2 [vI g.Rows, vI g.Cols, vS g.Cells] 27]) _ := hM
  have hY : YOk Try.prog (w5.heap.size + 1) b4 b5 (w5.heap.size + 1) w5.heap.size q1First q2First (q3First rec) q4First yvFirst := by
    clear hM
    intro C' x x1 x2 x3 s' hO hd' r' hr
    cases s' with
    | some _ => cases hr
    | none =>
      obtain rfl := some_inj hr
      have hl : C'.w0.heap[w5.heap.size + 1]? = some (.loop rec) := hO.ownAt (k := 2) rfl
      have hfr := round_has hf (t := 10) rfl (.agg #[vI x.Rows, vI x.Cols, vS x.Cells])
      refine ⟨_, _, _, _, run_yield hl (by rw [hrec]; rfl), roundIn_of_wpIn trivial ?_⟩
      have hst : rec.state = .ready := by rw [hrec]
      rw [congrArg Loop.assign hrec, congrArg Loop.body hrec, congrArg Loop.tmps hrec, congrArg Loop.params hrec]
      have hM := hO.toBox (k := 0) (cs := [vI 0, vI 0, vS []]) rfl
      dsimp only [List.set] at hM
      have hM := hM.toBox (k := 1) (cs := [.bool false]) rfl
      dsimp only [List.set] at hM
      refine region_plI (fall_round _) ?_
      refine pD_l (fall_round _) hfr rfl rfl rfl (i_alloc (fall_round _) hM (cs := [vI 0, vI 0, vS []]) Try.zeroValue27 rfl fun b6 w7 hM a hf => ?_)
      refine pD_0 hf rfl rfl (i_store (fall_round _) hf hM (us := [vI x.Rows, vI x.Cols, vS x.Cells]) (cs' := [vI x.Rows, vI x.Cols, vS x.Cells]) rfl rfl (k := 0) rfl rfl Try.sizeOf27 rfl rfl rfl fun w8 hM a hf => ?_)
      dsimp only [List.set] at hM
      refine pD_nil ?_
      refine then_n ?_
      refine ⟨_, run_beginRound (hM.ownAt (k := 3) rfl) hst, ?_⟩
      have hM := hM.putObj (k := 3) rfl (.loop { rec with state := .busy })
      dsimp only [List.set] at hM
      refine wpIn_block ?_
      refine wpIn_seq ?_
      refine region_plI (fall_round _) ?_
      refine pD_q (fall_round _) hf rfl rfl rfl rfl (Ext.refl _) (e_loadA hf.1 (us := [vI x.Rows, vI x.Cols, vS x.Cells]) rfl ⟨Try.isAgg27, Try.sizeOf27⟩ rfl (hM.boxSub (k := 0) (us := [vI x.Rows, vI x.Cols, vS x.Cells]) (o := 0) rfl rfl)) fun a hf => ?_
      refine pD_0 hf rfl rfl (i_store (fall_round _) hf hM (us := [vI x.Rows, vI x.Cols, vS x.Cells]) (cs' := [vI x.Rows, vI x.Cols, vS x.Cells]) rfl rfl (k := 1) rfl rfl Try.sizeOf27 rfl rfl rfl fun w9 hM a hf => ?_)
      dsimp only [List.set] at hM
      refine pD_0 hf rfl rfl (i_store (fall_round _) hf hM (us := [.bool true]) (cs' := [.bool true]) rfl rfl (k := 2) rfl rfl Try.sizeOf4 rfl rfl rfl fun w10 hM a hf => ?_)
      dsimp only [List.set] at hM
      refine pD_nil ?_
      refine then_n ?_
      refine wpIn_ret ?_
      refine blk_r ?_
      refine ⟨_, _, run_endRound (some .ret) (hM.ownAt (k := 3) rfl), rfl, ?_⟩
      have hM := hM.putObj (k := 3) rfl (.loop { rec with state := .done, pending := some .ret })
      dsimp only [List.set] at hM
      have hM := hM.drop (List.sublist_cons_self _ _)
      have hM := hM.toObj (k := 0) rfl
      dsimp only [List.set] at hM
      have hM := hM.toObj (k := 1) rfl
      dsimp only [List.set] at hM
      exact hM
  have hfD := hf.toD
  refine (r_impl_Grid_fillings_1 ⟨_, Sh C _ _, ownB _, hM.sh_lt, sub_dis, C.G, hM.g_lt, hM.g_own, hM.tabs⟩ sl _ _ (hM.litPtr (k := 2) (d := 0) (us := [vL A1 sl k1]) rfl rfl rfl (hM.dat (k := 4) rfl)) l _ _ (hM.litPtr (k := 1) (d := 0) (us := [vL A l.Words c]) rfl rfl rfl (LexiconRep_mk (x := l) (hM.dat (k := 3) rfl))) g _ _ (hM.litPtr (k := 0) (d := 0) (us := [vI g.Rows, vI g.Cols, vS g.Cells]) rfl rfl rfl (GridRep_mk (x := g) h1 h2 h3)) yvFirst _ _ _ _ _ _ _ _ _ hY none hM.sub sub_dis s hs).mono ?_
  rintro _ w11 ⟨rfl, hM2⟩
  obtain ⟨hM, hup11⟩ := hM.backG hM2
  dsimp only [List.cons_append, List.nil_append] at hM hup11
  clear hM2 hup11
  have hst : rec.state = .ready := by rw [hrec]
  have hpe : rec.pending = none := by rw [hrec]
  have hdf : a.defers = [] := hf.defers
  cases s with
  | none =>
    obtain rfl := some_inj h
    refine ⟨_, _, run_endLoop (r := rec) (hM.ownAt (k := 2) rfl) (by rw [hst]; decide), ?_⟩
    have hM := hM.putObj (k := 2) rfl (.loop { rec with state := .exhausted })
    dsimp only [List.set] at hM
    generalize w11.putObj (w5.heap.size + 1) (.loop { rec with state := .exhausted }) = w12 at hM ⊢
    rw [hpe]
    refine blk_n ?_
    refine then_n ?_
    have hM := hM.toBox (k := 0) (cs := [vI 0, vI 0, vS []]) rfl
    dsimp only [List.set] at hM
    have hM := hM.toBox (k := 1) (cs := [.bool false]) rfl
    dsimp only [List.set] at hM
    have hfD := hf.toDs { target := .collected w5.heap.size, args := #[] }
    refine wpIn_seq ?_
    refine region_plI fall_wide ?_
    refine pD_q fall_wide hfD rfl rfl rfl rfl (Ext.refl _) (e_build hfD.1 Try.zeroValue27 Try.underlying27 (bp_27 _ Try.underlying27.symm) rfl (cs := #[vI 0, vI 0, vS []]) (by kernel_rfl)) fun a hf => ?_
    refine pD_0 hf rfl rfl (i_store fall_wide hf (o := 0) (cs := [vI 0, vI 0, vS []]) hM (us := [vI 0, vI 0, vS []]) (cs' := [vI 0, vI 0, vS []]) rfl rfl (k := 0) rfl rfl Try.sizeOf27 rfl rfl rfl fun w12 hM a hf => ?_)
    dsimp only [List.set] at hM
    refine pD_0 hf rfl rfl (i_store fall_wide hf hM (us := [.bool false]) (cs' := [.bool false]) rfl rfl (k := 1) rfl rfl Try.sizeOf4 rfl rfl rfl fun w13 hM a hf => ?_)
    dsimp only [List.set] at hM
    refine pD_nil ?_
    refine then_n ?_
    refine wpIn_ret ?_
    have hK := hM.ownAt (k := 3) rfl
    have hM := hM.putObj (k := 3) rfl (.deferred none)
    dsimp only [List.set] at hM
    have hres := leaveV2 (P := Try.prog) Try.results74 (res_agg hf.1 rfl ⟨Try.isAgg27, Try.sizeOf27⟩ (us := [vI 0, vI 0, vS []]) rfl (hM.boxSub (k := 0) (o := 0) rfl rfl)) (res_one hf.1 rfl Try.isAgg4 (hM.boxCell (k := 1) (o := 0) rfl rfl))
    refine leaveM hf.2 hK hres ?_
    exact ⟨rfl, (hM.outs (own' := []) 0 rfl).fin, R64_lit rfl, R64_lit rfl, lit_len rfl⟩
  | some x =>
    rcases cond_some h with ⟨hc, h⟩ | ⟨hc, h⟩
    case inr => cases h
    obtain rfl := some_inj h
    obtain ⟨hc, hc3⟩ := Bool.and_eq_true_iff.1 hc
    obtain ⟨hc1, hc2⟩ := Bool.and_eq_true_iff.1 hc
    refine ⟨_, _, run_endLoop (r := { rec with state := .done, pending := some .ret }) (hM.ownAt (k := 2) rfl) (by intro h; cases h), ?_⟩
    have hM := hM.putObj (k := 2) rfl (.loop { { rec with state := .done, pending := some .ret } with state := .exhausted })
    dsimp only [List.set] at hM
    generalize w11.putObj (w5.heap.size + 1) (.loop { { rec with state := .done, pending := some .ret } with state := .exhausted }) = w12 at hM ⊢
    have hM := hM.toBox (k := 0) (cs := [vI x.Rows, vI x.Cols, vS x.Cells]) rfl
    dsimp only [List.set] at hM
    have hM := hM.toBox (k := 1) (cs := [.bool true]) rfl
    dsimp only [List.set] at hM
    have hfD := hf.toDs { target := .collected w5.heap.size, args := #[] }
    refine wpIn_ret ?_
    refine blk_r ?_
    refine then_r ?_
    have hK := hM.ownAt (k := 3) rfl
    have hM := hM.putObj (k := 3) rfl (.deferred none)
    dsimp only [List.set] at hM
    have hres := leaveV2 (P := Try.prog) Try.results74 (res_agg hfD.1 rfl ⟨Try.isAgg27, Try.sizeOf27⟩ (us := [vI x.Rows, vI x.Cols, vS x.Cells]) rfl (hM.boxSub (k := 0) (o := 0) rfl rfl)) (res_one hfD.1 rfl Try.isAgg4 (hM.boxCell (k := 1) (o := 0) rfl rfl))
    refine leaveM hfD.2 hK hres ?_
    exact ⟨rfl, (hM.outs (own' := []) 0 rfl).fin, r64_iff.1 hc1, r64_iff.1 hc2, lim_max (of_decide_eq_true hc3)⟩

set_option maxRecDepth 100000 in
set_option maxHeartbeats 4000000 in
theorem r_impl_Grid_nextSlot_1 (C : Cx) (s1 : Slot) (hp2 : R64 s1.Row) (hp3 : R64 s1.Col) (hp4 : R64 s1.Length) (p5 : Grid) (b6 : Nat) (o7 : Nat) (hp8 : (ptrRep GridRep).R C.w0 C.S0 p5 [vP b6 o7]) (r : Bool) (h : m_impl_Grid_nextSlot_1 s1 p5 = some r) :
    Calls Try.prog 115 #[.agg #[vI (s1.Row), vI (s1.Col), .bool (s1.Down), vI (s1.Length)], vP b6 (o7)] C.w0 fun e w => e = .returned (.bool (r)) ∧ Mem C w [] [] := by
  have hM := Mem.begin C [.dat (ptrRep GridRep) p5 [vP b6 o7]] ⟨hp8, trivial⟩
  refine enter Try.func115 rfl Try.ntmps115 rfl fun a hf => ?_
  unfold m_impl_Grid_nextSlot_1 at h
  refine wp_seq ?_
  refine region_pl ?_
  refine pl_l hf rfl rfl rfl (w_box hf hM (cs := [vI (s1.Row), vI (s1.Col), .bool (s1.Down), vI (s1.Length)]) rfl rfl fun b9 w10 hx11 hM a hf => ?_)
  refine q_ hf rfl rfl rfl (e_assign hf rfl) fun a hf => ?_
  refine pl_nil ?_
  refine then_n ?_
  refine wp_seq ?_
  refine region_pl ?_
  obtain ⟨_, hr13, hM⟩ := hM.deref (hM.dat (k := 0) rfl)
  obtain ⟨rfl, hv14, hv15, hv16⟩ := GridRep_open hr13
  refine q_ hf rfl rfl rfl (e_loadA hf (us := [vI (p5.Rows), vI (p5.Cols), vS (p5.Cells)]) rfl ⟨Try.isAgg27, Try.sizeOf27⟩ rfl (hM.litSub (k := 0) (d := 0) (us := [vI (p5.Rows), vI (p5.Cols), vS (p5.Cells)]) rfl rfl rfl)) fun a hf => ?_
  refine q_ hf rfl rfl rfl (e_loadA hf (us := [vI (s1.Row), vI (s1.Col), .bool (s1.Down), vI (s1.Length)]) rfl ⟨Try.isAgg75, Try.sizeOf75⟩ rfl (hM.boxSub (k := 0) (us := [vI (s1.Row), vI (s1.Col), .bool (s1.Down), vI (s1.Length)]) (o := 0) rfl rfl)) fun a hf => ?_
  obtain ⟨y17, hz18, h⟩ := bind_some h
  refine pl_l hf rfl rfl rfl (w_call hf Try.call53 rfl (r_impl_Grid_pattern ⟨_, Sh C _ _, none_, hM.sh_lt, none_not, C.G, hM.g_lt, g_none, hM.tabs⟩ p5 hv14 hv15 hv16 s1 hp2 hp3 hp4 _ hz18) ?_)
  rintro _ w20 ⟨rfl, hM2, hv19⟩
  obtain ⟨hM, hx21, hup22⟩ := hM.back hM2
  dsimp only [List.cons_append, List.nil_append] at hM hup22
  clear hM2
  refine ⟨_, rfl, fun a hf => ?_⟩
  obtain ⟨y23, hz24, h⟩ := bind_some h
  refine pl_l hf rfl rfl rfl (w_call hf Try.call116 rfl (r_strings_Contains ⟨_, Sh C _ _, none_, hM.sh_lt, none_not, C.G, hM.g_lt, g_none, hM.tabs⟩ y17 hv19 ([46] : Str) (lit_len rfl) _ hz24) ?_)
  rintro _ w25 ⟨rfl, hM2⟩
  obtain ⟨hM, hx26, hup27⟩ := hM.back hM2
  dsimp only [List.cons_append, List.nil_append] at hM hup27
  clear hM2
  refine ⟨_, rfl, fun a hf => ?_⟩
  refine q_ hf rfl rfl rfl (e_assign hf rfl) fun a hf => ?_
  refine pl_nil ?_
  refine then_n ?_
  refine wp_ret ?_
  obtain rfl := some_inj h
  have hM := hM.outs (own' := []) 0 rfl
  exact leave1 hf rfl rfl ⟨rfl, hM.fin⟩

set_option maxRecDepth 100000 in
set_option maxHeartbeats 4000000 in
theorem r_slices_IndexFunc_impl_Slot_impl_Slot (C : Cx) (s1 : (List Slot)) (A2 : Option Addr) (c3 : Nat) (hp4 : (sliceRep SlotRep).R C.w0 C.S0 s1 [vL A2 s1 c3]) (f5 : (Slot → Option Bool)) (fk6 : FuncId) (fc7 : List Value) (hfn8 : FnOk Try.prog C fk6 (FnC_Slot_to_Bool fk6 fc7 f5)) (r : Int) (h : m_slices_IndexFunc_impl_Slot_impl_Slot s1 f5 = some r) :
    Calls Try.prog 114 #[vL A2 (s1) c3, .func (.func fk6) #[] fc7.toArray] C.w0 fun e w => e = .returned (vI (r)) ∧ Mem C w [] [] ∧ R64 r := by
  have hM := Mem.begin C [.dat (sliceRep SlotRep) s1 [vL A2 s1 c3]] ⟨hp4, trivial⟩
  refine enter Try.func114 rfl Try.ntmps114 rfl fun a hf => ?_
  unfold m_slices_IndexFunc_impl_Slot_impl_Slot at h
  refine wp_seq ?_
  refine region_pl ?_
  refine q_ hf rfl rfl rfl (e_assign hf rfl) fun a hf => ?_
  refine pl_nil ?_
  refine then_n ?_
  obtain ⟨x9, h10, h⟩ := bind_some h
  refine seq_join (fun a w => (.inl ()) = x9 ∧ Has 19 a [] ∧ Mem C w [] [.dat (sliceRep SlotRep) s1 [vL A2 s1 c3]]) ?_ ?_
  · refine wp_seq ?_
    refine region_pl ?_
    refine q_ hf rfl rfl rfl (e_move hf rfl) fun a hf => ?_
    have hl11 := slice_len (hM.dat (k := 0) rfl)
    refine q_ hf rfl rfl rfl (e_lenL hf (x := s1) rfl Try.underlying30) fun a hf => ?_
    refine q_ hf rfl rfl rfl (e_move hf rfl) fun a hf => ?_
    refine pl_nil ?_
    refine then_n ?_
    refine wp_block ?_
    obtain ⟨x15, h16, h10⟩ := bind_some h10
    refine wp_loopM h16 (fun s a w => ∃ (n12 : Int), n12 = s ∧ Has 19 a [(0, vL A2 (s1) c3), (1, .func (.func fk6) #[] fc7.toArray), (7, vI ((s1.length : Int))), (8, vI (n12))] ∧ Mem C w [] [.dat (sliceRep SlotRep) s1 [vL A2 s1 c3]] ∧ R64 n12) ?_ ?_
    · exact ⟨0, rfl, hf.keep ⟨rfl, rfl, rfl, rfl, trivial⟩, hM.pick [0] rfl, (R64_lit rfl)⟩
    · rintro s o17 a w14 ⟨n12, rfl, hf, hM, hv13⟩ h18 hd19
      replace h18 : m_slices_IndexFunc_impl_Slot_impl_Slot_l1 s1 f5 n12 = some o17 := h18
      unfold m_slices_IndexFunc_impl_Slot_impl_Slot_l1 at h18
      refine wp_seq ?_
      refine region_pl ?_
      refine q_ hf rfl rfl rfl (e_lt hf (x := n12) (y := (s1.length : Int)) rfl rfl) fun a hf => ?_
      refine pl_nil ?_
      refine then_n ?_
      refine wp_seq ?_
      rcases cond_some h18 with ⟨hc20, h18⟩ | ⟨hc20, h18⟩
      · refine cond_t hf rfl hc20 ?_
        refine wp_skip ?_
        refine then_n ?_
        refine wp_seq ?_
        refine wp_block ?_
        refine wp_seq ?_
        refine region_pl ?_
        refine q_ hf rfl rfl rfl (e_move hf rfl) fun a hf => ?_
        refine q_ hf rfl rfl rfl (e_assign hf rfl) fun a hf => ?_
        refine pl_nil ?_
        refine then_n ?_
        refine wp_seq ?_
        refine region_pl ?_
        refine q_ hf rfl rfl rfl (e_move hf rfl) fun a hf => ?_
        refine q_ hf rfl rfl rfl (e_move hf rfl) fun a hf => ?_
        refine q_ hf rfl rfl rfl (e_move hf rfl) fun a hf => ?_
        obtain ⟨e21, hz22, h18⟩ := bind_some h18
        obtain ⟨b26, o27, _, hA28, h23, h24, hr25, hM⟩ := hM.elem (hM.dat (k := 0) rfl) (n := 4) rfl hz22
        obtain ⟨rfl, hv29, hv30, hv31⟩ := SlotRep_open hr25
        refine q_ hf rfl rfl rfl (e_indexAddr (A := A2) (b := b26) (o := o27) (xs := s1) (i := n12) hf hA28 rfl rfl Try.underlying30 Try.sizeOf75 h23 h24) fun a hf => ?_
        refine q_ hf rfl rfl rfl (e_loadA hf (us := [vI (e21.Row), vI (e21.Col), .bool (e21.Down), vI (e21.Length)]) rfl ⟨Try.isAgg75, Try.sizeOf75⟩ rfl (hM.litSub (k := 0) (d := 0) (us := [vI (e21.Row), vI (e21.Col), .bool (e21.Down), vI (e21.Length)]) rfl rfl rfl)) fun a hf => ?_
        obtain ⟨y32, hz33, h18⟩ := bind_some h18
        refine pl_l hf rfl rfl rfl (w_callV hf rfl hfn8.1 rfl (hfn8.2 ⟨_, Sh C _ _, none_, hM.sh_lt, none_not, C.G, hM.g_lt, g_none, hM.tabs⟩ hM.sameS hM.s0sh e21 hv29 hv30 hv31 _ hz33) ?_)
        rintro _ w34 ⟨rfl, hM2⟩
        obtain ⟨hM, hx35, hup36⟩ := hM.back hM2
        dsimp only [List.cons_append, List.nil_append] at hM hup36
        clear hM2
        refine ⟨_, rfl, fun a hf => ?_⟩
        refine pl_nil ?_
        refine then_n ?_
        rcases cond_some h18 with ⟨hc37, h18⟩ | ⟨hc37, h18⟩
        · refine cond_t hf rfl hc37 ?_
          refine wp_seq ?_
          refine region_pl ?_
          refine q_ hf rfl rfl rfl (e_move hf rfl) fun a hf => ?_
          refine q_ hf rfl rfl rfl (e_assign hf rfl) fun a hf => ?_
          refine pl_nil ?_
          refine then_n ?_
          refine wp_ret ?_
          refine blk_r ?_
          refine then_r ?_
          obtain rfl := some_inj h18
          obtain rfl := hd19 _ rfl
          try dsimp only at h10
          refine then_r ?_
          refine blk_r ?_
          obtain rfl := some_inj h10
          try dsimp only at h
          refine then_r ?_
          obtain rfl := some_inj h
          exact leave1 hf rfl rfl ⟨rfl, hM.fin, hv13⟩
        · refine cond_f hf rfl hc37 ?_
          refine wp_skip ?_
          refine blk_n ?_
          refine then_n ?_
          refine region_pl ?_
          obtain ⟨z38, hz39, h18⟩ := bind_some h18
          refine q_ hf rfl rfl rfl (e_add hf rfl rfl hz39) fun a hf => ?_
          refine q_ hf rfl rfl rfl (e_move hf rfl) fun a hf => ?_
          refine pl_nil ?_
          obtain rfl := some_inj h18
          refine then_n ⟨_, rfl, ?_⟩
          exact ⟨z38, rfl, hf.keep ⟨rfl, rfl, rfl, rfl, trivial⟩, hM.pick [1] rfl, (chk_R hz39)⟩
      · refine cond_f hf rfl hc20 ?_
        refine wp_exit ?_
        refine then_x ?_
        obtain rfl := some_inj h18
        obtain rfl := hd19 _ rfl
        try dsimp only at h10
        refine then_x ?_
        refine exit_hit ?_
        obtain rfl := some_inj h10
        refine then_n ?_
        exact ⟨rfl, hf.keep trivial, hM.pick [0] rfl⟩
  · rintro a w46 ⟨rfl, hf, hM⟩
    try dsimp only at h
    refine wp_seq ?_
    refine region_pl ?_
    refine q_ hf rfl rfl rfl (e_assign hf rfl) fun a hf => ?_
    refine pl_nil ?_
    refine then_n ?_
    refine wp_ret ?_
    obtain rfl := some_inj h
    exact leave1 hf rfl rfl ⟨rfl, hM.fin, (R64_lit rfl)⟩

set_option maxRecDepth 100000 in
set_option maxHeartbeats 4000000 in
theorem r_impl_Grid_nextSlot (C : Cx) (g1 : Grid) (hp2 : R64 g1.Rows) (hp3 : R64 g1.Cols) (hp4 : g1.Cells.length ≤ maxLen) (l5 : Lexicon) (A6 : Option Addr) (c7 : Nat) (hp8 : (sliceRep strRep).R C.w0 C.S0 l5.Words [vL A6 l5.Words c7]) (slots9 : (List Slot)) (A10 : Option Addr) (c11 : Nat) (hp12 : (sliceRep SlotRep).R C.w0 C.S0 slots9 [vL A10 slots9 c11]) (r : Int) (h : m_impl_Grid_nextSlot g1 l5 slots9 = some r) :
    Calls Try.prog 103 #[.agg #[vI (g1.Rows), vI (g1.Cols), vS (g1.Cells)], .agg #[vL A6 (l5.Words) c7], vL A10 (slots9) c11] C.w0 fun e w => e = .returned (vI (r)) ∧ Mem C w [] [] ∧ R64 r := by
  have hM := Mem.begin C [.dat (sliceRep SlotRep) slots9 [vL A10 slots9 c11], .dat (sliceRep strRep) l5.Words [vL A6 l5.Words c7]] ⟨hp12, hp8, trivial⟩
  refine enter Try.func103 rfl Try.ntmps103 rfl fun a hf => ?_
  unfold m_impl_Grid_nextSlot at h
  refine wp_seq ?_
  refine region_pl ?_
  refine pl_l hf rfl rfl rfl (w_box hf hM (cs := [vI (g1.Rows), vI (g1.Cols), vS (g1.Cells)]) rfl rfl fun b13 w14 hx15 hM a hf => ?_)
  refine pl_l hf rfl rfl rfl (w_box hf hM (cs := [vL A6 (l5.Words) c7]) rfl rfl fun b17 w18 hx19 hM a hf => ?_)
  refine q_ hf rfl rfl rfl (e_assign hf rfl) fun a hf => ?_
  refine pl_nil ?_
  refine then_n ?_
  obtain ⟨x21, h22, h⟩ := bind_some h
  refine seq_join (fun a w => (.inl ()) = x21 ∧ Has 27 a [(2, vL A10 (slots9) c11), (3, vP b13 (0))] ∧ Mem C w [.box b17 [vL A6 (l5.Words) c7] 45, .box b13 [vI (g1.Rows), vI (g1.Cols), vS (g1.Cells)] 27] [.dat (sliceRep SlotRep) slots9 [vL A10 slots9 c11], .dat (sliceRep strRep) l5.Words [vL A6 l5.Words c7]]) ?_ ?_
  · refine wp_seq ?_
    refine region_pl ?_
    refine q_ hf rfl rfl rfl (e_move hf rfl) fun a hf => ?_
    have hl23 := slice_len (hM.dat (k := 0) rfl)
    refine q_ hf rfl rfl rfl (e_lenL hf (x := slots9) rfl Try.underlying30) fun a hf => ?_
    refine q_ hf rfl rfl rfl (e_move hf rfl) fun a hf => ?_
    refine pl_nil ?_
    refine then_n ?_
    refine wp_block ?_
    obtain ⟨x27, h28, h22⟩ := bind_some h22
    refine wp_loopM h28 (fun s a w => ∃ (n24 : Int), n24 = s ∧ Has 27 a [(2, vL A10 (slots9) c11), (3, vP b13 (0)), (4, vP b17 (0)), (9, vL A10 (slots9) c11), (10, vI ((slots9.length : Int))), (11, vI (n24))] ∧ Mem C w [.box b17 [vL A6 (l5.Words) c7] 45, .box b13 [vI (g1.Rows), vI (g1.Cols), vS (g1.Cells)] 27] [.dat (sliceRep SlotRep) slots9 [vL A10 slots9 c11], .dat (sliceRep strRep) l5.Words [vL A6 l5.Words c7]] ∧ R64 n24) ?_ ?_
    · exact ⟨0, rfl, hf.keep ⟨rfl, rfl, rfl, rfl, rfl, rfl, trivial⟩, hM.pick [0, 1] rfl, (R64_lit rfl)⟩
    · rintro s o29 a w26 ⟨n24, rfl, hf, hM, hv25⟩ h30 hd31
      replace h30 : m_impl_Grid_nextSlot_l1 slots9 g1 l5 n24 = some o29 := h30
      unfold m_impl_Grid_nextSlot_l1 at h30
      refine wp_seq ?_
      refine region_pl ?_
      refine q_ hf rfl rfl rfl (e_lt hf (x := n24) (y := (slots9.length : Int)) rfl rfl) fun a hf => ?_
      refine pl_nil ?_
      refine then_n ?_
      refine wp_seq ?_
      rcases cond_some h30 with ⟨hc32, h30⟩ | ⟨hc32, h30⟩
      · refine cond_t hf rfl hc32 ?_
        refine wp_skip ?_
        refine then_n ?_
        refine wp_seq ?_
        refine wp_block ?_
        refine wp_seq ?_
        refine region_pl ?_
        refine q_ hf rfl rfl rfl (e_move hf rfl) fun a hf => ?_
        obtain ⟨e33, hz34, h30⟩ := bind_some h30
        obtain ⟨b38, o39, _, hA40, h35, h36, hr37, hM⟩ := hM.elem (hM.dat (k := 0) rfl) (n := 4) rfl hz34
        obtain ⟨rfl, hv41, hv42, hv43⟩ := SlotRep_open hr37
        refine q_ hf rfl rfl rfl (e_indexAddr (A := A10) (b := b38) (o := o39) (xs := slots9) (i := n24) hf hA40 rfl rfl Try.underlying30 Try.sizeOf75 h35 h36) fun a hf => ?_
        refine q_ hf rfl rfl rfl (e_loadA hf (us := [vI (e33.Row), vI (e33.Col), .bool (e33.Down), vI (e33.Length)]) rfl ⟨Try.isAgg75, Try.sizeOf75⟩ rfl (hM.litSub (k := 0) (d := 0) (us := [vI (e33.Row), vI (e33.Col), .bool (e33.Down), vI (e33.Length)]) rfl rfl rfl)) fun a hf => ?_
        refine pl_l hf rfl rfl rfl (w_alloc hM (cs := [vI (0), vI (0), .bool (false), vI (0)]) Try.zeroValue75 rfl fun b44 w45 hx46 hM a hf => ?_)
        refine q_ hf rfl rfl rfl (e_assign hf rfl) fun a hf => ?_
        refine pl_0 hf rfl rfl (w_store hf hM (us := [vI (e33.Row), vI (e33.Col), .bool (e33.Down), vI (e33.Length)]) (cs' := [vI (e33.Row), vI (e33.Col), .bool (e33.Down), vI (e33.Length)]) rfl rfl (k := 0) rfl rfl Try.sizeOf75 rfl rfl rfl fun w48 hM => ?_)
        dsimp only [List.set] at hM
        refine pl_nil ?_
        refine then_n ?_
        refine wp_seq ?_
        refine region_pl ?_
        refine q_ hf rfl rfl rfl (e_loadA hf (us := [vI (g1.Rows), vI (g1.Cols), vS (g1.Cells)]) rfl ⟨Try.isAgg27, Try.sizeOf27⟩ rfl (hM.boxSub (k := 2) (us := [vI (g1.Rows), vI (g1.Cols), vS (g1.Cells)]) (o := 0) rfl rfl)) fun a hf => ?_
        refine q_ hf rfl rfl rfl (e_loadA hf (us := [vL A6 (l5.Words) c7]) rfl ⟨Try.isAgg45, Try.sizeOf45⟩ rfl (hM.boxSub (k := 1) (us := [vL A6 (l5.Words) c7]) (o := 0) rfl rfl)) fun a hf => ?_
        refine q_ hf rfl rfl rfl (e_loadA hf (us := [vI (e33.Row), vI (e33.Col), .bool (e33.Down), vI (e33.Length)]) rfl ⟨Try.isAgg75, Try.sizeOf75⟩ rfl (hM.boxSub (k := 0) (us := [vI (e33.Row), vI (e33.Col), .bool (e33.Down), vI (e33.Length)]) (o := 0) rfl rfl)) fun a hf => ?_
        obtain ⟨y51, hz52, h30⟩ := bind_some h30
        refine pl_l hf rfl rfl rfl (w_call hf Try.call70 rfl (r_impl_Grid_candidates ⟨_, Sh C _ _, none_, hM.sh_lt, none_not, C.G, hM.g_lt, g_none, hM.tabs⟩ g1 hp2 hp3 hp4 l5 _ _ (hM.dat (k := 2) rfl) e33 hv41 hv42 hv43 _ hz52) ?_)
        rintro _ w55 ⟨A53, c54, rfl, hM2⟩
        obtain ⟨hM, hx56, hup57⟩ := hM.back hM2
        dsimp only [List.cons_append, List.nil_append] at hM hup57
        clear hM2
        refine ⟨_, rfl, fun a hf => ?_⟩
        have hl58 := row_len (hM.ownAt (k := 0) rfl)
        refine q_ hf rfl rfl rfl (e_lenL hf (x := y51) rfl Try.underlying40) fun a hf => ?_
        refine q_ hf rfl rfl rfl (e_eq hf (x := (y51.length : Int)) (y := 0) rfl rfl) fun a hf => ?_
        refine pl_nil ?_
        refine then_n ?_
        rcases cond_some h30 with ⟨hc59, h30⟩ | ⟨hc59, h30⟩
        · refine cond_t hf rfl hc59 ?_
          refine wp_seq ?_
          refine region_pl ?_
          refine q_ hf rfl rfl rfl (e_move hf rfl) fun a hf => ?_
          refine q_ hf rfl rfl rfl (e_assign hf rfl) fun a hf => ?_
          refine pl_nil ?_
          refine then_n ?_
          refine wp_ret ?_
          refine blk_r ?_
          refine then_r ?_
          obtain rfl := some_inj h30
          obtain rfl := hd31 _ rfl
          try dsimp only at h22
          refine then_r ?_
          refine blk_r ?_
          obtain rfl := some_inj h22
          try dsimp only at h
          refine then_r ?_
          obtain rfl := some_inj h
          have hM := hM.outs (own' := []) 0 rfl
          exact leave1 hf rfl rfl ⟨rfl, hM.fin, hv25⟩
        · refine cond_f hf rfl hc59 ?_
          refine wp_skip ?_
          refine blk_n ?_
          refine then_n ?_
          refine region_pl ?_
          obtain ⟨z60, hz61, h30⟩ := bind_some h30
          refine q_ hf rfl rfl rfl (e_add hf rfl rfl hz61) fun a hf => ?_
          refine q_ hf rfl rfl rfl (e_move hf rfl) fun a hf => ?_
          refine pl_nil ?_
          obtain rfl := some_inj h30
          refine then_n ⟨_, rfl, ?_⟩
          exact ⟨z60, rfl, hf.keep ⟨rfl, rfl, rfl, rfl, rfl, rfl, trivial⟩, (hM.drop (.cons _ (.cons _ (.cons_cons _ (.cons_cons _ .slnil))))).pick [1, 2] rfl, (chk_R hz61)⟩
      · refine cond_f hf rfl hc32 ?_
        refine wp_exit ?_
        refine then_x ?_
        obtain rfl := some_inj h30
        obtain rfl := hd31 _ rfl
        try dsimp only at h22
        refine then_x ?_
        refine exit_hit ?_
        obtain rfl := some_inj h22
        refine then_n ?_
        exact ⟨rfl, hf.keep ⟨rfl, rfl, trivial⟩, hM.pick [0, 1] rfl⟩
  · rintro a w68 ⟨rfl, hf, hM⟩
    try dsimp only at h
    refine wp_seq ?_
    refine region_pl ?_
    refine q_ hf rfl rfl rfl (e_move hf rfl) fun a hf => ?_
    refine q_ hf rfl rfl rfl (w_makeFunc hf rfl) fun a hf => ?_
    obtain ⟨y73, hz74, h⟩ := bind_some h
    refine pl_l hf rfl rfl rfl (w_call hf Try.call114 rfl (r_slices_IndexFunc_impl_Slot_impl_Slot ⟨_, All C _ _, none_, hM.all_lt, none_not, C.G, hM.g_lt, g_none, hM.tabs⟩ slots9 _ _ (hM.lendDat (k := 0) rfl) (fun u69 => m_impl_Grid_nextSlot_1 u69 g1) 115 [vP b13 (0)] ⟨Try.call115, fun C1 hs hsub u69 hp70 hp71 hp72 r h => r_impl_Grid_nextSlot_1 C1 u69 hp70 hp71 hp72 g1 _ _ (Rep.to (hM.lendBox (k := 1) rfl (GridRep_mk (x := g1) hp2 hp3 hp4)) hs hsub) r h⟩ _ hz74) ?_)
    rintro _ w76 ⟨rfl, hM2, hv75⟩
    obtain ⟨hM, hx77⟩ := hM.backA hM2
    clear hM2
    refine ⟨_, rfl, fun a hf => ?_⟩
    refine q_ hf rfl rfl rfl (e_assign hf rfl) fun a hf => ?_
    refine pl_nil ?_
    refine then_n ?_
    refine wp_ret ?_
    obtain rfl := some_inj h
    have hM := hM.outs (own' := []) 0 rfl
    exact leave1 hf rfl rfl ⟨rfl, hM.fin, hv75⟩

def Ct_impl_Grid_prove (rc : Grid → Lexicon → (List Slot) → (List Int) → Option (Bool × (List Int))) : Prop := ∀ (C : Cx) (g1 : Grid) (hp2 : R64 g1.Rows) (hp3 : R64 g1.Cols) (hp4 : g1.Cells.length ≤ maxLen) (l5 : Lexicon) (A6 : Option Addr) (c7 : Nat) (hp8 : (sliceRep strRep).R C.w0 C.S0 l5.Words [vL A6 l5.Words c7]) (slots9 : (List Slot)) (A10 : Option Addr) (c11 : Nat) (hp12 : (sliceRep SlotRep).R C.w0 C.S0 slots9 [vL A10 slots9 c11]) (proof13 : (List Int)) (b14 : Nat) (A15 : Option Addr) (c16 : Nat) (hO : Mem C C.w0 [.box b14 [vL A15 (proof13) c16] 58, .row intRep A15 c16 2 proof13 true] []) (hd : ∀ b, C.S0 b → ¬ ownB [.box b14 [vL A15 (proof13) c16] 58, .row intRep A15 c16 2 proof13 true] b) (r : (Bool × (List Int))) (h : rc g1 l5 slots9 proof13 = some r),
    Calls Try.prog 76 #[.agg #[vI (g1.Rows), vI (g1.Cols), vS (g1.Cells)], .agg #[vL A6 (l5.Words) c7], vL A10 (slots9) c11, vP b14 (0)] C.w0 fun e w => ∃ (A_1 : Option Addr), ∃ (c_1 : Nat), e = .returned (.bool (r.1)) ∧ Mem C w [.box b14 [vL A_1 (r.2) c_1] 58, .row intRep A_1 c_1 2 r.2 true] []

set_option maxRecDepth 100000 in
set_option maxHeartbeats 4000000 in
theorem r_impl_Grid_prove_b (rc : Grid → Lexicon → (List Slot) → (List Int) → Option (Bool × (List Int))) (ih : Ct_impl_Grid_prove rc) : Ct_impl_Grid_prove (m_impl_Grid_prove_b rc) := by
  intro C g1 hp2 hp3 hp4 l5 A6 c7 hp8 slots9 A10 c11 hp12 proof13 b14 A15 c16 hO hd r h
  have hM := hO
  have hM := hM.addIn hd (y := .dat (sliceRep strRep) l5.Words [vL A6 l5.Words c7]) hp8
  have hM := hM.addIn hd (y := .dat (sliceRep SlotRep) slots9 [vL A10 slots9 c11]) hp12
  refine enter Try.func76 rfl Try.ntmps76 rfl fun a hf => ?_
  unfold m_impl_Grid_prove_b at h
  refine wp_seq ?_
  refine region_pl ?_
  refine pl_l hf rfl rfl rfl (w_box hf hM (cs := [vI (g1.Rows), vI (g1.Cols), vS (g1.Cells)]) rfl rfl fun b17 w18 hx19 hM a hf => ?_)
  refine pl_l hf rfl rfl rfl (w_box hf hM (cs := [vL A6 (l5.Words) c7]) rfl rfl fun b21 w22 hx23 hM a hf => ?_)
  refine q_ hf rfl rfl rfl (e_assign hf rfl) fun a hf => ?_
  refine pl_nil ?_
  refine then_n ?_
  refine wp_seq ?_
  refine wp_seq ?_
  refine region_pl ?_
  refine q_ hf rfl rfl rfl (e_move hf rfl) fun a hf => ?_
  refine q_ hf rfl rfl rfl (e_nil hf rfl) fun a hf => ?_
  refine q_ hf rfl rfl rfl (e_load1 hf rfl Try.isAgg58 (hM.boxCell (k := 2) rfl rfl)) fun a hf => ?_
  have hl25 := row_len (hM.ownAt (k := 3) rfl)
  refine q_ hf rfl rfl rfl (e_lenL hf (x := proof13) rfl Try.underlying58) fun a hf => ?_
  refine q_ hf rfl rfl rfl (e_eq hf (x := (proof13.length : Int)) (y := 5000) rfl rfl) fun a hf => ?_
  refine pl_nil ?_
  refine then_n ?_
  rcases cond_some h with ⟨hc26, h⟩ | ⟨hc26, h⟩
  · refine cond_t hf rfl hc26 ?_
    refine wp_seq ?_
    refine region_pl ?_
    refine q_ hf rfl rfl rfl (e_assign hf rfl) fun a hf => ?_
    refine pl_nil ?_
    refine then_n ?_
    refine wp_ret ?_
    refine then_r ?_
    obtain rfl := some_inj h
    have hM := hM.front (k := 3) rfl
    dsimp only [List.eraseIdx] at hM
    have hM := hM.front (k := 3) rfl
    dsimp only [List.eraseIdx] at hM
    have hM := hM.outs (own' := [.box b14 [vL A15 (proof13) c16] 58, .row intRep A15 c16 2 proof13 true]) 2 rfl
    exact leave1 hf rfl rfl ⟨A15, c16, rfl, hM.fin⟩
  · refine cond_f hf rfl hc26 ?_
    refine wp_skip ?_
    refine then_n ?_
    refine wp_seq ?_
    refine region_pl ?_
    refine q_ hf rfl rfl rfl (e_loadA hf (us := [vI (g1.Rows), vI (g1.Cols), vS (g1.Cells)]) rfl ⟨Try.isAgg27, Try.sizeOf27⟩ rfl (hM.boxSub (k := 1) (us := [vI (g1.Rows), vI (g1.Cols), vS (g1.Cells)]) (o := 0) rfl rfl)) fun a hf => ?_
    refine q_ hf rfl rfl rfl (e_loadA hf (us := [vL A6 (l5.Words) c7]) rfl ⟨Try.isAgg45, Try.sizeOf45⟩ rfl (hM.boxSub (k := 0) (us := [vL A6 (l5.Words) c7]) (o := 0) rfl rfl)) fun a hf => ?_
    refine q_ hf rfl rfl rfl (e_move hf rfl) fun a hf => ?_
    obtain ⟨y27, hz28, h⟩ := bind_some h
    refine pl_l hf rfl rfl rfl (w_call hf Try.call103 rfl (r_impl_Grid_nextSlot ⟨_, Sh C _ _, none_, hM.sh_lt, none_not, C.G, hM.g_lt, g_none, hM.tabs⟩ g1 hp2 hp3 hp4 l5 _ _ (hM.dat (k := 1) rfl) slots9 _ _ (hM.dat (k := 0) rfl) _ hz28) ?_)
    rintro _ w30 ⟨rfl, hM2, hv29⟩
    obtain ⟨hM, hx31, hup32⟩ := hM.back hM2
    dsimp only [List.cons_append, List.nil_append] at hM hup32
    clear hM2
    refine ⟨_, rfl, fun a hf => ?_⟩
    refine q_ hf rfl rfl rfl (e_assign hf rfl) fun a hf => ?_
    refine pl_nil ?_
    refine then_n ?_
    refine wp_seq ?_
    refine region_pl ?_
    refine q_ hf rfl rfl rfl (e_move hf rfl) fun a hf => ?_
    refine q_ hf rfl rfl rfl (e_move hf rfl) fun a hf => ?_
    refine q_ hf rfl rfl rfl (e_nil hf rfl) fun a hf => ?_
    refine q_ hf rfl rfl rfl (e_load1 hf rfl Try.isAgg58 (hM.boxCell (k := 2) rfl rfl)) fun a hf => ?_
    refine q_ hf rfl rfl rfl (e_move hf rfl) fun a hf => ?_
    refine pl_l hf rfl rfl rfl (w_slice hf hM (K := intRep) (xs := ([y27] : (List Int))) (os := [.tmp 25]) Try.underlying58 ei_2 rfl rfl rfl rfl rfl ⟨⟨[vI (y27)], rfl, ⟨rfl, hv29⟩⟩, trivial⟩ rfl fun b33 w34 hx35 hM a hf => ?_)
    obtain ⟨xs36, hz37, h⟩ := bind_some h
    refine pl_l hf rfl rfl rfl (w_append hf hM Try.underlying58 ei_2 rfl rfl rfl (k := 4) rfl (hM.srcRow (k := 0) rfl) hz37 fun A38 c39 w40 hM a hf => ?_)
    dsimp only [List.set] at hM
    refine q_ hf rfl rfl rfl (e_nil hf rfl) fun a hf => ?_
    refine pl_0 hf rfl rfl (w_store hf hM (us := [vL A38 (xs36) c39]) (cs' := [vL A38 (xs36) c39]) rfl rfl (k := 3) rfl rfl Try.sizeOf58 rfl rfl rfl fun w43 hM => ?_)
    dsimp only [List.set] at hM
    refine pl_nil ?_
    refine then_n ?_
    obtain ⟨x49, h50, h⟩ := bind_some h
    refine seq_join (fun a w => ∃ (xs46 : (List Int)) (A47 : Option Addr) (c48 : Nat), (.inl xs46) = x49 ∧ Has 54 a [] ∧ Mem C w [.row intRep (some ⟨b33, 0, none⟩) 1 2 ([y27] : (List Int)) true, .box b21 [vL A6 (l5.Words) c7] 45, .box b17 [vI (g1.Rows), vI (g1.Cols), vS (g1.Cells)] 27, .box b14 [vL A47 (xs46) c48] 58, .row intRep A47 c48 2 xs46 true] [.dat (sliceRep SlotRep) slots9 [vL A10 slots9 c11], .dat (sliceRep strRep) l5.Words [vL A6 l5.Words c7]]) ?_ ?_
    · refine wp_seq ?_
      obtain ⟨w51, hw⟩ : ∃ x, x = w43.drew := ⟨_, rfl⟩
      refine region_pi (.q 0 (.q 1 (.q 2 (.q 3 (.q 4 (.q 5 (.q 8 (.l 6 (.q 7 (.nil)))))))))) (Ext w51) rfl (by kernel_rfl) ?_
      have hM := hM.drew
      rw [← hw] at hM ⊢
      clear hw
      refine pi_q hf rfl rfl rfl rfl (Ext.refl _) (e_loadA hf (us := [vI (g1.Rows), vI (g1.Cols), vS (g1.Cells)]) rfl ⟨Try.isAgg27, Try.sizeOf27⟩ rfl (hM.boxSub (k := 2) (us := [vI (g1.Rows), vI (g1.Cols), vS (g1.Cells)]) (o := 0) rfl rfl)) fun a hf => ?_
      refine pi_q hf rfl rfl rfl rfl (Ext.refl _) (e_loadA hf (us := [vL A6 (l5.Words) c7]) rfl ⟨Try.isAgg45, Try.sizeOf45⟩ rfl (hM.boxSub (k := 1) (us := [vL A6 (l5.Words) c7]) (o := 0) rfl rfl)) fun a hf => ?_
      refine pi_q hf rfl rfl rfl rfl (Ext.refl _) (e_move hf rfl) fun a hf => ?_
      refine pi_q hf rfl rfl rfl rfl (Ext.refl _) (e_move hf rfl) fun a hf => ?_
      obtain ⟨e52, hz53, h50⟩ := bind_some h50
      obtain ⟨b57, o58, _, hA59, h54, h55, hr56, hM⟩ := hM.elem (hM.dat (k := 0) rfl) (n := 4) rfl hz53
      obtain ⟨rfl, hv60, hv61, hv62⟩ := SlotRep_open hr56
      refine pi_q hf rfl rfl rfl rfl (Ext.refl _) (e_indexAddr (A := A10) (b := b57) (o := o58) (xs := slots9) (i := y27) hf hA59 rfl rfl Try.underlying30 Try.sizeOf75 h54 h55) fun a hf => ?_
      refine pi_q hf rfl rfl rfl rfl (Ext.refl _) (e_loadA hf (us := [vI (e52.Row), vI (e52.Col), .bool (e52.Down), vI (e52.Length)]) rfl ⟨Try.isAgg75, Try.sizeOf75⟩ rfl (hM.litSub (k := 0) (d := 0) (us := [vI (e52.Row), vI (e52.Col), .bool (e52.Down), vI (e52.Length)]) rfl rfl rfl)) fun a hf => ?_
      refine pi_q hf rfl rfl rfl rfl (Ext.refl _) (e_move hf rfl) fun a hf => ?_
      refine pi_one ?_
      obtain ⟨y63, hz64, h50⟩ := bind_some h50
      refine pi_l hf rfl rfl rfl rfl (w_call hf Try.call70 rfl (r_impl_Grid_candidates ⟨_, Sh C _ _, none_, hM.sh_lt, none_not, C.G, hM.g_lt, g_none, hM.tabs⟩ g1 hp2 hp3 hp4 l5 _ _ (hM.dat (k := 2) rfl) e52 hv60 hv61 hv62 _ hz64) ?_)
      rintro _ w67 ⟨A65, c66, rfl, hM2⟩
      obtain ⟨hM, hx68, hup69⟩ := hM.back hM2
      dsimp only [List.cons_append, List.nil_append] at hM hup69
      clear hM2
      refine ⟨_, rfl, Ext w67, fun _ h => Ext.trans hx68 h, Ext.refl _, fun a hf => ?_⟩
      have hl70 := row_len (hM.ownAt (k := 0) rfl)
      refine pi_q hf rfl rfl rfl rfl (Ext.refl _) (e_lenL hf (x := y63) rfl Try.underlying40) fun a hf => ?_
      refine pi_nil ?_
      refine then_n ?_
      refine wp_block ?_
      obtain ⟨x80, h81, h50⟩ := bind_some h50
      refine wp_loopM h81 (fun s a w => ∃ (xs71 : (List Int)) (n74 : Int) (A72 : Option Addr) (c73 : Nat), (xs71, n74) = s ∧ Has 54 a [(2, vL A10 (slots9) c11), (3, vP b14 (0)), (4, vP b17 (0)), (5, vP b21 (0)), (9, vI (y27)), (35, vL A65 (y63) c66), (36, vI ((y63.length : Int))), (37, vI (n74))] ∧ Mem C w [.row strRep A65 c66 9 y63 true, .row intRep (some ⟨b33, 0, none⟩) 1 2 ([y27] : (List Int)) true, .box b21 [vL A6 (l5.Words) c7] 45, .box b17 [vI (g1.Rows), vI (g1.Cols), vS (g1.Cells)] 27, .box b14 [vL A72 (xs71) c73] 58, .row intRep A72 c73 2 xs71 true] [.lit b57 (o58 + (y27 : Int).toNat * 4) [vI (e52.Row), vI (e52.Col), .bool (e52.Down), vI (e52.Length)], .dat (sliceRep SlotRep) slots9 [vL A10 slots9 c11], .dat (sliceRep strRep) l5.Words [vL A6 l5.Words c7]] ∧ R64 n74) ?_ ?_
      · exact ⟨xs36, 0, A38, c39, rfl, hf.keep ⟨rfl, rfl, rfl, rfl, rfl, rfl, rfl, rfl, trivial⟩, hM.pick [0, 1, 2] rfl, (R64_lit rfl)⟩
      · rintro s o82 a w76 ⟨xs71, n74, A72, c73, rfl, hf, hM, hv75⟩ h83 hd84
        replace h83 : m_impl_Grid_prove_l1 y63 slots9 y27 g1 rc l5 xs71 n74 = some o82 := h83
        unfold m_impl_Grid_prove_l1 at h83
        refine wp_seq ?_
        refine region_pl ?_
        refine q_ hf rfl rfl rfl (e_lt hf (x := n74) (y := (y63.length : Int)) rfl rfl) fun a hf => ?_
        refine pl_nil ?_
        refine then_n ?_
        refine wp_seq ?_
        rcases cond_some h83 with ⟨hc85, h83⟩ | ⟨hc85, h83⟩
        · refine cond_t hf rfl hc85 ?_
          refine wp_skip ?_
          refine then_n ?_
          refine wp_seq ?_
          refine wp_block ?_
          refine wp_seq ?_
          refine region_pl ?_
          obtain ⟨e86, hz87, h83⟩ := bind_some h83
          obtain ⟨b92, _, hA93, h88, h89, hr90, hcell91⟩ := hM.rowElemN (k := 0) rfl (n := 1) rfl hz87
          obtain ⟨rfl, hv94⟩ := hr90
          refine q_ hf rfl rfl rfl (e_indexAddr (A := A65) (b := b92) (o := 0) (xs := y63) (i := n74) hf hA93 rfl rfl Try.underlying40 Try.sizeOf9 h88 h89) fun a hf => ?_
          refine q_ hf rfl rfl rfl (e_load1 hf rfl Try.isAgg9 (hcell91 0 _ rfl)) fun a hf => ?_
          refine q_ hf rfl rfl rfl (e_assign hf rfl) fun a hf => ?_
          refine pl_nil ?_
          refine then_n ?_
          refine wp_seq ?_
          obtain ⟨w95, hw⟩ : ∃ x, x = w76.drew := ⟨_, rfl⟩
          refine region_pi (.q 0 (.q 1 (.q 2 (.q 3 (.q 4 (.q 5 (.q 7 (.q 8 (.q 9 (.l 6 (.l 10 (.q 11 (.nil))))))))))))) (Ext w95) rfl (by kernel_rfl) ?_
          have hM := hM.drew
          rw [← hw] at hM ⊢
          clear hw
          refine pi_q hf rfl rfl rfl rfl (Ext.refl _) (e_loadA hf (us := [vI (g1.Rows), vI (g1.Cols), vS (g1.Cells)]) rfl ⟨Try.isAgg27, Try.sizeOf27⟩ rfl (hM.boxSub (k := 3) (us := [vI (g1.Rows), vI (g1.Cols), vS (g1.Cells)]) (o := 0) rfl rfl)) fun a hf => ?_
          refine pi_q hf rfl rfl rfl rfl (Ext.refl _) (e_move hf rfl) fun a hf => ?_
          refine pi_q hf rfl rfl rfl rfl (Ext.refl _) (e_move hf rfl) fun a hf => ?_
          obtain ⟨e96, hz97, h83⟩ := bind_some h83
          obtain ⟨b101, o102, _, hA103, h98, h99, hr100, hM⟩ := hM.elem (hM.dat (k := 1) rfl) (n := 4) rfl hz97
          obtain ⟨rfl, hv104, hv105, hv106⟩ := SlotRep_open hr100
          refine pi_q hf rfl rfl rfl rfl (Ext.refl _) (e_indexAddr (A := A10) (b := b101) (o := o102) (xs := slots9) (i := y27) hf hA103 rfl rfl Try.underlying30 Try.sizeOf75 h98 h99) fun a hf => ?_
          refine pi_q hf rfl rfl rfl rfl (Ext.refl _) (e_loadA hf (us := [vI (e96.Row), vI (e96.Col), .bool (e96.Down), vI (e96.Length)]) rfl ⟨Try.isAgg75, Try.sizeOf75⟩ rfl (hM.litSub (k := 0) (d := 0) (us := [vI (e96.Row), vI (e96.Col), .bool (e96.Down), vI (e96.Length)]) rfl rfl rfl)) fun a hf => ?_
          refine pi_q hf rfl rfl rfl rfl (Ext.refl _) (e_move hf rfl) fun a hf => ?_
          refine pi_q hf rfl rfl rfl rfl (Ext.refl _) (e_loadA hf (us := [vL A6 (l5.Words) c7]) rfl ⟨Try.isAgg45, Try.sizeOf45⟩ rfl (hM.boxSub (k := 2) (us := [vL A6 (l5.Words) c7]) (o := 0) rfl rfl)) fun a hf => ?_
          refine pi_q hf rfl rfl rfl rfl (Ext.refl _) (e_move hf rfl) fun a hf => ?_
          refine pi_q hf rfl rfl rfl rfl (Ext.refl _) (e_move hf rfl) fun a hf => ?_
          refine pi_one ?_
          obtain ⟨y107, hz108, h83⟩ := bind_some h83
          refine pi_l hf rfl rfl rfl rfl (w_call hf Try.call62 rfl (r_impl_Grid_put ⟨_, Sh C _ _, none_, hM.sh_lt, none_not, C.G, hM.g_lt, g_none, hM.tabs⟩ g1 hp2 hp3 hp4 e96 hv104 hv105 hv106 e86 hv94 _ hz108) ?_)
          rintro _ w112 ⟨rfl, hM2, hv109, hv110, hv111⟩
          obtain ⟨hM, hx113, hup114⟩ := hM.back hM2
          dsimp only [List.cons_append, List.nil_append] at hM hup114
          clear hM2
          refine ⟨_, rfl, Ext w112, fun _ h => Ext.trans hx113 h, Ext.refl _, fun a hf => ?_⟩
          refine pi_one ?_
          have hM := hM.front (k := 5) rfl
          dsimp only [List.eraseIdx] at hM
          have hM := hM.front (k := 5) rfl
          dsimp only [List.eraseIdx] at hM
          have hM : Mem C _ ([.box b14 [vL A72 (xs71) c73] 58, .row intRep A72 c73 2 xs71 true] ++ [.row strRep A65 c66 9 y63 true, .row intRep (some ⟨b33, 0, none⟩) 1 2 ([y27] : (List Int)) true, .box b21 [vL A6 (l5.Words) c7] 45, .box b17 [vI (g1.Rows), vI (g1.Cols), vS (g1.Cells)] 27]) _ := hM
          obtain ⟨y115, hz116, h83⟩ := bind_some h83
          refine pi_z hf rfl rfl rfl rfl (by kernel_rfl) (w_call hf Try.call76 rfl (ih ⟨_, Sh C _ _, ownB _, hM.sh_lt, sub_dis, C.G, hM.g_lt, hM.g_own, hM.tabs⟩ y107 hv109 hv110 hv111 l5 _ _ (hM.dat (k := 3) rfl) slots9 _ _ (hM.dat (k := 2) rfl) xs71 _ _ _ hM.sub sub_dis _ hz116) ?_)
          rintro _ w119 ⟨A117, c118, rfl, hM2⟩
          obtain ⟨hM, hup121⟩ := hM.backG hM2
          dsimp only [List.cons_append, List.nil_append] at hM hup121
          clear hM2
          refine ⟨_, rfl, fun a hf => ?_⟩
          refine pi_q hf rfl rfl rfl rfl (Ext.refl _) (e_not hf rfl) fun a hf => ?_
          refine pi_nil ?_
          refine then_n ?_
          rcases cond_some h83 with ⟨hc122, h83⟩ | ⟨hc122, h83⟩
          · refine cond_t hf rfl hc122 ?_
            refine wp_seq ?_
            refine region_pl ?_
            refine q_ hf rfl rfl rfl (e_assign hf rfl) fun a hf => ?_
            refine pl_nil ?_
            refine then_n ?_
            refine wp_ret ?_
            refine blk_r ?_
            refine then_r ?_
            obtain rfl := some_inj h83
            obtain rfl := hd84 _ rfl
            try dsimp only at h50
            refine then_r ?_
            refine blk_r ?_
            obtain rfl := some_inj h50
            try dsimp only at h
            refine then_r ?_
            obtain rfl := some_inj h
            have hM := hM.outs (own' := [.box b14 [vL A117 (y115.2) c118] 58, .row intRep A117 c118 2 y115.2 true]) 2 rfl
            exact leave1 hf rfl rfl ⟨A117, c118, rfl, hM.fin⟩
          · refine cond_f hf rfl hc122 ?_
            refine wp_skip ?_
            refine blk_n ?_
            refine then_n ?_
            refine region_pl ?_
            obtain ⟨z123, hz124, h83⟩ := bind_some h83
            refine q_ hf rfl rfl rfl (e_add hf rfl rfl hz124) fun a hf => ?_
            refine q_ hf rfl rfl rfl (e_move hf rfl) fun a hf => ?_
            refine pl_nil ?_
            obtain rfl := some_inj h83
            refine then_n ⟨_, rfl, ?_⟩
            have hM := hM.front (k := 1) rfl
            dsimp only [List.eraseIdx] at hM
            have hM := hM.front (k := 1) rfl
            dsimp only [List.eraseIdx] at hM
            have hM := hM.front (k := 5) rfl
            dsimp only [List.eraseIdx] at hM
            have hM := hM.front (k := 5) rfl
            dsimp only [List.eraseIdx] at hM
            have hM := hM.front (k := 5) rfl
            dsimp only [List.eraseIdx] at hM
            have hM := hM.front (k := 5) rfl
            dsimp only [List.eraseIdx] at hM
            exact ⟨y115.2, z123, A117, c118, rfl, hf.keep ⟨rfl, rfl, rfl, rfl, rfl, rfl, rfl, rfl, trivial⟩, hM.pick [1, 2, 3] rfl, (chk_R hz124)⟩
        · refine cond_f hf rfl hc85 ?_
          refine wp_exit ?_
          refine then_x ?_
          obtain rfl := some_inj h83
          obtain rfl := hd84 _ rfl
          try dsimp only at h50
          refine then_x ?_
          refine exit_hit ?_
          obtain rfl := some_inj h50
          refine then_n ?_
          exact ⟨xs71, A72, c73, rfl, hf.keep trivial, (hM.drop (.cons _ (.cons_cons _ (.cons_cons _ (.cons_cons _ (.cons_cons _ (.cons_cons _ .slnil))))))).pick [1, 2] rfl⟩
    · rintro a w131 ⟨xs46, A47, c48, rfl, hf, hM⟩
      try dsimp only at h
      refine wp_seq ?_
      refine region_pl ?_
      refine q_ hf rfl rfl rfl (e_assign hf rfl) fun a hf => ?_
      refine pl_nil ?_
      refine then_n ?_
      refine wp_ret ?_
      obtain rfl := some_inj h
      have hM := hM.front (k := 4) rfl
      dsimp only [List.eraseIdx] at hM
      have hM := hM.front (k := 4) rfl
      dsimp only [List.eraseIdx] at hM
      have hM := hM.outs (own' := [.box b14 [vL A47 (xs46) c48] 58, .row intRep A47 c48 2 xs46 true]) 2 rfl
      exact leave1 hf rfl rfl ⟨A47, c48, rfl, hM.fin⟩

theorem r_impl_Grid_prove_n : ∀ n, Ct_impl_Grid_prove (m_impl_Grid_prove_n n)
  | 0 => fun C g1 hp2 hp3 hp4 l5 A6 c7 hp8 slots9 A10 c11 hp12 proof13 b14 A15 c16 hO hd r h => by cases h
  | n + 1 => r_impl_Grid_prove_b _ (r_impl_Grid_prove_n n)

theorem r_impl_Grid_prove : Ct_impl_Grid_prove (m_impl_Grid_prove) := r_impl_Grid_prove_n fuelN

set_option maxRecDepth 100000 in
set_option maxHeartbeats 4000000 in
theorem r_impl_ProveNoFill (C : Cx) (g1 : Grid) (hp2 : R64 g1.Rows) (hp3 : R64 g1.Cols) (hp4 : g1.Cells.length ≤ maxLen) (l5 : Lexicon) (A6 : Option Addr) (c7 : Nat) (hp8 : (sliceRep strRep).R C.w0 C.S0 l5.Words [vL A6 l5.Words c7]) (r : ((List Int) × Int)) (h : m_impl_ProveNoFill g1 l5 = some r) :
    Calls Try.prog 40 #[.agg #[vI (g1.Rows), vI (g1.Cols), vS (g1.Cells)], .agg #[vL A6 (l5.Words) c7]] C.w0 fun e w => ∃ (A_1 : Option Addr), ∃ (c_1 : Nat), e = .returned (.tuple #[vL A_1 (r.1) c_1, vI (r.2)]) ∧ Mem C w [.row intRep A_1 c_1 2 r.1 true] [] ∧ R64 r.2 := by
  have hM := Mem.begin C [.dat (sliceRep strRep) l5.Words [vL A6 l5.Words c7]] ⟨hp8, trivial⟩
  refine enter Try.func40 rfl Try.ntmps40 rfl fun a hf => ?_
  unfold m_impl_ProveNoFill at h
  refine wp_seq ?_
  refine region_pl ?_
  refine pl_l hf rfl rfl rfl (w_box hf hM (cs := [vI (g1.Rows), vI (g1.Cols), vS (g1.Cells)]) rfl rfl fun b9 w10 hx11 hM a hf => ?_)
  refine pl_l hf rfl rfl rfl (w_box hf hM (cs := [vL A6 (l5.Words) c7]) rfl rfl fun b13 w14 hx15 hM a hf => ?_)
  refine q_ hf rfl rfl rfl (e_assign hf rfl) fun a hf => ?_
  refine q_ hf rfl rfl rfl (e_assign hf rfl) fun a hf => ?_
  refine pl_nil ?_
  refine then_n ?_
  refine wp_seq ?_
  obtain ⟨x19, h20, h⟩ := bind_some h
  refine seq_join (fun a w => ∃ (t17 : Bool), t17 = x19 ∧ Has 32 a [(2, vP b9 (0)), (3, vP b13 (0)), (16, .bool (t17))] ∧ Mem C w [.box b13 [vL A6 (l5.Words) c7] 45, .box b9 [vI (g1.Rows), vI (g1.Cols), vS (g1.Cells)] 27] [.dat (sliceRep strRep) l5.Words [vL A6 l5.Words c7]]) ?_ ?_
  · refine region_pl ?_
    refine q_ hf rfl rfl rfl (e_loadA hf (us := [vI (g1.Rows), vI (g1.Cols), vS (g1.Cells)]) rfl ⟨Try.isAgg27, Try.sizeOf27⟩ rfl (hM.boxSub (k := 1) (us := [vI (g1.Rows), vI (g1.Cols), vS (g1.Cells)]) (o := 0) rfl rfl)) fun a hf => ?_
    obtain ⟨y21, hz22, h20⟩ := bind_some h20
    refine pl_l hf rfl rfl rfl (w_call hf Try.call46 rfl (r_impl_ValidGrid ⟨_, Sh C _ _, none_, hM.sh_lt, none_not, C.G, hM.g_lt, g_none, hM.tabs⟩ g1 hp2 hp3 hp4 _ hz22) ?_)
    rintro _ w23 ⟨rfl, hM2⟩
    obtain ⟨hM, hx24, hup25⟩ := hM.back hM2
    dsimp only [List.cons_append, List.nil_append] at hM hup25
    clear hM2
    refine ⟨_, rfl, fun a hf => ?_⟩
    refine q_ hf rfl rfl rfl (e_not hf rfl) fun a hf => ?_
    refine q_ hf rfl rfl rfl (e_move hf rfl) fun a hf => ?_
    rcases cond_some h20 with ⟨hc26, h20⟩ | ⟨hc26, h20⟩
    · refine pl_gs (wanted_f hf rfl rfl rfl rfl hc26) hf rfl rfl fun a hf => ?_
      refine pl_gs (wanted_f hf rfl rfl rfl rfl hc26) hf rfl rfl fun a hf => ?_
      refine pl_gs (wanted_f hf rfl rfl rfl rfl hc26) hf rfl rfl fun a hf => ?_
      refine q_ hf rfl rfl rfl (e_pick_t hf rfl hc26 rfl) fun a hf => ?_
      refine pl_nil ?_
      obtain rfl := some_inj h20
      refine then_n ?_
      exact ⟨true, rfl, hf.keep ⟨rfl, rfl, rfl, trivial⟩, hM.pick [0] rfl⟩
    · refine gq (wanted_t hf rfl rfl rfl rfl hc26) hf rfl rfl (e_loadA hf (us := [vL A6 (l5.Words) c7]) rfl ⟨Try.isAgg45, Try.sizeOf45⟩ rfl (hM.boxSub (k := 0) (us := [vL A6 (l5.Words) c7]) (o := 0) rfl rfl)) fun a hf => ?_
      obtain ⟨y28, hz29, h20⟩ := bind_some h20
      refine pl_gl (wanted_t hf rfl rfl rfl rfl hc26) hf rfl rfl (w_call hf Try.call67 rfl (r_impl_ValidLexicon ⟨_, Sh C _ _, none_, hM.sh_lt, none_not, C.G, hM.g_lt, g_none, hM.tabs⟩ l5 _ _ (hM.dat (k := 0) rfl) _ hz29) ?_)
      rintro _ w30 ⟨rfl, hM2⟩
      obtain ⟨hM, hx31, hup32⟩ := hM.back hM2
      dsimp only [List.cons_append, List.nil_append] at hM hup32
      clear hM2
      refine ⟨_, rfl, fun a hf => ?_⟩
      refine gq (wanted_t hf rfl rfl rfl rfl hc26) hf rfl rfl (e_not hf rfl) fun a hf => ?_
      refine q_ hf rfl rfl rfl (e_pick_f hf rfl hc26 rfl) fun a hf => ?_
      refine pl_nil ?_
      obtain rfl := some_inj h20
      refine then_n ?_
      exact ⟨(!y28), rfl, hf.keep ⟨rfl, rfl, rfl, trivial⟩, hM.pick [0] rfl⟩
  · rintro a w34 ⟨t17, rfl, hf, hM⟩
    try dsimp only at h
    rcases cond_some h with ⟨hc35, h⟩ | ⟨hc35, h⟩
    · refine cond_t hf rfl hc35 ?_
      refine wp_seq ?_
      refine region_pl ?_
      refine q_ hf rfl rfl rfl (e_assign hf rfl) fun a hf => ?_
      refine q_ hf rfl rfl rfl (e_assign hf rfl) fun a hf => ?_
      refine pl_nil ?_
      refine then_n ?_
      refine wp_ret ?_
      refine then_r ?_
      obtain rfl := some_inj h
      have hM := hM.nilRow intRep 2
      have hM := hM.outs (own' := [.row intRep none 0 2 ([] : (List Int)) true]) 1 rfl
      exact leave2 hf rfl rfl rfl ⟨none, 0, rfl, hM.fin, (R64_lit rfl)⟩
    · refine cond_f hf rfl hc35 ?_
      refine wp_skip ?_
      refine then_n ?_
      refine wp_seq ?_
      refine wp_seq ?_
      refine region_pl ?_
      refine q_ hf rfl rfl rfl (e_loadA hf (us := [vI (g1.Rows), vI (g1.Cols), vS (g1.Cells)]) rfl ⟨Try.isAgg27, Try.sizeOf27⟩ rfl (hM.boxSub (k := 1) (us := [vI (g1.Rows), vI (g1.Cols), vS (g1.Cells)]) (o := 0) rfl rfl)) fun a hf => ?_
      refine q_ hf rfl rfl rfl (e_loadA hf (us := [vL A6 (l5.Words) c7]) rfl ⟨Try.isAgg45, Try.sizeOf45⟩ rfl (hM.boxSub (k := 0) (us := [vL A6 (l5.Words) c7]) (o := 0) rfl rfl)) fun a hf => ?_
      obtain ⟨y36, hz37, h⟩ := bind_some h
      refine pl_l hf rfl rfl rfl (w_call hf Try.call74 rfl (r_impl_Grid_first ⟨_, Sh C _ _, none_, hM.sh_lt, none_not, C.G, hM.g_lt, g_none, hM.tabs⟩ g1 hp2 hp3 hp4 l5 _ _ (hM.dat (k := 0) rfl) _ hz37) ?_)
      rintro _ w41 ⟨rfl, hM2, hv38, hv39, hv40⟩
      obtain ⟨hM, hx42, hup43⟩ := hM.back hM2
      dsimp only [List.cons_append, List.nil_append] at hM hup43
      clear hM2
      refine ⟨_, rfl, fun a hf => ?_⟩
      refine q_ hf rfl rfl rfl (e_move hf rfl) fun a hf => ?_
      refine q_ hf rfl rfl rfl (e_extract hf rfl rfl) fun a hf => ?_
      refine q_ hf rfl rfl rfl (e_extract hf rfl rfl) fun a hf => ?_
      refine pl_l hf rfl rfl rfl (w_alloc hM (cs := [vI (0), vI (0), vS (([] : Str))]) Try.zeroValue27 rfl fun b44 w45 hx46 hM a hf => ?_)
      refine pl_0 hf rfl rfl (w_store hf hM (us := [vI (y36.1.Rows), vI (y36.1.Cols), vS (y36.1.Cells)]) (cs' := [vI (y36.1.Rows), vI (y36.1.Cols), vS (y36.1.Cells)]) rfl rfl (k := 0) rfl rfl Try.sizeOf27 rfl rfl rfl fun w48 hM => ?_)
      dsimp only [List.set] at hM
      refine q_ hf rfl rfl rfl (e_assign hf rfl) fun a hf => ?_
      refine pl_nil ?_
      refine then_n ?_
      refine wp_seq ?_
      refine region_pl ?_
      refine q_ hf rfl rfl rfl (e_move hf rfl) fun a hf => ?_
      refine pl_nil ?_
      refine then_n ?_
      rcases cond_some h with ⟨hc51, h⟩ | ⟨hc51, h⟩
      · refine cond_t hf rfl hc51 ?_
        refine wp_seq ?_
        refine region_pl ?_
        refine q_ hf rfl rfl rfl (e_assign hf rfl) fun a hf => ?_
        refine q_ hf rfl rfl rfl (e_assign hf rfl) fun a hf => ?_
        refine pl_nil ?_
        refine then_n ?_
        refine wp_ret ?_
        refine then_r ?_
        obtain rfl := some_inj h
        have hM := hM.nilRow intRep 2
        have hM := hM.outs (own' := [.row intRep none 0 2 ([] : (List Int)) true]) 1 rfl
        exact leave2 hf rfl rfl rfl ⟨none, 0, rfl, hM.fin, (R64_lit rfl)⟩
      · refine cond_f hf rfl hc51 ?_
        refine wp_skip ?_
        refine then_n ?_
        refine wp_seq ?_
        refine region_pl ?_
        refine pl_l hf rfl rfl rfl (w_slice0 (K := intRep) hM Try.underlying58 ei_2 fun b52 w53 hx54 hM a hf => ?_)
        refine pl_l hf rfl rfl rfl (w_alloc hM (cs := [vL none (([] : (List Int))) 0]) Try.zeroValue58 rfl fun b55 w56 hx57 hM a hf => ?_)
        refine pl_0 hf rfl rfl (w_store hf hM (us := [vL (some ⟨b52, 0, none⟩) (([] : (List Int))) 0]) (cs' := [vL (some ⟨b52, 0, none⟩) (([] : (List Int))) 0]) rfl rfl (k := 0) rfl rfl Try.sizeOf58 rfl rfl rfl fun w59 hM => ?_)
        dsimp only [List.set] at hM
        refine pl_nil ?_
        refine then_n ?_
        refine wp_seq ?_
        refine wp_seq ?_
        obtain ⟨w62, hw⟩ : ∃ x, x = w59.drew := ⟨_, rfl⟩
        refine region_pi (.q 0 (.q 1 (.q 2 (.l 3 (.l 4 (.q 5 (.nil))))))) (Ext w62) rfl (by kernel_rfl) ?_
        have hM := hM.drew
        rw [← hw] at hM ⊢
        clear hw
        refine pi_q hf rfl rfl rfl rfl (Ext.refl _) (e_loadA hf (us := [vI (g1.Rows), vI (g1.Cols), vS (g1.Cells)]) rfl ⟨Try.isAgg27, Try.sizeOf27⟩ rfl (hM.boxSub (k := 4) (us := [vI (g1.Rows), vI (g1.Cols), vS (g1.Cells)]) (o := 0) rfl rfl)) fun a hf => ?_
        refine pi_q hf rfl rfl rfl rfl (Ext.refl _) (e_loadA hf (us := [vL A6 (l5.Words) c7]) rfl ⟨Try.isAgg45, Try.sizeOf45⟩ rfl (hM.boxSub (k := 3) (us := [vL A6 (l5.Words) c7]) (o := 0) rfl rfl)) fun a hf => ?_
        refine pi_q hf rfl rfl rfl rfl (Ext.refl _) (e_loadA hf (us := [vI (g1.Rows), vI (g1.Cols), vS (g1.Cells)]) rfl ⟨Try.isAgg27, Try.sizeOf27⟩ rfl (hM.boxSub (k := 4) (us := [vI (g1.Rows), vI (g1.Cols), vS (g1.Cells)]) (o := 0) rfl rfl)) fun a hf => ?_
        refine pi_one ?_
        obtain ⟨y63, hz64, h⟩ := bind_some h
        refine pi_l hf rfl rfl rfl rfl (w_call hf Try.call55 rfl (r_impl_Grid_slots ⟨_, Sh C _ _, none_, hM.sh_lt, none_not, C.G, hM.g_lt, g_none, hM.tabs⟩ g1 hp2 hp3 hp4 _ hz64) ?_)
        rintro _ w67 ⟨A65, c66, rfl, hM2⟩
        obtain ⟨hM, hx68, hup69⟩ := hM.back hM2
        dsimp only [List.cons_append, List.nil_append] at hM hup69
        clear hM2
        refine ⟨_, rfl, Ext w67, fun _ h => Ext.trans hx68 h, Ext.refl _, fun a hf => ?_⟩
        refine pi_one ?_
        have hM := hM.freezeRow (k := 0) rfl rfl
        dsimp only [List.eraseIdx] at hM
        have hM : Mem C _ ([.box b55 [vL (some ⟨b52, 0, none⟩) (([] : (List Int))) 0] 58, .row intRep (some ⟨b52, 0, none⟩) 0 2 ([] : (List Int)) true] ++ [.box b44 [vI (y36.1.Rows), vI (y36.1.Cols), vS (y36.1.Cells)] 27, .box b13 [vL A6 (l5.Words) c7] 45, .box b9 [vI (g1.Rows), vI (g1.Cols), vS (g1.Cells)] 27]) _ := hM
        obtain ⟨y70, hz71, h⟩ := bind_some h
        refine pi_z hf rfl rfl rfl rfl (by kernel_rfl) (w_call hf Try.call76 rfl (r_impl_Grid_prove ⟨_, Sh C _ _, ownB _, hM.sh_lt, sub_dis, C.G, hM.g_lt, hM.g_own, hM.tabs⟩ g1 hp2 hp3 hp4 l5 _ _ (hM.dat (k := 1) rfl) y63 _ _ (hM.dat (k := 0) rfl) ([] : (List Int)) _ _ _ hM.sub sub_dis _ hz71) ?_)
        rintro _ w74 ⟨A72, c73, rfl, hM2⟩
        obtain ⟨hM, hup76⟩ := hM.backG hM2
        dsimp only [List.cons_append, List.nil_append] at hM hup76
        clear hM2
        refine ⟨_, rfl, fun a hf => ?_⟩
        refine pi_q hf rfl rfl rfl rfl (Ext.refl _) (e_not hf rfl) fun a hf => ?_
        refine pi_nil ?_
        refine then_n ?_
        rcases cond_some h with ⟨hc77, h⟩ | ⟨hc77, h⟩
        · refine cond_t hf rfl hc77 ?_
          refine wp_seq ?_
          refine region_pl ?_
          refine q_ hf rfl rfl rfl (e_assign hf rfl) fun a hf => ?_
          refine q_ hf rfl rfl rfl (e_assign hf rfl) fun a hf => ?_
          refine pl_nil ?_
          refine then_n ?_
          refine wp_ret ?_
          refine then_r ?_
          obtain rfl := some_inj h
          have hM := hM.nilRow intRep 2
          have hM := hM.outs (own' := [.row intRep none 0 2 ([] : (List Int)) true]) 1 rfl
          exact leave2 hf rfl rfl rfl ⟨none, 0, rfl, hM.fin, (R64_lit rfl)⟩
        · refine cond_f hf rfl hc77 ?_
          refine wp_skip ?_
          refine then_n ?_
          refine wp_seq ?_
          refine region_pl ?_
          refine q_ hf rfl rfl rfl (e_load1 hf rfl Try.isAgg58 (hM.boxCell (k := 0) rfl rfl)) fun a hf => ?_
          refine q_ hf rfl rfl rfl (e_assign hf rfl) fun a hf => ?_
          refine q_ hf rfl rfl rfl (e_assign hf rfl) fun a hf => ?_
          refine pl_nil ?_
          refine then_n ?_
          refine wp_ret ?_
          obtain rfl := some_inj h
          have hM := hM.front (k := 1) rfl
          dsimp only [List.eraseIdx] at hM
          have hM := hM.outs (own' := [.row intRep A72 c73 2 y70.2 true]) 1 rfl
          exact leave2 hf rfl rfl rfl ⟨A72, c73, rfl, hM.fin, (R64_lit rfl)⟩

set_option maxRecDepth 100000 in
set_option maxHeartbeats 4000000 in
theorem r_laws_eqInt64S (C : Cx) (a1 : (List Int)) (A2 : Option Addr) (c3 : Nat) (hp4 : (sliceRep intRep).R C.w0 C.S0 a1 [vL A2 a1 c3]) (b5 : (List Int)) (A6 : Option Addr) (c7 : Nat) (hp8 : (sliceRep intRep).R C.w0 C.S0 b5 [vL A6 b5 c7]) (r : Bool) (h : m_laws_eqInt64S a1 b5 = some r) :
    Calls Try.prog 41 #[vL A2 (a1) c3, vL A6 (b5) c7] C.w0 fun e w => e = .returned (.bool (r)) ∧ Mem C w [] [] := by
  have hM := Mem.begin C [.dat (sliceRep intRep) b5 [vL A6 b5 c7], .dat (sliceRep intRep) a1 [vL A2 a1 c3]] ⟨hp8, hp4, trivial⟩
  refine enter Try.func41 rfl Try.ntmps41 rfl fun a hf => ?_
  unfold m_laws_eqInt64S at h
  refine wp_seq ?_
  refine region_pl ?_
  refine q_ hf rfl rfl rfl (e_assign hf rfl) fun a hf => ?_
  refine pl_nil ?_
  refine then_n ?_
  refine wp_seq ?_
  refine wp_seq ?_
  refine region_pl ?_
  refine q_ hf rfl rfl rfl (e_move hf rfl) fun a hf => ?_
  have hl9 := slice_len (hM.dat (k := 1) rfl)
  refine q_ hf rfl rfl rfl (e_lenL hf (x := a1) rfl Try.underlying58) fun a hf => ?_
  refine q_ hf rfl rfl rfl (e_move hf rfl) fun a hf => ?_
  have hl10 := slice_len (hM.dat (k := 0) rfl)
  refine q_ hf rfl rfl rfl (e_lenL hf (x := b5) rfl Try.underlying58) fun a hf => ?_
  refine q_ hf rfl rfl rfl (e_ne hf (x := (a1.length : Int)) (y := (b5.length : Int)) rfl rfl) fun a hf => ?_
  refine pl_nil ?_
  refine then_n ?_
  rcases cond_some h with ⟨hc11, h⟩ | ⟨hc11, h⟩
  · refine cond_t hf rfl hc11 ?_
    refine wp_seq ?_
    refine region_pl ?_
    refine q_ hf rfl rfl rfl (e_assign hf rfl) fun a hf => ?_
    refine pl_nil ?_
    refine then_n ?_
    refine wp_ret ?_
    refine then_r ?_
    obtain rfl := some_inj h
    exact leave1 hf rfl rfl ⟨rfl, hM.fin⟩
  · refine cond_f hf rfl hc11 ?_
    refine wp_skip ?_
    refine then_n ?_
    obtain ⟨x12, h13, h⟩ := bind_some h
    refine seq_join (fun a w => (.inl ()) = x12 ∧ Has 26 a [] ∧ Mem C w [] [.dat (sliceRep intRep) b5 [vL A6 b5 c7], .dat (sliceRep intRep) a1 [vL A2 a1 c3]]) ?_ ?_
    · refine wp_seq ?_
      refine region_pl ?_
      refine q_ hf rfl rfl rfl (e_assign hf rfl) fun a hf => ?_
      refine pl_nil ?_
      refine then_n ?_
      refine wp_block ?_
      obtain ⟨x17, h18, h13⟩ := bind_some h13
      refine wp_loopM h18 (fun s a w => ∃ (n14 : Int), n14 = s ∧ Has 26 a [(0, vL A2 (a1) c3), (1, vL A6 (b5) c7), (5, vI (n14))] ∧ Mem C w [] [.dat (sliceRep intRep) b5 [vL A6 b5 c7], .dat (sliceRep intRep) a1 [vL A2 a1 c3]] ∧ R64 n14) ?_ ?_
      · exact ⟨0, rfl, hf.keep ⟨rfl, rfl, rfl, trivial⟩, hM.pick [0, 1] rfl, (R64_lit rfl)⟩
      · rintro s o19 a w16 ⟨n14, rfl, hf, hM, hv15⟩ h20 hd21
        replace h20 : m_laws_eqInt64S_l1 a1 b5 n14 = some o19 := h20
        unfold m_laws_eqInt64S_l1 at h20
        refine wp_seq ?_
        refine wp_seq ?_
        refine region_pl ?_
        refine q_ hf rfl rfl rfl (e_move hf rfl) fun a hf => ?_
        refine q_ hf rfl rfl rfl (e_move hf rfl) fun a hf => ?_
        have hl22 := slice_len (hM.dat (k := 1) rfl)
        refine q_ hf rfl rfl rfl (e_lenL hf (x := a1) rfl Try.underlying58) fun a hf => ?_
        refine q_ hf rfl rfl rfl (e_lt hf (x := n14) (y := (a1.length : Int)) rfl rfl) fun a hf => ?_
        refine pl_nil ?_
        refine then_n ?_
        rcases cond_some h20 with ⟨hc23, h20⟩ | ⟨hc23, h20⟩
        · refine cond_t hf rfl hc23 ?_
          refine wp_skip ?_
          refine then_n ?_
          refine wp_seq ?_
          refine wp_block ?_
          refine wp_seq ?_
          obtain ⟨w24, hw⟩ : ∃ x, x = w16.drew := ⟨_, rfl⟩
          refine region_pi (.q 0 (.q 1 (.q 2 (.q 3 (.q 4 (.q 5 (.q 6 (.q 7 (.q 8 (.nil)))))))))) (Ext w24) rfl (by kernel_rfl) ?_
          have hM := hM.drew
          rw [← hw] at hM ⊢
          clear hw
          refine pi_q hf rfl rfl rfl rfl (Ext.refl _) (e_move hf rfl) fun a hf => ?_
          refine pi_q hf rfl rfl rfl rfl (Ext.refl _) (e_move hf rfl) fun a hf => ?_
          obtain ⟨e25, hz26, h20⟩ := bind_some h20
          obtain ⟨b30, o31, _, hA32, h27, h28, hr29, hM⟩ := hM.elem (hM.dat (k := 1) rfl) (n := 1) rfl hz26
          obtain ⟨rfl, hv33⟩ := hr29
          refine pi_q hf rfl rfl rfl rfl (Ext.refl _) (e_indexAddr (A := A2) (b := b30) (o := o31) (xs := a1) (i := n14) hf hA32 rfl rfl Try.underlying58 Try.sizeOf2 h27 h28) fun a hf => ?_
          refine pi_q hf rfl rfl rfl rfl (Ext.refl _) (e_load1 hf rfl Try.isAgg2 (hM.litCell (k := 0) (j := 0) rfl rfl rfl)) fun a hf => ?_
          refine pi_q hf rfl rfl rfl rfl (Ext.refl _) (e_move hf rfl) fun a hf => ?_
          refine pi_q hf rfl rfl rfl rfl (Ext.refl _) (e_move hf rfl) fun a hf => ?_
          obtain ⟨e34, hz35, h20⟩ := bind_some h20
          obtain ⟨b39, o40, _, hA41, h36, h37, hr38, hM⟩ := hM.elem (hM.dat (k := 1) rfl) (n := 1) rfl hz35
          obtain ⟨rfl, hv42⟩ := hr38
          refine pi_q hf rfl rfl rfl rfl (Ext.refl _) (e_indexAddr (A := A6) (b := b39) (o := o40) (xs := b5) (i := n14) hf hA41 rfl rfl Try.underlying58 Try.sizeOf2 h36 h37) fun a hf => ?_
          refine pi_q hf rfl rfl rfl rfl (Ext.refl _) (e_load1 hf rfl Try.isAgg2 (hM.litCell (k := 0) (j := 0) rfl rfl rfl)) fun a hf => ?_
          refine pi_q hf rfl rfl rfl rfl (Ext.refl _) (e_ne hf (x := e25) (y := e34) rfl rfl) fun a hf => ?_
          refine pi_nil ?_
          refine then_n ?_
          rcases cond_some h20 with ⟨hc43, h20⟩ | ⟨hc43, h20⟩
          · refine cond_t hf rfl hc43 ?_
            refine wp_seq ?_
            refine region_pl ?_
            refine q_ hf rfl rfl rfl (e_assign hf rfl) fun a hf => ?_
            refine pl_nil ?_
            refine then_n ?_
            refine wp_ret ?_
            refine blk_r ?_
            refine then_r ?_
            obtain rfl := some_inj h20
            obtain rfl := hd21 _ rfl
            try dsimp only at h13
            refine then_r ?_
            refine blk_r ?_
            obtain rfl := some_inj h13
            try dsimp only at h
            refine then_r ?_
            obtain rfl := some_inj h
            exact leave1 hf rfl rfl ⟨rfl, hM.fin⟩
          · refine cond_f hf rfl hc43 ?_
            refine wp_skip ?_
            refine blk_n ?_
            refine then_n ?_
            refine region_pl ?_
            refine q_ hf rfl rfl rfl (e_move hf rfl) fun a hf => ?_
            obtain ⟨z44, hz45, h20⟩ := bind_some h20
            refine q_ hf rfl rfl rfl (e_add hf rfl rfl hz45) fun a hf => ?_
            refine q_ hf rfl rfl rfl (e_assign hf rfl) fun a hf => ?_
            refine pl_nil ?_
            obtain rfl := some_inj h20
            refine then_n ⟨_, rfl, ?_⟩
            exact ⟨z44, rfl, hf.keep ⟨rfl, rfl, rfl, trivial⟩, hM.pick [2, 3] rfl, (chk_R hz45)⟩
        · refine cond_f hf rfl hc23 ?_
          refine wp_exit ?_
          refine then_x ?_
          obtain rfl := some_inj h20
          obtain rfl := hd21 _ rfl
          try dsimp only at h13
          refine then_x ?_
          refine exit_hit ?_
          obtain rfl := some_inj h13
          refine then_n ?_
          exact ⟨rfl, hf.keep trivial, hM.pick [0, 1] rfl⟩
    · rintro a w52 ⟨rfl, hf, hM⟩
      try dsimp only at h
      refine wp_seq ?_
      refine region_pl ?_
      refine q_ hf rfl rfl rfl (e_assign hf rfl) fun a hf => ?_
      refine pl_nil ?_
      refine then_n ?_
      refine wp_ret ?_
      obtain rfl := some_inj h
      exact leave1 hf rfl rfl ⟨rfl, hM.fin⟩

set_option maxRecDepth 100000 in
set_option maxHeartbeats 4000000 in
theorem r_laws_eqStringS (C : Cx) (a1 : (List Str)) (A2 : Option Addr) (c3 : Nat) (hp4 : (sliceRep strRep).R C.w0 C.S0 a1 [vL A2 a1 c3]) (b5 : (List Str)) (A6 : Option Addr) (c7 : Nat) (hp8 : (sliceRep strRep).R C.w0 C.S0 b5 [vL A6 b5 c7]) (r : Bool) (h : m_laws_eqStringS a1 b5 = some r) :
    Calls Try.prog 31 #[vL A2 (a1) c3, vL A6 (b5) c7] C.w0 fun e w => e = .returned (.bool (r)) ∧ Mem C w [] [] := by
  have hM := Mem.begin C [.dat (sliceRep strRep) b5 [vL A6 b5 c7], .dat (sliceRep strRep) a1 [vL A2 a1 c3]] ⟨hp8, hp4, trivial⟩
  refine enter Try.func31 rfl Try.ntmps31 rfl fun a hf => ?_
  unfold m_laws_eqStringS at h
  refine wp_seq ?_
  refine region_pl ?_
  refine q_ hf rfl rfl rfl (e_assign hf rfl) fun a hf => ?_
  refine pl_nil ?_
  refine then_n ?_
  refine wp_seq ?_
  refine wp_seq ?_
  refine region_pl ?_
  refine q_ hf rfl rfl rfl (e_move hf rfl) fun a hf => ?_
  have hl9 := slice_len (hM.dat (k := 1) rfl)
  refine q_ hf rfl rfl rfl (e_lenL hf (x := a1) rfl Try.underlying40) fun a hf => ?_
  refine q_ hf rfl rfl rfl (e_move hf rfl) fun a hf => ?_
  have hl10 := slice_len (hM.dat (k := 0) rfl)
  refine q_ hf rfl rfl rfl (e_lenL hf (x := b5) rfl Try.underlying40) fun a hf => ?_
  refine q_ hf rfl rfl rfl (e_ne hf (x := (a1.length : Int)) (y := (b5.length : Int)) rfl rfl) fun a hf => ?_
  refine pl_nil ?_
  refine then_n ?_
  rcases cond_some h with ⟨hc11, h⟩ | ⟨hc11, h⟩
  · refine cond_t hf rfl hc11 ?_
    refine wp_seq ?_
    refine region_pl ?_
    refine q_ hf rfl rfl rfl (e_assign hf rfl) fun a hf => ?_
    refine pl_nil ?_
    refine then_n ?_
    refine wp_ret ?_
    refine then_r ?_
    obtain rfl := some_inj h
    exact leave1 hf rfl rfl ⟨rfl, hM.fin⟩
  · refine cond_f hf rfl hc11 ?_
    refine wp_skip ?_
    refine then_n ?_
    obtain ⟨x12, h13, h⟩ := bind_some h
    refine seq_join (fun a w => (.inl ()) = x12 ∧ Has 26 a [] ∧ Mem C w [] [.dat (sliceRep strRep) b5 [vL A6 b5 c7], .dat (sliceRep strRep) a1 [vL A2 a1 c3]]) ?_ ?_
    · refine wp_seq ?_
      refine region_pl ?_
      refine q_ hf rfl rfl rfl (e_assign hf rfl) fun a hf => ?_
      refine pl_nil ?_
      refine then_n ?_
      refine wp_block ?_
      obtain ⟨x17, h18, h13⟩ := bind_some h13
      refine wp_loopM h18 (fun s a w => ∃ (n14 : Int), n14 = s ∧ Has 26 a [(0, vL A2 (a1) c3), (1, vL A6 (b5) c7), (5, vI (n14))] ∧ Mem C w [] [.dat (sliceRep strRep) b5 [vL A6 b5 c7], .dat (sliceRep strRep) a1 [vL A2 a1 c3]] ∧ R64 n14) ?_ ?_
      · exact ⟨0, rfl, hf.keep ⟨rfl, rfl, rfl, trivial⟩, hM.pick [0, 1] rfl, (R64_lit rfl)⟩
      · rintro s o19 a w16 ⟨n14, rfl, hf, hM, hv15⟩ h20 hd21
        replace h20 : m_laws_eqStringS_l1 a1 b5 n14 = some o19 := h20
        unfold m_laws_eqStringS_l1 at h20
        refine wp_seq ?_
        refine wp_seq ?_
        refine region_pl ?_
        refine q_ hf rfl rfl rfl (e_move hf rfl) fun a hf => ?_
        refine q_ hf rfl rfl rfl (e_move hf rfl) fun a hf => ?_
        have hl22 := slice_len (hM.dat (k := 1) rfl)
        refine q_ hf rfl rfl rfl (e_lenL hf (x := a1) rfl Try.underlying40) fun a hf => ?_
        refine q_ hf rfl rfl rfl (e_lt hf (x := n14) (y := (a1.length : Int)) rfl rfl) fun a hf => ?_
        refine pl_nil ?_
        refine then_n ?_
        rcases cond_some h20 with ⟨hc23, h20⟩ | ⟨hc23, h20⟩
        · refine cond_t hf rfl hc23 ?_
          refine wp_skip ?_
          refine then_n ?_
          refine wp_seq ?_
          refine wp_block ?_
          refine wp_seq ?_
          obtain ⟨w24, hw⟩ : ∃ x, x = w16.drew := ⟨_, rfl⟩
          refine region_pi (.q 0 (.q 1 (.q 2 (.q 3 (.q 4 (.q 5 (.q 6 (.q 7 (.q 8 (.nil)))))))))) (Ext w24) rfl (by kernel_rfl) ?_
          have hM := hM.drew
          rw [← hw] at hM ⊢
          clear hw
          refine pi_q hf rfl rfl rfl rfl (Ext.refl _) (e_move hf rfl) fun a hf => ?_
          refine pi_q hf rfl rfl rfl rfl (Ext.refl _) (e_move hf rfl) fun a hf => ?_
          obtain ⟨e25, hz26, h20⟩ := bind_some h20
          obtain ⟨b30, o31, _, hA32, h27, h28, hr29, hM⟩ := hM.elem (hM.dat (k := 1) rfl) (n := 1) rfl hz26
          obtain ⟨rfl, hv33⟩ := hr29
          refine pi_q hf rfl rfl rfl rfl (Ext.refl _) (e_indexAddr (A := A2) (b := b30) (o := o31) (xs := a1) (i := n14) hf hA32 rfl rfl Try.underlying40 Try.sizeOf9 h27 h28) fun a hf => ?_
          refine pi_q hf rfl rfl rfl rfl (Ext.refl _) (e_load1 hf rfl Try.isAgg9 (hM.litCell (k := 0) (j := 0) rfl rfl rfl)) fun a hf => ?_
          refine pi_q hf rfl rfl rfl rfl (Ext.refl _) (e_move hf rfl) fun a hf => ?_
          refine pi_q hf rfl rfl rfl rfl (Ext.refl _) (e_move hf rfl) fun a hf => ?_
          obtain ⟨e34, hz35, h20⟩ := bind_some h20
          obtain ⟨b39, o40, _, hA41, h36, h37, hr38, hM⟩ := hM.elem (hM.dat (k := 1) rfl) (n := 1) rfl hz35
          obtain ⟨rfl, hv42⟩ := hr38
          refine pi_q hf rfl rfl rfl rfl (Ext.refl _) (e_indexAddr (A := A6) (b := b39) (o := o40) (xs := b5) (i := n14) hf hA41 rfl rfl Try.underlying40 Try.sizeOf9 h36 h37) fun a hf => ?_
          refine pi_q hf rfl rfl rfl rfl (Ext.refl _) (e_load1 hf rfl Try.isAgg9 (hM.litCell (k := 0) (j := 0) rfl rfl rfl)) fun a hf => ?_
          refine pi_q hf rfl rfl rfl rfl (Ext.refl _) (e_neS hf (x := e25) (y := e34) rfl rfl) fun a hf => ?_
          refine pi_nil ?_
          refine then_n ?_
          rcases cond_some h20 with ⟨hc43, h20⟩ | ⟨hc43, h20⟩
          · refine cond_t hf rfl hc43 ?_
            refine wp_seq ?_
            refine region_pl ?_
            refine q_ hf rfl rfl rfl (e_assign hf rfl) fun a hf => ?_
            refine pl_nil ?_
            refine then_n ?_
            refine wp_ret ?_
            refine blk_r ?_
            refine then_r ?_
            obtain rfl := some_inj h20
            obtain rfl := hd21 _ rfl
            try dsimp only at h13
            refine then_r ?_
            refine blk_r ?_
            obtain rfl := some_inj h13
            try dsimp only at h
            refine then_r ?_
            obtain rfl := some_inj h
            exact leave1 hf rfl rfl ⟨rfl, hM.fin⟩
          · refine cond_f hf rfl hc43 ?_
            refine wp_skip ?_
            refine blk_n ?_
            refine then_n ?_
            refine region_pl ?_
            refine q_ hf rfl rfl rfl (e_move hf rfl) fun a hf => ?_
            obtain ⟨z44, hz45, h20⟩ := bind_some h20
            refine q_ hf rfl rfl rfl (e_add hf rfl rfl hz45) fun a hf => ?_
            refine q_ hf rfl rfl rfl (e_assign hf rfl) fun a hf => ?_
            refine pl_nil ?_
            obtain rfl := some_inj h20
            refine then_n ⟨_, rfl, ?_⟩
            exact ⟨z44, rfl, hf.keep ⟨rfl, rfl, rfl, trivial⟩, hM.pick [2, 3] rfl, (chk_R hz45)⟩
        · refine cond_f hf rfl hc23 ?_
          refine wp_exit ?_
          refine then_x ?_
          obtain rfl := some_inj h20
          obtain rfl := hd21 _ rfl
          try dsimp only at h13
          refine then_x ?_
          refine exit_hit ?_
          obtain rfl := some_inj h13
          refine then_n ?_
          exact ⟨rfl, hf.keep trivial, hM.pick [0, 1] rfl⟩
    · rintro a w52 ⟨rfl, hf, hM⟩
      try dsimp only at h
      refine wp_seq ?_
      refine region_pl ?_
      refine q_ hf rfl rfl rfl (e_assign hf rfl) fun a hf => ?_
      refine pl_nil ?_
      refine then_n ?_
      refine wp_ret ?_
      obtain rfl := some_inj h
      exact leave1 hf rfl rfl ⟨rfl, hM.fin⟩

set_option maxRecDepth 100000 in
set_option maxHeartbeats 4000000 in
theorem r_laws_eqLexicon (C : Cx) (a1 : Lexicon) (A2 : Option Addr) (c3 : Nat) (hp4 : (sliceRep strRep).R C.w0 C.S0 a1.Words [vL A2 a1.Words c3]) (b5 : Lexicon) (A6 : Option Addr) (c7 : Nat) (hp8 : (sliceRep strRep).R C.w0 C.S0 b5.Words [vL A6 b5.Words c7]) (r : Bool) (h : m_laws_eqLexicon a1 b5 = some r) :
    Calls Try.prog 28 #[.agg #[vL A2 (a1.Words) c3], .agg #[vL A6 (b5.Words) c7]] C.w0 fun e w => e = .returned (.bool (r)) ∧ Mem C w [] [] := by
  have hM := Mem.begin C [.dat (sliceRep strRep) b5.Words [vL A6 b5.Words c7], .dat (sliceRep strRep) a1.Words [vL A2 a1.Words c3]] ⟨hp8, hp4, trivial⟩
  refine enter Try.func28 rfl Try.ntmps28 rfl fun a hf => ?_
  unfold m_laws_eqLexicon at h
  refine wp_seq ?_
  refine region_pl ?_
  refine pl_l hf rfl rfl rfl (w_box hf hM (cs := [vL A2 (a1.Words) c3]) rfl rfl fun b9 w10 hx11 hM a hf => ?_)
  refine pl_l hf rfl rfl rfl (w_box hf hM (cs := [vL A6 (b5.Words) c7]) rfl rfl fun b13 w14 hx15 hM a hf => ?_)
  refine q_ hf rfl rfl rfl (e_assign hf rfl) fun a hf => ?_
  refine pl_nil ?_
  refine then_n ?_
  refine wp_seq ?_
  refine wp_seq ?_
  refine region_pl ?_
  refine q_ hf rfl rfl rfl (e_field hf rfl Try.underlying45 rfl Try.sizeOf40 (o' := 0) rfl) fun a hf => ?_
  refine q_ hf rfl rfl rfl (e_load1 hf rfl Try.isAgg40 (hM.boxCell (k := 1) rfl rfl)) fun a hf => ?_
  refine q_ hf rfl rfl rfl (e_field hf rfl Try.underlying45 rfl Try.sizeOf40 (o' := 0) rfl) fun a hf => ?_
  refine q_ hf rfl rfl rfl (e_load1 hf rfl Try.isAgg40 (hM.boxCell (k := 0) rfl rfl)) fun a hf => ?_
  obtain ⟨y17, hz18, h⟩ := bind_some h
  refine pl_l hf rfl rfl rfl (w_call hf Try.call31 rfl (r_laws_eqStringS ⟨_, Sh C _ _, none_, hM.sh_lt, none_not, C.G, hM.g_lt, g_none, hM.tabs⟩ a1.Words _ _ (hM.dat (k := 1) rfl) b5.Words _ _ (hM.dat (k := 0) rfl) _ hz18) ?_)
  rintro _ w19 ⟨rfl, hM2⟩
  obtain ⟨hM, hx20, hup21⟩ := hM.back hM2
  dsimp only [List.cons_append, List.nil_append] at hM hup21
  clear hM2
  refine ⟨_, rfl, fun a hf => ?_⟩
  refine q_ hf rfl rfl rfl (e_not hf rfl) fun a hf => ?_
  refine pl_nil ?_
  refine then_n ?_
  rcases cond_some h with ⟨hc22, h⟩ | ⟨hc22, h⟩
  · refine cond_t hf rfl hc22 ?_
    refine wp_seq ?_
    refine region_pl ?_
    refine q_ hf rfl rfl rfl (e_assign hf rfl) fun a hf => ?_
    refine pl_nil ?_
    refine then_n ?_
    refine wp_ret ?_
    refine then_r ?_
    obtain rfl := some_inj h
    have hM := hM.outs (own' := []) 0 rfl
    exact leave1 hf rfl rfl ⟨rfl, hM.fin⟩
  · refine cond_f hf rfl hc22 ?_
    refine wp_skip ?_
    refine then_n ?_
    refine wp_seq ?_
    refine region_pl ?_
    refine q_ hf rfl rfl rfl (e_assign hf rfl) fun a hf => ?_
    refine pl_nil ?_
    refine then_n ?_
    refine wp_ret ?_
    obtain rfl := some_inj h
    have hM := hM.outs (own' := []) 0 rfl
    exact leave1 hf rfl rfl ⟨rfl, hM.fin⟩

set_option maxRecDepth 100000 in
set_option maxHeartbeats 4000000 in
theorem r_laws_markText (C : Cx) (k1 : Int) (hp2 : R64 k1) (r : Str) (h : m_laws_markText k1 = some r) :
    Calls Try.prog 71 #[vI (k1)] C.w0 fun e w => e = .returned (vS (r)) ∧ Mem C w [] [] ∧ r.length ≤ maxLen := by
  have hM := Mem.begin C [] trivial
  refine enter Try.func71 rfl Try.ntmps71 rfl fun a hf => ?_
  unfold m_laws_markText at h
  refine wp_seq ?_
  refine region_pl ?_
  refine q_ hf rfl rfl rfl (e_assign hf rfl) fun a hf => ?_
  refine pl_nil ?_
  refine then_n ?_
  refine wp_seq ?_
  refine wp_seq ?_
  refine region_pl ?_
  refine q_ hf rfl rfl rfl (e_move hf rfl) fun a hf => ?_
  refine q_ hf rfl rfl rfl (e_le hf (x := k1) (y := 0) rfl rfl) fun a hf => ?_
  refine pl_nil ?_
  refine then_n ?_
  rcases cond_some h with ⟨hc3, h⟩ | ⟨hc3, h⟩
  · refine cond_t hf rfl hc3 ?_
    refine wp_seq ?_
    refine region_pl ?_
    refine q_ hf rfl rfl rfl (e_assign hf rfl) fun a hf => ?_
    refine pl_nil ?_
    refine then_n ?_
    refine wp_ret ?_
    refine then_r ?_
    obtain rfl := some_inj h
    exact leave1 hf rfl rfl ⟨rfl, hM.fin, (lit_len rfl)⟩
  · refine cond_f hf rfl hc3 ?_
    refine wp_skip ?_
    refine then_n ?_
    refine wp_seq ?_
    refine region_pl ?_
    refine q_ hf rfl rfl rfl (e_assign hf rfl) fun a hf => ?_
    refine pl_nil ?_
    refine then_n ?_
    obtain ⟨x6, h7, h⟩ := bind_some h
    refine seq_join (fun a w => ∃ (s4 : Str), s4 = x6 ∧ Has 20 a [(3, vS (s4))] ∧ Mem C w [] [] ∧ s4.length ≤ maxLen) ?_ ?_
    · refine wp_block ?_
      obtain ⟨x15, h16, h7⟩ := bind_some h7
      refine wp_loopM h16 (fun s a w => ∃ (k8 : Int) (s10 : Str), (k8, s10) = s ∧ Has 20 a [(0, vI (k8)), (3, vS (s10))] ∧ Mem C w [] [] ∧ R64 k8 ∧ s10.length ≤ maxLen) ?_ ?_
      · exact ⟨k1, ([] : Str), rfl, hf.keep ⟨rfl, rfl, trivial⟩, hM.pick [] rfl, hp2, (lit_len rfl)⟩
      · rintro s o17 a w12 ⟨k8, s10, rfl, hf, hM, hv9, hv11⟩ h18 hd19
        replace h18 : m_laws_markText_l1 k8 s10 = some o17 := h18
        unfold m_laws_markText_l1 at h18
        refine wp_seq ?_
        refine wp_seq ?_
        refine region_pl ?_
        refine q_ hf rfl rfl rfl (e_move hf rfl) fun a hf => ?_
        refine q_ hf rfl rfl rfl (e_gt hf (x := k8) (y := 0) rfl rfl) fun a hf => ?_
        refine pl_nil ?_
        refine then_n ?_
        rcases cond_some h18 with ⟨hc20, h18⟩ | ⟨hc20, h18⟩
        · refine cond_t hf rfl hc20 ?_
          refine wp_skip ?_
          refine then_n ?_
          refine wp_block ?_
          refine wp_seq ?_
          refine region_pl ?_
          refine q_ hf rfl rfl rfl (e_move hf rfl) fun a hf => ?_
          obtain ⟨z21, hz22, h18⟩ := bind_some h18
          refine q_ hf rfl rfl rfl (e_rem hf rfl rfl hz22) fun a hf => ?_
          obtain ⟨z23, hz24, h18⟩ := bind_some h18
          refine q_ hf rfl rfl rfl (e_add hf rfl rfl hz24) fun a hf => ?_
          refine q_ hf rfl rfl rfl (e_convIB hf rfl Try.underlying3 Try.underlying5) fun a hf => ?_
          refine pl_l hf rfl rfl rfl (w_slice hf hM (K := byteRep) (xs := ([UInt8.ofNat (z23 % 256).toNat] : Str)) (os := [.tmp 11]) Try.underlying63 ei_5 rfl rfl rfl rfl rfl ⟨⟨[vB (UInt8.ofNat (z23 % 256).toNat)], rfl, rfl⟩, trivial⟩ rfl fun b25 w26 hx27 hM a hf => ?_)
          have hl28 := row_len (hM.ownAt (k := 0) rfl)
          refine q_ hf rfl rfl rfl (e_bytesStr hf (xs := ([UInt8.ofNat (z23 % 256).toNat] : Str)) rfl Try.underlying63 Try.underlying5 Try.underlying9 (hM.lendRow (k := 0) rfl)) fun a hf => ?_
          refine q_ hf rfl rfl rfl (e_move hf rfl) fun a hf => ?_
          obtain ⟨s29, hz30, h18⟩ := bind_some h18
          refine q_ hf rfl rfl rfl (e_cat hf (x := ([UInt8.ofNat (z23 % 256).toNat] : Str)) (y := s10) rfl rfl hz30) fun a hf => ?_
          refine q_ hf rfl rfl rfl (e_assign hf rfl) fun a hf => ?_
          refine pl_nil ?_
          refine then_n ?_
          refine region_pl ?_
          refine q_ hf rfl rfl rfl (e_move hf rfl) fun a hf => ?_
          obtain ⟨z31, hz32, h18⟩ := bind_some h18
          refine q_ hf rfl rfl rfl (e_quo hf rfl rfl hz32) fun a hf => ?_
          refine q_ hf rfl rfl rfl (e_assign hf rfl) fun a hf => ?_
          refine pl_nil ?_
          refine blk_n ?_
          obtain rfl := some_inj h18
          refine then_n ⟨_, rfl, ?_⟩
          exact ⟨z31, s29, rfl, hf.keep ⟨rfl, rfl, trivial⟩, (hM.drop (.cons _ .slnil)).pick [] rfl, (quoI_R hz32), (cat_len hz30)⟩
        · refine cond_f hf rfl hc20 ?_
          refine wp_exit ?_
          refine then_x ?_
          obtain rfl := some_inj h18
          obtain rfl := hd19 _ rfl
          try dsimp only at h7
          refine then_x ?_
          refine exit_hit ?_
          obtain rfl := some_inj h7
          refine then_n ?_
          exact ⟨s10, rfl, hf.keep ⟨rfl, trivial⟩, hM.pick [] rfl, hv11⟩
    · rintro a w38 ⟨s4, rfl, hf, hM, hv5⟩
      try dsimp only at h
      refine wp_seq ?_
      refine region_pl ?_
      refine q_ hf rfl rfl rfl (e_move hf rfl) fun a hf => ?_
      obtain ⟨s39, hz40, h⟩ := bind_some h
      refine q_ hf rfl rfl rfl (e_cat hf (x := ([109] : Str)) (y := s4) rfl rfl hz40) fun a hf => ?_
      refine q_ hf rfl rfl rfl (e_assign hf rfl) fun a hf => ?_
      refine pl_nil ?_
      refine then_n ?_
      refine wp_ret ?_
      obtain rfl := some_inj h
      exact leave1 hf rfl rfl ⟨rfl, hM.fin, (cat_len hz40)⟩

set_option maxRecDepth 100000 in
set_option maxHeartbeats 4000000 in
theorem r_laws_markStringS (C : Cx) (a1 : (List Str)) (A2 : Option Addr) (c3 : Nat) (k4 : Int) (hp5 : R64 k4) (hO : Mem C C.w0 [.row strRep A2 c3 9 a1 true] []) (hd : ∀ b, C.S0 b → ¬ ownB [.row strRep A2 c3 9 a1 true] b) (r : (Int × (List Str))) (h : m_laws_markStringS a1 k4 = some r) :
    Calls Try.prog 33 #[vL A2 (a1) c3, vI (k4)] C.w0 fun e w => e = .returned (vI (r.1)) ∧ Mem C w [.row strRep A2 c3 9 r.2 true] [] ∧ r.2.length = a1.length ∧ R64 r.1 := by
  have hM := hO
  refine enter Try.func33 rfl Try.ntmps33 rfl fun a hf => ?_
  unfold m_laws_markStringS at h
  refine wp_seq ?_
  refine region_pl ?_
  refine q_ hf rfl rfl rfl (e_assign hf rfl) fun a hf => ?_
  refine pl_nil ?_
  refine then_n ?_
  obtain ⟨x10, h11, h⟩ := bind_some h
  refine seq_join (fun a w => ∃ (xs6 : (List Str)) (k8 : Int), (xs6, k8) = x10 ∧ Has 20 a [(1, vI (k8))] ∧ Mem C w [.row strRep A2 c3 9 xs6 true] [] ∧ xs6.length = a1.length ∧ R64 k8) ?_ ?_
  · refine wp_seq ?_
    refine region_pl ?_
    refine q_ hf rfl rfl rfl (e_assign hf rfl) fun a hf => ?_
    refine pl_nil ?_
    refine then_n ?_
    refine wp_block ?_
    obtain ⟨x23, h24, h11⟩ := bind_some h11
    refine wp_loopM h24 (fun s a w => ∃ (xs12 : (List Str)) (k14 : Int) (n16 : Int), (xs12, k14, n16) = s ∧ Has 20 a [(0, vL A2 (xs12) c3), (1, vI (k14)), (5, vI (n16))] ∧ Mem C w [.row strRep A2 c3 9 xs12 true] [] ∧ xs12.length = a1.length ∧ R64 k14 ∧ R64 n16) ?_ ?_
    · exact ⟨a1, k4, 0, rfl, hf.keep ⟨rfl, rfl, rfl, trivial⟩, hM.pick [] rfl, rfl, hp5, (R64_lit rfl)⟩
    · rintro s o25 a w18 ⟨xs12, k14, n16, rfl, hf, hM, hl13, hv15, hv17⟩ h26 hd27
      replace h26 : m_laws_markStringS_l1 xs12 k14 n16 = some o25 := h26
      unfold m_laws_markStringS_l1 at h26
      refine wp_seq ?_
      refine wp_seq ?_
      refine region_pl ?_
      refine q_ hf rfl rfl rfl (e_move hf rfl) fun a hf => ?_
      refine q_ hf rfl rfl rfl (e_move hf rfl) fun a hf => ?_
      have hl28 := row_len (hM.ownAt (k := 0) rfl)
      refine q_ hf rfl rfl rfl (e_lenL hf (x := xs12) rfl Try.underlying40) fun a hf => ?_
      refine q_ hf rfl rfl rfl (e_lt hf (x := n16) (y := (xs12.length : Int)) rfl rfl) fun a hf => ?_
      refine pl_nil ?_
      refine then_n ?_
      rcases cond_some h26 with ⟨hc29, h26⟩ | ⟨hc29, h26⟩
      · refine cond_t hf rfl hc29 ?_
        refine wp_skip ?_
        refine then_n ?_
        refine wp_seq ?_
        refine wp_block ?_
        refine wp_seq ?_
        refine region_pl ?_
        refine q_ hf rfl rfl rfl (e_move hf rfl) fun a hf => ?_
        refine q_ hf rfl rfl rfl (e_move hf rfl) fun a hf => ?_
        refine q_ hf rfl rfl rfl (e_move hf rfl) fun a hf => ?_
        obtain ⟨y30, hz31, h26⟩ := bind_some h26
        refine pl_l hf rfl rfl rfl (w_call hf Try.call71 rfl (r_laws_markText ⟨_, Sh C _ _, none_, hM.sh_lt, none_not, C.G, hM.g_lt, g_none, hM.tabs⟩ k14 hv15 _ hz31) ?_)
        rintro _ w33 ⟨rfl, hM2, hv32⟩
        obtain ⟨hM, hx34, hup35⟩ := hM.back hM2
        dsimp only [List.cons_append, List.nil_append] at hM hup35
        clear hM2
        refine ⟨_, rfl, fun a hf => ?_⟩
        obtain ⟨e36, hz37, h26⟩ := bind_some h26
        obtain ⟨b42, _, hA43, h38, h39, hr40, hcell41⟩ := hM.rowElemN (k := 0) rfl (n := 1) rfl hz37
        obtain ⟨rfl, hv44⟩ := hr40
        refine q_ hf rfl rfl rfl (e_indexAddr (A := A2) (b := b42) (o := 0) (xs := xs12) (i := n16) hf hA43 rfl rfl Try.underlying40 Try.sizeOf9 h38 h39) fun a hf => ?_
        obtain ⟨xs46, hz47, h26⟩ := bind_some h26
        refine pl_0 hf rfl rfl (w_storeElem hf hM (x := y30) (row := [vS (y30)]) (i := n16) rfl rfl rfl hA43 (k := 0) rfl rfl Try.sizeOf9 ⟨rfl, hv32⟩ hz47 fun w45 hM => ?_)
        dsimp only [List.set] at hM
        have hf := hf.alter (d := 0) (v := vL A2 (xs46) c3) rfl (vL_len (setL_len hz47))
        have hf := hf.alter (d := 7) (v := vL A2 (xs46) c3) rfl (vL_len (setL_len hz47))
        have hf := hf.alter (d := 12) (v := vL A2 (xs46) c3) rfl (vL_len (setL_len hz47))
        refine pl_nil ?_
        refine then_n ?_
        refine region_pl ?_
        refine q_ hf rfl rfl rfl (e_move hf rfl) fun a hf => ?_
        obtain ⟨z48, hz49, h26⟩ := bind_some h26
        refine q_ hf rfl rfl rfl (e_add hf rfl rfl hz49) fun a hf => ?_
        refine q_ hf rfl rfl rfl (e_assign hf rfl) fun a hf => ?_
        refine pl_nil ?_
        refine blk_n ?_
        refine then_n ?_
        refine region_pl ?_
        refine q_ hf rfl rfl rfl (e_move hf rfl) fun a hf => ?_
        obtain ⟨z50, hz51, h26⟩ := bind_some h26
        refine q_ hf rfl rfl rfl (e_add hf rfl rfl hz51) fun a hf => ?_
        refine q_ hf rfl rfl rfl (e_assign hf rfl) fun a hf => ?_
        refine pl_nil ?_
        obtain rfl := some_inj h26
        refine then_n ⟨_, rfl, ?_⟩
        exact ⟨xs46, z48, z50, rfl, hf.keep ⟨rfl, rfl, rfl, trivial⟩, hM.pick [] rfl, ((setL_len hz47).trans hl13), (chk_R hz49), (chk_R hz51)⟩
      · refine cond_f hf rfl hc29 ?_
        refine wp_exit ?_
        refine then_x ?_
        obtain rfl := some_inj h26
        obtain rfl := hd27 _ rfl
        try dsimp only at h11
        refine then_x ?_
        refine exit_hit ?_
        obtain rfl := some_inj h11
        refine then_n ?_
        exact ⟨xs12, k14, rfl, hf.keep ⟨rfl, trivial⟩, hM.pick [] rfl, hl13, hv15⟩
  · rintro a w57 ⟨xs6, k8, rfl, hf, hM, hl7, hv9⟩
    try dsimp only at h
    refine wp_seq ?_
    refine region_pl ?_
    refine q_ hf rfl rfl rfl (e_move hf rfl) fun a hf => ?_
    refine q_ hf rfl rfl rfl (e_assign hf rfl) fun a hf => ?_
    refine pl_nil ?_
    refine then_n ?_
    refine wp_ret ?_
    obtain rfl := some_inj h
    exact leave1 hf rfl rfl ⟨rfl, hM.fin, hl7, hv9⟩

set_option maxRecDepth 100000 in
set_option maxHeartbeats 4000000 in
theorem r_laws_markLexicon (C : Cx) (a1 : Lexicon) (A2 : Option Addr) (c3 : Nat) (k4 : Int) (hp5 : R64 k4) (hO : Mem C C.w0 [.row strRep A2 c3 9 a1.Words true] []) (hd : ∀ b, C.S0 b → ¬ ownB [.row strRep A2 c3 9 a1.Words true] b) (r : (Int × (List Str))) (h : m_laws_markLexicon a1 k4 = some r) :
    Calls Try.prog 32 #[.agg #[vL A2 (a1.Words) c3], vI (k4)] C.w0 fun e w => e = .returned (vI (r.1)) ∧ Mem C w [.row strRep A2 c3 9 r.2 true] [] ∧ r.2.length = a1.Words.length ∧ R64 r.1 := by
  have hM := hO
  refine enter Try.func32 rfl Try.ntmps32 rfl fun a hf => ?_
  unfold m_laws_markLexicon at h
  refine wp_seq ?_
  refine region_pl ?_
  refine pl_l hf rfl rfl rfl (w_box hf hM (cs := [vL A2 (a1.Words) c3]) rfl rfl fun b6 w7 hx8 hM a hf => ?_)
  refine q_ hf rfl rfl rfl (e_assign hf rfl) fun a hf => ?_
  refine pl_nil ?_
  refine then_n ?_
  refine wp_seq ?_
  refine region_pl ?_
  refine q_ hf rfl rfl rfl (e_field hf rfl Try.underlying45 rfl Try.sizeOf40 (o' := 0) rfl) fun a hf => ?_
  refine q_ hf rfl rfl rfl (e_load1 hf rfl Try.isAgg40 (hM.boxCell (k := 0) rfl rfl)) fun a hf => ?_
  refine q_ hf rfl rfl rfl (e_move hf rfl) fun a hf => ?_
  have hM := hM.front (k := 1) rfl
  dsimp only [List.eraseIdx] at hM
  have hM : Mem C _ ([.row strRep A2 c3 9 a1.Words true] ++ [.box b6 [vL A2 (a1.Words) c3] 45]) _ := hM
  obtain ⟨y10, hz11, h⟩ := bind_some h
  refine pl_l hf rfl rfl rfl (w_call hf Try.call33 rfl (r_laws_markStringS ⟨_, Sh C _ _, ownB _, hM.sh_lt, sub_dis, C.G, hM.g_lt, hM.g_own, hM.tabs⟩ a1.Words _ _ k4 hp5 hM.sub sub_dis _ hz11) ?_)
  rintro _ w14 ⟨rfl, hM2, hl12, hv13⟩
  obtain ⟨hM, hup16⟩ := hM.backG hM2
  dsimp only [List.cons_append, List.nil_append] at hM hup16
  clear hM2
  refine ⟨_, rfl, fun a hf => ?_⟩
  have hf := hf.alter (d := 0) (v := .agg #[vL A2 (y10.2) c3]) rfl (by rw [vL_len (A := A2) (c := c3) hl12])
  have hf := hf.alter (d := 6) (v := vL A2 (y10.2) c3) rfl (vL_len hl12)
  rw [vL_len (A := A2) (c := c3) hl12] at hM
  refine q_ hf rfl rfl rfl (e_assign hf rfl) fun a hf => ?_
  refine pl_nil ?_
  refine then_n ?_
  refine wp_seq ?_
  refine region_pl ?_
  refine q_ hf rfl rfl rfl (e_move hf rfl) fun a hf => ?_
  refine q_ hf rfl rfl rfl (e_assign hf rfl) fun a hf => ?_
  refine pl_nil ?_
  refine then_n ?_
  refine wp_ret ?_
  obtain rfl := some_inj h
  have hM := hM.outs (own' := [.row strRep A2 c3 9 y10.2 true]) 1 rfl
  exact leave1 hf rfl rfl ⟨rfl, hM.fin, hl12, hv13⟩

set_option maxRecDepth 100000 in
set_option maxHeartbeats 4000000 in
theorem r_laws_markInt64S (C : Cx) (a1 : (List Int)) (A2 : Option Addr) (c3 : Nat) (k4 : Int) (hp5 : R64 k4) (hO : Mem C C.w0 [.row intRep A2 c3 2 a1 true] []) (hd : ∀ b, C.S0 b → ¬ ownB [.row intRep A2 c3 2 a1 true] b) (r : (Int × (List Int))) (h : m_laws_markInt64S a1 k4 = some r) :
    Calls Try.prog 42 #[vL A2 (a1) c3, vI (k4)] C.w0 fun e w => e = .returned (vI (r.1)) ∧ Mem C w [.row intRep A2 c3 2 r.2 true] [] ∧ r.2.length = a1.length ∧ R64 r.1 := by
  have hM := hO
  refine enter Try.func42 rfl Try.ntmps42 rfl fun a hf => ?_
  unfold m_laws_markInt64S at h
  refine wp_seq ?_
  refine region_pl ?_
  refine q_ hf rfl rfl rfl (e_assign hf rfl) fun a hf => ?_
  refine pl_nil ?_
  refine then_n ?_
  obtain ⟨x10, h11, h⟩ := bind_some h
  refine seq_join (fun a w => ∃ (xs6 : (List Int)) (k8 : Int), (xs6, k8) = x10 ∧ Has 19 a [(1, vI (k8))] ∧ Mem C w [.row intRep A2 c3 2 xs6 true] [] ∧ xs6.length = a1.length ∧ R64 k8) ?_ ?_
  · refine wp_seq ?_
    refine region_pl ?_
    refine q_ hf rfl rfl rfl (e_assign hf rfl) fun a hf => ?_
    refine pl_nil ?_
    refine then_n ?_
    refine wp_block ?_
    obtain ⟨x23, h24, h11⟩ := bind_some h11
    refine wp_loopM h24 (fun s a w => ∃ (xs12 : (List Int)) (k14 : Int) (n16 : Int), (xs12, k14, n16) = s ∧ Has 19 a [(0, vL A2 (xs12) c3), (1, vI (k14)), (5, vI (n16))] ∧ Mem C w [.row intRep A2 c3 2 xs12 true] [] ∧ xs12.length = a1.length ∧ R64 k14 ∧ R64 n16) ?_ ?_
    · exact ⟨a1, k4, 0, rfl, hf.keep ⟨rfl, rfl, rfl, trivial⟩, hM.pick [] rfl, rfl, hp5, (R64_lit rfl)⟩
    · rintro s o25 a w18 ⟨xs12, k14, n16, rfl, hf, hM, hl13, hv15, hv17⟩ h26 hd27
      replace h26 : m_laws_markInt64S_l1 xs12 k14 n16 = some o25 := h26
      unfold m_laws_markInt64S_l1 at h26
      refine wp_seq ?_
      refine wp_seq ?_
      refine region_pl ?_
      refine q_ hf rfl rfl rfl (e_move hf rfl) fun a hf => ?_
      refine q_ hf rfl rfl rfl (e_move hf rfl) fun a hf => ?_
      have hl28 := row_len (hM.ownAt (k := 0) rfl)
      refine q_ hf rfl rfl rfl (e_lenL hf (x := xs12) rfl Try.underlying58) fun a hf => ?_
      refine q_ hf rfl rfl rfl (e_lt hf (x := n16) (y := (xs12.length : Int)) rfl rfl) fun a hf => ?_
      refine pl_nil ?_
      refine then_n ?_
      rcases cond_some h26 with ⟨hc29, h26⟩ | ⟨hc29, h26⟩
      · refine cond_t hf rfl hc29 ?_
        refine wp_skip ?_
        refine then_n ?_
        refine wp_seq ?_
        refine wp_block ?_
        refine wp_seq ?_
        refine region_pl ?_
        refine q_ hf rfl rfl rfl (e_move hf rfl) fun a hf => ?_
        refine q_ hf rfl rfl rfl (e_move hf rfl) fun a hf => ?_
        refine q_ hf rfl rfl rfl (e_move hf rfl) fun a hf => ?_
        obtain ⟨e30, hz31, h26⟩ := bind_some h26
        obtain ⟨b36, _, hA37, h32, h33, hr34, hcell35⟩ := hM.rowElemN (k := 0) rfl (n := 1) rfl hz31
        obtain ⟨rfl, hv38⟩ := hr34
        refine q_ hf rfl rfl rfl (e_indexAddr (A := A2) (b := b36) (o := 0) (xs := xs12) (i := n16) hf hA37 rfl rfl Try.underlying58 Try.sizeOf2 h32 h33) fun a hf => ?_
        obtain ⟨xs40, hz41, h26⟩ := bind_some h26
        refine pl_0 hf rfl rfl (w_storeElem hf hM (x := k14) (row := [vI (k14)]) (i := n16) rfl rfl rfl hA37 (k := 0) rfl rfl Try.sizeOf2 ⟨rfl, hv15⟩ hz41 fun w39 hM => ?_)
        dsimp only [List.set] at hM
        have hf := hf.alter (d := 0) (v := vL A2 (xs40) c3) rfl (vL_len (setL_len hz41))
        have hf := hf.alter (d := 7) (v := vL A2 (xs40) c3) rfl (vL_len (setL_len hz41))
        have hf := hf.alter (d := 12) (v := vL A2 (xs40) c3) rfl (vL_len (setL_len hz41))
        refine pl_nil ?_
        refine then_n ?_
        refine region_pl ?_
        refine q_ hf rfl rfl rfl (e_move hf rfl) fun a hf => ?_
        obtain ⟨z42, hz43, h26⟩ := bind_some h26
        refine q_ hf rfl rfl rfl (e_add hf rfl rfl hz43) fun a hf => ?_
        refine q_ hf rfl rfl rfl (e_assign hf rfl) fun a hf => ?_
        refine pl_nil ?_
        refine blk_n ?_
        refine then_n ?_
        refine region_pl ?_
        refine q_ hf rfl rfl rfl (e_move hf rfl) fun a hf => ?_
        obtain ⟨z44, hz45, h26⟩ := bind_some h26
        refine q_ hf rfl rfl rfl (e_add hf rfl rfl hz45) fun a hf => ?_
        refine q_ hf rfl rfl rfl (e_assign hf rfl) fun a hf => ?_
        refine pl_nil ?_
        obtain rfl := some_inj h26
        refine then_n ⟨_, rfl, ?_⟩
        exact ⟨xs40, z42, z44, rfl, hf.keep ⟨rfl, rfl, rfl, trivial⟩, hM.pick [] rfl, ((setL_len hz41).trans hl13), (chk_R hz43), (chk_R hz45)⟩
      · refine cond_f hf rfl hc29 ?_
        refine wp_exit ?_
        refine then_x ?_
        obtain rfl := some_inj h26
        obtain rfl := hd27 _ rfl
        try dsimp only at h11
        refine then_x ?_
        refine exit_hit ?_
        obtain rfl := some_inj h11
        refine then_n ?_
        exact ⟨xs12, k14, rfl, hf.keep ⟨rfl, trivial⟩, hM.pick [] rfl, hl13, hv15⟩
  · rintro a w51 ⟨xs6, k8, rfl, hf, hM, hl7, hv9⟩
    try dsimp only at h
    refine wp_seq ?_
    refine region_pl ?_
    refine q_ hf rfl rfl rfl (e_move hf rfl) fun a hf => ?_
    refine q_ hf rfl rfl rfl (e_assign hf rfl) fun a hf => ?_
    refine pl_nil ?_
    refine then_n ?_
    refine wp_ret ?_
    obtain rfl := some_inj h
    exact leave1 hf rfl rfl ⟨rfl, hM.fin, hl7, hv9⟩

set_option maxRecDepth 100000 in
set_option maxHeartbeats 4000000 in
theorem r_laws_heldInt64S (C : Cx) (a1 : (List Int)) (A2 : Option Addr) (c3 : Nat) (hp4 : (sliceRep intRep).R C.w0 C.S0 a1 [vL A2 a1 c3]) (k5 : Int) (hp6 : R64 k5) (r : Int) (h : m_laws_heldInt64S a1 k5 = some r) :
    Calls Try.prog 43 #[vL A2 (a1) c3, vI (k5)] C.w0 fun e w => e = .returned (vI (r)) ∧ Mem C w [] [] ∧ R64 r := by
  have hM := Mem.begin C [.dat (sliceRep intRep) a1 [vL A2 a1 c3]] ⟨hp4, trivial⟩
  refine enter Try.func43 rfl Try.ntmps43 rfl fun a hf => ?_
  unfold m_laws_heldInt64S at h
  refine wp_seq ?_
  refine region_pl ?_
  refine q_ hf rfl rfl rfl (e_assign hf rfl) fun a hf => ?_
  refine pl_nil ?_
  refine then_n ?_
  obtain ⟨x9, h10, h⟩ := bind_some h
  refine seq_join (fun a w => ∃ (k7 : Int), (.inl k7) = x9 ∧ Has 21 a [(1, vI (k7))] ∧ Mem C w [] [.dat (sliceRep intRep) a1 [vL A2 a1 c3]] ∧ R64 k7) ?_ ?_
  · refine wp_seq ?_
    refine region_pl ?_
    refine q_ hf rfl rfl rfl (e_assign hf rfl) fun a hf => ?_
    refine pl_nil ?_
    refine then_n ?_
    refine wp_block ?_
    obtain ⟨x18, h19, h10⟩ := bind_some h10
    refine wp_loopM h19 (fun s a w => ∃ (k11 : Int) (n13 : Int), (k11, n13) = s ∧ Has 21 a [(0, vL A2 (a1) c3), (1, vI (k11)), (5, vI (n13))] ∧ Mem C w [] [.dat (sliceRep intRep) a1 [vL A2 a1 c3]] ∧ R64 k11 ∧ R64 n13) ?_ ?_
    · exact ⟨k5, 0, rfl, hf.keep ⟨rfl, rfl, rfl, trivial⟩, hM.pick [0] rfl, hp6, (R64_lit rfl)⟩
    · rintro s o20 a w15 ⟨k11, n13, rfl, hf, hM, hv12, hv14⟩ h21 hd22
      replace h21 : m_laws_heldInt64S_l1 a1 k11 n13 = some o20 := h21
      unfold m_laws_heldInt64S_l1 at h21
      refine wp_seq ?_
      refine wp_seq ?_
      refine region_pl ?_
      refine q_ hf rfl rfl rfl (e_move hf rfl) fun a hf => ?_
      refine q_ hf rfl rfl rfl (e_move hf rfl) fun a hf => ?_
      have hl23 := slice_len (hM.dat (k := 0) rfl)
      refine q_ hf rfl rfl rfl (e_lenL hf (x := a1) rfl Try.underlying58) fun a hf => ?_
      refine q_ hf rfl rfl rfl (e_lt hf (x := n13) (y := (a1.length : Int)) rfl rfl) fun a hf => ?_
      refine pl_nil ?_
      refine then_n ?_
      rcases cond_some h21 with ⟨hc24, h21⟩ | ⟨hc24, h21⟩
      · refine cond_t hf rfl hc24 ?_
        refine wp_skip ?_
        refine then_n ?_
        refine wp_seq ?_
        refine wp_block ?_
        refine wp_seq ?_
        refine wp_seq ?_
        refine region_pl ?_
        refine q_ hf rfl rfl rfl (e_move hf rfl) fun a hf => ?_
        refine q_ hf rfl rfl rfl (e_move hf rfl) fun a hf => ?_
        obtain ⟨e25, hz26, h21⟩ := bind_some h21
        obtain ⟨b30, o31, _, hA32, h27, h28, hr29, hM⟩ := hM.elem (hM.dat (k := 0) rfl) (n := 1) rfl hz26
        obtain ⟨rfl, hv33⟩ := hr29
        refine q_ hf rfl rfl rfl (e_indexAddr (A := A2) (b := b30) (o := o31) (xs := a1) (i := n13) hf hA32 rfl rfl Try.underlying58 Try.sizeOf2 h27 h28) fun a hf => ?_
        refine q_ hf rfl rfl rfl (e_load1 hf rfl Try.isAgg2 (hM.litCell (k := 0) (j := 0) rfl rfl rfl)) fun a hf => ?_
        refine q_ hf rfl rfl rfl (e_move hf rfl) fun a hf => ?_
        refine q_ hf rfl rfl rfl (e_ne hf (x := e25) (y := k11) rfl rfl) fun a hf => ?_
        refine pl_nil ?_
        refine then_n ?_
        rcases cond_some h21 with ⟨hc34, h21⟩ | ⟨hc34, h21⟩
        · refine cond_t hf rfl hc34 ?_
          refine wp_seq ?_
          refine region_pl ?_
          refine q_ hf rfl rfl rfl (e_assign hf rfl) fun a hf => ?_
          refine pl_nil ?_
          refine then_n ?_
          refine wp_ret ?_
          refine then_r ?_
          refine blk_r ?_
          refine then_r ?_
          obtain rfl := some_inj h21
          obtain rfl := hd22 _ rfl
          try dsimp only at h10
          refine then_r ?_
          refine blk_r ?_
          obtain rfl := some_inj h10
          try dsimp only at h
          refine then_r ?_
          obtain rfl := some_inj h
          exact leave1 hf rfl rfl ⟨rfl, hM.fin, (R64_lit rfl)⟩
        · refine cond_f hf rfl hc34 ?_
          refine wp_skip ?_
          refine then_n ?_
          refine region_pl ?_
          refine q_ hf rfl rfl rfl (e_move hf rfl) fun a hf => ?_
          obtain ⟨z35, hz36, h21⟩ := bind_some h21
          refine q_ hf rfl rfl rfl (e_add hf rfl rfl hz36) fun a hf => ?_
          refine q_ hf rfl rfl rfl (e_assign hf rfl) fun a hf => ?_
          refine pl_nil ?_
          refine blk_n ?_
          refine then_n ?_
          refine region_pl ?_
          refine q_ hf rfl rfl rfl (e_move hf rfl) fun a hf => ?_
          obtain ⟨z37, hz38, h21⟩ := bind_some h21
          refine q_ hf rfl rfl rfl (e_add hf rfl rfl hz38) fun a hf => ?_
          refine q_ hf rfl rfl rfl (e_assign hf rfl) fun a hf => ?_
          refine pl_nil ?_
          obtain rfl := some_inj h21
          refine then_n ⟨_, rfl, ?_⟩
          exact ⟨z35, z37, rfl, hf.keep ⟨rfl, rfl, rfl, trivial⟩, hM.pick [1] rfl, (chk_R hz36), (chk_R hz38)⟩
      · refine cond_f hf rfl hc24 ?_
        refine wp_exit ?_
        refine then_x ?_
        obtain rfl := some_inj h21
        obtain rfl := hd22 _ rfl
        try dsimp only at h10
        refine then_x ?_
        refine exit_hit ?_
        obtain rfl := some_inj h10
        refine then_n ?_
        exact ⟨k11, rfl, hf.keep ⟨rfl, trivial⟩, hM.pick [0] rfl, hv12⟩
  · rintro a w45 ⟨k7, rfl, hf, hM, hv8⟩
    try dsimp only at h
    refine wp_seq ?_
    refine region_pl ?_
    refine q_ hf rfl rfl rfl (e_move hf rfl) fun a hf => ?_
    refine q_ hf rfl rfl rfl (e_assign hf rfl) fun a hf => ?_
    refine pl_nil ?_
    refine then_n ?_
    refine wp_ret ?_
    obtain rfl := some_inj h
    exact leave1 hf rfl rfl ⟨rfl, hM.fin, hv8⟩

set_option maxRecDepth 100000 in
set_option maxHeartbeats 4000000 in
theorem r_laws_FnExactProveNoFill (C : Cx) (aG1 : Grid) (hp2 : R64 aG1.Rows) (hp3 : R64 aG1.Cols) (hp4 : aG1.Cells.length ≤ maxLen) (aL5 : Lexicon) (A6 : Option Addr) (c7 : Nat) (hp8 : (sliceRep strRep).R C.w0 C.S0 aL5.Words [vL A6 aL5.Words c7]) (r : Bool) (h : m_laws_FnExactProveNoFill aG1 aL5 = some r) :
    Calls Try.prog 10 #[.agg #[vI (aG1.Rows), vI (aG1.Cols), vS (aG1.Cells)], .agg #[vL A6 (aL5.Words) c7]] C.w0 fun e w => e = .returned (.bool (r)) ∧ Mem C w [] [] := by
  have hM := Mem.begin C [.dat (sliceRep strRep) aL5.Words [vL A6 aL5.Words c7]] ⟨hp8, trivial⟩
  refine enter Try.func10 rfl Try.ntmps10 rfl fun a hf => ?_
  unfold m_laws_FnExactProveNoFill at h
  refine wp_seq ?_
  refine region_pl ?_
  refine pl_l hf rfl rfl rfl (w_box hf hM (cs := [vI (aG1.Rows), vI (aG1.Cols), vS (aG1.Cells)]) rfl rfl fun b9 w10 hx11 hM a hf => ?_)
  refine pl_l hf rfl rfl rfl (w_box hf hM (cs := [vL A6 (aL5.Words) c7]) rfl rfl fun b13 w14 hx15 hM a hf => ?_)
  refine q_ hf rfl rfl rfl (e_assign hf rfl) fun a hf => ?_
  refine pl_nil ?_
  refine then_n ?_
  refine wp_seq ?_
  refine region_pl ?_
  refine q_ hf rfl rfl rfl (e_assign hf rfl) fun a hf => ?_
  refine pl_nil ?_
  refine then_n ?_
  refine wp_seq ?_
  refine region_pl ?_
  refine q_ hf rfl rfl rfl (e_loadA hf (us := [vI (aG1.Rows), vI (aG1.Cols), vS (aG1.Cells)]) rfl ⟨Try.isAgg23, Try.sizeOf23⟩ rfl (hM.boxSub (k := 1) (us := [vI (aG1.Rows), vI (aG1.Cols), vS (aG1.Cells)]) (o := 0) rfl rfl)) fun a hf => ?_
  refine q_ hf rfl rfl rfl (e_move hf rfl) fun a hf => ?_
  obtain ⟨y17, hz18, h⟩ := bind_some h
  refine pl_l hf rfl rfl rfl (w_call hf Try.call12 rfl (r_laws_szGrid ⟨_, Sh C _ _, none_, hM.sh_lt, none_not, C.G, hM.g_lt, g_none, hM.tabs⟩ aG1 hp2 hp3 hp4 1048576 (R64_lit rfl) _ hz18) ?_)
  rintro _ w20 ⟨rfl, hM2, hv19⟩
  obtain ⟨hM, hx21, hup22⟩ := hM.back hM2
  dsimp only [List.cons_append, List.nil_append] at hM hup22
  clear hM2
  refine ⟨_, rfl, fun a hf => ?_⟩
  refine q_ hf rfl rfl rfl (e_assign hf rfl) fun a hf => ?_
  refine pl_nil ?_
  refine then_n ?_
  refine wp_seq ?_
  refine wp_seq ?_
  refine region_pl ?_
  refine q_ hf rfl rfl rfl (e_move hf rfl) fun a hf => ?_
  refine q_ hf rfl rfl rfl (e_lt hf (x := y17) (y := 0) rfl rfl) fun a hf => ?_
  refine pl_nil ?_
  refine then_n ?_
  rcases cond_some h with ⟨hc23, h⟩ | ⟨hc23, h⟩
  · refine cond_t hf rfl hc23 ?_
    refine wp_seq ?_
    refine region_pl ?_
    refine q_ hf rfl rfl rfl (e_assign hf rfl) fun a hf => ?_
    refine pl_nil ?_
    refine then_n ?_
    refine wp_ret ?_
    refine then_r ?_
    obtain rfl := some_inj h
    have hM := hM.outs (own' := []) 0 rfl
    exact leave1 hf rfl rfl ⟨rfl, hM.fin⟩
  · refine cond_f hf rfl hc23 ?_
    refine wp_skip ?_
    refine then_n ?_
    refine wp_seq ?_
    refine region_pl ?_
    refine q_ hf rfl rfl rfl (e_loadA hf (us := [vL A6 (aL5.Words) c7]) rfl ⟨Try.isAgg42, Try.sizeOf42⟩ rfl (hM.boxSub (k := 0) (us := [vL A6 (aL5.Words) c7]) (o := 0) rfl rfl)) fun a hf => ?_
    refine q_ hf rfl rfl rfl (e_move hf rfl) fun a hf => ?_
    obtain ⟨y24, hz25, h⟩ := bind_some h
    refine pl_l hf rfl rfl rfl (w_call hf Try.call24 rfl (r_laws_szLexicon ⟨_, Sh C _ _, none_, hM.sh_lt, none_not, C.G, hM.g_lt, g_none, hM.tabs⟩ aL5 _ _ (hM.dat (k := 0) rfl) y17 hv19 _ hz25) ?_)
    rintro _ w27 ⟨rfl, hM2, hv26⟩
    obtain ⟨hM, hx28, hup29⟩ := hM.back hM2
    dsimp only [List.cons_append, List.nil_append] at hM hup29
    clear hM2
    refine ⟨_, rfl, fun a hf => ?_⟩
    refine q_ hf rfl rfl rfl (e_assign hf rfl) fun a hf => ?_
    refine pl_nil ?_
    refine then_n ?_
    refine wp_seq ?_
    refine wp_seq ?_
    refine region_pl ?_
    refine q_ hf rfl rfl rfl (e_move hf rfl) fun a hf => ?_
    refine q_ hf rfl rfl rfl (e_lt hf (x := y24) (y := 0) rfl rfl) fun a hf => ?_
    refine pl_nil ?_
    refine then_n ?_
    rcases cond_some h with ⟨hc30, h⟩ | ⟨hc30, h⟩
    · refine cond_t hf rfl hc30 ?_
      refine wp_seq ?_
      refine region_pl ?_
      refine q_ hf rfl rfl rfl (e_assign hf rfl) fun a hf => ?_
      refine pl_nil ?_
      refine then_n ?_
      refine wp_ret ?_
      refine then_r ?_
      obtain rfl := some_inj h
      have hM := hM.outs (own' := []) 0 rfl
      exact leave1 hf rfl rfl ⟨rfl, hM.fin⟩
    · refine cond_f hf rfl hc30 ?_
      refine wp_skip ?_
      refine then_n ?_
      refine wp_seq ?_
      obtain ⟨w31, hw⟩ : ∃ x, x = w27.drew := ⟨_, rfl⟩
      refine region_pi (.q 0 (.q 2 (.l 1 (.l 3 (.l 4 (.q 5 (.q 6 (.q 7 (.q 8 (.q 9 (.nil))))))))))) (Ext w31) rfl (by kernel_rfl) ?_
      have hM := hM.drew
      rw [← hw] at hM ⊢
      clear hw
      refine pi_q hf rfl rfl rfl rfl (Ext.refl _) (e_loadA hf (us := [vI (aG1.Rows), vI (aG1.Cols), vS (aG1.Cells)]) rfl ⟨Try.isAgg23, Try.sizeOf23⟩ rfl (hM.boxSub (k := 1) (us := [vI (aG1.Rows), vI (aG1.Cols), vS (aG1.Cells)]) (o := 0) rfl rfl)) fun a hf => ?_
      refine pi_q hf rfl rfl rfl rfl (Ext.refl _) (e_loadA hf (us := [vL A6 (aL5.Words) c7]) rfl ⟨Try.isAgg42, Try.sizeOf42⟩ rfl (hM.boxSub (k := 0) (us := [vL A6 (aL5.Words) c7]) (o := 0) rfl rfl)) fun a hf => ?_
      refine pi_one ?_
      obtain ⟨y32, hz33, h⟩ := bind_some h
      refine pi_l hf rfl rfl rfl rfl (w_call hf Try.call14 rfl (r_laws_toGrid ⟨_, Sh C _ _, none_, hM.sh_lt, none_not, C.G, hM.g_lt, g_none, hM.tabs⟩ aG1 hp2 hp3 hp4 _ hz33) ?_)
      rintro _ w37 ⟨rfl, hM2, hv34, hv35, hv36⟩
      obtain ⟨hM, hx38, hup39⟩ := hM.back hM2
      dsimp only [List.cons_append, List.nil_append] at hM hup39
      clear hM2
      refine ⟨_, rfl, Ext w37, fun _ h => Ext.trans hx38 h, Ext.refl _, fun a hf => ?_⟩
      refine pi_one ?_
      obtain ⟨y40, hz41, h⟩ := bind_some h
      refine pi_l hf rfl rfl rfl rfl (w_call hf Try.call26 rfl (r_laws_toLexicon ⟨_, Sh C _ _, none_, hM.sh_lt, none_not, C.G, hM.g_lt, g_none, hM.tabs⟩ aL5 _ _ (hM.dat (k := 0) rfl) _ hz41) ?_)
      rintro _ w44 ⟨A42, c43, rfl, hM2⟩
      obtain ⟨hM, hx45, hup46⟩ := hM.back hM2
      dsimp only [List.cons_append, List.nil_append] at hM hup46
      clear hM2
      refine ⟨_, rfl, Ext w44, fun _ h => Ext.trans hx45 h, Ext.refl _, fun a hf => ?_⟩
      refine pi_one ?_
      obtain ⟨y47, hz48, h⟩ := bind_some h
      refine pi_l hf rfl rfl rfl rfl (w_call hf Try.call39 rfl (r_spec_ProveNoFill ⟨_, All C _ _, none_, hM.all_lt, none_not, C.G, hM.g_lt, g_none, hM.tabs⟩ y32 hv34 hv35 hv36 y40 _ _ (hM.lendRow (k := 0) rfl) _ hz48) ?_)
      rintro _ w52 ⟨A49, c50, rfl, hM2, hv51⟩
      obtain ⟨hM, hx53⟩ := hM.backAF intRep_flat hM2
      clear hM2
      refine ⟨_, rfl, Ext w52, fun _ h => Ext.trans hx53 h, Ext.refl _, fun a hf => ?_⟩
      refine pi_q hf rfl rfl rfl rfl (Ext.refl _) (e_move hf rfl) fun a hf => ?_
      refine pi_q hf rfl rfl rfl rfl (Ext.refl _) (e_extract hf rfl rfl) fun a hf => ?_
      refine pi_q hf rfl rfl rfl rfl (Ext.refl _) (e_extract hf rfl rfl) fun a hf => ?_
      refine pi_q hf rfl rfl rfl rfl (Ext.refl _) (e_assign hf rfl) fun a hf => ?_
      refine pi_q hf rfl rfl rfl rfl (Ext.refl _) (e_assign hf rfl) fun a hf => ?_
      refine pi_nil ?_
      refine then_n ?_
      refine wp_seq ?_
      refine region_pl ?_
      refine q_ hf rfl rfl rfl (e_loadA hf (us := [vL A6 (aL5.Words) c7]) rfl ⟨Try.isAgg42, Try.sizeOf42⟩ rfl (hM.boxSub (k := 2) (us := [vL A6 (aL5.Words) c7]) (o := 0) rfl rfl)) fun a hf => ?_
      obtain ⟨y55, hz56, h⟩ := bind_some h
      refine pl_l hf rfl rfl rfl (w_call hf Try.call26 rfl (r_laws_toLexicon ⟨_, Sh C _ _, none_, hM.sh_lt, none_not, C.G, hM.g_lt, g_none, hM.tabs⟩ aL5 _ _ (hM.dat (k := 0) rfl) _ hz56) ?_)
      rintro _ w59 ⟨A57, c58, rfl, hM2⟩
      obtain ⟨hM, hx60, hup61⟩ := hM.back hM2
      dsimp only [List.cons_append, List.nil_append] at hM hup61
      clear hM2
      refine ⟨_, rfl, fun a hf => ?_⟩
      refine pl_l hf rfl rfl rfl (w_alloc hM (cs := [vL none (([] : (List Str))) 0]) Try.zeroValue45 rfl fun b62 w63 hx64 hM a hf => ?_)
      refine pl_0 hf rfl rfl (w_store hf hM (us := [vL A57 (y55.Words) c58]) (cs' := [vL A57 (y55.Words) c58]) rfl rfl (k := 0) rfl rfl Try.sizeOf45 rfl rfl rfl fun w66 hM => ?_)
      dsimp only [List.set] at hM
      refine pl_nil ?_
      refine then_n ?_
      refine wp_seq ?_
      obtain ⟨w69, hw⟩ : ∃ x, x = w66.drew := ⟨_, rfl⟩
      refine region_pi (.q 0 (.q 2 (.l 1 (.l 3 (.q 4 (.q 5 (.q 6 (.q 7 (.q 8 (.nil)))))))))) (Ext w69) rfl (by kernel_rfl) ?_
      have hM := hM.drew
      rw [← hw] at hM ⊢
      clear hw
      refine pi_q hf rfl rfl rfl rfl (Ext.refl _) (e_loadA hf (us := [vI (aG1.Rows), vI (aG1.Cols), vS (aG1.Cells)]) rfl ⟨Try.isAgg23, Try.sizeOf23⟩ rfl (hM.boxSub (k := 5) (us := [vI (aG1.Rows), vI (aG1.Cols), vS (aG1.Cells)]) (o := 0) rfl rfl)) fun a hf => ?_
      refine pi_q hf rfl rfl rfl rfl (Ext.refl _) (e_loadA hf (us := [vL A57 (y55.Words) c58]) rfl ⟨Try.isAgg45, Try.sizeOf45⟩ rfl (hM.boxSub (k := 0) (us := [vL A57 (y55.Words) c58]) (o := 0) rfl rfl)) fun a hf => ?_
      refine pi_one ?_
      obtain ⟨y70, hz71, h⟩ := bind_some h
      refine pi_l hf rfl rfl rfl rfl (w_call hf Try.call14 rfl (r_laws_toGrid ⟨_, Sh C _ _, none_, hM.sh_lt, none_not, C.G, hM.g_lt, g_none, hM.tabs⟩ aG1 hp2 hp3 hp4 _ hz71) ?_)
      rintro _ w75 ⟨rfl, hM2, hv72, hv73, hv74⟩
      obtain ⟨hM, hx76, hup77⟩ := hM.back hM2
      dsimp only [List.cons_append, List.nil_append] at hM hup77
      clear hM2
      refine ⟨_, rfl, Ext w75, fun _ h => Ext.trans hx76 h, Ext.refl _, fun a hf => ?_⟩
      refine pi_one ?_
      obtain ⟨y78, hz79, h⟩ := bind_some h
      refine pi_l hf rfl rfl rfl rfl (w_call hf Try.call40 rfl (r_impl_ProveNoFill ⟨_, All C _ _, none_, hM.all_lt, none_not, C.G, hM.g_lt, g_none, hM.tabs⟩ y70 hv72 hv73 hv74 y55 _ _ (hM.lendRow (k := 1) rfl) _ hz79) ?_)
      rintro _ w83 ⟨A80, c81, rfl, hM2, hv82⟩
      obtain ⟨hM, hx84⟩ := hM.backAF intRep_flat hM2
      clear hM2
      refine ⟨_, rfl, Ext w83, fun _ h => Ext.trans hx84 h, Ext.refl _, fun a hf => ?_⟩
      refine pi_q hf rfl rfl rfl rfl (Ext.refl _) (e_move hf rfl) fun a hf => ?_
      refine pi_q hf rfl rfl rfl rfl (Ext.refl _) (e_extract hf rfl rfl) fun a hf => ?_
      refine pi_q hf rfl rfl rfl rfl (Ext.refl _) (e_extract hf rfl rfl) fun a hf => ?_
      refine pi_q hf rfl rfl rfl rfl (Ext.refl _) (e_assign hf rfl) fun a hf => ?_
      refine pi_q hf rfl rfl rfl rfl (Ext.refl _) (e_assign hf rfl) fun a hf => ?_
      refine pi_nil ?_
      refine then_n ?_
      refine wp_seq ?_
      obtain ⟨x88, h89, h⟩ := bind_some h
      refine seq_join (fun a w => ∃ (t86 : Bool), t86 = x88 ∧ Has 109 a [(2, vP b9 (0)), (3, vP b13 (0)), (6, vL A49 (y47.1) c50), (7, vI (y47.2)), (8, vP b62 (0)), (9, vL A80 (y78.1) c81), (10, vI (y78.2)), (51, .bool (t86))] ∧ Mem C w [.row intRep A80 c81 2 y78.1 true, .box b62 [vL A57 (y55.Words) c58] 45, .row strRep A57 c58 9 y55.Words true, .row intRep A49 c50 2 y47.1 true, .row strRep A42 c43 9 y40.Words true, .box b13 [vL A6 (aL5.Words) c7] 42, .box b9 [vI (aG1.Rows), vI (aG1.Cols), vS (aG1.Cells)] 23] [.dat (sliceRep strRep) aL5.Words [vL A6 aL5.Words c7]]) ?_ ?_
      · refine region_pl ?_
        refine q_ hf rfl rfl rfl (e_move hf rfl) fun a hf => ?_
        refine q_ hf rfl rfl rfl (e_move hf rfl) fun a hf => ?_
        obtain ⟨y90, hz91, h89⟩ := bind_some h89
        refine pl_l hf rfl rfl rfl (w_call hf Try.call41 rfl (r_laws_eqInt64S ⟨_, All C _ _, none_, hM.all_lt, none_not, C.G, hM.g_lt, g_none, hM.tabs⟩ y78.1 _ _ (hM.lendRow (k := 0) rfl) y47.1 _ _ (hM.lendRow (k := 3) rfl) _ hz91) ?_)
        rintro _ w92 ⟨rfl, hM2⟩
        obtain ⟨hM, hx93⟩ := hM.backA hM2
        clear hM2
        refine ⟨_, rfl, fun a hf => ?_⟩
        refine q_ hf rfl rfl rfl (e_not hf rfl) fun a hf => ?_
        refine q_ hf rfl rfl rfl (e_move hf rfl) fun a hf => ?_
        rcases cond_some h89 with ⟨hc95, h89⟩ | ⟨hc95, h89⟩
        · refine pl_gs (wanted_f hf rfl rfl rfl rfl hc95) hf rfl rfl fun a hf => ?_
          refine pl_gs (wanted_f hf rfl rfl rfl rfl hc95) hf rfl rfl fun a hf => ?_
          refine pl_gs (wanted_f hf rfl rfl rfl rfl hc95) hf rfl rfl fun a hf => ?_
          refine q_ hf rfl rfl rfl (e_pick_t hf rfl hc95 rfl) fun a hf => ?_
          refine pl_nil ?_
          obtain rfl := some_inj h89
          refine then_n ?_
          exact ⟨true, rfl, hf.keep ⟨rfl, rfl, rfl, rfl, rfl, rfl, rfl, rfl, trivial⟩, hM.pick [0] rfl⟩
        · refine gq (wanted_t hf rfl rfl rfl rfl hc95) hf rfl rfl (e_move hf rfl) fun a hf => ?_
          refine gq (wanted_t hf rfl rfl rfl rfl hc95) hf rfl rfl (e_move hf rfl) fun a hf => ?_
          refine gq (wanted_t hf rfl rfl rfl rfl hc95) hf rfl rfl (e_ne hf (x := y78.2) (y := y47.2) rfl rfl) fun a hf => ?_
          refine q_ hf rfl rfl rfl (e_pick_f hf rfl hc95 rfl) fun a hf => ?_
          refine pl_nil ?_
          obtain rfl := some_inj h89
          refine then_n ?_
          exact ⟨(y78.2 != y47.2), rfl, hf.keep ⟨rfl, rfl, rfl, rfl, rfl, rfl, rfl, rfl, trivial⟩, hM.pick [0] rfl⟩
      · rintro a w98 ⟨t86, rfl, hf, hM⟩
        try dsimp only at h
        rcases cond_some h with ⟨hc99, h⟩ | ⟨hc99, h⟩
        · refine cond_t hf rfl hc99 ?_
          refine wp_seq ?_
          refine region_pl ?_
          refine q_ hf rfl rfl rfl (e_assign hf rfl) fun a hf => ?_
          refine pl_nil ?_
          refine then_n ?_
          refine wp_ret ?_
          refine then_r ?_
          obtain rfl := some_inj h
          have hM := hM.outs (own' := []) 0 rfl
          exact leave1 hf rfl rfl ⟨rfl, hM.fin⟩
        · refine cond_f hf rfl hc99 ?_
          refine wp_skip ?_
          refine then_n ?_
          refine wp_seq ?_
          refine wp_seq ?_
          obtain ⟨w100, hw⟩ : ∃ x, x = w98.drew := ⟨_, rfl⟩
          refine region_pi (.q 0 (.q 1 (.l 2 (.l 3 (.q 4 (.nil)))))) (Ext w100) rfl (by kernel_rfl) ?_
          have hM := hM.drew
          rw [← hw] at hM ⊢
          clear hw
          refine pi_q hf rfl rfl rfl rfl (Ext.refl _) (e_loadA hf (us := [vL A57 (y55.Words) c58]) rfl ⟨Try.isAgg45, Try.sizeOf45⟩ rfl (hM.boxSub (k := 1) (us := [vL A57 (y55.Words) c58]) (o := 0) rfl rfl)) fun a hf => ?_
          refine pi_q hf rfl rfl rfl rfl (Ext.refl _) (e_loadA hf (us := [vL A6 (aL5.Words) c7]) rfl ⟨Try.isAgg42, Try.sizeOf42⟩ rfl (hM.boxSub (k := 5) (us := [vL A6 (aL5.Words) c7]) (o := 0) rfl rfl)) fun a hf => ?_
          refine pi_one ?_
          obtain ⟨y101, hz102, h⟩ := bind_some h
          refine pi_l hf rfl rfl rfl rfl (w_call hf Try.call26 rfl (r_laws_toLexicon ⟨_, Sh C _ _, none_, hM.sh_lt, none_not, C.G, hM.g_lt, g_none, hM.tabs⟩ aL5 _ _ (hM.dat (k := 0) rfl) _ hz102) ?_)
          rintro _ w105 ⟨A103, c104, rfl, hM2⟩
          obtain ⟨hM, hx106, hup107⟩ := hM.back hM2
          dsimp only [List.cons_append, List.nil_append] at hM hup107
          clear hM2
          refine ⟨_, rfl, Ext w105, fun _ h => Ext.trans hx106 h, Ext.refl _, fun a hf => ?_⟩
          refine pi_one ?_
          obtain ⟨y108, hz109, h⟩ := bind_some h
          refine pi_l hf rfl rfl rfl rfl (w_call hf Try.call28 rfl (r_laws_eqLexicon ⟨_, All C _ _, none_, hM.all_lt, none_not, C.G, hM.g_lt, g_none, hM.tabs⟩ y55 _ _ (hM.lendRow (k := 3) rfl) y101 _ _ (hM.lendRow (k := 0) rfl) _ hz109) ?_)
          rintro _ w110 ⟨rfl, hM2⟩
          obtain ⟨hM, hx111⟩ := hM.backA hM2
          clear hM2
          refine ⟨_, rfl, Ext w110, fun _ h => Ext.trans hx111 h, Ext.refl _, fun a hf => ?_⟩
          refine pi_q hf rfl rfl rfl rfl (Ext.refl _) (e_not hf rfl) fun a hf => ?_
          refine pi_nil ?_
          refine then_n ?_
          rcases cond_some h with ⟨hc113, h⟩ | ⟨hc113, h⟩
          · refine cond_t hf rfl hc113 ?_
            refine wp_seq ?_
            refine region_pl ?_
            refine q_ hf rfl rfl rfl (e_assign hf rfl) fun a hf => ?_
            refine pl_nil ?_
            refine then_n ?_
            refine wp_ret ?_
            refine then_r ?_
            obtain rfl := some_inj h
            have hM := hM.outs (own' := []) 0 rfl
            exact leave1 hf rfl rfl ⟨rfl, hM.fin⟩
          · refine cond_f hf rfl hc113 ?_
            refine wp_skip ?_
            refine then_n ?_
            refine wp_seq ?_
            refine region_pl ?_
            refine q_ hf rfl rfl rfl (e_assign hf rfl) fun a hf => ?_
            refine pl_nil ?_
            refine then_n ?_
            refine wp_seq ?_
            refine region_pl ?_
            refine q_ hf rfl rfl rfl (e_loadA hf (us := [vL A57 (y55.Words) c58]) rfl ⟨Try.isAgg45, Try.sizeOf45⟩ rfl (hM.boxSub (k := 2) (us := [vL A57 (y55.Words) c58]) (o := 0) rfl rfl)) fun a hf => ?_
            refine q_ hf rfl rfl rfl (e_move hf rfl) fun a hf => ?_
            have hM := hM.front (k := 3) rfl
            dsimp only [List.eraseIdx] at hM
            have hM : Mem C _ ([.row strRep A57 c58 9 y55.Words true] ++ [.row strRep A103 c104 9 y101.Words true, .row intRep A80 c81 2 y78.1 true, .box b62 [vL A57 (y55.Words) c58] 45, .row intRep A49 c50 2 y47.1 true, .row strRep A42 c43 9 y40.Words true, .box b13 [vL A6 (aL5.Words) c7] 42, .box b9 [vI (aG1.Rows), vI (aG1.Cols), vS (aG1.Cells)] 23]) _ := hM
            obtain ⟨y114, hz115, h⟩ := bind_some h
            refine pl_l hf rfl rfl rfl (w_call hf Try.call32 rfl (r_laws_markLexicon ⟨_, Sh C _ _, ownB _, hM.sh_lt, sub_dis, C.G, hM.g_lt, hM.g_own, hM.tabs⟩ y55 _ _ 1 (R64_lit rfl) hM.sub sub_dis _ hz115) ?_)
            rintro _ w118 ⟨rfl, hM2, hl116, hv117⟩
            obtain ⟨hM, hup120⟩ := hM.backG hM2
            dsimp only [List.cons_append, List.nil_append] at hM hup120
            clear hM2
            refine ⟨_, rfl, fun a hf => ?_⟩
            have hf := hf.alter (d := 52) (v := .agg #[vL A57 (y114.2) c58]) rfl (by rw [vL_len (A := A57) (c := c58) hl116])
            have hf := hf.alter (d := 57) (v := .agg #[vL A57 (y114.2) c58]) rfl (by rw [vL_len (A := A57) (c := c58) hl116])
            rw [vL_len (A := A57) (c := c58) hl116] at hM
            refine q_ hf rfl rfl rfl (e_assign hf rfl) fun a hf => ?_
            refine pl_nil ?_
            refine then_n ?_
            refine wp_seq ?_
            obtain ⟨x123, h124, h⟩ := bind_some h
            refine seq_join (fun a w => ∃ (t121 : Bool), t121 = x123 ∧ Has 109 a [(2, vP b9 (0)), (3, vP b13 (0)), (6, vL A49 (y47.1) c50), (7, vI (y47.2)), (9, vL A80 (y78.1) c81), (72, .bool (t121))] ∧ Mem C w [.row strRep A57 c58 9 y114.2 true, .row strRep A103 c104 9 y101.Words true, .row intRep A80 c81 2 y78.1 true, .box b62 [vL A57 (y114.2) c58] 45, .row intRep A49 c50 2 y47.1 true, .row strRep A42 c43 9 y40.Words true, .box b13 [vL A6 (aL5.Words) c7] 42, .box b9 [vI (aG1.Rows), vI (aG1.Cols), vS (aG1.Cells)] 23] [.dat (sliceRep strRep) aL5.Words [vL A6 aL5.Words c7]]) ?_ ?_
            · refine region_pl ?_
              refine q_ hf rfl rfl rfl (e_move hf rfl) fun a hf => ?_
              refine q_ hf rfl rfl rfl (e_lt hf (x := y114.1) (y := 0) rfl rfl) fun a hf => ?_
              refine q_ hf rfl rfl rfl (e_move hf rfl) fun a hf => ?_
              rcases cond_some h124 with ⟨hc125, h124⟩ | ⟨hc125, h124⟩
              · refine pl_gs (wanted_f hf rfl rfl rfl rfl hc125) hf rfl rfl fun a hf => ?_
                refine pl_gs (wanted_f hf rfl rfl rfl rfl hc125) hf rfl rfl fun a hf => ?_
                refine pl_gs (wanted_f hf rfl rfl rfl rfl hc125) hf rfl rfl fun a hf => ?_
                refine pl_gs (wanted_f hf rfl rfl rfl rfl hc125) hf rfl rfl fun a hf => ?_
                refine q_ hf rfl rfl rfl (e_pick_t hf rfl hc125 rfl) fun a hf => ?_
                refine q_ hf rfl rfl rfl (e_move hf rfl) fun a hf => ?_
                refine pl_gs (wanted_f hf rfl rfl rfl rfl rfl) hf rfl rfl fun a hf => ?_
                refine pl_gs (wanted_f hf rfl rfl rfl rfl rfl) hf rfl rfl fun a hf => ?_
                refine pl_gs (wanted_f hf rfl rfl rfl rfl rfl) hf rfl rfl fun a hf => ?_
                refine q_ hf rfl rfl rfl (e_pick_t hf rfl rfl rfl) fun a hf => ?_
                refine pl_nil ?_
                obtain rfl := some_inj h124
                refine then_n ?_
                exact ⟨true, rfl, hf.keep ⟨rfl, rfl, rfl, rfl, rfl, rfl, trivial⟩, hM.pick [0] rfl⟩
              · refine gq (wanted_t hf rfl rfl rfl rfl hc125) hf rfl rfl (e_move hf rfl) fun a hf => ?_
                refine gq (wanted_t hf rfl rfl rfl rfl hc125) hf rfl rfl (e_move hf rfl) fun a hf => ?_
                obtain ⟨y127, hz128, h124⟩ := bind_some h124
                refine pl_gl (wanted_t hf rfl rfl rfl rfl hc125) hf rfl rfl (w_call hf Try.call41 rfl (r_laws_eqInt64S ⟨_, All C _ _, none_, hM.all_lt, none_not, C.G, hM.g_lt, g_none, hM.tabs⟩ y78.1 _ _ (hM.lendRow (k := 2) rfl) y47.1 _ _ (hM.lendRow (k := 4) rfl) _ hz128) ?_)
                rintro _ w129 ⟨rfl, hM2⟩
                obtain ⟨hM, hx130⟩ := hM.backA hM2
                clear hM2
                refine ⟨_, rfl, fun a hf => ?_⟩
                refine gq (wanted_t hf rfl rfl rfl rfl hc125) hf rfl rfl (e_not hf rfl) fun a hf => ?_
                refine q_ hf rfl rfl rfl (e_pick_f hf rfl hc125 rfl) fun a hf => ?_
                refine q_ hf rfl rfl rfl (e_move hf rfl) fun a hf => ?_
                rcases cond_some h124 with ⟨hc132, h124⟩ | ⟨hc132, h124⟩
                · refine pl_gs (wanted_f hf rfl rfl rfl rfl hc132) hf rfl rfl fun a hf => ?_
                  refine pl_gs (wanted_f hf rfl rfl rfl rfl hc132) hf rfl rfl fun a hf => ?_
                  refine pl_gs (wanted_f hf rfl rfl rfl rfl hc132) hf rfl rfl fun a hf => ?_
                  refine q_ hf rfl rfl rfl (e_pick_t hf rfl hc132 rfl) fun a hf => ?_
                  refine pl_nil ?_
                  obtain rfl := some_inj h124
                  refine then_n ?_
                  exact ⟨true, rfl, hf.keep ⟨rfl, rfl, rfl, rfl, rfl, rfl, trivial⟩, hM.pick [0] rfl⟩
                · refine gq (wanted_t hf rfl rfl rfl rfl hc132) hf rfl rfl (e_move hf rfl) fun a hf => ?_
                  refine gq (wanted_t hf rfl rfl rfl rfl hc132) hf rfl rfl (e_move hf rfl) fun a hf => ?_
                  refine gq (wanted_t hf rfl rfl rfl rfl hc132) hf rfl rfl (e_ne hf (x := y78.2) (y := y47.2) rfl rfl) fun a hf => ?_
                  refine q_ hf rfl rfl rfl (e_pick_f hf rfl hc132 rfl) fun a hf => ?_
                  refine pl_nil ?_
                  obtain rfl := some_inj h124
                  refine then_n ?_
                  exact ⟨(y78.2 != y47.2), rfl, hf.keep ⟨rfl, rfl, rfl, rfl, rfl, rfl, trivial⟩, hM.pick [0] rfl⟩
            · rintro a w135 ⟨t121, rfl, hf, hM⟩
              try dsimp only at h
              rcases cond_some h with ⟨hc136, h⟩ | ⟨hc136, h⟩
              · refine cond_t hf rfl hc136 ?_
                refine wp_seq ?_
                refine region_pl ?_
                refine q_ hf rfl rfl rfl (e_assign hf rfl) fun a hf => ?_
                refine pl_nil ?_
                refine then_n ?_
                refine wp_ret ?_
                refine then_r ?_
                obtain rfl := some_inj h
                have hM := hM.outs (own' := []) 0 rfl
                exact leave1 hf rfl rfl ⟨rfl, hM.fin⟩
              · refine cond_f hf rfl hc136 ?_
                refine wp_skip ?_
                refine then_n ?_
                refine wp_seq ?_
                refine region_pl ?_
                refine q_ hf rfl rfl rfl (e_assign hf rfl) fun a hf => ?_
                refine pl_nil ?_
                refine then_n ?_
                refine wp_seq ?_
                refine region_pl ?_
                refine q_ hf rfl rfl rfl (e_move hf rfl) fun a hf => ?_
                refine q_ hf rfl rfl rfl (e_move hf rfl) fun a hf => ?_
                have hM := hM.front (k := 2) rfl
                dsimp only [List.eraseIdx] at hM
                have hM : Mem C _ ([.row intRep A80 c81 2 y78.1 true] ++ [.row strRep A57 c58 9 y114.2 true, .row strRep A103 c104 9 y101.Words true, .box b62 [vL A57 (y114.2) c58] 45, .row intRep A49 c50 2 y47.1 true, .row strRep A42 c43 9 y40.Words true, .box b13 [vL A6 (aL5.Words) c7] 42, .box b9 [vI (aG1.Rows), vI (aG1.Cols), vS (aG1.Cells)] 23]) _ := hM
                obtain ⟨y137, hz138, h⟩ := bind_some h
                refine pl_l hf rfl rfl rfl (w_call hf Try.call42 rfl (r_laws_markInt64S ⟨_, Sh C _ _, ownB _, hM.sh_lt, sub_dis, C.G, hM.g_lt, hM.g_own, hM.tabs⟩ y78.1 _ _ 1 (R64_lit rfl) hM.sub sub_dis _ hz138) ?_)
                rintro _ w141 ⟨rfl, hM2, hl139, hv140⟩
                obtain ⟨hM, hup143⟩ := hM.backG hM2
                dsimp only [List.cons_append, List.nil_append] at hM hup143
                clear hM2
                refine ⟨_, rfl, fun a hf => ?_⟩
                have hf := hf.alter (d := 9) (v := vL A80 (y137.2) c81) rfl (vL_len hl139)
                have hf := hf.alter (d := 73) (v := vL A80 (y137.2) c81) rfl (vL_len hl139)
                refine q_ hf rfl rfl rfl (e_assign hf rfl) fun a hf => ?_
                refine pl_nil ?_
                refine then_n ?_
                refine wp_seq ?_
                refine region_pl ?_
                refine q_ hf rfl rfl rfl (e_assign hf rfl) fun a hf => ?_
                refine pl_nil ?_
                refine then_n ?_
                refine wp_seq ?_
                refine region_pl ?_
                refine q_ hf rfl rfl rfl (e_move hf rfl) fun a hf => ?_
                refine q_ hf rfl rfl rfl (e_move hf rfl) fun a hf => ?_
                obtain ⟨y144, hz145, h⟩ := bind_some h
                refine pl_l hf rfl rfl rfl (w_call hf Try.call43 rfl (r_laws_heldInt64S ⟨_, All C _ _, none_, hM.all_lt, none_not, C.G, hM.g_lt, g_none, hM.tabs⟩ y137.2 _ _ (hM.lendRow (k := 0) rfl) 1 (R64_lit rfl) _ hz145) ?_)
                rintro _ w147 ⟨rfl, hM2, hv146⟩
                obtain ⟨hM, hx148⟩ := hM.backA hM2
                clear hM2
                refine ⟨_, rfl, fun a hf => ?_⟩
                refine q_ hf rfl rfl rfl (e_assign hf rfl) fun a hf => ?_
                refine pl_nil ?_
                refine then_n ?_
                refine wp_seq ?_
                refine wp_seq ?_
                refine region_pl ?_
                refine q_ hf rfl rfl rfl (e_move hf rfl) fun a hf => ?_
                refine q_ hf rfl rfl rfl (e_lt hf (x := y144) (y := 0) rfl rfl) fun a hf => ?_
                refine pl_nil ?_
                refine then_n ?_
                rcases cond_some h with ⟨hc150, h⟩ | ⟨hc150, h⟩
                · refine cond_t hf rfl hc150 ?_
                  refine wp_seq ?_
                  refine region_pl ?_
                  refine q_ hf rfl rfl rfl (e_assign hf rfl) fun a hf => ?_
                  refine pl_nil ?_
                  refine then_n ?_
                  refine wp_ret ?_
                  refine then_r ?_
                  obtain rfl := some_inj h
                  have hM := hM.outs (own' := []) 0 rfl
                  exact leave1 hf rfl rfl ⟨rfl, hM.fin⟩
                · refine cond_f hf rfl hc150 ?_
                  refine wp_skip ?_
                  refine then_n ?_
                  refine wp_seq ?_
                  refine wp_seq ?_
                  refine region_pl ?_
                  refine q_ hf rfl rfl rfl (e_move hf rfl) fun a hf => ?_
                  refine q_ hf rfl rfl rfl (e_move hf rfl) fun a hf => ?_
                  refine q_ hf rfl rfl rfl (e_ne hf (x := y144) (y := y137.1) rfl rfl) fun a hf => ?_
                  refine pl_nil ?_
                  refine then_n ?_
                  rcases cond_some h with ⟨hc151, h⟩ | ⟨hc151, h⟩
                  · refine cond_t hf rfl hc151 ?_
                    refine wp_seq ?_
                    refine region_pl ?_
                    refine q_ hf rfl rfl rfl (e_assign hf rfl) fun a hf => ?_
                    refine pl_nil ?_
                    refine then_n ?_
                    refine wp_ret ?_
                    refine then_r ?_
                    obtain rfl := some_inj h
                    have hM := hM.outs (own' := []) 0 rfl
                    exact leave1 hf rfl rfl ⟨rfl, hM.fin⟩
                  · refine cond_f hf rfl hc151 ?_
                    refine wp_skip ?_
                    refine then_n ?_
                    refine wp_seq ?_
                    obtain ⟨w152, hw⟩ : ∃ x, x = w147.drew := ⟨_, rfl⟩
                    refine region_pi (.q 0 (.q 2 (.l 1 (.l 3 (.l 4 (.q 5 (.q 6 (.q 7 (.q 8 (.q 9 (.nil))))))))))) (Ext w152) rfl (by kernel_rfl) ?_
                    have hM := hM.drew
                    rw [← hw] at hM ⊢
                    clear hw
                    refine pi_q hf rfl rfl rfl rfl (Ext.refl _) (e_loadA hf (us := [vI (aG1.Rows), vI (aG1.Cols), vS (aG1.Cells)]) rfl ⟨Try.isAgg23, Try.sizeOf23⟩ rfl (hM.boxSub (k := 7) (us := [vI (aG1.Rows), vI (aG1.Cols), vS (aG1.Cells)]) (o := 0) rfl rfl)) fun a hf => ?_
                    refine pi_q hf rfl rfl rfl rfl (Ext.refl _) (e_loadA hf (us := [vL A6 (aL5.Words) c7]) rfl ⟨Try.isAgg42, Try.sizeOf42⟩ rfl (hM.boxSub (k := 6) (us := [vL A6 (aL5.Words) c7]) (o := 0) rfl rfl)) fun a hf => ?_
                    refine pi_one ?_
                    obtain ⟨y153, hz154, h⟩ := bind_some h
                    refine pi_l hf rfl rfl rfl rfl (w_call hf Try.call14 rfl (r_laws_toGrid ⟨_, Sh C _ _, none_, hM.sh_lt, none_not, C.G, hM.g_lt, g_none, hM.tabs⟩ aG1 hp2 hp3 hp4 _ hz154) ?_)
                    rintro _ w158 ⟨rfl, hM2, hv155, hv156, hv157⟩
                    obtain ⟨hM, hx159, hup160⟩ := hM.back hM2
                    dsimp only [List.cons_append, List.nil_append] at hM hup160
                    clear hM2
                    refine ⟨_, rfl, Ext w158, fun _ h => Ext.trans hx159 h, Ext.refl _, fun a hf => ?_⟩
                    refine pi_one ?_
                    obtain ⟨y161, hz162, h⟩ := bind_some h
                    refine pi_l hf rfl rfl rfl rfl (w_call hf Try.call26 rfl (r_laws_toLexicon ⟨_, Sh C _ _, none_, hM.sh_lt, none_not, C.G, hM.g_lt, g_none, hM.tabs⟩ aL5 _ _ (hM.dat (k := 0) rfl) _ hz162) ?_)
                    rintro _ w165 ⟨A163, c164, rfl, hM2⟩
                    obtain ⟨hM, hx166, hup167⟩ := hM.back hM2
                    dsimp only [List.cons_append, List.nil_append] at hM hup167
                    clear hM2
                    refine ⟨_, rfl, Ext w165, fun _ h => Ext.trans hx166 h, Ext.refl _, fun a hf => ?_⟩
                    refine pi_one ?_
                    obtain ⟨y168, hz169, h⟩ := bind_some h
                    refine pi_l hf rfl rfl rfl rfl (w_call hf Try.call40 rfl (r_impl_ProveNoFill ⟨_, All C _ _, none_, hM.all_lt, none_not, C.G, hM.g_lt, g_none, hM.tabs⟩ y153 hv155 hv156 hv157 y161 _ _ (hM.lendRow (k := 0) rfl) _ hz169) ?_)
                    rintro _ w173 ⟨A170, c171, rfl, hM2, hv172⟩
                    obtain ⟨hM, hx174⟩ := hM.backAF intRep_flat hM2
                    clear hM2
                    refine ⟨_, rfl, Ext w173, fun _ h => Ext.trans hx174 h, Ext.refl _, fun a hf => ?_⟩
                    refine pi_q hf rfl rfl rfl rfl (Ext.refl _) (e_move hf rfl) fun a hf => ?_
                    refine pi_q hf rfl rfl rfl rfl (Ext.refl _) (e_extract hf rfl rfl) fun a hf => ?_
                    refine pi_q hf rfl rfl rfl rfl (Ext.refl _) (e_extract hf rfl rfl) fun a hf => ?_
                    refine pi_q hf rfl rfl rfl rfl (Ext.refl _) (e_assign hf rfl) fun a hf => ?_
                    refine pi_q hf rfl rfl rfl rfl (Ext.refl _) (e_assign hf rfl) fun a hf => ?_
                    refine pi_nil ?_
                    refine then_n ?_
                    refine wp_seq ?_
                    obtain ⟨x178, h179, h⟩ := bind_some h
                    refine seq_join (fun a w => ∃ (t176 : Bool), t176 = x178 ∧ Has 109 a [(9, vL A80 (y137.2) c81), (12, vI (y137.1)), (100, .bool (t176))] ∧ Mem C w [.row intRep A170 c171 2 y168.1 true, .row strRep A163 c164 9 y161.Words true, .row intRep A80 c81 2 y137.2 true, .row strRep A57 c58 9 y114.2 true, .row strRep A103 c104 9 y101.Words true, .box b62 [vL A57 (y114.2) c58] 45, .row intRep A49 c50 2 y47.1 true, .row strRep A42 c43 9 y40.Words true, .box b13 [vL A6 (aL5.Words) c7] 42, .box b9 [vI (aG1.Rows), vI (aG1.Cols), vS (aG1.Cells)] 23] [.dat (sliceRep strRep) aL5.Words [vL A6 aL5.Words c7]]) ?_ ?_
                    · refine region_pl ?_
                      refine q_ hf rfl rfl rfl (e_move hf rfl) fun a hf => ?_
                      refine q_ hf rfl rfl rfl (e_move hf rfl) fun a hf => ?_
                      obtain ⟨y180, hz181, h179⟩ := bind_some h179
                      refine pl_l hf rfl rfl rfl (w_call hf Try.call41 rfl (r_laws_eqInt64S ⟨_, All C _ _, none_, hM.all_lt, none_not, C.G, hM.g_lt, g_none, hM.tabs⟩ y168.1 _ _ (hM.lendRow (k := 0) rfl) y47.1 _ _ (hM.lendRow (k := 6) rfl) _ hz181) ?_)
                      rintro _ w182 ⟨rfl, hM2⟩
                      obtain ⟨hM, hx183⟩ := hM.backA hM2
                      clear hM2
                      refine ⟨_, rfl, fun a hf => ?_⟩
                      refine q_ hf rfl rfl rfl (e_not hf rfl) fun a hf => ?_
                      refine q_ hf rfl rfl rfl (e_move hf rfl) fun a hf => ?_
                      rcases cond_some h179 with ⟨hc185, h179⟩ | ⟨hc185, h179⟩
                      · refine pl_gs (wanted_f hf rfl rfl rfl rfl hc185) hf rfl rfl fun a hf => ?_
                        refine pl_gs (wanted_f hf rfl rfl rfl rfl hc185) hf rfl rfl fun a hf => ?_
                        refine pl_gs (wanted_f hf rfl rfl rfl rfl hc185) hf rfl rfl fun a hf => ?_
                        refine q_ hf rfl rfl rfl (e_pick_t hf rfl hc185 rfl) fun a hf => ?_
                        refine pl_nil ?_
                        obtain rfl := some_inj h179
                        refine then_n ?_
                        exact ⟨true, rfl, hf.keep ⟨rfl, rfl, rfl, trivial⟩, hM.pick [0] rfl⟩
                      · refine gq (wanted_t hf rfl rfl rfl rfl hc185) hf rfl rfl (e_move hf rfl) fun a hf => ?_
                        refine gq (wanted_t hf rfl rfl rfl rfl hc185) hf rfl rfl (e_move hf rfl) fun a hf => ?_
                        refine gq (wanted_t hf rfl rfl rfl rfl hc185) hf rfl rfl (e_ne hf (x := y168.2) (y := y47.2) rfl rfl) fun a hf => ?_
                        refine q_ hf rfl rfl rfl (e_pick_f hf rfl hc185 rfl) fun a hf => ?_
                        refine pl_nil ?_
                        obtain rfl := some_inj h179
                        refine then_n ?_
                        exact ⟨(y168.2 != y47.2), rfl, hf.keep ⟨rfl, rfl, rfl, trivial⟩, hM.pick [0] rfl⟩
                    · rintro a w188 ⟨t176, rfl, hf, hM⟩
                      try dsimp only at h
                      rcases cond_some h with ⟨hc189, h⟩ | ⟨hc189, h⟩
                      · refine cond_t hf rfl hc189 ?_
                        refine wp_seq ?_
                        refine region_pl ?_
                        refine q_ hf rfl rfl rfl (e_assign hf rfl) fun a hf => ?_
                        refine pl_nil ?_
                        refine then_n ?_
                        refine wp_ret ?_
                        refine then_r ?_
                        obtain rfl := some_inj h
                        have hM := hM.outs (own' := []) 0 rfl
                        exact leave1 hf rfl rfl ⟨rfl, hM.fin⟩
                      · refine cond_f hf rfl hc189 ?_
                        refine wp_skip ?_
                        refine then_n ?_
                        refine wp_seq ?_
                        refine region_pl ?_
                        refine q_ hf rfl rfl rfl (e_assign hf rfl) fun a hf => ?_
                        refine pl_nil ?_
                        refine then_n ?_
                        refine wp_seq ?_
                        refine region_pl ?_
                        refine q_ hf rfl rfl rfl (e_move hf rfl) fun a hf => ?_
                        refine q_ hf rfl rfl rfl (e_move hf rfl) fun a hf => ?_
                        obtain ⟨y190, hz191, h⟩ := bind_some h
                        refine pl_l hf rfl rfl rfl (w_call hf Try.call43 rfl (r_laws_heldInt64S ⟨_, All C _ _, none_, hM.all_lt, none_not, C.G, hM.g_lt, g_none, hM.tabs⟩ y137.2 _ _ (hM.lendRow (k := 2) rfl) 1 (R64_lit rfl) _ hz191) ?_)
                        rintro _ w193 ⟨rfl, hM2, hv192⟩
                        obtain ⟨hM, hx194⟩ := hM.backA hM2
                        clear hM2
                        refine ⟨_, rfl, fun a hf => ?_⟩
                        refine q_ hf rfl rfl rfl (e_assign hf rfl) fun a hf => ?_
                        refine pl_nil ?_
                        refine then_n ?_
                        refine wp_seq ?_
                        refine wp_seq ?_
                        refine region_pl ?_
                        refine q_ hf rfl rfl rfl (e_move hf rfl) fun a hf => ?_
                        refine q_ hf rfl rfl rfl (e_lt hf (x := y190) (y := 0) rfl rfl) fun a hf => ?_
                        refine pl_nil ?_
                        refine then_n ?_
                        rcases cond_some h with ⟨hc196, h⟩ | ⟨hc196, h⟩
                        · refine cond_t hf rfl hc196 ?_
                          refine wp_seq ?_
                          refine region_pl ?_
                          refine q_ hf rfl rfl rfl (e_assign hf rfl) fun a hf => ?_
                          refine pl_nil ?_
                          refine then_n ?_
                          refine wp_ret ?_
                          refine then_r ?_
                          obtain rfl := some_inj h
                          have hM := hM.outs (own' := []) 0 rfl
                          exact leave1 hf rfl rfl ⟨rfl, hM.fin⟩
                        · refine cond_f hf rfl hc196 ?_
                          refine wp_skip ?_
                          refine then_n ?_
                          refine wp_seq ?_
                          refine wp_seq ?_
                          refine region_pl ?_
                          refine q_ hf rfl rfl rfl (e_move hf rfl) fun a hf => ?_
                          refine q_ hf rfl rfl rfl (e_move hf rfl) fun a hf => ?_
                          refine q_ hf rfl rfl rfl (e_ne hf (x := y190) (y := y137.1) rfl rfl) fun a hf => ?_
                          refine pl_nil ?_
                          refine then_n ?_
                          rcases cond_some h with ⟨hc197, h⟩ | ⟨hc197, h⟩
                          · refine cond_t hf rfl hc197 ?_
                            refine wp_seq ?_
                            refine region_pl ?_
                            refine q_ hf rfl rfl rfl (e_assign hf rfl) fun a hf => ?_
                            refine pl_nil ?_
                            refine then_n ?_
                            refine wp_ret ?_
                            refine then_r ?_
                            obtain rfl := some_inj h
                            have hM := hM.outs (own' := []) 0 rfl
                            exact leave1 hf rfl rfl ⟨rfl, hM.fin⟩
                          · refine cond_f hf rfl hc197 ?_
                            refine wp_skip ?_
                            refine then_n ?_
                            refine wp_seq ?_
                            refine region_pl ?_
                            refine q_ hf rfl rfl rfl (e_assign hf rfl) fun a hf => ?_
                            refine pl_nil ?_
                            refine then_n ?_
                            refine wp_ret ?_
                            obtain rfl := some_inj h
                            have hM := hM.outs (own' := []) 0 rfl
                            exact leave1 hf rfl rfl ⟨rfl, hM.fin⟩

end Go.Proofs.Ytgmikhdealhlfaa
