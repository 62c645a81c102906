/- The functions that this law reaches do what their models say. Printed by gen.py. -/
import Derived.Test.YtdaoecpkgobelaaDoorMod
import Derived.Test.YtdaoecpkgobelaaDoorLib
import Derived.Test.YtdaoecpkgobelaaDoorNodeAfterRef
namespace Go.Proofs.YtdaoecpkgobelaaDoor
open Go Go.RowKit
set_option linter.unusedSimpArgs false
set_option linter.unusedVariables false

set_option maxRecDepth 100000 in
set_option maxHeartbeats 4000000 in
theorem r_spec_l06Number (C : Cx) (nodes1 : (List Node)) (A2 : Option Addr) (c3 : Nat) (hp4 : (sliceRep NodeRep).R C.w0 C.S0 nodes1 [vL A2 nodes1 c3]) (root5 : Int) (hp6 : R64 root5) (r : (List Node)) (h : m_spec_l06Number nodes1 root5 = some r) :
    Calls Tryd.prog 98 #[vL A2 (nodes1) c3, vI (root5)] C.w0 fun e w => ∃ (A_1 : Option Addr), ∃ (c_1 : Nat), e = .returned (vL A_1 (r) c_1) ∧ Mem C w [] [] ∧ (sliceRep NodeRep).R w (Sh C [] w) r [vL A_1 r c_1] := by
  have hM := Mem.begin C [.dat (sliceRep NodeRep) nodes1 [vL A2 nodes1 c3]] ⟨hp4, trivial⟩
  refine enter Tryd.func98 rfl Tryd.ntmps98 rfl fun a hf => ?_
  unfold m_spec_l06Number at h
  refine wp_seq ?_
  refine region_pl ?_
  refine q_ hf rfl rfl rfl (e_assign hf rfl) fun a hf => ?_
  refine pl_nil ?_
  refine then_n ?_
  refine wp_seq ?_
  refine region_pl ?_
  refine q_ hf rfl rfl rfl (e_move hf rfl) fun a hf => ?_
  refine q_ hf rfl rfl rfl (e_build hf Tryd.zeroValue163 Tryd.underlying163 (bp_163 _ Tryd.underlying163.symm) rfl (cs := #[vL A2 (nodes1) c3, vL none (([] : (List Int))) 0, vL none (([] : (List Node))) 0]) (by kernel_rfl)) fun a hf => ?_
  refine pl_l hf rfl rfl rfl (w_box hf hM (cs := [vL A2 (nodes1) c3, vL none (([] : (List Int))) 0, vL none (([] : (List Node))) 0]) rfl rfl fun b7 w8 hx9 hM a hf => ?_)
  refine q_ hf rfl rfl rfl (e_assign hf rfl) fun a hf => ?_
  refine pl_nil ?_
  refine then_n ?_
  obtain ⟨x17, h18, h⟩ := bind_some h
  refine seq_join (fun a w => ∃ (xs11 : (List Int)) (xs14 : (List Node)) (A12 : Option Addr) (c13 : Nat) (A15 : Option Addr) (c16 : Nat), (xs11, xs14) = x17 ∧ Has 89 a [(0, vL A2 (nodes1) c3), (1, vI (root5)), (5, vP b7 (0))] ∧ Mem C w [.row NodeNilRep A15 c16 76 xs14 true, .row intRep A12 c13 2 xs11 true, .box b7 [vL A2 (nodes1) c3, vL A12 (xs11) c13, vL A15 (xs14) c16] 163] [.dat (sliceRep NodeRep) nodes1 [vL A2 nodes1 c3]]) ?_ ?_
  · refine wp_seq ?_
    refine region_pl ?_
    refine q_ hf rfl rfl rfl (e_move hf rfl) fun a hf => ?_
    have hl19 := slice_len (hM.dat (k := 0) rfl)
    refine q_ hf rfl rfl rfl (e_lenL hf (x := nodes1) rfl Tryd.underlying24) fun a hf => ?_
    refine q_ hf rfl rfl rfl (e_move hf rfl) fun a hf => ?_
    refine pl_nil ?_
    refine then_n ?_
    refine wp_block ?_
    have hM := hM.nilRow intRep 2
    have hM := hM.nilRow NodeNilRep 76
    obtain ⟨x29, h30, h18⟩ := bind_some h18
    refine wp_loopM h30 (fun s a w => ∃ (xs20 : (List Int)) (n23 : Int) (A21 : Option Addr) (c22 : Nat), (xs20, n23) = s ∧ Has 89 a [(0, vL A2 (nodes1) c3), (1, vI (root5)), (5, vP b7 (0)), (13, vI ((nodes1.length : Int))), (14, vI (n23))] ∧ Mem C w [.row NodeNilRep none 0 76 ([] : (List Node)) true, .row intRep A21 c22 2 xs20 true, .box b7 [vL A2 (nodes1) c3, vL A21 (xs20) c22, vL none (([] : (List Node))) 0] 163] [.dat (sliceRep NodeRep) nodes1 [vL A2 nodes1 c3]] ∧ R64 n23) ?_ ?_
    · exact ⟨([] : (List Int)), 0, none, 0, rfl, hf.keep ⟨rfl, rfl, rfl, rfl, rfl, trivial⟩, hM.pick [0] rfl, (R64_lit rfl)⟩
    · rintro s o31 a w25 ⟨xs20, n23, A21, c22, rfl, hf, hM, hv24⟩ h32 hd33
      replace h32 : m_spec_l06Number_l1 nodes1 xs20 n23 = some o31 := h32
      unfold m_spec_l06Number_l1 at h32
      refine wp_seq ?_
      refine region_pl ?_
      refine q_ hf rfl rfl rfl (e_lt hf (x := n23) (y := (nodes1.length : Int)) rfl rfl) fun a hf => ?_
      refine pl_nil ?_
      refine then_n ?_
      refine wp_seq ?_
      rcases cond_some h32 with ⟨hc34, h32⟩ | ⟨hc34, h32⟩
      · refine cond_t hf rfl hc34 ?_
        refine wp_skip ?_
        refine then_n ?_
        refine wp_seq ?_
        refine wp_block ?_
        refine region_pl ?_
        refine q_ hf rfl rfl rfl (e_move hf rfl) fun a hf => ?_
        refine q_ hf rfl rfl rfl (e_move hf rfl) fun a hf => ?_
        refine q_ hf rfl rfl rfl (e_nil hf rfl) fun a hf => ?_
        refine q_ hf rfl rfl rfl (e_field hf rfl Tryd.underlying163 rfl Tryd.sizeOf31 (o' := 1) rfl) fun a hf => ?_
        refine q_ hf rfl rfl rfl (e_load1 hf rfl Tryd.isAgg31 (hM.boxCell (k := 2) rfl rfl)) fun a hf => ?_
        refine pl_l hf rfl rfl rfl (w_slice hf hM (K := intRep) (xs := ([(-1)] : (List Int))) (os := [.const (.int .i64 (-1))]) Tryd.underlying31 ei_2 rfl rfl rfl rfl rfl ⟨⟨[vI ((-1))], rfl, ⟨rfl, (R64_lit rfl)⟩⟩, trivial⟩ rfl fun b35 w36 hx37 hM a hf => ?_)
        obtain ⟨xs38, hz39, h32⟩ := bind_some h32
        refine pl_l hf rfl rfl rfl (w_append hf hM Tryd.underlying31 ei_2 rfl rfl rfl (k := 2) rfl (hM.srcRow (k := 0) rfl) hz39 fun A40 c41 w42 hM a hf => ?_)
        dsimp only [List.set] at hM
        refine q_ hf rfl rfl rfl (e_nil hf rfl) fun a hf => ?_
        refine q_ hf rfl rfl rfl (e_field hf rfl Tryd.underlying163 rfl Tryd.sizeOf31 (o' := 1) rfl) fun a hf => ?_
        refine pl_0 hf rfl rfl (w_store hf hM (us := [vL A40 (xs38) c41]) (cs' := [vL A2 (nodes1) c3, vL A40 (xs38) c41, vL none (([] : (List Node))) 0]) rfl rfl (k := 3) rfl rfl Tryd.sizeOf31 rfl rfl rfl fun w45 hM => ?_)
        dsimp only [List.set] at hM
        refine pl_nil ?_
        refine blk_n ?_
        refine then_n ?_
        refine region_pl ?_
        obtain ⟨z48, hz49, h32⟩ := bind_some h32
        refine q_ hf rfl rfl rfl (e_add hf rfl rfl hz49) fun a hf => ?_
        refine q_ hf rfl rfl rfl (e_move hf rfl) fun a hf => ?_
        refine pl_nil ?_
        obtain rfl := some_inj h32
        refine then_n ⟨_, rfl, ?_⟩
        exact ⟨xs38, z48, A40, c41, rfl, hf.keep ⟨rfl, rfl, rfl, rfl, rfl, trivial⟩, (hM.drop (.cons _ (.cons_cons _ (.cons_cons _ (.cons_cons _ .slnil))))).pick [0] rfl, (chk_R hz49)⟩
      · refine cond_f hf rfl hc34 ?_
        refine wp_exit ?_
        refine then_x ?_
        obtain rfl := some_inj h32
        obtain rfl := hd33 _ rfl
        try dsimp only at h18
        refine then_x ?_
        refine exit_hit ?_
        obtain rfl := some_inj h18
        refine then_n ?_
        exact ⟨xs20, ([] : (List Node)), A21, c22, none, 0, rfl, hf.keep ⟨rfl, rfl, rfl, trivial⟩, hM.pick [0] rfl⟩
  · rintro a w55 ⟨xs11, xs14, A12, c13, A15, c16, rfl, hf, hM⟩
    try dsimp only at h
    refine wp_seq ?_
    refine region_pl ?_
    refine q_ hf rfl rfl rfl (e_move hf rfl) fun a hf => ?_
    refine q_ hf rfl rfl rfl (e_move hf rfl) fun a hf => ?_
    have hM := hM.front (k := 0) rfl
    dsimp only [List.eraseIdx] at hM
    have hM := hM.front (k := 1) rfl
    dsimp only [List.eraseIdx] at hM
    have hM := hM.front (k := 2) rfl
    dsimp only [List.eraseIdx] at hM
    have hM : Mem C _ ([.box b7 [vL A2 (nodes1) c3, vL A12 (xs11) c13, vL A15 (xs14) c16] 163, .row intRep A12 c13 2 xs11 true, .row NodeNilRep A15 c16 76 xs14 true] ++ []) _ := hM
    obtain ⟨y56, hz57, h⟩ := bind_some h
    refine pl_l hf rfl rfl rfl (w_call hf Tryd.call116 rfl (r_spec_l06R_visit ⟨_, Sh C _ _, ownB _, hM.sh_lt, sub_dis, C.G, hM.g_lt, hM.g_own, hM.tabs⟩ (⟨nodes1, xs11, xs14⟩ : l06R) _ _ _ (hM.dat (k := 0) rfl) _ _ _ _ root5 hp6 hM.sub sub_dis _ hz57) ?_)
    rintro _ w62 ⟨A58, c59, A60, c61, rfl, hM2⟩
    obtain ⟨hM, hup64⟩ := hM.backG hM2
    dsimp only [List.cons_append, List.nil_append] at hM hup64
    clear hM2
    refine ⟨_, rfl, fun a hf => ?_⟩
    refine pl_nil ?_
    refine then_n ?_
    obtain ⟨ws0, hw0, hM⟩ := hM.nest 2
    have hl0 : ws0.length = y56.out.length := by rw [← hw0, List.length_map]
    obtain ⟨x65, h66, h⟩ := bind_some h
    refine seq_join (fun a w => ∃ (xs : List Node) (ws : List NodeW), xs = x65 ∧ ws.map NodeW.to = xs ∧ ws.length = y56.out.length ∧ Has 89 a [(5, vP b7 (0))] ∧ Mem C w ([.box b7 [vL A2 (nodes1) c3, vL A58 (y56.place) c59, vL A60 (y56.out) c61] 163, .row intRep A58 c59 2 y56.place true, .row NodeWRep A60 c61 76 ws true] ++ nestO 2 ws) [.dat (sliceRep NodeRep) nodes1 [vL A2 nodes1 c3]]) ?_ ?_
    · refine wp_seq ?_
      refine region_pl ?_
      refine q_ hf rfl rfl rfl (e_assign hf rfl) fun a hf => ?_
      refine pl_nil ?_
      refine then_n ?_
      refine wp_block ?_
      refine wp_loopM h66 (fun s a w => ∃ (xs : List Node) (ws : List NodeW) (i67 : Int), (xs, i67) = s ∧ ws.map NodeW.to = xs ∧ ws.length = y56.out.length ∧ Has 89 a [(0, vL A2 (nodes1) c3), (5, vP b7 (0)), (6, vI (i67))] ∧ Mem C w ([.box b7 [vL A2 (nodes1) c3, vL A58 (y56.place) c59, vL A60 (y56.out) c61] 163, .row intRep A58 c59 2 y56.place true, .row NodeWRep A60 c61 76 ws true] ++ nestO 2 ws) [.dat (sliceRep NodeRep) nodes1 [vL A2 nodes1 c3]] ∧ R64 i67) ?_ ?_
      · exact ⟨y56.out, ws0, 0, rfl, hw0, hl0, hf.keep ⟨rfl, rfl, rfl, trivial⟩, hM.pick [0] rfl, (R64_lit rfl)⟩
      · rintro s o72 a w69 ⟨xs, ws, i67, rfl, hw1, hl1, hf, hM, hv68⟩ h73 hd74
        replace h73 : m_spec_l06Number_l2 nodes1 y56.place xs i67 = some o72 := h73
        unfold m_spec_l06Number_l2 at h73
        refine wp_seq ?_
        refine wp_seq ?_
        refine region_pl ?_
        refine q_ hf rfl rfl rfl (e_move hf rfl) fun a hf => ?_
        refine q_ hf rfl rfl rfl (e_move hf rfl) fun a hf => ?_
        have hl75 := slice_len (hM.dat (k := 0) rfl)
        refine q_ hf rfl rfl rfl (e_lenL hf (x := nodes1) rfl Tryd.underlying24) fun a hf => ?_
        refine q_ hf rfl rfl rfl (e_lt hf (x := i67) (y := (nodes1.length : Int)) rfl rfl) fun a hf => ?_
        refine pl_nil ?_
        refine then_n ?_
        rcases cond_some h73 with ⟨hc76, h73⟩ | ⟨hc76, h73⟩
        · refine cond_t hf rfl hc76 ?_
          refine wp_skip ?_
          refine then_n ?_
          obtain ⟨x77, h78, h73⟩ := bind_some h73
          refine seq_join (fun a w => ∃ (xs : List Node) (ws : List NodeW), xs = x77 ∧ ws.map NodeW.to = xs ∧ ws.length = y56.out.length ∧ Has 89 a [(0, vL A2 (nodes1) c3), (5, vP b7 (0)), (6, vI (i67))] ∧ Mem C w ([.box b7 [vL A2 (nodes1) c3, vL A58 (y56.place) c59, vL A60 (y56.out) c61] 163, .row intRep A58 c59 2 y56.place true, .row NodeWRep A60 c61 76 ws true] ++ nestO 2 ws) [.dat (sliceRep NodeRep) nodes1 [vL A2 nodes1 c3]]) ?_ ?_
          · refine wp_block ?_
            refine wp_seq ?_
            refine region_pl ?_
            refine q_ hf rfl rfl rfl (e_move hf rfl) fun a hf => ?_
            refine q_ hf rfl rfl rfl (e_nil hf rfl) fun a hf => ?_
            refine q_ hf rfl rfl rfl (e_field hf rfl Tryd.underlying163 rfl Tryd.sizeOf31 (o' := 1) rfl) fun a hf => ?_
            refine q_ hf rfl rfl rfl (e_load1 hf rfl Tryd.isAgg31 (hM.boxCell (k := 0) rfl rfl)) fun a hf => ?_
            refine q_ hf rfl rfl rfl (e_move hf rfl) fun a hf => ?_
            obtain ⟨e79, hz80, h78⟩ := bind_some h78
            obtain ⟨b85, _, hA86, h81, h82, hr83, hcell84⟩ := hM.rowElemN (k := 1) rfl (n := 1) rfl hz80
            obtain ⟨rfl, hv87⟩ := hr83
            refine q_ hf rfl rfl rfl (e_indexAddr (A := A58) (b := b85) (o := 0) (xs := y56.place) (i := i67) hf hA86 rfl rfl Tryd.underlying31 Tryd.sizeOf2 h81 h82) fun a hf => ?_
            refine q_ hf rfl rfl rfl (e_load1 hf rfl Tryd.isAgg2 (hcell84 0 _ rfl)) fun a hf => ?_
            refine q_ hf rfl rfl rfl (e_assign hf rfl) fun a hf => ?_
            refine pl_nil ?_
            refine then_n ?_
            refine wp_seq ?_
            refine wp_seq ?_
            refine region_pl ?_
            refine q_ hf rfl rfl rfl (e_move hf rfl) fun a hf => ?_
            refine q_ hf rfl rfl rfl (e_lt hf (x := e79) (y := 0) rfl rfl) fun a hf => ?_
            refine pl_nil ?_
            refine then_n ?_
            rcases cond_some h78 with ⟨hc88, h78⟩ | ⟨hc88, h78⟩
            · refine cond_t hf rfl hc88 ?_
              refine wp_exit ?_
              refine then_x ?_
              refine exit_hit ?_
              obtain rfl := some_inj h78
              refine then_n ?_
              exact ⟨xs, ws, rfl, hw1, hl1, hf.keep ⟨rfl, rfl, rfl, trivial⟩, hM.pick [0] rfl⟩
            · refine cond_f hf rfl hc88 ?_
              refine wp_skip ?_
              refine then_n ?_
              refine wp_seq ?_
              refine region_pl ?_
              refine q_ hf rfl rfl rfl (e_assign hf rfl) fun a hf => ?_
              refine pl_nil ?_
              refine then_n ?_
              refine wp_block ?_
              refine wp_loopM h78 (fun s a w => ∃ (xs : List Node) (ws : List NodeW) (n90 : Int), (xs, n90) = s ∧ ws.map NodeW.to = xs ∧ ws.length = y56.out.length ∧ Has 89 a [(0, vL A2 (nodes1) c3), (5, vP b7 (0)), (6, vI (i67)), (7, vI (e79)), (8, vI (n90))] ∧ Mem C w ([.box b7 [vL A2 (nodes1) c3, vL A58 (y56.place) c59, vL A60 (y56.out) c61] 163, .row intRep A58 c59 2 y56.place true, .row NodeWRep A60 c61 76 ws true] ++ nestO 2 ws) [.dat (sliceRep NodeRep) nodes1 [vL A2 nodes1 c3]] ∧ R64 n90) ?_ ?_
              · exact ⟨xs, ws, 0, rfl, hw1, hl1, hf.keep ⟨rfl, rfl, rfl, rfl, rfl, trivial⟩, hM.pick [0] rfl, (R64_lit rfl)⟩
              · clear hw1 hl1 hM
                rintro s o95 a w92 ⟨xs, ws, n90, rfl, hw1, hl1, hf, hM, hv91⟩ h96 hd97
                replace h96 : m_spec_l06Number_l3 nodes1 y56.place i67 e79 xs n90 = some o95 := h96
                unfold m_spec_l06Number_l3 at h96
                refine wp_seq ?_
                refine wp_seq ?_
                refine region_pl ?_
                refine q_ hf rfl rfl rfl (e_move hf rfl) fun a hf => ?_
                refine q_ hf rfl rfl rfl (e_move hf rfl) fun a hf => ?_
                refine q_ hf rfl rfl rfl (e_move hf rfl) fun a hf => ?_
                obtain ⟨e98, hz99, h96⟩ := bind_some h96
                obtain ⟨b103, o104, _, hA105, h100, h101, hr102, hM⟩ := hM.elem (hM.dat (k := 0) rfl) (n := 3) rfl hz99
                obtain ⟨A107, c108, rfl, hv106, hv109⟩ := NodeRep_open hr102
                have hM := hM.add (y := .dat (sliceRep intRep) e98.Next [vL A107 e98.Next c108]) hv109
                refine q_ hf rfl rfl rfl (e_indexAddr (A := A2) (b := b103) (o := o104) (xs := nodes1) (i := i67) hf hA105 rfl rfl Tryd.underlying24 Tryd.sizeOf76 h100 h101) fun a hf => ?_
                refine q_ hf rfl rfl rfl (e_field hf rfl Tryd.underlying76 rfl Tryd.sizeOf31 (o' := (o104 + (i67 : Int).toNat * 3) + 2) rfl) fun a hf => ?_
                refine q_ hf rfl rfl rfl (e_load1 hf rfl Tryd.isAgg31 (hM.litCell (k := 1) (j := 2) rfl rfl rfl)) fun a hf => ?_
                have hl110 := slice_len (hM.dat (k := 0) rfl)
                refine q_ hf rfl rfl rfl (e_lenL hf (x := e98.Next) rfl Tryd.underlying31) fun a hf => ?_
                refine q_ hf rfl rfl rfl (e_lt hf (x := n90) (y := (e98.Next.length : Int)) rfl rfl) fun a hf => ?_
                refine pl_nil ?_
                refine then_n ?_
                rcases cond_some h96 with ⟨hc111, h96⟩ | ⟨hc111, h96⟩
                · refine cond_t hf rfl hc111 ?_
                  refine wp_skip ?_
                  refine then_n ?_
                  refine wp_seq ?_
                  refine wp_block ?_
                  obtain ⟨e113, hz114, h96⟩ := bind_some h96
                  obtain ⟨A122, c123, hzx⟩ := nest_get hw1 hz114
                  have hat := nest_at 2 [.box b7 [vL A2 (nodes1) c3, vL A58 (y56.place) c59, vL A60 (y56.out) c61] 163, .row intRep A58 c59 2 y56.place true, .row NodeWRep A60 c61 76 ws true] hzx
                  obtain ⟨w112, hw⟩ : ∃ x, x = w92.drew := ⟨_, rfl⟩
                  refine region_pi (.q 0 (.q 1 (.q 2 (.q 3 (.q 4 (.q 5 (.q 6 (.q 7 (.q 8 (.q 9 (.q 10 (.q 11 (.q 12 (.q 13 (.q 14 (.q 15 (.q 16 (.q 17 (.q 18 (.q 19 (.q 20 (.q 21 (.q 22 (.q 23 (.q 24 (.q 25 (.q 26 (.l 27 (.l 28 (.q 29 (.q 30 (.l 31 (.nil))))))))))))))))))))))))))))))))) (ExtM [A122.map (·.block)] w112) rfl (by kernel_rfl) ?_
                  have hM := hM.drew
                  rw [← hw] at hM ⊢
                  clear hw
                  have hne : ∀ m : Nat, m < 3 → 3 + (e79 : Int).toNat ≠ m := fun m hm => by omega
                  have hap0 : ¬ some b7 ∈ [A122.map (·.block)] := apartN hM hat rfl (k := 0) rfl rfl (hne 0 (by decide))
                  refine pi_q hf rfl rfl rfl rfl (ExtM.refl _ _) (e_move hf rfl) fun a hf => ?_
                  refine pi_q hf rfl rfl rfl rfl (ExtM.refl _ _) (e_nil hf rfl) fun a hf => ?_
                  refine pi_q hf rfl rfl rfl rfl (ExtM.refl _ _) (e_field hf rfl Tryd.underlying163 rfl Tryd.sizeOf24 (o' := 2) rfl) fun a hf => ?_
                  refine pi_q hf rfl rfl rfl rfl (ExtM.refl _ _) (e_load1M hf rfl Tryd.isAgg24 (hM.boxCell (k := 0) rfl rfl) hap0) fun a hf => ?_
                  refine pi_q hf rfl rfl rfl rfl (ExtM.refl _ _) (e_move hf rfl) fun a hf => ?_
                  refine pi_q hf rfl rfl rfl rfl (ExtM.refl _ _) (e_move hf rfl) fun a hf => ?_
                  refine pi_q hf rfl rfl rfl rfl (ExtM.refl _ _) (e_nil hf rfl) fun a hf => ?_
                  refine pi_q hf rfl rfl rfl rfl (ExtM.refl _ _) (e_field hf rfl Tryd.underlying163 rfl Tryd.sizeOf24 (o' := 2) rfl) fun a hf => ?_
                  refine pi_q hf rfl rfl rfl rfl (ExtM.refl _ _) (e_load1M hf rfl Tryd.isAgg24 (hM.boxCell (k := 0) rfl rfl) hap0) fun a hf => ?_
                  refine pi_q hf rfl rfl rfl rfl (ExtM.refl _ _) (e_move hf rfl) fun a hf => ?_
                  obtain ⟨b119, _, hA120, h115, h116, hr117, hcell118⟩ := hM.rowElemN (k := 2) rfl (n := 3) rfl hzx
                  obtain ⟨rfl, hv121⟩ := hr117
                  have h116' : (e79 : Int) < y56.out.length := by rw [← hl1]; exact h116
                  have hap2 : ¬ some b119 ∈ [A122.map (·.block)] := apartN hM hat rfl (k := 2) rfl (by show A60.map (·.block) = _; rw [hA120]; rfl) (hne 2 (by decide))
                  refine pi_q hf rfl rfl rfl rfl (ExtM.refl _ _) (e_indexAddr (A := A60) (b := b119) (o := 0) (xs := y56.out) (i := e79) hf hA120 rfl rfl Tryd.underlying24 Tryd.sizeOf76 h115 h116') fun a hf => ?_
                  refine pi_q hf rfl rfl rfl rfl (ExtM.refl _ _) (e_field hf rfl Tryd.underlying76 rfl Tryd.sizeOf31 (o' := (0 + (e79 : Int).toNat * 3) + 2) rfl) fun a hf => ?_
                  refine pi_q hf rfl rfl rfl rfl (ExtM.refl _ _) (e_load1M hf rfl Tryd.isAgg31 (hcell118 2 _ rfl) hap2) fun a hf => ?_
                  refine pi_q hf rfl rfl rfl rfl (ExtM.refl _ _) (e_move hf rfl) fun a hf => ?_
                  refine pi_q hf rfl rfl rfl rfl (ExtM.refl _ _) (e_nil hf rfl) fun a hf => ?_
                  refine pi_q hf rfl rfl rfl rfl (ExtM.refl _ _) (e_field hf rfl Tryd.underlying163 rfl Tryd.sizeOf31 (o' := 1) rfl) fun a hf => ?_
                  refine pi_q hf rfl rfl rfl rfl (ExtM.refl _ _) (e_load1M hf rfl Tryd.isAgg31 (hM.boxCell (k := 0) rfl rfl) hap0) fun a hf => ?_
                  refine pi_q hf rfl rfl rfl rfl (ExtM.refl _ _) (e_move hf rfl) fun a hf => ?_
                  refine pi_q hf rfl rfl rfl rfl (ExtM.refl _ _) (e_move hf rfl) fun a hf => ?_
                  obtain ⟨e125, hz126, h96⟩ := bind_some h96
                  obtain ⟨b130, o131, _, hA132, h127, h128, hr129, hM⟩ := hM.elem (hM.dat (k := 2) rfl) (n := 3) rfl hz126
                  obtain ⟨A134, c135, rfl, hv133, hv136⟩ := NodeRep_open hr129
                  have hM := hM.add (y := .dat (sliceRep intRep) e125.Next [vL A134 e125.Next c135]) hv136
                  refine pi_q hf rfl rfl rfl rfl (ExtM.refl _ _) (e_indexAddr (A := A2) (b := b130) (o := o131) (xs := nodes1) (i := i67) hf hA132 rfl rfl Tryd.underlying24 Tryd.sizeOf76 h127 h128) fun a hf => ?_
                  refine pi_q hf rfl rfl rfl rfl (ExtM.refl _ _) (e_field hf rfl Tryd.underlying76 rfl Tryd.sizeOf31 (o' := (o131 + (i67 : Int).toNat * 3) + 2) rfl) fun a hf => ?_
                  refine pi_q hf rfl rfl rfl rfl (ExtM.refl _ _) (e_load1M hf rfl Tryd.isAgg31 (hM.litCell (k := 1) (j := 2) rfl rfl rfl) (apartNS hM hat rfl (hM.at_ (k := 1) rfl).1)) fun a hf => ?_
                  refine pi_q hf rfl rfl rfl rfl (ExtM.refl _ _) (e_move hf rfl) fun a hf => ?_
                  obtain ⟨e137, hz138, h96⟩ := bind_some h96
                  obtain ⟨b142, o143, _, hA144, h139, h140, hr141, hM⟩ := hM.elem (hM.dat (k := 0) rfl) (n := 1) rfl hz138
                  obtain ⟨rfl, hv145⟩ := hr141
                  refine pi_q hf rfl rfl rfl rfl (ExtM.refl _ _) (e_indexAddr (A := A134) (b := b142) (o := o143) (xs := e125.Next) (i := n90) hf hA144 rfl rfl Tryd.underlying31 Tryd.sizeOf2 h139 h140) fun a hf => ?_
                  refine pi_q hf rfl rfl rfl rfl (ExtM.refl _ _) (e_load1M hf rfl Tryd.isAgg2 (hM.litCell (k := 0) (j := 0) rfl rfl rfl) (apartNS hM hat rfl (hM.at_ (k := 0) rfl).1)) fun a hf => ?_
                  obtain ⟨e146, hz147, h96⟩ := bind_some h96
                  obtain ⟨b152, _, hA153, h148, h149, hr150, hcell151⟩ := hM.rowElemN (k := 1) rfl (n := 1) rfl hz147
                  obtain ⟨rfl, hv154⟩ := hr150
                  have hap1 : ¬ some b152 ∈ [A122.map (·.block)] := apartN hM hat rfl (k := 1) rfl (by show A58.map (·.block) = _; rw [hA153]; rfl) (hne 1 (by decide))
                  refine pi_q hf rfl rfl rfl rfl (ExtM.refl _ _) (e_indexAddr (A := A58) (b := b152) (o := 0) (xs := y56.place) (i := e137) hf hA153 rfl rfl Tryd.underlying31 Tryd.sizeOf2 h148 h149) fun a hf => ?_
                  refine pi_q hf rfl rfl rfl rfl (ExtM.refl _ _) (e_load1M hf rfl Tryd.isAgg2 (hcell151 0 _ rfl) hap1) fun a hf => ?_
                  refine pi_one ?_
                  refine pi_l hf rfl rfl rfl rfl (w_slice hf hM (K := intRep) (xs := ([e146] : (List Int))) (os := [.tmp 80]) Tryd.underlying31 ei_2 rfl rfl rfl rfl rfl ⟨⟨[vI (e146)], rfl, ⟨rfl, hv154⟩⟩, trivial⟩ rfl fun b155 w156 hx157 hM => ⟨ExtM [A122.map (·.block)] w156, fun _ h => ExtM.trans hx157 h, ExtM.refl _ _, fun a hf => ?_⟩)
                  refine pi_one ?_
                  obtain ⟨ys, hzy, h96⟩ := bind_some h96
                  obtain ⟨xs2, hzs, h96⟩ := bind_some h96
                  have hat2 := nest_at 2 [.row intRep (some ⟨b155, 0, none⟩) 1 2 ([e146] : (List Int)) true, .box b7 [vL A2 (nodes1) c3, vL A58 (y56.place) c59, vL A60 (y56.out) c61] 163, .row intRep A58 c59 2 y56.place true, .row NodeWRep A60 c61 76 ws true] hzx
                  refine pi_l hf rfl rfl rfl rfl (w_appendX hf hM Tryd.underlying31 ei_2 rfl rfl rfl (k := 4 + (e79 : Int).toNat) hat2 (hM.srcRow (k := 0) rfl) hzy fun A40 c41 w158 hsz160 hold159 hM => ⟨Ext w158, fun _ h => ExtM.last (ExtM.ofRow (List.mem_of_getElem? (i := 0) rfl) hold159) hsz160 h, Ext.refl _, fun a hf => ?_⟩)
                  have hM : Mem C w158 ([.row intRep (some ⟨b155, 0, none⟩) 1 2 ([e146] : (List Int)) true, .box b7 [vL A2 (nodes1) c3, vL A58 (y56.place) c59, vL A60 (y56.out) c61] 163, .row intRep A58 c59 2 y56.place true, .row NodeWRep A60 c61 76 ws true] ++ nestO 2 (ws.set (e79 : Int).toNat ⟨e113.Final, e113.Letters, A40, c41, ys⟩)) _ := (nest_set 2 [.row intRep (some ⟨b155, 0, none⟩) 1 2 ([e146] : (List Int)) true, .box b7 [vL A2 (nodes1) c3, vL A58 (y56.place) c59, vL A60 (y56.out) c61] 163, .row intRep A58 c59 2 y56.place true, .row NodeWRep A60 c61 76 ws true] (ws := ws) (i := e79) ⟨e113.Final, e113.Letters, A40, c41, ys⟩) ▸ hM
                  refine pi_q hf rfl rfl rfl rfl (Ext.refl _) (e_indexAddr (A := A60) (b := b119) (o := 0) (xs := y56.out) (i := e79) hf hA120 rfl rfl Tryd.underlying24 Tryd.sizeOf76 h115 h116') fun a hf => ?_
                  refine pi_q hf rfl rfl rfl rfl (Ext.refl _) (e_field hf rfl Tryd.underlying76 rfl Tryd.sizeOf31 (o' := (0 + (e79 : Int).toNat * 3) + 2) rfl) fun a hf => ?_
                  refine pi_one ?_
                  obtain ⟨_, _, _, hr162, hcell163⟩ := hM.rowElemA hA120 (k := 3) rfl (n := 3) rfl hzx
                  obtain ⟨rfl, hv163⟩ := hr162
                  refine pi_z0 hf rfl rfl rfl (by kernel_rfl) (w_storePart hf hM (K := NodeWRep) (x := (⟨e113.Final, e113.Letters, A40, c41, ys⟩ : NodeW)) (us := [vL A40 (ys) c41]) (row := [.bool (e113.Final), vS (e113.Letters), vL A122 (e113.Next) c123]) (i := e79) (d := 2) rfl rfl rfl hA120 (k := 3) rfl rfl Tryd.sizeOf31 hcell163 ⟨rfl, hv163⟩ (setL_nest hzx) rfl rfl fun w200 hM => ?_)
                  have hM : Mem C w200 ([.row intRep (some ⟨b155, 0, none⟩) 1 2 ([e146] : (List Int)) true, .box b7 [vL A2 (nodes1) c3, vL A58 (y56.place) c59, vL A60 (y56.out) c61] 163, .row intRep A58 c59 2 y56.place true, .row NodeWRep A60 c61 76 (ws.set (e79 : Int).toNat ⟨e113.Final, e113.Letters, A40, c41, ys⟩) true] ++ nestO 2 (ws.set (e79 : Int).toNat ⟨e113.Final, e113.Letters, A40, c41, ys⟩)) _ := hM
                  refine pi_nil ?_
                  refine blk_n ?_
                  refine then_n ?_
                  refine region_pl ?_
                  refine q_ hf rfl rfl rfl (e_move hf rfl) fun a hf => ?_
                  obtain ⟨z170, hz171, h96⟩ := bind_some h96
                  refine q_ hf rfl rfl rfl (e_add hf rfl rfl hz171) fun a hf => ?_
                  refine q_ hf rfl rfl rfl (e_assign hf rfl) fun a hf => ?_
                  refine pl_nil ?_
                  obtain rfl := some_inj h96
                  refine then_n ⟨_, rfl, ?_⟩
                  exact ⟨xs2, ws.set (e79 : Int).toNat ⟨e113.Final, e113.Letters, A40, c41, ys⟩, z170, rfl, nest_to hw1 hzs rfl, by rw [List.length_set]; exact hl1, hf.keep ⟨rfl, rfl, rfl, rfl, rfl, trivial⟩, (hM.drop (.cons _ (List.Sublist.refl _))).pick [5] rfl, (chk_R hz171)⟩
                · refine cond_f hf rfl hc111 ?_
                  refine wp_exit ?_
                  refine then_x ?_
                  obtain rfl := some_inj h96
                  obtain rfl := hd97 _ rfl
                  refine then_x ?_
                  refine exit_hit ?_
                  refine blk_n ?_
                  refine then_n ?_
                  exact ⟨xs, ws, rfl, hw1, hl1, hf.keep ⟨rfl, rfl, rfl, trivial⟩, hM.pick [2] rfl⟩
          · clear hw1 hl1 hM
            rintro a w177 ⟨xs, ws, rfl, hw1, hl1, hf, hM⟩
            try dsimp only at h73
            refine region_pl ?_
            refine q_ hf rfl rfl rfl (e_move hf rfl) fun a hf => ?_
            obtain ⟨z178, hz179, h73⟩ := bind_some h73
            refine q_ hf rfl rfl rfl (e_add hf rfl rfl hz179) fun a hf => ?_
            refine q_ hf rfl rfl rfl (e_assign hf rfl) fun a hf => ?_
            refine pl_nil ?_
            obtain rfl := some_inj h73
            refine then_n ⟨_, rfl, ?_⟩
            exact ⟨xs, ws, z178, rfl, hw1, hl1, hf.keep ⟨rfl, rfl, rfl, trivial⟩, hM.pick [0] rfl, (chk_R hz179)⟩
        · refine cond_f hf rfl hc76 ?_
          refine wp_exit ?_
          refine then_x ?_
          obtain rfl := some_inj h73
          obtain rfl := hd74 _ rfl
          refine then_x ?_
          refine exit_hit ?_
          refine then_n ?_
          exact ⟨xs, ws, rfl, hw1, hl1, hf.keep ⟨rfl, trivial⟩, hM.pick [0] rfl⟩
    · clear hM
      rintro a w185 ⟨xs, ws, rfl, hw1, hl1, hf, hM⟩
      try dsimp only at h
      obtain rfl := some_inj h
      refine wp_seq ?_
      refine region_pl ?_
      refine q_ hf rfl rfl rfl (e_move hf rfl) fun a hf => ?_
      refine q_ hf rfl rfl rfl (e_nil hf rfl) fun a hf => ?_
      refine q_ hf rfl rfl rfl (e_field hf rfl Tryd.underlying163 rfl Tryd.sizeOf24 (o' := 2) rfl) fun a hf => ?_
      refine q_ hf rfl rfl rfl (e_load1 hf rfl Tryd.isAgg24 (hM.boxCell (k := 0) rfl rfl)) fun a hf => ?_
      refine q_ hf rfl rfl rfl (e_assign hf rfl) fun a hf => ?_
      refine pl_nil ?_
      refine then_n ?_
      refine wp_ret ?_
      have hM := hM.unnest hw1
      have hlen : vL A60 y56.out c61 = vL A60 xs c61 := by unfold vL; rw [← hl1, ← hw1, List.length_map]
      rw [hlen] at hf
      exact leave1 hf rfl rfl ⟨A60, c61, rfl, hM.fin, (hM.dat (k := 0) rfl)⟩

set_option maxRecDepth 100000 in
set_option maxHeartbeats 4000000 in
theorem r_spec_l06Build (C : Cx) (list1 : (List Str)) (A2 : Option Addr) (c3 : Nat) (hp4 : (sliceRep strRep).R C.w0 C.S0 list1 [vL A2 list1 c3]) (r : Dawg) (h : m_spec_l06Build list1 = some r) :
    Calls Tryd.prog 71 #[vL A2 (list1) c3] C.w0 fun e w => ∃ (A_1 : Option Addr), ∃ (c_1 : Nat), e = .returned (.agg #[vL A_1 (r.Nodes) c_1]) ∧ Mem C w [] [] ∧ (sliceRep NodeRep).R w (Sh C [] w) r.Nodes [vL A_1 r.Nodes c_1] := by
  have hM := Mem.begin C [.dat (sliceRep strRep) list1 [vL A2 list1 c3]] ⟨hp4, trivial⟩
  refine enter Tryd.func71 rfl Tryd.ntmps71 rfl fun a hf => ?_
  unfold m_spec_l06Build at h
  refine wp_seq ?_
  refine region_pl ?_
  refine pl_l hf rfl rfl rfl (w_alloc hM (cs := [vL none (([] : (List Node))) 0]) Tryd.zeroValue26 rfl fun b5 w6 hx7 hM a hf => ?_)
  refine pl_nil ?_
  refine then_n ?_
  refine wp_seq ?_
  refine region_pl ?_
  refine q_ hf rfl rfl rfl (e_build hf Tryd.zeroValue140 Tryd.underlying140 (bp_140 _ Tryd.underlying140.symm) rfl (cs := #[vL none (([] : (List Node))) 0]) (by kernel_rfl)) fun a hf => ?_
  refine pl_l hf rfl rfl rfl (w_box hf hM (cs := [vL none (([] : (List Node))) 0]) rfl rfl fun b9 w10 hx11 hM a hf => ?_)
  refine q_ hf rfl rfl rfl (e_assign hf rfl) fun a hf => ?_
  refine pl_nil ?_
  refine then_n ?_
  refine wp_seq ?_
  refine region_pl ?_
  refine q_ hf rfl rfl rfl (e_move hf rfl) fun a hf => ?_
  refine q_ hf rfl rfl rfl (e_move hf rfl) fun a hf => ?_
  have hM := hM.nilRow NodeRep 76
  have hM := hM.front (k := 0) rfl
  dsimp only [List.eraseIdx] at hM
  have hM := hM.front (k := 1) rfl
  dsimp only [List.eraseIdx] at hM
  have hM : Mem C _ ([.box b9 [vL none (([] : (List Node))) 0] 140, .row NodeRep none 0 76 ([] : (List Node)) true] ++ [.box b5 [vL none (([] : (List Node))) 0] 26]) _ := hM
  obtain ⟨y13, hz14, h⟩ := bind_some h
  refine pl_l hf rfl rfl rfl (w_call hf Tryd.call97 rfl (r_spec_l06B_build ⟨_, Sh C _ _, ownB _, hM.sh_lt, sub_dis, C.G, hM.g_lt, hM.g_own, hM.tabs⟩ (⟨([] : (List Node))⟩ : l06B) _ _ _ list1 _ _ (hM.dat (k := 0) rfl) hM.sub sub_dis _ hz14) ?_)
  rintro _ w18 ⟨A15, c16, rfl, hM2, hv17⟩
  obtain ⟨hM, hup20⟩ := hM.backG hM2
  dsimp only [List.cons_append, List.nil_append] at hM hup20
  clear hM2
  refine ⟨_, rfl, fun a hf => ?_⟩
  refine q_ hf rfl rfl rfl (e_assign hf rfl) fun a hf => ?_
  refine pl_nil ?_
  refine then_n ?_
  refine wp_seq ?_
  refine region_pl ?_
  refine q_ hf rfl rfl rfl (e_move hf rfl) fun a hf => ?_
  refine q_ hf rfl rfl rfl (e_nil hf rfl) fun a hf => ?_
  refine q_ hf rfl rfl rfl (e_field hf rfl Tryd.underlying140 rfl Tryd.sizeOf24 (o' := 0) rfl) fun a hf => ?_
  refine q_ hf rfl rfl rfl (e_load1 hf rfl Tryd.isAgg24 (hM.boxCell (k := 0) rfl rfl)) fun a hf => ?_
  refine q_ hf rfl rfl rfl (e_move hf rfl) fun a hf => ?_
  have hM := hM.freezeRow (k := 1) rfl rfl
  dsimp only [List.eraseIdx] at hM
  obtain ⟨y21, hz22, h⟩ := bind_some h
  refine pl_l hf rfl rfl rfl (w_call hf Tryd.call98 rfl (r_spec_l06Number ⟨_, Sh C _ _, none_, hM.sh_lt, none_not, C.G, hM.g_lt, g_none, hM.tabs⟩ y13.2.nodes _ _ (hM.dat (k := 0) rfl) y13.1 hv17 _ hz22) ?_)
  rintro _ w26 ⟨A23, c24, rfl, hM2, hv25⟩
  obtain ⟨hM, hx27, hup28⟩ := hM.back hM2
  dsimp only [List.cons_append, List.nil_append] at hM hup28
  clear hM2
  have hM := hM.add (y := .dat (sliceRep NodeRep) y21 [vL A23 y21 c24]) (hup28 hv25)
  refine ⟨_, rfl, fun a hf => ?_⟩
  refine q_ hf rfl rfl rfl (e_build hf Tryd.zeroValue26 Tryd.underlying26 (bp_26 _ Tryd.underlying26.symm) rfl (cs := #[vL A23 (y21) c24]) (by kernel_rfl)) fun a hf => ?_
  refine pl_0 hf rfl rfl (w_store hf hM (us := [vL A23 (y21) c24]) (cs' := [vL A23 (y21) c24]) rfl rfl (k := 1) rfl rfl Tryd.sizeOf26 rfl rfl rfl fun w29 hM => ?_)
  dsimp only [List.set] at hM
  refine pl_nil ?_
  refine then_n ?_
  refine wp_ret ?_
  obtain rfl := some_inj h
  have hres32 := leaveV1 (P := Tryd.prog) (w := w29) Tryd.results71 (res_agg hf rfl ⟨Tryd.isAgg26, Tryd.sizeOf26⟩ (us := [vL A23 (y21) c24]) rfl (hM.boxSub (k := 1) (o := 0) rfl rfl))
  have hM := hM.outs (own' := []) 0 rfl
  exact bodyPost_ret hres32 hf.defers ⟨A23, c24, rfl, hM.fin, (hM.dat (k := 0) rfl)⟩

set_option maxRecDepth 100000 in
set_option maxHeartbeats 4000000 in
theorem r_spec_l06Same (C : Cx) (a1 : Dawg) (b2 : Nat) (o3 : Nat) (hp4 : (ptrRep DawgRep).R C.w0 C.S0 a1 [vP b2 o3]) (b5 : Dawg) (b6 : Nat) (o7 : Nat) (hp8 : (ptrRep DawgRep).R C.w0 C.S0 b5 [vP b6 o7]) (r : Bool) (h : m_spec_l06Same a1 b5 = some r) :
    Calls Tryd.prog 74 #[vP b2 (o3), vP b6 (o7)] C.w0 fun e w => e = .returned (.bool (r)) ∧ Mem C w [] [] := by
  have hM := Mem.begin C [.dat (ptrRep DawgRep) b5 [vP b6 o7], .dat (ptrRep DawgRep) a1 [vP b2 o3]] ⟨hp8, hp4, trivial⟩
  refine enter Tryd.func74 rfl Tryd.ntmps74 rfl fun a hf => ?_
  unfold m_spec_l06Same at h
  refine wp_seq ?_
  refine region_pl ?_
  refine q_ hf rfl rfl rfl (e_assign hf rfl) fun a hf => ?_
  refine pl_nil ?_
  refine then_n ?_
  refine wp_seq ?_
  refine wp_seq ?_
  obtain ⟨w9, hw⟩ : ∃ x, x = C.w0.drew := ⟨_, rfl⟩
  refine region_pi (.q 0 (.q 1 (.q 2 (.q 3 (.q 4 (.q 5 (.q 6 (.q 7 (.q 8 (.q 9 (.q 10 (.nil)))))))))))) (Ext w9) rfl (by kernel_rfl) ?_
  have hM := hM.drew
  rw [← hw] at hM ⊢
  clear hw
  refine pi_q hf rfl rfl rfl rfl (Ext.refl _) (e_move hf rfl) fun a hf => ?_
  refine pi_q hf rfl rfl rfl rfl (Ext.refl _) (e_nil hf rfl) fun a hf => ?_
  obtain ⟨_, hr10, hM⟩ := hM.deref (hM.dat (k := 1) rfl)
  obtain ⟨A11, c12, rfl, hv13⟩ := DawgRep_open hr10
  have hM := hM.add (y := .dat (sliceRep NodeRep) a1.Nodes [vL A11 a1.Nodes c12]) hv13
  refine pi_q hf rfl rfl rfl rfl (Ext.refl _) (e_field hf rfl Tryd.underlying26 rfl Tryd.sizeOf24 (o' := o3 + 0) rfl) fun a hf => ?_
  refine pi_q hf rfl rfl rfl rfl (Ext.refl _) (e_load1 hf rfl Tryd.isAgg24 (hM.litCell (k := 1) (j := 0) rfl rfl rfl)) fun a hf => ?_
  have hl14 := slice_len (hM.dat (k := 0) rfl)
  refine pi_q hf rfl rfl rfl rfl (Ext.refl _) (e_lenL hf (x := a1.Nodes) rfl Tryd.underlying24) fun a hf => ?_
  refine pi_q hf rfl rfl rfl rfl (Ext.refl _) (e_move hf rfl) fun a hf => ?_
  refine pi_q hf rfl rfl rfl rfl (Ext.refl _) (e_nil hf rfl) fun a hf => ?_
  obtain ⟨_, hr15, hM⟩ := hM.deref (hM.dat (k := 2) rfl)
  obtain ⟨A16, c17, rfl, hv18⟩ := DawgRep_open hr15
  have hM := hM.add (y := .dat (sliceRep NodeRep) b5.Nodes [vL A16 b5.Nodes c17]) hv18
  refine pi_q hf rfl rfl rfl rfl (Ext.refl _) (e_field hf rfl Tryd.underlying26 rfl Tryd.sizeOf24 (o' := o7 + 0) rfl) fun a hf => ?_
  refine pi_q hf rfl rfl rfl rfl (Ext.refl _) (e_load1 hf rfl Tryd.isAgg24 (hM.litCell (k := 1) (j := 0) rfl rfl rfl)) fun a hf => ?_
  have hl19 := slice_len (hM.dat (k := 0) rfl)
  refine pi_q hf rfl rfl rfl rfl (Ext.refl _) (e_lenL hf (x := b5.Nodes) rfl Tryd.underlying24) fun a hf => ?_
  refine pi_q hf rfl rfl rfl rfl (Ext.refl _) (e_ne hf (x := (a1.Nodes.length : Int)) (y := (b5.Nodes.length : Int)) rfl rfl) fun a hf => ?_
  refine pi_nil ?_
  refine then_n ?_
  rcases cond_some h with ⟨hc20, h⟩ | ⟨hc20, h⟩
  · refine cond_t hf rfl hc20 ?_
    refine wp_seq ?_
    refine region_pl ?_
    refine q_ hf rfl rfl rfl (e_assign hf rfl) fun a hf => ?_
    refine pl_nil ?_
    refine then_n ?_
    refine wp_ret ?_
    refine then_r ?_
    obtain rfl := some_inj h
    exact leave1 hf rfl rfl ⟨rfl, hM.fin⟩
  · refine cond_f hf rfl hc20 ?_
    refine wp_skip ?_
    refine then_n ?_
    obtain ⟨x21, h22, h⟩ := bind_some h
    refine seq_join (fun a w => (.inl ()) = x21 ∧ Has 40 a [] ∧ Mem C w [] [.dat (sliceRep NodeRep) b5.Nodes [vL A16 b5.Nodes c17], .lit b6 (o7) [vL A16 (b5.Nodes) c17], .dat (sliceRep NodeRep) a1.Nodes [vL A11 a1.Nodes c12], .lit b2 (o3) [vL A11 (a1.Nodes) c12], .dat (ptrRep DawgRep) b5 [vP b6 o7], .dat (ptrRep DawgRep) a1 [vP b2 o3]]) ?_ ?_
    · refine wp_seq ?_
      refine region_pl ?_
      refine q_ hf rfl rfl rfl (e_assign hf rfl) fun a hf => ?_
      refine pl_nil ?_
      refine then_n ?_
      refine wp_block ?_
      obtain ⟨x26, h27, h22⟩ := bind_some h22
      refine wp_loopM h27 (fun s a w => ∃ (n23 : Int), n23 = s ∧ Has 40 a [(0, vP b2 (o3)), (1, vP b6 (o7)), (5, vI (n23))] ∧ Mem C w [] [.dat (sliceRep NodeRep) b5.Nodes [vL A16 b5.Nodes c17], .lit b6 (o7) [vL A16 (b5.Nodes) c17], .dat (sliceRep NodeRep) a1.Nodes [vL A11 a1.Nodes c12], .lit b2 (o3) [vL A11 (a1.Nodes) c12], .dat (ptrRep DawgRep) b5 [vP b6 o7], .dat (ptrRep DawgRep) a1 [vP b2 o3]] ∧ R64 n23) ?_ ?_
      · exact ⟨0, rfl, hf.keep ⟨rfl, rfl, rfl, trivial⟩, hM.pick [0, 1, 2, 3, 4, 5] rfl, (R64_lit rfl)⟩
      · rintro s o28 a w25 ⟨n23, rfl, hf, hM, hv24⟩ h29 hd30
        replace h29 : m_spec_l06Same_l1 a1 b5 n23 = some o28 := h29
        unfold m_spec_l06Same_l1 at h29
        refine wp_seq ?_
        refine wp_seq ?_
        refine region_pl ?_
        refine q_ hf rfl rfl rfl (e_move hf rfl) fun a hf => ?_
        refine q_ hf rfl rfl rfl (e_move hf rfl) fun a hf => ?_
        refine q_ hf rfl rfl rfl (e_nil hf rfl) fun a hf => ?_
        refine q_ hf rfl rfl rfl (e_field hf rfl Tryd.underlying26 rfl Tryd.sizeOf24 (o' := o3 + 0) rfl) fun a hf => ?_
        refine q_ hf rfl rfl rfl (e_load1 hf rfl Tryd.isAgg24 (hM.litCell (k := 3) (j := 0) rfl rfl rfl)) fun a hf => ?_
        have hl31 := slice_len (hM.dat (k := 2) rfl)
        refine q_ hf rfl rfl rfl (e_lenL hf (x := a1.Nodes) rfl Tryd.underlying24) fun a hf => ?_
        refine q_ hf rfl rfl rfl (e_lt hf (x := n23) (y := (a1.Nodes.length : Int)) rfl rfl) fun a hf => ?_
        refine pl_nil ?_
        refine then_n ?_
        rcases cond_some h29 with ⟨hc32, h29⟩ | ⟨hc32, h29⟩
        · refine cond_t hf rfl hc32 ?_
          refine wp_skip ?_
          refine then_n ?_
          refine wp_seq ?_
          refine wp_block ?_
          refine wp_seq ?_
          obtain ⟨w33, hw⟩ : ∃ x, x = w25.drew := ⟨_, rfl⟩
          refine region_pi (.q 0 (.q 1 (.q 2 (.q 3 (.q 4 (.q 5 (.q 6 (.q 7 (.q 8 (.q 9 (.q 10 (.q 11 (.l 12 (.q 13 (.nil))))))))))))))) (Ext w33) rfl (by kernel_rfl) ?_
          have hM := hM.drew
          rw [← hw] at hM ⊢
          clear hw
          refine pi_q hf rfl rfl rfl rfl (Ext.refl _) (e_move hf rfl) fun a hf => ?_
          refine pi_q hf rfl rfl rfl rfl (Ext.refl _) (e_nil hf rfl) fun a hf => ?_
          refine pi_q hf rfl rfl rfl rfl (Ext.refl _) (e_field hf rfl Tryd.underlying26 rfl Tryd.sizeOf24 (o' := o3 + 0) rfl) fun a hf => ?_
          refine pi_q hf rfl rfl rfl rfl (Ext.refl _) (e_load1 hf rfl Tryd.isAgg24 (hM.litCell (k := 3) (j := 0) rfl rfl rfl)) fun a hf => ?_
          refine pi_q hf rfl rfl rfl rfl (Ext.refl _) (e_move hf rfl) fun a hf => ?_
          obtain ⟨e34, hz35, h29⟩ := bind_some h29
          obtain ⟨b39, o40, _, hA41, h36, h37, hr38, hM⟩ := hM.elem (hM.dat (k := 2) rfl) (n := 3) rfl hz35
          obtain ⟨A43, c44, rfl, hv42, hv45⟩ := NodeRep_open hr38
          have hM := hM.add (y := .dat (sliceRep intRep) e34.Next [vL A43 e34.Next c44]) hv45
          refine pi_q hf rfl rfl rfl rfl (Ext.refl _) (e_indexAddr (A := A11) (b := b39) (o := o40) (xs := a1.Nodes) (i := n23) hf hA41 rfl rfl Tryd.underlying24 Tryd.sizeOf76 h36 h37) fun a hf => ?_
          refine pi_q hf rfl rfl rfl rfl (Ext.refl _) (e_move hf rfl) fun a hf => ?_
          refine pi_q hf rfl rfl rfl rfl (Ext.refl _) (e_nil hf rfl) fun a hf => ?_
          refine pi_q hf rfl rfl rfl rfl (Ext.refl _) (e_field hf rfl Tryd.underlying26 rfl Tryd.sizeOf24 (o' := o7 + 0) rfl) fun a hf => ?_
          refine pi_q hf rfl rfl rfl rfl (Ext.refl _) (e_load1 hf rfl Tryd.isAgg24 (hM.litCell (k := 3) (j := 0) rfl rfl rfl)) fun a hf => ?_
          refine pi_q hf rfl rfl rfl rfl (Ext.refl _) (e_move hf rfl) fun a hf => ?_
          obtain ⟨e46, hz47, h29⟩ := bind_some h29
          obtain ⟨b51, o52, _, hA53, h48, h49, hr50, hM⟩ := hM.elem (hM.dat (k := 2) rfl) (n := 3) rfl hz47
          obtain ⟨A55, c56, rfl, hv54, hv57⟩ := NodeRep_open hr50
          have hM := hM.add (y := .dat (sliceRep intRep) e46.Next [vL A55 e46.Next c56]) hv57
          refine pi_q hf rfl rfl rfl rfl (Ext.refl _) (e_indexAddr (A := A16) (b := b51) (o := o52) (xs := b5.Nodes) (i := n23) hf hA53 rfl rfl Tryd.underlying24 Tryd.sizeOf76 h48 h49) fun a hf => ?_
          refine pi_one ?_
          obtain ⟨y58, hz59, h29⟩ := bind_some h29
          refine pi_l hf rfl rfl rfl rfl (w_call hf Tryd.call100 rfl (r_spec_l06Equal ⟨_, Sh C _ _, none_, hM.sh_lt, none_not, C.G, hM.g_lt, g_none, hM.tabs⟩ e34 _ _ (hM.litPtr (k := 3) (d := 0) (us := [.bool (e34.Final), vS (e34.Letters), vL A43 (e34.Next) c44]) rfl rfl rfl (NodeRep_mk (x := e34) hv42 (hM.dat (k := 2) rfl))) e46 _ _ (hM.litPtr (k := 1) (d := 0) (us := [.bool (e46.Final), vS (e46.Letters), vL A55 (e46.Next) c56]) rfl rfl rfl (NodeRep_mk (x := e46) hv54 (hM.dat (k := 0) rfl))) _ hz59) ?_)
          rintro _ w60 ⟨rfl, hM2⟩
          obtain ⟨hM, hx61, hup62⟩ := hM.back hM2
          dsimp only [List.cons_append, List.nil_append] at hM hup62
          clear hM2
          refine ⟨_, rfl, Ext w60, fun _ h => Ext.trans hx61 h, Ext.refl _, fun a hf => ?_⟩
          refine pi_q hf rfl rfl rfl rfl (Ext.refl _) (e_not hf rfl) fun a hf => ?_
          refine pi_nil ?_
          refine then_n ?_
          rcases cond_some h29 with ⟨hc63, h29⟩ | ⟨hc63, h29⟩
          · refine cond_t hf rfl hc63 ?_
            refine wp_seq ?_
            refine region_pl ?_
            refine q_ hf rfl rfl rfl (e_assign hf rfl) fun a hf => ?_
            refine pl_nil ?_
            refine then_n ?_
            refine wp_ret ?_
            refine blk_r ?_
            refine then_r ?_
            obtain rfl := some_inj h29
            obtain rfl := hd30 _ rfl
            try dsimp only at h22
            refine then_r ?_
            refine blk_r ?_
            obtain rfl := some_inj h22
            try dsimp only at h
            refine then_r ?_
            obtain rfl := some_inj h
            exact leave1 hf rfl rfl ⟨rfl, hM.fin⟩
          · refine cond_f hf rfl hc63 ?_
            refine wp_skip ?_
            refine blk_n ?_
            refine then_n ?_
            refine region_pl ?_
            refine q_ hf rfl rfl rfl (e_move hf rfl) fun a hf => ?_
            obtain ⟨z64, hz65, h29⟩ := bind_some h29
            refine q_ hf rfl rfl rfl (e_add hf rfl rfl hz65) fun a hf => ?_
            refine q_ hf rfl rfl rfl (e_assign hf rfl) fun a hf => ?_
            refine pl_nil ?_
            obtain rfl := some_inj h29
            refine then_n ⟨_, rfl, ?_⟩
            exact ⟨z64, rfl, hf.keep ⟨rfl, rfl, rfl, trivial⟩, hM.pick [4, 5, 6, 7, 8, 9] rfl, (chk_R hz65)⟩
        · refine cond_f hf rfl hc32 ?_
          refine wp_exit ?_
          refine then_x ?_
          obtain rfl := some_inj h29
          obtain rfl := hd30 _ rfl
          try dsimp only at h22
          refine then_x ?_
          refine exit_hit ?_
          obtain rfl := some_inj h22
          refine then_n ?_
          exact ⟨rfl, hf.keep trivial, hM.pick [0, 1, 2, 3, 4, 5] rfl⟩
    · rintro a w72 ⟨rfl, hf, hM⟩
      try dsimp only at h
      refine wp_seq ?_
      refine region_pl ?_
      refine q_ hf rfl rfl rfl (e_assign hf rfl) fun a hf => ?_
      refine pl_nil ?_
      refine then_n ?_
      refine wp_ret ?_
      obtain rfl := some_inj h
      exact leave1 hf rfl rfl ⟨rfl, hM.fin⟩

set_option maxRecDepth 100000 in
set_option maxHeartbeats 4000000 in
theorem r_spec_l06Ok (C : Cx) (d1 : Dawg) (b2 : Nat) (o3 : Nat) (hp4 : (ptrRep DawgRep).R C.w0 C.S0 d1 [vP b2 o3]) (r : Bool) (h : m_spec_l06Ok d1 = some r) :
    Calls Tryd.prog 43 #[vP b2 (o3)] C.w0 fun e w => e = .returned (.bool (r)) ∧ Mem C w [] [] := by
  have hM := Mem.begin C [.dat (ptrRep DawgRep) d1 [vP b2 o3]] ⟨hp4, trivial⟩
  refine enter Tryd.func43 rfl Tryd.ntmps43 rfl fun a hf => ?_
  unfold m_spec_l06Ok at h
  refine wp_seq ?_
  refine region_pl ?_
  refine q_ hf rfl rfl rfl (e_assign hf rfl) fun a hf => ?_
  refine pl_nil ?_
  refine then_n ?_
  refine wp_seq ?_
  obtain ⟨x7, h8, h⟩ := bind_some h
  refine seq_join (fun a w => ∃ (t5 : Bool), t5 = x7 ∧ Has 34 a [(0, vP b2 (o3)), (22, .bool (t5))] ∧ Mem C w [] [.dat (ptrRep DawgRep) d1 [vP b2 o3]]) ?_ ?_
  · refine region_pl ?_
    refine q_ hf rfl rfl rfl (e_move hf rfl) fun a hf => ?_
    obtain ⟨y9, hz10, h8⟩ := bind_some h8
    refine pl_l hf rfl rfl rfl (w_call hf Tryd.call72 rfl (r_spec_l06Shape ⟨_, Sh C _ _, none_, hM.sh_lt, none_not, C.G, hM.g_lt, g_none, hM.tabs⟩ d1 _ _ (hM.dat (k := 0) rfl) _ hz10) ?_)
    rintro _ w11 ⟨rfl, hM2⟩
    obtain ⟨hM, hx12, hup13⟩ := hM.back hM2
    dsimp only [List.cons_append, List.nil_append] at hM hup13
    clear hM2
    refine ⟨_, rfl, fun a hf => ?_⟩
    refine q_ hf rfl rfl rfl (e_not hf rfl) fun a hf => ?_
    refine q_ hf rfl rfl rfl (e_move hf rfl) fun a hf => ?_
    rcases cond_some h8 with ⟨hc14, h8⟩ | ⟨hc14, h8⟩
    · refine pl_gs (wanted_f hf rfl rfl rfl rfl hc14) hf rfl rfl fun a hf => ?_
      refine pl_gs (wanted_f hf rfl rfl rfl rfl hc14) hf rfl rfl fun a hf => ?_
      refine pl_gs (wanted_f hf rfl rfl rfl rfl hc14) hf rfl rfl fun a hf => ?_
      refine pl_gs (wanted_f hf rfl rfl rfl rfl hc14) hf rfl rfl fun a hf => ?_
      refine pl_gs (wanted_f hf rfl rfl rfl rfl hc14) hf rfl rfl fun a hf => ?_
      refine pl_gs (wanted_f hf rfl rfl rfl rfl hc14) hf rfl rfl fun a hf => ?_
      refine pl_gs (wanted_f hf rfl rfl rfl rfl hc14) hf rfl rfl fun a hf => ?_
      refine q_ hf rfl rfl rfl (e_pick_t hf rfl hc14 rfl) fun a hf => ?_
      refine q_ hf rfl rfl rfl (e_move hf rfl) fun a hf => ?_
      refine pl_gs (wanted_f hf rfl rfl rfl rfl rfl) hf rfl rfl fun a hf => ?_
      refine pl_gs (wanted_f hf rfl rfl rfl rfl rfl) hf rfl rfl fun a hf => ?_
      refine pl_gs (wanted_f hf rfl rfl rfl rfl rfl) hf rfl rfl fun a hf => ?_
      refine q_ hf rfl rfl rfl (e_pick_t hf rfl rfl rfl) fun a hf => ?_
      refine pl_nil ?_
      obtain rfl := some_inj h8
      refine then_n ?_
      exact ⟨true, rfl, hf.keep ⟨rfl, rfl, trivial⟩, hM.pick [0] rfl⟩
    · refine gq (wanted_t hf rfl rfl rfl rfl hc14) hf rfl rfl (e_move hf rfl) fun a hf => ?_
      refine gq (wanted_t hf rfl rfl rfl rfl hc14) hf rfl rfl (e_nil hf rfl) fun a hf => ?_
      obtain ⟨_, hr16, hM⟩ := hM.deref (hM.dat (k := 0) rfl)
      obtain ⟨A17, c18, rfl, hv19⟩ := DawgRep_open hr16
      have hM := hM.add (y := .dat (sliceRep NodeRep) d1.Nodes [vL A17 d1.Nodes c18]) hv19
      refine gq (wanted_t hf rfl rfl rfl rfl hc14) hf rfl rfl (e_field hf rfl Tryd.underlying26 rfl Tryd.sizeOf24 (o' := o3 + 0) rfl) fun a hf => ?_
      refine gq (wanted_t hf rfl rfl rfl rfl hc14) hf rfl rfl (e_load1 hf rfl Tryd.isAgg24 (hM.litCell (k := 1) (j := 0) rfl rfl rfl)) fun a hf => ?_
      obtain ⟨e20, hz21, h8⟩ := bind_some h8
      obtain ⟨b25, o26, _, hA27, h22, h23, hr24, hM⟩ := hM.elem (hM.dat (k := 0) rfl) (n := 3) rfl hz21
      obtain ⟨A29, c30, rfl, hv28, hv31⟩ := NodeRep_open hr24
      have hM := hM.add (y := .dat (sliceRep intRep) e20.Next [vL A29 e20.Next c30]) hv31
      refine gq (wanted_t hf rfl rfl rfl rfl hc14) hf rfl rfl (e_indexAddr (A := A17) (b := b25) (o := o26) (xs := d1.Nodes) (i := 0) hf hA27 rfl rfl Tryd.underlying24 Tryd.sizeOf76 h22 h23) fun a hf => ?_
      refine gq (wanted_t hf rfl rfl rfl rfl hc14) hf rfl rfl (e_field hf rfl Tryd.underlying76 rfl Tryd.sizeOf4 (o' := (o26 + (0 : Int).toNat * 3) + 0) rfl) fun a hf => ?_
      refine gq (wanted_t hf rfl rfl rfl rfl hc14) hf rfl rfl (e_load1 hf rfl Tryd.isAgg4 (hM.litCell (k := 1) (j := 0) rfl rfl rfl)) fun a hf => ?_
      refine q_ hf rfl rfl rfl (e_pick_f hf rfl hc14 rfl) fun a hf => ?_
      refine q_ hf rfl rfl rfl (e_move hf rfl) fun a hf => ?_
      rcases cond_some h8 with ⟨hc32, h8⟩ | ⟨hc32, h8⟩
      · refine pl_gs (wanted_f hf rfl rfl rfl rfl hc32) hf rfl rfl fun a hf => ?_
        refine pl_gs (wanted_f hf rfl rfl rfl rfl hc32) hf rfl rfl fun a hf => ?_
        refine pl_gs (wanted_f hf rfl rfl rfl rfl hc32) hf rfl rfl fun a hf => ?_
        refine q_ hf rfl rfl rfl (e_pick_t hf rfl hc32 rfl) fun a hf => ?_
        refine pl_nil ?_
        obtain rfl := some_inj h8
        refine then_n ?_
        exact ⟨true, rfl, hf.keep ⟨rfl, rfl, trivial⟩, hM.pick [4] rfl⟩
      · refine gq (wanted_t hf rfl rfl rfl rfl hc32) hf rfl rfl (e_move hf rfl) fun a hf => ?_
        obtain ⟨y34, hz35, h8⟩ := bind_some h8
        refine pl_gl (wanted_t hf rfl rfl rfl rfl hc32) hf rfl rfl (w_call hf Tryd.call73 rfl (r_spec_l06Useful ⟨_, Sh C _ _, none_, hM.sh_lt, none_not, C.G, hM.g_lt, g_none, hM.tabs⟩ d1 _ _ (hM.dat (k := 4) rfl) _ hz35) ?_)
        rintro _ w36 ⟨rfl, hM2⟩
        obtain ⟨hM, hx37, hup38⟩ := hM.back hM2
        dsimp only [List.cons_append, List.nil_append] at hM hup38
        clear hM2
        refine ⟨_, rfl, fun a hf => ?_⟩
        refine gq (wanted_t hf rfl rfl rfl rfl hc32) hf rfl rfl (e_not hf rfl) fun a hf => ?_
        refine q_ hf rfl rfl rfl (e_pick_f hf rfl hc32 rfl) fun a hf => ?_
        refine pl_nil ?_
        obtain rfl := some_inj h8
        refine then_n ?_
        exact ⟨(!y34), rfl, hf.keep ⟨rfl, rfl, trivial⟩, hM.pick [4] rfl⟩
  · rintro a w40 ⟨t5, rfl, hf, hM⟩
    try dsimp only at h
    rcases cond_some h with ⟨hc41, h⟩ | ⟨hc41, h⟩
    · refine cond_t hf rfl hc41 ?_
      refine wp_seq ?_
      refine region_pl ?_
      refine q_ hf rfl rfl rfl (e_assign hf rfl) fun a hf => ?_
      refine pl_nil ?_
      refine then_n ?_
      refine wp_ret ?_
      refine then_r ?_
      obtain rfl := some_inj h
      exact leave1 hf rfl rfl ⟨rfl, hM.fin⟩
    · refine cond_f hf rfl hc41 ?_
      refine wp_skip ?_
      refine then_n ?_
      refine wp_seq ?_
      refine region_pl ?_
      refine q_ hf rfl rfl rfl (e_move hf rfl) fun a hf => ?_
      obtain ⟨y42, hz43, h⟩ := bind_some h
      refine pl_l hf rfl rfl rfl (w_call hf Tryd.call44 rfl (r_spec_l06Words ⟨_, Sh C _ _, none_, hM.sh_lt, none_not, C.G, hM.g_lt, g_none, hM.tabs⟩ d1 _ _ (hM.dat (k := 0) rfl) _ hz43) ?_)
      rintro _ w46 ⟨A44, c45, rfl, hM2⟩
      obtain ⟨hM, hx47, hup48⟩ := hM.back hM2
      dsimp only [List.cons_append, List.nil_append] at hM hup48
      clear hM2
      refine ⟨_, rfl, fun a hf => ?_⟩
      refine q_ hf rfl rfl rfl (e_move hf rfl) fun a hf => ?_
      refine q_ hf rfl rfl rfl (e_extract hf rfl rfl) fun a hf => ?_
      refine q_ hf rfl rfl rfl (e_extract hf rfl rfl) fun a hf => ?_
      refine q_ hf rfl rfl rfl (e_assign hf rfl) fun a hf => ?_
      refine q_ hf rfl rfl rfl (e_assign hf rfl) fun a hf => ?_
      refine pl_nil ?_
      refine then_n ?_
      refine wp_seq ?_
      refine wp_seq ?_
      refine region_pl ?_
      refine q_ hf rfl rfl rfl (e_move hf rfl) fun a hf => ?_
      refine q_ hf rfl rfl rfl (e_not hf rfl) fun a hf => ?_
      refine pl_nil ?_
      refine then_n ?_
      rcases cond_some h with ⟨hc49, h⟩ | ⟨hc49, h⟩
      · refine cond_t hf rfl hc49 ?_
        refine wp_seq ?_
        refine region_pl ?_
        refine q_ hf rfl rfl rfl (e_assign hf rfl) fun a hf => ?_
        refine pl_nil ?_
        refine then_n ?_
        refine wp_ret ?_
        refine then_r ?_
        obtain rfl := some_inj h
        have hM := hM.outs (own' := []) 0 rfl
        exact leave1 hf rfl rfl ⟨rfl, hM.fin⟩
      · refine cond_f hf rfl hc49 ?_
        refine wp_skip ?_
        refine then_n ?_
        refine wp_seq ?_
        refine region_pl ?_
        refine q_ hf rfl rfl rfl (e_move hf rfl) fun a hf => ?_
        have hM := hM.freezeRow (k := 0) rfl rfl
        dsimp only [List.eraseIdx] at hM
        obtain ⟨y50, hz51, h⟩ := bind_some h
        refine pl_l hf rfl rfl rfl (w_call hf Tryd.call71 rfl (r_spec_l06Build ⟨_, Sh C _ _, none_, hM.sh_lt, none_not, C.G, hM.g_lt, g_none, hM.tabs⟩ y42.1 _ _ (hM.dat (k := 0) rfl) _ hz51) ?_)
        rintro _ w55 ⟨A52, c53, rfl, hM2, hv54⟩
        obtain ⟨hM, hx56, hup57⟩ := hM.back hM2
        dsimp only [List.cons_append, List.nil_append] at hM hup57
        clear hM2
        have hM := hM.add (y := .dat (sliceRep NodeRep) y50.Nodes [vL A52 y50.Nodes c53]) (hup57 hv54)
        refine ⟨_, rfl, fun a hf => ?_⟩
        refine pl_l hf rfl rfl rfl (w_alloc hM (cs := [vL none (([] : (List Node))) 0]) Tryd.zeroValue26 rfl fun b58 w59 hx60 hM a hf => ?_)
        refine pl_0 hf rfl rfl (w_store hf hM (us := [vL A52 (y50.Nodes) c53]) (cs' := [vL A52 (y50.Nodes) c53]) rfl rfl (k := 0) rfl rfl Tryd.sizeOf26 rfl rfl rfl fun w62 hM => ?_)
        dsimp only [List.set] at hM
        refine pl_nil ?_
        refine then_n ?_
        refine wp_seq ?_
        refine region_pl ?_
        refine q_ hf rfl rfl rfl (e_move hf rfl) fun a hf => ?_
        obtain ⟨y65, hz66, h⟩ := bind_some h
        refine pl_l hf rfl rfl rfl (w_call hf Tryd.call74 rfl (r_spec_l06Same ⟨_, All C _ _, none_, hM.all_lt, none_not, C.G, hM.g_lt, g_none, hM.tabs⟩ d1 _ _ (hM.lendDat (k := 2) rfl) y50 _ _ (hM.lendBox (k := 0) rfl (DawgRep_mk (x := y50) (hM.lendDat (k := 0) rfl))) _ hz66) ?_)
        rintro _ w67 ⟨rfl, hM2⟩
        obtain ⟨hM, hx68⟩ := hM.backA hM2
        clear hM2
        refine ⟨_, rfl, fun a hf => ?_⟩
        refine q_ hf rfl rfl rfl (e_assign hf rfl) fun a hf => ?_
        refine pl_nil ?_
        refine then_n ?_
        refine wp_ret ?_
        obtain rfl := some_inj h
        have hM := hM.outs (own' := []) 0 rfl
        exact leave1 hf rfl rfl ⟨rfl, hM.fin⟩

set_option maxRecDepth 100000 in
set_option maxHeartbeats 4000000 in
theorem r_spec_l06Step (C : Cx) (d1 : Dawg) (b2 : Nat) (o3 : Nat) (hp4 : (ptrRep DawgRep).R C.w0 C.S0 d1 [vP b2 o3]) (node5 : Int) (hp6 : R64 node5) (letter7 : UInt8) (r : Int) (h : m_spec_l06Step d1 node5 letter7 = some r) :
    Calls Tryd.prog 89 #[vP b2 (o3), vI (node5), vB (letter7)] C.w0 fun e w => e = .returned (vI (r)) ∧ Mem C w [] [] ∧ R64 r := by
  have hM := Mem.begin C [.dat (ptrRep DawgRep) d1 [vP b2 o3]] ⟨hp4, trivial⟩
  refine enter Tryd.func89 rfl Tryd.ntmps89 rfl fun a hf => ?_
  unfold m_spec_l06Step at h
  refine wp_seq ?_
  refine region_pl ?_
  refine q_ hf rfl rfl rfl (e_assign hf rfl) fun a hf => ?_
  refine pl_nil ?_
  refine then_n ?_
  refine wp_seq ?_
  refine region_pl ?_
  refine q_ hf rfl rfl rfl (e_move hf rfl) fun a hf => ?_
  refine q_ hf rfl rfl rfl (e_nil hf rfl) fun a hf => ?_
  obtain ⟨_, hr8, hM⟩ := hM.deref (hM.dat (k := 0) rfl)
  obtain ⟨A9, c10, rfl, hv11⟩ := DawgRep_open hr8
  have hM := hM.add (y := .dat (sliceRep NodeRep) d1.Nodes [vL A9 d1.Nodes c10]) hv11
  refine q_ hf rfl rfl rfl (e_field hf rfl Tryd.underlying26 rfl Tryd.sizeOf24 (o' := o3 + 0) rfl) fun a hf => ?_
  refine q_ hf rfl rfl rfl (e_load1 hf rfl Tryd.isAgg24 (hM.litCell (k := 1) (j := 0) rfl rfl rfl)) fun a hf => ?_
  refine q_ hf rfl rfl rfl (e_move hf rfl) fun a hf => ?_
  obtain ⟨e12, hz13, h⟩ := bind_some h
  obtain ⟨b17, o18, _, hA19, h14, h15, hr16, hM⟩ := hM.elem (hM.dat (k := 0) rfl) (n := 3) rfl hz13
  obtain ⟨A21, c22, rfl, hv20, hv23⟩ := NodeRep_open hr16
  have hM := hM.add (y := .dat (sliceRep intRep) e12.Next [vL A21 e12.Next c22]) hv23
  refine q_ hf rfl rfl rfl (e_indexAddr (A := A9) (b := b17) (o := o18) (xs := d1.Nodes) (i := node5) hf hA19 rfl rfl Tryd.underlying24 Tryd.sizeOf76 h14 h15) fun a hf => ?_
  refine q_ hf rfl rfl rfl (e_assign hf rfl) fun a hf => ?_
  refine pl_nil ?_
  refine then_n ?_
  obtain ⟨x24, h25, h⟩ := bind_some h
  refine seq_join (fun a w => (.inl ()) = x24 ∧ Has 48 a [] ∧ Mem C w [] [.dat (sliceRep intRep) e12.Next [vL A21 e12.Next c22], .lit b17 (o18 + (node5 : Int).toNat * 3) [.bool (e12.Final), vS (e12.Letters), vL A21 (e12.Next) c22], .dat (sliceRep NodeRep) d1.Nodes [vL A9 d1.Nodes c10], .lit b2 (o3) [vL A9 (d1.Nodes) c10], .dat (ptrRep DawgRep) d1 [vP b2 o3]]) ?_ ?_
  · refine wp_seq ?_
    refine region_pl ?_
    refine q_ hf rfl rfl rfl (e_assign hf rfl) fun a hf => ?_
    refine pl_nil ?_
    refine then_n ?_
    refine wp_block ?_
    obtain ⟨x29, h30, h25⟩ := bind_some h25
    refine wp_loopM h30 (fun s a w => ∃ (n26 : Int), n26 = s ∧ Has 48 a [(2, vB (letter7)), (7, vP b17 (o18 + (node5 : Int).toNat * 3)), (8, vI (n26))] ∧ Mem C w [] [.dat (sliceRep intRep) e12.Next [vL A21 e12.Next c22], .lit b17 (o18 + (node5 : Int).toNat * 3) [.bool (e12.Final), vS (e12.Letters), vL A21 (e12.Next) c22], .dat (sliceRep NodeRep) d1.Nodes [vL A9 d1.Nodes c10], .lit b2 (o3) [vL A9 (d1.Nodes) c10], .dat (ptrRep DawgRep) d1 [vP b2 o3]] ∧ R64 n26) ?_ ?_
    · exact ⟨0, rfl, hf.keep ⟨rfl, rfl, rfl, trivial⟩, hM.pick [0, 1, 2, 3, 4] rfl, (R64_lit rfl)⟩
    · rintro s o31 a w28 ⟨n26, rfl, hf, hM, hv27⟩ h32 hd33
      replace h32 : m_spec_l06Step_l1 e12 letter7 n26 = some o31 := h32
      unfold m_spec_l06Step_l1 at h32
      refine wp_seq ?_
      obtain ⟨x36, h37, h32⟩ := bind_some h32
      refine seq_join (fun a w => ∃ (t34 : Bool), t34 = x36 ∧ Has 48 a [(2, vB (letter7)), (7, vP b17 (o18 + (node5 : Int).toNat * 3)), (8, vI (n26)), (30, .bool (t34))] ∧ Mem C w [] [.dat (sliceRep intRep) e12.Next [vL A21 e12.Next c22], .lit b17 (o18 + (node5 : Int).toNat * 3) [.bool (e12.Final), vS (e12.Letters), vL A21 (e12.Next) c22], .dat (sliceRep NodeRep) d1.Nodes [vL A9 d1.Nodes c10], .lit b2 (o3) [vL A9 (d1.Nodes) c10], .dat (ptrRep DawgRep) d1 [vP b2 o3]]) ?_ ?_
      · refine region_pl ?_
        refine q_ hf rfl rfl rfl (e_move hf rfl) fun a hf => ?_
        refine q_ hf rfl rfl rfl (e_move hf rfl) fun a hf => ?_
        refine q_ hf rfl rfl rfl (e_nil hf rfl) fun a hf => ?_
        refine q_ hf rfl rfl rfl (e_field hf rfl Tryd.underlying76 rfl Tryd.sizeOf9 (o' := (o18 + (node5 : Int).toNat * 3) + 1) rfl) fun a hf => ?_
        refine q_ hf rfl rfl rfl (e_load1 hf rfl Tryd.isAgg9 (hM.litCell (k := 1) (j := 1) rfl rfl rfl)) fun a hf => ?_
        refine q_ hf rfl rfl rfl (e_lenS hf (x := e12.Letters) rfl Tryd.underlying9) fun a hf => ?_
        refine q_ hf rfl rfl rfl (e_lt hf (x := n26) (y := (e12.Letters.length : Int)) rfl rfl) fun a hf => ?_
        refine q_ hf rfl rfl rfl (e_move hf rfl) fun a hf => ?_
        rcases cond_some h37 with ⟨hc38, h37⟩ | ⟨hc38, h37⟩
        · refine gq (wanted_t hf rfl rfl rfl rfl hc38) hf rfl rfl (e_move hf rfl) fun a hf => ?_
          refine gq (wanted_t hf rfl rfl rfl rfl hc38) hf rfl rfl (e_move hf rfl) fun a hf => ?_
          refine gq (wanted_t hf rfl rfl rfl rfl hc38) hf rfl rfl (e_nil hf rfl) fun a hf => ?_
          refine gq (wanted_t hf rfl rfl rfl rfl hc38) hf rfl rfl (e_field hf rfl Tryd.underlying76 rfl Tryd.sizeOf31 (o' := (o18 + (node5 : Int).toNat * 3) + 2) rfl) fun a hf => ?_
          refine gq (wanted_t hf rfl rfl rfl rfl hc38) hf rfl rfl (e_load1 hf rfl Tryd.isAgg31 (hM.litCell (k := 1) (j := 2) rfl rfl rfl)) fun a hf => ?_
          have hl39 := slice_len (hM.dat (k := 0) rfl)
          refine gq (wanted_t hf rfl rfl rfl rfl hc38) hf rfl rfl (e_lenL hf (x := e12.Next) rfl Tryd.underlying31) fun a hf => ?_
          refine gq (wanted_t hf rfl rfl rfl rfl hc38) hf rfl rfl (e_lt hf (x := n26) (y := (e12.Next.length : Int)) rfl rfl) fun a hf => ?_
          refine q_ hf rfl rfl rfl (e_pick_t hf rfl hc38 rfl) fun a hf => ?_
          refine pl_nil ?_
          obtain rfl := some_inj h37
          refine then_n ?_
          exact ⟨(decide (n26 < (e12.Next.length : Int))), rfl, hf.keep ⟨rfl, rfl, rfl, rfl, trivial⟩, hM.pick [0, 1, 2, 3, 4] rfl⟩
        · refine pl_gs (wanted_f hf rfl rfl rfl rfl hc38) hf rfl rfl fun a hf => ?_
          refine pl_gs (wanted_f hf rfl rfl rfl rfl hc38) hf rfl rfl fun a hf => ?_
          refine pl_gs (wanted_f hf rfl rfl rfl rfl hc38) hf rfl rfl fun a hf => ?_
          refine pl_gs (wanted_f hf rfl rfl rfl rfl hc38) hf rfl rfl fun a hf => ?_
          refine pl_gs (wanted_f hf rfl rfl rfl rfl hc38) hf rfl rfl fun a hf => ?_
          refine pl_gs (wanted_f hf rfl rfl rfl rfl hc38) hf rfl rfl fun a hf => ?_
          refine pl_gs (wanted_f hf rfl rfl rfl rfl hc38) hf rfl rfl fun a hf => ?_
          refine q_ hf rfl rfl rfl (e_pick_f hf rfl hc38 rfl) fun a hf => ?_
          refine pl_nil ?_
          obtain rfl := some_inj h37
          refine then_n ?_
          exact ⟨false, rfl, hf.keep ⟨rfl, rfl, rfl, rfl, trivial⟩, hM.pick [0, 1, 2, 3, 4] rfl⟩
      · rintro a w42 ⟨t34, rfl, hf, hM⟩
        try dsimp only at h32
        rcases cond_some h32 with ⟨hc43, h32⟩ | ⟨hc43, h32⟩
        · refine cond_t hf rfl hc43 ?_
          refine wp_skip ?_
          refine then_n ?_
          refine wp_seq ?_
          refine wp_block ?_
          refine wp_seq ?_
          refine region_pl ?_
          refine q_ hf rfl rfl rfl (e_move hf rfl) fun a hf => ?_
          refine q_ hf rfl rfl rfl (e_nil hf rfl) fun a hf => ?_
          refine q_ hf rfl rfl rfl (e_field hf rfl Tryd.underlying76 rfl Tryd.sizeOf9 (o' := (o18 + (node5 : Int).toNat * 3) + 1) rfl) fun a hf => ?_
          refine q_ hf rfl rfl rfl (e_load1 hf rfl Tryd.isAgg9 (hM.litCell (k := 1) (j := 1) rfl rfl rfl)) fun a hf => ?_
          refine q_ hf rfl rfl rfl (e_move hf rfl) fun a hf => ?_
          obtain ⟨c44, hz45, h32⟩ := bind_some h32
          refine q_ hf rfl rfl rfl (e_indexS hf (x := e12.Letters) rfl rfl Tryd.underlying9 hz45) fun a hf => ?_
          refine q_ hf rfl rfl rfl (e_move hf rfl) fun a hf => ?_
          refine q_ hf rfl rfl rfl (e_eqB hf (x := c44) (y := letter7) rfl rfl) fun a hf => ?_
          refine pl_nil ?_
          refine then_n ?_
          rcases cond_some h32 with ⟨hc46, h32⟩ | ⟨hc46, h32⟩
          · refine cond_t hf rfl hc46 ?_
            refine wp_seq ?_
            refine region_pl ?_
            refine q_ hf rfl rfl rfl (e_move hf rfl) fun a hf => ?_
            refine q_ hf rfl rfl rfl (e_nil hf rfl) fun a hf => ?_
            refine q_ hf rfl rfl rfl (e_field hf rfl Tryd.underlying76 rfl Tryd.sizeOf31 (o' := (o18 + (node5 : Int).toNat * 3) + 2) rfl) fun a hf => ?_
            refine q_ hf rfl rfl rfl (e_load1 hf rfl Tryd.isAgg31 (hM.litCell (k := 1) (j := 2) rfl rfl rfl)) fun a hf => ?_
            refine q_ hf rfl rfl rfl (e_move hf rfl) fun a hf => ?_
            obtain ⟨e47, hz48, h32⟩ := bind_some h32
            obtain ⟨b52, o53, _, hA54, h49, h50, hr51, hM⟩ := hM.elem (hM.dat (k := 0) rfl) (n := 1) rfl hz48
            obtain ⟨rfl, hv55⟩ := hr51
            refine q_ hf rfl rfl rfl (e_indexAddr (A := A21) (b := b52) (o := o53) (xs := e12.Next) (i := n26) hf hA54 rfl rfl Tryd.underlying31 Tryd.sizeOf2 h49 h50) fun a hf => ?_
            refine q_ hf rfl rfl rfl (e_load1 hf rfl Tryd.isAgg2 (hM.litCell (k := 0) (j := 0) rfl rfl rfl)) fun a hf => ?_
            refine q_ hf rfl rfl rfl (e_assign hf rfl) fun a hf => ?_
            refine pl_nil ?_
            refine then_n ?_
            refine wp_ret ?_
            refine blk_r ?_
            refine then_r ?_
            obtain rfl := some_inj h32
            obtain rfl := hd33 _ rfl
            try dsimp only at h25
            refine then_r ?_
            refine blk_r ?_
            obtain rfl := some_inj h25
            try dsimp only at h
            refine then_r ?_
            obtain rfl := some_inj h
            exact leave1 hf rfl rfl ⟨rfl, hM.fin, hv55⟩
          · refine cond_f hf rfl hc46 ?_
            refine wp_skip ?_
            refine blk_n ?_
            refine then_n ?_
            refine region_pl ?_
            refine q_ hf rfl rfl rfl (e_move hf rfl) fun a hf => ?_
            obtain ⟨z56, hz57, h32⟩ := bind_some h32
            refine q_ hf rfl rfl rfl (e_add hf rfl rfl hz57) fun a hf => ?_
            refine q_ hf rfl rfl rfl (e_assign hf rfl) fun a hf => ?_
            refine pl_nil ?_
            obtain rfl := some_inj h32
            refine then_n ⟨_, rfl, ?_⟩
            exact ⟨z56, rfl, hf.keep ⟨rfl, rfl, rfl, trivial⟩, hM.pick [0, 1, 2, 3, 4] rfl, (chk_R hz57)⟩
        · refine cond_f hf rfl hc43 ?_
          refine wp_exit ?_
          refine then_x ?_
          obtain rfl := some_inj h32
          obtain rfl := hd33 _ rfl
          try dsimp only at h25
          refine then_x ?_
          refine exit_hit ?_
          obtain rfl := some_inj h25
          refine then_n ?_
          exact ⟨rfl, hf.keep trivial, hM.pick [0, 1, 2, 3, 4] rfl⟩
  · rintro a w64 ⟨rfl, hf, hM⟩
    try dsimp only at h
    refine wp_seq ?_
    refine region_pl ?_
    refine q_ hf rfl rfl rfl (e_assign hf rfl) fun a hf => ?_
    refine pl_nil ?_
    refine then_n ?_
    refine wp_ret ?_
    obtain rfl := some_inj h
    exact leave1 hf rfl rfl ⟨rfl, hM.fin, (R64_lit rfl)⟩

set_option maxRecDepth 100000 in
set_option maxHeartbeats 4000000 in
theorem r_spec_l06After (C : Cx) (d1 : Dawg) (b2 : Nat) (o3 : Nat) (hp4 : (ptrRep DawgRep).R C.w0 C.S0 d1 [vP b2 o3]) (node5 : Int) (hp6 : R64 node5) (s7 : Str) (hp8 : s7.length ≤ maxLen) (r : Int) (h : m_spec_l06After d1 node5 s7 = some r) :
    Calls Tryd.prog 61 #[vP b2 (o3), vI (node5), vS (s7)] C.w0 fun e w => e = .returned (vI (r)) ∧ Mem C w [] [] ∧ R64 r := by
  have hM := Mem.begin C [.dat (ptrRep DawgRep) d1 [vP b2 o3]] ⟨hp4, trivial⟩
  refine enter Tryd.func61 rfl Tryd.ntmps61 rfl fun a hf => ?_
  unfold m_spec_l06After at h
  refine wp_seq ?_
  refine region_pl ?_
  refine q_ hf rfl rfl rfl (e_assign hf rfl) fun a hf => ?_
  refine pl_nil ?_
  refine then_n ?_
  obtain ⟨x11, h12, h⟩ := bind_some h
  refine seq_join (fun a w => ∃ (node9 : Int), node9 = x11 ∧ Has 25 a [(1, vI (node9))] ∧ Mem C w [] [.dat (ptrRep DawgRep) d1 [vP b2 o3]] ∧ R64 node9) ?_ ?_
  · refine wp_seq ?_
    refine region_pl ?_
    refine q_ hf rfl rfl rfl (e_assign hf rfl) fun a hf => ?_
    refine pl_nil ?_
    refine then_n ?_
    refine wp_block ?_
    obtain ⟨x20, h21, h12⟩ := bind_some h12
    refine wp_loopM h21 (fun s a w => ∃ (node13 : Int) (n15 : Int), (node13, n15) = s ∧ Has 25 a [(0, vP b2 (o3)), (1, vI (node13)), (2, vS (s7)), (7, vI (n15))] ∧ Mem C w [] [.dat (ptrRep DawgRep) d1 [vP b2 o3]] ∧ R64 node13 ∧ R64 n15) ?_ ?_
    · exact ⟨node5, 0, rfl, hf.keep ⟨rfl, rfl, rfl, rfl, trivial⟩, hM.pick [0] rfl, hp6, (R64_lit rfl)⟩
    · rintro s o22 a w17 ⟨node13, n15, rfl, hf, hM, hv14, hv16⟩ h23 hd24
      replace h23 : m_spec_l06After_l1 s7 d1 node13 n15 = some o22 := h23
      unfold m_spec_l06After_l1 at h23
      refine wp_seq ?_
      obtain ⟨x27, h28, h23⟩ := bind_some h23
      refine seq_join (fun a w => ∃ (t25 : Bool), t25 = x27 ∧ Has 25 a [(0, vP b2 (o3)), (1, vI (node13)), (2, vS (s7)), (7, vI (n15)), (15, .bool (t25))] ∧ Mem C w [] [.dat (ptrRep DawgRep) d1 [vP b2 o3]]) ?_ ?_
      · refine region_pl ?_
        refine q_ hf rfl rfl rfl (e_move hf rfl) fun a hf => ?_
        refine q_ hf rfl rfl rfl (e_move hf rfl) fun a hf => ?_
        refine q_ hf rfl rfl rfl (e_lenS hf (x := s7) rfl Tryd.underlying9) fun a hf => ?_
        refine q_ hf rfl rfl rfl (e_lt hf (x := n15) (y := (s7.length : Int)) rfl rfl) fun a hf => ?_
        refine q_ hf rfl rfl rfl (e_move hf rfl) fun a hf => ?_
        rcases cond_some h28 with ⟨hc29, h28⟩ | ⟨hc29, h28⟩
        · refine gq (wanted_t hf rfl rfl rfl rfl hc29) hf rfl rfl (e_move hf rfl) fun a hf => ?_
          refine gq (wanted_t hf rfl rfl rfl rfl hc29) hf rfl rfl (e_ge hf (x := node13) (y := 0) rfl rfl) fun a hf => ?_
          refine q_ hf rfl rfl rfl (e_pick_t hf rfl hc29 rfl) fun a hf => ?_
          refine pl_nil ?_
          obtain rfl := some_inj h28
          refine then_n ?_
          exact ⟨(decide (0 ≤ node13)), rfl, hf.keep ⟨rfl, rfl, rfl, rfl, rfl, trivial⟩, hM.pick [0] rfl⟩
        · refine pl_gs (wanted_f hf rfl rfl rfl rfl hc29) hf rfl rfl fun a hf => ?_
          refine pl_gs (wanted_f hf rfl rfl rfl rfl hc29) hf rfl rfl fun a hf => ?_
          refine q_ hf rfl rfl rfl (e_pick_f hf rfl hc29 rfl) fun a hf => ?_
          refine pl_nil ?_
          obtain rfl := some_inj h28
          refine then_n ?_
          exact ⟨false, rfl, hf.keep ⟨rfl, rfl, rfl, rfl, rfl, trivial⟩, hM.pick [0] rfl⟩
      · rintro a w32 ⟨t25, rfl, hf, hM⟩
        try dsimp only at h23
        rcases cond_some h23 with ⟨hc33, h23⟩ | ⟨hc33, h23⟩
        · refine cond_t hf rfl hc33 ?_
          refine wp_skip ?_
          refine then_n ?_
          refine wp_seq ?_
          refine wp_block ?_
          refine region_pl ?_
          refine q_ hf rfl rfl rfl (e_move hf rfl) fun a hf => ?_
          refine q_ hf rfl rfl rfl (e_move hf rfl) fun a hf => ?_
          refine q_ hf rfl rfl rfl (e_move hf rfl) fun a hf => ?_
          refine q_ hf rfl rfl rfl (e_move hf rfl) fun a hf => ?_
          obtain ⟨c34, hz35, h23⟩ := bind_some h23
          refine q_ hf rfl rfl rfl (e_indexS hf (x := s7) rfl rfl Tryd.underlying9 hz35) fun a hf => ?_
          obtain ⟨y36, hz37, h23⟩ := bind_some h23
          refine pl_l hf rfl rfl rfl (w_call hf Tryd.call89 rfl (r_spec_l06Step ⟨_, Sh C _ _, none_, hM.sh_lt, none_not, C.G, hM.g_lt, g_none, hM.tabs⟩ d1 _ _ (hM.dat (k := 0) rfl) node13 hv14 c34 _ hz37) ?_)
          rintro _ w39 ⟨rfl, hM2, hv38⟩
          obtain ⟨hM, hx40, hup41⟩ := hM.back hM2
          dsimp only [List.cons_append, List.nil_append] at hM hup41
          clear hM2
          refine ⟨_, rfl, fun a hf => ?_⟩
          refine q_ hf rfl rfl rfl (e_assign hf rfl) fun a hf => ?_
          refine pl_nil ?_
          refine blk_n ?_
          refine then_n ?_
          refine region_pl ?_
          refine q_ hf rfl rfl rfl (e_move hf rfl) fun a hf => ?_
          obtain ⟨z42, hz43, h23⟩ := bind_some h23
          refine q_ hf rfl rfl rfl (e_add hf rfl rfl hz43) fun a hf => ?_
          refine q_ hf rfl rfl rfl (e_assign hf rfl) fun a hf => ?_
          refine pl_nil ?_
          obtain rfl := some_inj h23
          refine then_n ⟨_, rfl, ?_⟩
          exact ⟨y36, z42, rfl, hf.keep ⟨rfl, rfl, rfl, rfl, trivial⟩, hM.pick [0] rfl, hv38, (chk_R hz43)⟩
        · refine cond_f hf rfl hc33 ?_
          refine wp_exit ?_
          refine then_x ?_
          obtain rfl := some_inj h23
          obtain rfl := hd24 _ rfl
          try dsimp only at h12
          refine then_x ?_
          refine exit_hit ?_
          obtain rfl := some_inj h12
          refine then_n ?_
          exact ⟨node13, rfl, hf.keep ⟨rfl, trivial⟩, hM.pick [0] rfl, hv14⟩
  · rintro a w49 ⟨node9, rfl, hf, hM, hv10⟩
    try dsimp only at h
    refine wp_seq ?_
    refine region_pl ?_
    refine q_ hf rfl rfl rfl (e_move hf rfl) fun a hf => ?_
    refine q_ hf rfl rfl rfl (e_assign hf rfl) fun a hf => ?_
    refine pl_nil ?_
    refine then_n ?_
    refine wp_ret ?_
    obtain rfl := some_inj h
    exact leave1 hf rfl rfl ⟨rfl, hM.fin, hv10⟩

set_option maxRecDepth 100000 in
set_option maxHeartbeats 4000000 in
theorem r_spec_NodeAfter (C : Cx) (d1 : Dawg) (A2 : Option Addr) (c3 : Nat) (hp4 : (sliceRep NodeRep).R C.w0 C.S0 d1.Nodes [vL A2 d1.Nodes c3]) (s5 : Str) (hp6 : s5.length ≤ maxLen) (r : Int) (h : m_spec_NodeAfter d1 s5 = some r) :
    Calls Tryd.prog 28 #[.agg #[vL A2 (d1.Nodes) c3], vS (s5)] C.w0 fun e w => e = .returned (vI (r)) ∧ Mem C w [] [] ∧ R64 r := by
  have hM := Mem.begin C [.dat (sliceRep NodeRep) d1.Nodes [vL A2 d1.Nodes c3]] ⟨hp4, trivial⟩
  refine enter Tryd.func28 rfl Tryd.ntmps28 rfl fun a hf => ?_
  unfold m_spec_NodeAfter at h
  refine wp_seq ?_
  refine region_pl ?_
  refine pl_l hf rfl rfl rfl (w_box hf hM (cs := [vL A2 (d1.Nodes) c3]) rfl rfl fun b7 w8 hx9 hM a hf => ?_)
  refine q_ hf rfl rfl rfl (e_assign hf rfl) fun a hf => ?_
  refine pl_nil ?_
  refine then_n ?_
  refine wp_seq ?_
  refine wp_seq ?_
  refine region_pl ?_
  obtain ⟨y11, hz12, h⟩ := bind_some h
  refine pl_l hf rfl rfl rfl (w_call hf Tryd.call43 rfl (r_spec_l06Ok ⟨_, All C _ _, none_, hM.all_lt, none_not, C.G, hM.g_lt, g_none, hM.tabs⟩ d1 _ _ (hM.lendBox (k := 0) rfl (DawgRep_mk (x := d1) (hM.lendDat (k := 0) rfl))) _ hz12) ?_)
  rintro _ w13 ⟨rfl, hM2⟩
  obtain ⟨hM, hx14⟩ := hM.backA hM2
  clear hM2
  refine ⟨_, rfl, fun a hf => ?_⟩
  refine q_ hf rfl rfl rfl (e_not hf rfl) fun a hf => ?_
  refine pl_nil ?_
  refine then_n ?_
  rcases cond_some h with ⟨hc16, h⟩ | ⟨hc16, h⟩
  · refine cond_t hf rfl hc16 ?_
    refine wp_seq ?_
    refine region_pl ?_
    refine q_ hf rfl rfl rfl (e_assign hf rfl) fun a hf => ?_
    refine pl_nil ?_
    refine then_n ?_
    refine wp_ret ?_
    refine then_r ?_
    obtain rfl := some_inj h
    have hM := hM.outs (own' := []) 0 rfl
    exact leave1 hf rfl rfl ⟨rfl, hM.fin, (R64_lit rfl)⟩
  · refine cond_f hf rfl hc16 ?_
    refine wp_skip ?_
    refine then_n ?_
    refine wp_seq ?_
    refine region_pl ?_
    refine q_ hf rfl rfl rfl (e_move hf rfl) fun a hf => ?_
    obtain ⟨y17, hz18, h⟩ := bind_some h
    refine pl_l hf rfl rfl rfl (w_call hf Tryd.call61 rfl (r_spec_l06After ⟨_, All C _ _, none_, hM.all_lt, none_not, C.G, hM.g_lt, g_none, hM.tabs⟩ d1 _ _ (hM.lendBox (k := 0) rfl (DawgRep_mk (x := d1) (hM.lendDat (k := 0) rfl))) 0 (R64_lit rfl) s5 hp6 _ hz18) ?_)
    rintro _ w20 ⟨rfl, hM2, hv19⟩
    obtain ⟨hM, hx21⟩ := hM.backA hM2
    clear hM2
    refine ⟨_, rfl, fun a hf => ?_⟩
    refine q_ hf rfl rfl rfl (e_assign hf rfl) fun a hf => ?_
    refine pl_nil ?_
    refine then_n ?_
    refine wp_ret ?_
    obtain rfl := some_inj h
    have hM := hM.outs (own' := []) 0 rfl
    exact leave1 hf rfl rfl ⟨rfl, hM.fin, hv19⟩

set_option maxRecDepth 100000 in
set_option maxHeartbeats 4000000 in
theorem r_impl_small (C : Cx) (c1 : UInt8) (r : Bool) (h : m_impl_small c1 = some r) :
    Calls Tryd.prog 118 #[vB (c1)] C.w0 fun e w => e = .returned (.bool (r)) ∧ Mem C w [] [] := by
  have hM := Mem.begin C [] trivial
  refine enter Tryd.func118 rfl Tryd.ntmps118 rfl fun a hf => ?_
  unfold m_impl_small at h
  refine wp_seq ?_
  refine region_pl ?_
  refine q_ hf rfl rfl rfl (e_assign hf rfl) fun a hf => ?_
  refine pl_nil ?_
  refine then_n ?_
  obtain ⟨x4, h5, h⟩ := bind_some h
  refine seq_join (fun a w => ∃ (t2 : Bool), t2 = x4 ∧ Has 9 a [(2, .bool (t2))] ∧ Mem C w [] []) ?_ ?_
  · refine region_pl ?_
    refine q_ hf rfl rfl rfl (e_move hf rfl) fun a hf => ?_
    refine q_ hf rfl rfl rfl (e_leB hf (x := 97) (y := c1) rfl rfl) fun a hf => ?_
    refine q_ hf rfl rfl rfl (e_move hf rfl) fun a hf => ?_
    rcases cond_some h5 with ⟨hc6, h5⟩ | ⟨hc6, h5⟩
    · refine gq (wanted_t hf rfl rfl rfl rfl hc6) hf rfl rfl (e_move hf rfl) fun a hf => ?_
      refine gq (wanted_t hf rfl rfl rfl rfl hc6) hf rfl rfl (e_leB hf (x := c1) (y := 122) rfl rfl) fun a hf => ?_
      refine q_ hf rfl rfl rfl (e_pick_t hf rfl hc6 rfl) fun a hf => ?_
      refine q_ hf rfl rfl rfl (e_assign hf rfl) fun a hf => ?_
      refine pl_nil ?_
      obtain rfl := some_inj h5
      refine then_n ?_
      exact ⟨(decide (c1 ≤ 122)), rfl, hf.keep ⟨rfl, trivial⟩, hM.pick [] rfl⟩
    · refine pl_gs (wanted_f hf rfl rfl rfl rfl hc6) hf rfl rfl fun a hf => ?_
      refine pl_gs (wanted_f hf rfl rfl rfl rfl hc6) hf rfl rfl fun a hf => ?_
      refine q_ hf rfl rfl rfl (e_pick_f hf rfl hc6 rfl) fun a hf => ?_
      refine q_ hf rfl rfl rfl (e_assign hf rfl) fun a hf => ?_
      refine pl_nil ?_
      obtain rfl := some_inj h5
      refine then_n ?_
      exact ⟨false, rfl, hf.keep ⟨rfl, trivial⟩, hM.pick [] rfl⟩
  · rintro a w9 ⟨t2, rfl, hf, hM⟩
    try dsimp only at h
    refine wp_ret ?_
    obtain rfl := some_inj h
    exact leave1 hf rfl rfl ⟨rfl, hM.fin⟩

set_option maxRecDepth 100000 in
set_option maxHeartbeats 4000000 in
theorem r_impl_formByte (C : Cx) (c1 : UInt8) (r : Bool) (h : m_impl_formByte c1 = some r) :
    Calls Tryd.prog 101 #[vB (c1)] C.w0 fun e w => e = .returned (.bool (r)) ∧ Mem C w [] [] := by
  have hM := Mem.begin C [] trivial
  refine enter Tryd.func101 rfl Tryd.ntmps101 rfl fun a hf => ?_
  unfold m_impl_formByte at h
  refine wp_seq ?_
  refine region_pl ?_
  refine q_ hf rfl rfl rfl (e_assign hf rfl) fun a hf => ?_
  refine pl_nil ?_
  refine then_n ?_
  obtain ⟨x4, h5, h⟩ := bind_some h
  refine seq_join (fun a w => ∃ (t2 : Bool), t2 = x4 ∧ Has 9 a [(2, .bool (t2))] ∧ Mem C w [] []) ?_ ?_
  · refine region_pl ?_
    refine q_ hf rfl rfl rfl (e_move hf rfl) fun a hf => ?_
    obtain ⟨y6, hz7, h5⟩ := bind_some h5
    refine pl_l hf rfl rfl rfl (w_call hf Tryd.call118 rfl (r_impl_small ⟨_, Sh C _ _, none_, hM.sh_lt, none_not, C.G, hM.g_lt, g_none, hM.tabs⟩ c1 _ hz7) ?_)
    rintro _ w8 ⟨rfl, hM2⟩
    obtain ⟨hM, hx9, hup10⟩ := hM.back hM2
    dsimp only [List.cons_append, List.nil_append] at hM hup10
    clear hM2
    refine ⟨_, rfl, fun a hf => ?_⟩
    refine q_ hf rfl rfl rfl (e_move hf rfl) fun a hf => ?_
    rcases cond_some h5 with ⟨hc11, h5⟩ | ⟨hc11, h5⟩
    · refine pl_gs (wanted_f hf rfl rfl rfl rfl hc11) hf rfl rfl fun a hf => ?_
      refine pl_gs (wanted_f hf rfl rfl rfl rfl hc11) hf rfl rfl fun a hf => ?_
      refine q_ hf rfl rfl rfl (e_pick_t hf rfl hc11 rfl) fun a hf => ?_
      refine q_ hf rfl rfl rfl (e_assign hf rfl) fun a hf => ?_
      refine pl_nil ?_
      obtain rfl := some_inj h5
      refine then_n ?_
      exact ⟨true, rfl, hf.keep ⟨rfl, trivial⟩, hM.pick [] rfl⟩
    · refine gq (wanted_t hf rfl rfl rfl rfl hc11) hf rfl rfl (e_move hf rfl) fun a hf => ?_
      refine gq (wanted_t hf rfl rfl rfl rfl hc11) hf rfl rfl (e_eqB hf (x := c1) (y := 62) rfl rfl) fun a hf => ?_
      refine q_ hf rfl rfl rfl (e_pick_f hf rfl hc11 rfl) fun a hf => ?_
      refine q_ hf rfl rfl rfl (e_assign hf rfl) fun a hf => ?_
      refine pl_nil ?_
      obtain rfl := some_inj h5
      refine then_n ?_
      exact ⟨(c1 == 62), rfl, hf.keep ⟨rfl, trivial⟩, hM.pick [] rfl⟩
  · rintro a w14 ⟨t2, rfl, hf, hM⟩
    try dsimp only at h
    refine wp_ret ?_
    obtain rfl := some_inj h
    exact leave1 hf rfl rfl ⟨rfl, hM.fin⟩

set_option maxRecDepth 100000 in
set_option maxHeartbeats 4000000 in
theorem r_impl_within (C : Cx) (x1 : Int) (hp2 : R64 x1) (low3 : Int) (hp4 : R64 low3) (high5 : Int) (hp6 : R64 high5) (r : Bool) (h : m_impl_within x1 low3 high5 = some r) :
    Calls Tryd.prog 50 #[vI (x1), vI (low3), vI (high5)] C.w0 fun e w => e = .returned (.bool (r)) ∧ Mem C w [] [] := by
  have hM := Mem.begin C [] trivial
  refine enter Tryd.func50 rfl Tryd.ntmps50 rfl fun a hf => ?_
  unfold m_impl_within at h
  refine wp_seq ?_
  refine region_pl ?_
  refine q_ hf rfl rfl rfl (e_assign hf rfl) fun a hf => ?_
  refine pl_nil ?_
  refine then_n ?_
  obtain ⟨x9, h10, h⟩ := bind_some h
  refine seq_join (fun a w => ∃ (t7 : Bool), t7 = x9 ∧ Has 15 a [(6, .bool (t7))] ∧ Mem C w [] []) ?_ ?_
  · refine region_pl ?_
    refine q_ hf rfl rfl rfl (e_move hf rfl) fun a hf => ?_
    refine q_ hf rfl rfl rfl (e_move hf rfl) fun a hf => ?_
    refine q_ hf rfl rfl rfl (e_le hf (x := low3) (y := x1) rfl rfl) fun a hf => ?_
    refine q_ hf rfl rfl rfl (e_move hf rfl) fun a hf => ?_
    rcases cond_some h10 with ⟨hc11, h10⟩ | ⟨hc11, h10⟩
    · refine gq (wanted_t hf rfl rfl rfl rfl hc11) hf rfl rfl (e_move hf rfl) fun a hf => ?_
      refine gq (wanted_t hf rfl rfl rfl rfl hc11) hf rfl rfl (e_move hf rfl) fun a hf => ?_
      refine gq (wanted_t hf rfl rfl rfl rfl hc11) hf rfl rfl (e_le hf (x := x1) (y := high5) rfl rfl) fun a hf => ?_
      refine q_ hf rfl rfl rfl (e_pick_t hf rfl hc11 rfl) fun a hf => ?_
      refine q_ hf rfl rfl rfl (e_assign hf rfl) fun a hf => ?_
      refine pl_nil ?_
      obtain rfl := some_inj h10
      refine then_n ?_
      exact ⟨(decide (x1 ≤ high5)), rfl, hf.keep ⟨rfl, trivial⟩, hM.pick [] rfl⟩
    · refine pl_gs (wanted_f hf rfl rfl rfl rfl hc11) hf rfl rfl fun a hf => ?_
      refine pl_gs (wanted_f hf rfl rfl rfl rfl hc11) hf rfl rfl fun a hf => ?_
      refine pl_gs (wanted_f hf rfl rfl rfl rfl hc11) hf rfl rfl fun a hf => ?_
      refine q_ hf rfl rfl rfl (e_pick_f hf rfl hc11 rfl) fun a hf => ?_
      refine q_ hf rfl rfl rfl (e_assign hf rfl) fun a hf => ?_
      refine pl_nil ?_
      obtain rfl := some_inj h10
      refine then_n ?_
      exact ⟨false, rfl, hf.keep ⟨rfl, trivial⟩, hM.pick [] rfl⟩
  · rintro a w14 ⟨t7, rfl, hf, hM⟩
    try dsimp only at h
    refine wp_ret ?_
    obtain rfl := some_inj h
    exact leave1 hf rfl rfl ⟨rfl, hM.fin⟩

set_option maxRecDepth 100000 in
set_option maxHeartbeats 4000000 in
theorem r_impl_nodesOk (C : Cx) (d1 : Dawg) (A2 : Option Addr) (c3 : Nat) (hp4 : (sliceRep NodeRep).R C.w0 C.S0 d1.Nodes [vL A2 d1.Nodes c3]) (r : Bool) (h : m_impl_nodesOk d1 = some r) :
    Calls Tryd.prog 76 #[.agg #[vL A2 (d1.Nodes) c3]] C.w0 fun e w => e = .returned (.bool (r)) ∧ Mem C w [] [] := by
  have hM := Mem.begin C [.dat (sliceRep NodeRep) d1.Nodes [vL A2 d1.Nodes c3]] ⟨hp4, trivial⟩
  refine enter Tryd.func76 rfl Tryd.ntmps76 rfl fun a hf => ?_
  unfold m_impl_nodesOk at h
  refine wp_seq ?_
  refine region_pl ?_
  refine pl_l hf rfl rfl rfl (w_box hf hM (cs := [vL A2 (d1.Nodes) c3]) rfl rfl fun b5 w6 hx7 hM a hf => ?_)
  refine q_ hf rfl rfl rfl (e_assign hf rfl) fun a hf => ?_
  refine pl_nil ?_
  refine then_n ?_
  refine wp_seq ?_
  obtain ⟨x11, h12, h⟩ := bind_some h
  refine seq_join (fun a w => ∃ (t9 : Bool), t9 = x11 ∧ Has 72 a [(1, vP b5 (0)), (16, .bool (t9))] ∧ Mem C w [.box b5 [vL A2 (d1.Nodes) c3] 26] [.dat (sliceRep NodeRep) d1.Nodes [vL A2 d1.Nodes c3]]) ?_ ?_
  · refine region_pl ?_
    refine q_ hf rfl rfl rfl (e_field hf rfl Tryd.underlying26 rfl Tryd.sizeOf24 (o' := 0) rfl) fun a hf => ?_
    refine q_ hf rfl rfl rfl (e_load1 hf rfl Tryd.isAgg24 (hM.boxCell (k := 0) rfl rfl)) fun a hf => ?_
    have hl13 := slice_len (hM.dat (k := 0) rfl)
    refine q_ hf rfl rfl rfl (e_lenL hf (x := d1.Nodes) rfl Tryd.underlying24) fun a hf => ?_
    refine q_ hf rfl rfl rfl (e_lt hf (x := (d1.Nodes.length : Int)) (y := 1) rfl rfl) fun a hf => ?_
    refine q_ hf rfl rfl rfl (e_move hf rfl) fun a hf => ?_
    rcases cond_some h12 with ⟨hc14, h12⟩ | ⟨hc14, h12⟩
    · refine pl_gs (wanted_f hf rfl rfl rfl rfl hc14) hf rfl rfl fun a hf => ?_
      refine pl_gs (wanted_f hf rfl rfl rfl rfl hc14) hf rfl rfl fun a hf => ?_
      refine pl_gs (wanted_f hf rfl rfl rfl rfl hc14) hf rfl rfl fun a hf => ?_
      refine pl_gs (wanted_f hf rfl rfl rfl rfl hc14) hf rfl rfl fun a hf => ?_
      refine q_ hf rfl rfl rfl (e_pick_t hf rfl hc14 rfl) fun a hf => ?_
      refine pl_nil ?_
      obtain rfl := some_inj h12
      refine then_n ?_
      exact ⟨true, rfl, hf.keep ⟨rfl, rfl, trivial⟩, hM.pick [0] rfl⟩
    · refine gq (wanted_t hf rfl rfl rfl rfl hc14) hf rfl rfl (e_field hf rfl Tryd.underlying26 rfl Tryd.sizeOf24 (o' := 0) rfl) fun a hf => ?_
      refine gq (wanted_t hf rfl rfl rfl rfl hc14) hf rfl rfl (e_load1 hf rfl Tryd.isAgg24 (hM.boxCell (k := 0) rfl rfl)) fun a hf => ?_
      have hl16 := slice_len (hM.dat (k := 0) rfl)
      refine gq (wanted_t hf rfl rfl rfl rfl hc14) hf rfl rfl (e_lenL hf (x := d1.Nodes) rfl Tryd.underlying24) fun a hf => ?_
      refine gq (wanted_t hf rfl rfl rfl rfl hc14) hf rfl rfl (e_gt hf (x := (d1.Nodes.length : Int)) (y := 3000) rfl rfl) fun a hf => ?_
      refine q_ hf rfl rfl rfl (e_pick_f hf rfl hc14 rfl) fun a hf => ?_
      refine pl_nil ?_
      obtain rfl := some_inj h12
      refine then_n ?_
      exact ⟨(decide (3000 < (d1.Nodes.length : Int))), rfl, hf.keep ⟨rfl, rfl, trivial⟩, hM.pick [0] rfl⟩
  · rintro a w18 ⟨t9, rfl, hf, hM⟩
    try dsimp only at h
    rcases cond_some h with ⟨hc19, h⟩ | ⟨hc19, h⟩
    · refine cond_t hf rfl hc19 ?_
      refine wp_seq ?_
      refine region_pl ?_
      refine q_ hf rfl rfl rfl (e_assign hf rfl) fun a hf => ?_
      refine pl_nil ?_
      refine then_n ?_
      refine wp_ret ?_
      refine then_r ?_
      obtain rfl := some_inj h
      have hM := hM.outs (own' := []) 0 rfl
      exact leave1 hf rfl rfl ⟨rfl, hM.fin⟩
    · refine cond_f hf rfl hc19 ?_
      refine wp_skip ?_
      refine then_n ?_
      obtain ⟨x20, h21, h⟩ := bind_some h
      refine seq_join (fun a w => (.inl ()) = x20 ∧ Has 72 a [] ∧ Mem C w [.box b5 [vL A2 (d1.Nodes) c3] 26] [.dat (sliceRep NodeRep) d1.Nodes [vL A2 d1.Nodes c3]]) ?_ ?_
      · refine wp_seq ?_
        refine region_pl ?_
        refine q_ hf rfl rfl rfl (e_field hf rfl Tryd.underlying26 rfl Tryd.sizeOf24 (o' := 0) rfl) fun a hf => ?_
        refine q_ hf rfl rfl rfl (e_load1 hf rfl Tryd.isAgg24 (hM.boxCell (k := 0) rfl rfl)) fun a hf => ?_
        have hl22 := slice_len (hM.dat (k := 0) rfl)
        refine q_ hf rfl rfl rfl (e_lenL hf (x := d1.Nodes) rfl Tryd.underlying24) fun a hf => ?_
        refine q_ hf rfl rfl rfl (e_move hf rfl) fun a hf => ?_
        refine pl_nil ?_
        refine then_n ?_
        refine wp_block ?_
        obtain ⟨x26, h27, h21⟩ := bind_some h21
        refine wp_loopM h27 (fun s a w => ∃ (n23 : Int), n23 = s ∧ Has 72 a [(1, vP b5 (0)), (18, vL A2 (d1.Nodes) c3), (19, vI ((d1.Nodes.length : Int))), (20, vI (n23))] ∧ Mem C w [.box b5 [vL A2 (d1.Nodes) c3] 26] [.dat (sliceRep NodeRep) d1.Nodes [vL A2 d1.Nodes c3]] ∧ R64 n23) ?_ ?_
        · exact ⟨0, rfl, hf.keep ⟨rfl, rfl, rfl, rfl, trivial⟩, hM.pick [0] rfl, (R64_lit rfl)⟩
        · rintro s o28 a w25 ⟨n23, rfl, hf, hM, hv24⟩ h29 hd30
          replace h29 : m_impl_nodesOk_l1 d1 n23 = some o28 := h29
          unfold m_impl_nodesOk_l1 at h29
          refine wp_seq ?_
          refine region_pl ?_
          refine q_ hf rfl rfl rfl (e_lt hf (x := n23) (y := (d1.Nodes.length : Int)) rfl rfl) fun a hf => ?_
          refine pl_nil ?_
          refine then_n ?_
          refine wp_seq ?_
          rcases cond_some h29 with ⟨hc31, h29⟩ | ⟨hc31, h29⟩
          · refine cond_t hf rfl hc31 ?_
            refine wp_skip ?_
            refine then_n ?_
            obtain ⟨x32, h33, h29⟩ := bind_some h29
            refine seq_join (fun a w => (.inl ()) = x32 ∧ Has 72 a [(1, vP b5 (0)), (18, vL A2 (d1.Nodes) c3), (19, vI ((d1.Nodes.length : Int))), (20, vI (n23))] ∧ Mem C w [.box b5 [vL A2 (d1.Nodes) c3] 26] [.dat (sliceRep NodeRep) d1.Nodes [vL A2 d1.Nodes c3]]) ?_ ?_
            · refine wp_block ?_
              refine wp_seq ?_
              refine region_pl ?_
              obtain ⟨e34, hz35, h33⟩ := bind_some h33
              obtain ⟨b39, o40, _, hA41, h36, h37, hr38, hM⟩ := hM.elem (hM.dat (k := 0) rfl) (n := 3) rfl hz35
              obtain ⟨A43, c44, rfl, hv42, hv45⟩ := NodeRep_open hr38
              have hM := hM.add (y := .dat (sliceRep intRep) e34.Next [vL A43 e34.Next c44]) hv45
              refine q_ hf rfl rfl rfl (e_indexAddr (A := A2) (b := b39) (o := o40) (xs := d1.Nodes) (i := n23) hf hA41 rfl rfl Tryd.underlying24 Tryd.sizeOf76 h36 h37) fun a hf => ?_
              refine q_ hf rfl rfl rfl (e_loadA hf (us := [.bool (e34.Final), vS (e34.Letters), vL A43 (e34.Next) c44]) rfl ⟨Tryd.isAgg76, Tryd.sizeOf76⟩ rfl (hM.litSub (k := 1) (d := 0) (us := [.bool (e34.Final), vS (e34.Letters), vL A43 (e34.Next) c44]) rfl rfl rfl)) fun a hf => ?_
              refine pl_l hf rfl rfl rfl (w_alloc hM (cs := [.bool (false), vS (([] : Str)), vL none (([] : (List Int))) 0]) Tryd.zeroValue76 rfl fun b46 w47 hx48 hM a hf => ?_)
              refine pl_0 hf rfl rfl (w_store hf hM (us := [.bool (e34.Final), vS (e34.Letters), vL A43 (e34.Next) c44]) (cs' := [.bool (e34.Final), vS (e34.Letters), vL A43 (e34.Next) c44]) rfl rfl (k := 0) rfl rfl Tryd.sizeOf76 rfl rfl rfl fun w50 hM => ?_)
              dsimp only [List.set] at hM
              refine pl_nil ?_
              refine then_n ?_
              refine wp_seq ?_
              refine wp_seq ?_
              refine region_pl ?_
              refine q_ hf rfl rfl rfl (e_field hf rfl Tryd.underlying76 rfl Tryd.sizeOf9 (o' := 1) rfl) fun a hf => ?_
              refine q_ hf rfl rfl rfl (e_load1 hf rfl Tryd.isAgg9 (hM.boxCell (k := 0) rfl rfl)) fun a hf => ?_
              refine q_ hf rfl rfl rfl (e_lenS hf (x := e34.Letters) rfl Tryd.underlying9) fun a hf => ?_
              refine q_ hf rfl rfl rfl (e_field hf rfl Tryd.underlying76 rfl Tryd.sizeOf31 (o' := 2) rfl) fun a hf => ?_
              refine q_ hf rfl rfl rfl (e_load1 hf rfl Tryd.isAgg31 (hM.boxCell (k := 0) rfl rfl)) fun a hf => ?_
              have hl53 := slice_len (hM.dat (k := 0) rfl)
              refine q_ hf rfl rfl rfl (e_lenL hf (x := e34.Next) rfl Tryd.underlying31) fun a hf => ?_
              refine q_ hf rfl rfl rfl (e_ne hf (x := (e34.Letters.length : Int)) (y := (e34.Next.length : Int)) rfl rfl) fun a hf => ?_
              refine pl_nil ?_
              refine then_n ?_
              rcases cond_some h33 with ⟨hc54, h33⟩ | ⟨hc54, h33⟩
              · refine cond_t hf rfl hc54 ?_
                refine wp_seq ?_
                refine region_pl ?_
                refine q_ hf rfl rfl rfl (e_assign hf rfl) fun a hf => ?_
                refine pl_nil ?_
                refine then_n ?_
                refine wp_ret ?_
                refine then_r ?_
                refine blk_r ?_
                obtain rfl := some_inj h33
                try dsimp only at h29
                refine then_r ?_
                obtain rfl := some_inj h29
                obtain rfl := hd30 _ rfl
                try dsimp only at h21
                refine then_r ?_
                refine blk_r ?_
                obtain rfl := some_inj h21
                try dsimp only at h
                refine then_r ?_
                obtain rfl := some_inj h
                have hM := hM.outs (own' := []) 0 rfl
                exact leave1 hf rfl rfl ⟨rfl, hM.fin⟩
              · refine cond_f hf rfl hc54 ?_
                refine wp_skip ?_
                refine then_n ?_
                refine wp_seq ?_
                refine region_pl ?_
                refine q_ hf rfl rfl rfl (e_field hf rfl Tryd.underlying76 rfl Tryd.sizeOf31 (o' := 2) rfl) fun a hf => ?_
                refine q_ hf rfl rfl rfl (e_load1 hf rfl Tryd.isAgg31 (hM.boxCell (k := 0) rfl rfl)) fun a hf => ?_
                have hl55 := slice_len (hM.dat (k := 0) rfl)
                refine q_ hf rfl rfl rfl (e_lenL hf (x := e34.Next) rfl Tryd.underlying31) fun a hf => ?_
                refine q_ hf rfl rfl rfl (e_move hf rfl) fun a hf => ?_
                refine pl_nil ?_
                refine then_n ?_
                refine wp_block ?_
                obtain ⟨x59, h60, h33⟩ := bind_some h33
                refine wp_loopM h60 (fun s a w => ∃ (n56 : Int), n56 = s ∧ Has 72 a [(1, vP b5 (0)), (4, vP b46 (0)), (18, vL A2 (d1.Nodes) c3), (19, vI ((d1.Nodes.length : Int))), (20, vI (n23)), (32, vL A43 (e34.Next) c44), (33, vI ((e34.Next.length : Int))), (34, vI (n56))] ∧ Mem C w [.box b46 [.bool (e34.Final), vS (e34.Letters), vL A43 (e34.Next) c44] 76, .box b5 [vL A2 (d1.Nodes) c3] 26] [.dat (sliceRep intRep) e34.Next [vL A43 e34.Next c44], .lit b39 (o40 + (n23 : Int).toNat * 3) [.bool (e34.Final), vS (e34.Letters), vL A43 (e34.Next) c44], .dat (sliceRep NodeRep) d1.Nodes [vL A2 d1.Nodes c3]] ∧ R64 n56) ?_ ?_
                · exact ⟨0, rfl, hf.keep ⟨rfl, rfl, rfl, rfl, rfl, rfl, rfl, rfl, trivial⟩, hM.pick [0, 1, 2] rfl, (R64_lit rfl)⟩
                · rintro s o61 a w58 ⟨n56, rfl, hf, hM, hv57⟩ h62 hd63
                  replace h62 : m_impl_nodesOk_l2 e34 d1 n56 = some o61 := h62
                  unfold m_impl_nodesOk_l2 at h62
                  refine wp_seq ?_
                  refine region_pl ?_
                  refine q_ hf rfl rfl rfl (e_lt hf (x := n56) (y := (e34.Next.length : Int)) rfl rfl) fun a hf => ?_
                  refine pl_nil ?_
                  refine then_n ?_
                  refine wp_seq ?_
                  rcases cond_some h62 with ⟨hc64, h62⟩ | ⟨hc64, h62⟩
                  · refine cond_t hf rfl hc64 ?_
                    refine wp_skip ?_
                    refine then_n ?_
                    refine wp_seq ?_
                    refine wp_block ?_
                    refine wp_seq ?_
                    refine region_pl ?_
                    refine q_ hf rfl rfl rfl (e_move hf rfl) fun a hf => ?_
                    obtain ⟨e65, hz66, h62⟩ := bind_some h62
                    obtain ⟨b70, o71, _, hA72, h67, h68, hr69, hM⟩ := hM.elem (hM.dat (k := 0) rfl) (n := 1) rfl hz66
                    obtain ⟨rfl, hv73⟩ := hr69
                    refine q_ hf rfl rfl rfl (e_indexAddr (A := A43) (b := b70) (o := o71) (xs := e34.Next) (i := n56) hf hA72 rfl rfl Tryd.underlying31 Tryd.sizeOf2 h67 h68) fun a hf => ?_
                    refine q_ hf rfl rfl rfl (e_load1 hf rfl Tryd.isAgg2 (hM.litCell (k := 0) (j := 0) rfl rfl rfl)) fun a hf => ?_
                    refine q_ hf rfl rfl rfl (e_assign hf rfl) fun a hf => ?_
                    refine q_ hf rfl rfl rfl (e_assign hf rfl) fun a hf => ?_
                    refine pl_nil ?_
                    refine then_n ?_
                    obtain ⟨x76, h77, h62⟩ := bind_some h62
                    refine seq_join (fun a w => ∃ (t74 : Bool), t74 = x76 ∧ Has 72 a [(1, vP b5 (0)), (4, vP b46 (0)), (18, vL A2 (d1.Nodes) c3), (19, vI ((d1.Nodes.length : Int))), (20, vI (n23)), (32, vL A43 (e34.Next) c44), (33, vI ((e34.Next.length : Int))), (34, vI (n56)), (69, .bool (t74))] ∧ Mem C w [.box b46 [.bool (e34.Final), vS (e34.Letters), vL A43 (e34.Next) c44] 76, .box b5 [vL A2 (d1.Nodes) c3] 26] [.lit b70 (o71 + (n56 : Int).toNat * 1) [vI (e65)], .dat (sliceRep intRep) e34.Next [vL A43 e34.Next c44], .lit b39 (o40 + (n23 : Int).toNat * 3) [.bool (e34.Final), vS (e34.Letters), vL A43 (e34.Next) c44], .dat (sliceRep NodeRep) d1.Nodes [vL A2 d1.Nodes c3]]) ?_ ?_
                    · obtain ⟨w78, hw⟩ : ∃ x, x = w58.drew := ⟨_, rfl⟩
                      refine region_pi (.q 0 (.q 1 (.q 2 (.q 3 (.l 4 (.q 5 (.q 6 (.q 7 (.q 8 (.q 9 (.q 10 (.q 11 (.q 12 (.q 13 (.q 14 (.q 15 (.q 16 (.q 17 (.q 18 (.q 19 (.q 20 (.q 21 (.q 22 (.q 23 (.q 24 (.q 25 (.q 26 (.q 27 (.l 28 (.q 29 (.q 30 (.nil)))))))))))))))))))))))))))))))) (Ext w78) rfl (by kernel_rfl) ?_
                      have hM := hM.drew
                      rw [← hw] at hM ⊢
                      clear hw
                      refine pi_q hf rfl rfl rfl rfl (Ext.refl _) (e_field hf rfl Tryd.underlying76 rfl Tryd.sizeOf9 (o' := 1) rfl) fun a hf => ?_
                      refine pi_q hf rfl rfl rfl rfl (Ext.refl _) (e_load1 hf rfl Tryd.isAgg9 (hM.boxCell (k := 0) rfl rfl)) fun a hf => ?_
                      refine pi_q hf rfl rfl rfl rfl (Ext.refl _) (e_move hf rfl) fun a hf => ?_
                      obtain ⟨c79, hz80, h77⟩ := bind_some h77
                      refine pi_q hf rfl rfl rfl rfl (Ext.refl _) (e_indexS hf (x := e34.Letters) rfl rfl Tryd.underlying9 hz80) fun a hf => ?_
                      refine pi_one ?_
                      obtain ⟨y81, hz82, h77⟩ := bind_some h77
                      refine pi_l hf rfl rfl rfl rfl (w_call hf Tryd.call101 rfl (r_impl_formByte ⟨_, Sh C _ _, none_, hM.sh_lt, none_not, C.G, hM.g_lt, g_none, hM.tabs⟩ c79 _ hz82) ?_)
                      rintro _ w83 ⟨rfl, hM2⟩
                      obtain ⟨hM, hx84, hup85⟩ := hM.back hM2
                      dsimp only [List.cons_append, List.nil_append] at hM hup85
                      clear hM2
                      refine ⟨_, rfl, Ext w83, fun _ h => Ext.trans hx84 h, Ext.refl _, fun a hf => ?_⟩
                      refine pi_q hf rfl rfl rfl rfl (Ext.refl _) (e_not hf rfl) fun a hf => ?_
                      refine pi_q hf rfl rfl rfl rfl (Ext.refl _) (e_move hf rfl) fun a hf => ?_
                      rcases cond_some h77 with ⟨hc86, h77⟩ | ⟨hc86, h77⟩
                      · refine pi_gs hf rfl (wanted_f hf rfl rfl rfl rfl hc86) rfl rfl (Ext.refl _) fun a hf => ?_
                        refine pi_gs hf rfl (wanted_f hf rfl rfl rfl rfl hc86) rfl rfl (Ext.refl _) fun a hf => ?_
                        refine pi_gs hf rfl (wanted_f hf rfl rfl rfl rfl hc86) rfl rfl (Ext.refl _) fun a hf => ?_
                        refine pi_gs hf rfl (wanted_u hf rfl rfl rfl rfl) rfl rfl (Ext.refl _) fun a hf => ?_
                        refine pi_gs hf rfl (wanted_u hf rfl rfl rfl rfl) rfl rfl (Ext.refl _) fun a hf => ?_
                        refine pi_gs hf rfl (wanted_u hf rfl rfl rfl rfl) rfl rfl (Ext.refl _) fun a hf => ?_
                        refine pi_gs hf rfl (wanted_u hf rfl rfl rfl rfl) rfl rfl (Ext.refl _) fun a hf => ?_
                        refine pi_gs hf rfl (wanted_u hf rfl rfl rfl rfl) rfl rfl (Ext.refl _) fun a hf => ?_
                        refine pi_gs hf rfl (wanted_u hf rfl rfl rfl rfl) rfl rfl (Ext.refl _) fun a hf => ?_
                        refine pi_gs hf rfl (wanted_u hf rfl rfl rfl rfl) rfl rfl (Ext.refl _) fun a hf => ?_
                        refine pi_gs hf rfl (wanted_u hf rfl rfl rfl rfl) rfl rfl (Ext.refl _) fun a hf => ?_
                        refine pi_gs hf rfl (wanted_u hf rfl rfl rfl rfl) rfl rfl (Ext.refl _) fun a hf => ?_
                        refine pi_gs hf rfl (wanted_u hf rfl rfl rfl rfl) rfl rfl (Ext.refl _) fun a hf => ?_
                        refine pi_gs hf rfl (wanted_f hf rfl rfl rfl rfl hc86) rfl rfl (Ext.refl _) fun a hf => ?_
                        refine pi_q hf rfl rfl rfl rfl (Ext.refl _) (e_pick_t hf rfl hc86 rfl) fun a hf => ?_
                        refine pi_q hf rfl rfl rfl rfl (Ext.refl _) (e_move hf rfl) fun a hf => ?_
                        refine pi_gs hf rfl (wanted_f hf rfl rfl rfl rfl rfl) rfl rfl (Ext.refl _) fun a hf => ?_
                        refine pi_gs hf rfl (wanted_f hf rfl rfl rfl rfl rfl) rfl rfl (Ext.refl _) fun a hf => ?_
                        refine pi_gs hf rfl (wanted_f hf rfl rfl rfl rfl rfl) rfl rfl (Ext.refl _) fun a hf => ?_
                        refine pi_gs hf rfl (wanted_f hf rfl rfl rfl rfl rfl) rfl rfl (Ext.refl _) fun a hf => ?_
                        refine pi_gs hf rfl (wanted_f hf rfl rfl rfl rfl rfl) rfl rfl (Ext.refl _) fun a hf => ?_
                        refine pi_one ?_
                        refine pi_ls hf rfl (wanted_f hf rfl rfl rfl rfl rfl) rfl rfl (Ext.refl _) fun a hf => ?_
                        refine pi_gs hf rfl (wanted_f hf rfl rfl rfl rfl rfl) rfl rfl (Ext.refl _) fun a hf => ?_
                        refine pi_q hf rfl rfl rfl rfl (Ext.refl _) (e_pick_t hf rfl rfl rfl) fun a hf => ?_
                        refine pi_nil ?_
                        obtain rfl := some_inj h77
                        refine then_n ?_
                        exact ⟨true, rfl, hf.keep ⟨rfl, rfl, rfl, rfl, rfl, rfl, rfl, rfl, rfl, trivial⟩, hM.pick [0, 1, 2, 3] rfl⟩
                      · refine pi_gq hf rfl (wanted_t hf rfl rfl rfl rfl hc86) rfl rfl (Ext.refl _) (e_move hf rfl) fun a hf => ?_
                        refine pi_gq hf rfl (wanted_t hf rfl rfl rfl rfl hc86) rfl rfl (Ext.refl _) (e_gt hf (x := n56) (y := 0) rfl rfl) fun a hf => ?_
                        refine pi_gq hf rfl (wanted_t hf rfl rfl rfl rfl hc86) rfl rfl (Ext.refl _) (e_move hf rfl) fun a hf => ?_
                        rcases cond_some h77 with ⟨hc88, h77⟩ | ⟨hc88, h77⟩
                        · refine pi_gq hf rfl (wanted_t hf rfl rfl rfl rfl hc88) rfl rfl (Ext.refl _) (e_field hf rfl Tryd.underlying76 rfl Tryd.sizeOf9 (o' := 1) rfl) fun a hf => ?_
                          refine pi_gq hf rfl (wanted_t hf rfl rfl rfl rfl hc88) rfl rfl (Ext.refl _) (e_load1 hf rfl Tryd.isAgg9 (hM.boxCell (k := 0) rfl rfl)) fun a hf => ?_
                          refine pi_gq hf rfl (wanted_t hf rfl rfl rfl rfl hc88) rfl rfl (Ext.refl _) (e_move hf rfl) fun a hf => ?_
                          obtain ⟨z89, hz90, h77⟩ := bind_some h77
                          refine pi_gq hf rfl (wanted_t hf rfl rfl rfl rfl hc88) rfl rfl (Ext.refl _) (e_sub hf rfl rfl hz90) fun a hf => ?_
                          obtain ⟨c91, hz92, h77⟩ := bind_some h77
                          refine pi_gq hf rfl (wanted_t hf rfl rfl rfl rfl hc88) rfl rfl (Ext.refl _) (e_indexS hf (x := e34.Letters) rfl rfl Tryd.underlying9 hz92) fun a hf => ?_
                          refine pi_gq hf rfl (wanted_t hf rfl rfl rfl rfl hc88) rfl rfl (Ext.refl _) (e_field hf rfl Tryd.underlying76 rfl Tryd.sizeOf9 (o' := 1) rfl) fun a hf => ?_
                          refine pi_gq hf rfl (wanted_t hf rfl rfl rfl rfl hc88) rfl rfl (Ext.refl _) (e_load1 hf rfl Tryd.isAgg9 (hM.boxCell (k := 0) rfl rfl)) fun a hf => ?_
                          refine pi_gq hf rfl (wanted_t hf rfl rfl rfl rfl hc88) rfl rfl (Ext.refl _) (e_move hf rfl) fun a hf => ?_
                          obtain ⟨c93, hz94, h77⟩ := bind_some h77
                          refine pi_gq hf rfl (wanted_t hf rfl rfl rfl rfl hc88) rfl rfl (Ext.refl _) (e_indexS hf (x := e34.Letters) rfl rfl Tryd.underlying9 hz94) fun a hf => ?_
                          refine pi_gq hf rfl (wanted_t hf rfl rfl rfl rfl hc88) rfl rfl (Ext.refl _) (e_geB hf (x := c91) (y := c93) rfl rfl) fun a hf => ?_
                          refine pi_gq hf rfl (wanted_t hf rfl rfl rfl rfl hc86) rfl rfl (Ext.refl _) (e_pick_t hf rfl hc88 rfl) fun a hf => ?_
                          refine pi_q hf rfl rfl rfl rfl (Ext.refl _) (e_pick_f hf rfl hc86 rfl) fun a hf => ?_
                          refine pi_q hf rfl rfl rfl rfl (Ext.refl _) (e_move hf rfl) fun a hf => ?_
                          rcases cond_some h77 with ⟨hc95, h77⟩ | ⟨hc95, h77⟩
                          · refine pi_gs hf rfl (wanted_f hf rfl rfl rfl rfl hc95) rfl rfl (Ext.refl _) fun a hf => ?_
                            refine pi_gs hf rfl (wanted_f hf rfl rfl rfl rfl hc95) rfl rfl (Ext.refl _) fun a hf => ?_
                            refine pi_gs hf rfl (wanted_f hf rfl rfl rfl rfl hc95) rfl rfl (Ext.refl _) fun a hf => ?_
                            refine pi_gs hf rfl (wanted_f hf rfl rfl rfl rfl hc95) rfl rfl (Ext.refl _) fun a hf => ?_
                            refine pi_gs hf rfl (wanted_f hf rfl rfl rfl rfl hc95) rfl rfl (Ext.refl _) fun a hf => ?_
                            refine pi_one ?_
                            refine pi_ls hf rfl (wanted_f hf rfl rfl rfl rfl hc95) rfl rfl (Ext.refl _) fun a hf => ?_
                            refine pi_gs hf rfl (wanted_f hf rfl rfl rfl rfl hc95) rfl rfl (Ext.refl _) fun a hf => ?_
                            refine pi_q hf rfl rfl rfl rfl (Ext.refl _) (e_pick_t hf rfl hc95 rfl) fun a hf => ?_
                            refine pi_nil ?_
                            obtain rfl := some_inj h77
                            refine then_n ?_
                            exact ⟨true, rfl, hf.keep ⟨rfl, rfl, rfl, rfl, rfl, rfl, rfl, rfl, rfl, trivial⟩, hM.pick [0, 1, 2, 3] rfl⟩
                          · refine pi_gq hf rfl (wanted_t hf rfl rfl rfl rfl hc95) rfl rfl (Ext.refl _) (e_move hf rfl) fun a hf => ?_
                            refine pi_gq hf rfl (wanted_t hf rfl rfl rfl rfl hc95) rfl rfl (Ext.refl _) (e_field hf rfl Tryd.underlying26 rfl Tryd.sizeOf24 (o' := 0) rfl) fun a hf => ?_
                            refine pi_gq hf rfl (wanted_t hf rfl rfl rfl rfl hc95) rfl rfl (Ext.refl _) (e_load1 hf rfl Tryd.isAgg24 (hM.boxCell (k := 1) rfl rfl)) fun a hf => ?_
                            have hl97 := slice_len (hM.dat (k := 3) rfl)
                            refine pi_gq hf rfl (wanted_t hf rfl rfl rfl rfl hc95) rfl rfl (Ext.refl _) (e_lenL hf (x := d1.Nodes) rfl Tryd.underlying24) fun a hf => ?_
                            obtain ⟨z98, hz99, h77⟩ := bind_some h77
                            refine pi_gq hf rfl (wanted_t hf rfl rfl rfl rfl hc95) rfl rfl (Ext.refl _) (e_sub hf rfl rfl hz99) fun a hf => ?_
                            refine pi_one ?_
                            obtain ⟨y100, hz101, h77⟩ := bind_some h77
                            refine pi_gl hf rfl (wanted_t hf rfl rfl rfl rfl hc95) rfl rfl (w_call hf Tryd.call50 rfl (r_impl_within ⟨_, Sh C _ _, none_, hM.sh_lt, none_not, C.G, hM.g_lt, g_none, hM.tabs⟩ e65 hv73 0 (R64_lit rfl) z98 (chk_R hz99) _ hz101) ?_)
                            rintro _ w102 ⟨rfl, hM2⟩
                            obtain ⟨hM, hx103, hup104⟩ := hM.back hM2
                            dsimp only [List.cons_append, List.nil_append] at hM hup104
                            clear hM2
                            refine ⟨_, rfl, Ext w102, fun _ h => Ext.trans hx103 h, Ext.refl _, fun a hf => ?_⟩
                            refine pi_gq hf rfl (wanted_t hf rfl rfl rfl rfl hc95) rfl rfl (Ext.refl _) (e_not hf rfl) fun a hf => ?_
                            refine pi_q hf rfl rfl rfl rfl (Ext.refl _) (e_pick_f hf rfl hc95 rfl) fun a hf => ?_
                            refine pi_nil ?_
                            obtain rfl := some_inj h77
                            refine then_n ?_
                            exact ⟨(!y100), rfl, hf.keep ⟨rfl, rfl, rfl, rfl, rfl, rfl, rfl, rfl, rfl, trivial⟩, hM.pick [0, 1, 2, 3] rfl⟩
                        · refine pi_gs hf rfl (wanted_f hf rfl rfl rfl rfl hc88) rfl rfl (Ext.refl _) fun a hf => ?_
                          refine pi_gs hf rfl (wanted_f hf rfl rfl rfl rfl hc88) rfl rfl (Ext.refl _) fun a hf => ?_
                          refine pi_gs hf rfl (wanted_f hf rfl rfl rfl rfl hc88) rfl rfl (Ext.refl _) fun a hf => ?_
                          refine pi_gs hf rfl (wanted_f hf rfl rfl rfl rfl hc88) rfl rfl (Ext.refl _) fun a hf => ?_
                          refine pi_gs hf rfl (wanted_f hf rfl rfl rfl rfl hc88) rfl rfl (Ext.refl _) fun a hf => ?_
                          refine pi_gs hf rfl (wanted_f hf rfl rfl rfl rfl hc88) rfl rfl (Ext.refl _) fun a hf => ?_
                          refine pi_gs hf rfl (wanted_f hf rfl rfl rfl rfl hc88) rfl rfl (Ext.refl _) fun a hf => ?_
                          refine pi_gs hf rfl (wanted_f hf rfl rfl rfl rfl hc88) rfl rfl (Ext.refl _) fun a hf => ?_
                          refine pi_gs hf rfl (wanted_f hf rfl rfl rfl rfl hc88) rfl rfl (Ext.refl _) fun a hf => ?_
                          refine pi_gs hf rfl (wanted_f hf rfl rfl rfl rfl hc88) rfl rfl (Ext.refl _) fun a hf => ?_
                          refine pi_gq hf rfl (wanted_t hf rfl rfl rfl rfl hc86) rfl rfl (Ext.refl _) (e_pick_f hf rfl hc88 rfl) fun a hf => ?_
                          refine pi_q hf rfl rfl rfl rfl (Ext.refl _) (e_pick_f hf rfl hc86 rfl) fun a hf => ?_
                          refine pi_q hf rfl rfl rfl rfl (Ext.refl _) (e_move hf rfl) fun a hf => ?_
                          refine pi_gq hf rfl (wanted_t hf rfl rfl rfl rfl rfl) rfl rfl (Ext.refl _) (e_move hf rfl) fun a hf => ?_
                          refine pi_gq hf rfl (wanted_t hf rfl rfl rfl rfl rfl) rfl rfl (Ext.refl _) (e_field hf rfl Tryd.underlying26 rfl Tryd.sizeOf24 (o' := 0) rfl) fun a hf => ?_
                          refine pi_gq hf rfl (wanted_t hf rfl rfl rfl rfl rfl) rfl rfl (Ext.refl _) (e_load1 hf rfl Tryd.isAgg24 (hM.boxCell (k := 1) rfl rfl)) fun a hf => ?_
                          have hl106 := slice_len (hM.dat (k := 3) rfl)
                          refine pi_gq hf rfl (wanted_t hf rfl rfl rfl rfl rfl) rfl rfl (Ext.refl _) (e_lenL hf (x := d1.Nodes) rfl Tryd.underlying24) fun a hf => ?_
                          obtain ⟨z107, hz108, h77⟩ := bind_some h77
                          refine pi_gq hf rfl (wanted_t hf rfl rfl rfl rfl rfl) rfl rfl (Ext.refl _) (e_sub hf rfl rfl hz108) fun a hf => ?_
                          refine pi_one ?_
                          obtain ⟨y109, hz110, h77⟩ := bind_some h77
                          refine pi_gl hf rfl (wanted_t hf rfl rfl rfl rfl rfl) rfl rfl (w_call hf Tryd.call50 rfl (r_impl_within ⟨_, Sh C _ _, none_, hM.sh_lt, none_not, C.G, hM.g_lt, g_none, hM.tabs⟩ e65 hv73 0 (R64_lit rfl) z107 (chk_R hz108) _ hz110) ?_)
                          rintro _ w111 ⟨rfl, hM2⟩
                          obtain ⟨hM, hx112, hup113⟩ := hM.back hM2
                          dsimp only [List.cons_append, List.nil_append] at hM hup113
                          clear hM2
                          refine ⟨_, rfl, Ext w111, fun _ h => Ext.trans hx112 h, Ext.refl _, fun a hf => ?_⟩
                          refine pi_gq hf rfl (wanted_t hf rfl rfl rfl rfl rfl) rfl rfl (Ext.refl _) (e_not hf rfl) fun a hf => ?_
                          refine pi_q hf rfl rfl rfl rfl (Ext.refl _) (e_pick_f hf rfl rfl rfl) fun a hf => ?_
                          refine pi_nil ?_
                          obtain rfl := some_inj h77
                          refine then_n ?_
                          exact ⟨(!y109), rfl, hf.keep ⟨rfl, rfl, rfl, rfl, rfl, rfl, rfl, rfl, rfl, trivial⟩, hM.pick [0, 1, 2, 3] rfl⟩
                    · rintro a w115 ⟨t74, rfl, hf, hM⟩
                      try dsimp only at h62
                      rcases cond_some h62 with ⟨hc116, h62⟩ | ⟨hc116, h62⟩
                      · refine cond_t hf rfl hc116 ?_
                        refine wp_seq ?_
                        refine region_pl ?_
                        refine q_ hf rfl rfl rfl (e_assign hf rfl) fun a hf => ?_
                        refine pl_nil ?_
                        refine then_n ?_
                        refine wp_ret ?_
                        refine blk_r ?_
                        refine then_r ?_
                        obtain rfl := some_inj h62
                        obtain rfl := hd63 _ rfl
                        try dsimp only at h33
                        refine then_r ?_
                        refine blk_r ?_
                        refine blk_r ?_
                        obtain rfl := some_inj h33
                        try dsimp only at h29
                        refine then_r ?_
                        obtain rfl := some_inj h29
                        obtain rfl := hd30 _ rfl
                        try dsimp only at h21
                        refine then_r ?_
                        refine blk_r ?_
                        obtain rfl := some_inj h21
                        try dsimp only at h
                        refine then_r ?_
                        obtain rfl := some_inj h
                        have hM := hM.outs (own' := []) 0 rfl
                        exact leave1 hf rfl rfl ⟨rfl, hM.fin⟩
                      · refine cond_f hf rfl hc116 ?_
                        refine wp_skip ?_
                        refine blk_n ?_
                        refine then_n ?_
                        refine region_pl ?_
                        obtain ⟨z117, hz118, h62⟩ := bind_some h62
                        refine q_ hf rfl rfl rfl (e_add hf rfl rfl hz118) fun a hf => ?_
                        refine q_ hf rfl rfl rfl (e_move hf rfl) fun a hf => ?_
                        refine pl_nil ?_
                        obtain rfl := some_inj h62
                        refine then_n ⟨_, rfl, ?_⟩
                        exact ⟨z117, rfl, hf.keep ⟨rfl, rfl, rfl, rfl, rfl, rfl, rfl, rfl, trivial⟩, hM.pick [1, 2, 3] rfl, (chk_R hz118)⟩
                  · refine cond_f hf rfl hc64 ?_
                    refine wp_exit ?_
                    refine then_x ?_
                    obtain rfl := some_inj h62
                    obtain rfl := hd63 _ rfl
                    try dsimp only at h33
                    refine then_x ?_
                    refine exit_hit ?_
                    refine blk_n ?_
                    obtain rfl := some_inj h33
                    refine then_n ?_
                    exact ⟨rfl, hf.keep ⟨rfl, rfl, rfl, rfl, trivial⟩, (hM.drop (.cons _ (.cons_cons _ .slnil))).pick [2] rfl⟩
            · rintro a w125 ⟨rfl, hf, hM⟩
              try dsimp only at h29
              refine region_pl ?_
              obtain ⟨z126, hz127, h29⟩ := bind_some h29
              refine q_ hf rfl rfl rfl (e_add hf rfl rfl hz127) fun a hf => ?_
              refine q_ hf rfl rfl rfl (e_move hf rfl) fun a hf => ?_
              refine pl_nil ?_
              obtain rfl := some_inj h29
              refine then_n ⟨_, rfl, ?_⟩
              exact ⟨z126, rfl, hf.keep ⟨rfl, rfl, rfl, rfl, trivial⟩, hM.pick [0] rfl, (chk_R hz127)⟩
          · refine cond_f hf rfl hc31 ?_
            refine wp_exit ?_
            refine then_x ?_
            obtain rfl := some_inj h29
            obtain rfl := hd30 _ rfl
            try dsimp only at h21
            refine then_x ?_
            refine exit_hit ?_
            obtain rfl := some_inj h21
            refine then_n ?_
            exact ⟨rfl, hf.keep trivial, hM.pick [0] rfl⟩
      · rintro a w135 ⟨rfl, hf, hM⟩
        try dsimp only at h
        refine wp_seq ?_
        refine region_pl ?_
        refine q_ hf rfl rfl rfl (e_assign hf rfl) fun a hf => ?_
        refine pl_nil ?_
        refine then_n ?_
        refine wp_ret ?_
        obtain rfl := some_inj h
        have hM := hM.outs (own' := []) 0 rfl
        exact leave1 hf rfl rfl ⟨rfl, hM.fin⟩

def Ct_impl_inspector_visit (rc : inspector → Int → Option (Bool × inspector)) : Prop := ∀ (C : Cx) (x1 : inspector) (b2 : Nat) (A3 : Option Addr) (c4 : Nat) (hp5 : (sliceRep NodeRep).R C.w0 C.S0 x1.d.Nodes [vL A3 x1.d.Nodes c4]) (hp6 : R64 x1.met) (A7 : Option Addr) (c8 : Nat) (A9 : Option Addr) (c10 : Nat) (A11 : Option Addr) (c12 : Nat) (k13 : Int) (hp14 : R64 k13) (hO : Mem C C.w0 [.box b2 [vL A3 (x1.d.Nodes) c4, vI (x1.met), vL A7 (x1.open_) c8, vL A9 (x1.strings) c10, vL A11 (x1.longest) c12] 111, .row boolRep A7 c8 4 x1.open_ true, .row intRep A9 c10 2 x1.strings true, .row intRep A11 c12 3 x1.longest true] []) (hd : ∀ b, C.S0 b → ¬ ownB [.box b2 [vL A3 (x1.d.Nodes) c4, vI (x1.met), vL A7 (x1.open_) c8, vL A9 (x1.strings) c10, vL A11 (x1.longest) c12] 111, .row boolRep A7 c8 4 x1.open_ true, .row intRep A9 c10 2 x1.strings true, .row intRep A11 c12 3 x1.longest true] b) (r : (Bool × inspector)) (h : rc x1 k13 = some r),
    Calls Tryd.prog 77 #[vP b2 (0), vI (k13)] C.w0 fun e w => ∃ (A_1 : Option Addr), ∃ (c_1 : Nat), ∃ (A_2 : Option Addr), ∃ (c_2 : Nat), ∃ (A_3 : Option Addr), ∃ (c_3 : Nat), e = .returned (.bool (r.1)) ∧ Mem C w [.box b2 [vL A3 (x1.d.Nodes) c4, vI (r.2.met), vL A_1 (r.2.open_) c_1, vL A_2 (r.2.strings) c_2, vL A_3 (r.2.longest) c_3] 111, .row boolRep A_1 c_1 4 r.2.open_ true, .row intRep A_2 c_2 2 r.2.strings true, .row intRep A_3 c_3 3 r.2.longest true] [] ∧ R64 r.2.met

set_option maxRecDepth 100000 in
set_option maxHeartbeats 4000000 in
theorem r_impl_inspector_visit_b (rc : inspector → Int → Option (Bool × inspector)) (ih : Ct_impl_inspector_visit rc) : Ct_impl_inspector_visit (m_impl_inspector_visit_b rc) := by
  intro C x1 b2 A3 c4 hp5 hp6 A7 c8 A9 c10 A11 c12 k13 hp14 hO hd r h
  have hM := hO
  have hM := hM.addIn hd (y := .dat (sliceRep NodeRep) x1.d.Nodes [vL A3 x1.d.Nodes c4]) hp5
  refine enter Tryd.func77 rfl Tryd.ntmps77 rfl fun a hf => ?_
  unfold m_impl_inspector_visit_b at h
  refine wp_seq ?_
  refine region_pl ?_
  refine q_ hf rfl rfl rfl (e_assign hf rfl) fun a hf => ?_
  refine pl_nil ?_
  refine then_n ?_
  refine wp_seq ?_
  refine wp_seq ?_
  refine region_pl ?_
  refine q_ hf rfl rfl rfl (e_move hf rfl) fun a hf => ?_
  refine q_ hf rfl rfl rfl (e_move hf rfl) fun a hf => ?_
  refine q_ hf rfl rfl rfl (e_nil hf rfl) fun a hf => ?_
  refine q_ hf rfl rfl rfl (e_field hf rfl Tryd.underlying111 rfl Tryd.sizeOf2 (o' := 1) rfl) fun a hf => ?_
  refine q_ hf rfl rfl rfl (e_load1 hf rfl Tryd.isAgg2 (hM.boxCell (k := 0) rfl rfl)) fun a hf => ?_
  refine q_ hf rfl rfl rfl (e_lt hf (x := k13) (y := x1.met) rfl rfl) fun a hf => ?_
  refine pl_nil ?_
  refine then_n ?_
  rcases cond_some h with ⟨hc15, h⟩ | ⟨hc15, h⟩
  · refine cond_t hf rfl hc15 ?_
    refine wp_seq ?_
    refine region_pl ?_
    refine q_ hf rfl rfl rfl (e_move hf rfl) fun a hf => ?_
    refine q_ hf rfl rfl rfl (e_nil hf rfl) fun a hf => ?_
    refine q_ hf rfl rfl rfl (e_field hf rfl Tryd.underlying111 rfl Tryd.sizeOf108 (o' := 2) rfl) fun a hf => ?_
    refine q_ hf rfl rfl rfl (e_load1 hf rfl Tryd.isAgg108 (hM.boxCell (k := 0) rfl rfl)) fun a hf => ?_
    refine q_ hf rfl rfl rfl (e_move hf rfl) fun a hf => ?_
    obtain ⟨e16, hz17, h⟩ := bind_some h
    obtain ⟨b22, _, hA23, h18, h19, hr20, hcell21⟩ := hM.rowElemN (k := 1) rfl (n := 1) rfl hz17
    obtain rfl : _ = _ := hr20
    refine q_ hf rfl rfl rfl (e_indexAddr (A := A7) (b := b22) (o := 0) (xs := x1.open_) (i := k13) hf hA23 rfl rfl Tryd.underlying108 Tryd.sizeOf4 h18 h19) fun a hf => ?_
    refine q_ hf rfl rfl rfl (e_load1 hf rfl Tryd.isAgg4 (hcell21 0 _ rfl)) fun a hf => ?_
    refine q_ hf rfl rfl rfl (e_not hf rfl) fun a hf => ?_
    refine q_ hf rfl rfl rfl (e_assign hf rfl) fun a hf => ?_
    refine pl_nil ?_
    refine then_n ?_
    refine wp_ret ?_
    refine then_r ?_
    obtain rfl := some_inj h
    exact leave1 hf rfl rfl ⟨A7, c8, A9, c10, A11, c12, rfl, hM.fin, hp6⟩
  · refine cond_f hf rfl hc15 ?_
    refine wp_skip ?_
    refine then_n ?_
    refine wp_seq ?_
    refine wp_seq ?_
    refine region_pl ?_
    refine q_ hf rfl rfl rfl (e_move hf rfl) fun a hf => ?_
    refine q_ hf rfl rfl rfl (e_move hf rfl) fun a hf => ?_
    refine q_ hf rfl rfl rfl (e_nil hf rfl) fun a hf => ?_
    refine q_ hf rfl rfl rfl (e_field hf rfl Tryd.underlying111 rfl Tryd.sizeOf2 (o' := 1) rfl) fun a hf => ?_
    refine q_ hf rfl rfl rfl (e_load1 hf rfl Tryd.isAgg2 (hM.boxCell (k := 0) rfl rfl)) fun a hf => ?_
    refine q_ hf rfl rfl rfl (e_gt hf (x := k13) (y := x1.met) rfl rfl) fun a hf => ?_
    refine pl_nil ?_
    refine then_n ?_
    rcases cond_some h with ⟨hc24, h⟩ | ⟨hc24, h⟩
    · refine cond_t hf rfl hc24 ?_
      refine wp_seq ?_
      refine region_pl ?_
      refine q_ hf rfl rfl rfl (e_assign hf rfl) fun a hf => ?_
      refine pl_nil ?_
      refine then_n ?_
      refine wp_ret ?_
      refine then_r ?_
      obtain rfl := some_inj h
      exact leave1 hf rfl rfl ⟨A7, c8, A9, c10, A11, c12, rfl, hM.fin, hp6⟩
    · refine cond_f hf rfl hc24 ?_
      refine wp_skip ?_
      refine then_n ?_
      refine wp_seq ?_
      refine region_pl ?_
      refine q_ hf rfl rfl rfl (e_move hf rfl) fun a hf => ?_
      refine q_ hf rfl rfl rfl (e_nil hf rfl) fun a hf => ?_
      refine q_ hf rfl rfl rfl (e_field hf rfl Tryd.underlying111 rfl Tryd.sizeOf2 (o' := 1) rfl) fun a hf => ?_
      refine q_ hf rfl rfl rfl (e_load1 hf rfl Tryd.isAgg2 (hM.boxCell (k := 0) rfl rfl)) fun a hf => ?_
      obtain ⟨z25, hz26, h⟩ := bind_some h
      refine q_ hf rfl rfl rfl (e_add hf rfl rfl hz26) fun a hf => ?_
      refine q_ hf rfl rfl rfl (e_nil hf rfl) fun a hf => ?_
      refine q_ hf rfl rfl rfl (e_field hf rfl Tryd.underlying111 rfl Tryd.sizeOf2 (o' := 1) rfl) fun a hf => ?_
      refine pl_0 hf rfl rfl (w_store hf hM (us := [vI (z25)]) (cs' := [vL A3 (x1.d.Nodes) c4, vI (z25), vL A7 (x1.open_) c8, vL A9 (x1.strings) c10, vL A11 (x1.longest) c12]) rfl rfl (k := 0) rfl rfl Tryd.sizeOf2 rfl rfl rfl fun w27 hM => ?_)
      dsimp only [List.set] at hM
      refine pl_nil ?_
      refine then_n ?_
      refine wp_seq ?_
      refine region_pl ?_
      refine q_ hf rfl rfl rfl (e_move hf rfl) fun a hf => ?_
      refine q_ hf rfl rfl rfl (e_nil hf rfl) fun a hf => ?_
      refine q_ hf rfl rfl rfl (e_field hf rfl Tryd.underlying111 rfl Tryd.sizeOf108 (o' := 2) rfl) fun a hf => ?_
      refine q_ hf rfl rfl rfl (e_load1 hf rfl Tryd.isAgg108 (hM.boxCell (k := 0) rfl rfl)) fun a hf => ?_
      refine q_ hf rfl rfl rfl (e_move hf rfl) fun a hf => ?_
      obtain ⟨e30, hz31, h⟩ := bind_some h
      obtain ⟨b36, _, hA37, h32, h33, hr34, hcell35⟩ := hM.rowElemN (k := 1) rfl (n := 1) rfl hz31
      obtain rfl : _ = _ := hr34
      refine q_ hf rfl rfl rfl (e_indexAddr (A := A7) (b := b36) (o := 0) (xs := x1.open_) (i := k13) hf hA37 rfl rfl Tryd.underlying108 Tryd.sizeOf4 h32 h33) fun a hf => ?_
      obtain ⟨xs39, hz40, h⟩ := bind_some h
      refine pl_0 hf rfl rfl (w_storeElem hf hM (x := true) (row := [.bool (true)]) (i := k13) rfl rfl rfl hA37 (k := 1) rfl rfl Tryd.sizeOf4 rfl hz40 fun w38 hM => ?_)
      dsimp only [List.set] at hM
      have hf := hf.alter (d := 38) (v := vL A7 (xs39) c8) rfl (vL_len (setL_len hz40))
      rw [vL_len (A := A7) (c := c8) (setL_len hz40)] at hM
      refine pl_nil ?_
      refine then_n ?_
      refine wp_seq ?_
      refine region_pl ?_
      refine q_ hf rfl rfl rfl (e_move hf rfl) fun a hf => ?_
      refine q_ hf rfl rfl rfl (e_nil hf rfl) fun a hf => ?_
      refine q_ hf rfl rfl rfl (e_field hf rfl Tryd.underlying111 rfl Tryd.sizeOf26 (o' := 0) rfl) fun a hf => ?_
      refine q_ hf rfl rfl rfl (e_field hf rfl Tryd.underlying26 rfl Tryd.sizeOf24 (o' := 0) rfl) fun a hf => ?_
      refine q_ hf rfl rfl rfl (e_load1 hf rfl Tryd.isAgg24 (hM.boxCell (k := 0) rfl rfl)) fun a hf => ?_
      refine q_ hf rfl rfl rfl (e_move hf rfl) fun a hf => ?_
      obtain ⟨e41, hz42, h⟩ := bind_some h
      obtain ⟨b46, o47, _, hA48, h43, h44, hr45, hM⟩ := hM.elem (hM.dat (k := 0) rfl) (n := 3) rfl hz42
      obtain ⟨A50, c51, rfl, hv49, hv52⟩ := NodeRep_open hr45
      have hM := hM.add (y := .dat (sliceRep intRep) e41.Next [vL A50 e41.Next c51]) hv52
      refine q_ hf rfl rfl rfl (e_indexAddr (A := A3) (b := b46) (o := o47) (xs := x1.d.Nodes) (i := k13) hf hA48 rfl rfl Tryd.underlying24 Tryd.sizeOf76 h43 h44) fun a hf => ?_
      refine q_ hf rfl rfl rfl (e_loadA hf (us := [.bool (e41.Final), vS (e41.Letters), vL A50 (e41.Next) c51]) rfl ⟨Tryd.isAgg76, Tryd.sizeOf76⟩ rfl (hM.litSub (k := 1) (d := 0) (us := [.bool (e41.Final), vS (e41.Letters), vL A50 (e41.Next) c51]) rfl rfl rfl)) fun a hf => ?_
      refine pl_l hf rfl rfl rfl (w_alloc hM (cs := [.bool (false), vS (([] : Str)), vL none (([] : (List Int))) 0]) Tryd.zeroValue76 rfl fun b53 w54 hx55 hM a hf => ?_)
      refine pl_0 hf rfl rfl (w_store hf hM (us := [.bool (e41.Final), vS (e41.Letters), vL A50 (e41.Next) c51]) (cs' := [.bool (e41.Final), vS (e41.Letters), vL A50 (e41.Next) c51]) rfl rfl (k := 0) rfl rfl Tryd.sizeOf76 rfl rfl rfl fun w57 hM => ?_)
      dsimp only [List.set] at hM
      refine pl_nil ?_
      refine then_n ?_
      obtain ⟨x62, h63, h⟩ := bind_some h
      refine seq_join (fun a w => ∃ (xs60 : (List Int)), xs60 = x62 ∧ Has 131 a [(0, vP b2 (0)), (1, vI (k13)), (5, vP b53 (0))] ∧ Mem C w [.box b53 [.bool (e41.Final), vS (e41.Letters), vL A50 (e41.Next) c51] 76, .box b2 [vL A3 (x1.d.Nodes) c4, vI (z25), vL A7 (xs39) c8, vL A9 (xs60) c10, vL A11 (x1.longest) c12] 111, .row boolRep A7 c8 4 xs39 true, .row intRep A9 c10 2 xs60 true, .row intRep A11 c12 3 x1.longest true] [.dat (sliceRep intRep) e41.Next [vL A50 e41.Next c51], .lit b46 (o47 + (k13 : Int).toNat * 3) [.bool (e41.Final), vS (e41.Letters), vL A50 (e41.Next) c51], .dat (sliceRep NodeRep) x1.d.Nodes [vL A3 x1.d.Nodes c4]] ∧ xs60.length = x1.strings.length) ?_ ?_
      · refine wp_seq ?_
        refine region_pl ?_
        refine q_ hf rfl rfl rfl (e_field hf rfl Tryd.underlying76 rfl Tryd.sizeOf4 (o' := 0) rfl) fun a hf => ?_
        refine q_ hf rfl rfl rfl (e_load1 hf rfl Tryd.isAgg4 (hM.boxCell (k := 0) rfl rfl)) fun a hf => ?_
        refine pl_nil ?_
        refine then_n ?_
        rcases cond_some h63 with ⟨hc64, h63⟩ | ⟨hc64, h63⟩
        · refine cond_t hf rfl hc64 ?_
          refine region_pl ?_
          refine q_ hf rfl rfl rfl (e_move hf rfl) fun a hf => ?_
          refine q_ hf rfl rfl rfl (e_nil hf rfl) fun a hf => ?_
          refine q_ hf rfl rfl rfl (e_field hf rfl Tryd.underlying111 rfl Tryd.sizeOf31 (o' := 3) rfl) fun a hf => ?_
          refine q_ hf rfl rfl rfl (e_load1 hf rfl Tryd.isAgg31 (hM.boxCell (k := 1) rfl rfl)) fun a hf => ?_
          refine q_ hf rfl rfl rfl (e_move hf rfl) fun a hf => ?_
          obtain ⟨e65, hz66, h63⟩ := bind_some h63
          obtain ⟨b71, _, hA72, h67, h68, hr69, hcell70⟩ := hM.rowElemN (k := 3) rfl (n := 1) rfl hz66
          obtain ⟨rfl, hv73⟩ := hr69
          refine q_ hf rfl rfl rfl (e_indexAddr (A := A9) (b := b71) (o := 0) (xs := x1.strings) (i := k13) hf hA72 rfl rfl Tryd.underlying31 Tryd.sizeOf2 h67 h68) fun a hf => ?_
          obtain ⟨xs75, hz76, h63⟩ := bind_some h63
          refine pl_0 hf rfl rfl (w_storeElem hf hM (x := 1) (row := [vI (1)]) (i := k13) rfl rfl rfl hA72 (k := 3) rfl rfl Tryd.sizeOf2 ⟨rfl, (R64_lit rfl)⟩ hz76 fun w74 hM => ?_)
          dsimp only [List.set] at hM
          have hf := hf.alter (d := 54) (v := vL A9 (xs75) c10) rfl (vL_len (setL_len hz76))
          rw [vL_len (A := A9) (c := c10) (setL_len hz76)] at hM
          refine pl_nil ?_
          obtain rfl := some_inj h63
          refine then_n ?_
          exact ⟨xs75, rfl, hf.keep ⟨rfl, rfl, rfl, trivial⟩, hM.pick [0, 1, 2] rfl, (setL_len hz76)⟩
        · refine cond_f hf rfl hc64 ?_
          refine wp_skip ?_
          obtain rfl := some_inj h63
          refine then_n ?_
          exact ⟨x1.strings, rfl, hf.keep ⟨rfl, rfl, rfl, trivial⟩, hM.pick [0, 1, 2] rfl, rfl⟩
      · rintro a w79 ⟨xs60, rfl, hf, hM, hl61⟩
        try dsimp only at h
        obtain ⟨x91, h92, h⟩ := bind_some h
        refine seq_join (fun a w => ∃ (n80 : Int) (xs82 : (List Bool)) (xs85 : (List Int)) (xs88 : (List Int)) (A83 : Option Addr) (c84 : Nat) (A86 : Option Addr) (c87 : Nat) (A89 : Option Addr) (c90 : Nat), (.inl (n80, xs82, xs85, xs88)) = x91 ∧ Has 131 a [(0, vP b2 (0)), (1, vI (k13))] ∧ Mem C w [.box b53 [.bool (e41.Final), vS (e41.Letters), vL A50 (e41.Next) c51] 76, .box b2 [vL A3 (x1.d.Nodes) c4, vI (n80), vL A83 (xs82) c84, vL A86 (xs85) c87, vL A89 (xs88) c90] 111, .row boolRep A83 c84 4 xs82 true, .row intRep A86 c87 2 xs85 true, .row intRep A89 c90 3 xs88 true] [.dat (sliceRep intRep) e41.Next [vL A50 e41.Next c51], .lit b46 (o47 + (k13 : Int).toNat * 3) [.bool (e41.Final), vS (e41.Letters), vL A50 (e41.Next) c51], .dat (sliceRep NodeRep) x1.d.Nodes [vL A3 x1.d.Nodes c4]] ∧ R64 n80) ?_ ?_
        · refine wp_seq ?_
          refine region_pl ?_
          refine q_ hf rfl rfl rfl (e_field hf rfl Tryd.underlying76 rfl Tryd.sizeOf31 (o' := 2) rfl) fun a hf => ?_
          refine q_ hf rfl rfl rfl (e_load1 hf rfl Tryd.isAgg31 (hM.boxCell (k := 0) rfl rfl)) fun a hf => ?_
          have hl93 := slice_len (hM.dat (k := 0) rfl)
          refine q_ hf rfl rfl rfl (e_lenL hf (x := e41.Next) rfl Tryd.underlying31) fun a hf => ?_
          refine q_ hf rfl rfl rfl (e_move hf rfl) fun a hf => ?_
          refine pl_nil ?_
          refine then_n ?_
          refine wp_block ?_
          obtain ⟨x119, h120, h92⟩ := bind_some h92
          refine wp_loopM h120 (fun s a w => ∃ (n94 : Int) (xs96 : (List Bool)) (xs99 : (List Int)) (xs102 : (List Int)) (n105 : Int) (A97 : Option Addr) (c98 : Nat) (A100 : Option Addr) (c101 : Nat) (A103 : Option Addr) (c104 : Nat), (n94, xs96, xs99, xs102, n105) = s ∧ Has 131 a [(0, vP b2 (0)), (1, vI (k13)), (58, vL A50 (e41.Next) c51), (59, vI ((e41.Next.length : Int))), (60, vI (n105))] ∧ Mem C w [.box b53 [.bool (e41.Final), vS (e41.Letters), vL A50 (e41.Next) c51] 76, .box b2 [vL A3 (x1.d.Nodes) c4, vI (n94), vL A97 (xs96) c98, vL A100 (xs99) c101, vL A103 (xs102) c104] 111, .row boolRep A97 c98 4 xs96 true, .row intRep A100 c101 2 xs99 true, .row intRep A103 c104 3 xs102 true] [.dat (sliceRep intRep) e41.Next [vL A50 e41.Next c51], .lit b46 (o47 + (k13 : Int).toNat * 3) [.bool (e41.Final), vS (e41.Letters), vL A50 (e41.Next) c51], .dat (sliceRep NodeRep) x1.d.Nodes [vL A3 x1.d.Nodes c4]] ∧ R64 n94 ∧ R64 n105) ?_ ?_
          · exact ⟨z25, xs39, xs60, x1.longest, 0, A7, c8, A9, c10, A11, c12, rfl, hf.keep ⟨rfl, rfl, rfl, rfl, rfl, trivial⟩, hM.pick [0, 1, 2] rfl, (chk_R hz26), (R64_lit rfl)⟩
          · rintro s o121 a w107 ⟨n94, xs96, xs99, xs102, n105, A97, c98, A100, c101, A103, c104, rfl, hf, hM, hv95, hv106⟩ h122 hd123
            replace h122 : m_impl_inspector_visit_l1 e41 rc x1 k13 n94 xs96 xs99 xs102 n105 = some o121 := h122
            unfold m_impl_inspector_visit_l1 at h122
            refine wp_seq ?_
            refine region_pl ?_
            refine q_ hf rfl rfl rfl (e_lt hf (x := n105) (y := (e41.Next.length : Int)) rfl rfl) fun a hf => ?_
            refine pl_nil ?_
            refine then_n ?_
            refine wp_seq ?_
            rcases cond_some h122 with ⟨hc124, h122⟩ | ⟨hc124, h122⟩
            · refine cond_t hf rfl hc124 ?_
              refine wp_skip ?_
              refine then_n ?_
              refine wp_seq ?_
              refine wp_block ?_
              refine wp_seq ?_
              refine region_pl ?_
              obtain ⟨e125, hz126, h122⟩ := bind_some h122
              obtain ⟨b130, o131, _, hA132, h127, h128, hr129, hM⟩ := hM.elem (hM.dat (k := 0) rfl) (n := 1) rfl hz126
              obtain ⟨rfl, hv133⟩ := hr129
              refine q_ hf rfl rfl rfl (e_indexAddr (A := A50) (b := b130) (o := o131) (xs := e41.Next) (i := n105) hf hA132 rfl rfl Tryd.underlying31 Tryd.sizeOf2 h127 h128) fun a hf => ?_
              refine q_ hf rfl rfl rfl (e_load1 hf rfl Tryd.isAgg2 (hM.litCell (k := 0) (j := 0) rfl rfl rfl)) fun a hf => ?_
              refine q_ hf rfl rfl rfl (e_assign hf rfl) fun a hf => ?_
              refine pl_nil ?_
              refine then_n ?_
              refine wp_seq ?_
              refine wp_seq ?_
              refine region_pl ?_
              refine q_ hf rfl rfl rfl (e_move hf rfl) fun a hf => ?_
              refine q_ hf rfl rfl rfl (e_move hf rfl) fun a hf => ?_
              have hM := hM.front (k := 4) rfl
              dsimp only [List.eraseIdx] at hM
              have hM := hM.front (k := 4) rfl
              dsimp only [List.eraseIdx] at hM
              have hM := hM.front (k := 4) rfl
              dsimp only [List.eraseIdx] at hM
              have hM := hM.front (k := 4) rfl
              dsimp only [List.eraseIdx] at hM
              have hM : Mem C _ ([.box b2 [vL A3 (x1.d.Nodes) c4, vI (n94), vL A97 (xs96) c98, vL A100 (xs99) c101, vL A103 (xs102) c104] 111, .row boolRep A97 c98 4 xs96 true, .row intRep A100 c101 2 xs99 true, .row intRep A103 c104 3 xs102 true] ++ [.box b53 [.bool (e41.Final), vS (e41.Letters), vL A50 (e41.Next) c51] 76]) _ := hM
              obtain ⟨y134, hz135, h122⟩ := bind_some h122
              refine pl_l hf rfl rfl rfl (w_call hf Tryd.call77 rfl (ih ⟨_, Sh C _ _, ownB _, hM.sh_lt, sub_dis, C.G, hM.g_lt, hM.g_own, hM.tabs⟩ (⟨⟨x1.d.Nodes⟩, n94, xs96, xs99, xs102⟩ : inspector) _ _ _ (hM.dat (k := 3) rfl) hv95 _ _ _ _ _ _ e125 hv133 hM.sub sub_dis _ hz135) ?_)
              rintro _ w143 ⟨A137, c138, A139, c140, A141, c142, rfl, hM2, hv136⟩
              obtain ⟨hM, hup145⟩ := hM.backG hM2
              dsimp only [List.cons_append, List.nil_append] at hM hup145
              clear hM2
              refine ⟨_, rfl, fun a hf => ?_⟩
              refine q_ hf rfl rfl rfl (e_not hf rfl) fun a hf => ?_
              refine pl_nil ?_
              refine then_n ?_
              rcases cond_some h122 with ⟨hc146, h122⟩ | ⟨hc146, h122⟩
              · refine cond_t hf rfl hc146 ?_
                refine wp_seq ?_
                refine region_pl ?_
                refine q_ hf rfl rfl rfl (e_assign hf rfl) fun a hf => ?_
                refine pl_nil ?_
                refine then_n ?_
                refine wp_ret ?_
                refine then_r ?_
                refine blk_r ?_
                refine then_r ?_
                obtain rfl := some_inj h122
                obtain rfl := hd123 _ rfl
                try dsimp only at h92
                refine then_r ?_
                refine blk_r ?_
                obtain rfl := some_inj h92
                try dsimp only at h
                refine then_r ?_
                obtain rfl := some_inj h
                have hM := hM.outs (own' := [.box b2 [vL A3 (x1.d.Nodes) c4, vI (y134.2.met), vL A137 (y134.2.open_) c138, vL A139 (y134.2.strings) c140, vL A141 (y134.2.longest) c142] 111, .row boolRep A137 c138 4 y134.2.open_ true, .row intRep A139 c140 2 y134.2.strings true, .row intRep A141 c142 3 y134.2.longest true]) 4 rfl
                exact leave1 hf rfl rfl ⟨A137, c138, A139, c140, A141, c142, rfl, hM.fin, hv136⟩
              · refine cond_f hf rfl hc146 ?_
                refine wp_skip ?_
                refine then_n ?_
                refine wp_seq ?_
                obtain ⟨w147, hw⟩ : ∃ x, x = w143.drew := ⟨_, rfl⟩
                refine region_pi (.q 0 (.q 1 (.q 2 (.q 3 (.q 4 (.q 5 (.q 6 (.q 7 (.q 8 (.q 9 (.q 10 (.q 11 (.q 12 (.q 13 (.q 14 (.q 15 (.q 16 (.q 17 (.q 18 (.q 19 (.q 20 (.q 21 (.l 22 (.nil)))))))))))))))))))))))) (Ext w147) rfl (by kernel_rfl) ?_
                have hM := hM.drew
                rw [← hw] at hM ⊢
                clear hw
                refine pi_q hf rfl rfl rfl rfl (Ext.refl _) (e_move hf rfl) fun a hf => ?_
                refine pi_q hf rfl rfl rfl rfl (Ext.refl _) (e_nil hf rfl) fun a hf => ?_
                refine pi_q hf rfl rfl rfl rfl (Ext.refl _) (e_field hf rfl Tryd.underlying111 rfl Tryd.sizeOf31 (o' := 3) rfl) fun a hf => ?_
                refine pi_q hf rfl rfl rfl rfl (Ext.refl _) (e_load1 hf rfl Tryd.isAgg31 (hM.boxCell (k := 0) rfl rfl)) fun a hf => ?_
                refine pi_q hf rfl rfl rfl rfl (Ext.refl _) (e_move hf rfl) fun a hf => ?_
                refine pi_q hf rfl rfl rfl rfl (Ext.refl _) (e_move hf rfl) fun a hf => ?_
                refine pi_q hf rfl rfl rfl rfl (Ext.refl _) (e_nil hf rfl) fun a hf => ?_
                refine pi_q hf rfl rfl rfl rfl (Ext.refl _) (e_field hf rfl Tryd.underlying111 rfl Tryd.sizeOf31 (o' := 3) rfl) fun a hf => ?_
                refine pi_q hf rfl rfl rfl rfl (Ext.refl _) (e_load1 hf rfl Tryd.isAgg31 (hM.boxCell (k := 0) rfl rfl)) fun a hf => ?_
                refine pi_q hf rfl rfl rfl rfl (Ext.refl _) (e_move hf rfl) fun a hf => ?_
                obtain ⟨e148, hz149, h122⟩ := bind_some h122
                obtain ⟨b154, _, hA155, h150, h151, hr152, hcell153⟩ := hM.rowElemN (k := 2) rfl (n := 1) rfl hz149
                obtain ⟨rfl, hv156⟩ := hr152
                refine pi_q hf rfl rfl rfl rfl (Ext.refl _) (e_indexAddr (A := A139) (b := b154) (o := 0) (xs := y134.2.strings) (i := k13) hf hA155 rfl rfl Tryd.underlying31 Tryd.sizeOf2 h150 h151) fun a hf => ?_
                refine pi_q hf rfl rfl rfl rfl (Ext.refl _) (e_load1 hf rfl Tryd.isAgg2 (hcell153 0 _ rfl)) fun a hf => ?_
                refine pi_q hf rfl rfl rfl rfl (Ext.refl _) (e_move hf rfl) fun a hf => ?_
                refine pi_q hf rfl rfl rfl rfl (Ext.refl _) (e_nil hf rfl) fun a hf => ?_
                refine pi_q hf rfl rfl rfl rfl (Ext.refl _) (e_field hf rfl Tryd.underlying111 rfl Tryd.sizeOf31 (o' := 3) rfl) fun a hf => ?_
                refine pi_q hf rfl rfl rfl rfl (Ext.refl _) (e_load1 hf rfl Tryd.isAgg31 (hM.boxCell (k := 0) rfl rfl)) fun a hf => ?_
                refine pi_q hf rfl rfl rfl rfl (Ext.refl _) (e_move hf rfl) fun a hf => ?_
                obtain ⟨e157, hz158, h122⟩ := bind_some h122
                obtain ⟨b163, _, hA164, h159, h160, hr161, hcell162⟩ := hM.rowElemN (k := 2) rfl (n := 1) rfl hz158
                obtain ⟨rfl, hv165⟩ := hr161
                refine pi_q hf rfl rfl rfl rfl (Ext.refl _) (e_indexAddr (A := A139) (b := b163) (o := 0) (xs := y134.2.strings) (i := e125) hf hA164 rfl rfl Tryd.underlying31 Tryd.sizeOf2 h159 h160) fun a hf => ?_
                refine pi_q hf rfl rfl rfl rfl (Ext.refl _) (e_load1 hf rfl Tryd.isAgg2 (hcell162 0 _ rfl)) fun a hf => ?_
                obtain ⟨z166, hz167, h122⟩ := bind_some h122
                refine pi_q hf rfl rfl rfl rfl (Ext.refl _) (e_add hf rfl rfl hz167) fun a hf => ?_
                refine pi_q hf rfl rfl rfl rfl (Ext.refl _) (e_min hf rfl rfl) fun a hf => ?_
                obtain ⟨e168, hz169, h122⟩ := bind_some h122
                obtain ⟨b174, _, hA175, h170, h171, hr172, hcell173⟩ := hM.rowElemN (k := 2) rfl (n := 1) rfl hz169
                obtain ⟨rfl, hv176⟩ := hr172
                refine pi_q hf rfl rfl rfl rfl (Ext.refl _) (e_indexAddr (A := A139) (b := b174) (o := 0) (xs := y134.2.strings) (i := k13) hf hA175 rfl rfl Tryd.underlying31 Tryd.sizeOf2 h170 h171) fun a hf => ?_
                refine pi_one ?_
                obtain ⟨xs178, hz179, h122⟩ := bind_some h122
                refine pi_z0 hf rfl rfl rfl (by kernel_rfl) (w_storeElem hf hM (x := min z166 3001) (row := [vI (min z166 3001)]) (i := k13) rfl rfl rfl hA175 (k := 2) rfl rfl Tryd.sizeOf2 ⟨rfl, (R64_min (chk_R hz167) (R64_lit rfl))⟩ hz179 fun w177 hM => ?_)
                dsimp only [List.set] at hM
                have hf := hf.alter (d := 71) (v := vL A139 (xs178) c140) rfl (vL_len (setL_len hz179))
                have hf := hf.alter (d := 76) (v := vL A139 (xs178) c140) rfl (vL_len (setL_len hz179))
                have hf := hf.alter (d := 83) (v := vL A139 (xs178) c140) rfl (vL_len (setL_len hz179))
                rw [vL_len (A := A139) (c := c140) (setL_len hz179)] at hM
                refine pi_nil ?_
                refine then_n ?_
                obtain ⟨w180, hw⟩ : ∃ x, x = w177.drew := ⟨_, rfl⟩
                refine region_pi (.q 0 (.q 1 (.q 2 (.q 3 (.q 4 (.q 5 (.q 6 (.q 7 (.q 8 (.q 9 (.q 10 (.q 11 (.q 12 (.q 13 (.q 14 (.q 15 (.q 16 (.q 17 (.q 18 (.q 19 (.q 20 (.q 21 (.l 22 (.nil)))))))))))))))))))))))) (Ext w180) rfl (by kernel_rfl) ?_
                have hM := hM.drew
                rw [← hw] at hM ⊢
                clear hw
                refine pi_q hf rfl rfl rfl rfl (Ext.refl _) (e_move hf rfl) fun a hf => ?_
                refine pi_q hf rfl rfl rfl rfl (Ext.refl _) (e_nil hf rfl) fun a hf => ?_
                refine pi_q hf rfl rfl rfl rfl (Ext.refl _) (e_field hf rfl Tryd.underlying111 rfl Tryd.sizeOf109 (o' := 4) rfl) fun a hf => ?_
                refine pi_q hf rfl rfl rfl rfl (Ext.refl _) (e_load1 hf rfl Tryd.isAgg109 (hM.boxCell (k := 0) rfl rfl)) fun a hf => ?_
                refine pi_q hf rfl rfl rfl rfl (Ext.refl _) (e_move hf rfl) fun a hf => ?_
                refine pi_q hf rfl rfl rfl rfl (Ext.refl _) (e_move hf rfl) fun a hf => ?_
                refine pi_q hf rfl rfl rfl rfl (Ext.refl _) (e_nil hf rfl) fun a hf => ?_
                refine pi_q hf rfl rfl rfl rfl (Ext.refl _) (e_field hf rfl Tryd.underlying111 rfl Tryd.sizeOf109 (o' := 4) rfl) fun a hf => ?_
                refine pi_q hf rfl rfl rfl rfl (Ext.refl _) (e_load1 hf rfl Tryd.isAgg109 (hM.boxCell (k := 0) rfl rfl)) fun a hf => ?_
                refine pi_q hf rfl rfl rfl rfl (Ext.refl _) (e_move hf rfl) fun a hf => ?_
                obtain ⟨e181, hz182, h122⟩ := bind_some h122
                obtain ⟨b187, _, hA188, h183, h184, hr185, hcell186⟩ := hM.rowElemN (k := 3) rfl (n := 1) rfl hz182
                obtain ⟨rfl, hv189⟩ := hr185
                refine pi_q hf rfl rfl rfl rfl (Ext.refl _) (e_indexAddr (A := A141) (b := b187) (o := 0) (xs := y134.2.longest) (i := k13) hf hA188 rfl rfl Tryd.underlying109 Tryd.sizeOf3 h183 h184) fun a hf => ?_
                refine pi_q hf rfl rfl rfl rfl (Ext.refl _) (e_load1 hf rfl Tryd.isAgg3 (hcell186 0 _ rfl)) fun a hf => ?_
                refine pi_q hf rfl rfl rfl rfl (Ext.refl _) (e_move hf rfl) fun a hf => ?_
                refine pi_q hf rfl rfl rfl rfl (Ext.refl _) (e_nil hf rfl) fun a hf => ?_
                refine pi_q hf rfl rfl rfl rfl (Ext.refl _) (e_field hf rfl Tryd.underlying111 rfl Tryd.sizeOf109 (o' := 4) rfl) fun a hf => ?_
                refine pi_q hf rfl rfl rfl rfl (Ext.refl _) (e_load1 hf rfl Tryd.isAgg109 (hM.boxCell (k := 0) rfl rfl)) fun a hf => ?_
                refine pi_q hf rfl rfl rfl rfl (Ext.refl _) (e_move hf rfl) fun a hf => ?_
                obtain ⟨e190, hz191, h122⟩ := bind_some h122
                obtain ⟨b196, _, hA197, h192, h193, hr194, hcell195⟩ := hM.rowElemN (k := 3) rfl (n := 1) rfl hz191
                obtain ⟨rfl, hv198⟩ := hr194
                refine pi_q hf rfl rfl rfl rfl (Ext.refl _) (e_indexAddr (A := A141) (b := b196) (o := 0) (xs := y134.2.longest) (i := e125) hf hA197 rfl rfl Tryd.underlying109 Tryd.sizeOf3 h192 h193) fun a hf => ?_
                refine pi_q hf rfl rfl rfl rfl (Ext.refl _) (e_load1 hf rfl Tryd.isAgg3 (hcell195 0 _ rfl)) fun a hf => ?_
                obtain ⟨z199, hz200, h122⟩ := bind_some h122
                refine pi_q hf rfl rfl rfl rfl (Ext.refl _) (e_add hf rfl rfl hz200) fun a hf => ?_
                refine pi_q hf rfl rfl rfl rfl (Ext.refl _) (e_max hf rfl rfl) fun a hf => ?_
                obtain ⟨e201, hz202, h122⟩ := bind_some h122
                obtain ⟨b207, _, hA208, h203, h204, hr205, hcell206⟩ := hM.rowElemN (k := 3) rfl (n := 1) rfl hz202
                obtain ⟨rfl, hv209⟩ := hr205
                refine pi_q hf rfl rfl rfl rfl (Ext.refl _) (e_indexAddr (A := A141) (b := b207) (o := 0) (xs := y134.2.longest) (i := k13) hf hA208 rfl rfl Tryd.underlying109 Tryd.sizeOf3 h203 h204) fun a hf => ?_
                refine pi_one ?_
                obtain ⟨xs211, hz212, h122⟩ := bind_some h122
                refine pi_z0 hf rfl rfl rfl (by kernel_rfl) (w_storeElem hf hM (x := max e181 z199) (row := [vI (max e181 z199)]) (i := k13) rfl rfl rfl hA208 (k := 3) rfl rfl Tryd.sizeOf3 ⟨rfl, (R64_max hv189 (chk_R hz200))⟩ hz212 fun w210 hM => ?_)
                dsimp only [List.set] at hM
                have hf := hf.alter (d := 93) (v := vL A141 (xs211) c142) rfl (vL_len (setL_len hz212))
                have hf := hf.alter (d := 98) (v := vL A141 (xs211) c142) rfl (vL_len (setL_len hz212))
                have hf := hf.alter (d := 105) (v := vL A141 (xs211) c142) rfl (vL_len (setL_len hz212))
                rw [vL_len (A := A141) (c := c142) (setL_len hz212)] at hM
                refine pi_nil ?_
                refine blk_n ?_
                refine then_n ?_
                refine region_pl ?_
                obtain ⟨z213, hz214, h122⟩ := bind_some h122
                refine q_ hf rfl rfl rfl (e_add hf rfl rfl hz214) fun a hf => ?_
                refine q_ hf rfl rfl rfl (e_move hf rfl) fun a hf => ?_
                refine pl_nil ?_
                obtain rfl := some_inj h122
                refine then_n ⟨_, rfl, ?_⟩
                have hM := hM.front (k := 3) rfl
                dsimp only [List.eraseIdx] at hM
                have hM := hM.front (k := 3) rfl
                dsimp only [List.eraseIdx] at hM
                have hM := hM.front (k := 3) rfl
                dsimp only [List.eraseIdx] at hM
                have hM := hM.front (k := 3) rfl
                dsimp only [List.eraseIdx] at hM
                have hM := hM.front (k := 4) rfl
                dsimp only [List.eraseIdx] at hM
                exact ⟨y134.2.met, y134.2.open_, xs178, xs211, z213, A137, c138, A139, c140, A141, c142, rfl, hf.keep ⟨rfl, rfl, rfl, rfl, rfl, trivial⟩, hM.pick [1, 2, 3] rfl, hv136, (chk_R hz214)⟩
            · refine cond_f hf rfl hc124 ?_
              refine wp_exit ?_
              refine then_x ?_
              obtain rfl := some_inj h122
              obtain rfl := hd123 _ rfl
              try dsimp only at h92
              refine then_x ?_
              refine exit_hit ?_
              obtain rfl := some_inj h92
              refine then_n ?_
              exact ⟨n94, xs96, xs99, xs102, A97, c98, A100, c101, A103, c104, rfl, hf.keep ⟨rfl, rfl, trivial⟩, hM.pick [0, 1, 2] rfl, hv95⟩
        · rintro a w221 ⟨n80, xs82, xs85, xs88, A83, c84, A86, c87, A89, c90, rfl, hf, hM, hv81⟩
          try dsimp only at h
          refine wp_seq ?_
          refine region_pl ?_
          refine q_ hf rfl rfl rfl (e_move hf rfl) fun a hf => ?_
          refine q_ hf rfl rfl rfl (e_nil hf rfl) fun a hf => ?_
          refine q_ hf rfl rfl rfl (e_field hf rfl Tryd.underlying111 rfl Tryd.sizeOf108 (o' := 2) rfl) fun a hf => ?_
          refine q_ hf rfl rfl rfl (e_load1 hf rfl Tryd.isAgg108 (hM.boxCell (k := 1) rfl rfl)) fun a hf => ?_
          refine q_ hf rfl rfl rfl (e_move hf rfl) fun a hf => ?_
          obtain ⟨e222, hz223, h⟩ := bind_some h
          obtain ⟨b228, _, hA229, h224, h225, hr226, hcell227⟩ := hM.rowElemN (k := 2) rfl (n := 1) rfl hz223
          obtain rfl : _ = _ := hr226
          refine q_ hf rfl rfl rfl (e_indexAddr (A := A83) (b := b228) (o := 0) (xs := xs82) (i := k13) hf hA229 rfl rfl Tryd.underlying108 Tryd.sizeOf4 h224 h225) fun a hf => ?_
          obtain ⟨xs231, hz232, h⟩ := bind_some h
          refine pl_0 hf rfl rfl (w_storeElem hf hM (x := false) (row := [.bool (false)]) (i := k13) rfl rfl rfl hA229 (k := 2) rfl rfl Tryd.sizeOf4 rfl hz232 fun w230 hM => ?_)
          dsimp only [List.set] at hM
          have hf := hf.alter (d := 116) (v := vL A83 (xs231) c84) rfl (vL_len (setL_len hz232))
          rw [vL_len (A := A83) (c := c84) (setL_len hz232)] at hM
          refine pl_nil ?_
          refine then_n ?_
          obtain ⟨x235, h236, h⟩ := bind_some h
          refine seq_join (fun a w => ∃ (t233 : Bool), t233 = x235 ∧ Has 131 a [(4, .bool (t233))] ∧ Mem C w [.box b53 [.bool (e41.Final), vS (e41.Letters), vL A50 (e41.Next) c51] 76, .box b2 [vL A3 (x1.d.Nodes) c4, vI (n80), vL A83 (xs231) c84, vL A86 (xs85) c87, vL A89 (xs88) c90] 111, .row boolRep A83 c84 4 xs231 true, .row intRep A86 c87 2 xs85 true, .row intRep A89 c90 3 xs88 true] [.dat (sliceRep intRep) e41.Next [vL A50 e41.Next c51], .lit b46 (o47 + (k13 : Int).toNat * 3) [.bool (e41.Final), vS (e41.Letters), vL A50 (e41.Next) c51], .dat (sliceRep NodeRep) x1.d.Nodes [vL A3 x1.d.Nodes c4]]) ?_ ?_
          · refine region_pl ?_
            refine q_ hf rfl rfl rfl (e_move hf rfl) fun a hf => ?_
            refine q_ hf rfl rfl rfl (e_nil hf rfl) fun a hf => ?_
            refine q_ hf rfl rfl rfl (e_field hf rfl Tryd.underlying111 rfl Tryd.sizeOf31 (o' := 3) rfl) fun a hf => ?_
            refine q_ hf rfl rfl rfl (e_load1 hf rfl Tryd.isAgg31 (hM.boxCell (k := 1) rfl rfl)) fun a hf => ?_
            refine q_ hf rfl rfl rfl (e_move hf rfl) fun a hf => ?_
            obtain ⟨e237, hz238, h236⟩ := bind_some h236
            obtain ⟨b243, _, hA244, h239, h240, hr241, hcell242⟩ := hM.rowElemN (k := 3) rfl (n := 1) rfl hz238
            obtain ⟨rfl, hv245⟩ := hr241
            refine q_ hf rfl rfl rfl (e_indexAddr (A := A86) (b := b243) (o := 0) (xs := xs85) (i := k13) hf hA244 rfl rfl Tryd.underlying31 Tryd.sizeOf2 h239 h240) fun a hf => ?_
            refine q_ hf rfl rfl rfl (e_load1 hf rfl Tryd.isAgg2 (hcell242 0 _ rfl)) fun a hf => ?_
            refine q_ hf rfl rfl rfl (e_gt hf (x := e237) (y := 0) rfl rfl) fun a hf => ?_
            refine q_ hf rfl rfl rfl (e_move hf rfl) fun a hf => ?_
            rcases cond_some h236 with ⟨hc246, h236⟩ | ⟨hc246, h236⟩
            · refine pl_gs (wanted_f hf rfl rfl rfl rfl hc246) hf rfl rfl fun a hf => ?_
              refine pl_gs (wanted_f hf rfl rfl rfl rfl hc246) hf rfl rfl fun a hf => ?_
              refine q_ hf rfl rfl rfl (e_pick_t hf rfl hc246 rfl) fun a hf => ?_
              refine q_ hf rfl rfl rfl (e_assign hf rfl) fun a hf => ?_
              refine pl_nil ?_
              obtain rfl := some_inj h236
              refine then_n ?_
              exact ⟨true, rfl, hf.keep ⟨rfl, trivial⟩, hM.pick [0, 1, 2] rfl⟩
            · refine gq (wanted_t hf rfl rfl rfl rfl hc246) hf rfl rfl (e_move hf rfl) fun a hf => ?_
              refine gq (wanted_t hf rfl rfl rfl rfl hc246) hf rfl rfl (e_eq hf (x := k13) (y := 0) rfl rfl) fun a hf => ?_
              refine q_ hf rfl rfl rfl (e_pick_f hf rfl hc246 rfl) fun a hf => ?_
              refine q_ hf rfl rfl rfl (e_assign hf rfl) fun a hf => ?_
              refine pl_nil ?_
              obtain rfl := some_inj h236
              refine then_n ?_
              exact ⟨(k13 == 0), rfl, hf.keep ⟨rfl, trivial⟩, hM.pick [0, 1, 2] rfl⟩
          · rintro a w249 ⟨t233, rfl, hf, hM⟩
            try dsimp only at h
            refine wp_ret ?_
            obtain rfl := some_inj h
            have hM := hM.front (k := 4) rfl
            dsimp only [List.eraseIdx] at hM
            have hM := hM.front (k := 4) rfl
            dsimp only [List.eraseIdx] at hM
            have hM := hM.front (k := 4) rfl
            dsimp only [List.eraseIdx] at hM
            have hM := hM.front (k := 4) rfl
            dsimp only [List.eraseIdx] at hM
            have hM := hM.outs (own' := [.box b2 [vL A3 (x1.d.Nodes) c4, vI (n80), vL A83 (xs231) c84, vL A86 (xs85) c87, vL A89 (xs88) c90] 111, .row boolRep A83 c84 4 xs231 true, .row intRep A86 c87 2 xs85 true, .row intRep A89 c90 3 xs88 true]) 4 rfl
            exact leave1 hf rfl rfl ⟨A83, c84, A86, c87, A89, c90, rfl, hM.fin, hv81⟩

theorem r_impl_inspector_visit_n : ∀ n, Ct_impl_inspector_visit (m_impl_inspector_visit_n n)
  | 0 => fun C x1 b2 A3 c4 hp5 hp6 A7 c8 A9 c10 A11 c12 k13 hp14 hO hd r h => by cases h
  | n + 1 => r_impl_inspector_visit_b _ (r_impl_inspector_visit_n n)

theorem r_impl_inspector_visit : Ct_impl_inspector_visit (m_impl_inspector_visit) := r_impl_inspector_visit_n fuelN

set_option maxRecDepth 100000 in
set_option maxHeartbeats 4000000 in
theorem r_strings_Builder_copyCheck (C : Cx) (b1 : Str) (b2 : Nat) (p3 : Value) (hp4 : AddrOk b2 p3) (A5 : Option Addr) (c6 : Nat) (hO : Mem C C.w0 [.box b2 [p3, vL A5 (b1) c6] 147, .row byteRep A5 c6 5 b1 true] []) (hd : ∀ b, C.S0 b → ¬ ownB [.box b2 [p3, vL A5 (b1) c6] 147, .row byteRep A5 c6 5 b1 true] b) (r : Str) (h : m_strings_Builder_copyCheck b1 = some r) :
    Calls Tryd.prog 119 #[vP b2 (0)] C.w0 fun e w => ∃ (p_1 : Value), ∃ (A_1 : Option Addr), ∃ (c_1 : Nat), e = .returned (.tuple #[]) ∧ Mem C w [.box b2 [p_1, vL A_1 (r) c_1] 147, .row byteRep A_1 c_1 5 r true] [] ∧ AddrOk b2 p_1 := by
  have hM := hO
  refine enter Tryd.func119 rfl Tryd.ntmps119 rfl fun a hf => ?_
  unfold m_strings_Builder_copyCheck at h
  rcases hp4 with rfl | rfl
  · refine wp_seq ?_
    refine region_pl ?_
    refine q_ hf rfl rfl rfl (e_move hf rfl) fun a hf => ?_
    refine q_ hf rfl rfl rfl (e_nil hf rfl) fun a hf => ?_
    refine q_ hf rfl rfl rfl (e_field hf rfl Tryd.underlying147 rfl Tryd.sizeOf145 (o' := 0) rfl) fun a hf => ?_
    refine q_ hf rfl rfl rfl (e_load1 hf rfl Tryd.isAgg145 (hM.boxCell (k := 0) rfl rfl)) fun a hf => ?_
    refine q_ hf rfl rfl rfl (e_eqPN hf rfl rfl Tryd.underlying145) fun a hf => ?_
    refine pl_nil ?_
    refine then_n ?_
    refine cond_t hf rfl rfl ?_
    refine region_pl ?_
    refine q_ hf rfl rfl rfl (e_move hf rfl) fun a hf => ?_
    refine q_ hf rfl rfl rfl (e_move hf rfl) fun a hf => ?_
    refine q_ hf rfl rfl rfl (e_toUnsafe hf hM (k := 0) (n := 2) rfl rfl Tryd.underlying145 Tryd.underlying166 (by kernel_rfl) rfl rfl) fun a hf => ?_
    refine q_ hf rfl rfl rfl (e_noEscape hf (f := 122) rfl Tryd.func122 rfl rfl (by kernel_rfl) (by kernel_rfl)) fun a hf => ?_
    refine q_ hf rfl rfl rfl (e_fromUnsafe hf hM (k := 0) (n := 2) rfl rfl Tryd.underlying166 Tryd.underlying145 (by kernel_rfl) (by kernel_rfl)) fun a hf => ?_
    refine q_ hf rfl rfl rfl (e_nil hf rfl) fun a hf => ?_
    refine q_ hf rfl rfl rfl (e_field hf rfl Tryd.underlying147 rfl Tryd.sizeOf145 (o' := 0) rfl) fun a hf => ?_
    refine pl_0 hf rfl rfl (w_store hf hM (us := [vP b2 0]) (cs' := [vP b2 0, vL A5 (b1) c6]) rfl rfl (k := 0) rfl rfl Tryd.sizeOf145 rfl rfl rfl fun w7 hM => ?_)
    dsimp only [List.set] at hM
    refine pl_nil ?_
    obtain rfl := some_inj h
    exact leave0n hf rfl ⟨(vP b2 0), A5, c6, rfl, hM.fin, (AddrOk.self _)⟩
  · refine wp_seq ?_
    refine region_pl ?_
    refine q_ hf rfl rfl rfl (e_move hf rfl) fun a hf => ?_
    refine q_ hf rfl rfl rfl (e_nil hf rfl) fun a hf => ?_
    refine q_ hf rfl rfl rfl (e_field hf rfl Tryd.underlying147 rfl Tryd.sizeOf145 (o' := 0) rfl) fun a hf => ?_
    refine q_ hf rfl rfl rfl (e_load1 hf rfl Tryd.isAgg145 (hM.boxCell (k := 0) rfl rfl)) fun a hf => ?_
    refine q_ hf rfl rfl rfl (e_eqPS hf rfl rfl Tryd.underlying145) fun a hf => ?_
    refine pl_nil ?_
    refine then_n ?_
    refine cond_f hf rfl rfl ?_
    refine wp_seq ?_
    refine region_pl ?_
    refine q_ hf rfl rfl rfl (e_move hf rfl) fun a hf => ?_
    refine q_ hf rfl rfl rfl (e_nil hf rfl) fun a hf => ?_
    refine q_ hf rfl rfl rfl (e_field hf rfl Tryd.underlying147 rfl Tryd.sizeOf145 (o' := 0) rfl) fun a hf => ?_
    refine q_ hf rfl rfl rfl (e_load1 hf rfl Tryd.isAgg145 (hM.boxCell (k := 0) rfl rfl)) fun a hf => ?_
    refine q_ hf rfl rfl rfl (e_move hf rfl) fun a hf => ?_
    refine q_ hf rfl rfl rfl (e_nePS hf (n := 2) rfl rfl Tryd.underlying145 (by kernel_rfl)) fun a hf => ?_
    refine pl_nil ?_
    refine then_n ?_
    refine cond_f hf rfl rfl ?_
    refine wp_skip ?_
    obtain rfl := some_inj h
    exact leave0n hf rfl ⟨(vP b2 0), A5, c6, rfl, hM.fin, (AddrOk.self _)⟩

set_option maxRecDepth 100000 in
set_option maxHeartbeats 4000000 in
theorem r_strings_Builder_WriteByte (C : Cx) (b1 : Str) (b2 : Nat) (p3 : Value) (hp4 : AddrOk b2 p3) (A5 : Option Addr) (c6 : Nat) (c7 : UInt8) (hO : Mem C C.w0 [.box b2 [p3, vL A5 (b1) c6] 147, .row byteRep A5 c6 5 b1 true] []) (hd : ∀ b, C.S0 b → ¬ ownB [.box b2 [p3, vL A5 (b1) c6] 147, .row byteRep A5 c6 5 b1 true] b) (r : (Unit × Str)) (h : m_strings_Builder_WriteByte b1 c7 = some r) :
    Calls Tryd.prog 102 #[vP b2 (0), vB (c7)] C.w0 fun e w => ∃ (p_1 : Value), ∃ (A_1 : Option Addr), ∃ (c_1 : Nat), e = .returned (.nilIface) ∧ Mem C w [.box b2 [p_1, vL A_1 (r.2) c_1] 147, .row byteRep A_1 c_1 5 r.2 true] [] ∧ AddrOk b2 p_1 := by
  have hM := hO
  refine enter Tryd.func102 rfl Tryd.ntmps102 rfl fun a hf => ?_
  unfold m_strings_Builder_WriteByte at h
  refine wp_seq ?_
  refine region_pl ?_
  refine q_ hf rfl rfl rfl (e_assign hf rfl) fun a hf => ?_
  refine pl_nil ?_
  refine then_n ?_
  refine wp_seq ?_
  refine region_pl ?_
  refine q_ hf rfl rfl rfl (e_move hf rfl) fun a hf => ?_
  have hM : Mem C _ ([.box b2 [p3, vL A5 (b1) c6] 147, .row byteRep A5 c6 5 b1 true] ++ []) _ := hM
  obtain ⟨y8, hz9, h⟩ := bind_some h
  refine pl_l hf rfl rfl rfl (w_call hf Tryd.call119 rfl (r_strings_Builder_copyCheck ⟨_, Sh C _ _, ownB _, hM.sh_lt, sub_dis, C.G, hM.g_lt, hM.g_own, hM.tabs⟩ b1 _ _ hp4 _ _ hM.sub sub_dis _ hz9) ?_)
  rintro _ w14 ⟨p10, A12, c13, rfl, hM2, hv11⟩
  obtain ⟨hM, hup16⟩ := hM.backG hM2
  dsimp only [List.cons_append, List.nil_append] at hM hup16
  clear hM2
  refine ⟨_, rfl, fun a hf => ?_⟩
  refine pl_nil ?_
  refine then_n ?_
  refine wp_seq ?_
  refine region_pl ?_
  refine q_ hf rfl rfl rfl (e_move hf rfl) fun a hf => ?_
  refine q_ hf rfl rfl rfl (e_move hf rfl) fun a hf => ?_
  refine q_ hf rfl rfl rfl (e_nil hf rfl) fun a hf => ?_
  refine q_ hf rfl rfl rfl (e_field hf rfl Tryd.underlying147 rfl Tryd.sizeOf22 (o' := 1) rfl) fun a hf => ?_
  refine q_ hf rfl rfl rfl (e_load1 hf rfl Tryd.isAgg22 (hM.boxCell (k := 0) rfl rfl)) fun a hf => ?_
  refine q_ hf rfl rfl rfl (e_move hf rfl) fun a hf => ?_
  refine pl_l hf rfl rfl rfl (w_slice hf hM (K := byteRep) (xs := ([c7] : Str)) (os := [.tmp 12]) Tryd.underlying22 ei_5 rfl rfl rfl rfl rfl ⟨⟨[vB (c7)], rfl, rfl⟩, trivial⟩ rfl fun b17 w18 hx19 hM a hf => ?_)
  obtain ⟨xs20, hz21, h⟩ := bind_some h
  refine pl_l hf rfl rfl rfl (w_append hf hM Tryd.underlying22 ei_5 rfl rfl rfl (k := 2) rfl (hM.srcRow (k := 0) rfl) hz21 fun A22 c23 w24 hM a hf => ?_)
  dsimp only [List.set] at hM
  refine q_ hf rfl rfl rfl (e_nil hf rfl) fun a hf => ?_
  refine q_ hf rfl rfl rfl (e_field hf rfl Tryd.underlying147 rfl Tryd.sizeOf22 (o' := 1) rfl) fun a hf => ?_
  refine pl_0 hf rfl rfl (w_store hf hM (us := [vL A22 (xs20) c23]) (cs' := [p10, vL A22 (xs20) c23]) rfl rfl (k := 1) rfl rfl Tryd.sizeOf22 rfl rfl rfl fun w27 hM => ?_)
  dsimp only [List.set] at hM
  refine pl_nil ?_
  refine then_n ?_
  refine wp_seq ?_
  refine region_pl ?_
  refine q_ hf rfl rfl rfl (e_assign hf rfl) fun a hf => ?_
  refine pl_nil ?_
  refine then_n ?_
  refine wp_ret ?_
  obtain rfl := some_inj h
  have hM := hM.front (k := 2) rfl
  dsimp only [List.eraseIdx] at hM
  have hM := hM.front (k := 2) rfl
  dsimp only [List.eraseIdx] at hM
  have hM := hM.outs (own' := [.box b2 [p10, vL A22 (xs20) c23] 147, .row byteRep A22 c23 5 xs20 true]) 2 rfl
  exact leave1 hf rfl rfl ⟨p10, A22, c23, rfl, hM.fin, hv11⟩

set_option maxRecDepth 100000 in
set_option maxHeartbeats 4000000 in
theorem r_impl_Decimal (C : Cx) (n1 : Int) (hp2 : R64 n1) (r : Str) (h : m_impl_Decimal n1 = some r) :
    Calls Tryd.prog 104 #[vI (n1)] C.w0 fun e w => e = .returned (vS (r)) ∧ Mem C w [] [] ∧ r.length ≤ maxLen := by
  have hM := Mem.begin C [] trivial
  refine enter Tryd.func104 rfl Tryd.ntmps104 rfl fun a hf => ?_
  unfold m_impl_Decimal at h
  refine wp_seq ?_
  refine region_pl ?_
  refine q_ hf rfl rfl rfl (e_assign hf rfl) fun a hf => ?_
  refine pl_nil ?_
  refine then_n ?_
  refine wp_seq ?_
  refine region_pl ?_
  refine q_ hf rfl rfl rfl (e_move hf rfl) fun a hf => ?_
  obtain ⟨y3, hz4, h⟩ := bind_some h
  refine pl_l hf rfl rfl rfl (w_call hf Tryd.call120 rfl (r_strconv_FormatInt ⟨_, Sh C _ _, none_, hM.sh_lt, none_not, C.G, hM.g_lt, g_none, hM.tabs⟩ n1 hp2 10 (R64_lit rfl) _ hz4) ?_)
  rintro _ w6 ⟨rfl, hM2, hv5⟩
  obtain ⟨hM, hx7, hup8⟩ := hM.back hM2
  dsimp only [List.cons_append, List.nil_append] at hM hup8
  clear hM2
  refine ⟨_, rfl, fun a hf => ?_⟩
  refine q_ hf rfl rfl rfl (e_assign hf rfl) fun a hf => ?_
  refine pl_nil ?_
  refine then_n ?_
  refine wp_ret ?_
  obtain rfl := some_inj h
  exact leave1 hf rfl rfl ⟨rfl, hM.fin, hv5⟩

set_option maxRecDepth 100000 in
set_option maxHeartbeats 4000000 in
theorem r_strings_Builder_WriteString (C : Cx) (b1 : Str) (b2 : Nat) (p3 : Value) (hp4 : AddrOk b2 p3) (A5 : Option Addr) (c6 : Nat) (s7 : Str) (hp8 : s7.length ≤ maxLen) (hO : Mem C C.w0 [.box b2 [p3, vL A5 (b1) c6] 147, .row byteRep A5 c6 5 b1 true] []) (hd : ∀ b, C.S0 b → ¬ ownB [.box b2 [p3, vL A5 (b1) c6] 147, .row byteRep A5 c6 5 b1 true] b) (r : (Int × Unit × Str)) (h : m_strings_Builder_WriteString b1 s7 = some r) :
    Calls Tryd.prog 103 #[vP b2 (0), vS (s7)] C.w0 fun e w => ∃ (p_1 : Value), ∃ (A_1 : Option Addr), ∃ (c_1 : Nat), e = .returned (.tuple #[vI (r.1), .nilIface]) ∧ Mem C w [.box b2 [p_1, vL A_1 (r.2.2) c_1] 147, .row byteRep A_1 c_1 5 r.2.2 true] [] ∧ AddrOk b2 p_1 ∧ R64 r.1 := by
  have hM := hO
  refine enter Tryd.func103 rfl Tryd.ntmps103 rfl fun a hf => ?_
  unfold m_strings_Builder_WriteString at h
  refine wp_seq ?_
  refine region_pl ?_
  refine q_ hf rfl rfl rfl (e_assign hf rfl) fun a hf => ?_
  refine q_ hf rfl rfl rfl (e_assign hf rfl) fun a hf => ?_
  refine pl_nil ?_
  refine then_n ?_
  refine wp_seq ?_
  refine region_pl ?_
  refine q_ hf rfl rfl rfl (e_move hf rfl) fun a hf => ?_
  have hM : Mem C _ ([.box b2 [p3, vL A5 (b1) c6] 147, .row byteRep A5 c6 5 b1 true] ++ []) _ := hM
  obtain ⟨y9, hz10, h⟩ := bind_some h
  refine pl_l hf rfl rfl rfl (w_call hf Tryd.call119 rfl (r_strings_Builder_copyCheck ⟨_, Sh C _ _, ownB _, hM.sh_lt, sub_dis, C.G, hM.g_lt, hM.g_own, hM.tabs⟩ b1 _ _ hp4 _ _ hM.sub sub_dis _ hz10) ?_)
  rintro _ w15 ⟨p11, A13, c14, rfl, hM2, hv12⟩
  obtain ⟨hM, hup17⟩ := hM.backG hM2
  dsimp only [List.cons_append, List.nil_append] at hM hup17
  clear hM2
  refine ⟨_, rfl, fun a hf => ?_⟩
  refine pl_nil ?_
  refine then_n ?_
  refine wp_seq ?_
  refine region_pl ?_
  refine q_ hf rfl rfl rfl (e_move hf rfl) fun a hf => ?_
  refine q_ hf rfl rfl rfl (e_move hf rfl) fun a hf => ?_
  refine q_ hf rfl rfl rfl (e_nil hf rfl) fun a hf => ?_
  refine q_ hf rfl rfl rfl (e_field hf rfl Tryd.underlying147 rfl Tryd.sizeOf22 (o' := 1) rfl) fun a hf => ?_
  refine q_ hf rfl rfl rfl (e_load1 hf rfl Tryd.isAgg22 (hM.boxCell (k := 0) rfl rfl)) fun a hf => ?_
  refine q_ hf rfl rfl rfl (e_move hf rfl) fun a hf => ?_
  obtain ⟨xs18, hz19, h⟩ := bind_some h
  refine pl_l hf rfl rfl rfl (w_appendS hf hM Tryd.underlying22 Tryd.underlying9 (by kernel_rfl) rfl rfl (k := 1) rfl hz19 fun A20 c21 w22 hM a hf => ?_)
  dsimp only [List.set] at hM
  refine q_ hf rfl rfl rfl (e_nil hf rfl) fun a hf => ?_
  refine q_ hf rfl rfl rfl (e_field hf rfl Tryd.underlying147 rfl Tryd.sizeOf22 (o' := 1) rfl) fun a hf => ?_
  refine pl_0 hf rfl rfl (w_store hf hM (us := [vL A20 (xs18) c21]) (cs' := [p11, vL A20 (xs18) c21]) rfl rfl (k := 0) rfl rfl Tryd.sizeOf22 rfl rfl rfl fun w23 hM => ?_)
  dsimp only [List.set] at hM
  refine pl_nil ?_
  refine then_n ?_
  refine wp_seq ?_
  refine region_pl ?_
  refine q_ hf rfl rfl rfl (e_move hf rfl) fun a hf => ?_
  refine q_ hf rfl rfl rfl (e_lenS hf (x := s7) rfl Tryd.underlying9) fun a hf => ?_
  refine q_ hf rfl rfl rfl (e_assign hf rfl) fun a hf => ?_
  refine q_ hf rfl rfl rfl (e_assign hf rfl) fun a hf => ?_
  refine pl_nil ?_
  refine then_n ?_
  refine wp_ret ?_
  obtain rfl := some_inj h
  exact leave2 hf rfl rfl rfl ⟨p11, A20, c21, rfl, hM.fin, hv12, (R64_len hp8)⟩

set_option maxRecDepth 100000 in
set_option maxHeartbeats 4000000 in
theorem r_strings_Builder_String (C : Cx) (b1 : Str) (b2 : Nat) (p3 : Value) (hp4 : AddrOk b2 p3) (A5 : Option Addr) (c6 : Nat) (hO : Mem C C.w0 [.box b2 [p3, vL A5 (b1) c6] 147, .row byteRep A5 c6 5 b1 true] []) (hd : ∀ b, C.S0 b → ¬ ownB [.box b2 [p3, vL A5 (b1) c6] 147, .row byteRep A5 c6 5 b1 true] b) (r : Str) (h : m_strings_Builder_String b1 = some r) :
    Calls Tryd.prog 105 #[vP b2 (0)] C.w0 fun e w => e = .returned (vS (r)) ∧ Mem C w [] [] ∧ r.length ≤ maxLen := by
  have hM := hO
  refine enter Tryd.func105 rfl Tryd.ntmps105 rfl fun a hf => ?_
  unfold m_strings_Builder_String at h
  refine wp_seq ?_
  refine region_pl ?_
  refine q_ hf rfl rfl rfl (e_assign hf rfl) fun a hf => ?_
  refine pl_nil ?_
  refine then_n ?_
  refine wp_seq ?_
  obtain ⟨w7, hw⟩ : ∃ x, x = C.w0.drew := ⟨_, rfl⟩
  refine region_pi (.q 0 (.q 1 (.q 2 (.q 3 (.q 5 (.q 6 (.q 7 (.q 8 (.q 9 (.l 4 (.l 10 (.q 11 (.nil))))))))))))) (Ext w7) rfl (by kernel_rfl) ?_
  have hM := hM.drew
  rw [← hw] at hM ⊢
  clear hw
  refine pi_q hf rfl rfl rfl rfl (Ext.refl _) (e_move hf rfl) fun a hf => ?_
  refine pi_q hf rfl rfl rfl rfl (Ext.refl _) (e_nil hf rfl) fun a hf => ?_
  refine pi_q hf rfl rfl rfl rfl (Ext.refl _) (e_field hf rfl Tryd.underlying147 rfl Tryd.sizeOf22 (o' := 1) rfl) fun a hf => ?_
  refine pi_q hf rfl rfl rfl rfl (Ext.refl _) (e_load1 hf rfl Tryd.isAgg22 (hM.boxCell (k := 0) rfl rfl)) fun a hf => ?_
  refine pi_q hf rfl rfl rfl rfl (Ext.refl _) (e_move hf rfl) fun a hf => ?_
  refine pi_q hf rfl rfl rfl rfl (Ext.refl _) (e_nil hf rfl) fun a hf => ?_
  refine pi_q hf rfl rfl rfl rfl (Ext.refl _) (e_field hf rfl Tryd.underlying147 rfl Tryd.sizeOf22 (o' := 1) rfl) fun a hf => ?_
  refine pi_q hf rfl rfl rfl rfl (Ext.refl _) (e_load1 hf rfl Tryd.isAgg22 (hM.boxCell (k := 0) rfl rfl)) fun a hf => ?_
  have hl8 := row_len (hM.ownAt (k := 1) rfl)
  refine pi_q hf rfl rfl rfl rfl (Ext.refl _) (e_lenL hf (x := b1) rfl Tryd.underlying22) fun a hf => ?_
  refine pi_one ?_
  refine pi_l hf rfl rfl rfl rfl (w_sliceData hf hM (k := 1) rfl rfl Tryd.underlying165 fun q9 w10 hx11 hM hq12 => ⟨Ext w10, fun _ h => Ext.trans hx11 h, Ext.refl _, fun a hf => ?_⟩)
  refine pi_one ?_
  have hl14 := row_len (hM.ownAt (k := 1) rfl)
  refine pi_z hf rfl rfl rfl rfl (by kernel_rfl) (w_unsafeString hf hM (k := 1) rfl hq12 rfl rfl Tryd.underlying165 (by kernel_rfl) fun w13 hM a hf => ?_)
  dsimp only [List.eraseIdx] at hM
  refine pi_q hf rfl rfl rfl rfl (Ext.refl _) (e_assign hf rfl) fun a hf => ?_
  refine pi_nil ?_
  refine then_n ?_
  refine wp_ret ?_
  obtain rfl := some_inj h
  have hM := hM.outs (own' := []) 0 rfl
  exact leave1 hf rfl rfl ⟨rfl, hM.fin, hl14⟩

set_option maxRecDepth 100000 in
set_option maxHeartbeats 4000000 in
theorem r_impl_keyOf (C : Cx) (n1 : Node) (hp2 : n1.Letters.length ≤ maxLen) (A3 : Option Addr) (c4 : Nat) (hp5 : (sliceRep intRep).R C.w0 C.S0 n1.Next [vL A3 n1.Next c4]) (r : Str) (h : m_impl_keyOf n1 = some r) :
    Calls Tryd.prog 78 #[.agg #[.bool (n1.Final), vS (n1.Letters), vL A3 (n1.Next) c4]] C.w0 fun e w => e = .returned (vS (r)) ∧ Mem C w [] [] ∧ r.length ≤ maxLen := by
  have hM := Mem.begin C [.dat (sliceRep intRep) n1.Next [vL A3 n1.Next c4]] ⟨hp5, trivial⟩
  refine enter Tryd.func78 rfl Tryd.ntmps78 rfl fun a hf => ?_
  unfold m_impl_keyOf at h
  refine wp_seq ?_
  refine region_pl ?_
  refine pl_l hf rfl rfl rfl (w_box hf hM (cs := [.bool (n1.Final), vS (n1.Letters), vL A3 (n1.Next) c4]) rfl rfl fun b6 w7 hx8 hM a hf => ?_)
  refine q_ hf rfl rfl rfl (e_assign hf rfl) fun a hf => ?_
  refine pl_nil ?_
  refine then_n ?_
  refine wp_seq ?_
  refine region_pl ?_
  refine pl_l hf rfl rfl rfl (w_alloc hM (cs := [.pointer none, vL none (([] : Str)) 0]) Tryd.zeroValue147 rfl fun b10 w11 hx12 hM a hf => ?_)
  have hM := hM.nilRow byteRep 5
  refine pl_nil ?_
  refine then_n ?_
  obtain ⟨x19, h20, h⟩ := bind_some h
  refine seq_join (fun a w => ∃ (xs16 : Str) (p14 : Value) (A17 : Option Addr) (c18 : Nat), xs16 = x19 ∧ Has 30 a [(1, vP b6 (0)), (3, vP b10 (0))] ∧ Mem C w [.row byteRep A17 c18 5 xs16 true, .box b10 [p14, vL A17 (xs16) c18] 147, .box b6 [.bool (n1.Final), vS (n1.Letters), vL A3 (n1.Next) c4] 76] [.dat (sliceRep intRep) n1.Next [vL A3 n1.Next c4]] ∧ AddrOk b10 p14) ?_ ?_
  · refine wp_seq ?_
    refine region_pl ?_
    refine q_ hf rfl rfl rfl (e_field hf rfl Tryd.underlying76 rfl Tryd.sizeOf4 (o' := 0) rfl) fun a hf => ?_
    refine q_ hf rfl rfl rfl (e_load1 hf rfl Tryd.isAgg4 (hM.boxCell (k := 2) rfl rfl)) fun a hf => ?_
    refine pl_nil ?_
    refine then_n ?_
    rcases cond_some h20 with ⟨hc21, h20⟩ | ⟨hc21, h20⟩
    · refine cond_t hf rfl hc21 ?_
      refine region_pl ?_
      have hM := hM.front (k := 0) rfl
      dsimp only [List.eraseIdx] at hM
      have hM := hM.front (k := 1) rfl
      dsimp only [List.eraseIdx] at hM
      have hM : Mem C _ ([.box b10 [.pointer none, vL none (([] : Str)) 0] 147, .row byteRep none 0 5 ([] : Str) true] ++ [.box b6 [.bool (n1.Final), vS (n1.Letters), vL A3 (n1.Next) c4] 76]) _ := hM
      obtain ⟨y22, hz23, h20⟩ := bind_some h20
      refine pl_l hf rfl rfl rfl (w_call hf Tryd.call102 rfl (r_strings_Builder_WriteByte ⟨_, Sh C _ _, ownB _, hM.sh_lt, sub_dis, C.G, hM.g_lt, hM.g_own, hM.tabs⟩ ([] : Str) _ _ (AddrOk.nil _) _ _ 43 hM.sub sub_dis _ hz23) ?_)
      rintro _ w28 ⟨p24, A26, c27, rfl, hM2, hv25⟩
      obtain ⟨hM, hup30⟩ := hM.backG hM2
      dsimp only [List.cons_append, List.nil_append] at hM hup30
      clear hM2
      refine ⟨_, rfl, fun a hf => ?_⟩
      refine pl_nil ?_
      obtain rfl := some_inj h20
      refine then_n ?_
      have hM := hM.front (k := 2) rfl
      dsimp only [List.eraseIdx] at hM
      have hM := hM.front (k := 1) rfl
      dsimp only [List.eraseIdx] at hM
      have hM := hM.front (k := 2) rfl
      dsimp only [List.eraseIdx] at hM
      exact ⟨y22.2, p24, A26, c27, rfl, hf.keep ⟨rfl, rfl, trivial⟩, hM.pick [0] rfl, hv25⟩
    · refine cond_f hf rfl hc21 ?_
      refine wp_skip ?_
      obtain rfl := some_inj h20
      refine then_n ?_
      exact ⟨([] : Str), (.pointer none), none, 0, rfl, hf.keep ⟨rfl, rfl, trivial⟩, hM.pick [0] rfl, (AddrOk.nil _)⟩
  · rintro a w33 ⟨xs16, p14, A17, c18, rfl, hf, hM, hv15⟩
    try dsimp only at h
    obtain ⟨x39, h40, h⟩ := bind_some h
    refine seq_join (fun a w => ∃ (xs36 : Str) (p34 : Value) (A37 : Option Addr) (c38 : Nat), xs36 = x39 ∧ Has 30 a [(3, vP b10 (0))] ∧ Mem C w [.row byteRep A37 c38 5 xs36 true, .box b10 [p34, vL A37 (xs36) c38] 147, .box b6 [.bool (n1.Final), vS (n1.Letters), vL A3 (n1.Next) c4] 76] [.dat (sliceRep intRep) n1.Next [vL A3 n1.Next c4]] ∧ AddrOk b10 p34) ?_ ?_
    · refine wp_seq ?_
      refine region_pl ?_
      refine q_ hf rfl rfl rfl (e_field hf rfl Tryd.underlying76 rfl Tryd.sizeOf31 (o' := 2) rfl) fun a hf => ?_
      refine q_ hf rfl rfl rfl (e_load1 hf rfl Tryd.isAgg31 (hM.boxCell (k := 2) rfl rfl)) fun a hf => ?_
      have hl41 := slice_len (hM.dat (k := 0) rfl)
      refine q_ hf rfl rfl rfl (e_lenL hf (x := n1.Next) rfl Tryd.underlying31) fun a hf => ?_
      refine q_ hf rfl rfl rfl (e_move hf rfl) fun a hf => ?_
      refine pl_nil ?_
      refine then_n ?_
      refine wp_block ?_
      obtain ⟨x55, h56, h40⟩ := bind_some h40
      refine wp_loopM h56 (fun s a w => ∃ (xs44 : Str) (n47 : Int) (p42 : Value) (A45 : Option Addr) (c46 : Nat), (xs44, n47) = s ∧ Has 30 a [(1, vP b6 (0)), (3, vP b10 (0)), (10, vL A3 (n1.Next) c4), (11, vI ((n1.Next.length : Int))), (12, vI (n47))] ∧ Mem C w [.row byteRep A45 c46 5 xs44 true, .box b10 [p42, vL A45 (xs44) c46] 147, .box b6 [.bool (n1.Final), vS (n1.Letters), vL A3 (n1.Next) c4] 76] [.dat (sliceRep intRep) n1.Next [vL A3 n1.Next c4]] ∧ AddrOk b10 p42 ∧ R64 n47) ?_ ?_
      · exact ⟨xs16, 0, p14, A17, c18, rfl, hf.keep ⟨rfl, rfl, rfl, rfl, rfl, trivial⟩, hM.pick [0] rfl, hv15, (R64_lit rfl)⟩
      · rintro s o57 a w49 ⟨xs44, n47, p42, A45, c46, rfl, hf, hM, hv43, hv48⟩ h58 hd59
        replace h58 : m_impl_keyOf_l1 n1 xs44 n47 = some o57 := h58
        unfold m_impl_keyOf_l1 at h58
        refine wp_seq ?_
        refine region_pl ?_
        refine q_ hf rfl rfl rfl (e_lt hf (x := n47) (y := (n1.Next.length : Int)) rfl rfl) fun a hf => ?_
        refine pl_nil ?_
        refine then_n ?_
        refine wp_seq ?_
        rcases cond_some h58 with ⟨hc60, h58⟩ | ⟨hc60, h58⟩
        · refine cond_t hf rfl hc60 ?_
          refine wp_skip ?_
          refine then_n ?_
          refine wp_seq ?_
          refine wp_block ?_
          refine wp_seq ?_
          refine region_pl ?_
          refine q_ hf rfl rfl rfl (e_move hf rfl) fun a hf => ?_
          obtain ⟨e61, hz62, h58⟩ := bind_some h58
          obtain ⟨b66, o67, _, hA68, h63, h64, hr65, hM⟩ := hM.elem (hM.dat (k := 0) rfl) (n := 1) rfl hz62
          obtain ⟨rfl, hv69⟩ := hr65
          refine q_ hf rfl rfl rfl (e_indexAddr (A := A3) (b := b66) (o := o67) (xs := n1.Next) (i := n47) hf hA68 rfl rfl Tryd.underlying31 Tryd.sizeOf2 h63 h64) fun a hf => ?_
          refine q_ hf rfl rfl rfl (e_load1 hf rfl Tryd.isAgg2 (hM.litCell (k := 0) (j := 0) rfl rfl rfl)) fun a hf => ?_
          refine q_ hf rfl rfl rfl (e_assign hf rfl) fun a hf => ?_
          refine q_ hf rfl rfl rfl (e_assign hf rfl) fun a hf => ?_
          refine pl_nil ?_
          refine then_n ?_
          obtain ⟨w70, hw⟩ : ∃ x, x = w49.drew := ⟨_, rfl⟩
          refine region_pi (.q 0 (.q 1 (.q 2 (.q 3 (.q 4 (.q 5 (.q 6 (.l 7 (.q 8 (.q 9 (.l 10 (.nil)))))))))))) (Ext w70) rfl (by kernel_rfl) ?_
          have hM := hM.drew
          rw [← hw] at hM ⊢
          clear hw
          refine pi_q hf rfl rfl rfl rfl (Ext.refl _) (e_field hf rfl Tryd.underlying76 rfl Tryd.sizeOf9 (o' := 1) rfl) fun a hf => ?_
          refine pi_q hf rfl rfl rfl rfl (Ext.refl _) (e_load1 hf rfl Tryd.isAgg9 (hM.boxCell (k := 2) rfl rfl)) fun a hf => ?_
          refine pi_q hf rfl rfl rfl rfl (Ext.refl _) (e_move hf rfl) fun a hf => ?_
          refine pi_q hf rfl rfl rfl rfl (Ext.refl _) (e_move hf rfl) fun a hf => ?_
          obtain ⟨z71, hz72, h58⟩ := bind_some h58
          refine pi_q hf rfl rfl rfl rfl (Ext.refl _) (e_add hf rfl rfl hz72) fun a hf => ?_
          obtain ⟨s73, hz74, h58⟩ := bind_some h58
          refine pi_q hf rfl rfl rfl rfl (Ext.refl _) (e_subS hf (x := n1.Letters) rfl rfl rfl Tryd.underlying9 hz74) fun a hf => ?_
          refine pi_q hf rfl rfl rfl rfl (Ext.refl _) (e_move hf rfl) fun a hf => ?_
          refine pi_one ?_
          obtain ⟨y75, hz76, h58⟩ := bind_some h58
          refine pi_l hf rfl rfl rfl rfl (w_call hf Tryd.call104 rfl (r_impl_Decimal ⟨_, Sh C _ _, none_, hM.sh_lt, none_not, C.G, hM.g_lt, g_none, hM.tabs⟩ e61 hv69 _ hz76) ?_)
          rintro _ w78 ⟨rfl, hM2, hv77⟩
          obtain ⟨hM, hx79, hup80⟩ := hM.back hM2
          dsimp only [List.cons_append, List.nil_append] at hM hup80
          clear hM2
          refine ⟨_, rfl, Ext w78, fun _ h => Ext.trans hx79 h, Ext.refl _, fun a hf => ?_⟩
          obtain ⟨s81, hz82, h58⟩ := bind_some h58
          refine pi_q hf rfl rfl rfl rfl (Ext.refl _) (e_cat hf (x := s73) (y := y75) rfl rfl hz82) fun a hf => ?_
          obtain ⟨s83, hz84, h58⟩ := bind_some h58
          refine pi_q hf rfl rfl rfl rfl (Ext.refl _) (e_cat hf (x := s81) (y := ([32] : Str)) rfl rfl hz84) fun a hf => ?_
          refine pi_one ?_
          have hM := hM.front (k := 0) rfl
          dsimp only [List.eraseIdx] at hM
          have hM := hM.front (k := 1) rfl
          dsimp only [List.eraseIdx] at hM
          have hM : Mem C _ ([.box b10 [p42, vL A45 (xs44) c46] 147, .row byteRep A45 c46 5 xs44 true] ++ [.box b6 [.bool (n1.Final), vS (n1.Letters), vL A3 (n1.Next) c4] 76]) _ := hM
          obtain ⟨y85, hz86, h58⟩ := bind_some h58
          refine pi_z hf rfl rfl rfl rfl (by kernel_rfl) (w_call hf Tryd.call103 rfl (r_strings_Builder_WriteString ⟨_, Sh C _ _, ownB _, hM.sh_lt, sub_dis, C.G, hM.g_lt, hM.g_own, hM.tabs⟩ xs44 _ _ hv43 _ _ s83 (cat_len hz84) hM.sub sub_dis _ hz86) ?_)
          rintro _ w92 ⟨p87, A89, c90, rfl, hM2, hv88, hv91⟩
          obtain ⟨hM, hup94⟩ := hM.backG hM2
          dsimp only [List.cons_append, List.nil_append] at hM hup94
          clear hM2
          refine ⟨_, rfl, fun a hf => ?_⟩
          refine pi_nil ?_
          refine blk_n ?_
          refine then_n ?_
          refine region_pl ?_
          obtain ⟨z95, hz96, h58⟩ := bind_some h58
          refine q_ hf rfl rfl rfl (e_add hf rfl rfl hz96) fun a hf => ?_
          refine q_ hf rfl rfl rfl (e_move hf rfl) fun a hf => ?_
          refine pl_nil ?_
          obtain rfl := some_inj h58
          refine then_n ⟨_, rfl, ?_⟩
          have hM := hM.front (k := 2) rfl
          dsimp only [List.eraseIdx] at hM
          have hM := hM.front (k := 1) rfl
          dsimp only [List.eraseIdx] at hM
          have hM := hM.front (k := 2) rfl
          dsimp only [List.eraseIdx] at hM
          exact ⟨y85.2.2, z95, p87, A89, c90, rfl, hf.keep ⟨rfl, rfl, rfl, rfl, rfl, trivial⟩, hM.pick [1] rfl, hv88, (chk_R hz96)⟩
        · refine cond_f hf rfl hc60 ?_
          refine wp_exit ?_
          refine then_x ?_
          obtain rfl := some_inj h58
          obtain rfl := hd59 _ rfl
          try dsimp only at h40
          refine then_x ?_
          refine exit_hit ?_
          obtain rfl := some_inj h40
          refine then_n ?_
          exact ⟨xs44, p42, A45, c46, rfl, hf.keep ⟨rfl, trivial⟩, hM.pick [0] rfl, hv43⟩
    · rintro a w102 ⟨xs36, p34, A37, c38, rfl, hf, hM, hv35⟩
      try dsimp only at h
      refine wp_seq ?_
      refine region_pl ?_
      have hM := hM.front (k := 0) rfl
      dsimp only [List.eraseIdx] at hM
      have hM := hM.front (k := 1) rfl
      dsimp only [List.eraseIdx] at hM
      have hM : Mem C _ ([.box b10 [p34, vL A37 (xs36) c38] 147, .row byteRep A37 c38 5 xs36 true] ++ [.box b6 [.bool (n1.Final), vS (n1.Letters), vL A3 (n1.Next) c4] 76]) _ := hM
      obtain ⟨y103, hz104, h⟩ := bind_some h
      refine pl_l hf rfl rfl rfl (w_call hf Tryd.call105 rfl (r_strings_Builder_String ⟨_, Sh C _ _, ownB _, hM.sh_lt, sub_dis, C.G, hM.g_lt, hM.g_own, hM.tabs⟩ xs36 _ _ hv35 _ _ hM.sub sub_dis _ hz104) ?_)
      rintro _ w106 ⟨rfl, hM2, hv105⟩
      obtain ⟨hM, hup108⟩ := hM.backG hM2
      dsimp only [List.cons_append, List.nil_append] at hM hup108
      clear hM2
      refine ⟨_, rfl, fun a hf => ?_⟩
      refine q_ hf rfl rfl rfl (e_assign hf rfl) fun a hf => ?_
      refine pl_nil ?_
      refine then_n ?_
      refine wp_ret ?_
      obtain rfl := some_inj h
      have hM := hM.outs (own' := []) 0 rfl
      exact leave1 hf rfl rfl ⟨rfl, hM.fin, hv105⟩

end Go.Proofs.YtdaoecpkgobelaaDoor
