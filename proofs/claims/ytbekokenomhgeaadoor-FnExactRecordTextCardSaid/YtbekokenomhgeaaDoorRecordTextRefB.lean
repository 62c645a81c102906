/- The functions that this law reaches do what their models say. Printed by gen.py. -/
import Derived.Test.YtbekokenomhgeaaDoorMod
import Derived.Test.YtbekokenomhgeaaDoorLib
import Derived.Test.YtbekokenomhgeaaDoorRecordTextRef
namespace Go.Proofs.YtbekokenomhgeaaDoor
open Go Go.RowKit
set_option linter.unusedSimpArgs false
set_option linter.unusedVariables false

set_option maxRecDepth 100000 in
set_option maxHeartbeats 4000000 in
theorem r_impl_ActionText (C : Cx) (a1 : Action) (hp2 : R64 a1.Kind) (hp3 : R64 a1.Play.Row) (hp4 : R64 a1.Play.Col) (hp5 : a1.Play.Word.length ≤ maxLen) (hp6 : a1.Tiles.length ≤ maxLen) (hp7 : R64 a1.Seconds) (r : Str) (h : m_impl_ActionText a1 = some r) :
    Calls Tryd.prog 14 #[.agg #[vI (a1.Kind), vI (a1.Play.Row), vI (a1.Play.Col), .bool (a1.Play.Down), vS (a1.Play.Word), vS (a1.Tiles), vI (a1.Seconds)]] C.w0 fun e w => e = .returned (vS (r)) ∧ Mem C w [] [] ∧ r.length ≤ maxLen := by
  have hM := Mem.begin C [] trivial
  refine enter Tryd.func14 rfl Tryd.ntmps14 rfl fun a hf => ?_
  unfold m_impl_ActionText at h
  refine wp_seq ?_
  refine region_pl ?_
  refine pl_l hf rfl rfl rfl (w_box hf hM (cs := [vI (a1.Kind), vI (a1.Play.Row), vI (a1.Play.Col), .bool (a1.Play.Down), vS (a1.Play.Word), vS (a1.Tiles), vI (a1.Seconds)]) rfl rfl fun b8 w9 hx10 hM a hf => ?_)
  refine q_ hf rfl rfl rfl (e_assign hf rfl) fun a hf => ?_
  refine pl_nil ?_
  refine then_n ?_
  refine wp_seq ?_
  refine wp_seq ?_
  refine region_pl ?_
  refine q_ hf rfl rfl rfl (e_loadA hf (us := [vI (a1.Kind), vI (a1.Play.Row), vI (a1.Play.Col), .bool (a1.Play.Down), vS (a1.Play.Word), vS (a1.Tiles), vI (a1.Seconds)]) rfl ⟨Tryd.isAgg38, Tryd.sizeOf38⟩ rfl (hM.boxSub (k := 0) (us := [vI (a1.Kind), vI (a1.Play.Row), vI (a1.Play.Col), .bool (a1.Play.Down), vS (a1.Play.Word), vS (a1.Tiles), vI (a1.Seconds)]) (o := 0) rfl rfl)) fun a hf => ?_
  obtain ⟨y12, hz13, h⟩ := bind_some h
  refine pl_l hf rfl rfl rfl (w_call hf Tryd.call33 rfl (r_impl_ValidAction ⟨_, Sh C _ _, none_, hM.sh_lt, none_not, C.G, hM.g_lt, g_none, hM.tabs⟩ a1 hp2 hp3 hp4 hp5 hp6 hp7 _ hz13) ?_)
  rintro _ w14 ⟨rfl, hM2⟩
  obtain ⟨hM, hx15, hup16⟩ := hM.back hM2
  dsimp only [List.cons_append, List.nil_append] at hM hup16
  clear hM2
  refine ⟨_, rfl, fun a hf => ?_⟩
  refine q_ hf rfl rfl rfl (e_not hf rfl) fun a hf => ?_
  refine pl_nil ?_
  refine then_n ?_
  rcases cond_some h with ⟨hc17, h⟩ | ⟨hc17, h⟩
  · refine cond_t hf rfl hc17 ?_
    refine wp_seq ?_
    refine region_pl ?_
    refine q_ hf rfl rfl rfl (e_assign hf rfl) fun a hf => ?_
    refine pl_nil ?_
    refine then_n ?_
    refine wp_ret ?_
    refine then_r ?_
    obtain rfl := some_inj h
    have hM := hM.outs (own' := []) 0 rfl
    exact leave1 hf rfl rfl ⟨rfl, hM.fin, (lit_len rfl)⟩
  · refine cond_f hf rfl hc17 ?_
    refine wp_skip ?_
    refine then_n ?_
    refine wp_seq ?_
    refine region_pl ?_
    refine q_ hf rfl rfl rfl (e_field hf rfl Tryd.underlying38 rfl Tryd.sizeOf2 (o' := 6) rfl) fun a hf => ?_
    refine q_ hf rfl rfl rfl (e_load1 hf rfl Tryd.isAgg2 (hM.boxCell (k := 0) rfl rfl)) fun a hf => ?_
    obtain ⟨y18, hz19, h⟩ := bind_some h
    refine pl_l hf rfl rfl rfl (w_call hf Tryd.call34 rfl (r_impl_Decimal ⟨_, Sh C _ _, none_, hM.sh_lt, none_not, C.G, hM.g_lt, g_none, hM.tabs⟩ a1.Seconds hp7 _ hz19) ?_)
    rintro _ w21 ⟨rfl, hM2, hv20⟩
    obtain ⟨hM, hx22, hup23⟩ := hM.back hM2
    dsimp only [List.cons_append, List.nil_append] at hM hup23
    clear hM2
    refine ⟨_, rfl, fun a hf => ?_⟩
    refine q_ hf rfl rfl rfl (e_assign hf rfl) fun a hf => ?_
    refine pl_nil ?_
    refine then_n ?_
    refine wp_seq ?_
    refine wp_seq ?_
    refine region_pl ?_
    refine q_ hf rfl rfl rfl (e_field hf rfl Tryd.underlying38 rfl Tryd.sizeOf2 (o' := 0) rfl) fun a hf => ?_
    refine q_ hf rfl rfl rfl (e_load1 hf rfl Tryd.isAgg2 (hM.boxCell (k := 0) rfl rfl)) fun a hf => ?_
    refine pl_nil ?_
    refine then_n ?_
    refine wp_block ?_
    refine wp_seq ?_
    refine region_pl ?_
    refine q_ hf rfl rfl rfl (e_eq hf (x := a1.Kind) (y := 1) rfl rfl) fun a hf => ?_
    refine q_ hf rfl rfl rfl (e_assign hf rfl) fun a hf => ?_
    refine pl_nil ?_
    refine then_n ?_
    rcases cond_some h with ⟨hc24, h⟩ | ⟨hc24, h⟩
    · refine cond_t hf rfl hc24 ?_
      refine wp_seq ?_
      refine region_pl ?_
      refine q_ hf rfl rfl rfl (e_field hf rfl Tryd.underlying38 rfl Tryd.sizeOf28 (o' := 1) rfl) fun a hf => ?_
      refine q_ hf rfl rfl rfl (e_loadA hf (us := [vI (a1.Play.Row), vI (a1.Play.Col), .bool (a1.Play.Down), vS (a1.Play.Word)]) rfl ⟨Tryd.isAgg28, Tryd.sizeOf28⟩ rfl (hM.boxSub (k := 0) (us := [vI (a1.Play.Row), vI (a1.Play.Col), .bool (a1.Play.Down), vS (a1.Play.Word)]) (o := 1) rfl rfl)) fun a hf => ?_
      obtain ⟨y25, hz26, h⟩ := bind_some h
      refine pl_l hf rfl rfl rfl (w_call hf Tryd.call28 rfl (r_impl_PlayText ⟨_, Sh C _ _, none_, hM.sh_lt, none_not, C.G, hM.g_lt, g_none, hM.tabs⟩ a1.Play hp3 hp4 hp5 _ hz26) ?_)
      rintro _ w28 ⟨rfl, hM2, hv27⟩
      obtain ⟨hM, hx29, hup30⟩ := hM.back hM2
      dsimp only [List.cons_append, List.nil_append] at hM hup30
      clear hM2
      refine ⟨_, rfl, fun a hf => ?_⟩
      refine q_ hf rfl rfl rfl (e_move hf rfl) fun a hf => ?_
      refine pl_l hf rfl rfl rfl (w_slice hf hM (K := strRep) (xs := ([([112, 108, 97, 121] : Str), y25, y18] : (List Str))) (os := [.const (.string ⟨#[112, 108, 97, 121]⟩), .tmp 16, .tmp 17]) Tryd.underlying86 ei_9 rfl rfl rfl rfl rfl ⟨⟨[vS (([112, 108, 97, 121] : Str))], rfl, ⟨rfl, (lit_len rfl)⟩⟩, ⟨[vS (y25)], rfl, ⟨rfl, hv27⟩⟩, ⟨[vS (y18)], rfl, ⟨rfl, hv20⟩⟩, trivial⟩ rfl fun b31 w32 hx33 hM a hf => ?_)
      obtain ⟨y34, hz35, h⟩ := bind_some h
      refine pl_l hf rfl rfl rfl (w_call hf Tryd.call35 rfl (r_impl_joined ⟨_, All C _ _, none_, hM.all_lt, none_not, C.G, hM.g_lt, g_none, hM.tabs⟩ ([([112, 108, 97, 121] : Str), y25, y18] : (List Str)) _ _ (hM.lendRow (k := 0) rfl) _ hz35) ?_)
      rintro _ w37 ⟨rfl, hM2, hv36⟩
      obtain ⟨hM, hx38⟩ := hM.backA hM2
      clear hM2
      refine ⟨_, rfl, fun a hf => ?_⟩
      refine q_ hf rfl rfl rfl (e_assign hf rfl) fun a hf => ?_
      refine pl_nil ?_
      refine then_n ?_
      refine wp_ret ?_
      refine blk_r ?_
      refine then_r ?_
      obtain rfl := some_inj h
      have hM := hM.outs (own' := []) 0 rfl
      exact leave1 hf rfl rfl ⟨rfl, hM.fin, hv36⟩
    · refine cond_f hf rfl hc24 ?_
      refine wp_seq ?_
      refine region_pl ?_
      refine q_ hf rfl rfl rfl (e_eq hf (x := a1.Kind) (y := 2) rfl rfl) fun a hf => ?_
      refine q_ hf rfl rfl rfl (e_assign hf rfl) fun a hf => ?_
      refine pl_nil ?_
      refine then_n ?_
      rcases cond_some h with ⟨hc40, h⟩ | ⟨hc40, h⟩
      · refine cond_t hf rfl hc40 ?_
        refine wp_seq ?_
        refine region_pl ?_
        refine q_ hf rfl rfl rfl (e_field hf rfl Tryd.underlying38 rfl Tryd.sizeOf9 (o' := 5) rfl) fun a hf => ?_
        refine q_ hf rfl rfl rfl (e_load1 hf rfl Tryd.isAgg9 (hM.boxCell (k := 0) rfl rfl)) fun a hf => ?_
        refine q_ hf rfl rfl rfl (e_move hf rfl) fun a hf => ?_
        refine pl_l hf rfl rfl rfl (w_slice hf hM (K := strRep) (xs := ([([101, 120, 99, 104, 97, 110, 103, 101] : Str), a1.Tiles, y18] : (List Str))) (os := [.const (.string ⟨#[101, 120, 99, 104, 97, 110, 103, 101]⟩), .tmp 23, .tmp 24]) Tryd.underlying86 ei_9 rfl rfl rfl rfl rfl ⟨⟨[vS (([101, 120, 99, 104, 97, 110, 103, 101] : Str))], rfl, ⟨rfl, (lit_len rfl)⟩⟩, ⟨[vS (a1.Tiles)], rfl, ⟨rfl, hp6⟩⟩, ⟨[vS (y18)], rfl, ⟨rfl, hv20⟩⟩, trivial⟩ rfl fun b41 w42 hx43 hM a hf => ?_)
        obtain ⟨y44, hz45, h⟩ := bind_some h
        refine pl_l hf rfl rfl rfl (w_call hf Tryd.call35 rfl (r_impl_joined ⟨_, All C _ _, none_, hM.all_lt, none_not, C.G, hM.g_lt, g_none, hM.tabs⟩ ([([101, 120, 99, 104, 97, 110, 103, 101] : Str), a1.Tiles, y18] : (List Str)) _ _ (hM.lendRow (k := 0) rfl) _ hz45) ?_)
        rintro _ w47 ⟨rfl, hM2, hv46⟩
        obtain ⟨hM, hx48⟩ := hM.backA hM2
        clear hM2
        refine ⟨_, rfl, fun a hf => ?_⟩
        refine q_ hf rfl rfl rfl (e_assign hf rfl) fun a hf => ?_
        refine pl_nil ?_
        refine then_n ?_
        refine wp_ret ?_
        refine blk_r ?_
        refine then_r ?_
        obtain rfl := some_inj h
        have hM := hM.outs (own' := []) 0 rfl
        exact leave1 hf rfl rfl ⟨rfl, hM.fin, hv46⟩
      · refine cond_f hf rfl hc40 ?_
        refine wp_seq ?_
        refine region_pl ?_
        refine q_ hf rfl rfl rfl (e_eq hf (x := a1.Kind) (y := 3) rfl rfl) fun a hf => ?_
        refine q_ hf rfl rfl rfl (e_assign hf rfl) fun a hf => ?_
        refine pl_nil ?_
        refine then_n ?_
        rcases cond_some h with ⟨hc50, h⟩ | ⟨hc50, h⟩
        · refine cond_t hf rfl hc50 ?_
          refine wp_seq ?_
          refine region_pl ?_
          refine q_ hf rfl rfl rfl (e_move hf rfl) fun a hf => ?_
          refine pl_l hf rfl rfl rfl (w_slice hf hM (K := strRep) (xs := ([([112, 97, 115, 115] : Str), y18] : (List Str))) (os := [.const (.string ⟨#[112, 97, 115, 115]⟩), .tmp 29]) Tryd.underlying86 ei_9 rfl rfl rfl rfl rfl ⟨⟨[vS (([112, 97, 115, 115] : Str))], rfl, ⟨rfl, (lit_len rfl)⟩⟩, ⟨[vS (y18)], rfl, ⟨rfl, hv20⟩⟩, trivial⟩ rfl fun b51 w52 hx53 hM a hf => ?_)
          obtain ⟨y54, hz55, h⟩ := bind_some h
          refine pl_l hf rfl rfl rfl (w_call hf Tryd.call35 rfl (r_impl_joined ⟨_, All C _ _, none_, hM.all_lt, none_not, C.G, hM.g_lt, g_none, hM.tabs⟩ ([([112, 97, 115, 115] : Str), y18] : (List Str)) _ _ (hM.lendRow (k := 0) rfl) _ hz55) ?_)
          rintro _ w57 ⟨rfl, hM2, hv56⟩
          obtain ⟨hM, hx58⟩ := hM.backA hM2
          clear hM2
          refine ⟨_, rfl, fun a hf => ?_⟩
          refine q_ hf rfl rfl rfl (e_assign hf rfl) fun a hf => ?_
          refine pl_nil ?_
          refine then_n ?_
          refine wp_ret ?_
          refine blk_r ?_
          refine then_r ?_
          obtain rfl := some_inj h
          have hM := hM.outs (own' := []) 0 rfl
          exact leave1 hf rfl rfl ⟨rfl, hM.fin, hv56⟩
        · refine cond_f hf rfl hc50 ?_
          refine wp_skip ?_
          refine blk_n ?_
          refine then_n ?_
          refine wp_seq ?_
          refine region_pl ?_
          refine q_ hf rfl rfl rfl (e_move hf rfl) fun a hf => ?_
          refine pl_l hf rfl rfl rfl (w_slice hf hM (K := strRep) (xs := ([([99, 104, 97, 108, 108, 101, 110, 103, 101] : Str), y18] : (List Str))) (os := [.const (.string ⟨#[99, 104, 97, 108, 108, 101, 110, 103, 101]⟩), .tmp 32]) Tryd.underlying86 ei_9 rfl rfl rfl rfl rfl ⟨⟨[vS (([99, 104, 97, 108, 108, 101, 110, 103, 101] : Str))], rfl, ⟨rfl, (lit_len rfl)⟩⟩, ⟨[vS (y18)], rfl, ⟨rfl, hv20⟩⟩, trivial⟩ rfl fun b60 w61 hx62 hM a hf => ?_)
          obtain ⟨y63, hz64, h⟩ := bind_some h
          refine pl_l hf rfl rfl rfl (w_call hf Tryd.call35 rfl (r_impl_joined ⟨_, All C _ _, none_, hM.all_lt, none_not, C.G, hM.g_lt, g_none, hM.tabs⟩ ([([99, 104, 97, 108, 108, 101, 110, 103, 101] : Str), y18] : (List Str)) _ _ (hM.lendRow (k := 0) rfl) _ hz64) ?_)
          rintro _ w66 ⟨rfl, hM2, hv65⟩
          obtain ⟨hM, hx67⟩ := hM.backA hM2
          clear hM2
          refine ⟨_, rfl, fun a hf => ?_⟩
          refine q_ hf rfl rfl rfl (e_assign hf rfl) fun a hf => ?_
          refine pl_nil ?_
          refine then_n ?_
          refine wp_ret ?_
          obtain rfl := some_inj h
          have hM := hM.outs (own' := []) 0 rfl
          exact leave1 hf rfl rfl ⟨rfl, hM.fin, hv65⟩

set_option maxRecDepth 100000 in
set_option maxHeartbeats 4000000 in
theorem r_strings_Builder_String (C : Cx) (b1 : Str) (b2 : Nat) (p3 : Value) (hp4 : AddrOk b2 p3) (A5 : Option Addr) (c6 : Nat) (hO : Mem C C.w0 [.box b2 [p3, vL A5 (b1) c6] 61, .row byteRep A5 c6 5 b1 true] []) (hd : ∀ b, C.S0 b → ¬ ownB [.box b2 [p3, vL A5 (b1) c6] 61, .row byteRep A5 c6 5 b1 true] b) (r : Str) (h : m_strings_Builder_String b1 = some r) :
    Calls Tryd.prog 30 #[vP b2 (0)] C.w0 fun e w => e = .returned (vS (r)) ∧ Mem C w [] [] ∧ r.length ≤ maxLen := by
  have hM := hO
  refine enter Tryd.func30 rfl Tryd.ntmps30 rfl fun a hf => ?_
  unfold m_strings_Builder_String at h
  refine wp_seq ?_
  refine region_pl ?_
  refine q_ hf rfl rfl rfl (e_assign hf rfl) fun a hf => ?_
  refine pl_nil ?_
  refine then_n ?_
  refine wp_seq ?_
  obtain ⟨w7, hw⟩ : ∃ x, x = C.w0.drew := ⟨_, rfl⟩
  refine region_pi (.q 0 (.q 1 (.q 2 (.q 3 (.q 5 (.q 6 (.q 7 (.q 8 (.q 9 (.l 4 (.l 10 (.q 11 (.nil))))))))))))) (Ext w7) rfl (by kernel_rfl) ?_
  have hM := hM.drew
  rw [← hw] at hM ⊢
  clear hw
  refine pi_q hf rfl rfl rfl rfl (Ext.refl _) (e_move hf rfl) fun a hf => ?_
  refine pi_q hf rfl rfl rfl rfl (Ext.refl _) (e_nil hf rfl) fun a hf => ?_
  refine pi_q hf rfl rfl rfl rfl (Ext.refl _) (e_field hf rfl Tryd.underlying61 rfl Tryd.sizeOf59 (o' := 1) rfl) fun a hf => ?_
  refine pi_q hf rfl rfl rfl rfl (Ext.refl _) (e_load1 hf rfl Tryd.isAgg59 (hM.boxCell (k := 0) rfl rfl)) fun a hf => ?_
  refine pi_q hf rfl rfl rfl rfl (Ext.refl _) (e_move hf rfl) fun a hf => ?_
  refine pi_q hf rfl rfl rfl rfl (Ext.refl _) (e_nil hf rfl) fun a hf => ?_
  refine pi_q hf rfl rfl rfl rfl (Ext.refl _) (e_field hf rfl Tryd.underlying61 rfl Tryd.sizeOf59 (o' := 1) rfl) fun a hf => ?_
  refine pi_q hf rfl rfl rfl rfl (Ext.refl _) (e_load1 hf rfl Tryd.isAgg59 (hM.boxCell (k := 0) rfl rfl)) fun a hf => ?_
  have hl8 := row_len (hM.ownAt (k := 1) rfl)
  refine pi_q hf rfl rfl rfl rfl (Ext.refl _) (e_lenL hf (x := b1) rfl Tryd.underlying59) fun a hf => ?_
  refine pi_one ?_
  refine pi_l hf rfl rfl rfl rfl (w_sliceData hf hM (k := 1) rfl rfl Tryd.underlying84 fun q9 w10 hx11 hM hq12 => ⟨Ext w10, fun _ h => Ext.trans hx11 h, Ext.refl _, fun a hf => ?_⟩)
  refine pi_one ?_
  have hl14 := row_len (hM.ownAt (k := 1) rfl)
  refine pi_z hf rfl rfl rfl rfl (by kernel_rfl) (w_unsafeString hf hM (k := 1) rfl hq12 rfl rfl Tryd.underlying84 (by kernel_rfl) fun w13 hM a hf => ?_)
  dsimp only [List.eraseIdx] at hM
  refine pi_q hf rfl rfl rfl rfl (Ext.refl _) (e_assign hf rfl) fun a hf => ?_
  refine pi_nil ?_
  refine then_n ?_
  refine wp_ret ?_
  obtain rfl := some_inj h
  have hM := hM.outs (own' := []) 0 rfl
  exact leave1 hf rfl rfl ⟨rfl, hM.fin, hl14⟩

set_option maxRecDepth 100000 in
set_option maxHeartbeats 4000000 in
theorem r_impl_RecordText (C : Cx) (r1 : Record) (hp2 : R64 r1.Seed) (A3 : Option Addr) (c4 : Nat) (hp5 : (sliceRep ActionRep).R C.w0 C.S0 r1.Actions [vL A3 r1.Actions c4]) (r : Str) (h : m_impl_RecordText r1 = some r) :
    Calls Tryd.prog 21 #[.agg #[vI (r1.Seed), vL A3 (r1.Actions) c4]] C.w0 fun e w => e = .returned (vS (r)) ∧ Mem C w [] [] ∧ r.length ≤ maxLen := by
  have hM := Mem.begin C [.dat (sliceRep ActionRep) r1.Actions [vL A3 r1.Actions c4]] ⟨hp5, trivial⟩
  refine enter Tryd.func21 rfl Tryd.ntmps21 rfl fun a hf => ?_
  unfold m_impl_RecordText at h
  refine wp_seq ?_
  refine region_pl ?_
  refine pl_l hf rfl rfl rfl (w_box hf hM (cs := [vI (r1.Seed), vL A3 (r1.Actions) c4]) rfl rfl fun b6 w7 hx8 hM a hf => ?_)
  refine q_ hf rfl rfl rfl (e_assign hf rfl) fun a hf => ?_
  refine pl_nil ?_
  refine then_n ?_
  refine wp_seq ?_
  refine wp_seq ?_
  refine region_pl ?_
  refine q_ hf rfl rfl rfl (e_loadA hf (us := [vI (r1.Seed), vL A3 (r1.Actions) c4]) rfl ⟨Tryd.isAgg48, Tryd.sizeOf48⟩ rfl (hM.boxSub (k := 0) (us := [vI (r1.Seed), vL A3 (r1.Actions) c4]) (o := 0) rfl rfl)) fun a hf => ?_
  obtain ⟨y10, hz11, h⟩ := bind_some h
  refine pl_l hf rfl rfl rfl (w_call hf Tryd.call18 rfl (r_impl_ValidRecord ⟨_, Sh C _ _, none_, hM.sh_lt, none_not, C.G, hM.g_lt, g_none, hM.tabs⟩ r1 hp2 _ _ (hM.dat (k := 0) rfl) _ hz11) ?_)
  rintro _ w12 ⟨rfl, hM2⟩
  obtain ⟨hM, hx13, hup14⟩ := hM.back hM2
  dsimp only [List.cons_append, List.nil_append] at hM hup14
  clear hM2
  refine ⟨_, rfl, fun a hf => ?_⟩
  refine q_ hf rfl rfl rfl (e_not hf rfl) fun a hf => ?_
  refine pl_nil ?_
  refine then_n ?_
  rcases cond_some h with ⟨hc15, h⟩ | ⟨hc15, h⟩
  · refine cond_t hf rfl hc15 ?_
    refine wp_seq ?_
    refine region_pl ?_
    refine q_ hf rfl rfl rfl (e_assign hf rfl) fun a hf => ?_
    refine pl_nil ?_
    refine then_n ?_
    refine wp_ret ?_
    refine then_r ?_
    obtain rfl := some_inj h
    have hM := hM.outs (own' := []) 0 rfl
    exact leave1 hf rfl rfl ⟨rfl, hM.fin, (lit_len rfl)⟩
  · refine cond_f hf rfl hc15 ?_
    refine wp_skip ?_
    refine then_n ?_
    refine wp_seq ?_
    refine region_pl ?_
    refine pl_l hf rfl rfl rfl (w_alloc hM (cs := [.pointer none, vL none (([] : Str)) 0]) Tryd.zeroValue61 rfl fun b16 w17 hx18 hM a hf => ?_)
    refine pl_nil ?_
    refine then_n ?_
    refine wp_seq ?_
    refine region_pl ?_
    refine q_ hf rfl rfl rfl (e_field hf rfl Tryd.underlying48 rfl Tryd.sizeOf2 (o' := 0) rfl) fun a hf => ?_
    refine q_ hf rfl rfl rfl (e_load1 hf rfl Tryd.isAgg2 (hM.boxCell (k := 1) rfl rfl)) fun a hf => ?_
    obtain ⟨y20, hz21, h⟩ := bind_some h
    refine pl_l hf rfl rfl rfl (w_call hf Tryd.call34 rfl (r_impl_Decimal ⟨_, Sh C _ _, none_, hM.sh_lt, none_not, C.G, hM.g_lt, g_none, hM.tabs⟩ r1.Seed hp2 _ hz21) ?_)
    rintro _ w23 ⟨rfl, hM2, hv22⟩
    obtain ⟨hM, hx24, hup25⟩ := hM.back hM2
    dsimp only [List.cons_append, List.nil_append] at hM hup25
    clear hM2
    refine ⟨_, rfl, fun a hf => ?_⟩
    obtain ⟨s26, hz27, h⟩ := bind_some h
    refine q_ hf rfl rfl rfl (e_cat hf (x := ([115, 101, 101, 100, 32] : Str)) (y := y20) rfl rfl hz27) fun a hf => ?_
    obtain ⟨s28, hz29, h⟩ := bind_some h
    refine q_ hf rfl rfl rfl (e_cat hf (x := s26) (y := ([10] : Str)) rfl rfl hz29) fun a hf => ?_
    have hM := hM.nilRow byteRep 5
    have hM := hM.front (k := 0) rfl
    dsimp only [List.eraseIdx] at hM
    have hM := hM.front (k := 1) rfl
    dsimp only [List.eraseIdx] at hM
    have hM : Mem C _ ([.box b16 [.pointer none, vL none (([] : Str)) 0] 61, .row byteRep none 0 5 ([] : Str) true] ++ [.box b6 [vI (r1.Seed), vL A3 (r1.Actions) c4] 48]) _ := hM
    obtain ⟨y30, hz31, h⟩ := bind_some h
    refine pl_l hf rfl rfl rfl (w_call hf Tryd.call26 rfl (r_strings_Builder_WriteString ⟨_, Sh C _ _, ownB _, hM.sh_lt, sub_dis, C.G, hM.g_lt, hM.g_own, hM.tabs⟩ ([] : Str) _ _ (AddrOk.nil _) _ _ s28 (cat_len hz29) hM.sub sub_dis _ hz31) ?_)
    rintro _ w37 ⟨p32, A34, c35, rfl, hM2, hv33, hv36⟩
    obtain ⟨hM, hup39⟩ := hM.backG hM2
    dsimp only [List.cons_append, List.nil_append] at hM hup39
    clear hM2
    refine ⟨_, rfl, fun a hf => ?_⟩
    refine pl_nil ?_
    refine then_n ?_
    obtain ⟨x45, h46, h⟩ := bind_some h
    refine seq_join (fun a w => ∃ (xs42 : Str) (p40 : Value) (A43 : Option Addr) (c44 : Nat), xs42 = x45 ∧ Has 28 a [(3, vP b16 (0))] ∧ Mem C w [.box b16 [p40, vL A43 (xs42) c44] 61, .row byteRep A43 c44 5 xs42 true, .box b6 [vI (r1.Seed), vL A3 (r1.Actions) c4] 48] [.dat (sliceRep ActionRep) r1.Actions [vL A3 r1.Actions c4]] ∧ AddrOk b16 p40) ?_ ?_
    · refine wp_seq ?_
      refine region_pl ?_
      refine q_ hf rfl rfl rfl (e_field hf rfl Tryd.underlying48 rfl Tryd.sizeOf46 (o' := 1) rfl) fun a hf => ?_
      refine q_ hf rfl rfl rfl (e_load1 hf rfl Tryd.isAgg46 (hM.boxCell (k := 2) rfl rfl)) fun a hf => ?_
      have hl47 := slice_len (hM.dat (k := 0) rfl)
      refine q_ hf rfl rfl rfl (e_lenL hf (x := r1.Actions) rfl Tryd.underlying46) fun a hf => ?_
      refine q_ hf rfl rfl rfl (e_move hf rfl) fun a hf => ?_
      refine pl_nil ?_
      refine then_n ?_
      refine wp_block ?_
      obtain ⟨x61, h62, h46⟩ := bind_some h46
      refine wp_loopM h62 (fun s a w => ∃ (xs50 : Str) (n53 : Int) (p48 : Value) (A51 : Option Addr) (c52 : Nat), (xs50, n53) = s ∧ Has 28 a [(3, vP b16 (0)), (16, vL A3 (r1.Actions) c4), (17, vI ((r1.Actions.length : Int))), (18, vI (n53))] ∧ Mem C w [.box b16 [p48, vL A51 (xs50) c52] 61, .row byteRep A51 c52 5 xs50 true, .box b6 [vI (r1.Seed), vL A3 (r1.Actions) c4] 48] [.dat (sliceRep ActionRep) r1.Actions [vL A3 r1.Actions c4]] ∧ AddrOk b16 p48 ∧ R64 n53) ?_ ?_
      · exact ⟨y30.2.2, 0, p32, A34, c35, rfl, hf.keep ⟨rfl, rfl, rfl, rfl, trivial⟩, hM.pick [0] rfl, hv33, (R64_lit rfl)⟩
      · rintro s o63 a w55 ⟨xs50, n53, p48, A51, c52, rfl, hf, hM, hv49, hv54⟩ h64 hd65
        replace h64 : m_impl_RecordText_l1 r1 xs50 n53 = some o63 := h64
        unfold m_impl_RecordText_l1 at h64
        refine wp_seq ?_
        refine region_pl ?_
        refine q_ hf rfl rfl rfl (e_lt hf (x := n53) (y := (r1.Actions.length : Int)) rfl rfl) fun a hf => ?_
        refine pl_nil ?_
        refine then_n ?_
        refine wp_seq ?_
        rcases cond_some h64 with ⟨hc66, h64⟩ | ⟨hc66, h64⟩
        · refine cond_t hf rfl hc66 ?_
          refine wp_skip ?_
          refine then_n ?_
          refine wp_seq ?_
          refine wp_block ?_
          refine wp_seq ?_
          refine region_pl ?_
          obtain ⟨e67, hz68, h64⟩ := bind_some h64
          obtain ⟨b72, o73, _, hA74, h69, h70, hr71, hM⟩ := hM.elem (hM.dat (k := 0) rfl) (n := 7) rfl hz68
          obtain ⟨rfl, hv75, hv76, hv77, hv78, hv79, hv80⟩ := ActionRep_open hr71
          refine q_ hf rfl rfl rfl (e_indexAddr (A := A3) (b := b72) (o := o73) (xs := r1.Actions) (i := n53) hf hA74 rfl rfl Tryd.underlying46 Tryd.sizeOf38 h69 h70) fun a hf => ?_
          refine q_ hf rfl rfl rfl (e_loadA hf (us := [vI (e67.Kind), vI (e67.Play.Row), vI (e67.Play.Col), .bool (e67.Play.Down), vS (e67.Play.Word), vS (e67.Tiles), vI (e67.Seconds)]) rfl ⟨Tryd.isAgg38, Tryd.sizeOf38⟩ rfl (hM.litSub (k := 0) (d := 0) (us := [vI (e67.Kind), vI (e67.Play.Row), vI (e67.Play.Col), .bool (e67.Play.Down), vS (e67.Play.Word), vS (e67.Tiles), vI (e67.Seconds)]) rfl rfl rfl)) fun a hf => ?_
          refine pl_l hf rfl rfl rfl (w_alloc hM (cs := [vI (0), vI (0), vI (0), .bool (false), vS (([] : Str)), vS (([] : Str)), vI (0)]) Tryd.zeroValue38 rfl fun b81 w82 hx83 hM a hf => ?_)
          refine pl_0 hf rfl rfl (w_store hf hM (us := [vI (e67.Kind), vI (e67.Play.Row), vI (e67.Play.Col), .bool (e67.Play.Down), vS (e67.Play.Word), vS (e67.Tiles), vI (e67.Seconds)]) (cs' := [vI (e67.Kind), vI (e67.Play.Row), vI (e67.Play.Col), .bool (e67.Play.Down), vS (e67.Play.Word), vS (e67.Tiles), vI (e67.Seconds)]) rfl rfl (k := 0) rfl rfl Tryd.sizeOf38 rfl rfl rfl fun w85 hM => ?_)
          dsimp only [List.set] at hM
          refine pl_nil ?_
          refine then_n ?_
          refine region_pl ?_
          refine q_ hf rfl rfl rfl (e_loadA hf (us := [vI (e67.Kind), vI (e67.Play.Row), vI (e67.Play.Col), .bool (e67.Play.Down), vS (e67.Play.Word), vS (e67.Tiles), vI (e67.Seconds)]) rfl ⟨Tryd.isAgg38, Tryd.sizeOf38⟩ rfl (hM.boxSub (k := 0) (us := [vI (e67.Kind), vI (e67.Play.Row), vI (e67.Play.Col), .bool (e67.Play.Down), vS (e67.Play.Word), vS (e67.Tiles), vI (e67.Seconds)]) (o := 0) rfl rfl)) fun a hf => ?_
          obtain ⟨y88, hz89, h64⟩ := bind_some h64
          refine pl_l hf rfl rfl rfl (w_call hf Tryd.call14 rfl (r_impl_ActionText ⟨_, Sh C _ _, none_, hM.sh_lt, none_not, C.G, hM.g_lt, g_none, hM.tabs⟩ e67 hv75 hv76 hv77 hv78 hv79 hv80 _ hz89) ?_)
          rintro _ w91 ⟨rfl, hM2, hv90⟩
          obtain ⟨hM, hx92, hup93⟩ := hM.back hM2
          dsimp only [List.cons_append, List.nil_append] at hM hup93
          clear hM2
          refine ⟨_, rfl, fun a hf => ?_⟩
          obtain ⟨s94, hz95, h64⟩ := bind_some h64
          refine q_ hf rfl rfl rfl (e_cat hf (x := y88) (y := ([10] : Str)) rfl rfl hz95) fun a hf => ?_
          have hM := hM.front (k := 2) rfl
          dsimp only [List.eraseIdx] at hM
          have hM := hM.front (k := 2) rfl
          dsimp only [List.eraseIdx] at hM
          have hM : Mem C _ ([.box b16 [p48, vL A51 (xs50) c52] 61, .row byteRep A51 c52 5 xs50 true] ++ [.box b81 [vI (e67.Kind), vI (e67.Play.Row), vI (e67.Play.Col), .bool (e67.Play.Down), vS (e67.Play.Word), vS (e67.Tiles), vI (e67.Seconds)] 38, .box b6 [vI (r1.Seed), vL A3 (r1.Actions) c4] 48]) _ := hM
          obtain ⟨y96, hz97, h64⟩ := bind_some h64
          refine pl_l hf rfl rfl rfl (w_call hf Tryd.call26 rfl (r_strings_Builder_WriteString ⟨_, Sh C _ _, ownB _, hM.sh_lt, sub_dis, C.G, hM.g_lt, hM.g_own, hM.tabs⟩ xs50 _ _ hv49 _ _ s94 (cat_len hz95) hM.sub sub_dis _ hz97) ?_)
          rintro _ w103 ⟨p98, A100, c101, rfl, hM2, hv99, hv102⟩
          obtain ⟨hM, hup105⟩ := hM.backG hM2
          dsimp only [List.cons_append, List.nil_append] at hM hup105
          clear hM2
          refine ⟨_, rfl, fun a hf => ?_⟩
          refine pl_nil ?_
          refine blk_n ?_
          refine then_n ?_
          refine region_pl ?_
          obtain ⟨z106, hz107, h64⟩ := bind_some h64
          refine q_ hf rfl rfl rfl (e_add hf rfl rfl hz107) fun a hf => ?_
          refine q_ hf rfl rfl rfl (e_move hf rfl) fun a hf => ?_
          refine pl_nil ?_
          obtain rfl := some_inj h64
          refine then_n ⟨_, rfl, ?_⟩
          exact ⟨y96.2.2, z106, p98, A100, c101, rfl, hf.keep ⟨rfl, rfl, rfl, rfl, trivial⟩, (hM.drop (.cons_cons _ (.cons_cons _ (.cons _ (.cons_cons _ .slnil))))).pick [1] rfl, hv99, (chk_R hz107)⟩
        · refine cond_f hf rfl hc66 ?_
          refine wp_exit ?_
          refine then_x ?_
          obtain rfl := some_inj h64
          obtain rfl := hd65 _ rfl
          try dsimp only at h46
          refine then_x ?_
          refine exit_hit ?_
          obtain rfl := some_inj h46
          refine then_n ?_
          exact ⟨xs50, p48, A51, c52, rfl, hf.keep ⟨rfl, trivial⟩, hM.pick [0] rfl, hv49⟩
    · rintro a w113 ⟨xs42, p40, A43, c44, rfl, hf, hM, hv41⟩
      try dsimp only at h
      refine wp_seq ?_
      refine region_pl ?_
      have hM : Mem C _ ([.box b16 [p40, vL A43 (xs42) c44] 61, .row byteRep A43 c44 5 xs42 true] ++ [.box b6 [vI (r1.Seed), vL A3 (r1.Actions) c4] 48]) _ := hM
      obtain ⟨y114, hz115, h⟩ := bind_some h
      refine pl_l hf rfl rfl rfl (w_call hf Tryd.call30 rfl (r_strings_Builder_String ⟨_, Sh C _ _, ownB _, hM.sh_lt, sub_dis, C.G, hM.g_lt, hM.g_own, hM.tabs⟩ xs42 _ _ hv41 _ _ hM.sub sub_dis _ hz115) ?_)
      rintro _ w117 ⟨rfl, hM2, hv116⟩
      obtain ⟨hM, hup119⟩ := hM.backG hM2
      dsimp only [List.cons_append, List.nil_append] at hM hup119
      clear hM2
      refine ⟨_, rfl, fun a hf => ?_⟩
      refine q_ hf rfl rfl rfl (e_assign hf rfl) fun a hf => ?_
      refine pl_nil ?_
      refine then_n ?_
      refine wp_ret ?_
      obtain rfl := some_inj h
      have hM := hM.outs (own' := []) 0 rfl
      exact leave1 hf rfl rfl ⟨rfl, hM.fin, hv116⟩

set_option maxRecDepth 100000 in
set_option maxHeartbeats 4000000 in
theorem r_laws_eqPlay (C : Cx) (a1 : Play) (hp2 : R64 a1.Row) (hp3 : R64 a1.Col) (hp4 : a1.Word.length ≤ maxLen) (b5 : Play) (hp6 : R64 b5.Row) (hp7 : R64 b5.Col) (hp8 : b5.Word.length ≤ maxLen) (r : Bool) (h : m_laws_eqPlay a1 b5 = some r) :
    Calls Tryd.prog 60 #[.agg #[vI (a1.Row), vI (a1.Col), .bool (a1.Down), vS (a1.Word)], .agg #[vI (b5.Row), vI (b5.Col), .bool (b5.Down), vS (b5.Word)]] C.w0 fun e w => e = .returned (.bool (r)) ∧ Mem C w [] [] := by
  have hM := Mem.begin C [] trivial
  refine enter Tryd.func60 rfl Tryd.ntmps60 rfl fun a hf => ?_
  unfold m_laws_eqPlay at h
  refine wp_seq ?_
  refine region_pl ?_
  refine pl_l hf rfl rfl rfl (w_box hf hM (cs := [vI (a1.Row), vI (a1.Col), .bool (a1.Down), vS (a1.Word)]) rfl rfl fun b9 w10 hx11 hM a hf => ?_)
  refine pl_l hf rfl rfl rfl (w_box hf hM (cs := [vI (b5.Row), vI (b5.Col), .bool (b5.Down), vS (b5.Word)]) rfl rfl fun b13 w14 hx15 hM a hf => ?_)
  refine q_ hf rfl rfl rfl (e_assign hf rfl) fun a hf => ?_
  refine pl_nil ?_
  refine then_n ?_
  refine wp_seq ?_
  refine wp_seq ?_
  refine region_pl ?_
  refine q_ hf rfl rfl rfl (e_field hf rfl Tryd.underlying28 rfl Tryd.sizeOf2 (o' := 0) rfl) fun a hf => ?_
  refine q_ hf rfl rfl rfl (e_load1 hf rfl Tryd.isAgg2 (hM.boxCell (k := 1) rfl rfl)) fun a hf => ?_
  refine q_ hf rfl rfl rfl (e_field hf rfl Tryd.underlying28 rfl Tryd.sizeOf2 (o' := 0) rfl) fun a hf => ?_
  refine q_ hf rfl rfl rfl (e_load1 hf rfl Tryd.isAgg2 (hM.boxCell (k := 0) rfl rfl)) fun a hf => ?_
  refine q_ hf rfl rfl rfl (e_ne hf (x := a1.Row) (y := b5.Row) rfl rfl) fun a hf => ?_
  refine pl_nil ?_
  refine then_n ?_
  rcases cond_some h with ⟨hc17, h⟩ | ⟨hc17, h⟩
  · refine cond_t hf rfl hc17 ?_
    refine wp_seq ?_
    refine region_pl ?_
    refine q_ hf rfl rfl rfl (e_assign hf rfl) fun a hf => ?_
    refine pl_nil ?_
    refine then_n ?_
    refine wp_ret ?_
    refine then_r ?_
    obtain rfl := some_inj h
    have hM := hM.outs (own' := []) 0 rfl
    exact leave1 hf rfl rfl ⟨rfl, hM.fin⟩
  · refine cond_f hf rfl hc17 ?_
    refine wp_skip ?_
    refine then_n ?_
    refine wp_seq ?_
    refine wp_seq ?_
    refine region_pl ?_
    refine q_ hf rfl rfl rfl (e_field hf rfl Tryd.underlying28 rfl Tryd.sizeOf2 (o' := 1) rfl) fun a hf => ?_
    refine q_ hf rfl rfl rfl (e_load1 hf rfl Tryd.isAgg2 (hM.boxCell (k := 1) rfl rfl)) fun a hf => ?_
    refine q_ hf rfl rfl rfl (e_field hf rfl Tryd.underlying28 rfl Tryd.sizeOf2 (o' := 1) rfl) fun a hf => ?_
    refine q_ hf rfl rfl rfl (e_load1 hf rfl Tryd.isAgg2 (hM.boxCell (k := 0) rfl rfl)) fun a hf => ?_
    refine q_ hf rfl rfl rfl (e_ne hf (x := a1.Col) (y := b5.Col) rfl rfl) fun a hf => ?_
    refine pl_nil ?_
    refine then_n ?_
    rcases cond_some h with ⟨hc18, h⟩ | ⟨hc18, h⟩
    · refine cond_t hf rfl hc18 ?_
      refine wp_seq ?_
      refine region_pl ?_
      refine q_ hf rfl rfl rfl (e_assign hf rfl) fun a hf => ?_
      refine pl_nil ?_
      refine then_n ?_
      refine wp_ret ?_
      refine then_r ?_
      obtain rfl := some_inj h
      have hM := hM.outs (own' := []) 0 rfl
      exact leave1 hf rfl rfl ⟨rfl, hM.fin⟩
    · refine cond_f hf rfl hc18 ?_
      refine wp_skip ?_
      refine then_n ?_
      refine wp_seq ?_
      refine wp_seq ?_
      refine region_pl ?_
      refine q_ hf rfl rfl rfl (e_field hf rfl Tryd.underlying28 rfl Tryd.sizeOf4 (o' := 2) rfl) fun a hf => ?_
      refine q_ hf rfl rfl rfl (e_load1 hf rfl Tryd.isAgg4 (hM.boxCell (k := 1) rfl rfl)) fun a hf => ?_
      refine q_ hf rfl rfl rfl (e_field hf rfl Tryd.underlying28 rfl Tryd.sizeOf4 (o' := 2) rfl) fun a hf => ?_
      refine q_ hf rfl rfl rfl (e_load1 hf rfl Tryd.isAgg4 (hM.boxCell (k := 0) rfl rfl)) fun a hf => ?_
      refine q_ hf rfl rfl rfl (e_neT hf rfl rfl Tryd.underlying4) fun a hf => ?_
      refine pl_nil ?_
      refine then_n ?_
      rcases cond_some h with ⟨hc19, h⟩ | ⟨hc19, h⟩
      · refine cond_t hf rfl hc19 ?_
        refine wp_seq ?_
        refine region_pl ?_
        refine q_ hf rfl rfl rfl (e_assign hf rfl) fun a hf => ?_
        refine pl_nil ?_
        refine then_n ?_
        refine wp_ret ?_
        refine then_r ?_
        obtain rfl := some_inj h
        have hM := hM.outs (own' := []) 0 rfl
        exact leave1 hf rfl rfl ⟨rfl, hM.fin⟩
      · refine cond_f hf rfl hc19 ?_
        refine wp_skip ?_
        refine then_n ?_
        refine wp_seq ?_
        refine wp_seq ?_
        refine region_pl ?_
        refine q_ hf rfl rfl rfl (e_field hf rfl Tryd.underlying28 rfl Tryd.sizeOf9 (o' := 3) rfl) fun a hf => ?_
        refine q_ hf rfl rfl rfl (e_load1 hf rfl Tryd.isAgg9 (hM.boxCell (k := 1) rfl rfl)) fun a hf => ?_
        refine q_ hf rfl rfl rfl (e_field hf rfl Tryd.underlying28 rfl Tryd.sizeOf9 (o' := 3) rfl) fun a hf => ?_
        refine q_ hf rfl rfl rfl (e_load1 hf rfl Tryd.isAgg9 (hM.boxCell (k := 0) rfl rfl)) fun a hf => ?_
        refine q_ hf rfl rfl rfl (e_neS hf (x := a1.Word) (y := b5.Word) rfl rfl) fun a hf => ?_
        refine pl_nil ?_
        refine then_n ?_
        rcases cond_some h with ⟨hc20, h⟩ | ⟨hc20, h⟩
        · refine cond_t hf rfl hc20 ?_
          refine wp_seq ?_
          refine region_pl ?_
          refine q_ hf rfl rfl rfl (e_assign hf rfl) fun a hf => ?_
          refine pl_nil ?_
          refine then_n ?_
          refine wp_ret ?_
          refine then_r ?_
          obtain rfl := some_inj h
          have hM := hM.outs (own' := []) 0 rfl
          exact leave1 hf rfl rfl ⟨rfl, hM.fin⟩
        · refine cond_f hf rfl hc20 ?_
          refine wp_skip ?_
          refine then_n ?_
          refine wp_seq ?_
          refine region_pl ?_
          refine q_ hf rfl rfl rfl (e_assign hf rfl) fun a hf => ?_
          refine pl_nil ?_
          refine then_n ?_
          refine wp_ret ?_
          obtain rfl := some_inj h
          have hM := hM.outs (own' := []) 0 rfl
          exact leave1 hf rfl rfl ⟨rfl, hM.fin⟩

set_option maxRecDepth 100000 in
set_option maxHeartbeats 4000000 in
theorem r_laws_eqAction (C : Cx) (a1 : Action) (hp2 : R64 a1.Kind) (hp3 : R64 a1.Play.Row) (hp4 : R64 a1.Play.Col) (hp5 : a1.Play.Word.length ≤ maxLen) (hp6 : a1.Tiles.length ≤ maxLen) (hp7 : R64 a1.Seconds) (b8 : Action) (hp9 : R64 b8.Kind) (hp10 : R64 b8.Play.Row) (hp11 : R64 b8.Play.Col) (hp12 : b8.Play.Word.length ≤ maxLen) (hp13 : b8.Tiles.length ≤ maxLen) (hp14 : R64 b8.Seconds) (r : Bool) (h : m_laws_eqAction a1 b8 = some r) :
    Calls Tryd.prog 52 #[.agg #[vI (a1.Kind), vI (a1.Play.Row), vI (a1.Play.Col), .bool (a1.Play.Down), vS (a1.Play.Word), vS (a1.Tiles), vI (a1.Seconds)], .agg #[vI (b8.Kind), vI (b8.Play.Row), vI (b8.Play.Col), .bool (b8.Play.Down), vS (b8.Play.Word), vS (b8.Tiles), vI (b8.Seconds)]] C.w0 fun e w => e = .returned (.bool (r)) ∧ Mem C w [] [] := by
  have hM := Mem.begin C [] trivial
  refine enter Tryd.func52 rfl Tryd.ntmps52 rfl fun a hf => ?_
  unfold m_laws_eqAction at h
  refine wp_seq ?_
  refine region_pl ?_
  refine pl_l hf rfl rfl rfl (w_box hf hM (cs := [vI (a1.Kind), vI (a1.Play.Row), vI (a1.Play.Col), .bool (a1.Play.Down), vS (a1.Play.Word), vS (a1.Tiles), vI (a1.Seconds)]) rfl rfl fun b15 w16 hx17 hM a hf => ?_)
  refine pl_l hf rfl rfl rfl (w_box hf hM (cs := [vI (b8.Kind), vI (b8.Play.Row), vI (b8.Play.Col), .bool (b8.Play.Down), vS (b8.Play.Word), vS (b8.Tiles), vI (b8.Seconds)]) rfl rfl fun b19 w20 hx21 hM a hf => ?_)
  refine q_ hf rfl rfl rfl (e_assign hf rfl) fun a hf => ?_
  refine pl_nil ?_
  refine then_n ?_
  refine wp_seq ?_
  refine wp_seq ?_
  refine region_pl ?_
  refine q_ hf rfl rfl rfl (e_field hf rfl Tryd.underlying38 rfl Tryd.sizeOf2 (o' := 0) rfl) fun a hf => ?_
  refine q_ hf rfl rfl rfl (e_load1 hf rfl Tryd.isAgg2 (hM.boxCell (k := 1) rfl rfl)) fun a hf => ?_
  refine q_ hf rfl rfl rfl (e_field hf rfl Tryd.underlying38 rfl Tryd.sizeOf2 (o' := 0) rfl) fun a hf => ?_
  refine q_ hf rfl rfl rfl (e_load1 hf rfl Tryd.isAgg2 (hM.boxCell (k := 0) rfl rfl)) fun a hf => ?_
  refine q_ hf rfl rfl rfl (e_ne hf (x := a1.Kind) (y := b8.Kind) rfl rfl) fun a hf => ?_
  refine pl_nil ?_
  refine then_n ?_
  rcases cond_some h with ⟨hc23, h⟩ | ⟨hc23, h⟩
  · refine cond_t hf rfl hc23 ?_
    refine wp_seq ?_
    refine region_pl ?_
    refine q_ hf rfl rfl rfl (e_assign hf rfl) fun a hf => ?_
    refine pl_nil ?_
    refine then_n ?_
    refine wp_ret ?_
    refine then_r ?_
    obtain rfl := some_inj h
    have hM := hM.outs (own' := []) 0 rfl
    exact leave1 hf rfl rfl ⟨rfl, hM.fin⟩
  · refine cond_f hf rfl hc23 ?_
    refine wp_skip ?_
    refine then_n ?_
    refine wp_seq ?_
    refine wp_seq ?_
    refine region_pl ?_
    refine q_ hf rfl rfl rfl (e_field hf rfl Tryd.underlying38 rfl Tryd.sizeOf28 (o' := 1) rfl) fun a hf => ?_
    refine q_ hf rfl rfl rfl (e_loadA hf (us := [vI (a1.Play.Row), vI (a1.Play.Col), .bool (a1.Play.Down), vS (a1.Play.Word)]) rfl ⟨Tryd.isAgg28, Tryd.sizeOf28⟩ rfl (hM.boxSub (k := 1) (us := [vI (a1.Play.Row), vI (a1.Play.Col), .bool (a1.Play.Down), vS (a1.Play.Word)]) (o := 1) rfl rfl)) fun a hf => ?_
    refine q_ hf rfl rfl rfl (e_field hf rfl Tryd.underlying38 rfl Tryd.sizeOf28 (o' := 1) rfl) fun a hf => ?_
    refine q_ hf rfl rfl rfl (e_loadA hf (us := [vI (b8.Play.Row), vI (b8.Play.Col), .bool (b8.Play.Down), vS (b8.Play.Word)]) rfl ⟨Tryd.isAgg28, Tryd.sizeOf28⟩ rfl (hM.boxSub (k := 0) (us := [vI (b8.Play.Row), vI (b8.Play.Col), .bool (b8.Play.Down), vS (b8.Play.Word)]) (o := 1) rfl rfl)) fun a hf => ?_
    obtain ⟨y24, hz25, h⟩ := bind_some h
    refine pl_l hf rfl rfl rfl (w_call hf Tryd.call60 rfl (r_laws_eqPlay ⟨_, Sh C _ _, none_, hM.sh_lt, none_not, C.G, hM.g_lt, g_none, hM.tabs⟩ a1.Play hp3 hp4 hp5 b8.Play hp10 hp11 hp12 _ hz25) ?_)
    rintro _ w26 ⟨rfl, hM2⟩
    obtain ⟨hM, hx27, hup28⟩ := hM.back hM2
    dsimp only [List.cons_append, List.nil_append] at hM hup28
    clear hM2
    refine ⟨_, rfl, fun a hf => ?_⟩
    refine q_ hf rfl rfl rfl (e_not hf rfl) fun a hf => ?_
    refine pl_nil ?_
    refine then_n ?_
    rcases cond_some h with ⟨hc29, h⟩ | ⟨hc29, h⟩
    · refine cond_t hf rfl hc29 ?_
      refine wp_seq ?_
      refine region_pl ?_
      refine q_ hf rfl rfl rfl (e_assign hf rfl) fun a hf => ?_
      refine pl_nil ?_
      refine then_n ?_
      refine wp_ret ?_
      refine then_r ?_
      obtain rfl := some_inj h
      have hM := hM.outs (own' := []) 0 rfl
      exact leave1 hf rfl rfl ⟨rfl, hM.fin⟩
    · refine cond_f hf rfl hc29 ?_
      refine wp_skip ?_
      refine then_n ?_
      refine wp_seq ?_
      refine wp_seq ?_
      refine region_pl ?_
      refine q_ hf rfl rfl rfl (e_field hf rfl Tryd.underlying38 rfl Tryd.sizeOf9 (o' := 5) rfl) fun a hf => ?_
      refine q_ hf rfl rfl rfl (e_load1 hf rfl Tryd.isAgg9 (hM.boxCell (k := 1) rfl rfl)) fun a hf => ?_
      refine q_ hf rfl rfl rfl (e_field hf rfl Tryd.underlying38 rfl Tryd.sizeOf9 (o' := 5) rfl) fun a hf => ?_
      refine q_ hf rfl rfl rfl (e_load1 hf rfl Tryd.isAgg9 (hM.boxCell (k := 0) rfl rfl)) fun a hf => ?_
      refine q_ hf rfl rfl rfl (e_neS hf (x := a1.Tiles) (y := b8.Tiles) rfl rfl) fun a hf => ?_
      refine pl_nil ?_
      refine then_n ?_
      rcases cond_some h with ⟨hc30, h⟩ | ⟨hc30, h⟩
      · refine cond_t hf rfl hc30 ?_
        refine wp_seq ?_
        refine region_pl ?_
        refine q_ hf rfl rfl rfl (e_assign hf rfl) fun a hf => ?_
        refine pl_nil ?_
        refine then_n ?_
        refine wp_ret ?_
        refine then_r ?_
        obtain rfl := some_inj h
        have hM := hM.outs (own' := []) 0 rfl
        exact leave1 hf rfl rfl ⟨rfl, hM.fin⟩
      · refine cond_f hf rfl hc30 ?_
        refine wp_skip ?_
        refine then_n ?_
        refine wp_seq ?_
        refine wp_seq ?_
        refine region_pl ?_
        refine q_ hf rfl rfl rfl (e_field hf rfl Tryd.underlying38 rfl Tryd.sizeOf2 (o' := 6) rfl) fun a hf => ?_
        refine q_ hf rfl rfl rfl (e_load1 hf rfl Tryd.isAgg2 (hM.boxCell (k := 1) rfl rfl)) fun a hf => ?_
        refine q_ hf rfl rfl rfl (e_field hf rfl Tryd.underlying38 rfl Tryd.sizeOf2 (o' := 6) rfl) fun a hf => ?_
        refine q_ hf rfl rfl rfl (e_load1 hf rfl Tryd.isAgg2 (hM.boxCell (k := 0) rfl rfl)) fun a hf => ?_
        refine q_ hf rfl rfl rfl (e_ne hf (x := a1.Seconds) (y := b8.Seconds) rfl rfl) fun a hf => ?_
        refine pl_nil ?_
        refine then_n ?_
        rcases cond_some h with ⟨hc31, h⟩ | ⟨hc31, h⟩
        · refine cond_t hf rfl hc31 ?_
          refine wp_seq ?_
          refine region_pl ?_
          refine q_ hf rfl rfl rfl (e_assign hf rfl) fun a hf => ?_
          refine pl_nil ?_
          refine then_n ?_
          refine wp_ret ?_
          refine then_r ?_
          obtain rfl := some_inj h
          have hM := hM.outs (own' := []) 0 rfl
          exact leave1 hf rfl rfl ⟨rfl, hM.fin⟩
        · refine cond_f hf rfl hc31 ?_
          refine wp_skip ?_
          refine then_n ?_
          refine wp_seq ?_
          refine region_pl ?_
          refine q_ hf rfl rfl rfl (e_assign hf rfl) fun a hf => ?_
          refine pl_nil ?_
          refine then_n ?_
          refine wp_ret ?_
          obtain rfl := some_inj h
          have hM := hM.outs (own' := []) 0 rfl
          exact leave1 hf rfl rfl ⟨rfl, hM.fin⟩

set_option maxRecDepth 100000 in
set_option maxHeartbeats 4000000 in
theorem r_laws_eqActionS (C : Cx) (a1 : (List Action)) (A2 : Option Addr) (c3 : Nat) (hp4 : (sliceRep ActionRep).R C.w0 C.S0 a1 [vL A2 a1 c3]) (b5 : (List Action)) (A6 : Option Addr) (c7 : Nat) (hp8 : (sliceRep ActionRep).R C.w0 C.S0 b5 [vL A6 b5 c7]) (r : Bool) (h : m_laws_eqActionS a1 b5 = some r) :
    Calls Tryd.prog 40 #[vL A2 (a1) c3, vL A6 (b5) c7] C.w0 fun e w => e = .returned (.bool (r)) ∧ Mem C w [] [] := by
  have hM := Mem.begin C [.dat (sliceRep ActionRep) b5 [vL A6 b5 c7], .dat (sliceRep ActionRep) a1 [vL A2 a1 c3]] ⟨hp8, hp4, trivial⟩
  refine enter Tryd.func40 rfl Tryd.ntmps40 rfl fun a hf => ?_
  unfold m_laws_eqActionS at h
  refine wp_seq ?_
  refine region_pl ?_
  refine q_ hf rfl rfl rfl (e_assign hf rfl) fun a hf => ?_
  refine pl_nil ?_
  refine then_n ?_
  refine wp_seq ?_
  refine wp_seq ?_
  refine region_pl ?_
  refine q_ hf rfl rfl rfl (e_move hf rfl) fun a hf => ?_
  have hl9 := slice_len (hM.dat (k := 1) rfl)
  refine q_ hf rfl rfl rfl (e_lenL hf (x := a1) rfl Tryd.underlying46) fun a hf => ?_
  refine q_ hf rfl rfl rfl (e_move hf rfl) fun a hf => ?_
  have hl10 := slice_len (hM.dat (k := 0) rfl)
  refine q_ hf rfl rfl rfl (e_lenL hf (x := b5) rfl Tryd.underlying46) fun a hf => ?_
  refine q_ hf rfl rfl rfl (e_ne hf (x := (a1.length : Int)) (y := (b5.length : Int)) rfl rfl) fun a hf => ?_
  refine pl_nil ?_
  refine then_n ?_
  rcases cond_some h with ⟨hc11, h⟩ | ⟨hc11, h⟩
  · refine cond_t hf rfl hc11 ?_
    refine wp_seq ?_
    refine region_pl ?_
    refine q_ hf rfl rfl rfl (e_assign hf rfl) fun a hf => ?_
    refine pl_nil ?_
    refine then_n ?_
    refine wp_ret ?_
    refine then_r ?_
    obtain rfl := some_inj h
    exact leave1 hf rfl rfl ⟨rfl, hM.fin⟩
  · refine cond_f hf rfl hc11 ?_
    refine wp_skip ?_
    refine then_n ?_
    obtain ⟨x12, h13, h⟩ := bind_some h
    refine seq_join (fun a w => (.inl ()) = x12 ∧ Has 27 a [] ∧ Mem C w [] [.dat (sliceRep ActionRep) b5 [vL A6 b5 c7], .dat (sliceRep ActionRep) a1 [vL A2 a1 c3]]) ?_ ?_
    · refine wp_seq ?_
      refine region_pl ?_
      refine q_ hf rfl rfl rfl (e_assign hf rfl) fun a hf => ?_
      refine pl_nil ?_
      refine then_n ?_
      refine wp_block ?_
      obtain ⟨x17, h18, h13⟩ := bind_some h13
      refine wp_loopM h18 (fun s a w => ∃ (n14 : Int), n14 = s ∧ Has 27 a [(0, vL A2 (a1) c3), (1, vL A6 (b5) c7), (5, vI (n14))] ∧ Mem C w [] [.dat (sliceRep ActionRep) b5 [vL A6 b5 c7], .dat (sliceRep ActionRep) a1 [vL A2 a1 c3]] ∧ R64 n14) ?_ ?_
      · exact ⟨0, rfl, hf.keep ⟨rfl, rfl, rfl, trivial⟩, hM.pick [0, 1] rfl, (R64_lit rfl)⟩
      · rintro s o19 a w16 ⟨n14, rfl, hf, hM, hv15⟩ h20 hd21
        replace h20 : m_laws_eqActionS_l1 a1 b5 n14 = some o19 := h20
        unfold m_laws_eqActionS_l1 at h20
        refine wp_seq ?_
        refine wp_seq ?_
        refine region_pl ?_
        refine q_ hf rfl rfl rfl (e_move hf rfl) fun a hf => ?_
        refine q_ hf rfl rfl rfl (e_move hf rfl) fun a hf => ?_
        have hl22 := slice_len (hM.dat (k := 1) rfl)
        refine q_ hf rfl rfl rfl (e_lenL hf (x := a1) rfl Tryd.underlying46) fun a hf => ?_
        refine q_ hf rfl rfl rfl (e_lt hf (x := n14) (y := (a1.length : Int)) rfl rfl) fun a hf => ?_
        refine pl_nil ?_
        refine then_n ?_
        rcases cond_some h20 with ⟨hc23, h20⟩ | ⟨hc23, h20⟩
        · refine cond_t hf rfl hc23 ?_
          refine wp_skip ?_
          refine then_n ?_
          refine wp_seq ?_
          refine wp_block ?_
          refine wp_seq ?_
          obtain ⟨w24, hw⟩ : ∃ x, x = w16.drew := ⟨_, rfl⟩
          refine region_pi (.q 0 (.q 1 (.q 2 (.q 3 (.q 4 (.q 5 (.q 6 (.q 7 (.l 8 (.q 9 (.nil))))))))))) (Ext w24) rfl (by kernel_rfl) ?_
          have hM := hM.drew
          rw [← hw] at hM ⊢
          clear hw
          refine pi_q hf rfl rfl rfl rfl (Ext.refl _) (e_move hf rfl) fun a hf => ?_
          refine pi_q hf rfl rfl rfl rfl (Ext.refl _) (e_move hf rfl) fun a hf => ?_
          obtain ⟨e25, hz26, h20⟩ := bind_some h20
          obtain ⟨b30, o31, _, hA32, h27, h28, hr29, hM⟩ := hM.elem (hM.dat (k := 1) rfl) (n := 7) rfl hz26
          obtain ⟨rfl, hv33, hv34, hv35, hv36, hv37, hv38⟩ := ActionRep_open hr29
          refine pi_q hf rfl rfl rfl rfl (Ext.refl _) (e_indexAddr (A := A2) (b := b30) (o := o31) (xs := a1) (i := n14) hf hA32 rfl rfl Tryd.underlying46 Tryd.sizeOf38 h27 h28) fun a hf => ?_
          refine pi_q hf rfl rfl rfl rfl (Ext.refl _) (e_loadA hf (us := [vI (e25.Kind), vI (e25.Play.Row), vI (e25.Play.Col), .bool (e25.Play.Down), vS (e25.Play.Word), vS (e25.Tiles), vI (e25.Seconds)]) rfl ⟨Tryd.isAgg38, Tryd.sizeOf38⟩ rfl (hM.litSub (k := 0) (d := 0) (us := [vI (e25.Kind), vI (e25.Play.Row), vI (e25.Play.Col), .bool (e25.Play.Down), vS (e25.Play.Word), vS (e25.Tiles), vI (e25.Seconds)]) rfl rfl rfl)) fun a hf => ?_
          refine pi_q hf rfl rfl rfl rfl (Ext.refl _) (e_move hf rfl) fun a hf => ?_
          refine pi_q hf rfl rfl rfl rfl (Ext.refl _) (e_move hf rfl) fun a hf => ?_
          obtain ⟨e39, hz40, h20⟩ := bind_some h20
          obtain ⟨b44, o45, _, hA46, h41, h42, hr43, hM⟩ := hM.elem (hM.dat (k := 1) rfl) (n := 7) rfl hz40
          obtain ⟨rfl, hv47, hv48, hv49, hv50, hv51, hv52⟩ := ActionRep_open hr43
          refine pi_q hf rfl rfl rfl rfl (Ext.refl _) (e_indexAddr (A := A6) (b := b44) (o := o45) (xs := b5) (i := n14) hf hA46 rfl rfl Tryd.underlying46 Tryd.sizeOf38 h41 h42) fun a hf => ?_
          refine pi_q hf rfl rfl rfl rfl (Ext.refl _) (e_loadA hf (us := [vI (e39.Kind), vI (e39.Play.Row), vI (e39.Play.Col), .bool (e39.Play.Down), vS (e39.Play.Word), vS (e39.Tiles), vI (e39.Seconds)]) rfl ⟨Tryd.isAgg38, Tryd.sizeOf38⟩ rfl (hM.litSub (k := 0) (d := 0) (us := [vI (e39.Kind), vI (e39.Play.Row), vI (e39.Play.Col), .bool (e39.Play.Down), vS (e39.Play.Word), vS (e39.Tiles), vI (e39.Seconds)]) rfl rfl rfl)) fun a hf => ?_
          refine pi_one ?_
          obtain ⟨y53, hz54, h20⟩ := bind_some h20
          refine pi_l hf rfl rfl rfl rfl (w_call hf Tryd.call52 rfl (r_laws_eqAction ⟨_, Sh C _ _, none_, hM.sh_lt, none_not, C.G, hM.g_lt, g_none, hM.tabs⟩ e25 hv33 hv34 hv35 hv36 hv37 hv38 e39 hv47 hv48 hv49 hv50 hv51 hv52 _ hz54) ?_)
          rintro _ w55 ⟨rfl, hM2⟩
          obtain ⟨hM, hx56, hup57⟩ := hM.back hM2
          dsimp only [List.cons_append, List.nil_append] at hM hup57
          clear hM2
          refine ⟨_, rfl, Ext w55, fun _ h => Ext.trans hx56 h, Ext.refl _, fun a hf => ?_⟩
          refine pi_q hf rfl rfl rfl rfl (Ext.refl _) (e_not hf rfl) fun a hf => ?_
          refine pi_nil ?_
          refine then_n ?_
          rcases cond_some h20 with ⟨hc58, h20⟩ | ⟨hc58, h20⟩
          · refine cond_t hf rfl hc58 ?_
            refine wp_seq ?_
            refine region_pl ?_
            refine q_ hf rfl rfl rfl (e_assign hf rfl) fun a hf => ?_
            refine pl_nil ?_
            refine then_n ?_
            refine wp_ret ?_
            refine blk_r ?_
            refine then_r ?_
            obtain rfl := some_inj h20
            obtain rfl := hd21 _ rfl
            try dsimp only at h13
            refine then_r ?_
            refine blk_r ?_
            obtain rfl := some_inj h13
            try dsimp only at h
            refine then_r ?_
            obtain rfl := some_inj h
            exact leave1 hf rfl rfl ⟨rfl, hM.fin⟩
          · refine cond_f hf rfl hc58 ?_
            refine wp_skip ?_
            refine blk_n ?_
            refine then_n ?_
            refine region_pl ?_
            refine q_ hf rfl rfl rfl (e_move hf rfl) fun a hf => ?_
            obtain ⟨z59, hz60, h20⟩ := bind_some h20
            refine q_ hf rfl rfl rfl (e_add hf rfl rfl hz60) fun a hf => ?_
            refine q_ hf rfl rfl rfl (e_assign hf rfl) fun a hf => ?_
            refine pl_nil ?_
            obtain rfl := some_inj h20
            refine then_n ⟨_, rfl, ?_⟩
            exact ⟨z59, rfl, hf.keep ⟨rfl, rfl, rfl, trivial⟩, hM.pick [2, 3] rfl, (chk_R hz60)⟩
        · refine cond_f hf rfl hc23 ?_
          refine wp_exit ?_
          refine then_x ?_
          obtain rfl := some_inj h20
          obtain rfl := hd21 _ rfl
          try dsimp only at h13
          refine then_x ?_
          refine exit_hit ?_
          obtain rfl := some_inj h13
          refine then_n ?_
          exact ⟨rfl, hf.keep trivial, hM.pick [0, 1] rfl⟩
    · rintro a w67 ⟨rfl, hf, hM⟩
      try dsimp only at h
      refine wp_seq ?_
      refine region_pl ?_
      refine q_ hf rfl rfl rfl (e_assign hf rfl) fun a hf => ?_
      refine pl_nil ?_
      refine then_n ?_
      refine wp_ret ?_
      obtain rfl := some_inj h
      exact leave1 hf rfl rfl ⟨rfl, hM.fin⟩

set_option maxRecDepth 100000 in
set_option maxHeartbeats 4000000 in
theorem r_laws_eqRecord (C : Cx) (a1 : Record) (hp2 : R64 a1.Seed) (A3 : Option Addr) (c4 : Nat) (hp5 : (sliceRep ActionRep).R C.w0 C.S0 a1.Actions [vL A3 a1.Actions c4]) (b6 : Record) (hp7 : R64 b6.Seed) (A8 : Option Addr) (c9 : Nat) (hp10 : (sliceRep ActionRep).R C.w0 C.S0 b6.Actions [vL A8 b6.Actions c9]) (r : Bool) (h : m_laws_eqRecord a1 b6 = some r) :
    Calls Tryd.prog 19 #[.agg #[vI (a1.Seed), vL A3 (a1.Actions) c4], .agg #[vI (b6.Seed), vL A8 (b6.Actions) c9]] C.w0 fun e w => e = .returned (.bool (r)) ∧ Mem C w [] [] := by
  have hM := Mem.begin C [.dat (sliceRep ActionRep) b6.Actions [vL A8 b6.Actions c9], .dat (sliceRep ActionRep) a1.Actions [vL A3 a1.Actions c4]] ⟨hp10, hp5, trivial⟩
  refine enter Tryd.func19 rfl Tryd.ntmps19 rfl fun a hf => ?_
  unfold m_laws_eqRecord at h
  refine wp_seq ?_
  refine region_pl ?_
  refine pl_l hf rfl rfl rfl (w_box hf hM (cs := [vI (a1.Seed), vL A3 (a1.Actions) c4]) rfl rfl fun b11 w12 hx13 hM a hf => ?_)
  refine pl_l hf rfl rfl rfl (w_box hf hM (cs := [vI (b6.Seed), vL A8 (b6.Actions) c9]) rfl rfl fun b15 w16 hx17 hM a hf => ?_)
  refine q_ hf rfl rfl rfl (e_assign hf rfl) fun a hf => ?_
  refine pl_nil ?_
  refine then_n ?_
  refine wp_seq ?_
  refine wp_seq ?_
  refine region_pl ?_
  refine q_ hf rfl rfl rfl (e_field hf rfl Tryd.underlying48 rfl Tryd.sizeOf2 (o' := 0) rfl) fun a hf => ?_
  refine q_ hf rfl rfl rfl (e_load1 hf rfl Tryd.isAgg2 (hM.boxCell (k := 1) rfl rfl)) fun a hf => ?_
  refine q_ hf rfl rfl rfl (e_field hf rfl Tryd.underlying48 rfl Tryd.sizeOf2 (o' := 0) rfl) fun a hf => ?_
  refine q_ hf rfl rfl rfl (e_load1 hf rfl Tryd.isAgg2 (hM.boxCell (k := 0) rfl rfl)) fun a hf => ?_
  refine q_ hf rfl rfl rfl (e_ne hf (x := a1.Seed) (y := b6.Seed) rfl rfl) fun a hf => ?_
  refine pl_nil ?_
  refine then_n ?_
  rcases cond_some h with ⟨hc19, h⟩ | ⟨hc19, h⟩
  · refine cond_t hf rfl hc19 ?_
    refine wp_seq ?_
    refine region_pl ?_
    refine q_ hf rfl rfl rfl (e_assign hf rfl) fun a hf => ?_
    refine pl_nil ?_
    refine then_n ?_
    refine wp_ret ?_
    refine then_r ?_
    obtain rfl := some_inj h
    have hM := hM.outs (own' := []) 0 rfl
    exact leave1 hf rfl rfl ⟨rfl, hM.fin⟩
  · refine cond_f hf rfl hc19 ?_
    refine wp_skip ?_
    refine then_n ?_
    refine wp_seq ?_
    refine wp_seq ?_
    refine region_pl ?_
    refine q_ hf rfl rfl rfl (e_field hf rfl Tryd.underlying48 rfl Tryd.sizeOf46 (o' := 1) rfl) fun a hf => ?_
    refine q_ hf rfl rfl rfl (e_load1 hf rfl Tryd.isAgg46 (hM.boxCell (k := 1) rfl rfl)) fun a hf => ?_
    refine q_ hf rfl rfl rfl (e_field hf rfl Tryd.underlying48 rfl Tryd.sizeOf46 (o' := 1) rfl) fun a hf => ?_
    refine q_ hf rfl rfl rfl (e_load1 hf rfl Tryd.isAgg46 (hM.boxCell (k := 0) rfl rfl)) fun a hf => ?_
    obtain ⟨y20, hz21, h⟩ := bind_some h
    refine pl_l hf rfl rfl rfl (w_call hf Tryd.call40 rfl (r_laws_eqActionS ⟨_, Sh C _ _, none_, hM.sh_lt, none_not, C.G, hM.g_lt, g_none, hM.tabs⟩ a1.Actions _ _ (hM.dat (k := 1) rfl) b6.Actions _ _ (hM.dat (k := 0) rfl) _ hz21) ?_)
    rintro _ w22 ⟨rfl, hM2⟩
    obtain ⟨hM, hx23, hup24⟩ := hM.back hM2
    dsimp only [List.cons_append, List.nil_append] at hM hup24
    clear hM2
    refine ⟨_, rfl, fun a hf => ?_⟩
    refine q_ hf rfl rfl rfl (e_not hf rfl) fun a hf => ?_
    refine pl_nil ?_
    refine then_n ?_
    rcases cond_some h with ⟨hc25, h⟩ | ⟨hc25, h⟩
    · refine cond_t hf rfl hc25 ?_
      refine wp_seq ?_
      refine region_pl ?_
      refine q_ hf rfl rfl rfl (e_assign hf rfl) fun a hf => ?_
      refine pl_nil ?_
      refine then_n ?_
      refine wp_ret ?_
      refine then_r ?_
      obtain rfl := some_inj h
      have hM := hM.outs (own' := []) 0 rfl
      exact leave1 hf rfl rfl ⟨rfl, hM.fin⟩
    · refine cond_f hf rfl hc25 ?_
      refine wp_skip ?_
      refine then_n ?_
      refine wp_seq ?_
      refine region_pl ?_
      refine q_ hf rfl rfl rfl (e_assign hf rfl) fun a hf => ?_
      refine pl_nil ?_
      refine then_n ?_
      refine wp_ret ?_
      obtain rfl := some_inj h
      have hM := hM.outs (own' := []) 0 rfl
      exact leave1 hf rfl rfl ⟨rfl, hM.fin⟩

set_option maxRecDepth 100000 in
set_option maxHeartbeats 4000000 in
theorem r_laws_FnExactRecordText (C : Cx) (aR1 : Record) (hp2 : R64 aR1.Seed) (A3 : Option Addr) (c4 : Nat) (hp5 : (sliceRep ActionRep).R C.w0 C.S0 aR1.Actions [vL A3 aR1.Actions c4]) (r : Bool) (h : m_laws_FnExactRecordText aR1 = some r) :
    Calls Tryd.prog 6 #[.agg #[vI (aR1.Seed), vL A3 (aR1.Actions) c4]] C.w0 fun e w => e = .returned (.bool (r)) ∧ Mem C w [] [] := by
  have hM := Mem.begin C [.dat (sliceRep ActionRep) aR1.Actions [vL A3 aR1.Actions c4]] ⟨hp5, trivial⟩
  refine enter Tryd.func6 rfl Tryd.ntmps6 rfl fun a hf => ?_
  unfold m_laws_FnExactRecordText at h
  refine wp_seq ?_
  refine region_pl ?_
  refine pl_l hf rfl rfl rfl (w_box hf hM (cs := [vI (aR1.Seed), vL A3 (aR1.Actions) c4]) rfl rfl fun b6 w7 hx8 hM a hf => ?_)
  refine q_ hf rfl rfl rfl (e_assign hf rfl) fun a hf => ?_
  refine pl_nil ?_
  refine then_n ?_
  refine wp_seq ?_
  refine region_pl ?_
  refine q_ hf rfl rfl rfl (e_assign hf rfl) fun a hf => ?_
  refine pl_nil ?_
  refine then_n ?_
  refine wp_seq ?_
  refine region_pl ?_
  refine q_ hf rfl rfl rfl (e_loadA hf (us := [vI (aR1.Seed), vL A3 (aR1.Actions) c4]) rfl ⟨Tryd.isAgg43, Tryd.sizeOf43⟩ rfl (hM.boxSub (k := 0) (us := [vI (aR1.Seed), vL A3 (aR1.Actions) c4]) (o := 0) rfl rfl)) fun a hf => ?_
  refine q_ hf rfl rfl rfl (e_move hf rfl) fun a hf => ?_
  obtain ⟨y10, hz11, h⟩ := bind_some h
  refine pl_l hf rfl rfl rfl (w_call hf Tryd.call15 rfl (r_laws_szRecord ⟨_, Sh C _ _, none_, hM.sh_lt, none_not, C.G, hM.g_lt, g_none, hM.tabs⟩ aR1 hp2 _ _ (hM.dat (k := 0) rfl) 1048576 (R64_lit rfl) _ hz11) ?_)
  rintro _ w13 ⟨rfl, hM2, hv12⟩
  obtain ⟨hM, hx14, hup15⟩ := hM.back hM2
  dsimp only [List.cons_append, List.nil_append] at hM hup15
  clear hM2
  refine ⟨_, rfl, fun a hf => ?_⟩
  refine q_ hf rfl rfl rfl (e_assign hf rfl) fun a hf => ?_
  refine pl_nil ?_
  refine then_n ?_
  refine wp_seq ?_
  refine wp_seq ?_
  refine region_pl ?_
  refine q_ hf rfl rfl rfl (e_move hf rfl) fun a hf => ?_
  refine q_ hf rfl rfl rfl (e_lt hf (x := y10) (y := 0) rfl rfl) fun a hf => ?_
  refine pl_nil ?_
  refine then_n ?_
  rcases cond_some h with ⟨hc16, h⟩ | ⟨hc16, h⟩
  · refine cond_t hf rfl hc16 ?_
    refine wp_seq ?_
    refine region_pl ?_
    refine q_ hf rfl rfl rfl (e_assign hf rfl) fun a hf => ?_
    refine pl_nil ?_
    refine then_n ?_
    refine wp_ret ?_
    refine then_r ?_
    obtain rfl := some_inj h
    have hM := hM.outs (own' := []) 0 rfl
    exact leave1 hf rfl rfl ⟨rfl, hM.fin⟩
  · refine cond_f hf rfl hc16 ?_
    refine wp_skip ?_
    refine then_n ?_
    refine wp_seq ?_
    refine region_pl ?_
    refine q_ hf rfl rfl rfl (e_loadA hf (us := [vI (aR1.Seed), vL A3 (aR1.Actions) c4]) rfl ⟨Tryd.isAgg43, Tryd.sizeOf43⟩ rfl (hM.boxSub (k := 0) (us := [vI (aR1.Seed), vL A3 (aR1.Actions) c4]) (o := 0) rfl rfl)) fun a hf => ?_
    obtain ⟨y17, hz18, h⟩ := bind_some h
    refine pl_l hf rfl rfl rfl (w_call hf Tryd.call17 rfl (r_laws_toRecord ⟨_, Sh C _ _, none_, hM.sh_lt, none_not, C.G, hM.g_lt, g_none, hM.tabs⟩ aR1 hp2 _ _ (hM.dat (k := 0) rfl) _ hz18) ?_)
    rintro _ w22 ⟨A20, c21, rfl, hM2, hv19⟩
    obtain ⟨hM, hx23, hup24⟩ := hM.back hM2
    dsimp only [List.cons_append, List.nil_append] at hM hup24
    clear hM2
    refine ⟨_, rfl, fun a hf => ?_⟩
    obtain ⟨y25, hz26, h⟩ := bind_some h
    refine pl_l hf rfl rfl rfl (w_call hf Tryd.call20 rfl (r_spec_RecordText ⟨_, All C _ _, none_, hM.all_lt, none_not, C.G, hM.g_lt, g_none, hM.tabs⟩ y17 hv19 _ _ (hM.lendRow (k := 0) rfl) _ hz26) ?_)
    rintro _ w28 ⟨rfl, hM2, hv27⟩
    obtain ⟨hM, hx29⟩ := hM.backA hM2
    clear hM2
    refine ⟨_, rfl, fun a hf => ?_⟩
    refine q_ hf rfl rfl rfl (e_assign hf rfl) fun a hf => ?_
    refine pl_nil ?_
    refine then_n ?_
    refine wp_seq ?_
    refine region_pl ?_
    refine q_ hf rfl rfl rfl (e_loadA hf (us := [vI (aR1.Seed), vL A3 (aR1.Actions) c4]) rfl ⟨Tryd.isAgg43, Tryd.sizeOf43⟩ rfl (hM.boxSub (k := 1) (us := [vI (aR1.Seed), vL A3 (aR1.Actions) c4]) (o := 0) rfl rfl)) fun a hf => ?_
    obtain ⟨y31, hz32, h⟩ := bind_some h
    refine pl_l hf rfl rfl rfl (w_call hf Tryd.call17 rfl (r_laws_toRecord ⟨_, Sh C _ _, none_, hM.sh_lt, none_not, C.G, hM.g_lt, g_none, hM.tabs⟩ aR1 hp2 _ _ (hM.dat (k := 0) rfl) _ hz32) ?_)
    rintro _ w36 ⟨A34, c35, rfl, hM2, hv33⟩
    obtain ⟨hM, hx37, hup38⟩ := hM.back hM2
    dsimp only [List.cons_append, List.nil_append] at hM hup38
    clear hM2
    refine ⟨_, rfl, fun a hf => ?_⟩
    refine pl_l hf rfl rfl rfl (w_alloc hM (cs := [vI (0), vL none (([] : (List Action))) 0]) Tryd.zeroValue48 rfl fun b39 w40 hx41 hM a hf => ?_)
    refine pl_0 hf rfl rfl (w_store hf hM (us := [vI (y31.Seed), vL A34 (y31.Actions) c35]) (cs' := [vI (y31.Seed), vL A34 (y31.Actions) c35]) rfl rfl (k := 0) rfl rfl Tryd.sizeOf48 rfl rfl rfl fun w43 hM => ?_)
    dsimp only [List.set] at hM
    refine pl_nil ?_
    refine then_n ?_
    refine wp_seq ?_
    refine region_pl ?_
    refine q_ hf rfl rfl rfl (e_loadA hf (us := [vI (y31.Seed), vL A34 (y31.Actions) c35]) rfl ⟨Tryd.isAgg48, Tryd.sizeOf48⟩ rfl (hM.boxSub (k := 0) (us := [vI (y31.Seed), vL A34 (y31.Actions) c35]) (o := 0) rfl rfl)) fun a hf => ?_
    obtain ⟨y46, hz47, h⟩ := bind_some h
    refine pl_l hf rfl rfl rfl (w_call hf Tryd.call21 rfl (r_impl_RecordText ⟨_, All C _ _, none_, hM.all_lt, none_not, C.G, hM.g_lt, g_none, hM.tabs⟩ y31 hv33 _ _ (hM.lendRow (k := 1) rfl) _ hz47) ?_)
    rintro _ w49 ⟨rfl, hM2, hv48⟩
    obtain ⟨hM, hx50⟩ := hM.backA hM2
    clear hM2
    refine ⟨_, rfl, fun a hf => ?_⟩
    refine q_ hf rfl rfl rfl (e_assign hf rfl) fun a hf => ?_
    refine pl_nil ?_
    refine then_n ?_
    refine wp_seq ?_
    refine wp_seq ?_
    refine region_pl ?_
    refine q_ hf rfl rfl rfl (e_move hf rfl) fun a hf => ?_
    refine q_ hf rfl rfl rfl (e_move hf rfl) fun a hf => ?_
    refine q_ hf rfl rfl rfl (e_neS hf (x := y46) (y := y25) rfl rfl) fun a hf => ?_
    refine pl_nil ?_
    refine then_n ?_
    rcases cond_some h with ⟨hc52, h⟩ | ⟨hc52, h⟩
    · refine cond_t hf rfl hc52 ?_
      refine wp_seq ?_
      refine region_pl ?_
      refine q_ hf rfl rfl rfl (e_assign hf rfl) fun a hf => ?_
      refine pl_nil ?_
      refine then_n ?_
      refine wp_ret ?_
      refine then_r ?_
      obtain rfl := some_inj h
      have hM := hM.outs (own' := []) 0 rfl
      exact leave1 hf rfl rfl ⟨rfl, hM.fin⟩
    · refine cond_f hf rfl hc52 ?_
      refine wp_skip ?_
      refine then_n ?_
      refine wp_seq ?_
      refine wp_seq ?_
      obtain ⟨w53, hw⟩ : ∃ x, x = w49.drew := ⟨_, rfl⟩
      refine region_pi (.q 0 (.q 1 (.l 2 (.l 3 (.q 4 (.nil)))))) (Ext w53) rfl (by kernel_rfl) ?_
      have hM := hM.drew
      rw [← hw] at hM ⊢
      clear hw
      refine pi_q hf rfl rfl rfl rfl (Ext.refl _) (e_loadA hf (us := [vI (y31.Seed), vL A34 (y31.Actions) c35]) rfl ⟨Tryd.isAgg48, Tryd.sizeOf48⟩ rfl (hM.boxSub (k := 0) (us := [vI (y31.Seed), vL A34 (y31.Actions) c35]) (o := 0) rfl rfl)) fun a hf => ?_
      refine pi_q hf rfl rfl rfl rfl (Ext.refl _) (e_loadA hf (us := [vI (aR1.Seed), vL A3 (aR1.Actions) c4]) rfl ⟨Tryd.isAgg43, Tryd.sizeOf43⟩ rfl (hM.boxSub (k := 3) (us := [vI (aR1.Seed), vL A3 (aR1.Actions) c4]) (o := 0) rfl rfl)) fun a hf => ?_
      refine pi_one ?_
      obtain ⟨y54, hz55, h⟩ := bind_some h
      refine pi_l hf rfl rfl rfl rfl (w_call hf Tryd.call17 rfl (r_laws_toRecord ⟨_, Sh C _ _, none_, hM.sh_lt, none_not, C.G, hM.g_lt, g_none, hM.tabs⟩ aR1 hp2 _ _ (hM.dat (k := 0) rfl) _ hz55) ?_)
      rintro _ w59 ⟨A57, c58, rfl, hM2, hv56⟩
      obtain ⟨hM, hx60, hup61⟩ := hM.back hM2
      dsimp only [List.cons_append, List.nil_append] at hM hup61
      clear hM2
      refine ⟨_, rfl, Ext w59, fun _ h => Ext.trans hx60 h, Ext.refl _, fun a hf => ?_⟩
      refine pi_one ?_
      obtain ⟨y62, hz63, h⟩ := bind_some h
      refine pi_l hf rfl rfl rfl rfl (w_call hf Tryd.call19 rfl (r_laws_eqRecord ⟨_, All C _ _, none_, hM.all_lt, none_not, C.G, hM.g_lt, g_none, hM.tabs⟩ y31 hv33 _ _ (hM.lendRow (k := 2) rfl) y54 hv56 _ _ (hM.lendRow (k := 0) rfl) _ hz63) ?_)
      rintro _ w64 ⟨rfl, hM2⟩
      obtain ⟨hM, hx65⟩ := hM.backA hM2
      clear hM2
      refine ⟨_, rfl, Ext w64, fun _ h => Ext.trans hx65 h, Ext.refl _, fun a hf => ?_⟩
      refine pi_q hf rfl rfl rfl rfl (Ext.refl _) (e_not hf rfl) fun a hf => ?_
      refine pi_nil ?_
      refine then_n ?_
      rcases cond_some h with ⟨hc67, h⟩ | ⟨hc67, h⟩
      · refine cond_t hf rfl hc67 ?_
        refine wp_seq ?_
        refine region_pl ?_
        refine q_ hf rfl rfl rfl (e_assign hf rfl) fun a hf => ?_
        refine pl_nil ?_
        refine then_n ?_
        refine wp_ret ?_
        refine then_r ?_
        obtain rfl := some_inj h
        have hM := hM.outs (own' := []) 0 rfl
        exact leave1 hf rfl rfl ⟨rfl, hM.fin⟩
      · refine cond_f hf rfl hc67 ?_
        refine wp_skip ?_
        refine then_n ?_
        refine wp_seq ?_
        refine region_pl ?_
        refine q_ hf rfl rfl rfl (e_assign hf rfl) fun a hf => ?_
        refine pl_nil ?_
        refine then_n ?_
        refine wp_ret ?_
        obtain rfl := some_inj h
        have hM := hM.outs (own' := []) 0 rfl
        exact leave1 hf rfl rfl ⟨rfl, hM.fin⟩

end Go.Proofs.YtbekokenomhgeaaDoor
