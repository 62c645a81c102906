/- PureK9, PureK10, PureK11, PureK12, PureK13, PureK14, PureK15, PureK16 in one text. -/
import Derived.Test.YtdaoecpkgobelaaGreatDoorPureM1
namespace Go.Proofs.YtdaoecpkgobelaaGreatDoor
open Go Go.RowKit
set_option linter.unusedSimpArgs false
set_option linter.unusedVariables false
set_option linter.unusedSectionVars false
section
theorem agreeA {nd nd' : Nat → Bool × List (UInt8 × Nat)} {n k : Nat} (h : ∀ j ∈ preA nd n k, nd' j = nd j) :
  preA nd' n k = preA nd n k ∧ langA nd' n k = langA nd n k ∧ (shortA nd n k → shortA nd' n k) := by
 have h' : ∀ j ∈ preA nd n k, nd' (id j) = ((nd j).1, (nd j).2.map fun e => (e.1, id e.2)) := fun j hj => by
  show nd' j = _
  rw [h j hj]
  refine Prod.ext rfl ?_
  show (nd j).2 = (nd j).2.map _
  exact (List.map_id _).symm
 have h1 := preA_map nd nd' id n k h'
 have h2 := langA_map nd nd' id n k h'
 have h3 := shortA_map nd nd' id n k h'
 simp only [id, List.map_id] at h1 h2 h3
 exact ⟨h1, h2, h3⟩
structure InvB (N : List Node) : Prop where
 node : ∀ j (h : j < N.length), NodeOk j N[j]
 dist : N.Nodup
 use : ∀ k, ∀ e ∈ (ndD N k).2, ∃ h, shortA (ndD N) h e.2 ∧ langA (ndD N) h e.2 ≠ []
theorem InvB.edge_lt {N : List Node} (h : InvB N) {k : Nat} : ∀ e ∈ (ndD N k).2, e.2 < k ∧ k < N.length := fun e he => by
 by_cases hk : k < N.length
 ·rw [ndD_at hk] at he
  have := (List.of_mem_zip (he : (e.1, e.2) ∈ _)).2
  obtain ⟨t, ht, e1⟩ := List.mem_map.1 this
  have := (h.node k hk).next t ht
  exact ⟨by omega, hk⟩
 ·rw [ndD_none (by omega)] at he; cases he
theorem InvB.pre_lt {N : List Node} (h : InvB N) : ∀ (n : Nat) {k j : Nat}, k < N.length → j ∈ preA (ndD N) n k → j < N.length
 | 0, _, _, _, hj => by cases hj
 | n + 1, k, j, hk, hj => by
  rcases List.mem_cons.1 hj with rfl | hj
  ·exact hk
  ·obtain ⟨e, he, hj⟩ := List.mem_flatMap.1 hj
   have := h.edge_lt e he
   exact h.pre_lt n (by omega) hj
theorem ndD_app {N t : List Node} {j : Nat} (h : j < N.length) : ndD (N ++ t) j = ndD N j := by
 rw [ndD_at h, ndD_at (by rw [List.length_append]; omega), List.getElem_append_left h]
theorem InvB.ext {N t : List Node} (h : InvB N) (n : Nat) {k : Nat} (hk : k < N.length) :
  preA (ndD (N ++ t)) n k = preA (ndD N) n k ∧ langA (ndD (N ++ t)) n k = langA (ndD N) n k ∧ (shortA (ndD N) n k → shortA (ndD (N ++ t)) n k) :=
 agreeA fun j hj => ndD_app (h.pre_lt n hk hj)
theorem find_at (N : List Node) (x : Node) (hx : ∀ y ∈ N, y.Next.length ≤ 10000000) (hN : N.length ≤ 10000000) :
  ∀ (c i : Nat), i + c = N.length → (∀ j (h : j < N.length), j < i → N[j] ≠ x) →
   (∃ j, ∃ (h : j < N.length), N[j] = x ∧ loopM (fun s : Int => m_spec_l06B_build_l2 N x.Final x.Letters x.Next s) (i : Int) = some (.inr ((j : Int), (⟨N⟩ : l06B)))) ∨
   (x ∉ N ∧ loopM (fun s : Int => m_spec_l06B_build_l2 N x.Final x.Letters x.Next s) (i : Int) = some (.inl ()))
 | 0, i, hc, hno => by
  right
  refine ⟨fun hm => ?_, loopM_done ?_⟩
  ·obtain ⟨j, hj, e⟩ := List.mem_iff_getElem.1 hm
   exact hno j hj (by omega) e
  ·show m_spec_l06B_build_l2 N _ _ _ (i : Int) = _
   unfold m_spec_l06B_build_l2
   rw [decide_eq_false (by omega)]; rfl
 | c + 1, i, hc, hno => by
  have hi : i < N.length := by omega
  have hst : m_spec_l06B_build_l2 N x.Final x.Letters x.Next (i : Int) = some (bif decide (N[i] = x) then .inr (.inr ((i : Int), (⟨N⟩ : l06B))) else .inl (((i + 1 : Nat)) : Int)) := by
   unfold m_spec_l06B_build_l2
   rw [chk_succ (show i ≤ 8000000000000000000 by omega), decide_eq_true (show (i : Int) < (N.length : Int) by omega), cond_true, bind_of (getL_at hi), bind_of (l06Equal_eq _ _ (hx _ (List.getElem_mem hi)))]
   show (bif decide (N[i] = (⟨x.Final, x.Letters, x.Next⟩ : Node)) then _ else _ : Option _) = _
   cases decide (N[i] = x) <;> rfl
  by_cases he : N[i] = x
  ·rw [decide_eq_true he] at hst
   exact .inl ⟨i, hi, he, loopM_done hst⟩
  ·rw [decide_eq_false he] at hst
   rw [loopM_next (step := fun s : Int => m_spec_l06B_build_l2 N x.Final x.Letters x.Next s) hst]
   refine find_at N x hx hN c (i + 1) (by omega) fun j hj hlt e => ?_
   rcases Nat.lt_or_ge j i with h' | h'
   ·exact hno j hj h' e
   ·obtain rfl : j = i := by omega
    exact he e
def SpecB (n : Nat) : Prop := ∀ (f : Nat) (N : List Node) (R : List Str), n < f → InvB N → (∀ x ∈ N, x.Next.length ≤ 10000) → SortedW R → (∀ w ∈ R, w.length ≤ n ∧ ∀ c ∈ w, formB c = true) → N.length + totA R + R.length + 1 ≤ 1000000 →
 ∃ (idx : Nat) (t : List Node), m_spec_l06B_build_n f ⟨N⟩ R = some ((idx : Int), ⟨N ++ t⟩) ∧ InvB (N ++ t) ∧ (∀ x ∈ N ++ t, x.Next.length ≤ 10000) ∧ idx < (N ++ t).length ∧
  shortA (ndD (N ++ t)) (n + 1) idx ∧ langA (ndD (N ++ t)) (n + 1) idx = R ∧ t.length ≤ totA R + 1
theorem rise_len {α : Type} {G : List (UInt8 × α)} (h : RiseG G) : G.length ≤ 256 := by
 have key : ∀ (G : List (UInt8 × α)) (b : Nat), RiseG G → (∀ e ∈ G, b ≤ e.1.toNat) → G.length + b ≤ 256 ∨ G = [] := by
  intro G
  induction G with
  | nil => exact fun b _ _ => .inr rfl
  | cons e G ih =>
   intro b hr hb
   rw [RiseG, List.pairwise_cons] at hr
   left
   have hbe := hb e List.mem_cons_self
   have h256 := e.1.toNat_lt
   rcases ih (e.1.toNat + 1) hr.2 (fun x hx => by have := UInt8.lt_iff_toNat_lt.1 (hr.1 x hx); omega) with h' | h'
   ·rw [List.length_cons]; omega
   ·rw [h']; simp; omega
 rcases key G 0 h (fun _ _ => Nat.zero_le _) with h' | h'
 ·omega
 ·rw [h']; simp
theorem build_loop {m f : Nat} (ih : SpecB m) (hf : m < f) (R : List Str) (hRs : SortedW R) (hR : ∀ w ∈ R, w.length ≤ m + 1 ∧ ∀ c ∈ w, formB c = true) (hRl : R.length ≤ 1000000) :
  ∀ (c p : Nat) (N : List Node) (ls : Str) (ids : List Int), p + c = R.length → (∀ w ∈ R.drop p, w ≠ []) → InvB N → (∀ x ∈ N, x.Next.length ≤ 10000) → N.length + totA (R.drop p) + R.length + 1 ≤ 1000000 → ls.length + R.length ≤ 2000000 + p → ids.length + R.length ≤ 2000000 + p →
   ∃ (js : List Nat) (t : List Node), loopM (fun s : Str × (List Node) × (List Int) × Int => m_spec_l06B_build_l1 R (m_spec_l06B_build_n f) s.1 s.2.1 s.2.2.1 s.2.2.2) (ls, N, ids, (p : Int)) =
     some (ls ++ (grpA (R.drop p)).map (·.1), N ++ t, ids ++ js.map (fun j : Nat => (j : Int))) ∧ InvB (N ++ t) ∧ (∀ x ∈ N ++ t, x.Next.length ≤ 10000) ∧
    (grpA (R.drop p)).map (·.2) = js.map (langA (ndD (N ++ t)) (m + 1)) ∧ (∀ j ∈ js, j < (N ++ t).length ∧ shortA (ndD (N ++ t)) (m + 1) j) ∧ t.length ≤ totA (R.drop p) := by
 intro c
 induction c using Nat.strongRecOn with
 | _ c ihc =>
  intro p N ls ids hc hne hN hNx hbig hls hids
  by_cases hend : R.length ≤ p
  ·have hd : R.drop p = [] := List.drop_of_length_le hend
   refine ⟨[], [], ?_, by simpa using hN, by simpa using hNx, by rw [hd]; rfl, (fun j hj => by cases hj), Nat.zero_le _⟩
   rw [hd]
   simp only [grpA, List.map_nil, List.append_nil]
   refine loopM_done ?_
   show m_spec_l06B_build_l1 R _ ls N ids (p : Int) = _
   unfold m_spec_l06B_build_l1
   rw [decide_eq_false (by omega)]; rfl
  ·have hp : p < R.length := by omega
   have hdrop : R.drop p = R[p] :: R.drop (p + 1) := List.drop_eq_getElem_cons hp
   have hw0 : R[p] ≠ [] := hne _ (by rw [hdrop]; exact List.mem_cons_self)
   cases hRp : R[p] with
   | nil => exact absurd hRp hw0
   | cons ch u =>
    rw [hRp] at hdrop
    have hT := Tails_eq R p ch u _ hdrop hne (by omega)
    have hgr := grpA_run (R.drop (p + 1)) ch u fun w hw => hne w (by rw [hdrop]; exact List.mem_cons_of_mem _ hw)
    rw [← hdrop] at hgr
    have hTl : 1 ≤ (runT ch (R.drop p)).length := by rw [hdrop, runT_hd]; simp
    have hTle := runT_le ch (R.drop p)
    rw [List.length_drop] at hTle
    generalize hTe : runT ch (R.drop p) = T at hT hgr hTl hTle
    -- the tails
    have hsd : SortedW (R.drop p) := List.Pairwise.sublist (List.drop_sublist p R) hRs
    have hTs : SortedW T := (grp_sorted hsd).2 (ch, T) (by rw [hgr]; exact List.mem_cons_self)
    have hTm : ∀ w ∈ T, w.length ≤ m ∧ ∀ c ∈ w, formB c = true := fun w hw => by
     have h1 : ch :: w ∈ R.drop p := grp_mem (e := (ch, T)) (by rw [hgr]; exact List.mem_cons_self) w hw
     have := hR _ (List.mem_of_mem_drop h1)
     rw [List.length_cons] at this
     exact ⟨by omega, fun c hc => this.2 c (List.mem_cons_of_mem _ hc)⟩
    have htot := totA_grp (R.drop p)
    have hsplit : totA (R.drop p) = (1 * T.length + totA T) + totA (R.drop (p + T.length)) := by
     have h1 := flat_grp (R.drop p) hne
     have h2 := flat_grp ((R.drop p).drop T.length) fun w hw => hne w (List.mem_of_mem_drop hw)
     rw [hgr] at h1
     rw [flatG, List.flatMap_cons] at h1
     have h3 : (grpA ((R.drop p).drop T.length)).flatMap (fun e => e.2.map (e.1 :: ·)) = (R.drop p).drop T.length := h2
     rw [h3, List.drop_drop] at h1
     have h4 := congrArg totA h1
     unfold totA at h4
     rw [List.map_append, List.sum_append, List.map_map] at h4
     have h5 : ∀ (T : List Str), (T.map (List.length ∘ fun x => ch :: x)).sum = 1 * T.length + totA T := by
      intro T
      induction T with
      | nil => rfl
      | cons x T ihT =>
       rw [List.map_cons, List.sum_cons, ihT]
       simp only [Function.comp, List.length_cons, totA, List.map_cons, List.sum_cons]
       omega
     have h6 := h5 T
     unfold totA at h6 ⊢
     have h7 : (T.map (List.length ∘ fun x => (ch, T).1 :: x)).sum = (T.map (List.length ∘ fun x => ch :: x)).sum := rfl
     rw [h7, h6] at h4
     omega
    obtain ⟨idx, t1, hrun, hI1, hX1, hidx, hsh, hlang, htl⟩ := ih f N T hf hN hNx hTs hTm (by omega)
    have hsub : subL R[p] 0 1 = some [ch] := by
     rw [hRp, subL_of (by omega) (by omega) (by rw [List.length_cons]; omega)]; rfl
    have hstep : m_spec_l06B_build_l1 R (m_spec_l06B_build_n f) ls N ids (p : Int) = some (.inl (ls ++ [ch], N ++ t1, ids ++ [(idx : Int)], (((p + T.length : Nat)) : Int))) := by
     unfold m_spec_l06B_build_l1
     rw [decide_eq_true (show (p : Int) < (R.length : Int) by omega), cond_true, bind_of hT, bind_of (getL_at hp), bind_of hsub, bind_of (catL_of (by simp; omega)), bind_of hrun, bind_of (catL_of (by simp; omega))]
    have hdd : R.drop (p + T.length) = (R.drop p).drop T.length := by rw [List.drop_drop]
    obtain ⟨js, t2, hrun2, hI2, hX2, hg2, hj2, htl2⟩ := ihc (c - T.length) (by omega) (p + T.length) (N ++ t1) (ls ++ [ch]) (ids ++ [(idx : Int)]) (by omega)
     (fun w hw => hne w (by rw [hdd] at hw; exact List.mem_of_mem_drop hw)) hI1 hX1 (by rw [List.length_append]; omega) (by simp; omega) (by simp; omega)
    obtain ⟨_, hl, hs⟩ := hI1.ext (t := t2) (m + 1) hidx
    refine ⟨idx :: js, t1 ++ t2, ?_, by rw [← List.append_assoc]; exact hI2, by rw [← List.append_assoc]; exact hX2, ?_, fun j hj => ?_, by rw [List.length_append]; omega⟩
    ·rw [loopM_next (step := fun s : Str × (List Node) × (List Int) × Int => m_spec_l06B_build_l1 R (m_spec_l06B_build_n f) s.1 s.2.1 s.2.2.1 s.2.2.2) hstep, hrun2, hgr, hdd]
     simp [List.append_assoc]
    ·rw [hgr, ← hdd, List.map_cons, hg2, List.map_cons, ← List.append_assoc, hl, hlang]
    ·rw [← List.append_assoc]
     rcases List.mem_cons.1 hj with rfl | hj
     ·exact ⟨by rw [List.length_append]; omega, hs hsh⟩
     ·exact hj2 j hj
theorem zip_fs {α β : Type} : ∀ (G : List (α × β)), (G.map (·.1)).zip (G.map (·.2)) = G
 | [] => rfl
 | e :: G => by rw [List.map_cons, List.map_cons, List.zip_cons_cons, zip_fs G]
theorem lang_node {nd : Nat → Bool × List (UInt8 × Nat)} {n k : Nat} {b : Bool} {G : List (UInt8 × List Str)} {js : List Nat} (hk : nd k = (b, (G.map (·.1)).zip js)) (hG : G.map (·.2) = js.map (langA nd n)) :
  langA nd (n + 1) k = (if b then [[]] else []) ++ flatG G := by
 rw [langA, hk]
 congr 1
 have h1 : ((G.map (·.1)).zip js).map (fun e => (e.1, langA nd n e.2)) = G := by
  have h2 : (G.map (·.1)).zip (js.map (langA nd n)) = ((G.map (·.1)).zip js).map (Prod.map id (langA nd n)) := List.zip_map_right
  rw [← hG, zip_fs] at h2
  exact h2.symm
 conv => rhs; rw [← h1]
 unfold flatG
 rw [List.flatMap_map]
theorem build_head (R : List Str) : (bif decide (0 < (R.length : Int)) then (getL R 0).bind fun e28 => some (e28 == ([] : Str)) else some false : Option Bool) = some (hasE R) := by
 cases R with
 | nil => rfl
 | cons x R =>
  rw [decide_eq_true (show (0 : Int) < ((x :: R).length : Int) by rw [List.length_cons]; omega), cond_true]
  show ((some x).bind _) = _
  cases x <;> rfl
theorem build_step : ∀ n, SpecB n := by
 intro n
 induction n using Nat.strongRecOn with
 | _ n ihn =>
  intro f N R hf hN hNx hRs hR hbig
  obtain ⟨f, rfl⟩ : ∃ g, f = g + 1 := ⟨f - 1, by omega⟩
  show ∃ idx t, m_spec_l06B_build_b (m_spec_l06B_build_n f) ⟨N⟩ R = _ ∧ _
  unfold m_spec_l06B_build_b
  rw [build_head, Option.bind_some]
  obtain ⟨p0, hp0, hpd, hpg, hpne⟩ : ∃ p0 : Nat, (bif hasE R then some (true, 1) else some (false, 0) : Option (Bool × Int)) = some (hasE R, (p0 : Int)) ∧ p0 ≤ R.length ∧ grpA (R.drop p0) = grpA R ∧ ∀ w ∈ R.drop p0, w ≠ [] := by
   cases R with
   | nil => exact ⟨0, rfl, Nat.le_refl _, rfl, fun w hw => by cases hw⟩
   | cons x R =>
    cases x with
    | nil => exact ⟨1, rfl, by simp, by rw [List.drop_succ_cons, List.drop_zero, grpA], fun w hw => sorted_tail hRs w (by simpa using hw)⟩
    | cons c u => exact ⟨0, rfl, Nat.zero_le _, rfl, fun w hw => by
      rw [List.drop_zero] at hw
      rcases List.mem_cons.1 hw with rfl | hw
      ·simp
      ·exact sorted_tail hRs w hw⟩
  rw [hp0, Option.bind_some]
  have htd : totA (R.drop p0) ≤ totA R := by
   unfold totA
   have h1 : R = R.take p0 ++ R.drop p0 := (List.take_append_drop p0 R).symm
   have h2 := congrArg (fun l => (List.map List.length l).sum) h1
   simp only [List.map_append, List.sum_append] at h2
   omega
  -- the loop over the groups
  obtain ⟨js, t, hloop, hI, hX, hg, hj, htl⟩ : ∃ (js : List Nat) (t : List Node), loopM (fun s : Str × (List Node) × (List Int) × Int => m_spec_l06B_build_l1 R (m_spec_l06B_build_n f) s.1 s.2.1 s.2.2.1 s.2.2.2) (([] : Str), N, ([] : List Int), (p0 : Int)) =
     some ((grpA R).map (·.1), N ++ t, js.map (fun j : Nat => (j : Int))) ∧ InvB (N ++ t) ∧ (∀ x ∈ N ++ t, x.Next.length ≤ 10000) ∧
    (grpA R).map (·.2) = js.map (langA (ndD (N ++ t)) n) ∧ (∀ j ∈ js, j < (N ++ t).length ∧ shortA (ndD (N ++ t)) n j) ∧ t.length ≤ totA R := by
   cases n with
   | zero =>
    have hdn : R.drop p0 = [] := by
     cases hd : R.drop p0 with
     | nil => rfl
     | cons w L =>
      have h1 := hpne w (by rw [hd]; exact List.mem_cons_self)
      have h2 := (hR w (List.mem_of_mem_drop (by rw [hd]; exact List.mem_cons_self))).1
      exact absurd (List.eq_nil_of_length_eq_zero (by omega)) h1
    have hgn : grpA R = [] := by rw [← hpg, hdn]; rfl
    refine ⟨[], [], ?_, by simpa using hN, by simpa using hNx, by rw [hgn]; rfl, (fun j hj => by cases hj), Nat.zero_le _⟩
    rw [hgn]
    refine loopM_done ?_
    show m_spec_l06B_build_l1 R _ [] N [] (p0 : Int) = _
    unfold m_spec_l06B_build_l1
    have : R.length ≤ p0 := by
     have := congrArg List.length hdn
     rw [List.length_drop, List.length_nil] at this
     omega
    rw [decide_eq_false (by omega)]
    simp
   | succ m =>
    have hRl : R.length ≤ 1000000 := by omega
    obtain ⟨js, t, h1, h2, h3, h4, h5, h6⟩ := build_loop (ihn m (Nat.lt_succ_self m)) (show m < f by omega) R hRs hR hRl (R.length - p0) p0 N [] [] (by omega) hpne hN hNx (by omega) (by simp; omega) (by simp; omega)
    rw [hpg] at h1 h4
    simp only [List.nil_append] at h1
    exact ⟨js, t, h1, h2, h3, h4, h5, by omega⟩
  have hloop' : ((loopM (fun s : Str × (List Node) × (List Int) × Int => m_spec_l06B_build_l1 R (m_spec_l06B_build_n f) s.1 s.2.1 s.2.2.1 s.2.2.2) (([] : Str), N, ([] : List Int), (p0 : Int))).bind fun x76 => match x76 with | (s68, xs70, xs73) => some (s68, xs73, xs70)) = some ((grpA R).map (·.1), js.map (fun j : Nat => (j : Int)), N ++ t) := by
   rw [bind_of hloop]
  show ∃ idx t, (((loopM (fun s : Str × (List Node) × (List Int) × Int => m_spec_l06B_build_l1 R (m_spec_l06B_build_n f) s.1 s.2.1 s.2.2.1 s.2.2.2) (([] : Str), N, ([] : List Int), (p0 : Int))).bind fun x76 => match x76 with | (s68, xs70, xs73) => some (s68, xs73, xs70)).bind _) = _ ∧ _
  rw [bind_of hloop']
  -- the node
  have hrise := (grp_sorted hRs).1
  have hGl := rise_len hrise
  have hjl : js.length = (grpA R).length := by
   have := congrArg List.length hg
   rw [List.length_map, List.length_map] at this
   exact this.symm
  have hx : NodeOk (N ++ t).length (⟨hasE R, (grpA R).map (·.1), js.map (fun j : Nat => (j : Int))⟩ : Node) := by
   refine ⟨by simp [hjl], fun c hc => ?_, fun i hi => ?_, fun q hq => ?_⟩
   ·obtain ⟨e, he, rfl⟩ := List.mem_map.1 hc
    obtain ⟨w, hw⟩ := List.exists_mem_of_ne_nil _ (grp_ne R e he)
    exact (hR _ (grp_mem he w hw)).2 _ List.mem_cons_self
   ·have hi' : i + 1 < (grpA R).length := by simpa using hi
    have := List.pairwise_iff_getElem.1 hrise i (i + 1) (by omega) hi' (by omega)
    simpa using this
   ·obtain ⟨j, hj', rfl⟩ := List.mem_map.1 hq
    have := (hj j hj').1
    exact ⟨by omega, by omega⟩
  have hndx : ndN (⟨hasE R, (grpA R).map (·.1), js.map (fun j : Nat => (j : Int))⟩ : Node) = (hasE R, ((grpA R).map (·.1)).zip js) := by
   unfold ndN
   have : (js.map (fun j : Nat => (j : Int))).map Int.toNat = js := by
    rw [List.map_map]
    refine (List.map_congr_left fun j _ => ?_).trans (List.map_id _)
    simp
   simp only [this]
  generalize hxx : (⟨hasE R, (grpA R).map (·.1), js.map (fun j : Nat => (j : Int))⟩ : Node) = x at hx hndx
  have hxn : x.Next.length ≤ 256 := by rw [← hxx]; simp; omega
  have hsp := sorted_split hRs
  have hedge : ∀ e ∈ (ndN x).2, e.2 ∈ js := fun e he => by
   rw [hndx] at he
   exact (List.of_mem_zip (he : (e.1, e.2) ∈ _)).2
  have hfind := find_at (N ++ t) x (fun y hy => Nat.le_trans (hX y hy) (by omega)) (by rw [List.length_append]; omega) (N ++ t).length 0 (by omega) (fun j hj h0 => by omega)
  have hxf : x.Final = hasE R ∧ x.Letters = (grpA R).map (·.1) ∧ x.Next = js.map (fun j : Nat => (j : Int)) := by rw [← hxx]; exact ⟨rfl, rfl, rfl⟩
  rw [hxf.1, hxf.2.1, hxf.2.2] at hfind
  rcases hfind with ⟨j, hjlt, hjx, hfl⟩ | ⟨hnot, hfl⟩
  ·have hfl' : loopM (fun s : Int => m_spec_l06B_build_l2 (N ++ t) (hasE R) ((grpA R).map (·.1)) (js.map (fun j : Nat => (j : Int))) s) 0 = some (.inr ((j : Int), (⟨N ++ t⟩ : l06B))) := hfl
   refine ⟨j, t, ?_, hI, hX, hjlt, ?_, ?_, by omega⟩
   ·show ((((loopM (fun s : Int => m_spec_l06B_build_l2 (N ++ t) (hasE R) ((grpA R).map (·.1)) (js.map (fun j : Nat => (j : Int))) s) 0).bind _).bind _)) = _
    rw [bind_of hfl']
    rfl
   ·intro e he
    rw [ndD_at hjlt, hjx] at he
    exact (hj _ (hedge e he)).2
   ·rw [lang_node (b := hasE R) (G := grpA R) (js := js) (by rw [ndD_at hjlt, hjx, hndx]) hg]
    exact hsp.symm
  ·have hfl' : loopM (fun s : Int => m_spec_l06B_build_l2 (N ++ t) (hasE R) ((grpA R).map (·.1)) (js.map (fun j : Nat => (j : Int))) s) 0 = some (.inl ()) := hfl
   have hlt : (N ++ t).length < (N ++ t ++ [x]).length := by rw [List.length_append (bs := [x])]; simp
   have hlast : ndD (N ++ t ++ [x]) (N ++ t).length = ndN x := by
    rw [ndD_at hlt, List.getElem_append_right (Nat.le_refl _)]; simp
   have hext : ∀ j ∈ js, langA (ndD (N ++ t ++ [x])) n j = langA (ndD (N ++ t)) n j ∧ shortA (ndD (N ++ t ++ [x])) n j := fun j hj' => by
    obtain ⟨_, h2, h3⟩ := hI.ext (t := [x]) n (hj j hj').1
    exact ⟨h2, h3 (hj j hj').2⟩
   have hg2 : (grpA R).map (·.2) = js.map (langA (ndD (N ++ t ++ [x])) n) := by
    rw [hg]
    exact List.map_congr_left fun j hj' => (hext j hj').1.symm
   refine ⟨(N ++ t).length, t ++ [x], ?_, ?_, ?_, ?_, ?_, ?_, ?_⟩
   ·show ((((loopM (fun s : Int => m_spec_l06B_build_l2 (N ++ t) (hasE R) ((grpA R).map (·.1)) (js.map (fun j : Nat => (j : Int))) s) 0).bind _).bind _)) = _
    rw [bind_of hfl']
    show ((catL (N ++ t) [(⟨hasE R, (grpA R).map (·.1), js.map (fun j : Nat => (j : Int))⟩ : Node)]).bind _) = _
    rw [hxx, catL_of (by rw [List.length_append, List.length_singleton]; omega), Option.bind_some]
    have : chk (((N ++ t ++ [x]).length : Int) - 1) = some ((N ++ t).length : Int) := chk_to _ (by rw [List.length_append (bs := [x])]; simp) (by omega) (by rw [List.length_append]; omega)
    rw [bind_of this, List.append_assoc]
   ·rw [← List.append_assoc]
    refine ⟨fun j hjl' => ?_, ?_, fun k e he => ?_⟩
    ·rcases Nat.lt_or_ge j (N ++ t).length with h' | h'
     ·rw [List.getElem_append_left h']; exact hI.node j h'
     ·have hjj : j = (N ++ t).length := by rw [List.length_append (bs := [x]), List.length_singleton] at hjl'; omega
      subst hjj
      rw [List.getElem_append_right (Nat.le_refl _)]
      simp only [Nat.sub_self, List.getElem_cons_zero]
      exact hx
    ·rw [List.nodup_append]
     exact ⟨hI.dist, by simp, fun a ha b hb => by rw [List.mem_singleton] at hb; subst hb; rintro rfl; exact hnot ha⟩
    ·rcases Nat.lt_or_ge k (N ++ t).length with h' | h'
     ·rw [ndD_app h'] at he
      obtain ⟨h, h1, h2⟩ := hI.use k e he
      obtain ⟨_, h3, h4⟩ := hI.ext (t := [x]) h (Nat.lt_trans (hI.edge_lt e he).1 h')
      exact ⟨h, h4 h1, by rw [h3]; exact h2⟩
     ·have hk : k < (N ++ t ++ [x]).length := by
       rcases Nat.lt_or_ge k (N ++ t ++ [x]).length with h1 | h1
       ·exact h1
       ·rw [ndD_none h1] at he; cases he
      have hkk : k = (N ++ t).length := by rw [List.length_append (bs := [x]), List.length_singleton] at hk; omega
      subst hkk
      rw [hlast] at he
      have hin := hedge e he
      refine ⟨n, (hext _ hin).2, ?_⟩
      have hmem : langA (ndD (N ++ t ++ [x])) n e.2 ∈ (grpA R).map (·.2) := by
       rw [hg2]; exact List.mem_map.2 ⟨_, hin, rfl⟩
      obtain ⟨g, hg', hge⟩ := List.mem_map.1 hmem
      rw [← hge]
      exact grp_ne R g hg'
   ·rw [← List.append_assoc]
    intro y hy
    rcases List.mem_append.1 hy with hy | hy
    ·exact hX y hy
    ·rw [List.mem_singleton] at hy; subst hy; omega
   ·rw [← List.append_assoc]; exact hlt
   ·rw [← List.append_assoc]
    intro e he
    rw [hlast] at he
    exact (hext _ (hedge e he)).2
   ·rw [← List.append_assoc, lang_node (b := hasE R) (G := grpA R) (js := js) (by rw [hlast, hndx]) hg2]
    exact hsp.symm
   ·rw [List.length_append, List.length_singleton]; omega
end
section
section
variable {σ : Type} [DecidableEq σ] {nd : σ → Bool × List (UInt8 × σ)}
omit [DecidableEq σ] in
theorem DoneA.child {n : Nat} {k : σ} {K : List σ} (h : shortA nd (n + 1) k) (hD : DoneA nd (n + 1) k K) : ∀ e ∈ (nd k).2, DoneA nd n e.2 (K ++ [k]) := fun e he j hj hjp m i hi => by
 rcases List.mem_append.1 hj with hj | hj
 ·refine List.mem_append_left _ (hD j hj ?_ m i hi)
  rw [preA]
  exact List.mem_cons_of_mem _ (List.mem_flatMap.2 ⟨e, he, hjp⟩)
 ·rw [List.mem_singleton] at hj
  subst hj
  exact absurd hjp (preA_acyc nd h e he n)
theorem DoneA.add {n : Nat} {x y : σ} {K : List σ} (hs : shortA nd n x) (hD : DoneA nd n y K) : DoneA nd n y (ddA K (preA nd n x)) := fun j hj hjp m i hi => by
 rw [mem_ddA] at hj ⊢
 rcases hj with hj | hj
 ·exact .inl (hD j hj hjp m i hi)
 ·exact .inr (preA_sub nd hs hj hi)
theorem dfsA_in {n : Nat} {k : σ} {K : List σ} (h : k ∈ K) : dfsA nd n k K = K := by
 cases n with
 | zero => rfl
 | succ n => rw [dfsA, if_pos h]
end
def headN (N : List Node) (k : Nat) : Node := match N[k]? with | some x => ⟨x.Final, x.Letters, []⟩ | none => ⟨false, [], []⟩
structure RSt (N : List Node) (K : List Nat) (place : List Int) (out : List Node) : Prop where
 len : place.length = N.length
 at_ : ∀ j, j < N.length → place.getD j 0 = if j ∈ K then (K.idxOf j : Int) else -1
 out : out = K.map (headN N)
 lt : ∀ k ∈ K, k < N.length
 nd : K.Nodup
theorem nodup_len : ∀ {n : Nat} {K : List Nat} (_ : ∀ k ∈ K, k < n) (_ : K.Nodup), K.length ≤ n
 | 0, K, h, _ => by
  cases K with
  | nil => exact Nat.le_refl _
  | cons k K => exact absurd (h k List.mem_cons_self) (by omega)
 | n + 1, K, h, hn => by
  have h1 : ∀ k ∈ K.erase n, k < n := fun k hk => by
   have h2 := (List.Nodup.mem_erase_iff hn).1 hk
   have := h k h2.2
   have := h2.1
   omega
  have h2 := nodup_len h1 (hn.erase n)
  have h3 : K.length ≤ (K.erase n).length + 1 := by
   rw [List.length_erase]
   split <;> omega
  omega
theorem idxOf_snoc {α : Type} [DecidableEq α] {K : List α} {k : α} (h : k ∉ K) (j : α) : (K ++ [k]).idxOf j = if j ∈ K then K.idxOf j else if j = k then K.length else K.length + 1 := by
 rw [List.idxOf_append]
 by_cases hj : j ∈ K
 ·rw [if_pos hj, if_pos hj]
 ·rw [if_neg hj, if_neg hj]
  by_cases hjk : j = k
  ·subst hjk; simp
  ·have : (k == j) = false := by simpa using fun e => hjk e.symm
   rw [if_neg hjk, List.idxOf_cons, this]; simp; omega
theorem RSt.add {N : List Node} {K : List Nat} {place : List Int} {out : List Node} (h : RSt N K place out) {k : Nat} (hk : k < N.length) (hn : k ∉ K) :
  RSt N (K ++ [k]) (place.set k (K.length : Int)) (out ++ [headN N k]) := by
 refine ⟨by rw [List.length_set]; exact h.len, fun j hj => ?_, by rw [h.out, List.map_append]; rfl, fun j hj => ?_, ?_⟩
 ·rw [getD_put (by rw [h.len]; exact hk), idxOf_snoc hn]
  by_cases hjk : j = k
  ·subst hjk; rw [if_pos rfl, if_pos (by simp), if_neg hn, if_pos rfl]
  ·rw [if_neg hjk, h.at_ j hj]
   by_cases hjK : j ∈ K
   ·rw [if_pos hjK, if_pos (List.mem_append_left _ hjK), if_pos hjK]
   ·rw [if_neg hjK, if_neg (by rw [List.mem_append, List.mem_singleton]; exact fun h' => h'.elim hjK hjk)]
 ·rcases List.mem_append.1 hj with hj | hj
  ·exact h.lt j hj
  ·rw [List.mem_singleton] at hj; omega
 ·rw [List.nodup_append]
  exact ⟨h.nd, by simp, fun a ha b hb => by rw [List.mem_singleton] at hb; subst hb; rintro rfl; exact hn ha⟩
def SpecR (N : List Node) (n : Nat) : Prop := ∀ (f : Nat) (K : List Nat) (place : List Int) (out : List Node) (k : Nat), n ≤ f → shortA (ndD N) n k → k < N.length → k ∉ K → DoneA (ndD N) n k K → RSt N K place out →
 ∃ place' out', m_spec_l06R_visit_n f ⟨N, place, out⟩ (k : Int) = some ⟨N, place', out'⟩ ∧ RSt N (dfsA (ndD N) n k K) place' out'
theorem visitR_loop {N : List Node} (hN : InvB N) (hX : ∀ x ∈ N, x.Next.length ≤ 10000) {n f : Nat} (ih : SpecR N n) (hf : n ≤ f) {k : Nat} (hk : k < N.length) (hs : shortA (ndD N) (n + 1) k) (r : l06R) (hr : r.old = N) :
  ∀ (c i : Nat) (K : List Nat) (place : List Int) (out : List Node), i + c = N[k].Next.length → (∀ e ∈ (ndD N k).2, DoneA (ndD N) n e.2 K) → RSt N K place out →
   ∃ place' out', loopM (fun s : (List Int) × (List Node) × Int => m_spec_l06R_visit_l1 r (k : Int) (m_spec_l06R_visit_n f) s.1 s.2.1 s.2.2) (place, out, (i : Int)) = some (place', out') ∧
    RSt N (((ndD N k).2.drop i).foldl (fun K e => dfsA (ndD N) n e.2 K) K) place' out'
 | 0, i, K, place, out, hc, hD, hR => by
  have hx := hN.node k hk
  have hdrop : (ndD N k).2.drop i = [] := by
   rw [ndD_at hk]; exact List.drop_of_length_le (by rw [hx.edges_len]; omega)
  refine ⟨place, out, loopM_done ?_, by rw [hdrop]; exact hR⟩
  show m_spec_l06R_visit_l1 r (k : Int) _ place out (i : Int) = _
  unfold m_spec_l06R_visit_l1
  rw [hr, bind_of (getL_at hk), decide_eq_false (by omega)]; rfl
 | c + 1, i, K, place, out, hc, hD, hR => by
  have hx := hN.node k hk
  have hxl := hX _ (List.getElem_mem hk)
  have hi : i < N[k].Next.length := by omega
  have hnn := (hx.next _ (List.getElem_mem hi))
  obtain ⟨t, ht⟩ : ∃ t : Nat, N[k].Next[i] = (t : Int) := ⟨N[k].Next[i].toNat, by omega⟩
  have htl : t < N.length := by omega
  have hedge : (ndD N k).2[i]? = some (N[k].Letters[i]'(by rw [hx.len]; exact hi), t) := by
   rw [ndD_at hk, hx.edge hi, ht, Int.toNat_natCast]
  obtain ⟨h2, h3⟩ := List.getElem?_eq_some_iff.1 hedge
  have hdrop : (ndD N k).2.drop i = (N[k].Letters[i]'(by rw [hx.len]; exact hi), t) :: (ndD N k).2.drop (i + 1) := by
   rw [List.drop_eq_getElem_cons h2, h3]
  have hmem : (N[k].Letters[i]'(by rw [hx.len]; exact hi), t) ∈ (ndD N k).2 := List.mem_of_getElem? hedge
  have hst : shortA (ndD N) n t := hs _ hmem
  have hpt : getL place (t : Int) = some (place.getD t 0) := getL_gd 0 (by rw [hR.len]; exact htl)
  -- one child
  obtain ⟨place1, out1, hchild, hR1⟩ : ∃ place1 out1, (bif decide (place.getD t 0 < 0) then (m_spec_l06R_visit_n f (⟨r.old, place, out⟩ : l06R) (t : Int)).bind fun y137 => some (y137.place, y137.out) else some (place, out) : Option ((List Int) × (List Node))) = some (place1, out1) ∧ RSt N (dfsA (ndD N) n t K) place1 out1 := by
   rw [hR.at_ t htl]
   by_cases htK : t ∈ K
   ·rw [if_pos htK, decide_eq_false (by omega), cond_false]
    exact ⟨place, out, rfl, by rw [dfsA_in htK]; exact hR⟩
   ·rw [if_neg htK, decide_eq_true (by omega), cond_true, hr]
    obtain ⟨p1, o1, h1, h2⟩ := ih f K place out t hf hst htl htK (hD _ hmem) hR
    exact ⟨p1, o1, by rw [bind_of h1], h2⟩
  have hstep : m_spec_l06R_visit_l1 r (k : Int) (m_spec_l06R_visit_n f) place out (i : Int) = some (.inl (place1, out1, (((i + 1 : Nat)) : Int))) := by
   unfold m_spec_l06R_visit_l1
   rw [chk_succ (show i ≤ 8000000000000000000 by omega)]
   have hg : getL r.old (k : Int) = some N[k] := by rw [hr]; exact getL_at hk
   rw [bind_of hg, decide_eq_true (show (i : Int) < (N[k].Next.length : Int) by omega), cond_true, bind_of hg, bind_of (getL_at hi), ht, bind_of hpt, hchild]
   rfl
  obtain ⟨p2, o2, hrec, hR2⟩ := visitR_loop hN hX ih hf hk hs r hr c (i + 1) _ place1 out1 (by omega) (fun e he => by
   rw [dfsA_eq (ndD N) hst (hD _ hmem)]
   exact DoneA.add hst (hD e he)) hR1
  refine ⟨p2, o2, ?_, by rw [hdrop]; exact hR2⟩
  rw [loopM_next (step := fun s : (List Int) × (List Node) × Int => m_spec_l06R_visit_l1 r (k : Int) (m_spec_l06R_visit_n f) s.1 s.2.1 s.2.2) hstep]
  exact hrec
theorem visitR_step {N : List Node} (hN : InvB N) (hX : ∀ x ∈ N, x.Next.length ≤ 10000) (hNl : N.length ≤ 2000000) : ∀ n, SpecR N n
 | 0 => fun f K place out k hf hs => hs.elim
 | n + 1 => fun f K place out k hf hs hk hnK hD hR => by
  obtain ⟨f, rfl⟩ : ∃ g, f = g + 1 := ⟨f - 1, by omega⟩
  show ∃ place' out', m_spec_l06R_visit_b (m_spec_l06R_visit_n f) ⟨N, place, out⟩ (k : Int) = _ ∧ _
  unfold m_spec_l06R_visit_b
  have hkp : k < place.length := by rw [hR.len]; exact hk
  have hol : out.length = K.length := by rw [hR.out, List.length_map]
  have hKl := nodup_len hR.lt hR.nd
  have hadd := hR.add hk hnK
  have hhd : headN N k = (⟨N[k].Final, N[k].Letters, ([] : List Int)⟩ : Node) := by unfold headN; rw [List.getElem?_eq_getElem hk]
  show ∃ place' out', ((getL place (k : Int)).bind _) = _ ∧ _
  rw [bind_of (getL_gd 0 hkp)]
  show ∃ place' out', ((setL place (k : Int) (out.length : Int)).bind _) = _ ∧ _
  rw [bind_of (setL_of hkp)]
  show ∃ place' out', ((getL N (k : Int)).bind _) = _ ∧ _
  rw [bind_of (getL_at hk)]
  show ∃ place' out', ((getL N (k : Int)).bind _) = _ ∧ _
  rw [bind_of (getL_at hk), ← hhd]
  show ∃ place' out', ((catL out [headN N k]).bind _) = _ ∧ _
  rw [catL_of (by simp; omega), Option.bind_some, hol]
  obtain ⟨p2, o2, hrun, hR2⟩ := visitR_loop (n := n) (f := f) hN hX (visitR_step hN hX hNl n) (by omega) hk hs ⟨N, place, out⟩ rfl N[k].Next.length 0 (K ++ [k]) _ _ (by omega) (DoneA.child hs hD) hadd
  have hrun' : loopM (fun s : (List Int) × (List Node) × Int => m_spec_l06R_visit_l1 ⟨N, place, out⟩ (k : Int) (m_spec_l06R_visit_n f) s.1 s.2.1 s.2.2) (place.set k (K.length : Int), out ++ [headN N k], 0) = some (p2, o2) := hrun
  rw [bind_of hrun']
  refine ⟨p2, o2, rfl, ?_⟩
  rw [dfsA, if_neg hnK]
  rw [List.drop_zero] at hR2
  exact hR2
/-! the successors -/
def fullN (N : List Node) (K : List Nat) (k : Nat) : Node := match N[k]? with | some x => ⟨x.Final, x.Letters, x.Next.map fun t => (K.idxOf t.toNat : Int)⟩ | none => ⟨false, [], []⟩
theorem map_set_idx {α β : Type} [DecidableEq α] (g : α → β) : ∀ {K : List α} {k : α} (v : β), K.Nodup → k ∈ K → (K.map g).set (K.idxOf k) v = K.map fun j => if j = k then v else g j
 | [], k, v, _, h => by cases h
 | x :: K, k, v, hn, h => by
  rw [List.nodup_cons] at hn
  by_cases hx : x = k
  ·subst hx
   rw [List.map_cons, List.map_cons, if_pos rfl]
   have : (x :: K).idxOf x = 0 := by simp
   rw [this, List.set_cons_zero]
   congr 1
   exact List.map_congr_left fun j hj => by rw [if_neg (show ¬ j = x from fun e => hn.1 (e ▸ hj))]
  ·have hb : (x == k) = false := by simpa using hx
   rw [List.map_cons, List.map_cons, if_neg hx, List.idxOf_cons, hb]
   simp only [cond_false, List.set_cons_succ]
   rw [map_set_idx g v hn.2 ((List.mem_cons.1 h).resolve_left fun e => hx e.symm)]
theorem num_inner {N : List Node} (hN : InvB N) (hX : ∀ x ∈ N, x.Next.length ≤ 10000) {K : List Nat} {place : List Int} {out : List Node} (hR : RSt N K place out) (hcl : ∀ k ∈ K, ∀ e ∈ (ndD N k).2, e.2 ∈ K) {k : Nat} (hk : k < N.length) (hkK : k ∈ K) (g : Nat → Node) :
  ∀ (c i : Nat), i + c = N[k].Next.length →
   loopM (fun s : List Node × Int => m_spec_l06Number_l3 N place (k : Int) (K.idxOf k : Int) s.1 s.2) (K.map (fun j => if j = k then ⟨N[k].Final, N[k].Letters, (N[k].Next.take i).map fun t => (K.idxOf t.toNat : Int)⟩ else g j), (i : Int)) =
    some (K.map fun j => if j = k then fullN N K k else g j)
 | 0, i, hc => by
  refine loopM_done ?_
  show m_spec_l06Number_l3 N place (k : Int) _ _ (i : Int) = _
  unfold m_spec_l06Number_l3
  rw [bind_of (getL_at hk), decide_eq_false (by omega), cond_false]
  have : fullN N K k = (⟨N[k].Final, N[k].Letters, (N[k].Next.take i).map fun t => (K.idxOf t.toNat : Int)⟩ : Node) := by
   unfold fullN; rw [List.getElem?_eq_getElem hk, List.take_of_length_le (by omega)]
  rw [this]
 | c + 1, i, hc => by
  have hx := hN.node k hk
  have hxl := hX _ (List.getElem_mem hk)
  have hi : i < N[k].Next.length := by omega
  have hnn := (hx.next _ (List.getElem_mem hi))
  obtain ⟨t, ht⟩ : ∃ t : Nat, N[k].Next[i] = (t : Int) := ⟨N[k].Next[i].toNat, by omega⟩
  have htl : t < N.length := by omega
  have hedge : (N[k].Letters[i]'(by rw [hx.len]; exact hi), t) ∈ (ndD N k).2 := by
   have := hx.edge hi
   rw [ht, Int.toNat_natCast] at this
   rw [ndD_at hk]
   exact List.mem_of_getElem? this
  have htK := hcl k hkK _ hedge
  have hidx : K.idxOf k < K.length := List.idxOf_lt_length_of_mem hkK
  have hpt : getL place (t : Int) = some (K.idxOf t : Int) := by
   rw [getL_gd 0 (by rw [hR.len]; exact htl), hR.at_ t htl, if_pos htK]
  have hat : ∀ (h : Nat → Node), getL (K.map h) (K.idxOf k : Int) = some (h k) := fun h => by
   rw [getL_at (by rw [List.length_map]; exact hidx), List.getElem_map, List.getElem_idxOf hidx]
  have hstep : m_spec_l06Number_l3 N place (k : Int) (K.idxOf k : Int) (K.map (fun j => if j = k then ⟨N[k].Final, N[k].Letters, (N[k].Next.take i).map fun t => (K.idxOf t.toNat : Int)⟩ else g j)) (i : Int) =
    some (.inl (K.map (fun j => if j = k then ⟨N[k].Final, N[k].Letters, (N[k].Next.take (i + 1)).map fun t => (K.idxOf t.toNat : Int)⟩ else g j), (((i + 1 : Nat)) : Int))) := by
   unfold m_spec_l06Number_l3
   rw [chk_succ (show i ≤ 8000000000000000000 by omega), bind_of (getL_at hk), decide_eq_true (show (i : Int) < (N[k].Next.length : Int) by omega), cond_true, bind_of (hat _), if_pos rfl, bind_of (getL_at hk), bind_of (getL_at hi), ht, bind_of hpt]
   show ((catL ((N[k].Next.take i).map fun t => (K.idxOf t.toNat : Int)) [(K.idxOf t : Int)]).bind _) = _
   rw [catL_of (by rw [List.length_map, List.length_take, List.length_singleton]; omega), Option.bind_some]
   rw [setL_of (by rw [List.length_map]; exact hidx), Option.bind_some, Option.bind_some, map_set_idx _ _ hR.nd hkK]
   congr 3
   refine List.map_congr_left fun j hj => ?_
   by_cases hjk : j = k
   ·rw [if_pos hjk, if_pos hjk, List.take_add_one, List.getElem?_eq_getElem hi, ht, List.map_append]
    rfl
   ·rw [if_neg hjk, if_neg hjk, if_neg hjk]
  rw [loopM_next (step := fun s : List Node × Int => m_spec_l06Number_l3 N place (k : Int) (K.idxOf k : Int) s.1 s.2) hstep]
  exact num_inner hN hX hR hcl hk hkK g c (i + 1) (by omega)
theorem num_outer {N : List Node} (hN : InvB N) (hX : ∀ x ∈ N, x.Next.length ≤ 10000) (hNl : N.length ≤ 2000000) {K : List Nat} {place : List Int} {out : List Node} (hR : RSt N K place out) (hcl : ∀ k ∈ K, ∀ e ∈ (ndD N k).2, e.2 ∈ K) :
  ∀ (c k : Nat), k + c = N.length →
   loopM (fun s : List Node × Int => m_spec_l06Number_l2 N place s.1 s.2) (K.map (fun j => if j < k then fullN N K j else headN N j), (k : Int)) = some (K.map (fullN N K))
 | 0, k, hc => by
  refine loopM_done ?_
  show m_spec_l06Number_l2 N place _ (k : Int) = _
  unfold m_spec_l06Number_l2
  rw [decide_eq_false (by omega), cond_false]
  congr 2
  exact List.map_congr_left fun j hj => by rw [if_pos (by have := hR.lt j hj; omega)]
 | c + 1, k, hc => by
  have hk : k < N.length := by omega
  have hstep : m_spec_l06Number_l2 N place (K.map (fun j => if j < k then fullN N K j else headN N j)) (k : Int) =
    some (.inl (K.map (fun j => if j < k + 1 then fullN N K j else headN N j), (((k + 1 : Nat)) : Int))) := by
   unfold m_spec_l06Number_l2
   rw [chk_succ (show k ≤ 8000000000000000000 by omega), decide_eq_true (show (k : Int) < (N.length : Int) by omega), cond_true, bind_of (getL_gd 0 (by rw [hR.len]; exact hk)), hR.at_ k hk]
   by_cases hkK : k ∈ K
   ·rw [if_pos hkK, decide_eq_false (by omega), cond_false]
    have h1 := num_inner hN hX hR hcl hk hkK (fun j => if j < k then fullN N K j else headN N j) N[k].Next.length 0 (by omega)
    have e1 : (K.map (fun j => if j < k then fullN N K j else headN N j)) = K.map (fun j => if j = k then ⟨N[k].Final, N[k].Letters, (N[k].Next.take 0).map fun t => (K.idxOf t.toNat : Int)⟩ else if j < k then fullN N K j else headN N j) := by
     refine List.map_congr_left fun j hj => ?_
     by_cases hjk : j = k
     ·subst hjk
      rw [if_neg (Nat.lt_irrefl _), if_pos rfl]
      unfold headN
      rw [List.getElem?_eq_getElem hk]; rfl
     ·rw [if_neg hjk]
    rw [← e1] at h1
    rw [show ((0 : Nat) : Int) = 0 from rfl] at h1
    rw [bind_of h1, Option.bind_some]
    congr 3
    refine List.map_congr_left fun j hj => ?_
    by_cases hjk : j = k
    ·subst hjk; rw [if_pos rfl, if_pos (Nat.lt_succ_self _)]
    ·rw [if_neg hjk]
     by_cases hlt : j < k
     ·rw [if_pos hlt, if_pos (by omega)]
     ·rw [if_neg hlt, if_neg (by omega)]
   ·rw [if_neg hkK, decide_eq_true (by omega), cond_true, Option.bind_some, Option.bind_some]
    congr 3
    refine List.map_congr_left fun j hj => ?_
    have hjk : j ≠ k := fun e => hkK (e ▸ hj)
    by_cases hlt : j < k
    ·rw [if_pos hlt, if_pos (by omega)]
    ·rw [if_neg hlt, if_neg (by omega)]
  rw [loopM_next (step := fun s : List Node × Int => m_spec_l06Number_l2 N place s.1 s.2) hstep]
  exact num_outer hN hX hNl hR hcl c (k + 1) (by omega)
theorem num_first (N : List Node) (hNl : N.length ≤ 2000000) : loopM (fun s : (List Int) × Int => m_spec_l06Number_l1 N s.1 s.2) (([] : (List Int)), 0) = some (List.replicate N.length (-1)) := by
 have := loop_run (step := fun s : (List Int) × Int => m_spec_l06Number_l1 N s.1 s.2) (fun i => (List.replicate i (-1 : Int), ((i : Nat) : Int))) N.length (List.replicate N.length (-1)) (fun i hi => by
  show m_spec_l06Number_l1 N (List.replicate i (-1)) (i : Int) = _
  unfold m_spec_l06Number_l1
  rw [chk_succ (show i ≤ 8000000000000000000 by omega), decide_eq_true (show (i : Int) < (N.length : Int) by omega), cond_true, catL_of (by simp; omega), Option.bind_some, Option.bind_some]
  congr 3
  exact (List.replicate_succ' (n := i) (a := (-1 : Int))).symm) (by
  show m_spec_l06Number_l1 N _ (N.length : Int) = _
  unfold m_spec_l06Number_l1
  rw [decide_eq_false (by omega)]; rfl) 0 (Nat.zero_le _)
 exact this
theorem Number_eq {N : List Node} (hN : InvB N) (hX : ∀ x ∈ N, x.Next.length ≤ 10000) (hNl : N.length ≤ 2000000) {n root : Nat} (hn : n ≤ 1000) (hr : root < N.length) (hs : shortA (ndD N) n root) :
  m_spec_l06Number N (root : Int) = some ((ddA [] (preA (ndD N) n root)).map (fullN N (ddA [] (preA (ndD N) n root)))) := by
 unfold m_spec_l06Number
 rw [num_first N hNl, Option.bind_some, Option.bind_some]
 have hR0 : RSt N [] (List.replicate N.length (-1)) [] :=
  ⟨List.length_replicate, (fun j hj => by rw [List.getD_eq_getElem?_getD, List.getElem?_replicate, if_pos hj]; rfl), rfl, (fun k hk => by cases hk), List.nodup_nil⟩
 obtain ⟨place, out, hrun, hR⟩ := visitR_step hN hX hNl n fuelN [] _ _ root (by show n ≤ 100000; omega) hs hr (by simp) (fun j hj => by cases hj) hR0
 rw [dfsA_eq (ndD N) hs (fun j hj => by cases hj)] at hR
 have hrun' : m_spec_l06R_visit (⟨N, List.replicate N.length (-1), []⟩ : l06R) (root : Int) = some ⟨N, place, out⟩ := hrun
 show ((m_spec_l06R_visit (⟨N, List.replicate N.length (-1), []⟩ : l06R) (root : Int)).bind _) = _
 rw [bind_of hrun']
 generalize hK : ddA [] (preA (ndD N) n root) = K at hR
 have hcl : ∀ k ∈ K, ∀ e ∈ (ndD N k).2, e.2 ∈ K := fun k hk e he => by
  rw [← hK, mem_ddA] at hk ⊢
  exact .inr (preA_next _ hs (hk.resolve_left (by simp)) e he)
 have := num_outer hN hX hNl hR hcl N.length 0 (by omega)
 have e1 : K.map (fun j => if j < 0 then fullN N K j else headN N j) = out := by
  rw [hR.out]
  exact List.map_congr_left fun j _ => by rw [if_neg (by omega)]
 rw [e1, show ((0 : Nat) : Int) = 0 from rfl] at this
 show ((loopM (fun s : List Node × Int => m_spec_l06Number_l2 N place s.1 s.2) (out, 0)).bind _) = _
 rw [bind_of this]
end
section
theorem InvB.good {N : List Node} (hN : InvB N) {F r : Nat} (hr : r < N.length) (hs : shortA (ndD N) F r) : GoodA (ndD N) F r := by
 refine ⟨hs, fun k hk => ?_, fun k hk e he => ?_, fun k hk j hj e => ?_⟩
 ·have := hN.pre_lt F hr hk
  rw [ndD_at this]
  exact (hN.node k this).rise.apart
 ·obtain ⟨h, h1, h2⟩ := hN.use k e he
  have hen := preA_short _ hs (preA_next _ hs hk e he)
  have e2 : langA (ndD N) h e.2 = langA (ndD N) F e.2 := by
   rcases Nat.le_total F h with hle | hle
   ·exact langA_fuel _ hle hen
   ·exact (langA_fuel _ hle h1).symm
  rw [← e2]; exact h2
 ·have h1 := hN.pre_lt F hr hk
  have h2 := hN.pre_lt F hr hj
  rw [ndD_at h1, ndD_at h2] at e
  have := ndN_inj (hN.node k h1) (hN.node j h2) e
  have hp := List.pairwise_iff_getElem.1 (List.nodup_iff_pairwise_ne.1 hN.dist)
  rcases Nat.lt_trichotomy k j with hlt | heq | hlt
  ·exact absurd this (hp k j h1 h2 hlt)
  ·exact heq
  ·exact absurd this.symm (hp j k h2 h1 hlt)
theorem full_nd {N : List Node} {K : List Nat} (hlt : ∀ k ∈ K, k < N.length) : (K.map (fullN N K)).map ndN = renA (ndD N) K := by
 unfold renA
 rw [List.map_map]
 refine List.map_congr_left fun k hk => ?_
 have hk' := hlt k hk
 have hf : fullN N K k = ⟨N[k].Final, N[k].Letters, N[k].Next.map fun t => (K.idxOf t.toNat : Int)⟩ := by
  unfold fullN; rw [List.getElem?_eq_getElem hk']
 show ndN (fullN N K k) = _
 rw [hf, ndD_at hk']
 refine Prod.ext rfl ?_
 show N[k].Letters.zip ((N[k].Next.map fun t => (K.idxOf t.toNat : Int)).map Int.toNat) = (N[k].Letters.zip (N[k].Next.map Int.toNat)).map _
 have : (N[k].Next.map fun t => (K.idxOf t.toNat : Int)).map Int.toNat = (N[k].Next.map Int.toNat).map K.idxOf := by
  rw [List.map_map, List.map_map]
  exact List.map_congr_left fun t _ => by simp [Function.comp]
 rw [this, List.zip_map_right]
 rfl
theorem Build_eq (R : List Str) (hRs : SortedW R) (hR : ∀ w ∈ R, w.length ≤ 13 ∧ ∀ c ∈ w, formB c = true) (hbig : totA R + R.length + 1 ≤ 1000000) :
  ∃ D : List Node, m_spec_l06Build R = some ⟨D⟩ ∧ GoodN 14 (D.map ndN) ∧ langA (ndD D) 14 0 = R ∧ (∀ x ∈ D, NodeOk D.length x) ∧ (∀ x ∈ D, x.Next.length ≤ 10000) ∧ 1 ≤ D.length ∧ D.length ≤ 2000000 := by
 have hI0 : InvB [] := ⟨fun j h => by simp at h, List.nodup_nil, fun k e he => by rw [ndD_none (Nat.zero_le _)] at he; cases he⟩
 obtain ⟨idx, t, hrun, hI, hX, hidx, hsh, hlang, htl⟩ := build_step 13 fuelN [] R (by show 13 < 100000; omega) hI0 (fun x hx => by cases hx) hRs hR (by simp; omega)
 rw [List.nil_append] at hrun hI hX hidx hsh hlang
 have hgood := hI.good hidx hsh
 have hnum := Number_eq hI hX (by omega) (n := 14) (by omega) hidx hsh
 have hKlt : ∀ k ∈ ddA [] (preA (ndD t) 14 idx), k < t.length := fun k hk => by
  rw [mem_ddA] at hk
  exact hI.pre_lt 14 hidx (hk.resolve_left (by simp))
 have hGN := hgood.num
 have hrun' : m_spec_l06B_build (⟨([] : (List Node))⟩ : l06B) R = some ((idx : Int), (⟨t⟩ : l06B)) := hrun
 generalize hK : ddA [] (preA (ndD t) 14 idx) = K at hnum hKlt hGN
 have hnd : K.Nodup := by rw [← hK]; exact ddA_nodup _ List.nodup_nil
 have hfull := full_nd (K := K) hKlt
 have hcl : ∀ k ∈ K, ∀ e ∈ (ndD t k).2, e.2 ∈ K := fun k hk e he => by
  rw [← hK, mem_ddA] at hk ⊢
  exact .inr (preA_next _ hsh (hk.resolve_left (by simp)) e he)
 have hKl := nodup_len hKlt hnd
 refine ⟨K.map (fullN t K), ?_, ?_, ?_, fun x hx => ?_, fun x hx => ?_, ?_, ?_⟩
 ·unfold m_spec_l06Build
  rw [bind_of hrun']
  show ((m_spec_l06Number t (idx : Int)).bind _) = _
  rw [bind_of hnum]
 ·rw [hfull]; exact hGN.1
 ·show langA (ndL ((K.map (fullN t K)).map ndN)) 14 0 = R
  rw [hfull, hGN.2, hlang]
 ·obtain ⟨k, hk, rfl⟩ := List.mem_map.1 hx
  have hk' := hKlt k hk
  have hn := hI.node k hk'
  have hf : fullN t K k = ⟨t[k].Final, t[k].Letters, t[k].Next.map fun t => (K.idxOf t.toNat : Int)⟩ := by
   unfold fullN; rw [List.getElem?_eq_getElem hk']
  rw [hf]
  refine ⟨by simp [hn.len], hn.form, hn.inc, fun q hq => ?_⟩
  obtain ⟨u, hu, rfl⟩ := List.mem_map.1 hq
  obtain ⟨i, hi, rfl⟩ := List.mem_iff_getElem.1 hu
  have he := hn.edge hi
  have := hcl k hk _ (by rw [ndD_at hk']; exact List.mem_of_getElem? he)
  have := List.idxOf_lt_length_of_mem this
  simp only at this
  rw [List.length_map]
  exact ⟨by omega, by omega⟩
 ·obtain ⟨k, hk, rfl⟩ := List.mem_map.1 hx
  have hk' := hKlt k hk
  have hf : fullN t K k = ⟨t[k].Final, t[k].Letters, t[k].Next.map fun t => (K.idxOf t.toNat : Int)⟩ := by
   unfold fullN; rw [List.getElem?_eq_getElem hk']
  rw [hf]
  simp only [List.length_map]
  exact hX _ (List.getElem_mem hk')
 ·rw [List.length_map]
  have : idx ∈ K := by rw [← hK, mem_ddA]; exact .inr (preA_self _ hsh)
  exact List.length_pos_of_mem this
 ·rw [List.length_map]; omega
/-! equal automata -/
theorem Same_eq (a b : Dawg) (hl : a.Nodes.length ≤ 10000000) (hx : ∀ x ∈ a.Nodes, x.Next.length ≤ 10000000) : m_spec_l06Same a b = some (decide (a.Nodes = b.Nodes)) := by
 unfold m_spec_l06Same
 by_cases h : a.Nodes.length = b.Nodes.length
 ·rw [show ((a.Nodes.length : Int) != (b.Nodes.length : Int)) = false by rw [h]; simp, cond_false]
  have := loop_all (step := fun s => m_spec_l06Same_l1 a b s) (fun i => a.Nodes[i]? == b.Nodes[i]?) a.Nodes.length (Sum.inl () : Unit ⊕ Bool) (.inr false) (fun i hi => by
    have hib : i < b.Nodes.length := by omega
    show m_spec_l06Same_l1 a b (i : Int) = _
    unfold m_spec_l06Same_l1
    rw [show chk ((i : Int) + 1) = some ((i : Int) + 1) from chk_in (by omega) (by omega), decide_eq_true (show (i : Int) < (a.Nodes.length : Int) by omega), cond_true, bind_of (getL_at hi), bind_of (getL_at hib), bind_of (l06Equal_eq _ _ (hx _ (List.getElem_mem hi))), List.getElem?_eq_getElem hi, List.getElem?_eq_getElem hib]
    by_cases he : a.Nodes[i] = b.Nodes[i]
    ·rw [decide_eq_true he, show (some a.Nodes[i] == some b.Nodes[i]) = true by rw [he]; simp]; rfl
    ·rw [decide_eq_false he, show (some a.Nodes[i] == some b.Nodes[i]) = false by simpa using he]; rfl)
   (by show m_spec_l06Same_l1 a b (a.Nodes.length : Int) = _; unfold m_spec_l06Same_l1; rw [decide_eq_false (by omega)]; rfl) a.Nodes.length 0 (by omega)
  rw [show ((0 : Nat) : Int) = 0 from rfl] at this
  rw [bind_of this]
  have hiff : allI (fun i => a.Nodes[i]? == b.Nodes[i]?) 0 a.Nodes.length = decide (a.Nodes = b.Nodes) := by
   rw [Bool.eq_iff_iff, allI_iff, decide_eq_true_iff]
   constructor
   ·intro hh
    apply List.ext_getElem?
    intro i
    by_cases hi : i < a.Nodes.length
    ·have := hh i (Nat.zero_le _) (by omega)
     simpa using this
    ·rw [List.getElem?_eq_none (by omega), List.getElem?_eq_none (by omega)]
   ·intro e i _ _; rw [e]; simp
  rw [hiff]
  cases decide (a.Nodes = b.Nodes) <;> rfl
 ·rw [show ((a.Nodes.length : Int) != (b.Nodes.length : Int)) = true by rw [bne_iff_ne]; omega, cond_true, decide_eq_false (fun e => h (by rw [e]))]
/-! useful nodes -/
theorem use_inner {d : Dawg} (hD : ShapeOk d.Nodes) (hlen : ∀ x ∈ d.Nodes, x.Next.length ≤ 2000000) {k : Nat} (hk : k < d.Nodes.length) : ∀ (c i : Nat) (xs : List Bool), i + c = d.Nodes[k].Next.length → xs.length = d.Nodes.length →
  ∃ xs', loopM (fun s : (List Bool) × Int => m_spec_l06Useful_l3 d (k : Int) s.1 s.2) (xs, (i : Int)) = some xs' ∧ xs'.length = d.Nodes.length ∧ (∀ j, xs.getD j false = true → xs'.getD j false = true) ∧
   (∀ e ∈ (ndD d.Nodes k).2.drop i, xs.getD e.2 false = true → xs'.getD k false = true)
 | 0, i, xs, hc, hx => by
  have hn := hD.node _ (List.getElem_mem hk)
  refine ⟨xs, loopM_done ?_, hx, fun j h => h, fun e he => ?_⟩
  ·show m_spec_l06Useful_l3 d (k : Int) xs (i : Int) = _
   unfold m_spec_l06Useful_l3
   rw [bind_of (getL_at hk), decide_eq_false (by omega)]; rfl
  ·rw [ndD_at hk, List.drop_of_length_le (by rw [hn.edges_len]; omega)] at he; cases he
 | c + 1, i, xs, hc, hx => by
  have hn := hD.node _ (List.getElem_mem hk)
  have hnl := hlen _ (List.getElem_mem hk)
  have hi : i < d.Nodes[k].Next.length := by omega
  have hnn := (hn.next _ (List.getElem_mem hi))
  obtain ⟨t, ht⟩ : ∃ t : Nat, d.Nodes[k].Next[i] = (t : Int) := ⟨d.Nodes[k].Next[i].toNat, by omega⟩
  have htl : t < d.Nodes.length := by omega
  have hedge : (ndD d.Nodes k).2[i]? = some (d.Nodes[k].Letters[i]'(by rw [hn.len]; exact hi), t) := by
   rw [ndD_at hk, hn.edge hi, ht, Int.toNat_natCast]
  obtain ⟨h2, h3⟩ := List.getElem?_eq_some_iff.1 hedge
  have hdrop : (ndD d.Nodes k).2.drop i = (d.Nodes[k].Letters[i]'(by rw [hn.len]; exact hi), t) :: (ndD d.Nodes k).2.drop (i + 1) := by
   rw [List.drop_eq_getElem_cons h2, h3]
  have hkx : k < xs.length := by rw [hx]; exact hk
  have hstep : m_spec_l06Useful_l3 d (k : Int) xs (i : Int) = some (.inl (xs.set k (xs.getD k false || xs.getD t false), (((i + 1 : Nat)) : Int))) := by
   unfold m_spec_l06Useful_l3
   rw [chk_succ (show i ≤ 8000000000000000000 by omega), bind_of (getL_at hk), decide_eq_true (show (i : Int) < (d.Nodes[k].Next.length : Int) by omega), cond_true, bind_of (getL_gd false hkx)]
   cases hg : xs.getD k false with
   | true =>
    rw [cond_true, bind_of (getL_gd false hkx), bind_of (setL_of hkx)]
    rfl
   | false =>
    rw [cond_false, bind_of (getL_at hk), bind_of (getL_at hi), ht, bind_of (getL_gd false (by rw [hx]; exact htl)), bind_of (getL_gd false hkx), bind_of (setL_of hkx)]
    rfl
  have hset : ∀ j, (xs.set k (xs.getD k false || xs.getD t false)).getD j false = if j = k then (xs.getD k false || xs.getD t false) else xs.getD j false := fun j => getD_put hkx
  have hmono : ∀ j, xs.getD j false = true → (xs.set k (xs.getD k false || xs.getD t false)).getD j false = true := fun j hj => by
   rw [hset]
   split
   ·rename_i e
    have hk' : xs.getD k false = true := e ▸ hj
    rw [hk']; rfl
   ·exact hj
  obtain ⟨xs', h1, h2', h3', h4⟩ := use_inner hD hlen hk c (i + 1) (xs.set k (xs.getD k false || xs.getD t false)) (by omega) (by rw [List.length_set]; exact hx)
  refine ⟨xs', ?_, h2', fun j hj => h3' j (hmono j hj), fun e he hg => ?_⟩
  ·rw [loopM_next (step := fun s : (List Bool) × Int => m_spec_l06Useful_l3 d (k : Int) s.1 s.2) hstep]; exact h1
  ·rw [hdrop] at he
   rcases List.mem_cons.1 he with rfl | he
   ·refine h3' k ?_
    rw [hset, if_pos rfl, Bool.or_eq_true]
    exact .inr hg
   ·exact h4 e he (hmono _ hg)
theorem use_mid {d : Dawg} (hD : ShapeOk d.Nodes) (hlen : ∀ x ∈ d.Nodes, x.Next.length ≤ 2000000) : ∀ (c k : Nat) (xs : List Bool), k + c = d.Nodes.length → xs.length = d.Nodes.length →
  ∃ xs', loopM (fun s : (List Bool) × Int => m_spec_l06Useful_l2 d s.1 s.2) (xs, (k : Int)) = some xs' ∧ xs'.length = d.Nodes.length ∧ (∀ j, xs.getD j false = true → xs'.getD j false = true) ∧
   (∀ j, k ≤ j → j < d.Nodes.length → ((ndD d.Nodes j).1 = true ∨ ∃ e ∈ (ndD d.Nodes j).2, xs.getD e.2 false = true) → xs'.getD j false = true)
 | 0, k, xs, hc, hx => by
  refine ⟨xs, loopM_done ?_, hx, fun j h => h, fun j h1 h2 => by omega⟩
  show m_spec_l06Useful_l2 d xs (k : Int) = _
  unfold m_spec_l06Useful_l2
  rw [decide_eq_false (by omega)]; rfl
 | c + 1, k, xs, hc, hx => by
  have hk : k < d.Nodes.length := by omega
  have hmax := hD.max
  have hkx : k < xs.length := by rw [hx]; exact hk
  have hhead : (bif xs.getD k false then (getL xs (k : Int)).bind fun e56 => (setL xs (k : Int) true).bind fun xs63 => some xs63 else (getL d.Nodes (k : Int)).bind fun e66 => (getL xs (k : Int)).bind fun e78 => (setL xs (k : Int) e66.Final).bind fun xs85 => some xs85 : Option (List Bool)) = some (xs.set k (xs.getD k false || d.Nodes[k].Final)) := by
   cases hg : xs.getD k false with
   | true => rw [cond_true, bind_of (getL_gd false hkx), bind_of (setL_of hkx)]; rfl
   | false => rw [cond_false, bind_of (getL_at hk), bind_of (getL_gd false hkx), bind_of (setL_of hkx)]; rfl
  have hset : ∀ j, (xs.set k (xs.getD k false || d.Nodes[k].Final)).getD j false = if j = k then (xs.getD k false || d.Nodes[k].Final) else xs.getD j false := fun j => getD_put hkx
  have hmono : ∀ j, xs.getD j false = true → (xs.set k (xs.getD k false || d.Nodes[k].Final)).getD j false = true := fun j hj => by
   rw [hset]
   split
   ·rename_i e
    have hk' : xs.getD k false = true := e ▸ hj
    rw [hk']; rfl
   ·exact hj
  obtain ⟨x1, g1, g2, g3, g4⟩ := use_inner hD hlen hk d.Nodes[k].Next.length 0 (xs.set k (xs.getD k false || d.Nodes[k].Final)) (by omega) (by rw [List.length_set]; exact hx)
  have hstep : m_spec_l06Useful_l2 d xs (k : Int) = some (.inl (x1, (((k + 1 : Nat)) : Int))) := by
   unfold m_spec_l06Useful_l2
   rw [chk_succ (show k ≤ 8000000000000000000 by omega), decide_eq_true (show (k : Int) < (d.Nodes.length : Int) by omega), cond_true, bind_of (getL_gd false hkx), hhead, Option.bind_some]
   have g1' : loopM (fun s : (List Bool) × Int => m_spec_l06Useful_l3 d (k : Int) s.1 s.2) (xs.set k (xs.getD k false || d.Nodes[k].Final), 0) = some x1 := g1
   rw [bind_of g1']
   rfl
  obtain ⟨x2, h1, h2, h3, h4⟩ := use_mid hD hlen c (k + 1) x1 (by omega) g2
  refine ⟨x2, ?_, h2, fun j hj => h3 j (g3 j (hmono j hj)), fun j hkj hjl hor => ?_⟩
  ·rw [loopM_next (step := fun s : (List Bool) × Int => m_spec_l06Useful_l2 d s.1 s.2) hstep]; exact h1
  ·rcases Nat.eq_or_lt_of_le hkj with rfl | hlt
   ·refine h3 k ?_
    rcases hor with hf | ⟨e, he, hg⟩
    ·refine g3 k ?_
     rw [hset, if_pos rfl, Bool.or_eq_true]
     rw [ndD_at hk] at hf
     exact .inr hf
    ·exact g4 e (by rw [List.drop_zero]; exact he) (hmono _ hg)
   ·refine h4 j hlt hjl (hor.imp id fun ⟨e, he, hg⟩ => ⟨e, he, g3 _ (hmono _ hg)⟩)
theorem use_outer {d : Dawg} (hD : ShapeOk d.Nodes) (hlen : ∀ x ∈ d.Nodes, x.Next.length ≤ 2000000) : ∀ (c r : Nat) (xs : List Bool), r + c = 14 → xs.length = d.Nodes.length → (∀ j, langA (ndD d.Nodes) r j ≠ [] → xs.getD j false = true) →
  ∃ xs', loopM (fun s : (List Bool) × Int => m_spec_l06Useful_l1 d s.1 s.2) (xs, (r : Int)) = some xs' ∧ xs'.length = d.Nodes.length ∧ (∀ j, langA (ndD d.Nodes) 14 j ≠ [] → xs'.getD j false = true)
 | 0, r, xs, hc, hx, hg => by
  obtain rfl : r = 14 := by omega
  refine ⟨xs, loopM_done ?_, hx, hg⟩
  rfl
 | c + 1, r, xs, hc, hx, hg => by
  obtain ⟨x1, g1, g2, g3, g4⟩ := use_mid hD hlen d.Nodes.length 0 xs (by omega) hx
  have hstep : m_spec_l06Useful_l1 d xs (r : Int) = some (.inl (x1, (((r + 1 : Nat)) : Int))) := by
   unfold m_spec_l06Useful_l1
   rw [chk_succ (show r ≤ 8000000000000000000 by omega), decide_eq_true (show (r : Int) ≤ 13 by omega), cond_true]
   have g1' : loopM (fun s : (List Bool) × Int => m_spec_l06Useful_l2 d s.1 s.2) (xs, 0) = some x1 := g1
   rw [bind_of g1']
   rfl
  obtain ⟨x2, h1, h2, h3⟩ := use_outer hD hlen c (r + 1) x1 (by omega) g2 fun j hj => by
   by_cases hjl : j < d.Nodes.length
   ·refine g4 j (Nat.zero_le _) hjl ?_
    rw [langA] at hj
    by_cases hf : (ndD d.Nodes j).1 = true
    ·exact .inl hf
    ·right
     rw [if_neg hf, List.nil_append] at hj
     obtain ⟨w, hw⟩ := List.exists_mem_of_ne_nil _ hj
     obtain ⟨e, he, hw⟩ := List.mem_flatMap.1 hw
     obtain ⟨w', hw', _⟩ := List.mem_map.1 hw
     exact ⟨e, he, hg e.2 (List.ne_nil_of_mem hw')⟩
   ·exfalso
    rw [langA, ndD_none (by omega)] at hj
    exact hj rfl
  refine ⟨x2, ?_, h2, h3⟩
  rw [loopM_next (step := fun s : (List Bool) × Int => m_spec_l06Useful_l1 d s.1 s.2) hstep]; exact h1
theorem Useful_eq (d : Dawg) (hD : ShapeOk d.Nodes) (hlen : ∀ x ∈ d.Nodes, x.Next.length ≤ 2000000) : ∃ r, m_spec_l06Useful d = some r ∧ ((∀ j, j ≠ 0 → j < d.Nodes.length → langA (ndD d.Nodes) 14 j ≠ []) → r = true) := by
 have hmax := hD.max
 have hpos := hD.pos
 unfold m_spec_l06Useful
 rw [makeL_of (by omega), Option.bind_some]
 obtain ⟨xs, h1, h2, h3⟩ := use_outer hD hlen 14 0 (List.replicate d.Nodes.length false) (by omega) List.length_replicate fun j hj => absurd rfl hj
 have h1' : ((loopM (fun s : (List Bool) × Int => m_spec_l06Useful_l1 d s.1 s.2) (List.replicate d.Nodes.length false, 0)).bind fun xs22 => some xs22) = some xs := by
  have : loopM (fun s : (List Bool) × Int => m_spec_l06Useful_l1 d s.1 s.2) (List.replicate d.Nodes.length false, 0) = some xs := h1
  rw [bind_of this]
 rw [bind_of h1']
 have := loop_all (step := fun s => m_spec_l06Useful_l4 d xs s) (fun i => xs.getD i false) d.Nodes.length (Sum.inl () : Unit ⊕ Bool) (.inr false) (fun i hi => by
   show m_spec_l06Useful_l4 d xs (i : Int) = _
   unfold m_spec_l06Useful_l4
   rw [show chk ((i : Int) + 1) = some ((i : Int) + 1) from chk_in (by omega) (by omega), decide_eq_true (show (i : Int) < (d.Nodes.length : Int) by omega), cond_true, bind_of (getL_gd false (by omega))]
   cases xs.getD i false <;> rfl)
  (by show m_spec_l06Useful_l4 d xs (d.Nodes.length : Int) = _; unfold m_spec_l06Useful_l4; rw [decide_eq_false (by omega)]; rfl) (d.Nodes.length - 1) 1 (by omega)
 have this' : loopM (fun s : Int => m_spec_l06Useful_l4 d xs s) 1 = some (bif allI (fun i => xs.getD i false) 1 (d.Nodes.length - 1) then (Sum.inl () : Unit ⊕ Bool) else .inr false) := this
 rw [bind_of this']
 refine ⟨allI (fun i => xs.getD i false) 1 (d.Nodes.length - 1), ?_, fun h => ?_⟩
 ·cases allI (fun i => xs.getD i false) 1 (d.Nodes.length - 1) <;> rfl
 ·rw [allI_iff]
  intro j hj1 hj2
  exact h3 j (h j (by omega) (by omega))
/-! the test -/
theorem totA_le {R : List Str} {n : Nat} (h : ∀ w ∈ R, w.length ≤ n) : totA R ≤ n * R.length := by
 induction R with
 | nil => exact Nat.zero_le _
 | cons w R ih =>
  have h1 := h w List.mem_cons_self
  have h2 := ih fun x hx => h x (List.mem_cons_of_mem _ hx)
  unfold totA at h2 ⊢
  rw [List.map_cons, List.sum_cons, List.length_cons, Nat.mul_succ]
  omega
theorem good_words {D : List Node} (hD : ShapeOk D) (hfew : (langA (ndD D) 14 0).length ≤ 3000) : SortedW (langA (ndD D) 14 0) ∧ (∀ w ∈ langA (ndD D) 14 0, w.length ≤ 13 ∧ ∀ c ∈ w, formB c = true) ∧ totA (langA (ndD D) 14 0) + (langA (ndD D) 14 0).length + 1 ≤ 1000000 := by
 have h1 : ∀ w ∈ langA (ndD D) 14 0, w.length ≤ 13 := fun w hw => by have := langA_le _ 14 0 w hw; omega
 have h2 := totA_le h1
 exact ⟨langA_sorted _ hD.rise 14 0, fun w hw => ⟨h1 w hw, langA_form hD 14 0 w hw⟩, by omega⟩
theorem map_ndN_inj {n m : Nat} : ∀ {A B : List Node}, (∀ x ∈ A, NodeOk n x) → (∀ x ∈ B, NodeOk m x) → A.map ndN = B.map ndN → A = B := fun hA hB h =>
 list_inj_on (fun x hx y hy e => ndN_inj (hA x hx) (hB y hy) e) h
theorem l06Ok_iff (d : Dawg) (hlen : ∀ x ∈ d.Nodes, x.Next.length ≤ 2000000) : ∃ r, m_spec_l06Ok d = some r ∧ (r = true ↔ GoodD d.Nodes) := by
 have hlen' : ∀ x ∈ d.Nodes, x.Next.length ≤ 1000000000 := fun x hx => Nat.le_trans (hlen x hx) (by omega)
 unfold m_spec_l06Ok
 rw [bind_of (l06Shape_eq d hlen')]
 cases hsh : shapeB d.Nodes with
 | false =>
  refine ⟨false, rfl, (fun h => by cases h), fun h => ?_⟩
  rw [h.shape.shapeB] at hsh; cases hsh
 | true =>
  have hD := shapeB_ok hsh
  have hmax := hD.max
  have h0 : 0 < d.Nodes.length := hD.pos
  have hnf : (ndD d.Nodes 0).1 = d.Nodes[0].Final := by rw [ndD_at h0]; rfl
  rw [Bool.not_true, cond_false, bind_of (getL_of (z := 0) 0 rfl h0)]
  cases hF : d.Nodes[0].Final with
  | true =>
   refine ⟨false, rfl, (fun h => by cases h), fun h => ?_⟩
   have := h.nofin
   rw [hnf, hF] at this; cases this
  | false =>
   obtain ⟨u, hu, hug⟩ := Useful_eq d hD hlen
   rw [cond_false, bind_of hu, Option.bind_some]
   have hguse : GoodD d.Nodes → u = true := fun h => hug fun j hj0 hjl => by
    have hin : j ∈ preA (ndD d.Nodes) 14 0 := by
     have := h.num.num
     rw [List.length_map] at this
     have hm : j ∈ ddA [] (preA (ndD d.Nodes) 14 0) := by rw [this]; exact List.mem_range.2 hjl
     rw [mem_ddA] at hm
     exact hm.resolve_left (by simp)
    rcases preA_parent _ 14 hin with rfl | ⟨i, hi, e, he, rfl⟩
    ·exact absurd rfl hj0
    ·exact h.num.good.use i hi e he
   cases u with
   | false => exact ⟨false, rfl, (fun h => by cases h), fun h => absurd (hguse h) (by simp)⟩
   | true =>
    rw [Bool.not_true, cond_false]
    obtain ⟨out, ok, hw, hok, hout⟩ := Words_eq d hD hlen
    rw [bind_of hw]
    cases ok with
    | false =>
     refine ⟨false, rfl, (fun h => by cases h), fun h => ?_⟩
     have := hok.2 ⟨h.num.good.short, h.few⟩
     cases this
    | true =>
     obtain ⟨hs, hfew⟩ := hok.1 rfl
     obtain rfl := hout rfl
     obtain ⟨w1, w2, w3⟩ := good_words hD hfew
     obtain ⟨D', hb, hg, hl, hn, hx, hp, hm⟩ := Build_eq _ w1 w2 w3
     show ∃ r, ((m_spec_l06Build (langA (ndD d.Nodes) 14 0)).bind _) = some r ∧ _
     rw [bind_of hb, bind_of (Same_eq d ⟨D'⟩ (by omega) (fun x hx => Nat.le_trans (hlen x hx) (by omega)))]
     refine ⟨decide (d.Nodes = D'), rfl, fun h => ?_, fun h => ?_⟩
     ·have e := of_decide_eq_true h
      refine ⟨hD, by rw [hnf]; exact hF, by rw [e]; exact hg, hfew⟩
     ·rw [decide_eq_true_iff]
      refine map_ndN_inj hD.node hn ?_
      rw [h.num.canon, hg.canon]
      show canonA 14 (langA (ndD d.Nodes) 14 0) = canonA 14 (langA (ndD D') 14 0)
      rw [hl]
theorem tests_agree (d : Dawg) (hlen : ∀ x ∈ d.Nodes, x.Next.length ≤ 2000000) : ∃ r, m_impl_ValidDawg d = some r ∧ m_spec_l06Ok d = some r ∧ (r = true ↔ GoodD d.Nodes) := by
 obtain ⟨r, h1, h2⟩ := ValidDawg_iff d hlen
 obtain ⟨r', h3, h4⟩ := l06Ok_iff d hlen
 have : r = r' := by rw [Bool.eq_iff_iff, h2, h4]
 subst this
 exact ⟨r, h1, h3, h2⟩
end
section
def edgeA (nd : Nat → Bool × List (UInt8 × Nat)) (k : Nat) (c : UInt8) : Option Nat := ((nd k).2.find? fun e => e.1 == c).map (·.2)
def afterA (nd : Nat → Bool × List (UInt8 × Nat)) : Nat → Str → Option Nat
 | k, [] => some k
 | k, c :: s => (edgeA nd k c).bind fun j => afterA nd j s
def optI (o : Option Nat) : Int := match o with | some k => (k : Int) | none => -1
theorem find_zip : ∀ (l : Str) (t : List Nat) (c : UInt8) (i : Nat) (h : i < l.length) (ht : i < t.length), l[i] = c → (∀ j (hj : j < l.length), j < i → l[j] ≠ c) → ((l.zip t).find? fun e => e.1 == c).map (·.2) = some t[i]
 | [], _, _, _, h, _, _, _ => by cases h
 | _ :: _, [], _, _, _, ht, _, _ => by cases ht
 | a :: l, b :: t, c, i, h, ht, he, hno => by
  rw [List.zip_cons_cons, List.find?_cons]
  cases i with
  | zero =>
   have : (a == c) = true := by simpa using he
   simp only [this]
   rfl
  | succ i =>
   have h0 : (a == c) = false := by
    rw [beq_eq_false_iff_ne]
    exact hno 0 (by simp) (by omega)
   simp only [h0]
   exact find_zip l t c i (by simpa using h) (by simpa using ht) (by simpa using he) fun j hj hji => by
    have := hno (j + 1) (by simpa using hj) (by omega)
    simpa using this
theorem find_none {l : Str} {t : List Nat} {c : UInt8} (h : ∀ j (hj : j < l.length), l[j] ≠ c) : ((l.zip t).find? fun e => e.1 == c).map (·.2) = none := by
 rw [Option.map_eq_none_iff, List.find?_eq_none]
 intro e he
 have := (List.of_mem_zip (he : (e.1, e.2) ∈ _)).1
 obtain ⟨j, hj, e1⟩ := List.mem_iff_getElem.1 this
 rw [← e1]
 simpa using h j hj
theorem step_eq (d : Dawg) (hD : ShapeOk d.Nodes) (hlen : ∀ x ∈ d.Nodes, x.Next.length ≤ 2000000) {k : Nat} (hk : k < d.Nodes.length) (c : UInt8) : m_impl_Dawg_step d (k : Int) c = some (optI (edgeA (ndD d.Nodes) k c)) := by
 have hmax := hD.max
 have hx := hD.node _ (List.getElem_mem hk)
 unfold m_impl_Dawg_step
 rw [show chk ((d.Nodes.length : Int) - 1) = some ((d.Nodes.length : Int) - 1) from chk_in (by omega) (by omega), Option.bind_some, bind_of (within_eq _ _ _), show inB (k : Int) 0 ((d.Nodes.length : Int) - 1) = true from inB_iff.2 ⟨by omega, by omega⟩, Bool.not_true, cond_false, bind_of (getL_at hk)]
 unfold edgeA
 rw [ndD_at hk]
 generalize d.Nodes[k] = x at hx
 show ((some (Lib.indexByte x.Letters c)).bind _) = _
 rw [Option.bind_some]
 rcases Int.lt_or_le (Lib.indexByte x.Letters c) 0 with hneg | hpos
 ·have hm : Lib.indexByte x.Letters c = -1 := by have := Lib.indexByte_ge x.Letters c; omega
  have hno := Lib.indexByte_none hm
  rw [hm, decide_eq_false (by omega), cond_false]
  show _ = some (optI ((((x.Letters.zip (x.Next.map Int.toNat)).find? fun e => e.1 == c).map (·.2))))
  rw [find_none fun j hj e => hno j (by rw [List.getElem?_eq_getElem hj, e])]
  rfl
 ·obtain ⟨o, ho⟩ : ∃ o : Nat, Lib.indexByte x.Letters c = (o : Int) := ⟨(Lib.indexByte x.Letters c).toNat, by omega⟩
  obtain ⟨h1, h2⟩ := Lib.indexByte_some ho
  obtain ⟨h3, h4⟩ := List.getElem?_eq_some_iff.1 h1
  have hol : o < x.Next.length := by rw [← hx.len]; exact h3
  rw [ho, decide_eq_true (by omega), cond_true, bind_of (getL_at hol)]
  show _ = some (optI ((((x.Letters.zip (x.Next.map Int.toNat)).find? fun e => e.1 == c).map (·.2))))
  rw [find_zip x.Letters (x.Next.map Int.toNat) c o h3 (by rw [List.length_map]; exact hol) h4 fun j hj hji e => h2 j hji (by rw [List.getElem?_eq_getElem hj, e])]
  have hn := hx.next _ (List.getElem_mem hol)
  rw [List.getElem_map]
  show some x.Next[o] = some ((x.Next[o].toNat : Nat) : Int)
  rw [Int.toNat_of_nonneg hn.1]
theorem stepS_eq (d : Dawg) (hD : ShapeOk d.Nodes) (hlen : ∀ x ∈ d.Nodes, x.Next.length ≤ 2000000) {k : Nat} (hk : k < d.Nodes.length) (c : UInt8) : m_spec_l06Step d (k : Int) c = some (optI (edgeA (ndD d.Nodes) k c)) := by
 have hx := hD.node _ (List.getElem_mem hk)
 have hxl := hlen _ (List.getElem_mem hk)
 unfold m_spec_l06Step
 rw [bind_of (getL_at hk)]
 unfold edgeA
 rw [ndD_at hk]
 generalize d.Nodes[k] = x at hx hxl
 have key : ∀ (m i : Nat), i + m = x.Letters.length → (∀ j (hj : j < x.Letters.length), j < i → x.Letters[j] ≠ c) →
   (((loopM (fun s : Int => m_spec_l06Step_l1 x c s) (i : Int)).bind fun x29 => match x29 with | .inl _ => some (.inl ()) | .inr r62 => some (.inr r62) : Option (Unit ⊕ Int)).bind fun x24 => match x24 with | .inl _ => some (-1) | .inr r65 => some r65) =
    some (optI ((((x.Letters.zip (x.Next.map Int.toNat)).find? fun e => e.1 == c).map (·.2)))) := by
  intro m
  induction m with
  | zero =>
   intro i hi hno
   have hst : m_spec_l06Step_l1 x c (i : Int) = some (.inr (.inl ())) := by
    unfold m_spec_l06Step_l1
    rw [decide_eq_false (show ¬ (i : Int) < (x.Letters.length : Int) by omega)]; rfl
   rw [loopM_done (step := fun s : Int => m_spec_l06Step_l1 x c s) hst, find_none fun j hj => hno j hj (by omega)]
   rfl
  | succ m ih =>
   intro i hi hno
   have hil : i < x.Letters.length := by omega
   have hin : i < x.Next.length := by rw [← hx.len]; exact hil
   have hst : m_spec_l06Step_l1 x c (i : Int) = some (bif x.Letters[i] == c then .inr (.inr x.Next[i]) else .inl (((i + 1 : Nat)) : Int)) := by
    unfold m_spec_l06Step_l1
    rw [chk_succ (show i ≤ 8000000000000000000 by omega), decide_eq_true (show (i : Int) < (x.Letters.length : Int) by omega), cond_true, decide_eq_true (show (i : Int) < (x.Next.length : Int) by omega), Option.bind_some, cond_true, bind_of (getL_at hil), bind_of (getL_at hin)]
    cases x.Letters[i] == c <;> rfl
   by_cases hc : x.Letters[i] = c
   ·rw [show (x.Letters[i] == c) = true by simpa using hc, cond_true] at hst
    rw [loopM_done (step := fun s : Int => m_spec_l06Step_l1 x c s) hst, find_zip x.Letters (x.Next.map Int.toNat) c i hil (by rw [List.length_map]; exact hin) hc hno]
    have hn := hx.next _ (List.getElem_mem hin)
    show some x.Next[i] = _
    rw [List.getElem_map]
    show some x.Next[i] = some ((x.Next[i].toNat : Nat) : Int)
    rw [Int.toNat_of_nonneg hn.1]
   ·rw [show (x.Letters[i] == c) = false by simpa using hc, cond_false] at hst
    rw [loopM_next (step := fun s : Int => m_spec_l06Step_l1 x c s) hst]
    refine ih (i + 1) (by omega) fun j hj hji => ?_
    rcases Nat.lt_or_ge j i with h' | h'
    ·exact hno j hj h'
    ·obtain rfl : j = i := by omega
     exact hc
 exact key x.Letters.length 0 (by omega) fun j hj h => by omega
theorem edgeA_lt {D : List Node} (hD : ShapeOk D) {k : Nat} {c : UInt8} {j : Nat} (h : edgeA (ndD D) k c = some j) : j < D.length := by
 unfold edgeA at h
 rw [Option.map_eq_some_iff] at h
 obtain ⟨e, he, rfl⟩ := h
 exact hD.edge_lt e (List.mem_of_find?_eq_some he)
theorem after_loop {step : Int → UInt8 → Option Int} {nd : Nat → Bool × List (UInt8 × Nat)} {n : Nat} (hst : ∀ k, k < n → ∀ c, step (k : Int) c = some (optI (edgeA nd k c))) (hlt : ∀ k c j, edgeA nd k c = some j → j < n)
  (s : Str) (hs : s.length ≤ 8000000000000000000) (body : Int → Int → Option ((Int × Int) ⊕ Int))
  (hb : ∀ (z : Int) (i : Nat), body z (i : Int) = if h : i < s.length then (if 0 ≤ z then ((step z s[i]).bind fun y => some (.inl (y, (((i + 1 : Nat)) : Int)))) else some (.inr z)) else some (.inr z)) :
  ∀ (m i : Nat) (k : Nat), i + m = s.length → k < n → loopM (fun q : Int × Int => body q.1 q.2) ((k : Int), (i : Int)) = some (optI (afterA nd k (s.drop i)))
 | 0, i, k, hi, hk => by
  rw [Nat.add_zero] at hi
  rw [List.drop_of_length_le (by omega)]
  refine loopM_done ?_
  show body (k : Int) (i : Int) = _
  rw [hb, dif_neg (by omega)]; rfl
 | m + 1, i, k, hi, hk => by
  have hil : i < s.length := by omega
  have hstep : body (k : Int) (i : Int) = some (.inl (optI (edgeA nd k s[i]), (((i + 1 : Nat)) : Int))) := by
   rw [hb, dif_pos hil, if_pos (by omega), hst k hk]; rfl
  rw [loopM_next (step := fun q : Int × Int => body q.1 q.2) hstep, List.drop_eq_getElem_cons hil, afterA]
  cases he : edgeA nd k s[i] with
  | some j => exact after_loop hst hlt s hs body hb m (i + 1) j (by omega) (hlt _ _ _ he)
  | none =>
   refine loopM_done ?_
   show body (-1) (((i + 1 : Nat)) : Int) = _
   rw [hb]
   split
   ·rfl
   ·rfl
theorem after_eq (d : Dawg) (hD : ShapeOk d.Nodes) (hlen : ∀ x ∈ d.Nodes, x.Next.length ≤ 2000000) (s : Str) (hs : s.length ≤ 8000000000000000000) : m_impl_Dawg_after d s = some (optI (afterA (ndD d.Nodes) 0 s)) := by
 have h0 : 0 < d.Nodes.length := hD.pos
 unfold m_impl_Dawg_after
 have := after_loop (step := m_impl_Dawg_step d) (fun k hk c => step_eq d hD hlen hk c) (fun k c j h => edgeA_lt hD h) s hs (fun z i => m_impl_Dawg_after_l1 s d z i) (fun z i => by
  unfold m_impl_Dawg_after_l1
  by_cases hi : i < s.length
  ·rw [chk_succ (show i ≤ 8000000000000000000 by omega), decide_eq_true (show (i : Int) < (s.length : Int) by omega), cond_true, dif_pos hi]
   by_cases hz : 0 ≤ z
   ·rw [decide_eq_true hz, if_pos hz, Option.bind_some, cond_true, bind_of (getL_at hi)]; rfl
   ·rw [decide_eq_false hz, if_neg hz]; rfl
  ·rw [decide_eq_false (show ¬ (i : Int) < (s.length : Int) by omega), dif_neg hi]; rfl) s.length 0 0 (by omega) h0
 have this' : loopM (fun q : Int × Int => m_impl_Dawg_after_l1 s d q.1 q.2) (0, 0) = some (optI (afterA (ndD d.Nodes) 0 s)) := this
 rw [this']; rfl
theorem afterS_eq (d : Dawg) (hD : ShapeOk d.Nodes) (hlen : ∀ x ∈ d.Nodes, x.Next.length ≤ 2000000) (s : Str) (hs : s.length ≤ 8000000000000000000) : m_spec_l06After d 0 s = some (optI (afterA (ndD d.Nodes) 0 s)) := by
 have h0 : 0 < d.Nodes.length := hD.pos
 unfold m_spec_l06After
 have := after_loop (step := m_spec_l06Step d) (fun k hk c => stepS_eq d hD hlen hk c) (fun k c j h => edgeA_lt hD h) s hs (fun z i => m_spec_l06After_l1 s d z i) (fun z i => by
  unfold m_spec_l06After_l1
  by_cases hi : i < s.length
  ·rw [chk_succ (show i ≤ 8000000000000000000 by omega), decide_eq_true (show (i : Int) < (s.length : Int) by omega), cond_true, dif_pos hi]
   by_cases hz : 0 ≤ z
   ·rw [decide_eq_true hz, if_pos hz, Option.bind_some, cond_true, bind_of (getL_at hi)]; rfl
   ·rw [decide_eq_false hz, if_neg hz]; rfl
  ·rw [decide_eq_false (show ¬ (i : Int) < (s.length : Int) by omega), dif_neg hi]; rfl) s.length 0 0 (by omega) h0
 have this' : loopM (fun q : Int × Int => m_spec_l06After_l1 s d q.1 q.2) (0, 0) = some (optI (afterA (ndD d.Nodes) 0 s)) := this
 rw [this']; rfl
theorem afterA_lt {D : List Node} (hD : ShapeOk D) : ∀ (s : Str) {k j : Nat}, k < D.length → afterA (ndD D) k s = some j → j < D.length
 | [], k, j, hk, h => by cases h; exact hk
 | c :: s, k, j, hk, h => by
  rw [afterA] at h
  cases he : edgeA (ndD D) k c with
  | none => rw [he] at h; cases h
  | some i => rw [he] at h; exact afterA_lt hD s (edgeA_lt hD he) h
def accA (nd : Nat → Bool × List (UInt8 × Nat)) (s : Str) : Bool := match afterA nd 0 s with | some k => (nd k).1 | none => false
theorem accepts_eq (d : Dawg) (hD : ShapeOk d.Nodes) (hlen : ∀ x ∈ d.Nodes, x.Next.length ≤ 2000000) (s : Str) (hs : s.length ≤ 8000000000000000000) : m_impl_Dawg_accepts d s = some (accA (ndD d.Nodes) s) := by
 unfold m_impl_Dawg_accepts accA
 rw [bind_of (after_eq d hD hlen s hs)]
 cases h : afterA (ndD d.Nodes) 0 s with
 | none => rfl
 | some k =>
  have hk := afterA_lt hD s hD.pos h
  show ((bif decide (0 ≤ ((k : Nat) : Int)) then (getL d.Nodes (k : Int)).bind _ else _ : Option Bool).bind _) = _
  rw [decide_eq_true (by omega), cond_true, bind_of (getL_at hk)]
  show some d.Nodes[k].Final = some ((ndD d.Nodes k).1)
  rw [ndD_at hk]; rfl
theorem acceptsS_eq (d : Dawg) (hD : ShapeOk d.Nodes) (hlen : ∀ x ∈ d.Nodes, x.Next.length ≤ 2000000) (s : Str) (hs : s.length ≤ 8000000000000000000) : m_spec_l06Accepts d s = some (accA (ndD d.Nodes) s) := by
 unfold m_spec_l06Accepts accA
 rw [bind_of (afterS_eq d hD hlen s hs)]
 cases h : afterA (ndD d.Nodes) 0 s with
 | none => rfl
 | some k =>
  have hk := afterA_lt hD s hD.pos h
  show ((bif decide (0 ≤ ((k : Nat) : Int)) then (getL d.Nodes (k : Int)).bind _ else _ : Option Bool).bind _) = _
  rw [decide_eq_true (by omega), cond_true, bind_of (getL_at hk)]
  show some d.Nodes[k].Final = some ((ndD d.Nodes k).1)
  rw [ndD_at hk]; rfl
end
section
theorem GoodD.pre {D : List Node} (h : GoodD D) {k : Nat} (hk : k < D.length) : k ∈ preA (ndD D) 14 0 := by
 have := h.num.num
 rw [List.length_map] at this
 have hm : k ∈ ddA [] (preA (ndD D) 14 0) := by rw [this]; exact List.mem_range.2 hk
 rw [mem_ddA] at hm
 exact hm.resolve_left (by simp)
theorem GoodD.short {D : List Node} (h : GoodD D) {k : Nat} (hk : k < D.length) : shortA (ndD D) 14 k := preA_short _ h.num.good.short (h.pre hk)
theorem lang_unfold' {nd : Nat → Bool × List (UInt8 × Nat)} {n k : Nat} (h : shortA nd (n + 1) k) : langA nd (n + 1) k = (if (nd k).1 then [[]] else []) ++ (nd k).2.flatMap fun e => (langA nd (n + 1) e.2).map (e.1 :: ·) := by
 conv => lhs; rw [langA]
 congr 1
 rw [List.flatMap_def, List.flatMap_def]
 congr 1
 exact List.map_congr_left fun e he => by rw [langA_fuel nd (Nat.le_succ n) (h e he)]
theorem lang_unfold {nd : Nat → Bool × List (UInt8 × Nat)} {k : Nat} (h : shortA nd 14 k) : langA nd 14 k = (if (nd k).1 then [[]] else []) ++ (nd k).2.flatMap fun e => (langA nd 14 e.2).map (e.1 :: ·) := lang_unfold' (n := 13) h
theorem pre_le (nd : Nat → Bool × List (UInt8 × Nat)) : ∀ (n : Nat) {k j : Nat}, shortA nd n k → j ∈ preA nd n k → (langA nd n j).length ≤ (langA nd n k).length
 | 0, _, _, h, _ => h.elim
 | n + 1, k, j, h, hj => by
  rcases List.mem_cons.1 hj with rfl | hj
  ·exact Nat.le_refl _
  ·obtain ⟨e, he, hj⟩ := List.mem_flatMap.1 hj
   have h1 := pre_le nd n (h e he) hj
   have h2 := preA_short nd (h e he) hj
   rw [langA_fuel nd (Nat.le_succ n) h2, langA_len]
   have h3 : (langA nd n e.2).length ≤ ((nd k).2.map fun e => (langA nd n e.2).length).sum := by
    have hm : (langA nd n e.2).length ∈ (nd k).2.map fun e => (langA nd n e.2).length := List.mem_map.2 ⟨e, he, rfl⟩
    generalize (nd k).2.map (fun e => (langA nd n e.2).length) = l at hm
    induction l with
    | nil => cases hm
    | cons x l ih =>
     rw [List.sum_cons]
     rcases List.mem_cons.1 hm with hm | hm
     ·omega
     ·have := ih hm; omega
   omega
def cntA (D : List Node) (k : Nat) : Nat := (langA (ndD D) 14 k).length
theorem GoodD.le {D : List Node} (h : GoodD D) {k : Nat} (hk : k < D.length) : cntA D k ≤ 3000 :=
 Nat.le_trans (pre_le _ 14 h.num.good.short (h.pre hk)) h.few
/-! the program's count -/
theorem getM_put {α β : Type} [DecidableEq α] : ∀ (M : List (α × β)) (k j : α) (v : β), getM (putM M k v) j = if j = k then some v else getM M j
 | [], k, j, v => by
  rw [putM, getM_cons]
 | e :: M, k, j, v => by
  rw [putM]
  by_cases h : k = e.1
  ·have : (k == e.1) = true := by simpa using h
   rw [this, cond_true, getM_cons, getM_cons, h]
   split <;> rfl
  ·have : (k == e.1) = false := by simpa using h
   rw [this, cond_false, getM_cons, getM_cons, getM_put M k j v]
   by_cases hj : j = e.1
   ·rw [if_pos hj, if_pos hj, if_neg (show ¬ j = k from fun e' => h (e' ▸ hj))]
   ·rw [if_neg hj, if_neg hj]
/-! the reference's count -/
/-! the program's words -/
theorem words_loop (d : Dawg) (hG : GoodD d.Nodes) (hlen : ∀ x ∈ d.Nodes, x.Next.length ≤ 2000000) {n f : Nat} (ih : ∀ (k : Nat) (xs : List Str) (buf : Str), shortA (ndD d.Nodes) n k → k < d.Nodes.length → xs.length + (langA (ndD d.Nodes) n k).length ≤ 3000 → buf.length + n ≤ 14 → m_impl_Dawg_words_1_n f (k : Int) d xs buf = some (xs ++ (langA (ndD d.Nodes) n k).map (buf ++ ·), buf))
  {k : Nat} (hk : k < d.Nodes.length) (hs : shortA (ndD d.Nodes) (n + 1) k) (buf : Str) (hbuf : buf.length + (n + 1) ≤ 14) : ∀ (c i : Nat) (xs : List Str), i + c = d.Nodes[k].Next.length → xs.length + (((ndD d.Nodes k).2.drop i).flatMap fun e => (langA (ndD d.Nodes) n e.2).map (e.1 :: ·)).length ≤ 3000 →
   loopM (fun s : (List Str) × Str × Int => m_impl_Dawg_words_1_l1 d.Nodes[k] (m_impl_Dawg_words_1_n f) d s.1 s.2.1 s.2.2) (xs, buf, (i : Int)) = some (xs ++ (((ndD d.Nodes k).2.drop i).flatMap fun e => (langA (ndD d.Nodes) n e.2).map (e.1 :: ·)).map (buf ++ ·), buf)
 | 0, i, xs, hi, hb => by
  have hx := hG.shape.node _ (List.getElem_mem hk)
  have hdrop : (ndD d.Nodes k).2.drop i = [] := by rw [ndD_at hk]; exact List.drop_of_length_le (by rw [hx.edges_len]; omega)
  refine loopM_done ?_
  show m_impl_Dawg_words_1_l1 d.Nodes[k] _ d xs buf (i : Int) = _
  unfold m_impl_Dawg_words_1_l1
  rw [decide_eq_false (by omega), hdrop]
  simp
 | c + 1, i, xs, hi, hb => by
  have hx := hG.shape.node _ (List.getElem_mem hk)
  have hxl := hlen _ (List.getElem_mem hk)
  have hil : i < d.Nodes[k].Next.length := by omega
  have hll : i < d.Nodes[k].Letters.length := by rw [hx.len]; exact hil
  have hnn := (hx.next _ (List.getElem_mem hil))
  obtain ⟨t, ht⟩ : ∃ t : Nat, d.Nodes[k].Next[i] = (t : Int) := ⟨d.Nodes[k].Next[i].toNat, by omega⟩
  have htl : t < d.Nodes.length := by omega
  have hedge : (ndD d.Nodes k).2[i]? = some (d.Nodes[k].Letters[i], t) := by
   rw [ndD_at hk, hx.edge hil, ht, Int.toNat_natCast]
  obtain ⟨h2, h3⟩ := List.getElem?_eq_some_iff.1 hedge
  have hdrop : (ndD d.Nodes k).2.drop i = (d.Nodes[k].Letters[i], t) :: (ndD d.Nodes k).2.drop (i + 1) := by
   rw [List.drop_eq_getElem_cons h2, h3]
  have hmem : (d.Nodes[k].Letters[i], t) ∈ (ndD d.Nodes k).2 := List.mem_of_getElem? hedge
  rw [hdrop, List.flatMap_cons, List.length_append, List.length_map] at hb
  have h1 := ih t xs (buf ++ [d.Nodes[k].Letters[i]]) (hs _ hmem) htl (by simp only at hb; omega) (by simp; omega)
  have hstep : m_impl_Dawg_words_1_l1 d.Nodes[k] (m_impl_Dawg_words_1_n f) d xs buf (i : Int) = some (.inl (xs ++ (langA (ndD d.Nodes) n t).map ((buf ++ [d.Nodes[k].Letters[i]]) ++ ·), buf, (((i + 1 : Nat)) : Int))) := by
   unfold m_impl_Dawg_words_1_l1
   rw [chk_succ (show i ≤ 8000000000000000000 by omega), decide_eq_true (show (i : Int) < (d.Nodes[k].Next.length : Int) by omega), cond_true, bind_of (getL_at hil), bind_of (getL_at hll), ht, catL_of (by simp; omega), Option.bind_some, bind_of h1]
   have hz : chk (((buf ++ [d.Nodes[k].Letters[i]]).length : Int) - 1) = some (buf.length : Int) := chk_to _ (by simp) (by omega) (by omega)
   rw [bind_of hz]
   have hsub : subL (buf ++ [d.Nodes[k].Letters[i]]) 0 (buf.length : Int) = some buf := by
    rw [subL_of (by omega) (by omega) (by rw [List.length_append, List.length_singleton]; omega)]
    simp
   rw [bind_of hsub]
   rfl
  rw [loopM_next (step := fun s : (List Str) × Str × Int => m_impl_Dawg_words_1_l1 d.Nodes[k] (m_impl_Dawg_words_1_n f) d s.1 s.2.1 s.2.2) hstep]
  rw [words_loop d hG hlen ih hk hs buf hbuf c (i + 1) _ (by omega) (by rw [List.length_append, List.length_map]; simp only at hb; omega), hdrop, List.flatMap_cons, List.map_append, List.append_assoc]
  congr 3
  congr 1
  rw [List.map_map]
  refine List.map_congr_left fun w _ => ?_
  simp [Function.comp]
theorem words_step (d : Dawg) (hG : GoodD d.Nodes) (hlen : ∀ x ∈ d.Nodes, x.Next.length ≤ 2000000) : ∀ (n f : Nat) (k : Nat) (xs : List Str) (buf : Str), n ≤ f → shortA (ndD d.Nodes) n k → k < d.Nodes.length → xs.length + (langA (ndD d.Nodes) n k).length ≤ 3000 → buf.length + n ≤ 14 → m_impl_Dawg_words_1_n f (k : Int) d xs buf = some (xs ++ (langA (ndD d.Nodes) n k).map (buf ++ ·), buf)
 | 0, f, k, xs, buf, hf, hs, hk, hx, hb => hs.elim
 | n + 1, f, k, xs, buf, hf, hs, hk, hx, hb => by
  obtain ⟨f, rfl⟩ : ∃ g, f = g + 1 := ⟨f - 1, by omega⟩
  show m_impl_Dawg_words_1_b (m_impl_Dawg_words_1_n f) (k : Int) d xs buf = _
  unfold m_impl_Dawg_words_1_b
  have hfin : (ndD d.Nodes k).1 = d.Nodes[k].Final := by rw [ndD_at hk]; rfl
  rw [langA, List.length_append] at hx
  rw [bind_of (getL_at hk)]
  have hhead : (bif d.Nodes[k].Final then (catL xs ([buf] : (List Str))).bind fun xs52 => some xs52 else some xs : Option (List Str)) = some (xs ++ (if d.Nodes[k].Final then [buf] else [])) := by
   cases d.Nodes[k].Final with
   | true => rw [cond_true, catL_of (by simp; omega)]; rfl
   | false => simp
  rw [hhead, Option.bind_some]
  have hl1 : (xs ++ (if d.Nodes[k].Final then [buf] else [])).length = xs.length + (if (ndD d.Nodes k).1 = true then ([[]] : List Str) else []).length := by
   rw [List.length_append, hfin]; split <;> rfl
  have := words_loop d hG hlen (n := n) (f := f) (fun k xs buf hs hk hx hb => words_step d hG hlen n f k xs buf (by omega) hs hk hx hb) hk hs buf hb d.Nodes[k].Next.length 0 (xs ++ (if d.Nodes[k].Final then [buf] else [])) (by omega) (by rw [List.drop_zero, hl1]; omega)
  have this' : loopM (fun s : (List Str) × Str × Int => m_impl_Dawg_words_1_l1 d.Nodes[k] (m_impl_Dawg_words_1_n f) d s.1 s.2.1 s.2.2) (xs ++ (if d.Nodes[k].Final then [buf] else []), buf, 0) = _ := this
  rw [bind_of this', List.drop_zero, langA, hfin, List.map_append, List.append_assoc]
  show some (_, buf) = some (_, buf)
  congr 3
  split
  ·simp
  ·rfl
theorem words_eq (d : Dawg) (hG : GoodD d.Nodes) (hlen : ∀ x ∈ d.Nodes, x.Next.length ≤ 2000000) : m_impl_Dawg_words d = some (langA (ndD d.Nodes) 14 0) := by
 unfold m_impl_Dawg_words
 have := words_step d hG hlen 14 fuelN 0 [] [] (by show 14 ≤ 100000; omega) hG.num.good.short hG.shape.pos (by simpa using hG.few) (by simp)
 have this' : m_impl_Dawg_words_1 0 d ([] : (List Str)) ([] : Str) = some ([] ++ (langA (ndD d.Nodes) 14 0).map (([] : Str) ++ ·), []) := this
 rw [bind_of this']
 simp
end
section
structure CutA (L : List Str) (s : Str) (A M B : List Str) : Prop where
 eq : L = A ++ M.map (s ++ ·) ++ B
 lt : ∀ a ∈ A, ltS a s = true
 ge : ∀ b ∈ B, ltS b s = false ∧ ¬ s <+: b
theorem ltS_pre (s w : Str) : ltS (s ++ w) s = false := by
 induction s with
 | nil => exact ltS_nil _
 | cons c s ih =>
  rw [List.cons_append, ltS_cons, ih]
  simp
theorem edge_find {nd : Nat → Bool × List (UInt8 × Nat)} {k : Nat} (hr : RiseG (nd k).2) (c : UInt8) :
  (∃ A j B, (nd k).2 = A ++ (c, j) :: B ∧ edgeA nd k c = some j ∧ (∀ e ∈ A, e.1 < c) ∧ ∀ e ∈ B, c < e.1) ∨
  (∃ A B, (nd k).2 = A ++ B ∧ edgeA nd k c = none ∧ (∀ e ∈ A, e.1 < c) ∧ ∀ e ∈ B, c < e.1) := by
 unfold edgeA
 generalize (nd k).2 = G at hr
 induction G with
 | nil => exact .inr ⟨[], [], rfl, rfl, (fun e he => by cases he), (fun e he => by cases he)⟩
 | cons e G ih =>
  rw [RiseG, List.pairwise_cons] at hr
  by_cases hc : e.1 = c
  ·left
   obtain ⟨d, j⟩ := e
   simp only at hc
   subst hc
   exact ⟨[], j, G, rfl, by simp, (fun e he => by cases he), fun x hx => hr.1 x hx⟩
  ·have hb : (e.1 == c) = false := by simpa using hc
   by_cases hlt : e.1 < c
   ·rcases ih hr.2 with ⟨A, j, B, h1, h2, h3, h4⟩ | ⟨A, B, h1, h2, h3, h4⟩
    ·refine .inl ⟨e :: A, j, B, by rw [h1]; rfl, ?_, fun x hx => ?_, h4⟩
     ·rw [List.find?_cons, hb]; exact h2
     ·rcases List.mem_cons.1 hx with rfl | hx
      ·exact hlt
      ·exact h3 x hx
    ·refine .inr ⟨e :: A, B, by rw [h1]; rfl, ?_, fun x hx => ?_, h4⟩
     ·rw [List.find?_cons, hb]; exact h2
     ·rcases List.mem_cons.1 hx with rfl | hx
      ·exact hlt
      ·exact h3 x hx
   ·have hgt : c < e.1 := by
     rcases UInt8.lt_or_lt_of_ne hc with h | h
     ·exact absurd h hlt
     ·exact h
    refine .inr ⟨[], e :: G, rfl, ?_, (fun x hx => by cases hx), fun x hx => ?_⟩
    ·rw [Option.map_eq_none_iff, List.find?_eq_none]
     intro x hx
     rcases List.mem_cons.1 hx with rfl | hx
     ·simpa using hc
     ·have := UInt8.lt_trans hgt (hr.1 x hx)
      simp only [beq_iff_eq]
      rintro rfl
      exact UInt8.lt_irrefl _ this
    ·rcases List.mem_cons.1 hx with rfl | hx
     ·exact hgt
     ·exact UInt8.lt_trans hgt (hr.1 x hx)
theorem cut_exists {nd : Nat → Bool × List (UInt8 × Nat)} (hr : ∀ k, RiseG (nd k).2) : ∀ (s : Str) (k : Nat), shortA nd 14 k → ∃ A B, CutA (langA nd 14 k) s A (match afterA nd k s with | some j => langA nd 14 j | none => []) B ∧ ∀ j, afterA nd k s = some j → j ∈ preA nd 14 k
 | [], k, hs => ⟨[], [], ⟨by simp [afterA], (fun a ha => by cases ha), (fun b hb => by cases hb)⟩, fun j hj => by cases hj; exact preA_self _ hs⟩
 | c :: s, k, hs => by
  have hkid : ∀ e ∈ (nd k).2, shortA nd 14 e.2 := fun e he => shortA_mono nd (show 13 ≤ 14 by omega) (hs e he)
  have hfl : ∀ (G : List (UInt8 × Nat)), (∀ e ∈ G, e.1 < c) → ∀ a ∈ (G.flatMap fun e => (langA nd 14 e.2).map (e.1 :: ·)), ltS a (c :: s) = true := fun G hG a ha => by
   obtain ⟨e, he, ha⟩ := List.mem_flatMap.1 ha
   obtain ⟨w, _, rfl⟩ := List.mem_map.1 ha
   rw [ltS_cons, decide_eq_true (hG e he)]; rfl
  have hgt : ∀ (G : List (UInt8 × Nat)), (∀ e ∈ G, c < e.1) → ∀ a ∈ (G.flatMap fun e => (langA nd 14 e.2).map (e.1 :: ·)), ltS a (c :: s) = false ∧ ¬ (c :: s) <+: a := fun G hG a ha => by
   obtain ⟨e, he, ha⟩ := List.mem_flatMap.1 ha
   obtain ⟨w, _, rfl⟩ := List.mem_map.1 ha
   have h1 := hG e he
   have hne : ¬ e.1 = c := fun h => by rw [h] at h1; exact UInt8.lt_irrefl _ h1
   have hnl : ¬ e.1 < c := fun h => UInt8.lt_irrefl _ (UInt8.lt_trans h h1)
   refine ⟨?_, fun h => ?_⟩
   ·rw [ltS_cons, decide_eq_false hnl]
    have : (e.1 == c) = false := by simpa using hne
    rw [this]; rfl
   ·rw [List.cons_prefix_cons] at h
    exact hne h.1.symm
  have hfin : ∀ a ∈ (if (nd k).1 = true then ([[]] : List Str) else []), ltS a (c :: s) = true := fun a ha => by
   have : a = [] := by
    split at ha
    ·rwa [List.mem_singleton] at ha
    ·cases ha
   rw [this]; rfl
  rw [afterA]
  rcases edge_find (hr k) c with ⟨A, j, B, h1, h2, h3, h4⟩ | ⟨A, B, h1, h2, h3, h4⟩
  ·rw [h2, Option.bind_some]
   have hjm : (c, j) ∈ (nd k).2 := by rw [h1]; simp
   obtain ⟨A', B', hC, hp⟩ := cut_exists hr s j (hkid _ hjm)
   refine ⟨(if (nd k).1 then [[]] else []) ++ (A.flatMap fun e => (langA nd 14 e.2).map (e.1 :: ·)) ++ A'.map (c :: ·), B'.map (c :: ·) ++ (B.flatMap fun e => (langA nd 14 e.2).map (e.1 :: ·)), ⟨?_, fun a ha => ?_, fun b hb => ?_⟩, fun i hi => preA_sub _ hs (preA_next _ hs (preA_self _ hs) _ hjm) (hp i hi)⟩
   ·rw [lang_unfold hs, h1, List.flatMap_append, List.flatMap_cons]
    simp only
    conv => lhs; rw [hC.eq]
    simp only [List.map_append, List.map_map, List.append_assoc, List.cons_append]
    rfl
   ·rcases List.mem_append.1 ha with ha | ha
    ·rcases List.mem_append.1 ha with ha | ha
     ·exact hfin a ha
     ·exact hfl A h3 a ha
    ·obtain ⟨w, hw, rfl⟩ := List.mem_map.1 ha
     rw [ltS_cons, hC.lt w hw]; simp
   ·rcases List.mem_append.1 hb with hb | hb
    ·obtain ⟨w, hw, rfl⟩ := List.mem_map.1 hb
     obtain ⟨q1, q2⟩ := hC.ge w hw
     refine ⟨by rw [ltS_cons, q1]; simp, fun h => ?_⟩
     rw [List.cons_prefix_cons] at h
     exact q2 h.2
    ·exact hgt B h4 b hb
  ·rw [h2, Option.bind_none]
   refine ⟨(if (nd k).1 then [[]] else []) ++ (A.flatMap fun e => (langA nd 14 e.2).map (e.1 :: ·)), (B.flatMap fun e => (langA nd 14 e.2).map (e.1 :: ·)), ⟨?_, fun a ha => ?_, fun b hb => hgt B h4 b hb⟩, fun i hi => by cases hi⟩
   ·rw [lang_unfold hs, h1, List.flatMap_append]
    simp
   ·rcases List.mem_append.1 ha with ha | ha
    ·exact hfin a ha
    ·exact hfl A h3 a ha
def lessN (L : List Str) (s : Str) : Nat := (L.filter fun a => ltS a s).length
theorem CutA.less {L : List Str} {s : Str} {A M B : List Str} (h : CutA L s A M B) : lessN L s = A.length := by
 unfold lessN
 rw [h.eq, List.filter_append, List.filter_append, List.filter_eq_self.2 h.lt]
 have h1 : (M.map (s ++ ·)).filter (fun a => ltS a s) = [] := by
  rw [List.filter_eq_nil_iff]
  intro a ha
  obtain ⟨w, _, rfl⟩ := List.mem_map.1 ha
  rw [ltS_pre]; simp
 have h2 : B.filter (fun a => ltS a s) = [] := by
  rw [List.filter_eq_nil_iff]
  intro a ha
  rw [(h.ge a ha).1]; simp
 rw [h1, h2]
 simp
theorem CutA.first {L : List Str} {s : Str} {A M B : List Str} (h : CutA L s A M B) : IsFirst L s A.length := by
 refine ⟨by rw [h.eq]; simp, fun i hi => ?_, fun hlt => ?_⟩
 ·have : L.getD i [] = A[i] := by
   rw [List.getD_eq_getElem?_getD, h.eq, List.append_assoc, List.getElem?_append_left hi, List.getElem?_eq_getElem hi]; rfl
  rw [this]
  exact h.lt _ (List.getElem_mem hi)
 ·have h1 : L.getD A.length [] = (M.map (s ++ ·) ++ B).getD 0 [] := by
   rw [List.getD_eq_getElem?_getD, List.getD_eq_getElem?_getD, h.eq, List.append_assoc, List.getElem?_append_right (Nat.le_refl _), Nat.sub_self]
  rw [h1]
  cases hM : M with
  | nil =>
   cases hB : B with
   | nil => rw [h.eq, hM, hB] at hlt; simp at hlt
   | cons b B' =>
    have := (h.ge b (by rw [hB]; exact List.mem_cons_self)).1
    simpa using this
  | cons m M' =>
   have := ltS_pre s m
   simpa using this
/-! the reference's number of lesser words -/
theorem sum_nil {α : Type} (G : List α) : (G.map fun _ => (0 : Nat)).sum = 0 := by
 induction G with
 | nil => rfl
 | cons _ _ ih => rw [List.map_cons, List.sum_cons, ih]
end
section
theorem SortedW.rise {L : List Str} (h : SortedW L) : riseB L = true := by
 unfold riseB
 rw [allI_iff]
 intro i _ hi
 unfold riseAt
 rcases Nat.eq_zero_or_pos i with h0 | h0
 ·rw [h0]; rfl
 ·rw [decide_eq_false (by omega), Bool.false_or, List.getD_eq_getElem?_getD, List.getD_eq_getElem?_getD, List.getElem?_eq_getElem (by omega), List.getElem?_eq_getElem (by omega)]
  exact List.pairwise_iff_getElem.1 h (i - 1) i (by omega) (by omega) (by omega)
theorem CutA.getD_end {L : List Str} {s : Str} {A M B : List Str} (h : CutA L s A M B) (hl : A.length + M.length < L.length) : ¬ s <+: L.getD (A.length + M.length) [] := by
 cases hB : B with
 | nil =>
  have := congrArg List.length h.eq
  rw [hB] at this
  simp at this
  omega
 | cons b B' =>
  have : L.getD (A.length + M.length) [] = b := by
   rw [List.getD_eq_getElem?_getD, h.eq, hB, List.getElem?_append_right (by simp)]
   simp
  rw [this]
  exact (h.ge b (by rw [hB]; exact List.mem_cons_self)).2
theorem CutA.len {L : List Str} {s : Str} {A M B : List Str} (h : CutA L s A M B) : A.length + M.length ≤ L.length := by
 have := congrArg List.length h.eq
 simp at this
 omega
theorem GoodD.sorted {D : List Node} (h : GoodD D) : SortedW (langA (ndD D) 14 0) := langA_sorted _ h.shape.rise 14 0
def behindA (D : List Node) (s : Str) : List Str := match afterA (ndD D) 0 s with | some j => langA (ndD D) 14 j | none => []
theorem GoodD.cut {D : List Node} (h : GoodD D) (s : Str) : ∃ A B, CutA (langA (ndD D) 14 0) s A (behindA D s) B := by
 obtain ⟨A, B, h1, _⟩ := cut_exists h.shape.rise s 0 h.num.good.short
 exact ⟨A, B, h1⟩
end
section
def flA (D : List Node) (G : List (UInt8 × Nat)) : List Str := G.flatMap fun e => (langA (ndD D) 14 e.2).map (e.1 :: ·)
theorem lang_fl {D : List Node} {k : Nat} (h : shortA (ndD D) 14 k) : langA (ndD D) 14 k = (if (ndD D k).1 then [[]] else []) ++ flA D (ndD D k).2 := lang_unfold h
theorem flA_ne {D : List Node} {G : List (UInt8 × Nat)} {w : Str} (h : w ∈ flA D G) : w ≠ [] := by
 obtain ⟨e, _, h⟩ := List.mem_flatMap.1 h
 obtain ⟨v, _, rfl⟩ := List.mem_map.1 h
 intro h; cases h
theorem acc_first (D : List Node) (hG : GoodD D) (s : Str) {A B : List Str} (hc : CutA (langA (ndD D) 14 0) s A (behindA D s) B) : (decide (A.length < (langA (ndD D) 14 0).length) && (langA (ndD D) 14 0).getD A.length [] == s) = accA (ndD D) s := by
 have hnil : behindA D s = [] → (decide (A.length < (langA (ndD D) 14 0).length) && (langA (ndD D) 14 0).getD A.length [] == s) = false := fun hM => by
  rcases Nat.lt_or_ge A.length (langA (ndD D) 14 0).length with h1 | h1
  ·have := hc.getD_end (by rw [hM]; exact h1)
   rw [hM, List.length_nil, Nat.add_zero] at this
   have hne : ((langA (ndD D) 14 0).getD A.length [] == s) = false := by
    rw [beq_eq_false_iff_ne]
    intro h
    rw [h] at this
    exact this (List.prefix_refl s)
   rw [hne, Bool.and_false]
  ·rw [decide_eq_false (by omega), Bool.false_and]
 have hcons : ∀ {m : Str} {M : List Str}, behindA D s = m :: M → A.length < (langA (ndD D) 14 0).length ∧ (langA (ndD D) 14 0).getD A.length [] = s ++ m := fun {m M} hM => by
  have hl := hc.len
  rw [hM, List.length_cons] at hl
  refine ⟨by omega, ?_⟩
  rw [List.getD_eq_getElem?_getD, hc.eq, hM, List.append_assoc, List.getElem?_append_right (Nat.le_refl _), Nat.sub_self]
  rfl
 unfold accA
 cases ha : afterA (ndD D) 0 s with
 | none => exact hnil (by unfold behindA; rw [ha])
 | some j =>
  have hj := afterA_lt hG.shape s hG.shape.pos ha
  have hb : behindA D s = langA (ndD D) 14 j := by unfold behindA; rw [ha]
  rw [lang_fl (hG.short hj)] at hb
  show _ = (ndD D j).1
  cases hf : (ndD D j).1 with
  | true =>
   rw [hf, if_pos rfl] at hb
   obtain ⟨h1, h2⟩ := hcons hb
   rw [decide_eq_true h1, h2, List.append_nil]
   simp
  | false =>
   rw [hf, if_neg (by simp), List.nil_append] at hb
   cases hfl : flA D (ndD D j).2 with
   | nil => exact hnil (by rw [hb, hfl])
   | cons m M =>
    rw [hfl] at hb
    obtain ⟨h1, h2⟩ := hcons hb
    have hm : m ≠ [] := flA_ne (D := D) (G := (ndD D j).2) (by rw [hfl]; exact List.mem_cons_self)
    have hne : ((langA (ndD D) 14 0).getD A.length [] == s) = false := by
     rw [beq_eq_false_iff_ne, h2]
     intro h
     exact hm (List.append_right_eq_self.1 h)
    rw [hne, Bool.and_false]
end
end Go.Proofs.YtdaoecpkgobelaaGreatDoor
