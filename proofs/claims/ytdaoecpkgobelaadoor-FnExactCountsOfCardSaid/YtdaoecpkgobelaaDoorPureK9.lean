/- The reference's builder: the node of a list, among nodes that are all different. -/
import Derived.Test.YtdaoecpkgobelaaDoorPureK8
namespace Go.Proofs.YtdaoecpkgobelaaDoor
open Go Go.RowKit
set_option linter.unusedSimpArgs false
set_option linter.unusedVariables false

theorem agreeA {nd nd' : Nat → Bool × List (UInt8 × Nat)} {n k : Nat} (h : ∀ j ∈ preA nd n k, nd' j = nd j) :
    preA nd' n k = preA nd n k ∧ langA nd' n k = langA nd n k ∧ (shortA nd n k → shortA nd' n k) := by
  have h' : ∀ j ∈ preA nd n k, nd' (id j) = ((nd j).1, (nd j).2.map fun e => (e.1, id e.2)) := fun j hj => by
    show nd' j = _
    rw [h j hj]
    refine Prod.ext rfl ?_
    show (nd j).2 = (nd j).2.map _
    exact (List.map_id _).symm
  have h1 := preA_map nd nd' id n k h'
  have h2 := langA_map nd nd' id n k h'
  have h3 := shortA_map nd nd' id n k h'
  simp only [id, List.map_id] at h1 h2 h3
  exact ⟨h1, h2, h3⟩

/-- Nodes, each behind those that it leads to, all different, with words behind each edge. -/
structure InvB (N : List Node) : Prop where
  node : ∀ j (h : j < N.length), NodeOk j N[j]
  dist : N.Nodup
  use : ∀ k, ∀ e ∈ (ndD N k).2, ∃ h, shortA (ndD N) h e.2 ∧ langA (ndD N) h e.2 ≠ []
theorem InvB.edge_lt {N : List Node} (h : InvB N) {k : Nat} : ∀ e ∈ (ndD N k).2, e.2 < k ∧ k < N.length := fun e he => by
  by_cases hk : k < N.length
  · rw [ndD_at hk] at he
    have := (List.of_mem_zip (he : (e.1, e.2) ∈ _)).2
    obtain ⟨t, ht, e1⟩ := List.mem_map.1 this
    have := (h.node k hk).next t ht
    exact ⟨by omega, hk⟩
  · rw [ndD_none (by omega)] at he; cases he
theorem InvB.pre_lt {N : List Node} (h : InvB N) : ∀ (n : Nat) {k j : Nat}, k < N.length → j ∈ preA (ndD N) n k → j < N.length
  | 0, _, _, _, hj => by cases hj
  | n + 1, k, j, hk, hj => by
    rcases List.mem_cons.1 hj with rfl | hj
    · exact hk
    · obtain ⟨e, he, hj⟩ := List.mem_flatMap.1 hj
      have := h.edge_lt e he
      exact h.pre_lt n (by omega) hj
theorem ndD_app {N t : List Node} {j : Nat} (h : j < N.length) : ndD (N ++ t) j = ndD N j := by
  rw [ndD_at h, ndD_at (by rw [List.length_append]; omega), List.getElem_append_left h]
theorem InvB.ext {N t : List Node} (h : InvB N) (n : Nat) {k : Nat} (hk : k < N.length) :
    preA (ndD (N ++ t)) n k = preA (ndD N) n k ∧ langA (ndD (N ++ t)) n k = langA (ndD N) n k ∧ (shortA (ndD N) n k → shortA (ndD (N ++ t)) n k) :=
  agreeA fun j hj => ndD_app (h.pre_lt n hk hj)

theorem find_at (N : List Node) (x : Node) (hx : ∀ y ∈ N, y.Next.length ≤ 10000000) (hN : N.length ≤ 10000000) :
    ∀ (c i : Nat), i + c = N.length → (∀ j (h : j < N.length), j < i → N[j] ≠ x) →
      (∃ j, ∃ (h : j < N.length), N[j] = x ∧ loopM (fun s : Int => m_spec_l06B_build_l2 N x.Final x.Letters x.Next s) (i : Int) = some (.inr ((j : Int), (⟨N⟩ : l06B)))) ∨
      (x ∉ N ∧ loopM (fun s : Int => m_spec_l06B_build_l2 N x.Final x.Letters x.Next s) (i : Int) = some (.inl ()))
  | 0, i, hc, hno => by
    right
    refine ⟨fun hm => ?_, loopM_done ?_⟩
    · obtain ⟨j, hj, e⟩ := List.mem_iff_getElem.1 hm
      exact hno j hj (by omega) e
    · show m_spec_l06B_build_l2 N _ _ _ (i : Int) = _
      unfold m_spec_l06B_build_l2
      rw [decide_eq_false (by omega)]; rfl
  | c + 1, i, hc, hno => by
    have hi : i < N.length := by omega
    have hst : m_spec_l06B_build_l2 N x.Final x.Letters x.Next (i : Int) = some (bif decide (N[i] = x) then .inr (.inr ((i : Int), (⟨N⟩ : l06B))) else .inl (((i + 1 : Nat)) : Int)) := by
      unfold m_spec_l06B_build_l2
      rw [chk_succ (show i ≤ 8000000000000000000 by omega), decide_eq_true (show (i : Int) < (N.length : Int) by omega), cond_true, bind_of (getL_at hi), bind_of (l06Equal_eq _ _ (hx _ (List.getElem_mem hi)))]
      show (bif decide (N[i] = (⟨x.Final, x.Letters, x.Next⟩ : Node)) then _ else _ : Option _) = _
      cases decide (N[i] = x) <;> rfl
    by_cases he : N[i] = x
    · rw [decide_eq_true he] at hst
      exact .inl ⟨i, hi, he, loopM_done hst⟩
    · rw [decide_eq_false he] at hst
      rw [loopM_next (step := fun s : Int => m_spec_l06B_build_l2 N x.Final x.Letters x.Next s) hst]
      refine find_at N x hx hN c (i + 1) (by omega) fun j hj hlt e => ?_
      rcases Nat.lt_or_ge j i with h' | h'
      · exact hno j hj h' e
      · obtain rfl : j = i := by omega
        exact he e

/-- What the builder does with a list of words of at most so many letters. -/
def SpecB (n : Nat) : Prop := ∀ (f : Nat) (N : List Node) (R : List Str), n < f → InvB N → (∀ x ∈ N, x.Next.length ≤ 10000) → SortedW R → (∀ w ∈ R, w.length ≤ n ∧ ∀ c ∈ w, formB c = true) → N.length + totA R + R.length + 1 ≤ 1000000 →
  ∃ (idx : Nat) (t : List Node), m_spec_l06B_build_n f ⟨N⟩ R = some ((idx : Int), ⟨N ++ t⟩) ∧ InvB (N ++ t) ∧ (∀ x ∈ N ++ t, x.Next.length ≤ 10000) ∧ idx < (N ++ t).length ∧
    shortA (ndD (N ++ t)) (n + 1) idx ∧ langA (ndD (N ++ t)) (n + 1) idx = R ∧ t.length ≤ totA R + 1

theorem rise_len {α : Type} {G : List (UInt8 × α)} (h : RiseG G) : G.length ≤ 256 := by
  have key : ∀ (G : List (UInt8 × α)) (b : Nat), RiseG G → (∀ e ∈ G, b ≤ e.1.toNat) → G.length + b ≤ 256 ∨ G = [] := by
    intro G
    induction G with
    | nil => exact fun b _ _ => .inr rfl
    | cons e G ih =>
      intro b hr hb
      rw [RiseG, List.pairwise_cons] at hr
      left
      have hbe := hb e List.mem_cons_self
      have h256 := e.1.toNat_lt
      rcases ih (e.1.toNat + 1) hr.2 (fun x hx => by have := UInt8.lt_iff_toNat_lt.1 (hr.1 x hx); omega) with h' | h'
      · rw [List.length_cons]; omega
      · rw [h']; simp; omega
  rcases key G 0 h (fun _ _ => Nat.zero_le _) with h' | h'
  · omega
  · rw [h']; simp

theorem build_loop {m f : Nat} (ih : SpecB m) (hf : m < f) (R : List Str) (hRs : SortedW R) (hR : ∀ w ∈ R, w.length ≤ m + 1 ∧ ∀ c ∈ w, formB c = true) (hRl : R.length ≤ 1000000) :
    ∀ (c p : Nat) (N : List Node) (ls : Str) (ids : List Int), p + c = R.length → (∀ w ∈ R.drop p, w ≠ []) → InvB N → (∀ x ∈ N, x.Next.length ≤ 10000) → N.length + totA (R.drop p) + R.length + 1 ≤ 1000000 → ls.length + R.length ≤ 2000000 + p → ids.length + R.length ≤ 2000000 + p →
      ∃ (js : List Nat) (t : List Node), loopM (fun s : Str × (List Node) × (List Int) × Int => m_spec_l06B_build_l1 R (m_spec_l06B_build_n f) s.1 s.2.1 s.2.2.1 s.2.2.2) (ls, N, ids, (p : Int)) =
          some (ls ++ (grpA (R.drop p)).map (·.1), N ++ t, ids ++ js.map (fun j : Nat => (j : Int))) ∧ InvB (N ++ t) ∧ (∀ x ∈ N ++ t, x.Next.length ≤ 10000) ∧
        (grpA (R.drop p)).map (·.2) = js.map (langA (ndD (N ++ t)) (m + 1)) ∧ (∀ j ∈ js, j < (N ++ t).length ∧ shortA (ndD (N ++ t)) (m + 1) j) ∧ t.length ≤ totA (R.drop p) := by
  intro c
  induction c using Nat.strongRecOn with
  | _ c ihc =>
    intro p N ls ids hc hne hN hNx hbig hls hids
    by_cases hend : R.length ≤ p
    · have hd : R.drop p = [] := List.drop_of_length_le hend
      refine ⟨[], [], ?_, by simpa using hN, by simpa using hNx, by rw [hd]; rfl, (fun j hj => by cases hj), Nat.zero_le _⟩
      rw [hd]
      simp only [grpA, List.map_nil, List.append_nil]
      refine loopM_done ?_
      show m_spec_l06B_build_l1 R _ ls N ids (p : Int) = _
      unfold m_spec_l06B_build_l1
      rw [decide_eq_false (by omega)]; rfl
    · have hp : p < R.length := by omega
      have hdrop : R.drop p = R[p] :: R.drop (p + 1) := List.drop_eq_getElem_cons hp
      have hw0 : R[p] ≠ [] := hne _ (by rw [hdrop]; exact List.mem_cons_self)
      cases hRp : R[p] with
      | nil => exact absurd hRp hw0
      | cons ch u =>
        rw [hRp] at hdrop
        have hT := Tails_eq R p ch u _ hdrop hne (by omega)
        have hgr := grpA_run (R.drop (p + 1)) ch u fun w hw => hne w (by rw [hdrop]; exact List.mem_cons_of_mem _ hw)
        rw [← hdrop] at hgr
        have hTl : 1 ≤ (runT ch (R.drop p)).length := by rw [hdrop, runT_hd]; simp
        have hTle := runT_le ch (R.drop p)
        rw [List.length_drop] at hTle
        generalize hTe : runT ch (R.drop p) = T at hT hgr hTl hTle
        -- the tails
        have hsd : SortedW (R.drop p) := List.Pairwise.sublist (List.drop_sublist p R) hRs
        have hTs : SortedW T := (grp_sorted hsd).2 (ch, T) (by rw [hgr]; exact List.mem_cons_self)
        have hTm : ∀ w ∈ T, w.length ≤ m ∧ ∀ c ∈ w, formB c = true := fun w hw => by
          have h1 : ch :: w ∈ R.drop p := grp_mem (e := (ch, T)) (by rw [hgr]; exact List.mem_cons_self) w hw
          have := hR _ (List.mem_of_mem_drop h1)
          rw [List.length_cons] at this
          exact ⟨by omega, fun c hc => this.2 c (List.mem_cons_of_mem _ hc)⟩
        have htot := totA_grp (R.drop p)
        have hsplit : totA (R.drop p) = (1 * T.length + totA T) + totA (R.drop (p + T.length)) := by
          have h1 := flat_grp (R.drop p) hne
          have h2 := flat_grp ((R.drop p).drop T.length) fun w hw => hne w (List.mem_of_mem_drop hw)
          rw [hgr] at h1
          rw [flatG, List.flatMap_cons] at h1
          have h3 : (grpA ((R.drop p).drop T.length)).flatMap (fun e => e.2.map (e.1 :: ·)) = (R.drop p).drop T.length := h2
          rw [h3, List.drop_drop] at h1
          have h4 := congrArg totA h1
          unfold totA at h4
          rw [List.map_append, List.sum_append, List.map_map] at h4
          have h5 : ∀ (T : List Str), (T.map (List.length ∘ fun x => ch :: x)).sum = 1 * T.length + totA T := by
            intro T
            induction T with
            | nil => rfl
            | cons x T ihT =>
              rw [List.map_cons, List.sum_cons, ihT]
              simp only [Function.comp, List.length_cons, totA, List.map_cons, List.sum_cons]
              omega
          have h6 := h5 T
          unfold totA at h6 ⊢
          have h7 : (T.map (List.length ∘ fun x => (ch, T).1 :: x)).sum = (T.map (List.length ∘ fun x => ch :: x)).sum := rfl
          rw [h7, h6] at h4
          omega
        obtain ⟨idx, t1, hrun, hI1, hX1, hidx, hsh, hlang, htl⟩ := ih f N T hf hN hNx hTs hTm (by omega)
        have hsub : subL R[p] 0 1 = some [ch] := by
          rw [hRp, subL_of (by omega) (by omega) (by rw [List.length_cons]; omega)]; rfl
        have hstep : m_spec_l06B_build_l1 R (m_spec_l06B_build_n f) ls N ids (p : Int) = some (.inl (ls ++ [ch], N ++ t1, ids ++ [(idx : Int)], (((p + T.length : Nat)) : Int))) := by
          unfold m_spec_l06B_build_l1
          rw [decide_eq_true (show (p : Int) < (R.length : Int) by omega), cond_true, bind_of hT, bind_of (getL_at hp), bind_of hsub, bind_of (catL_of (by simp; omega)), bind_of hrun, bind_of (catL_of (by simp; omega))]
        have hdd : R.drop (p + T.length) = (R.drop p).drop T.length := by rw [List.drop_drop]
        obtain ⟨js, t2, hrun2, hI2, hX2, hg2, hj2, htl2⟩ := ihc (c - T.length) (by omega) (p + T.length) (N ++ t1) (ls ++ [ch]) (ids ++ [(idx : Int)]) (by omega)
          (fun w hw => hne w (by rw [hdd] at hw; exact List.mem_of_mem_drop hw)) hI1 hX1 (by rw [List.length_append]; omega) (by simp; omega) (by simp; omega)
        obtain ⟨_, hl, hs⟩ := hI1.ext (t := t2) (m + 1) hidx
        refine ⟨idx :: js, t1 ++ t2, ?_, by rw [← List.append_assoc]; exact hI2, by rw [← List.append_assoc]; exact hX2, ?_, fun j hj => ?_, by rw [List.length_append]; omega⟩
        · rw [loopM_next (step := fun s : Str × (List Node) × (List Int) × Int => m_spec_l06B_build_l1 R (m_spec_l06B_build_n f) s.1 s.2.1 s.2.2.1 s.2.2.2) hstep, hrun2, hgr, hdd]
          simp [List.append_assoc]
        · rw [hgr, ← hdd, List.map_cons, hg2, List.map_cons, ← List.append_assoc, hl, hlang]
        · rw [← List.append_assoc]
          rcases List.mem_cons.1 hj with rfl | hj
          · exact ⟨by rw [List.length_append]; omega, hs hsh⟩
          · exact hj2 j hj

theorem zip_fs {α β : Type} : ∀ (G : List (α × β)), (G.map (·.1)).zip (G.map (·.2)) = G
  | [] => rfl
  | e :: G => by rw [List.map_cons, List.map_cons, List.zip_cons_cons, zip_fs G]
theorem lang_node {nd : Nat → Bool × List (UInt8 × Nat)} {n k : Nat} {b : Bool} {G : List (UInt8 × List Str)} {js : List Nat} (hk : nd k = (b, (G.map (·.1)).zip js)) (hG : G.map (·.2) = js.map (langA nd n)) :
    langA nd (n + 1) k = (if b then [[]] else []) ++ flatG G := by
  rw [langA, hk]
  congr 1
  have h1 : ((G.map (·.1)).zip js).map (fun e => (e.1, langA nd n e.2)) = G := by
    have h2 : (G.map (·.1)).zip (js.map (langA nd n)) = ((G.map (·.1)).zip js).map (Prod.map id (langA nd n)) := List.zip_map_right
    rw [← hG, zip_fs] at h2
    exact h2.symm
  conv => rhs; rw [← h1]
  unfold flatG
  rw [List.flatMap_map]
theorem build_head (R : List Str) : (bif decide (0 < (R.length : Int)) then (getL R 0).bind fun e28 => some (e28 == ([] : Str)) else some false : Option Bool) = some (hasE R) := by
  cases R with
  | nil => rfl
  | cons x R =>
    rw [decide_eq_true (show (0 : Int) < ((x :: R).length : Int) by rw [List.length_cons]; omega), cond_true]
    show ((some x).bind _) = _
    cases x <;> rfl
theorem build_step : ∀ n, SpecB n := by
  intro n
  induction n using Nat.strongRecOn with
  | _ n ihn =>
    intro f N R hf hN hNx hRs hR hbig
    obtain ⟨f, rfl⟩ : ∃ g, f = g + 1 := ⟨f - 1, by omega⟩
    show ∃ idx t, m_spec_l06B_build_b (m_spec_l06B_build_n f) ⟨N⟩ R = _ ∧ _
    unfold m_spec_l06B_build_b
    rw [build_head, Option.bind_some]
    obtain ⟨p0, hp0, hpd, hpg, hpne⟩ : ∃ p0 : Nat, (bif hasE R then some (true, 1) else some (false, 0) : Option (Bool × Int)) = some (hasE R, (p0 : Int)) ∧ p0 ≤ R.length ∧ grpA (R.drop p0) = grpA R ∧ ∀ w ∈ R.drop p0, w ≠ [] := by
      cases R with
      | nil => exact ⟨0, rfl, Nat.le_refl _, rfl, fun w hw => by cases hw⟩
      | cons x R =>
        cases x with
        | nil => exact ⟨1, rfl, by simp, by rw [List.drop_succ_cons, List.drop_zero, grpA], fun w hw => sorted_tail hRs w (by simpa using hw)⟩
        | cons c u => exact ⟨0, rfl, Nat.zero_le _, rfl, fun w hw => by
            rw [List.drop_zero] at hw
            rcases List.mem_cons.1 hw with rfl | hw
            · simp
            · exact sorted_tail hRs w hw⟩
    rw [hp0, Option.bind_some]
    have htd : totA (R.drop p0) ≤ totA R := by
      unfold totA
      have h1 : R = R.take p0 ++ R.drop p0 := (List.take_append_drop p0 R).symm
      have h2 := congrArg (fun l => (List.map List.length l).sum) h1
      simp only [List.map_append, List.sum_append] at h2
      omega
    -- the loop over the groups
    obtain ⟨js, t, hloop, hI, hX, hg, hj, htl⟩ : ∃ (js : List Nat) (t : List Node), loopM (fun s : Str × (List Node) × (List Int) × Int => m_spec_l06B_build_l1 R (m_spec_l06B_build_n f) s.1 s.2.1 s.2.2.1 s.2.2.2) (([] : Str), N, ([] : List Int), (p0 : Int)) =
          some ((grpA R).map (·.1), N ++ t, js.map (fun j : Nat => (j : Int))) ∧ InvB (N ++ t) ∧ (∀ x ∈ N ++ t, x.Next.length ≤ 10000) ∧
        (grpA R).map (·.2) = js.map (langA (ndD (N ++ t)) n) ∧ (∀ j ∈ js, j < (N ++ t).length ∧ shortA (ndD (N ++ t)) n j) ∧ t.length ≤ totA R := by
      cases n with
      | zero =>
        have hdn : R.drop p0 = [] := by
          cases hd : R.drop p0 with
          | nil => rfl
          | cons w L =>
            have h1 := hpne w (by rw [hd]; exact List.mem_cons_self)
            have h2 := (hR w (List.mem_of_mem_drop (by rw [hd]; exact List.mem_cons_self))).1
            exact absurd (List.eq_nil_of_length_eq_zero (by omega)) h1
        have hgn : grpA R = [] := by rw [← hpg, hdn]; rfl
        refine ⟨[], [], ?_, by simpa using hN, by simpa using hNx, by rw [hgn]; rfl, (fun j hj => by cases hj), Nat.zero_le _⟩
        rw [hgn]
        refine loopM_done ?_
        show m_spec_l06B_build_l1 R _ [] N [] (p0 : Int) = _
        unfold m_spec_l06B_build_l1
        have : R.length ≤ p0 := by
          have := congrArg List.length hdn
          rw [List.length_drop, List.length_nil] at this
          omega
        rw [decide_eq_false (by omega)]
        simp
      | succ m =>
        have hRl : R.length ≤ 1000000 := by omega
        obtain ⟨js, t, h1, h2, h3, h4, h5, h6⟩ := build_loop (ihn m (Nat.lt_succ_self m)) (show m < f by omega) R hRs hR hRl (R.length - p0) p0 N [] [] (by omega) hpne hN hNx (by omega) (by simp; omega) (by simp; omega)
        rw [hpg] at h1 h4
        simp only [List.nil_append] at h1
        exact ⟨js, t, h1, h2, h3, h4, h5, by omega⟩
    have hloop' : ((loopM (fun s : Str × (List Node) × (List Int) × Int => m_spec_l06B_build_l1 R (m_spec_l06B_build_n f) s.1 s.2.1 s.2.2.1 s.2.2.2) (([] : Str), N, ([] : List Int), (p0 : Int))).bind fun x76 => match x76 with | (s68, xs70, xs73) => some (s68, xs73, xs70)) = some ((grpA R).map (·.1), js.map (fun j : Nat => (j : Int)), N ++ t) := by
      rw [bind_of hloop]
    show ∃ idx t, (((loopM (fun s : Str × (List Node) × (List Int) × Int => m_spec_l06B_build_l1 R (m_spec_l06B_build_n f) s.1 s.2.1 s.2.2.1 s.2.2.2) (([] : Str), N, ([] : List Int), (p0 : Int))).bind fun x76 => match x76 with | (s68, xs70, xs73) => some (s68, xs73, xs70)).bind _) = _ ∧ _
    rw [bind_of hloop']
    -- the node
    have hrise := (grp_sorted hRs).1
    have hGl := rise_len hrise
    have hjl : js.length = (grpA R).length := by
      have := congrArg List.length hg
      rw [List.length_map, List.length_map] at this
      exact this.symm
    have hx : NodeOk (N ++ t).length (⟨hasE R, (grpA R).map (·.1), js.map (fun j : Nat => (j : Int))⟩ : Node) := by
      refine ⟨by simp [hjl], fun c hc => ?_, fun i hi => ?_, fun q hq => ?_⟩
      · obtain ⟨e, he, rfl⟩ := List.mem_map.1 hc
        obtain ⟨w, hw⟩ := List.exists_mem_of_ne_nil _ (grp_ne R e he)
        exact (hR _ (grp_mem he w hw)).2 _ List.mem_cons_self
      · have hi' : i + 1 < (grpA R).length := by simpa using hi
        have := List.pairwise_iff_getElem.1 hrise i (i + 1) (by omega) hi' (by omega)
        simpa using this
      · obtain ⟨j, hj', rfl⟩ := List.mem_map.1 hq
        have := (hj j hj').1
        exact ⟨by omega, by omega⟩
    have hndx : ndN (⟨hasE R, (grpA R).map (·.1), js.map (fun j : Nat => (j : Int))⟩ : Node) = (hasE R, ((grpA R).map (·.1)).zip js) := by
      unfold ndN
      have : (js.map (fun j : Nat => (j : Int))).map Int.toNat = js := by
        rw [List.map_map]
        refine (List.map_congr_left fun j _ => ?_).trans (List.map_id _)
        simp
      simp only [this]
    generalize hxx : (⟨hasE R, (grpA R).map (·.1), js.map (fun j : Nat => (j : Int))⟩ : Node) = x at hx hndx
    have hxn : x.Next.length ≤ 256 := by rw [← hxx]; simp; omega
    have hsp := sorted_split hRs
    have hedge : ∀ e ∈ (ndN x).2, e.2 ∈ js := fun e he => by
      rw [hndx] at he
      exact (List.of_mem_zip (he : (e.1, e.2) ∈ _)).2
    have hfind := find_at (N ++ t) x (fun y hy => Nat.le_trans (hX y hy) (by omega)) (by rw [List.length_append]; omega) (N ++ t).length 0 (by omega) (fun j hj h0 => by omega)
    have hxf : x.Final = hasE R ∧ x.Letters = (grpA R).map (·.1) ∧ x.Next = js.map (fun j : Nat => (j : Int)) := by rw [← hxx]; exact ⟨rfl, rfl, rfl⟩
    rw [hxf.1, hxf.2.1, hxf.2.2] at hfind
    rcases hfind with ⟨j, hjlt, hjx, hfl⟩ | ⟨hnot, hfl⟩
    · have hfl' : loopM (fun s : Int => m_spec_l06B_build_l2 (N ++ t) (hasE R) ((grpA R).map (·.1)) (js.map (fun j : Nat => (j : Int))) s) 0 = some (.inr ((j : Int), (⟨N ++ t⟩ : l06B))) := hfl
      refine ⟨j, t, ?_, hI, hX, hjlt, ?_, ?_, by omega⟩
      · show ((((loopM (fun s : Int => m_spec_l06B_build_l2 (N ++ t) (hasE R) ((grpA R).map (·.1)) (js.map (fun j : Nat => (j : Int))) s) 0).bind _).bind _)) = _
        rw [bind_of hfl']
        rfl
      · intro e he
        rw [ndD_at hjlt, hjx] at he
        exact (hj _ (hedge e he)).2
      · rw [lang_node (b := hasE R) (G := grpA R) (js := js) (by rw [ndD_at hjlt, hjx, hndx]) hg]
        exact hsp.symm
    · have hfl' : loopM (fun s : Int => m_spec_l06B_build_l2 (N ++ t) (hasE R) ((grpA R).map (·.1)) (js.map (fun j : Nat => (j : Int))) s) 0 = some (.inl ()) := hfl
      have hlt : (N ++ t).length < (N ++ t ++ [x]).length := by rw [List.length_append (bs := [x])]; simp
      have hlast : ndD (N ++ t ++ [x]) (N ++ t).length = ndN x := by
        rw [ndD_at hlt, List.getElem_append_right (Nat.le_refl _)]; simp
      have hext : ∀ j ∈ js, langA (ndD (N ++ t ++ [x])) n j = langA (ndD (N ++ t)) n j ∧ shortA (ndD (N ++ t ++ [x])) n j := fun j hj' => by
        obtain ⟨_, h2, h3⟩ := hI.ext (t := [x]) n (hj j hj').1
        exact ⟨h2, h3 (hj j hj').2⟩
      have hg2 : (grpA R).map (·.2) = js.map (langA (ndD (N ++ t ++ [x])) n) := by
        rw [hg]
        exact List.map_congr_left fun j hj' => (hext j hj').1.symm
      refine ⟨(N ++ t).length, t ++ [x], ?_, ?_, ?_, ?_, ?_, ?_, ?_⟩
      · show ((((loopM (fun s : Int => m_spec_l06B_build_l2 (N ++ t) (hasE R) ((grpA R).map (·.1)) (js.map (fun j : Nat => (j : Int))) s) 0).bind _).bind _)) = _
        rw [bind_of hfl']
        show ((catL (N ++ t) [(⟨hasE R, (grpA R).map (·.1), js.map (fun j : Nat => (j : Int))⟩ : Node)]).bind _) = _
        rw [hxx, catL_of (by rw [List.length_append, List.length_singleton]; omega), Option.bind_some]
        have : chk (((N ++ t ++ [x]).length : Int) - 1) = some ((N ++ t).length : Int) := chk_to _ (by rw [List.length_append (bs := [x])]; simp) (by omega) (by rw [List.length_append]; omega)
        rw [bind_of this, List.append_assoc]
      · rw [← List.append_assoc]
        refine ⟨fun j hjl' => ?_, ?_, fun k e he => ?_⟩
        · rcases Nat.lt_or_ge j (N ++ t).length with h' | h'
          · rw [List.getElem_append_left h']; exact hI.node j h'
          · have hjj : j = (N ++ t).length := by rw [List.length_append (bs := [x]), List.length_singleton] at hjl'; omega
            subst hjj
            rw [List.getElem_append_right (Nat.le_refl _)]
            simp only [Nat.sub_self, List.getElem_cons_zero]
            exact hx
        · rw [List.nodup_append]
          exact ⟨hI.dist, by simp, fun a ha b hb => by rw [List.mem_singleton] at hb; subst hb; rintro rfl; exact hnot ha⟩
        · rcases Nat.lt_or_ge k (N ++ t).length with h' | h'
          · rw [ndD_app h'] at he
            obtain ⟨h, h1, h2⟩ := hI.use k e he
            obtain ⟨_, h3, h4⟩ := hI.ext (t := [x]) h (Nat.lt_trans (hI.edge_lt e he).1 h')
            exact ⟨h, h4 h1, by rw [h3]; exact h2⟩
          · have hk : k < (N ++ t ++ [x]).length := by
              rcases Nat.lt_or_ge k (N ++ t ++ [x]).length with h1 | h1
              · exact h1
              · rw [ndD_none h1] at he; cases he
            have hkk : k = (N ++ t).length := by rw [List.length_append (bs := [x]), List.length_singleton] at hk; omega
            subst hkk
            rw [hlast] at he
            have hin := hedge e he
            refine ⟨n, (hext _ hin).2, ?_⟩
            have hmem : langA (ndD (N ++ t ++ [x])) n e.2 ∈ (grpA R).map (·.2) := by
              rw [hg2]; exact List.mem_map.2 ⟨_, hin, rfl⟩
            obtain ⟨g, hg', hge⟩ := List.mem_map.1 hmem
            rw [← hge]
            exact grp_ne R g hg'
      · rw [← List.append_assoc]
        intro y hy
        rcases List.mem_append.1 hy with hy | hy
        · exact hX y hy
        · rw [List.mem_singleton] at hy; subst hy; omega
      · rw [← List.append_assoc]; exact hlt
      · rw [← List.append_assoc]
        intro e he
        rw [hlast] at he
        exact (hext _ (hedge e he)).2
      · rw [← List.append_assoc, lang_node (b := hasE R) (G := grpA R) (js := js) (by rw [hlast, hndx]) hg2]
        exact hsp.symm
      · rw [List.length_append, List.length_singleton]; omega

end Go.Proofs.YtdaoecpkgobelaaDoor
