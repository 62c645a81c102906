/- The reference's automaton of a list; its test of an automaton: just the good ones pass. -/
import Derived.Test.YtdaoecpkgobelaaDoorPureK10
namespace Go.Proofs.YtdaoecpkgobelaaDoor
open Go Go.RowKit
set_option linter.unusedSimpArgs false
set_option linter.unusedVariables false

theorem InvB.good {N : List Node} (hN : InvB N) {F r : Nat} (hr : r < N.length) (hs : shortA (ndD N) F r) : GoodA (ndD N) F r := by
  refine ⟨hs, fun k hk => ?_, fun k hk e he => ?_, fun k hk j hj e => ?_⟩
  · have := hN.pre_lt F hr hk
    rw [ndD_at this]
    exact (hN.node k this).rise.apart
  · obtain ⟨h, h1, h2⟩ := hN.use k e he
    have hen := preA_short _ hs (preA_next _ hs hk e he)
    have e2 : langA (ndD N) h e.2 = langA (ndD N) F e.2 := by
      rcases Nat.le_total F h with hle | hle
      · exact langA_fuel _ hle hen
      · exact (langA_fuel _ hle h1).symm
    rw [← e2]; exact h2
  · have h1 := hN.pre_lt F hr hk
    have h2 := hN.pre_lt F hr hj
    rw [ndD_at h1, ndD_at h2] at e
    have := ndN_inj (hN.node k h1) (hN.node j h2) e
    have hp := List.pairwise_iff_getElem.1 (List.nodup_iff_pairwise_ne.1 hN.dist)
    rcases Nat.lt_trichotomy k j with hlt | heq | hlt
    · exact absurd this (hp k j h1 h2 hlt)
    · exact heq
    · exact absurd this.symm (hp j k h2 h1 hlt)
theorem full_nd {N : List Node} {K : List Nat} (hlt : ∀ k ∈ K, k < N.length) : (K.map (fullN N K)).map ndN = renA (ndD N) K := by
  unfold renA
  rw [List.map_map]
  refine List.map_congr_left fun k hk => ?_
  have hk' := hlt k hk
  have hf : fullN N K k = ⟨N[k].Final, N[k].Letters, N[k].Next.map fun t => (K.idxOf t.toNat : Int)⟩ := by
    unfold fullN; rw [List.getElem?_eq_getElem hk']
  show ndN (fullN N K k) = _
  rw [hf, ndD_at hk']
  refine Prod.ext rfl ?_
  show N[k].Letters.zip ((N[k].Next.map fun t => (K.idxOf t.toNat : Int)).map Int.toNat) = (N[k].Letters.zip (N[k].Next.map Int.toNat)).map _
  have : (N[k].Next.map fun t => (K.idxOf t.toNat : Int)).map Int.toNat = (N[k].Next.map Int.toNat).map K.idxOf := by
    rw [List.map_map, List.map_map]
    exact List.map_congr_left fun t _ => by simp [Function.comp]
  rw [this, List.zip_map_right]
  rfl

/-- The reference's automaton of an ordered list. -/
theorem Build_eq (R : List Str) (hRs : SortedW R) (hR : ∀ w ∈ R, w.length ≤ 13 ∧ ∀ c ∈ w, formB c = true) (hbig : totA R + R.length + 1 ≤ 1000000) :
    ∃ D : List Node, m_spec_l06Build R = some ⟨D⟩ ∧ GoodN 14 (D.map ndN) ∧ langA (ndD D) 14 0 = R ∧ (∀ x ∈ D, NodeOk D.length x) ∧ (∀ x ∈ D, x.Next.length ≤ 10000) ∧ 1 ≤ D.length ∧ D.length ≤ 2000000 := by
  have hI0 : InvB [] := ⟨fun j h => by simp at h, List.nodup_nil, fun k e he => by rw [ndD_none (Nat.zero_le _)] at he; cases he⟩
  obtain ⟨idx, t, hrun, hI, hX, hidx, hsh, hlang, htl⟩ := build_step 13 fuelN [] R (by show 13 < 100000; omega) hI0 (fun x hx => by cases hx) hRs hR (by simp; omega)
  rw [List.nil_append] at hrun hI hX hidx hsh hlang
  have hgood := hI.good hidx hsh
  have hnum := Number_eq hI hX (by omega) (n := 14) (by omega) hidx hsh
  have hKlt : ∀ k ∈ ddA [] (preA (ndD t) 14 idx), k < t.length := fun k hk => by
    rw [mem_ddA] at hk
    exact hI.pre_lt 14 hidx (hk.resolve_left (by simp))
  have hGN := hgood.num
  have hrun' : m_spec_l06B_build (⟨([] : (List Node))⟩ : l06B) R = some ((idx : Int), (⟨t⟩ : l06B)) := hrun
  generalize hK : ddA [] (preA (ndD t) 14 idx) = K at hnum hKlt hGN
  have hnd : K.Nodup := by rw [← hK]; exact ddA_nodup _ List.nodup_nil
  have hfull := full_nd (K := K) hKlt
  have hcl : ∀ k ∈ K, ∀ e ∈ (ndD t k).2, e.2 ∈ K := fun k hk e he => by
    rw [← hK, mem_ddA] at hk ⊢
    exact .inr (preA_next _ hsh (hk.resolve_left (by simp)) e he)
  have hKl := nodup_len hKlt hnd
  refine ⟨K.map (fullN t K), ?_, ?_, ?_, fun x hx => ?_, fun x hx => ?_, ?_, ?_⟩
  · unfold m_spec_l06Build
    rw [bind_of hrun']
    show ((m_spec_l06Number t (idx : Int)).bind _) = _
    rw [bind_of hnum]
  · rw [hfull]; exact hGN.1
  · show langA (ndL ((K.map (fullN t K)).map ndN)) 14 0 = R
    rw [hfull, hGN.2, hlang]
  · obtain ⟨k, hk, rfl⟩ := List.mem_map.1 hx
    have hk' := hKlt k hk
    have hn := hI.node k hk'
    have hf : fullN t K k = ⟨t[k].Final, t[k].Letters, t[k].Next.map fun t => (K.idxOf t.toNat : Int)⟩ := by
      unfold fullN; rw [List.getElem?_eq_getElem hk']
    rw [hf]
    refine ⟨by simp [hn.len], hn.form, hn.inc, fun q hq => ?_⟩
    obtain ⟨u, hu, rfl⟩ := List.mem_map.1 hq
    obtain ⟨i, hi, rfl⟩ := List.mem_iff_getElem.1 hu
    have he := hn.edge hi
    have := hcl k hk _ (by rw [ndD_at hk']; exact List.mem_of_getElem? he)
    have := List.idxOf_lt_length_of_mem this
    simp only at this
    rw [List.length_map]
    exact ⟨by omega, by omega⟩
  · obtain ⟨k, hk, rfl⟩ := List.mem_map.1 hx
    have hk' := hKlt k hk
    have hf : fullN t K k = ⟨t[k].Final, t[k].Letters, t[k].Next.map fun t => (K.idxOf t.toNat : Int)⟩ := by
      unfold fullN; rw [List.getElem?_eq_getElem hk']
    rw [hf]
    simp only [List.length_map]
    exact hX _ (List.getElem_mem hk')
  · rw [List.length_map]
    have : idx ∈ K := by rw [← hK, mem_ddA]; exact .inr (preA_self _ hsh)
    exact List.length_pos_of_mem this
  · rw [List.length_map]; omega

/-! equal automata -/
theorem Same_eq (a b : Dawg) (hl : a.Nodes.length ≤ 10000000) (hx : ∀ x ∈ a.Nodes, x.Next.length ≤ 10000000) : m_spec_l06Same a b = some (decide (a.Nodes = b.Nodes)) := by
  unfold m_spec_l06Same
  by_cases h : a.Nodes.length = b.Nodes.length
  · rw [show ((a.Nodes.length : Int) != (b.Nodes.length : Int)) = false by rw [h]; simp, cond_false]
    have := loop_all (step := fun s => m_spec_l06Same_l1 a b s) (fun i => a.Nodes[i]? == b.Nodes[i]?) a.Nodes.length (Sum.inl () : Unit ⊕ Bool) (.inr false) (fun i hi => by
        have hib : i < b.Nodes.length := by omega
        show m_spec_l06Same_l1 a b (i : Int) = _
        unfold m_spec_l06Same_l1
        rw [show chk ((i : Int) + 1) = some ((i : Int) + 1) from chk_in (by omega) (by omega), decide_eq_true (show (i : Int) < (a.Nodes.length : Int) by omega), cond_true, bind_of (getL_at hi), bind_of (getL_at hib), bind_of (l06Equal_eq _ _ (hx _ (List.getElem_mem hi))), List.getElem?_eq_getElem hi, List.getElem?_eq_getElem hib]
        by_cases he : a.Nodes[i] = b.Nodes[i]
        · rw [decide_eq_true he, show (some a.Nodes[i] == some b.Nodes[i]) = true by rw [he]; simp]; rfl
        · rw [decide_eq_false he, show (some a.Nodes[i] == some b.Nodes[i]) = false by simpa using he]; rfl)
      (by show m_spec_l06Same_l1 a b (a.Nodes.length : Int) = _; unfold m_spec_l06Same_l1; rw [decide_eq_false (by omega)]; rfl) a.Nodes.length 0 (by omega)
    rw [show ((0 : Nat) : Int) = 0 from rfl] at this
    rw [bind_of this]
    have hiff : allI (fun i => a.Nodes[i]? == b.Nodes[i]?) 0 a.Nodes.length = decide (a.Nodes = b.Nodes) := by
      rw [Bool.eq_iff_iff, allI_iff, decide_eq_true_iff]
      constructor
      · intro hh
        apply List.ext_getElem?
        intro i
        by_cases hi : i < a.Nodes.length
        · have := hh i (Nat.zero_le _) (by omega)
          simpa using this
        · rw [List.getElem?_eq_none (by omega), List.getElem?_eq_none (by omega)]
      · intro e i _ _; rw [e]; simp
    rw [hiff]
    cases decide (a.Nodes = b.Nodes) <;> rfl
  · rw [show ((a.Nodes.length : Int) != (b.Nodes.length : Int)) = true by rw [bne_iff_ne]; omega, cond_true, decide_eq_false (fun e => h (by rw [e]))]

/-! useful nodes -/
theorem use_inner {d : Dawg} (hD : ShapeOk d.Nodes) (hlen : ∀ x ∈ d.Nodes, x.Next.length ≤ 2000000) {k : Nat} (hk : k < d.Nodes.length) : ∀ (c i : Nat) (xs : List Bool), i + c = d.Nodes[k].Next.length → xs.length = d.Nodes.length →
    ∃ xs', loopM (fun s : (List Bool) × Int => m_spec_l06Useful_l3 d (k : Int) s.1 s.2) (xs, (i : Int)) = some xs' ∧ xs'.length = d.Nodes.length ∧ (∀ j, xs.getD j false = true → xs'.getD j false = true) ∧
      (∀ e ∈ (ndD d.Nodes k).2.drop i, xs.getD e.2 false = true → xs'.getD k false = true)
  | 0, i, xs, hc, hx => by
    have hn := hD.node _ (List.getElem_mem hk)
    refine ⟨xs, loopM_done ?_, hx, fun j h => h, fun e he => ?_⟩
    · show m_spec_l06Useful_l3 d (k : Int) xs (i : Int) = _
      unfold m_spec_l06Useful_l3
      rw [bind_of (getL_at hk), decide_eq_false (by omega)]; rfl
    · rw [ndD_at hk, List.drop_of_length_le (by rw [hn.edges_len]; omega)] at he; cases he
  | c + 1, i, xs, hc, hx => by
    have hn := hD.node _ (List.getElem_mem hk)
    have hnl := hlen _ (List.getElem_mem hk)
    have hi : i < d.Nodes[k].Next.length := by omega
    have hnn := (hn.next _ (List.getElem_mem hi))
    obtain ⟨t, ht⟩ : ∃ t : Nat, d.Nodes[k].Next[i] = (t : Int) := ⟨d.Nodes[k].Next[i].toNat, by omega⟩
    have htl : t < d.Nodes.length := by omega
    have hedge : (ndD d.Nodes k).2[i]? = some (d.Nodes[k].Letters[i]'(by rw [hn.len]; exact hi), t) := by
      rw [ndD_at hk, hn.edge hi, ht, Int.toNat_natCast]
    obtain ⟨h2, h3⟩ := List.getElem?_eq_some_iff.1 hedge
    have hdrop : (ndD d.Nodes k).2.drop i = (d.Nodes[k].Letters[i]'(by rw [hn.len]; exact hi), t) :: (ndD d.Nodes k).2.drop (i + 1) := by
      rw [List.drop_eq_getElem_cons h2, h3]
    have hkx : k < xs.length := by rw [hx]; exact hk
    have hstep : m_spec_l06Useful_l3 d (k : Int) xs (i : Int) = some (.inl (xs.set k (xs.getD k false || xs.getD t false), (((i + 1 : Nat)) : Int))) := by
      unfold m_spec_l06Useful_l3
      rw [chk_succ (show i ≤ 8000000000000000000 by omega), bind_of (getL_at hk), decide_eq_true (show (i : Int) < (d.Nodes[k].Next.length : Int) by omega), cond_true, bind_of (getL_gd false hkx)]
      cases hg : xs.getD k false with
      | true =>
        rw [cond_true, bind_of (getL_gd false hkx), bind_of (setL_of hkx)]
        rfl
      | false =>
        rw [cond_false, bind_of (getL_at hk), bind_of (getL_at hi), ht, bind_of (getL_gd false (by rw [hx]; exact htl)), bind_of (getL_gd false hkx), bind_of (setL_of hkx)]
        rfl
    have hset : ∀ j, (xs.set k (xs.getD k false || xs.getD t false)).getD j false = if j = k then (xs.getD k false || xs.getD t false) else xs.getD j false := fun j => getD_put hkx
    have hmono : ∀ j, xs.getD j false = true → (xs.set k (xs.getD k false || xs.getD t false)).getD j false = true := fun j hj => by
      rw [hset]
      split
      · rename_i e
        have hk' : xs.getD k false = true := e ▸ hj
        rw [hk']; rfl
      · exact hj
    obtain ⟨xs', h1, h2', h3', h4⟩ := use_inner hD hlen hk c (i + 1) (xs.set k (xs.getD k false || xs.getD t false)) (by omega) (by rw [List.length_set]; exact hx)
    refine ⟨xs', ?_, h2', fun j hj => h3' j (hmono j hj), fun e he hg => ?_⟩
    · rw [loopM_next (step := fun s : (List Bool) × Int => m_spec_l06Useful_l3 d (k : Int) s.1 s.2) hstep]; exact h1
    · rw [hdrop] at he
      rcases List.mem_cons.1 he with rfl | he
      · refine h3' k ?_
        rw [hset, if_pos rfl, Bool.or_eq_true]
        exact .inr hg
      · exact h4 e he (hmono _ hg)
theorem use_mid {d : Dawg} (hD : ShapeOk d.Nodes) (hlen : ∀ x ∈ d.Nodes, x.Next.length ≤ 2000000) : ∀ (c k : Nat) (xs : List Bool), k + c = d.Nodes.length → xs.length = d.Nodes.length →
    ∃ xs', loopM (fun s : (List Bool) × Int => m_spec_l06Useful_l2 d s.1 s.2) (xs, (k : Int)) = some xs' ∧ xs'.length = d.Nodes.length ∧ (∀ j, xs.getD j false = true → xs'.getD j false = true) ∧
      (∀ j, k ≤ j → j < d.Nodes.length → ((ndD d.Nodes j).1 = true ∨ ∃ e ∈ (ndD d.Nodes j).2, xs.getD e.2 false = true) → xs'.getD j false = true)
  | 0, k, xs, hc, hx => by
    refine ⟨xs, loopM_done ?_, hx, fun j h => h, fun j h1 h2 => by omega⟩
    show m_spec_l06Useful_l2 d xs (k : Int) = _
    unfold m_spec_l06Useful_l2
    rw [decide_eq_false (by omega)]; rfl
  | c + 1, k, xs, hc, hx => by
    have hk : k < d.Nodes.length := by omega
    have hmax := hD.max
    have hkx : k < xs.length := by rw [hx]; exact hk
    have hhead : (bif xs.getD k false then (getL xs (k : Int)).bind fun e56 => (setL xs (k : Int) true).bind fun xs63 => some xs63 else (getL d.Nodes (k : Int)).bind fun e66 => (getL xs (k : Int)).bind fun e78 => (setL xs (k : Int) e66.Final).bind fun xs85 => some xs85 : Option (List Bool)) = some (xs.set k (xs.getD k false || d.Nodes[k].Final)) := by
      cases hg : xs.getD k false with
      | true => rw [cond_true, bind_of (getL_gd false hkx), bind_of (setL_of hkx)]; rfl
      | false => rw [cond_false, bind_of (getL_at hk), bind_of (getL_gd false hkx), bind_of (setL_of hkx)]; rfl
    have hset : ∀ j, (xs.set k (xs.getD k false || d.Nodes[k].Final)).getD j false = if j = k then (xs.getD k false || d.Nodes[k].Final) else xs.getD j false := fun j => getD_put hkx
    have hmono : ∀ j, xs.getD j false = true → (xs.set k (xs.getD k false || d.Nodes[k].Final)).getD j false = true := fun j hj => by
      rw [hset]
      split
      · rename_i e
        have hk' : xs.getD k false = true := e ▸ hj
        rw [hk']; rfl
      · exact hj
    obtain ⟨x1, g1, g2, g3, g4⟩ := use_inner hD hlen hk d.Nodes[k].Next.length 0 (xs.set k (xs.getD k false || d.Nodes[k].Final)) (by omega) (by rw [List.length_set]; exact hx)
    have hstep : m_spec_l06Useful_l2 d xs (k : Int) = some (.inl (x1, (((k + 1 : Nat)) : Int))) := by
      unfold m_spec_l06Useful_l2
      rw [chk_succ (show k ≤ 8000000000000000000 by omega), decide_eq_true (show (k : Int) < (d.Nodes.length : Int) by omega), cond_true, bind_of (getL_gd false hkx), hhead, Option.bind_some]
      have g1' : loopM (fun s : (List Bool) × Int => m_spec_l06Useful_l3 d (k : Int) s.1 s.2) (xs.set k (xs.getD k false || d.Nodes[k].Final), 0) = some x1 := g1
      rw [bind_of g1']
      rfl
    obtain ⟨x2, h1, h2, h3, h4⟩ := use_mid hD hlen c (k + 1) x1 (by omega) g2
    refine ⟨x2, ?_, h2, fun j hj => h3 j (g3 j (hmono j hj)), fun j hkj hjl hor => ?_⟩
    · rw [loopM_next (step := fun s : (List Bool) × Int => m_spec_l06Useful_l2 d s.1 s.2) hstep]; exact h1
    · rcases Nat.eq_or_lt_of_le hkj with rfl | hlt
      · refine h3 k ?_
        rcases hor with hf | ⟨e, he, hg⟩
        · refine g3 k ?_
          rw [hset, if_pos rfl, Bool.or_eq_true]
          rw [ndD_at hk] at hf
          exact .inr hf
        · exact g4 e (by rw [List.drop_zero]; exact he) (hmono _ hg)
      · refine h4 j hlt hjl (hor.imp id fun ⟨e, he, hg⟩ => ⟨e, he, g3 _ (hmono _ hg)⟩)
theorem use_outer {d : Dawg} (hD : ShapeOk d.Nodes) (hlen : ∀ x ∈ d.Nodes, x.Next.length ≤ 2000000) : ∀ (c r : Nat) (xs : List Bool), r + c = 14 → xs.length = d.Nodes.length → (∀ j, langA (ndD d.Nodes) r j ≠ [] → xs.getD j false = true) →
    ∃ xs', loopM (fun s : (List Bool) × Int => m_spec_l06Useful_l1 d s.1 s.2) (xs, (r : Int)) = some xs' ∧ xs'.length = d.Nodes.length ∧ (∀ j, langA (ndD d.Nodes) 14 j ≠ [] → xs'.getD j false = true)
  | 0, r, xs, hc, hx, hg => by
    obtain rfl : r = 14 := by omega
    refine ⟨xs, loopM_done ?_, hx, hg⟩
    rfl
  | c + 1, r, xs, hc, hx, hg => by
    obtain ⟨x1, g1, g2, g3, g4⟩ := use_mid hD hlen d.Nodes.length 0 xs (by omega) hx
    have hstep : m_spec_l06Useful_l1 d xs (r : Int) = some (.inl (x1, (((r + 1 : Nat)) : Int))) := by
      unfold m_spec_l06Useful_l1
      rw [chk_succ (show r ≤ 8000000000000000000 by omega), decide_eq_true (show (r : Int) ≤ 13 by omega), cond_true]
      have g1' : loopM (fun s : (List Bool) × Int => m_spec_l06Useful_l2 d s.1 s.2) (xs, 0) = some x1 := g1
      rw [bind_of g1']
      rfl
    obtain ⟨x2, h1, h2, h3⟩ := use_outer hD hlen c (r + 1) x1 (by omega) g2 fun j hj => by
      by_cases hjl : j < d.Nodes.length
      · refine g4 j (Nat.zero_le _) hjl ?_
        rw [langA] at hj
        by_cases hf : (ndD d.Nodes j).1 = true
        · exact .inl hf
        · right
          rw [if_neg hf, List.nil_append] at hj
          obtain ⟨w, hw⟩ := List.exists_mem_of_ne_nil _ hj
          obtain ⟨e, he, hw⟩ := List.mem_flatMap.1 hw
          obtain ⟨w', hw', _⟩ := List.mem_map.1 hw
          exact ⟨e, he, hg e.2 (List.ne_nil_of_mem hw')⟩
      · exfalso
        rw [langA, ndD_none (by omega)] at hj
        exact hj rfl
    refine ⟨x2, ?_, h2, h3⟩
    rw [loopM_next (step := fun s : (List Bool) × Int => m_spec_l06Useful_l1 d s.1 s.2) hstep]; exact h1
theorem Useful_eq (d : Dawg) (hD : ShapeOk d.Nodes) (hlen : ∀ x ∈ d.Nodes, x.Next.length ≤ 2000000) : ∃ r, m_spec_l06Useful d = some r ∧ ((∀ j, j ≠ 0 → j < d.Nodes.length → langA (ndD d.Nodes) 14 j ≠ []) → r = true) := by
  have hmax := hD.max
  have hpos := hD.pos
  unfold m_spec_l06Useful
  rw [makeL_of (by omega), Option.bind_some]
  obtain ⟨xs, h1, h2, h3⟩ := use_outer hD hlen 14 0 (List.replicate d.Nodes.length false) (by omega) List.length_replicate fun j hj => absurd rfl hj
  have h1' : ((loopM (fun s : (List Bool) × Int => m_spec_l06Useful_l1 d s.1 s.2) (List.replicate d.Nodes.length false, 0)).bind fun xs22 => some xs22) = some xs := by
    have : loopM (fun s : (List Bool) × Int => m_spec_l06Useful_l1 d s.1 s.2) (List.replicate d.Nodes.length false, 0) = some xs := h1
    rw [bind_of this]
  rw [bind_of h1']
  have := loop_all (step := fun s => m_spec_l06Useful_l4 d xs s) (fun i => xs.getD i false) d.Nodes.length (Sum.inl () : Unit ⊕ Bool) (.inr false) (fun i hi => by
      show m_spec_l06Useful_l4 d xs (i : Int) = _
      unfold m_spec_l06Useful_l4
      rw [show chk ((i : Int) + 1) = some ((i : Int) + 1) from chk_in (by omega) (by omega), decide_eq_true (show (i : Int) < (d.Nodes.length : Int) by omega), cond_true, bind_of (getL_gd false (by omega))]
      cases xs.getD i false <;> rfl)
    (by show m_spec_l06Useful_l4 d xs (d.Nodes.length : Int) = _; unfold m_spec_l06Useful_l4; rw [decide_eq_false (by omega)]; rfl) (d.Nodes.length - 1) 1 (by omega)
  have this' : loopM (fun s : Int => m_spec_l06Useful_l4 d xs s) 1 = some (bif allI (fun i => xs.getD i false) 1 (d.Nodes.length - 1) then (Sum.inl () : Unit ⊕ Bool) else .inr false) := this
  rw [bind_of this']
  refine ⟨allI (fun i => xs.getD i false) 1 (d.Nodes.length - 1), ?_, fun h => ?_⟩
  · cases allI (fun i => xs.getD i false) 1 (d.Nodes.length - 1) <;> rfl
  · rw [allI_iff]
    intro j hj1 hj2
    exact h3 j (h j (by omega) (by omega))

/-! the test -/
theorem totA_le {R : List Str} {n : Nat} (h : ∀ w ∈ R, w.length ≤ n) : totA R ≤ n * R.length := by
  induction R with
  | nil => exact Nat.zero_le _
  | cons w R ih =>
    have h1 := h w List.mem_cons_self
    have h2 := ih fun x hx => h x (List.mem_cons_of_mem _ hx)
    unfold totA at h2 ⊢
    rw [List.map_cons, List.sum_cons, List.length_cons, Nat.mul_succ]
    omega
theorem good_words {D : List Node} (hD : ShapeOk D) (hfew : (langA (ndD D) 14 0).length ≤ 3000) : SortedW (langA (ndD D) 14 0) ∧ (∀ w ∈ langA (ndD D) 14 0, w.length ≤ 13 ∧ ∀ c ∈ w, formB c = true) ∧ totA (langA (ndD D) 14 0) + (langA (ndD D) 14 0).length + 1 ≤ 1000000 := by
  have h1 : ∀ w ∈ langA (ndD D) 14 0, w.length ≤ 13 := fun w hw => by have := langA_le _ 14 0 w hw; omega
  have h2 := totA_le h1
  exact ⟨langA_sorted _ hD.rise 14 0, fun w hw => ⟨h1 w hw, langA_form hD 14 0 w hw⟩, by omega⟩
theorem map_ndN_inj {n m : Nat} : ∀ {A B : List Node}, (∀ x ∈ A, NodeOk n x) → (∀ x ∈ B, NodeOk m x) → A.map ndN = B.map ndN → A = B := fun hA hB h =>
  list_inj_on (fun x hx y hy e => ndN_inj (hA x hx) (hB y hy) e) h
theorem l06Ok_iff (d : Dawg) (hlen : ∀ x ∈ d.Nodes, x.Next.length ≤ 2000000) : ∃ r, m_spec_l06Ok d = some r ∧ (r = true ↔ GoodD d.Nodes) := by
  have hlen' : ∀ x ∈ d.Nodes, x.Next.length ≤ 1000000000 := fun x hx => Nat.le_trans (hlen x hx) (by omega)
  unfold m_spec_l06Ok
  rw [bind_of (l06Shape_eq d hlen')]
  cases hsh : shapeB d.Nodes with
  | false =>
    refine ⟨false, rfl, (fun h => by cases h), fun h => ?_⟩
    rw [h.shape.shapeB] at hsh; cases hsh
  | true =>
    have hD := shapeB_ok hsh
    have hmax := hD.max
    have h0 : 0 < d.Nodes.length := hD.pos
    have hnf : (ndD d.Nodes 0).1 = d.Nodes[0].Final := by rw [ndD_at h0]; rfl
    rw [Bool.not_true, cond_false, bind_of (getL_of (z := 0) 0 rfl h0)]
    cases hF : d.Nodes[0].Final with
    | true =>
      refine ⟨false, rfl, (fun h => by cases h), fun h => ?_⟩
      have := h.nofin
      rw [hnf, hF] at this; cases this
    | false =>
      obtain ⟨u, hu, hug⟩ := Useful_eq d hD hlen
      rw [cond_false, bind_of hu, Option.bind_some]
      have hguse : GoodD d.Nodes → u = true := fun h => hug fun j hj0 hjl => by
        have hin : j ∈ preA (ndD d.Nodes) 14 0 := by
          have := h.num.num
          rw [List.length_map] at this
          have hm : j ∈ ddA [] (preA (ndD d.Nodes) 14 0) := by rw [this]; exact List.mem_range.2 hjl
          rw [mem_ddA] at hm
          exact hm.resolve_left (by simp)
        rcases preA_parent _ 14 hin with rfl | ⟨i, hi, e, he, rfl⟩
        · exact absurd rfl hj0
        · exact h.num.good.use i hi e he
      cases u with
      | false => exact ⟨false, rfl, (fun h => by cases h), fun h => absurd (hguse h) (by simp)⟩
      | true =>
        rw [Bool.not_true, cond_false]
        obtain ⟨out, ok, hw, hok, hout⟩ := Words_eq d hD hlen
        rw [bind_of hw]
        cases ok with
        | false =>
          refine ⟨false, rfl, (fun h => by cases h), fun h => ?_⟩
          have := hok.2 ⟨h.num.good.short, h.few⟩
          cases this
        | true =>
          obtain ⟨hs, hfew⟩ := hok.1 rfl
          obtain rfl := hout rfl
          obtain ⟨w1, w2, w3⟩ := good_words hD hfew
          obtain ⟨D', hb, hg, hl, hn, hx, hp, hm⟩ := Build_eq _ w1 w2 w3
          show ∃ r, ((m_spec_l06Build (langA (ndD d.Nodes) 14 0)).bind _) = some r ∧ _
          rw [bind_of hb, bind_of (Same_eq d ⟨D'⟩ (by omega) (fun x hx => Nat.le_trans (hlen x hx) (by omega)))]
          refine ⟨decide (d.Nodes = D'), rfl, fun h => ?_, fun h => ?_⟩
          · have e := of_decide_eq_true h
            refine ⟨hD, by rw [hnf]; exact hF, by rw [e]; exact hg, hfew⟩
          · rw [decide_eq_true_iff]
            refine map_ndN_inj hD.node hn ?_
            rw [h.num.canon, hg.canon]
            show canonA 14 (langA (ndD d.Nodes) 14 0) = canonA 14 (langA (ndD D') 14 0)
            rw [hl]
/-- Both tests agree. -/
theorem tests_agree (d : Dawg) (hlen : ∀ x ∈ d.Nodes, x.Next.length ≤ 2000000) : ∃ r, m_impl_ValidDawg d = some r ∧ m_spec_l06Ok d = some r ∧ (r = true ↔ GoodD d.Nodes) := by
  obtain ⟨r, h1, h2⟩ := ValidDawg_iff d hlen
  obtain ⟨r', h3, h4⟩ := l06Ok_iff d hlen
  have : r = r' := by rw [Bool.eq_iff_iff, h2, h4]
  subst this
  exact ⟨r, h1, h3, h2⟩

end Go.Proofs.YtdaoecpkgobelaaDoor
