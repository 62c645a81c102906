/- The program's test of an automaton: just the good ones pass. -/
import Derived.Test.YtdaoecpkgobelaaDoorPureK5
namespace Go.Proofs.YtdaoecpkgobelaaDoor
open Go Go.RowKit
set_option linter.unusedSimpArgs false
set_option linter.unusedVariables false

/-- A good automaton: the form, a first node that is not final, nodes numbered as they are met, not too many words. -/
structure GoodD (D : List Node) : Prop where
  shape : ShapeOk D
  nofin : (ndD D 0).1 = false
  num : GoodN 14 (D.map ndN)
  few : (langA (ndD D) 14 0).length ≤ 3000

theorem preA_parent {σ : Type} (nd : σ → Bool × List (UInt8 × σ)) : ∀ (n : Nat) {k j : σ}, j ∈ preA nd n k → j = k ∨ ∃ i ∈ preA nd n k, ∃ e ∈ (nd i).2, e.2 = j
  | 0, _, _, h => by cases h
  | n + 1, k, j, h => by
    rcases List.mem_cons.1 h with rfl | h
    · exact .inl rfl
    · obtain ⟨e, he, hj⟩ := List.mem_flatMap.1 h
      rcases preA_parent nd n hj with rfl | ⟨i, hi, e', he', h'⟩
      · exact .inr ⟨k, List.mem_cons_self, e, he, rfl⟩
      · exact .inr ⟨i, List.mem_cons_of_mem _ (List.mem_flatMap.2 ⟨e, he, hi⟩), e', he', h'⟩

/-! the register -/
theorem getM_cons {α β : Type} [DecidableEq α] (e : α × β) (M : List (α × β)) (k : α) : getM (e :: M) k = if k = e.1 then some e.2 else getM M k := by
  rw [getM]
  by_cases h : k = e.1
  · have : (k == e.1) = true := by simpa using h
    rw [this, if_pos h]; rfl
  · have : (k == e.1) = false := by simpa using h
    rw [this, if_neg h]; rfl
theorem getM_true : ∀ (ks : List Str) (k : Str), (getM (ks.map fun x => (x, true)) k).getD false = decide (k ∈ ks)
  | [], k => rfl
  | x :: ks, k => by
    rw [List.map_cons, getM_cons]
    by_cases h : k = x
    · rw [if_pos h, decide_eq_true (by rw [h]; exact List.mem_cons_self)]
      rfl
    · rw [if_neg h, getM_true ks k]
      have e : (k ∈ x :: ks) ↔ k ∈ ks := by rw [List.mem_cons]; exact ⟨fun h' => h'.resolve_left h, .inr⟩
      rw [decide_eq_decide]
      exact e.symm
theorem getM_none : ∀ (ks : List Str) (k : Str), k ∉ ks → getM (ks.map fun x => (x, true)) k = none
  | [], k, _ => rfl
  | x :: ks, k, h => by
    rw [List.map_cons, getM_cons, if_neg (fun e => h (by rw [e]; exact List.mem_cons_self)), getM_none ks k fun h' => h (List.mem_cons_of_mem _ h')]
def keysOf (D : List Node) : List Str := D.map fun x => keyA (ndN x)
theorem reg_loop {D : List Node} (hD : ShapeOk D) (hlen : ∀ x ∈ D, x.Next.length ≤ 2000000) (d : Dawg) (hd : d.Nodes = D) : ∀ (c i : Nat), i + c = D.length → ((keysOf D).take i).Nodup →
    ∃ r : (List (Str × Bool)) ⊕ Bool, loopM (fun s : (List (Str × Bool)) × Int => m_impl_ValidDawg_l1 d s.1 s.2) (((keysOf D).take i).map fun x => (x, true), (i : Int)) = some r ∧
      ((∃ M, r = .inl M) ∧ (keysOf D).Nodup ∨ r = .inr false ∧ ¬ (keysOf D).Nodup)
  | 0, i, hc, hn => by
    subst hd
    rw [Nat.add_zero] at hc
    refine ⟨.inl (((keysOf d.Nodes).take i).map fun x => (x, true)), loopM_done ?_, .inl ⟨⟨_, rfl⟩, ?_⟩⟩
    · show m_impl_ValidDawg_l1 d _ (i : Int) = _
      unfold m_impl_ValidDawg_l1
      rw [decide_eq_false (by omega)]; rfl
    · rwa [List.take_of_length_le (by unfold keysOf; rw [List.length_map]; omega)] at hn
  | c + 1, i, hc, hn => by
    subst hd
    have hi : i < d.Nodes.length := by omega
    have hk : (keysOf d.Nodes)[i]? = some (keyA (ndN d.Nodes[i])) := by
      unfold keysOf
      rw [List.getElem?_map, List.getElem?_eq_getElem hi]; rfl
    have htk : (keysOf d.Nodes).take (i + 1) = (keysOf d.Nodes).take i ++ [keyA (ndN d.Nodes[i])] := by
      rw [List.take_add_one, hk]; rfl
    have hmax := hD.max
    have hstep : m_impl_ValidDawg_l1 d (((keysOf d.Nodes).take i).map fun x => (x, true)) (i : Int) =
        some (bif decide (keyA (ndN d.Nodes[i]) ∈ (keysOf d.Nodes).take i) then .inr (.inr false) else .inl (putM (((keysOf d.Nodes).take i).map fun x => (x, true)) (keyA (ndN d.Nodes[i])) true, ((i + 1 : Nat) : Int))) := by
      unfold m_impl_ValidDawg_l1
      rw [chk_succ (show i ≤ 8000000000000000000 by omega), decide_eq_true (show (i : Int) < (d.Nodes.length : Int) by omega), cond_true, bind_of (getL_at hi), bind_of (keyOf_eq hmax (hD.node _ (List.getElem_mem hi)) (hlen _ (List.getElem_mem hi))), getM_true]
      cases decide (keyA (ndN d.Nodes[i]) ∈ (keysOf d.Nodes).take i) <;> rfl
    by_cases hin : keyA (ndN d.Nodes[i]) ∈ (keysOf d.Nodes).take i
    · rw [decide_eq_true hin] at hstep
      refine ⟨_, loopM_done hstep, .inr ⟨rfl, fun hnd => ?_⟩⟩
      have := (List.take_sublist (i + 1) (keysOf d.Nodes)).nodup hnd
      rw [htk, List.nodup_append] at this
      exact this.2.2 _ hin _ (by simp) rfl
    · rw [decide_eq_false hin, cond_false, putM_new (getM_none _ _ hin)] at hstep
      have hn' : ((keysOf d.Nodes).take (i + 1)).Nodup := by
        rw [htk, List.nodup_append]
        exact ⟨hn, by simp, fun a ha b hb => by rw [List.mem_singleton] at hb; subst hb; rintro rfl; exact hin ha⟩
      have e : (((keysOf d.Nodes).take i).map fun x => (x, true)) ++ [(keyA (ndN d.Nodes[i]), true)] = ((keysOf d.Nodes).take (i + 1)).map fun x => (x, true) := by rw [htk, List.map_append]; rfl
      rw [e] at hstep
      have := reg_loop hD hlen d rfl c (i + 1) (by omega) hn'
      rw [loopM_next (show (fun s : (List (Str × Bool)) × Int => m_impl_ValidDawg_l1 d s.1 s.2) (((keysOf d.Nodes).take i).map fun x => (x, true), (i : Int)) = _ from hstep)]
      exact this
theorem keys_nodup {D : List Node} (hD : ShapeOk D) : (keysOf D).Nodup ↔ ∀ k j, k < D.length → j < D.length → ndD D k = ndD D j → k = j := by
  have hf : ∀ x ∈ D, ∀ e ∈ (ndN x).2, formB e.1 = true := fun x hx e he => (hD.node x hx).form e.1 (List.of_mem_zip (he : (e.1, e.2) ∈ _)).1
  rw [List.nodup_iff_pairwise_ne, List.pairwise_iff_getElem]
  have hl : (keysOf D).length = D.length := by unfold keysOf; rw [List.length_map]
  have hg : ∀ i (h : i < (keysOf D).length), (keysOf D)[i] = keyA (ndN (D[i]'(by rw [← hl]; exact h))) := fun i h => by simp [keysOf]
  constructor
  · intro h k j hk hj e
    rw [ndD_at hk, ndD_at hj] at e
    rcases Nat.lt_trichotomy k j with hlt | rfl | hlt
    · refine absurd ?_ (h k j (by omega) (by omega) hlt)
      rw [hg, hg, e]
    · rfl
    · refine absurd ?_ (h j k (by omega) (by omega) hlt)
      rw [hg, hg, e]
  · intro h i j hi hj hij e
    rw [hg, hg] at e
    have := keyA_inj (hf _ (List.getElem_mem _)) (hf _ (List.getElem_mem _)) e
    have := h i j (by omega) (by omega) (by rw [ndD_at (by omega), ndD_at (by omega)]; exact this)
    omega

theorem ValidDawg_iff (d : Dawg) (hlen : ∀ x ∈ d.Nodes, x.Next.length ≤ 2000000) : ∃ r, m_impl_ValidDawg d = some r ∧ (r = true ↔ GoodD d.Nodes) := by
  have hlen' : ∀ x ∈ d.Nodes, x.Next.length ≤ 1000000000 := fun x hx => Nat.le_trans (hlen x hx) (by omega)
  unfold m_impl_ValidDawg
  rw [bind_of (nodesOk_eq d hlen')]
  cases hsh : shapeB d.Nodes with
  | false =>
    refine ⟨false, rfl, (fun h => by cases h), fun h => ?_⟩
    rw [h.shape.shapeB] at hsh; cases hsh
  | true =>
    have hD := shapeB_ok hsh
    have hpos := hD.pos
    have hmax := hD.max
    have h0 : 0 < d.Nodes.length := hpos
    simp only [Bool.not_true, cond_false]
    rw [bind_of (getL_of (z := 0) 0 rfl h0), Option.bind_some]
    have hnf : (ndD d.Nodes 0).1 = d.Nodes[0].Final := by rw [ndD_at h0]; rfl
    cases hF : d.Nodes[0].Final with
    | true =>
      refine ⟨false, rfl, (fun h => by cases h), fun h => ?_⟩
      have := h.nofin
      rw [hnf, hF] at this; cases this
    | false =>
      rw [cond_false, makeL_of (by omega), Option.bind_some, makeL_of (by omega), Option.bind_some, Option.bind_some]
      have hrep : ∀ j, (List.replicate d.Nodes.length false).getD j false = false := fun j => by
        rw [List.getD_eq_getElem?_getD, List.getElem?_replicate]; split <;> rfl
      have hrep0 : ∀ j, (List.replicate d.Nodes.length (0 : Int)).getD j 0 = 0 := fun j => by
        rw [List.getD_eq_getElem?_getD, List.getElem?_replicate]; split <;> rfl
      have hW : WFv d.Nodes 0 0 (List.replicate d.Nodes.length false) (List.replicate d.Nodes.length 0) (List.replicate d.Nodes.length 0) :=
        ⟨Nat.zero_le _, List.length_replicate, List.length_replicate, List.length_replicate, fun j => by rw [hrep0]; omega, fun j => by rw [hrep0]; omega, fun j hj => by omega, fun j _ => ⟨hrep j, hrep0 j, hrep0 j⟩, Nat.le_refl _⟩
      obtain ⟨r, s', hrun, hpost, hcan⟩ := visit_step hD hlen' fuelN 0 0 _ _ _ 0 (by show d.Nodes.length < 100000 + 0; omega) hW h0
      have hrun' : m_impl_inspector_visit (⟨⟨d.Nodes⟩, 0, List.replicate d.Nodes.length false, List.replicate d.Nodes.length 0, List.replicate d.Nodes.length 0⟩ : inspector) 0 = some (r, s') := hrun
      rw [bind_of hrun']
      -- a good automaton can be visited
      have hgoodcan : GoodD d.Nodes → r = true := fun h => by
        refine hcan ⟨14, d.Nodes.length, h.num.good.short, dd_numA ?_, fun o ho => by omega, fun j hj hj0 => ?_⟩
        · have := h.num.num
          rw [List.length_map] at this
          exact this
        · rcases preA_parent _ 14 hj with rfl | ⟨i, hi, e, he, rfl⟩
          · exact absurd rfl hj0
          · exact h.num.good.use i hi e he
      cases r with
      | false =>
        refine ⟨false, rfl, (fun h => by cases h), fun h => ?_⟩
        have := hgoodcan h; cases this
      | true =>
        obtain ⟨m', op', st', lg', rfl, hP⟩ := hpost rfl
        have hm'D := hP.wf.hm
        have hls : 0 < st'.length := by rw [hP.wf.ls]; exact h0
        have hll : 0 < lg'.length := by rw [hP.wf.ll]; exact h0
        obtain ⟨⟨c1, c2, c3, c4, c5⟩, c6⟩ := hP.wf.cl 0 hP.kcl.1 hP.kcl.2
        have hl0 := hP.wf.r0 0
        -- what a good one has
        have hgm : GoodD d.Nodes → m' = d.Nodes.length ∧ st'.getD 0 0 ≤ 3000 ∧ lg'.getD 0 0 ≤ 13 := fun h => by
          have h1 := hP.num 14 h.num.good.short
          have h2 : numA 0 (preA (ndD d.Nodes) 14 0) = some d.Nodes.length := dd_numA (by have := h.num.num; rw [List.length_map] at this; exact this)
          rw [h2] at h1
          have e1 : langA (ndD d.Nodes) ((lg'.getD 0 0).toNat + 1) 0 = langA (ndD d.Nodes) 14 0 := by
            rcases Nat.le_total 14 ((lg'.getD 0 0).toNat + 1) with hle | hle
            · exact langA_fuel _ hle h.num.good.short
            · exact (langA_fuel _ hle c2).symm
          refine ⟨(Option.some.inj h1).symm, ?_, ?_⟩
          · rw [c3, e1]; have := h.few; omega
          · rcases Int.lt_or_le 13 (lg'.getD 0 0) with hlt | hle
            · exact absurd (shortA_mono _ (by omega) h.num.good.short) c5
            · exact hle
        show ∃ r, ((bif (m' : Int) != (d.Nodes.length : Int) then _ else _ : Option _).bind _) = some r ∧ _
        by_cases hm : m' = d.Nodes.length
        · rw [show ((m' : Int) != (d.Nodes.length : Int)) = false by rw [hm]; simp, cond_false]
          show ∃ r, (((getL st' ((0 : Nat) : Int)).bind _).bind _) = some r ∧ _
          rw [bind_of (getL_gd 0 hls)]
          by_cases hs : 3000 < st'.getD 0 0
          · rw [decide_eq_true hs, cond_true]
            refine ⟨false, rfl, (fun h => by cases h), fun h => ?_⟩
            have := (hgm h).2.1; omega
          · rw [decide_eq_false hs, cond_false]
            show ∃ r, (((getL lg' ((0 : Nat) : Int)).bind _).bind _) = some r ∧ _
            rw [bind_of (getL_gd 0 hll), Option.bind_some]
            by_cases hg : 13 < lg'.getD 0 0
            · rw [decide_eq_true hg]
              refine ⟨false, rfl, (fun h => by cases h), fun h => ?_⟩
              have := (hgm h).2.2; omega
            · rw [decide_eq_false hg]
              simp only [cond_false]
              obtain ⟨r2, hreg, hcase⟩ := reg_loop hD hlen d rfl d.Nodes.length 0 (by omega) (by rw [List.take_zero]; exact List.nodup_nil)
              have hreg' : loopM (fun s : (List (Str × Bool)) × Int => m_impl_ValidDawg_l1 d s.1 s.2) (([] : (List (Str × Bool))), 0) = some r2 := hreg
              rw [bind_of hreg']
              have hall : ∀ i, i < d.Nodes.length → i ∈ preA (ndD d.Nodes) 14 0 ∧ True := fun i hi => by
                have hsh : shortA (ndD d.Nodes) 14 0 := shortA_mono _ (by omega) c2
                have := numA_dd (hP.num 14 hsh)
                rw [hm] at this
                have : i ∈ ddA (List.range 0) (preA (ndD d.Nodes) 14 0) := by rw [this]; exact List.mem_range.2 hi
                rw [mem_ddA] at this
                exact ⟨this.resolve_left (by simp), trivial⟩
              rcases hcase with ⟨⟨M, rfl⟩, hnd⟩ | ⟨rfl, hnd⟩
              · refine ⟨true, rfl, fun _ => ?_, fun _ => rfl⟩
                have hsh : shortA (ndD d.Nodes) 14 0 := shortA_mono _ (by omega) c2
                have hin := (keys_nodup hD).1 hnd
                have hpl : ∀ i ∈ preA (ndD d.Nodes) 14 0, i < d.Nodes.length := fun i hi => by
                  have := numA_lt (hP.num 14 hsh) i hi; omega
                have e1 : langA (ndD d.Nodes) ((lg'.getD 0 0).toNat + 1) 0 = langA (ndD d.Nodes) 14 0 := (langA_fuel _ (by omega) c2).symm
                refine ⟨hD, by rw [hnf]; exact hF, ⟨⟨hsh, fun k hk => hD.apart k, fun k hk e he hnil => ?_, fun k hk j hj e => hin k j (hpl k hk) (hpl j hj) e⟩, ?_⟩, ?_⟩
                · have hen := preA_next _ hsh hk e he
                  have hel := hpl _ hen
                  have hclose := hP.new e.2 (Nat.zero_le _) (by omega)
                  obtain ⟨⟨q1, q2, q3, q4, q5⟩, q6⟩ := hP.wf.cl e.2 (by omega) hclose
                  have hes := preA_short _ hsh hen
                  have e2 : langA (ndD d.Nodes) ((lg'.getD e.2 0).toNat + 1) e.2 = langA (ndD d.Nodes) 14 e.2 := by
                    rcases Nat.le_total 14 ((lg'.getD e.2 0).toNat + 1) with hle | hle
                    · exact langA_fuel _ hle hes
                    · exact (langA_fuel _ hle q2).symm
                  rcases q4 with hp | h0'
                  · rw [q3, e2, hnil, List.length_nil] at hp
                    omega
                  · have hks := preA_short _ hsh hk
                    have := preA_acyc _ hks e he 14
                    rw [h0'] at this
                    exact this hk
                · rw [List.length_map]
                  have := numA_dd (hP.num 14 hsh)
                  rw [hm] at this
                  exact this
                · rw [e1] at c3
                  omega
              · refine ⟨false, rfl, (fun h => by cases h), fun h => absurd ((keys_nodup hD).2 fun k j hk hj e => ?_) hnd⟩
                exact h.num.good.inj k (hall k hk).1 j (hall j hj).1 e
        · rw [show ((m' : Int) != (d.Nodes.length : Int)) = true by rw [bne_iff_ne]; omega, cond_true]
          refine ⟨false, rfl, (fun h => by cases h), fun h => absurd (hgm h).1 hm⟩

end Go.Proofs.YtdaoecpkgobelaaDoor
