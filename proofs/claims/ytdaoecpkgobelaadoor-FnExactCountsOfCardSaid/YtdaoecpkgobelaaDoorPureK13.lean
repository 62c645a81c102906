/- How many words lie behind each node, and which: program and reference. -/
import Derived.Test.YtdaoecpkgobelaaDoorPureK12
namespace Go.Proofs.YtdaoecpkgobelaaDoor
open Go Go.RowKit
set_option linter.unusedSimpArgs false
set_option linter.unusedVariables false

theorem GoodD.pre {D : List Node} (h : GoodD D) {k : Nat} (hk : k < D.length) : k ∈ preA (ndD D) 14 0 := by
  have := h.num.num
  rw [List.length_map] at this
  have hm : k ∈ ddA [] (preA (ndD D) 14 0) := by rw [this]; exact List.mem_range.2 hk
  rw [mem_ddA] at hm
  exact hm.resolve_left (by simp)
theorem GoodD.short {D : List Node} (h : GoodD D) {k : Nat} (hk : k < D.length) : shortA (ndD D) 14 k := preA_short _ h.num.good.short (h.pre hk)
theorem pre_le (nd : Nat → Bool × List (UInt8 × Nat)) : ∀ (n : Nat) {k j : Nat}, shortA nd n k → j ∈ preA nd n k → (langA nd n j).length ≤ (langA nd n k).length
  | 0, _, _, h, _ => h.elim
  | n + 1, k, j, h, hj => by
    rcases List.mem_cons.1 hj with rfl | hj
    · exact Nat.le_refl _
    · obtain ⟨e, he, hj⟩ := List.mem_flatMap.1 hj
      have h1 := pre_le nd n (h e he) hj
      have h2 := preA_short nd (h e he) hj
      rw [langA_fuel nd (Nat.le_succ n) h2, langA_len]
      have h3 : (langA nd n e.2).length ≤ ((nd k).2.map fun e => (langA nd n e.2).length).sum := by
        have hm : (langA nd n e.2).length ∈ (nd k).2.map fun e => (langA nd n e.2).length := List.mem_map.2 ⟨e, he, rfl⟩
        generalize (nd k).2.map (fun e => (langA nd n e.2).length) = l at hm
        induction l with
        | nil => cases hm
        | cons x l ih =>
          rw [List.sum_cons]
          rcases List.mem_cons.1 hm with hm | hm
          · omega
          · have := ih hm; omega
      omega
/-- The number of words behind a node. -/
def cntA (D : List Node) (k : Nat) : Nat := (langA (ndD D) 14 k).length
theorem GoodD.le {D : List Node} (h : GoodD D) {k : Nat} (hk : k < D.length) : cntA D k ≤ 3000 :=
  Nat.le_trans (pre_le _ 14 h.num.good.short (h.pre hk)) h.few
def cntL (D : List Node) : List Int := (List.range D.length).map fun k => (cntA D k : Int)
theorem len_unfold {nd : Nat → Bool × List (UInt8 × Nat)} {n k : Nat} (h : shortA nd (n + 1) k) : (langA nd (n + 1) k).length = (if (nd k).1 then 1 else 0) + ((nd k).2.map fun e => (langA nd (n + 1) e.2).length).sum := by
  rw [langA_len]
  congr 2
  exact List.map_congr_left fun e he => by rw [← langA_fuel nd (Nat.le_succ n) (h e he)]
theorem cnt_unfold {D : List Node} {k : Nat} (h : shortA (ndD D) 14 k) : cntA D k = (if (ndD D k).1 then 1 else 0) + ((ndD D k).2.map fun e => cntA D e.2).sum := len_unfold (n := 13) h
theorem cnt_take {D : List Node} {k : Nat} (h : shortA (ndD D) 14 k) (i : Nat) : (if (ndD D k).1 then 1 else 0) + (((ndD D k).2.take i).map fun e => cntA D e.2).sum ≤ cntA D k := by
  rw [cnt_unfold h]
  conv => rhs; rw [← List.take_append_drop i (ndD D k).2]
  rw [List.map_append, List.sum_append]
  omega

/-! the program's count -/
def MapOkA (D : List Node) (mp : List (Int × Int)) : Prop := ∀ (k : Nat) (v : Int), k < D.length → getM mp (k : Int) = some v → v = (cntA D k : Int)
theorem getM_put {α β : Type} [DecidableEq α] : ∀ (M : List (α × β)) (k j : α) (v : β), getM (putM M k v) j = if j = k then some v else getM M j
  | [], k, j, v => by
    rw [putM, getM_cons]
  | e :: M, k, j, v => by
    rw [putM]
    by_cases h : k = e.1
    · have : (k == e.1) = true := by simpa using h
      rw [this, cond_true, getM_cons, getM_cons, h]
      split <;> rfl
    · have : (k == e.1) = false := by simpa using h
      rw [this, cond_false, getM_cons, getM_cons, getM_put M k j v]
      by_cases hj : j = e.1
      · rw [if_pos hj, if_pos hj, if_neg (show ¬ j = k from fun e' => h (e' ▸ hj))]
      · rw [if_neg hj, if_neg hj]
theorem behind_loop (d : Dawg) (hG : GoodD d.Nodes) (hlen : ∀ x ∈ d.Nodes, x.Next.length ≤ 2000000) {n f : Nat} (ih : ∀ (k : Nat) (mp : List (Int × Int)), shortA (ndD d.Nodes) n k → k < d.Nodes.length → MapOkA d.Nodes mp → ∃ mp', m_impl_Dawg_behind_1_n f (k : Int) mp d = some ((cntA d.Nodes k : Int), mp') ∧ MapOkA d.Nodes mp')
    {k : Nat} (hk : k < d.Nodes.length) (hs : shortA (ndD d.Nodes) (n + 1) k) : ∀ (c i : Nat) (mp : List (Int × Int)), i + c = d.Nodes[k].Next.length → MapOkA d.Nodes mp →
      ∃ mp', loopM (fun s : (List (Int × Int)) × Int × Int => m_impl_Dawg_behind_1_l1 d.Nodes[k] (m_impl_Dawg_behind_1_n f) d s.1 s.2.1 s.2.2) (mp, (i : Int), (((if (ndD d.Nodes k).1 then 1 else 0) + (((ndD d.Nodes k).2.take i).map fun e => cntA d.Nodes e.2).sum : Nat) : Int)) = some (mp', (cntA d.Nodes k : Int)) ∧ MapOkA d.Nodes mp'
  | 0, i, mp, hi, hm => by
    have hx := hG.shape.node _ (List.getElem_mem hk)
    refine ⟨mp, loopM_done ?_, hm⟩
    have : (ndD d.Nodes k).2.take i = (ndD d.Nodes k).2 := by rw [ndD_at hk]; exact List.take_of_length_le (by rw [hx.edges_len]; omega)
    rw [this, ← cnt_unfold (hG.short hk)]
    show m_impl_Dawg_behind_1_l1 d.Nodes[k] _ d mp (i : Int) (cntA d.Nodes k : Int) = _
    unfold m_impl_Dawg_behind_1_l1
    rw [decide_eq_false (by omega)]; rfl
  | c + 1, i, mp, hi, hm => by
    have hx := hG.shape.node _ (List.getElem_mem hk)
    have hxl := hlen _ (List.getElem_mem hk)
    have hil : i < d.Nodes[k].Next.length := by omega
    have hnn := (hx.next _ (List.getElem_mem hil))
    obtain ⟨t, ht⟩ : ∃ t : Nat, d.Nodes[k].Next[i] = (t : Int) := ⟨d.Nodes[k].Next[i].toNat, by omega⟩
    have htl : t < d.Nodes.length := by omega
    obtain ⟨ch, htake⟩ := take_succ_edge hG.shape hk hil
    rw [ht, Int.toNat_natCast] at htake
    have hmem : (ch, t) ∈ (ndD d.Nodes k).2 := List.mem_of_mem_take (i := i + 1) (by rw [htake]; simp)
    obtain ⟨mp1, h1, h2⟩ := ih t mp (hs _ hmem) htl hm
    have hle := cnt_take (hG.short hk) (i + 1)
    have hc3 := hG.le hk
    rw [htake, List.map_append, List.sum_append] at hle
    simp only [List.map_cons, List.map_nil, List.sum_cons, List.sum_nil, Nat.add_zero] at hle
    have hstep : m_impl_Dawg_behind_1_l1 d.Nodes[k] (m_impl_Dawg_behind_1_n f) d mp (i : Int) (((if (ndD d.Nodes k).1 then 1 else 0) + (((ndD d.Nodes k).2.take i).map fun e => cntA d.Nodes e.2).sum : Nat) : Int) =
        some (.inl (mp1, (((i + 1 : Nat)) : Int), (((if (ndD d.Nodes k).1 then 1 else 0) + (((ndD d.Nodes k).2.take (i + 1)).map fun e => cntA d.Nodes e.2).sum : Nat) : Int))) := by
      unfold m_impl_Dawg_behind_1_l1
      rw [chk_succ (show i ≤ 8000000000000000000 by omega), decide_eq_true (show (i : Int) < (d.Nodes[k].Next.length : Int) by omega), cond_true, bind_of (getL_at hil), ht, bind_of h1]
      rw [htake, List.map_append, List.sum_append]
      simp only [List.map_cons, List.map_nil, List.sum_cons, List.sum_nil, Nat.add_zero]
      rw [chk_to ((((if (ndD d.Nodes k).1 then 1 else 0) + ((((ndD d.Nodes k).2.take i).map fun e => cntA d.Nodes e.2).sum + cntA d.Nodes t) : Nat)) : Int) (by push_cast; omega) (by omega) (by omega)]
      rfl
    obtain ⟨mp2, h3, h4⟩ := behind_loop d hG hlen ih hk hs c (i + 1) mp1 (by omega) h2
    refine ⟨mp2, ?_, h4⟩
    rw [loopM_next (step := fun s : (List (Int × Int)) × Int × Int => m_impl_Dawg_behind_1_l1 d.Nodes[k] (m_impl_Dawg_behind_1_n f) d s.1 s.2.1 s.2.2) hstep]
    exact h3
theorem behind_step (d : Dawg) (hG : GoodD d.Nodes) (hlen : ∀ x ∈ d.Nodes, x.Next.length ≤ 2000000) : ∀ (n f : Nat) (k : Nat) (mp : List (Int × Int)), n ≤ f → shortA (ndD d.Nodes) n k → k < d.Nodes.length → MapOkA d.Nodes mp → ∃ mp', m_impl_Dawg_behind_1_n f (k : Int) mp d = some ((cntA d.Nodes k : Int), mp') ∧ MapOkA d.Nodes mp'
  | 0, f, k, mp, hf, hs, hk, hm => hs.elim
  | n + 1, f, k, mp, hf, hs, hk, hm => by
    obtain ⟨f, rfl⟩ : ∃ g, f = g + 1 := ⟨f - 1, by omega⟩
    show ∃ mp', m_impl_Dawg_behind_1_b (m_impl_Dawg_behind_1_n f) (k : Int) mp d = _ ∧ _
    unfold m_impl_Dawg_behind_1_b
    cases hg : getM mp (k : Int) with
    | some v =>
      have := hm k v hk hg
      subst this
      exact ⟨mp, rfl, hm⟩
    | none =>
      show ∃ mp', (((getL d.Nodes (k : Int)).bind _).bind _) = _ ∧ _
      have hfin : ((getL d.Nodes (k : Int)).bind fun e24 => bif e24.Final then some 1 else some 0 : Option Int) = some ((((if (ndD d.Nodes k).1 then 1 else 0) + (((ndD d.Nodes k).2.take 0).map fun e => cntA d.Nodes e.2).sum : Nat)) : Int) := by
        rw [bind_of (getL_at hk), ndD_at hk]
        show (bif d.Nodes[k].Final then some 1 else some 0 : Option Int) = some (((if d.Nodes[k].Final then 1 else 0 : Nat)) : Int)
        cases d.Nodes[k].Final <;> rfl
      rw [hfin, Option.bind_some]
      obtain ⟨mp1, h1, h2⟩ := behind_loop d hG hlen (n := n) (f := f) (fun k mp hs hk hm => behind_step d hG hlen n f k mp (by omega) hs hk hm) hk hs d.Nodes[k].Next.length 0 mp (by omega) hm
      show ∃ mp', ((((getL d.Nodes (k : Int)).bind _).bind _)) = _ ∧ _
      rw [bind_of (getL_at hk)]
      have h1' : loopM (fun s : (List (Int × Int)) × Int × Int => m_impl_Dawg_behind_1_l1 d.Nodes[k] (m_impl_Dawg_behind_1_n f) d s.1 s.2.1 s.2.2) (mp, 0, (((if (ndD d.Nodes k).1 then 1 else 0) + (((ndD d.Nodes k).2.take 0).map fun e => cntA d.Nodes e.2).sum : Nat) : Int)) = some (mp1, (cntA d.Nodes k : Int)) := h1
      rw [bind_of h1']
      refine ⟨putM mp1 (k : Int) (cntA d.Nodes k : Int), rfl, fun j v hj hv => ?_⟩
      rw [getM_put] at hv
      by_cases hjk : (j : Int) = (k : Int)
      · rw [if_pos hjk] at hv
        have : j = k := by omega
        subst this
        exact (Option.some.inj hv).symm
      · rw [if_neg hjk] at hv
        exact h2 j v hj hv
theorem cntL_len (D : List Node) : (cntL D).length = D.length := by unfold cntL; simp
theorem behind_eq (d : Dawg) (hG : GoodD d.Nodes) (hlen : ∀ x ∈ d.Nodes, x.Next.length ≤ 2000000) : m_impl_Dawg_behind d = some (cntL d.Nodes) := by
  have hmax := hG.shape.max
  unfold m_impl_Dawg_behind
  rw [makeL_of (by omega), Option.bind_some]
  have key : ∀ (c i : Nat) (mp : List (Int × Int)) (xs : List Int), i + c = d.Nodes.length → MapOkA d.Nodes mp → xs.length = d.Nodes.length → (∀ j, j < i → xs.getD j 0 = (cntA d.Nodes j : Int)) →
      ∃ mp', loopM (fun s : (List (Int × Int)) × (List Int) × Int => m_impl_Dawg_behind_l1 (List.replicate d.Nodes.length (0 : Int)) d s.1 s.2.1 s.2.2) (mp, xs, (i : Int)) = some (mp', cntL d.Nodes) := by
    intro c
    induction c with
    | zero =>
      intro i mp xs hi hm hx hall
      have : xs = cntL d.Nodes := by
        apply List.ext_getElem?
        intro j
        by_cases hj : j < d.Nodes.length
        · have := hall j (by omega)
          rw [List.getD_eq_getElem?_getD, List.getElem?_eq_getElem (by omega), Option.getD_some] at this
          rw [List.getElem?_eq_getElem (by omega), this, cntL, List.getElem?_map, List.getElem?_range hj]; rfl
        · rw [List.getElem?_eq_none (by omega), List.getElem?_eq_none (by rw [cntL_len]; omega)]
      refine ⟨mp, loopM_done ?_⟩
      show m_impl_Dawg_behind_l1 _ d mp xs (i : Int) = _
      unfold m_impl_Dawg_behind_l1
      rw [List.length_replicate, decide_eq_false (by omega), this]; rfl
    | succ c ih =>
      intro i mp xs hi hm hx hall
      have hil : i < d.Nodes.length := by omega
      obtain ⟨mp1, h1, h2⟩ := behind_step d hG hlen 14 fuelN i mp (by show 14 ≤ 100000; omega) (hG.short hil) hil hm
      have h1' : m_impl_Dawg_behind_1 (i : Int) mp d = some ((cntA d.Nodes i : Int), mp1) := h1
      have hstep : m_impl_Dawg_behind_l1 (List.replicate d.Nodes.length (0 : Int)) d mp xs (i : Int) = some (.inl (mp1, xs.set i (cntA d.Nodes i : Int), (((i + 1 : Nat)) : Int))) := by
        unfold m_impl_Dawg_behind_l1
        rw [List.length_replicate, chk_succ (show i ≤ 8000000000000000000 by omega), decide_eq_true (show (i : Int) < (d.Nodes.length : Int) by omega), cond_true, bind_of h1', bind_of (getL_gd 0 (by omega)), bind_of (setL_of (by omega))]
        rfl
      rw [loopM_next (step := fun s : (List (Int × Int)) × (List Int) × Int => m_impl_Dawg_behind_l1 (List.replicate d.Nodes.length (0 : Int)) d s.1 s.2.1 s.2.2) hstep]
      refine ih (i + 1) mp1 _ (by omega) h2 (by rw [List.length_set]; exact hx) fun j hj => ?_
      rw [getD_put (by omega)]
      split
      · rename_i e; rw [e]
      · exact hall j (by omega)
  obtain ⟨mp, h⟩ := key d.Nodes.length 0 [] (List.replicate d.Nodes.length (0 : Int)) (by omega) (fun k v hk h => by cases h) List.length_replicate fun j hj => by omega
  have h' : loopM (fun s : (List (Int × Int)) × (List Int) × Int => m_impl_Dawg_behind_l1 (List.replicate d.Nodes.length (0 : Int)) d s.1 s.2.1 s.2.2) (([] : List (Int × Int)), List.replicate d.Nodes.length (0 : Int), 0) = some (mp, cntL d.Nodes) := h
  rw [bind_of h']
  rfl

/-! the reference's count -/
def OutOkA (D : List Node) (out : List Int) : Prop := out.length = D.length ∧ ∀ k, k < D.length → out.getD k 0 = -1 ∨ out.getD k 0 = (cntA D k : Int)
theorem countS_loop (d : Dawg) (hG : GoodD d.Nodes) (hlen : ∀ x ∈ d.Nodes, x.Next.length ≤ 2000000) {n f : Nat} (c1 : l07C) (hc1 : c1.d = d) (ih : ∀ (k : Nat) (out : List Int), shortA (ndD d.Nodes) n k → k < d.Nodes.length → OutOkA d.Nodes out → ∃ out', m_spec_l07C_count_n f ⟨d, out⟩ (k : Int) = some ((cntA d.Nodes k : Int), ⟨d, out'⟩) ∧ OutOkA d.Nodes out' ∧ out'.getD k 0 = (cntA d.Nodes k : Int) ∧ ∀ j, j < d.Nodes.length → out.getD j 0 ≠ -1 → out'.getD j 0 ≠ -1)
    {k : Nat} (hk : k < d.Nodes.length) (hs : shortA (ndD d.Nodes) (n + 1) k) : ∀ (c i : Nat) (out : List Int), i + c = d.Nodes[k].Next.length → OutOkA d.Nodes out →
      ∃ out', loopM (fun s : (List Int) × Int × Int => m_spec_l07C_count_l1 d.Nodes[k] (m_spec_l07C_count_n f) c1 s.1 s.2.1 s.2.2) (out, (((if (ndD d.Nodes k).1 then 1 else 0) + (((ndD d.Nodes k).2.take i).map fun e => cntA d.Nodes e.2).sum : Nat) : Int), (i : Int)) = some (out', (cntA d.Nodes k : Int)) ∧ OutOkA d.Nodes out' ∧ ∀ j, j < d.Nodes.length → out.getD j 0 ≠ -1 → out'.getD j 0 ≠ -1
  | 0, i, out, hi, hm => by
    have hx := hG.shape.node _ (List.getElem_mem hk)
    refine ⟨out, loopM_done ?_, hm, fun j _ h => h⟩
    have : (ndD d.Nodes k).2.take i = (ndD d.Nodes k).2 := by rw [ndD_at hk]; exact List.take_of_length_le (by rw [hx.edges_len]; omega)
    rw [this, ← cnt_unfold (hG.short hk)]
    show m_spec_l07C_count_l1 d.Nodes[k] _ c1 out (cntA d.Nodes k : Int) (i : Int) = _
    unfold m_spec_l07C_count_l1
    rw [decide_eq_false (by omega)]; rfl
  | c + 1, i, out, hi, hm => by
    have hx := hG.shape.node _ (List.getElem_mem hk)
    have hxl := hlen _ (List.getElem_mem hk)
    have hil : i < d.Nodes[k].Next.length := by omega
    have hnn := (hx.next _ (List.getElem_mem hil))
    obtain ⟨t, ht⟩ : ∃ t : Nat, d.Nodes[k].Next[i] = (t : Int) := ⟨d.Nodes[k].Next[i].toNat, by omega⟩
    have htl : t < d.Nodes.length := by omega
    obtain ⟨ch, htake⟩ := take_succ_edge hG.shape hk hil
    rw [ht, Int.toNat_natCast] at htake
    have hmem : (ch, t) ∈ (ndD d.Nodes k).2 := List.mem_of_mem_take (i := i + 1) (by rw [htake]; simp)
    obtain ⟨out1, h1, h2, h2a, h2b⟩ := ih t out (hs _ hmem) htl hm
    have hle := cnt_take (hG.short hk) (i + 1)
    have hc3 := hG.le hk
    rw [htake, List.map_append, List.sum_append] at hle
    simp only [List.map_cons, List.map_nil, List.sum_cons, List.sum_nil, Nat.add_zero] at hle
    have hstep : m_spec_l07C_count_l1 d.Nodes[k] (m_spec_l07C_count_n f) c1 out (((if (ndD d.Nodes k).1 then 1 else 0) + (((ndD d.Nodes k).2.take i).map fun e => cntA d.Nodes e.2).sum : Nat) : Int) (i : Int) =
        some (.inl (out1, (((if (ndD d.Nodes k).1 then 1 else 0) + (((ndD d.Nodes k).2.take (i + 1)).map fun e => cntA d.Nodes e.2).sum : Nat) : Int), (((i + 1 : Nat)) : Int))) := by
      unfold m_spec_l07C_count_l1
      rw [chk_succ (show i ≤ 8000000000000000000 by omega), decide_eq_true (show (i : Int) < (d.Nodes[k].Next.length : Int) by omega), cond_true, bind_of (getL_at hil), ht, hc1, bind_of h1]
      rw [htake, List.map_append, List.sum_append]
      simp only [List.map_cons, List.map_nil, List.sum_cons, List.sum_nil, Nat.add_zero]
      rw [chk_to ((((if (ndD d.Nodes k).1 then 1 else 0) + ((((ndD d.Nodes k).2.take i).map fun e => cntA d.Nodes e.2).sum + cntA d.Nodes t) : Nat)) : Int) (by push_cast; omega) (by omega) (by omega)]
      rfl
    obtain ⟨out2, h3, h4, h5⟩ := countS_loop d hG hlen c1 hc1 ih hk hs c (i + 1) out1 (by omega) h2
    refine ⟨out2, ?_, h4, fun j hj h => h5 j hj (h2b j hj h)⟩
    rw [loopM_next (step := fun s : (List Int) × Int × Int => m_spec_l07C_count_l1 d.Nodes[k] (m_spec_l07C_count_n f) c1 s.1 s.2.1 s.2.2) hstep]
    exact h3
theorem countS_step (d : Dawg) (hG : GoodD d.Nodes) (hlen : ∀ x ∈ d.Nodes, x.Next.length ≤ 2000000) : ∀ (n f : Nat) (k : Nat) (out : List Int), n ≤ f → shortA (ndD d.Nodes) n k → k < d.Nodes.length → OutOkA d.Nodes out → ∃ out', m_spec_l07C_count_n f ⟨d, out⟩ (k : Int) = some ((cntA d.Nodes k : Int), ⟨d, out'⟩) ∧ OutOkA d.Nodes out' ∧ out'.getD k 0 = (cntA d.Nodes k : Int) ∧ ∀ j, j < d.Nodes.length → out.getD j 0 ≠ -1 → out'.getD j 0 ≠ -1
  | 0, f, k, out, hf, hs, hk, hm => hs.elim
  | n + 1, f, k, out, hf, hs, hk, hm => by
    obtain ⟨f, rfl⟩ : ∃ g, f = g + 1 := ⟨f - 1, by omega⟩
    show ∃ out', m_spec_l07C_count_b (m_spec_l07C_count_n f) ⟨d, out⟩ (k : Int) = _ ∧ _
    unfold m_spec_l07C_count_b
    have hko : k < out.length := by rw [hm.1]; exact hk
    show ∃ out', ((getL out (k : Int)).bind _) = _ ∧ _
    rw [bind_of (getL_gd 0 hko)]
    rcases hm.2 k hk with hv | hv
    · rw [hv, decide_eq_false (by omega), cond_false]
      show ∃ out', ((getL d.Nodes (k : Int)).bind _) = _ ∧ _
      rw [bind_of (getL_at hk)]
      have hfin : (bif d.Nodes[k].Final then some 1 else some 0 : Option Int) = some ((((if (ndD d.Nodes k).1 then 1 else 0) + (((ndD d.Nodes k).2.take 0).map fun e => cntA d.Nodes e.2).sum : Nat)) : Int) := by
        rw [ndD_at hk]
        show (bif d.Nodes[k].Final then some 1 else some 0 : Option Int) = some (((if d.Nodes[k].Final then 1 else 0 : Nat)) : Int)
        cases d.Nodes[k].Final <;> rfl
      rw [hfin, Option.bind_some]
      obtain ⟨out1, h1, h2, h3⟩ := countS_loop d hG hlen (n := n) (f := f) ⟨d, out⟩ rfl (fun k out hs hk hm => countS_step d hG hlen n f k out (by omega) hs hk hm) hk hs d.Nodes[k].Next.length 0 out (by omega) hm
      have h1' : ((loopM (fun s : (List Int) × Int × Int => m_spec_l07C_count_l1 d.Nodes[k] (m_spec_l07C_count_n f) ⟨d, out⟩ s.1 s.2.1 s.2.2) (out, (((if (ndD d.Nodes k).1 then 1 else 0) + (((ndD d.Nodes k).2.take 0).map fun e => cntA d.Nodes e.2).sum : Nat) : Int), 0)).bind fun x73 => match x73 with | (xs68, n71) => some (xs68, n71)) = some (out1, (cntA d.Nodes k : Int)) := by
        have : loopM (fun s : (List Int) × Int × Int => m_spec_l07C_count_l1 d.Nodes[k] (m_spec_l07C_count_n f) ⟨d, out⟩ s.1 s.2.1 s.2.2) (out, (((if (ndD d.Nodes k).1 then 1 else 0) + (((ndD d.Nodes k).2.take 0).map fun e => cntA d.Nodes e.2).sum : Nat) : Int), 0) = some (out1, (cntA d.Nodes k : Int)) := h1
        rw [bind_of this]
      rw [bind_of h1']
      have hko1 : k < out1.length := by rw [h2.1]; exact hk
      show ∃ out', ((getL out1 (k : Int)).bind _) = _ ∧ _
      rw [bind_of (getL_gd 0 hko1)]
      show ∃ out', ((setL out1 (k : Int) (cntA d.Nodes k : Int)).bind _) = _ ∧ _
      rw [bind_of (setL_of hko1)]
      have hset : ∀ j, (out1.set k (cntA d.Nodes k : Int)).getD j 0 = if j = k then (cntA d.Nodes k : Int) else out1.getD j 0 := fun j => getD_put hko1
      refine ⟨out1.set k (cntA d.Nodes k : Int), rfl, ⟨by rw [List.length_set]; exact h2.1, fun j hj => ?_⟩, by rw [hset, if_pos rfl], fun j hj h => ?_⟩
      · rw [hset]
        split
        · rename_i e; rw [e]; exact .inr rfl
        · exact h2.2 j hj
      · rw [hset]
        split
        · omega
        · exact h3 j hj h
    · rw [hv, decide_eq_true (by omega), cond_true]
      show ∃ out', ((getL out (k : Int)).bind _) = _ ∧ _
      rw [bind_of (getL_gd 0 hko), hv]
      exact ⟨out, rfl, hm, hv, fun j _ h => h⟩
theorem Counts_eq (d : Dawg) (hG : GoodD d.Nodes) (hlen : ∀ x ∈ d.Nodes, x.Next.length ≤ 2000000) : m_spec_l07Counts d = some (cntL d.Nodes) := by
  have hmax := hG.shape.max
  unfold m_spec_l07Counts
  have h1 : loopM (fun s : (List Int) × Int => m_spec_l07Counts_l1 d s.1 s.2) (([] : (List Int)), 0) = some (List.replicate d.Nodes.length (-1)) := by
    have := loop_run (step := fun s : (List Int) × Int => m_spec_l07Counts_l1 d s.1 s.2) (fun i => (List.replicate i (-1 : Int), ((i : Nat) : Int))) d.Nodes.length (List.replicate d.Nodes.length (-1)) (fun i hi => by
      show m_spec_l07Counts_l1 d (List.replicate i (-1)) (i : Int) = _
      unfold m_spec_l07Counts_l1
      rw [chk_succ (show i ≤ 8000000000000000000 by omega), decide_eq_true (show (i : Int) < (d.Nodes.length : Int) by omega), cond_true, catL_of (by simp; omega), Option.bind_some, Option.bind_some]
      congr 3
      exact (List.replicate_succ' (n := i) (a := (-1 : Int))).symm) (by
      show m_spec_l07Counts_l1 d _ (d.Nodes.length : Int) = _
      unfold m_spec_l07Counts_l1
      rw [decide_eq_false (by omega)]; rfl) 0 (Nat.zero_le _)
    exact this
  rw [h1, Option.bind_some, Option.bind_some]
  have key : ∀ (c i : Nat) (out : List Int), i + c = d.Nodes.length → OutOkA d.Nodes out → (∀ j, j < i → out.getD j 0 ≠ -1) →
      loopM (fun s : (List Int) × Int => m_spec_l07Counts_l2 d s.1 s.2) (out, (i : Int)) = some (cntL d.Nodes) := by
    intro c
    induction c with
    | zero =>
      intro i out hi hm hall
      have : out = cntL d.Nodes := by
        apply List.ext_getElem?
        intro j
        by_cases hj : j < d.Nodes.length
        · have h2 := (hm.2 j hj).resolve_left (hall j (by omega))
          have hjo : j < out.length := by rw [hm.1]; exact hj
          rw [List.getD_eq_getElem?_getD, List.getElem?_eq_getElem hjo, Option.getD_some] at h2
          rw [List.getElem?_eq_getElem hjo, h2, cntL, List.getElem?_map, List.getElem?_range hj]; rfl
        · rw [List.getElem?_eq_none (by rw [hm.1]; omega), List.getElem?_eq_none (by rw [cntL_len]; omega)]
      refine loopM_done ?_
      show m_spec_l07Counts_l2 d out (i : Int) = _
      unfold m_spec_l07Counts_l2
      rw [decide_eq_false (by omega), this]; rfl
    | succ c ih =>
      intro i out hi hm hall
      have hil : i < d.Nodes.length := by omega
      obtain ⟨out1, h1, h2, h3, h4⟩ := countS_step d hG hlen 14 fuelN i out (by show 14 ≤ 100000; omega) (hG.short hil) hil hm
      have h1' : m_spec_l07C_count ⟨d, out⟩ (i : Int) = some ((cntA d.Nodes i : Int), ⟨d, out1⟩) := h1
      have hstep : m_spec_l07Counts_l2 d out (i : Int) = some (.inl (out1, (((i + 1 : Nat)) : Int))) := by
        unfold m_spec_l07Counts_l2
        rw [chk_succ (show i ≤ 8000000000000000000 by omega), decide_eq_true (show (i : Int) < (d.Nodes.length : Int) by omega), cond_true, bind_of h1']
        rfl
      rw [loopM_next (step := fun s : (List Int) × Int => m_spec_l07Counts_l2 d s.1 s.2) hstep]
      refine ih (i + 1) out1 (by omega) h2 fun j hj => ?_
      rcases Nat.lt_or_ge j i with h' | h'
      · exact h4 j (by omega) (hall j h')
      · obtain rfl : j = i := by omega
        rw [h3]; omega
  have := key d.Nodes.length 0 (List.replicate d.Nodes.length (-1)) (by omega) ⟨List.length_replicate, fun k hk => .inl (by rw [List.getD_eq_getElem?_getD, List.getElem?_replicate, if_pos hk]; rfl)⟩ fun j hj => by omega
  have this' : loopM (fun s : (List Int) × Int => m_spec_l07Counts_l2 d s.1 s.2) (List.replicate d.Nodes.length (-1), 0) = some (cntL d.Nodes) := this
  rw [this']
  rfl

/-! the program's words -/
end Go.Proofs.YtdaoecpkgobelaaDoor
