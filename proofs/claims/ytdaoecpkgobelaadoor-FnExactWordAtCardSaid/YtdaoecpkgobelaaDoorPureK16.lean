/- The word with a number; the next word. -/
import Derived.Test.YtdaoecpkgobelaaDoorPureK15
namespace Go.Proofs.YtdaoecpkgobelaaDoor
open Go Go.RowKit
set_option linter.unusedSimpArgs false
set_option linter.unusedVariables false

/-- The words behind edges. -/
def flA (D : List Node) (G : List (UInt8 × Nat)) : List Str := G.flatMap fun e => (langA (ndD D) 14 e.2).map (e.1 :: ·)
theorem flA_nil (D : List Node) : flA D [] = [] := rfl
theorem flA_cons (D : List Node) (e : UInt8 × Nat) (G : List (UInt8 × Nat)) : flA D (e :: G) = (langA (ndD D) 14 e.2).map (e.1 :: ·) ++ flA D G := rfl
theorem flA_in {D : List Node} {e : UInt8 × Nat} {G : List (UInt8 × Nat)} {m : Nat} (h : m < cntA D e.2) : (flA D (e :: G)).getD m [] = e.1 :: (langA (ndD D) 14 e.2).getD m [] := by
  rw [flA_cons, List.getD_eq_getElem?_getD, List.getElem?_append_left (by rw [List.length_map]; exact h), List.getElem?_map, List.getD_eq_getElem?_getD, List.getElem?_eq_getElem h]
  rfl
theorem flA_out {D : List Node} {e : UInt8 × Nat} {G : List (UInt8 × Nat)} {m : Nat} (h : cntA D e.2 ≤ m) : (flA D (e :: G)).getD m [] = (flA D G).getD (m - cntA D e.2) [] := by
  rw [flA_cons, List.getD_eq_getElem?_getD, List.getElem?_append_right (by rw [List.length_map]; exact h), List.length_map, List.getD_eq_getElem?_getD]
  rfl
theorem flA_len (D : List Node) (e : UInt8 × Nat) (G : List (UInt8 × Nat)) : (flA D (e :: G)).length = cntA D e.2 + (flA D G).length := by
  rw [flA_cons, List.length_append, List.length_map]; rfl
theorem lang_fl {D : List Node} {k : Nat} (h : shortA (ndD D) 14 k) : langA (ndD D) 14 k = (if (ndD D k).1 then [[]] else []) ++ flA D (ndD D k).2 := lang_unfold h
/-- An edge of a node, with what the model reads. -/
theorem edge_at {D : List Node} (hD : ShapeOk D) {k i : Nat} (hk : k < D.length) (hi : i < D[k].Next.length) : ∃ (hl : i < D[k].Letters.length) (t : Nat), D[k].Next[i] = (t : Int) ∧ t < D.length ∧ (ndD D k).2.drop i = (D[k].Letters[i], t) :: (ndD D k).2.drop (i + 1) ∧ (D[k].Letters[i], t) ∈ (ndD D k).2 := by
  have hx := hD.node _ (List.getElem_mem hk)
  have hll : i < D[k].Letters.length := by rw [hx.len]; exact hi
  have hnn := (hx.next _ (List.getElem_mem hi))
  obtain ⟨t, ht⟩ : ∃ t : Nat, D[k].Next[i] = (t : Int) := ⟨D[k].Next[i].toNat, by omega⟩
  have hedge : (ndD D k).2[i]? = some (D[k].Letters[i], t) := by
    rw [ndD_at hk, hx.edge hi, ht, Int.toNat_natCast]
  obtain ⟨h2, h3⟩ := List.getElem?_eq_some_iff.1 hedge
  exact ⟨hll, t, ht, by omega, by rw [List.drop_eq_getElem_cons h2, h3], List.mem_of_getElem? hedge⟩

theorem atS_inner (d : Dawg) (hG : GoodD d.Nodes) (hlen : ∀ x ∈ d.Nodes, x.Next.length ≤ 2000000) {k : Nat} (hk : k < d.Nodes.length) :
    ∀ (c i m : Nat), i + c = d.Nodes[k].Next.length → m < (flA d.Nodes ((ndD d.Nodes k).2.drop i)).length → m ≤ 3000 →
      ∃ (j m' t : Nat) (hj : j < d.Nodes[k].Next.length) (hl : j < d.Nodes[k].Letters.length), d.Nodes[k].Next[j] = (t : Int) ∧ t < d.Nodes.length ∧ (d.Nodes[k].Letters[j], t) ∈ (ndD d.Nodes k).2 ∧ m' < cntA d.Nodes t ∧
        loopM (fun q : Int × Int => m_spec_l07At_l2 d.Nodes[k] (cntL d.Nodes) q.1 q.2) ((m : Int), (i : Int)) = some ((m' : Int), (j : Int)) ∧
        (flA d.Nodes ((ndD d.Nodes k).2.drop i)).getD m [] = d.Nodes[k].Letters[j] :: (langA (ndD d.Nodes) 14 t).getD m' []
  | 0, i, m, hi, hm, _ => by
    have hx := hG.shape.node _ (List.getElem_mem hk)
    have hdrop : (ndD d.Nodes k).2.drop i = [] := by rw [ndD_at hk]; exact List.drop_of_length_le (by rw [hx.edges_len]; omega)
    rw [hdrop] at hm
    cases hm
  | c + 1, i, m, hi, hm, hmx => by
    have hil : i < d.Nodes[k].Next.length := by omega
    have hxl := hlen _ (List.getElem_mem hk)
    obtain ⟨hll, t, ht, htl, hdrop, hmem⟩ := edge_at hG.shape hk hil
    have hc3 := hG.le htl
    rw [hdrop] at hm ⊢
    rcases Nat.lt_or_ge m (cntA d.Nodes t) with h | h
    · refine ⟨i, m, t, hil, hll, ht, htl, hmem, h, loopM_done ?_, flA_in h⟩
      show m_spec_l07At_l2 d.Nodes[k] _ (m : Int) (i : Int) = _
      unfold m_spec_l07At_l2
      rw [bind_of (getL_at hil), ht, bind_of (getL_cnt htl), decide_eq_false (by omega)]; rfl
    · rw [flA_len] at hm
      obtain ⟨j, m', t', hj, hl, g1, g2, g3, g4, g5, g6⟩ := atS_inner d hG hlen hk c (i + 1) (m - cntA d.Nodes t) (by omega) (by simp only at hm; omega) (by omega)
      refine ⟨j, m', t', hj, hl, g1, g2, g3, g4, ?_, by rw [flA_out h]; exact g6⟩
      have hstep : m_spec_l07At_l2 d.Nodes[k] (cntL d.Nodes) (m : Int) (i : Int) = some (.inl ((((m - cntA d.Nodes t : Nat)) : Int), (((i + 1 : Nat)) : Int))) := by
        unfold m_spec_l07At_l2
        rw [bind_of (getL_at hil), ht, bind_of (getL_cnt htl), decide_eq_true (show (cntA d.Nodes t : Int) ≤ (m : Int) by omega), cond_true, chk_succ (show i ≤ 8000000000000000000 by omega), bind_of (getL_at hil), ht, bind_of (getL_cnt htl), chk_to (((m - cntA d.Nodes t : Nat)) : Int) (by omega) (by omega) (by omega)]
        rfl
      rw [loopM_next (step := fun q : Int × Int => m_spec_l07At_l2 d.Nodes[k] (cntL d.Nodes) q.1 q.2) hstep]
      exact g5
theorem atP_inner (d : Dawg) (hG : GoodD d.Nodes) (hlen : ∀ x ∈ d.Nodes, x.Next.length ≤ 2000000) {k : Nat} (hk : k < d.Nodes.length) (xs : Str) (hxs : xs.length ≤ 1000) :
    ∀ (c i m : Nat), i + c = d.Nodes[k].Next.length → m < (flA d.Nodes ((ndD d.Nodes k).2.drop i)).length → m ≤ 3000 →
      ∃ (j m' t : Nat) (hj : j < d.Nodes[k].Next.length) (hl : j < d.Nodes[k].Letters.length), d.Nodes[k].Next[j] = (t : Int) ∧ t < d.Nodes.length ∧ (d.Nodes[k].Letters[j], t) ∈ (ndD d.Nodes k).2 ∧ m' < cntA d.Nodes t ∧
        loopM (fun q : Int × Int => m_impl_WordAt_l2 d.Nodes[k] (cntL d.Nodes) xs q.1 q.2) ((m : Int), (i : Int)) = some (.inl (xs ++ [d.Nodes[k].Letters[j]], (m' : Int), (t : Int))) ∧
        (flA d.Nodes ((ndD d.Nodes k).2.drop i)).getD m [] = d.Nodes[k].Letters[j] :: (langA (ndD d.Nodes) 14 t).getD m' []
  | 0, i, m, hi, hm, _ => by
    have hx := hG.shape.node _ (List.getElem_mem hk)
    have hdrop : (ndD d.Nodes k).2.drop i = [] := by rw [ndD_at hk]; exact List.drop_of_length_le (by rw [hx.edges_len]; omega)
    rw [hdrop] at hm
    cases hm
  | c + 1, i, m, hi, hm, hmx => by
    have hil : i < d.Nodes[k].Next.length := by omega
    have hxl := hlen _ (List.getElem_mem hk)
    obtain ⟨hll, t, ht, htl, hdrop, hmem⟩ := edge_at hG.shape hk hil
    have hc3 := hG.le htl
    rw [hdrop] at hm ⊢
    rcases Nat.lt_or_ge m (cntA d.Nodes t) with h | h
    · refine ⟨i, m, t, hil, hll, ht, htl, hmem, h, loopM_done ?_, flA_in h⟩
      show m_impl_WordAt_l2 d.Nodes[k] _ xs (m : Int) (i : Int) = _
      unfold m_impl_WordAt_l2
      rw [decide_eq_true (show (i : Int) < (d.Nodes[k].Next.length : Int) by omega), cond_true, bind_of (getL_at hil), ht, bind_of (getL_cnt htl), decide_eq_true (show (m : Int) < (cntA d.Nodes t : Int) by omega), cond_true, bind_of (getL_at hll), catL_of (by simp; omega)]; rfl
    · rw [flA_len] at hm
      obtain ⟨j, m', t', hj, hl, g1, g2, g3, g4, g5, g6⟩ := atP_inner d hG hlen hk xs hxs c (i + 1) (m - cntA d.Nodes t) (by omega) (by simp only at hm; omega) (by omega)
      refine ⟨j, m', t', hj, hl, g1, g2, g3, g4, ?_, by rw [flA_out h]; exact g6⟩
      have hstep : m_impl_WordAt_l2 d.Nodes[k] (cntL d.Nodes) xs (m : Int) (i : Int) = some (.inl ((((m - cntA d.Nodes t : Nat)) : Int), (((i + 1 : Nat)) : Int))) := by
        unfold m_impl_WordAt_l2
        rw [decide_eq_true (show (i : Int) < (d.Nodes[k].Next.length : Int) by omega), cond_true, bind_of (getL_at hil), ht, bind_of (getL_cnt htl), decide_eq_false (show ¬ ((m : Int) < (cntA d.Nodes t : Int)) by omega), cond_false, chk_succ (show i ≤ 8000000000000000000 by omega), bind_of (getL_cnt htl), chk_to (((m - cntA d.Nodes t : Nat)) : Int) (by omega) (by omega) (by omega)]
        rfl
      rw [loopM_next (step := fun q : Int × Int => m_impl_WordAt_l2 d.Nodes[k] (cntL d.Nodes) xs q.1 q.2) hstep]
      exact g5
/-- The number behind a node's own word. -/
theorem lang_split {D : List Node} {k m : Nat} (h : shortA (ndD D) 14 k) (hm : m < cntA D k) : ((ndD D k).1 = true ∧ m = 0 ∧ (langA (ndD D) 14 k).getD m [] = []) ∨ ((ndD D k).1 = true ∧ m ≠ 0 ∧ m - 1 < (flA D (ndD D k).2).length ∧ (langA (ndD D) 14 k).getD m [] = (flA D (ndD D k).2).getD (m - 1) []) ∨ ((ndD D k).1 = false ∧ m < (flA D (ndD D k).2).length ∧ (langA (ndD D) 14 k).getD m [] = (flA D (ndD D k).2).getD m []) := by
  unfold cntA at hm
  rw [lang_fl h] at hm ⊢
  cases hf : (ndD D k).1 with
  | true =>
    rw [hf] at hm
    simp only [if_true, List.length_append, List.length_singleton] at hm ⊢
    rcases Nat.eq_zero_or_pos m with h0 | h0
    · left; subst h0; exact ⟨trivial, rfl, rfl⟩
    · right; left
      refine ⟨trivial, by omega, by omega, ?_⟩
      obtain ⟨m, rfl⟩ : ∃ q, m = q + 1 := ⟨m - 1, by omega⟩
      rfl
  | false =>
    rw [hf] at hm
    right; right
    refine ⟨rfl, ?_, ?_⟩
    · simpa using hm
    · rfl
theorem atS_loop (d : Dawg) (hG : GoodD d.Nodes) (hlen : ∀ x ∈ d.Nodes, x.Next.length ≤ 2000000) : ∀ (n k m : Nat) (xs : Str), shortA (ndD d.Nodes) n k → k < d.Nodes.length → m < cntA d.Nodes k → xs.length + n ≤ 1000 →
      loopM (fun s : Int × Str × Int => m_spec_l07At_l1 d (cntL d.Nodes) s.1 s.2.1 s.2.2) ((m : Int), xs, (k : Int)) = some (xs ++ (langA (ndD d.Nodes) 14 k).getD m [])
  | 0, k, m, xs, hs, _, _, _ => hs.elim
  | n + 1, k, m, xs, hs, hk, hm, hx => by
    have hfin : (ndD d.Nodes k).1 = d.Nodes[k].Final := by rw [ndD_at hk]; rfl
    have hc3 := hG.le hk
    have go : ∀ q : Nat, q < (flA d.Nodes (ndD d.Nodes k).2).length → q ≤ 3000 → (langA (ndD d.Nodes) 14 k).getD m [] = (flA d.Nodes (ndD d.Nodes k).2).getD q [] →
        (bif d.Nodes[k].Final then bif (m : Int) == 0 then some (.inr xs) else (chk ((m : Int) - 1)).bind fun z48 => some (.inl z48) else some (.inl (m : Int)) : Option (Int ⊕ Str)) = some (.inl (q : Int)) →
        loopM (fun s : Int × Str × Int => m_spec_l07At_l1 d (cntL d.Nodes) s.1 s.2.1 s.2.2) ((m : Int), xs, (k : Int)) = some (xs ++ (langA (ndD d.Nodes) 14 k).getD m []) := by
      intro q hq hq3 he hA
      obtain ⟨j, m', t, hj, hl, g1, g2, g3, g4, g5, g6⟩ := atS_inner d hG hlen hk d.Nodes[k].Next.length 0 q (by omega) (by rw [List.drop_zero]; exact hq) hq3
      rw [List.drop_zero] at g6
      have hxl := hlen _ (List.getElem_mem hk)
      have g5' : ((loopM (fun q : Int × Int => m_spec_l07At_l2 d.Nodes[k] (cntL d.Nodes) q.1 q.2) ((q : Int), 0)).bind fun x68 => match x68 with | (number64, n66) => some (number64, n66)) = some ((m' : Int), (j : Int)) := by
        have : loopM (fun q : Int × Int => m_spec_l07At_l2 d.Nodes[k] (cntL d.Nodes) q.1 q.2) ((q : Int), 0) = some ((m' : Int), (j : Int)) := g5
        rw [bind_of this]
      have hsub : subL d.Nodes[k].Letters (j : Int) (((j + 1 : Nat)) : Int) = some [d.Nodes[k].Letters[j]] := by
        rw [subL_of (by omega) (by omega) (by omega)]
        congr 1
        have e : ((((j + 1 : Nat)) : Int).toNat - ((j : Nat) : Int).toNat) = 1 := by omega
        rw [e, Int.toNat_natCast, List.drop_eq_getElem_cons hl]
        rfl
      have hstep : m_spec_l07At_l1 d (cntL d.Nodes) (m : Int) xs (k : Int) = some (.inl ((m' : Int), xs ++ [d.Nodes[k].Letters[j]], (t : Int))) := by
        unfold m_spec_l07At_l1
        rw [bind_of (getL_at hk), hA, Option.bind_some]
        dsimp only
        rw [g5', Option.bind_some]
        dsimp only
        rw [chk_succ (show j ≤ 8000000000000000000 by omega), Option.bind_some, bind_of hsub, catL_of (by simp; omega), Option.bind_some, bind_of (getL_at hj), g1]
      rw [loopM_next (step := fun s : Int × Str × Int => m_spec_l07At_l1 d (cntL d.Nodes) s.1 s.2.1 s.2.2) hstep, atS_loop d hG hlen n t m' (xs ++ [d.Nodes[k].Letters[j]]) (hs _ g3) g2 g4 (by simp; omega), he, g6]
      simp
    rcases lang_split (hG.short hk) hm with ⟨h1, h2, h3⟩ | ⟨h1, h2, h3, h4⟩ | ⟨h1, h2, h3⟩
    · rw [h3, List.append_nil]
      refine loopM_done ?_
      show m_spec_l07At_l1 d (cntL d.Nodes) (m : Int) xs (k : Int) = _
      unfold m_spec_l07At_l1
      rw [bind_of (getL_at hk), ← hfin, h1, h2]
      rfl
    · refine go (m - 1) h3 (by omega) h4 ?_
      rw [← hfin, h1, cond_true, show ((m : Int) == 0) = false by rw [beq_eq_false_iff_ne]; omega, cond_false, chk_pred (by omega) (by omega), Option.bind_some]
    · refine go m h2 (by omega) h3 ?_
      rw [← hfin, h1, cond_false]
theorem atP_loop (d : Dawg) (hG : GoodD d.Nodes) (hlen : ∀ x ∈ d.Nodes, x.Next.length ≤ 2000000) : ∀ (n k m : Nat) (xs : Str), shortA (ndD d.Nodes) n k → k < d.Nodes.length → m < cntA d.Nodes k → xs.length + n ≤ 1000 →
      loopM (fun s : Str × Int × Int => m_impl_WordAt_l1 d (cntL d.Nodes) s.1 s.2.1 s.2.2) (xs, (m : Int), (k : Int)) = some (xs ++ (langA (ndD d.Nodes) 14 k).getD m [], 0)
  | 0, k, m, xs, hs, _, _, _ => hs.elim
  | n + 1, k, m, xs, hs, hk, hm, hx => by
    have hfin : (ndD d.Nodes k).1 = d.Nodes[k].Final := by rw [ndD_at hk]; rfl
    have hc3 := hG.le hk
    have go : ∀ q : Nat, q < (flA d.Nodes (ndD d.Nodes k).2).length → q ≤ 3000 → (langA (ndD d.Nodes) 14 k).getD m [] = (flA d.Nodes (ndD d.Nodes k).2).getD q [] →
        (bif d.Nodes[k].Final then bif (m : Int) == 0 then some (.inr (xs, 0)) else (chk ((m : Int) - 1)).bind fun z83 => some (.inl z83) else some (.inl (m : Int)) : Option (Int ⊕ (Str × Int))) = some (.inl (q : Int)) →
        loopM (fun s : Str × Int × Int => m_impl_WordAt_l1 d (cntL d.Nodes) s.1 s.2.1 s.2.2) (xs, (m : Int), (k : Int)) = some (xs ++ (langA (ndD d.Nodes) 14 k).getD m [], 0) := by
      intro q hq hq3 he hA
      obtain ⟨j, m', t, hj, hl, g1, g2, g3, g4, g5, g6⟩ := atP_inner d hG hlen hk xs (by omega) d.Nodes[k].Next.length 0 q (by omega) (by rw [List.drop_zero]; exact hq) hq3
      rw [List.drop_zero] at g6
      have hxl := hlen _ (List.getElem_mem hk)
      have g5' : loopM (fun s : Int × Int => m_impl_WordAt_l2 d.Nodes[k] (cntL d.Nodes) xs s.1 s.2) ((q : Int), 0) = some (.inl (xs ++ [d.Nodes[k].Letters[j]], (m' : Int), (t : Int))) := g5
      have hstep : m_impl_WordAt_l1 d (cntL d.Nodes) xs (m : Int) (k : Int) = some (.inl (xs ++ [d.Nodes[k].Letters[j]], (m' : Int), (t : Int))) := by
        unfold m_impl_WordAt_l1
        rw [bind_of (getL_at hk), hA, Option.bind_some]
        dsimp only
        rw [bind_of g5']
        rfl
      rw [loopM_next (step := fun s : Str × Int × Int => m_impl_WordAt_l1 d (cntL d.Nodes) s.1 s.2.1 s.2.2) hstep, atP_loop d hG hlen n t m' (xs ++ [d.Nodes[k].Letters[j]]) (hs _ g3) g2 g4 (by simp; omega), he, g6]
      simp
    rcases lang_split (hG.short hk) hm with ⟨h1, h2, h3⟩ | ⟨h1, h2, h3, h4⟩ | ⟨h1, h2, h3⟩
    · rw [h3, List.append_nil]
      refine loopM_done ?_
      show m_impl_WordAt_l1 d (cntL d.Nodes) xs (m : Int) (k : Int) = _
      unfold m_impl_WordAt_l1
      rw [bind_of (getL_at hk), ← hfin, h1, h2]
      rfl
    · refine go (m - 1) h3 (by omega) h4 ?_
      rw [← hfin, h1, cond_true, show ((m : Int) == 0) = false by rw [beq_eq_false_iff_ne]; omega, cond_false, chk_pred (by omega) (by omega), Option.bind_some]
    · refine go m h2 (by omega) h3 ?_
      rw [← hfin, h1, cond_false]
theorem At_eq (d : Dawg) (hG : GoodD d.Nodes) (hlen : ∀ x ∈ d.Nodes, x.Next.length ≤ 2000000) {m : Nat} (hm : m < (langA (ndD d.Nodes) 14 0).length) : m_spec_l07At d (m : Int) = some ((langA (ndD d.Nodes) 14 0).getD m []) := by
  unfold m_spec_l07At
  rw [Counts_eq d hG hlen, Option.bind_some]
  have h := atS_loop d hG hlen 14 0 m [] hG.num.good.short hG.shape.pos hm (by simp)
  have h' : loopM (fun s : Int × Str × Int => m_spec_l07At_l1 d (cntL d.Nodes) s.1 s.2.1 s.2.2) ((m : Int), ([] : Str), 0) = _ := h
  rw [bind_of h', List.nil_append]
theorem WordAt_eq (d : Dawg) (hlen : ∀ x ∈ d.Nodes, x.Next.length ≤ 2000000) (m : Int) : ∃ v, m_impl_WordAt d m = some v ∧ m_spec_WordAt d m = some v := by
  obtain ⟨r, h1, h2, h3⟩ := tests_agree d hlen
  unfold m_impl_WordAt m_spec_WordAt
  rw [h1, h2]
  cases r with
  | false => exact ⟨([], 1), rfl, rfl⟩
  | true =>
    have hg := h3.1 rfl
    have hc : cntA d.Nodes 0 ≤ 3000 := hg.few
    have h0 : getL (cntL d.Nodes) 0 = some (cntA d.Nodes 0 : Int) := getL_cnt hg.shape.pos
    rw [Option.bind_some, Option.bind_some, Bool.not_true, cond_false, cond_false, behind_eq d hg hlen, Counts_eq d hg hlen, Option.bind_some, Option.bind_some, h0, Option.bind_some, Option.bind_some, chk_in (by omega) (by omega), Option.bind_some, Option.bind_some, within_eq, l00In_eq, Option.bind_some, Option.bind_some]
    cases hb : inB m 0 ((cntA d.Nodes 0 : Int) - 1) with
    | false => exact ⟨([], 2), rfl, rfl⟩
    | true =>
      rw [Bool.not_true, cond_false, cond_false]
      have hbb := inB_iff.1 hb
      obtain ⟨q, rfl⟩ : ∃ q : Nat, m = (q : Int) := ⟨m.toNat, by omega⟩
      have hq : q < cntA d.Nodes 0 := by omega
      refine ⟨((langA (ndD d.Nodes) 14 0).getD q [], 0), ?_, ?_⟩
      · have h := atP_loop d hg hlen 14 0 q [] hg.num.good.short hg.shape.pos hq (by simp)
        have h' : loopM (fun s : Str × Int × Int => m_impl_WordAt_l1 d (cntL d.Nodes) s.1 s.2.1 s.2.2) (([] : Str), (q : Int), 0) = _ := h
        rw [bind_of h', List.nil_append]
      · rw [At_eq d hg hlen hq]; rfl
theorem flA_ne {D : List Node} {G : List (UInt8 × Nat)} {w : Str} (h : w ∈ flA D G) : w ≠ [] := by
  obtain ⟨e, _, h⟩ := List.mem_flatMap.1 h
  obtain ⟨v, _, rfl⟩ := List.mem_map.1 h
  intro h; cases h
theorem acc_first (D : List Node) (hG : GoodD D) (s : Str) {A B : List Str} (hc : CutA (langA (ndD D) 14 0) s A (behindA D s) B) : (decide (A.length < (langA (ndD D) 14 0).length) && (langA (ndD D) 14 0).getD A.length [] == s) = accA (ndD D) s := by
  have hnil : behindA D s = [] → (decide (A.length < (langA (ndD D) 14 0).length) && (langA (ndD D) 14 0).getD A.length [] == s) = false := fun hM => by
    rcases Nat.lt_or_ge A.length (langA (ndD D) 14 0).length with h1 | h1
    · have := hc.getD_end (by rw [hM]; exact h1)
      rw [hM, List.length_nil, Nat.add_zero] at this
      have hne : ((langA (ndD D) 14 0).getD A.length [] == s) = false := by
        rw [beq_eq_false_iff_ne]
        intro h
        rw [h] at this
        exact this (List.prefix_refl s)
      rw [hne, Bool.and_false]
    · rw [decide_eq_false (by omega), Bool.false_and]
  have hcons : ∀ {m : Str} {M : List Str}, behindA D s = m :: M → A.length < (langA (ndD D) 14 0).length ∧ (langA (ndD D) 14 0).getD A.length [] = s ++ m := fun {m M} hM => by
    have hl := hc.len
    rw [hM, List.length_cons] at hl
    refine ⟨by omega, ?_⟩
    rw [List.getD_eq_getElem?_getD, hc.eq, hM, List.append_assoc, List.getElem?_append_right (Nat.le_refl _), Nat.sub_self]
    rfl
  unfold accA
  cases ha : afterA (ndD D) 0 s with
  | none => exact hnil (by unfold behindA; rw [ha])
  | some j =>
    have hj := afterA_lt hG.shape s hG.shape.pos ha
    have hb : behindA D s = langA (ndD D) 14 j := by unfold behindA; rw [ha]
    rw [lang_fl (hG.short hj)] at hb
    show _ = (ndD D j).1
    cases hf : (ndD D j).1 with
    | true =>
      rw [hf, if_pos rfl] at hb
      obtain ⟨h1, h2⟩ := hcons hb
      rw [decide_eq_true h1, h2, List.append_nil]
      simp
    | false =>
      rw [hf, if_neg (by simp), List.nil_append] at hb
      cases hfl : flA D (ndD D j).2 with
      | nil => exact hnil (by rw [hb, hfl])
      | cons m M =>
        rw [hfl] at hb
        obtain ⟨h1, h2⟩ := hcons hb
        have hm : m ≠ [] := flA_ne (D := D) (G := (ndD D j).2) (by rw [hfl]; exact List.mem_cons_self)
        have hne : ((langA (ndD D) 14 0).getD A.length [] == s) = false := by
          rw [beq_eq_false_iff_ne, h2]
          intro h
          exact hm (List.append_right_eq_self.1 h)
        rw [hne, Bool.and_false]
theorem NextWord_eq (d : Dawg) (hlen : ∀ x ∈ d.Nodes, x.Next.length ≤ 2000000) (s : Str) (hs : s.length ≤ 1000000000) : ∃ v, m_impl_NextWord d s = some v ∧ m_spec_NextWord d s = some v := by
  obtain ⟨r, h1, h2, h3⟩ := tests_agree d hlen
  unfold m_impl_NextWord m_spec_NextWord
  rw [h1, h2]
  cases r with
  | false => exact ⟨([], 1), rfl, rfl⟩
  | true =>
    have hg := h3.1 rfl
    have hfew := hg.few
    obtain ⟨A, B, hc⟩ := hg.cut s
    obtain ⟨n, hn, hb⟩ := binary_eq (langA (ndD d.Nodes) 14 0) s (by omega) hg.sorted.rise
    obtain rfl := hn.unique hc.first
    rw [acc_first d.Nodes hg s hc] at hb
    have hl := hc.len
    have h0 : getL (cntL d.Nodes) 0 = some ((langA (ndD d.Nodes) 14 0).length : Int) := getL_cnt hg.shape.pos
    rw [Option.bind_some, Option.bind_some, Bool.not_true, cond_false, cond_false, words_eq d hg hlen, Option.bind_some, hb, Option.bind_some, Less07_eq d hg hlen s hs, hc.less, Option.bind_some, acceptsS_eq d hg.shape hlen s (by omega), Option.bind_some]
    have hq : ∃ q : Nat, q ≤ (langA (ndD d.Nodes) 14 0).length ∧ (bif accA (ndD d.Nodes) s then (chk ((A.length : Int) + 1)).bind fun z => some z else some (A.length : Int) : Option Int) = some (q : Int) := by
      have hf := acc_first d.Nodes hg s hc
      cases hacc : accA (ndD d.Nodes) s with
      | true =>
        rw [hacc, Bool.and_eq_true, decide_eq_true_eq] at hf
        exact ⟨A.length + 1, hf.1, by rw [cond_true, chk_succ (by omega)]; rfl⟩
      | false => exact ⟨A.length, by omega, rfl⟩
    obtain ⟨q, hq1, hq2⟩ := hq
    rw [hq2, Option.bind_some, Option.bind_some, Counts_eq d hg hlen, Option.bind_some, h0, Option.bind_some]
    rcases Nat.lt_or_ge q (langA (ndD d.Nodes) 14 0).length with h | h
    · refine ⟨((langA (ndD d.Nodes) 14 0).getD q [], 0), ?_, ?_⟩
      · rw [show ((q : Int) == ((langA (ndD d.Nodes) 14 0).length : Int)) = false by rw [beq_eq_false_iff_ne]; omega, cond_false, getL_getD h []]; rfl
      · rw [decide_eq_false (by omega), cond_false, At_eq d hg hlen h]; rfl
    · refine ⟨([], 3), ?_, ?_⟩
      · rw [show ((q : Int) == ((langA (ndD d.Nodes) 14 0).length : Int)) = true by rw [beq_iff_eq]; omega]; rfl
      · rw [decide_eq_true (by omega)]; rfl

end Go.Proofs.YtdaoecpkgobelaaDoor
