/- The reference's numbering of nodes, and its automaton of a list. -/
import Derived.Test.YtdaoecpkgobelaaDoorPureK9
namespace Go.Proofs.YtdaoecpkgobelaaDoor
open Go Go.RowKit
set_option linter.unusedSimpArgs false
set_option linter.unusedVariables false

section
variable {σ : Type} [DecidableEq σ] {nd : σ → Bool × List (UInt8 × σ)}
omit [DecidableEq σ] in
theorem DoneA.child {n : Nat} {k : σ} {K : List σ} (h : shortA nd (n + 1) k) (hD : DoneA nd (n + 1) k K) : ∀ e ∈ (nd k).2, DoneA nd n e.2 (K ++ [k]) := fun e he j hj hjp m i hi => by
  rcases List.mem_append.1 hj with hj | hj
  · refine List.mem_append_left _ (hD j hj ?_ m i hi)
    rw [preA]
    exact List.mem_cons_of_mem _ (List.mem_flatMap.2 ⟨e, he, hjp⟩)
  · rw [List.mem_singleton] at hj
    subst hj
    exact absurd hjp (preA_acyc nd h e he n)
theorem DoneA.add {n : Nat} {x y : σ} {K : List σ} (hs : shortA nd n x) (hD : DoneA nd n y K) : DoneA nd n y (ddA K (preA nd n x)) := fun j hj hjp m i hi => by
  rw [mem_ddA] at hj ⊢
  rcases hj with hj | hj
  · exact .inl (hD j hj hjp m i hi)
  · exact .inr (preA_sub nd hs hj hi)
theorem dfsA_in {n : Nat} {k : σ} {K : List σ} (h : k ∈ K) : dfsA nd n k K = K := by
  cases n with
  | zero => rfl
  | succ n => rw [dfsA, if_pos h]
end

def headN (N : List Node) (k : Nat) : Node := match N[k]? with | some x => ⟨x.Final, x.Letters, []⟩ | none => ⟨false, [], []⟩
/-- The numbering's state: these nodes have their numbers. -/
structure RSt (N : List Node) (K : List Nat) (place : List Int) (out : List Node) : Prop where
  len : place.length = N.length
  at_ : ∀ j, j < N.length → place.getD j 0 = if j ∈ K then (K.idxOf j : Int) else -1
  out : out = K.map (headN N)
  lt : ∀ k ∈ K, k < N.length
  nd : K.Nodup
theorem nodup_len : ∀ {n : Nat} {K : List Nat} (_ : ∀ k ∈ K, k < n) (_ : K.Nodup), K.length ≤ n
  | 0, K, h, _ => by
    cases K with
    | nil => exact Nat.le_refl _
    | cons k K => exact absurd (h k List.mem_cons_self) (by omega)
  | n + 1, K, h, hn => by
    have h1 : ∀ k ∈ K.erase n, k < n := fun k hk => by
      have h2 := (List.Nodup.mem_erase_iff hn).1 hk
      have := h k h2.2
      have := h2.1
      omega
    have h2 := nodup_len h1 (hn.erase n)
    have h3 : K.length ≤ (K.erase n).length + 1 := by
      rw [List.length_erase]
      split <;> omega
    omega
theorem idxOf_snoc {α : Type} [DecidableEq α] {K : List α} {k : α} (h : k ∉ K) (j : α) : (K ++ [k]).idxOf j = if j ∈ K then K.idxOf j else if j = k then K.length else K.length + 1 := by
  rw [List.idxOf_append]
  by_cases hj : j ∈ K
  · rw [if_pos hj, if_pos hj]
  · rw [if_neg hj, if_neg hj]
    by_cases hjk : j = k
    · subst hjk; simp
    · have : (k == j) = false := by simpa using fun e => hjk e.symm
      rw [if_neg hjk, List.idxOf_cons, this]; simp; omega
theorem RSt.add {N : List Node} {K : List Nat} {place : List Int} {out : List Node} (h : RSt N K place out) {k : Nat} (hk : k < N.length) (hn : k ∉ K) :
    RSt N (K ++ [k]) (place.set k (K.length : Int)) (out ++ [headN N k]) := by
  refine ⟨by rw [List.length_set]; exact h.len, fun j hj => ?_, by rw [h.out, List.map_append]; rfl, fun j hj => ?_, ?_⟩
  · rw [getD_put (by rw [h.len]; exact hk), idxOf_snoc hn]
    by_cases hjk : j = k
    · subst hjk; rw [if_pos rfl, if_pos (by simp), if_neg hn, if_pos rfl]
    · rw [if_neg hjk, h.at_ j hj]
      by_cases hjK : j ∈ K
      · rw [if_pos hjK, if_pos (List.mem_append_left _ hjK), if_pos hjK]
      · rw [if_neg hjK, if_neg (by rw [List.mem_append, List.mem_singleton]; exact fun h' => h'.elim hjK hjk)]
  · rcases List.mem_append.1 hj with hj | hj
    · exact h.lt j hj
    · rw [List.mem_singleton] at hj; omega
  · rw [List.nodup_append]
    exact ⟨h.nd, by simp, fun a ha b hb => by rw [List.mem_singleton] at hb; subst hb; rintro rfl; exact hn ha⟩

def SpecR (N : List Node) (n : Nat) : Prop := ∀ (f : Nat) (K : List Nat) (place : List Int) (out : List Node) (k : Nat), n ≤ f → shortA (ndD N) n k → k < N.length → k ∉ K → DoneA (ndD N) n k K → RSt N K place out →
  ∃ place' out', m_spec_l06R_visit_n f ⟨N, place, out⟩ (k : Int) = some ⟨N, place', out'⟩ ∧ RSt N (dfsA (ndD N) n k K) place' out'

theorem visitR_loop {N : List Node} (hN : InvB N) (hX : ∀ x ∈ N, x.Next.length ≤ 10000) {n f : Nat} (ih : SpecR N n) (hf : n ≤ f) {k : Nat} (hk : k < N.length) (hs : shortA (ndD N) (n + 1) k) (r : l06R) (hr : r.old = N) :
    ∀ (c i : Nat) (K : List Nat) (place : List Int) (out : List Node), i + c = N[k].Next.length → (∀ e ∈ (ndD N k).2, DoneA (ndD N) n e.2 K) → RSt N K place out →
      ∃ place' out', loopM (fun s : (List Int) × (List Node) × Int => m_spec_l06R_visit_l1 r (k : Int) (m_spec_l06R_visit_n f) s.1 s.2.1 s.2.2) (place, out, (i : Int)) = some (place', out') ∧
        RSt N (((ndD N k).2.drop i).foldl (fun K e => dfsA (ndD N) n e.2 K) K) place' out'
  | 0, i, K, place, out, hc, hD, hR => by
    have hx := hN.node k hk
    have hdrop : (ndD N k).2.drop i = [] := by
      rw [ndD_at hk]; exact List.drop_of_length_le (by rw [hx.edges_len]; omega)
    refine ⟨place, out, loopM_done ?_, by rw [hdrop]; exact hR⟩
    show m_spec_l06R_visit_l1 r (k : Int) _ place out (i : Int) = _
    unfold m_spec_l06R_visit_l1
    rw [hr, bind_of (getL_at hk), decide_eq_false (by omega)]; rfl
  | c + 1, i, K, place, out, hc, hD, hR => by
    have hx := hN.node k hk
    have hxl := hX _ (List.getElem_mem hk)
    have hi : i < N[k].Next.length := by omega
    have hnn := (hx.next _ (List.getElem_mem hi))
    obtain ⟨t, ht⟩ : ∃ t : Nat, N[k].Next[i] = (t : Int) := ⟨N[k].Next[i].toNat, by omega⟩
    have htl : t < N.length := by omega
    have hedge : (ndD N k).2[i]? = some (N[k].Letters[i]'(by rw [hx.len]; exact hi), t) := by
      rw [ndD_at hk, hx.edge hi, ht, Int.toNat_natCast]
    obtain ⟨h2, h3⟩ := List.getElem?_eq_some_iff.1 hedge
    have hdrop : (ndD N k).2.drop i = (N[k].Letters[i]'(by rw [hx.len]; exact hi), t) :: (ndD N k).2.drop (i + 1) := by
      rw [List.drop_eq_getElem_cons h2, h3]
    have hmem : (N[k].Letters[i]'(by rw [hx.len]; exact hi), t) ∈ (ndD N k).2 := List.mem_of_getElem? hedge
    have hst : shortA (ndD N) n t := hs _ hmem
    have hpt : getL place (t : Int) = some (place.getD t 0) := getL_gd 0 (by rw [hR.len]; exact htl)
    -- one child
    obtain ⟨place1, out1, hchild, hR1⟩ : ∃ place1 out1, (bif decide (place.getD t 0 < 0) then (m_spec_l06R_visit_n f (⟨r.old, place, out⟩ : l06R) (t : Int)).bind fun y137 => some (y137.place, y137.out) else some (place, out) : Option ((List Int) × (List Node))) = some (place1, out1) ∧ RSt N (dfsA (ndD N) n t K) place1 out1 := by
      rw [hR.at_ t htl]
      by_cases htK : t ∈ K
      · rw [if_pos htK, decide_eq_false (by omega), cond_false]
        exact ⟨place, out, rfl, by rw [dfsA_in htK]; exact hR⟩
      · rw [if_neg htK, decide_eq_true (by omega), cond_true, hr]
        obtain ⟨p1, o1, h1, h2⟩ := ih f K place out t hf hst htl htK (hD _ hmem) hR
        exact ⟨p1, o1, by rw [bind_of h1], h2⟩
    have hstep : m_spec_l06R_visit_l1 r (k : Int) (m_spec_l06R_visit_n f) place out (i : Int) = some (.inl (place1, out1, (((i + 1 : Nat)) : Int))) := by
      unfold m_spec_l06R_visit_l1
      rw [chk_succ (show i ≤ 8000000000000000000 by omega)]
      have hg : getL r.old (k : Int) = some N[k] := by rw [hr]; exact getL_at hk
      rw [bind_of hg, decide_eq_true (show (i : Int) < (N[k].Next.length : Int) by omega), cond_true, bind_of hg, bind_of (getL_at hi), ht, bind_of hpt, hchild]
      rfl
    obtain ⟨p2, o2, hrec, hR2⟩ := visitR_loop hN hX ih hf hk hs r hr c (i + 1) _ place1 out1 (by omega) (fun e he => by
      rw [dfsA_eq (ndD N) hst (hD _ hmem)]
      exact DoneA.add hst (hD e he)) hR1
    refine ⟨p2, o2, ?_, by rw [hdrop]; exact hR2⟩
    rw [loopM_next (step := fun s : (List Int) × (List Node) × Int => m_spec_l06R_visit_l1 r (k : Int) (m_spec_l06R_visit_n f) s.1 s.2.1 s.2.2) hstep]
    exact hrec
theorem visitR_step {N : List Node} (hN : InvB N) (hX : ∀ x ∈ N, x.Next.length ≤ 10000) (hNl : N.length ≤ 2000000) : ∀ n, SpecR N n
  | 0 => fun f K place out k hf hs => hs.elim
  | n + 1 => fun f K place out k hf hs hk hnK hD hR => by
    obtain ⟨f, rfl⟩ : ∃ g, f = g + 1 := ⟨f - 1, by omega⟩
    show ∃ place' out', m_spec_l06R_visit_b (m_spec_l06R_visit_n f) ⟨N, place, out⟩ (k : Int) = _ ∧ _
    unfold m_spec_l06R_visit_b
    have hkp : k < place.length := by rw [hR.len]; exact hk
    have hol : out.length = K.length := by rw [hR.out, List.length_map]
    have hKl := nodup_len hR.lt hR.nd
    have hadd := hR.add hk hnK
    have hhd : headN N k = (⟨N[k].Final, N[k].Letters, ([] : List Int)⟩ : Node) := by unfold headN; rw [List.getElem?_eq_getElem hk]
    show ∃ place' out', ((getL place (k : Int)).bind _) = _ ∧ _
    rw [bind_of (getL_gd 0 hkp)]
    show ∃ place' out', ((setL place (k : Int) (out.length : Int)).bind _) = _ ∧ _
    rw [bind_of (setL_of hkp)]
    show ∃ place' out', ((getL N (k : Int)).bind _) = _ ∧ _
    rw [bind_of (getL_at hk)]
    show ∃ place' out', ((getL N (k : Int)).bind _) = _ ∧ _
    rw [bind_of (getL_at hk), ← hhd]
    show ∃ place' out', ((catL out [headN N k]).bind _) = _ ∧ _
    rw [catL_of (by simp; omega), Option.bind_some, hol]
    obtain ⟨p2, o2, hrun, hR2⟩ := visitR_loop (n := n) (f := f) hN hX (visitR_step hN hX hNl n) (by omega) hk hs ⟨N, place, out⟩ rfl N[k].Next.length 0 (K ++ [k]) _ _ (by omega) (DoneA.child hs hD) hadd
    have hrun' : loopM (fun s : (List Int) × (List Node) × Int => m_spec_l06R_visit_l1 ⟨N, place, out⟩ (k : Int) (m_spec_l06R_visit_n f) s.1 s.2.1 s.2.2) (place.set k (K.length : Int), out ++ [headN N k], 0) = some (p2, o2) := hrun
    rw [bind_of hrun']
    refine ⟨p2, o2, rfl, ?_⟩
    rw [dfsA, if_neg hnK]
    rw [List.drop_zero] at hR2
    exact hR2

/-! the successors -/
def fullN (N : List Node) (K : List Nat) (k : Nat) : Node := match N[k]? with | some x => ⟨x.Final, x.Letters, x.Next.map fun t => (K.idxOf t.toNat : Int)⟩ | none => ⟨false, [], []⟩
theorem map_set_idx {α β : Type} [DecidableEq α] (g : α → β) : ∀ {K : List α} {k : α} (v : β), K.Nodup → k ∈ K → (K.map g).set (K.idxOf k) v = K.map fun j => if j = k then v else g j
  | [], k, v, _, h => by cases h
  | x :: K, k, v, hn, h => by
    rw [List.nodup_cons] at hn
    by_cases hx : x = k
    · subst hx
      rw [List.map_cons, List.map_cons, if_pos rfl]
      have : (x :: K).idxOf x = 0 := by simp
      rw [this, List.set_cons_zero]
      congr 1
      exact List.map_congr_left fun j hj => by rw [if_neg (show ¬ j = x from fun e => hn.1 (e ▸ hj))]
    · have hb : (x == k) = false := by simpa using hx
      rw [List.map_cons, List.map_cons, if_neg hx, List.idxOf_cons, hb]
      simp only [cond_false, List.set_cons_succ]
      rw [map_set_idx g v hn.2 ((List.mem_cons.1 h).resolve_left fun e => hx e.symm)]
theorem num_inner {N : List Node} (hN : InvB N) (hX : ∀ x ∈ N, x.Next.length ≤ 10000) {K : List Nat} {place : List Int} {out : List Node} (hR : RSt N K place out) (hcl : ∀ k ∈ K, ∀ e ∈ (ndD N k).2, e.2 ∈ K) {k : Nat} (hk : k < N.length) (hkK : k ∈ K) (g : Nat → Node) :
    ∀ (c i : Nat), i + c = N[k].Next.length →
      loopM (fun s : List Node × Int => m_spec_l06Number_l3 N place (k : Int) (K.idxOf k : Int) s.1 s.2) (K.map (fun j => if j = k then ⟨N[k].Final, N[k].Letters, (N[k].Next.take i).map fun t => (K.idxOf t.toNat : Int)⟩ else g j), (i : Int)) =
        some (K.map fun j => if j = k then fullN N K k else g j)
  | 0, i, hc => by
    refine loopM_done ?_
    show m_spec_l06Number_l3 N place (k : Int) _ _ (i : Int) = _
    unfold m_spec_l06Number_l3
    rw [bind_of (getL_at hk), decide_eq_false (by omega), cond_false]
    have : fullN N K k = (⟨N[k].Final, N[k].Letters, (N[k].Next.take i).map fun t => (K.idxOf t.toNat : Int)⟩ : Node) := by
      unfold fullN; rw [List.getElem?_eq_getElem hk, List.take_of_length_le (by omega)]
    rw [this]
  | c + 1, i, hc => by
    have hx := hN.node k hk
    have hxl := hX _ (List.getElem_mem hk)
    have hi : i < N[k].Next.length := by omega
    have hnn := (hx.next _ (List.getElem_mem hi))
    obtain ⟨t, ht⟩ : ∃ t : Nat, N[k].Next[i] = (t : Int) := ⟨N[k].Next[i].toNat, by omega⟩
    have htl : t < N.length := by omega
    have hedge : (N[k].Letters[i]'(by rw [hx.len]; exact hi), t) ∈ (ndD N k).2 := by
      have := hx.edge hi
      rw [ht, Int.toNat_natCast] at this
      rw [ndD_at hk]
      exact List.mem_of_getElem? this
    have htK := hcl k hkK _ hedge
    have hidx : K.idxOf k < K.length := List.idxOf_lt_length_of_mem hkK
    have hpt : getL place (t : Int) = some (K.idxOf t : Int) := by
      rw [getL_gd 0 (by rw [hR.len]; exact htl), hR.at_ t htl, if_pos htK]
    have hat : ∀ (h : Nat → Node), getL (K.map h) (K.idxOf k : Int) = some (h k) := fun h => by
      rw [getL_at (by rw [List.length_map]; exact hidx), List.getElem_map, List.getElem_idxOf hidx]
    have hstep : m_spec_l06Number_l3 N place (k : Int) (K.idxOf k : Int) (K.map (fun j => if j = k then ⟨N[k].Final, N[k].Letters, (N[k].Next.take i).map fun t => (K.idxOf t.toNat : Int)⟩ else g j)) (i : Int) =
        some (.inl (K.map (fun j => if j = k then ⟨N[k].Final, N[k].Letters, (N[k].Next.take (i + 1)).map fun t => (K.idxOf t.toNat : Int)⟩ else g j), (((i + 1 : Nat)) : Int))) := by
      unfold m_spec_l06Number_l3
      rw [chk_succ (show i ≤ 8000000000000000000 by omega), bind_of (getL_at hk), decide_eq_true (show (i : Int) < (N[k].Next.length : Int) by omega), cond_true, bind_of (hat _), if_pos rfl, bind_of (getL_at hk), bind_of (getL_at hi), ht, bind_of hpt]
      show ((catL ((N[k].Next.take i).map fun t => (K.idxOf t.toNat : Int)) [(K.idxOf t : Int)]).bind _) = _
      rw [catL_of (by rw [List.length_map, List.length_take, List.length_singleton]; omega), Option.bind_some]
      rw [setL_of (by rw [List.length_map]; exact hidx), Option.bind_some, Option.bind_some, map_set_idx _ _ hR.nd hkK]
      congr 3
      refine List.map_congr_left fun j hj => ?_
      by_cases hjk : j = k
      · rw [if_pos hjk, if_pos hjk, List.take_add_one, List.getElem?_eq_getElem hi, ht, List.map_append]
        rfl
      · rw [if_neg hjk, if_neg hjk, if_neg hjk]
    rw [loopM_next (step := fun s : List Node × Int => m_spec_l06Number_l3 N place (k : Int) (K.idxOf k : Int) s.1 s.2) hstep]
    exact num_inner hN hX hR hcl hk hkK g c (i + 1) (by omega)
theorem num_outer {N : List Node} (hN : InvB N) (hX : ∀ x ∈ N, x.Next.length ≤ 10000) (hNl : N.length ≤ 2000000) {K : List Nat} {place : List Int} {out : List Node} (hR : RSt N K place out) (hcl : ∀ k ∈ K, ∀ e ∈ (ndD N k).2, e.2 ∈ K) :
    ∀ (c k : Nat), k + c = N.length →
      loopM (fun s : List Node × Int => m_spec_l06Number_l2 N place s.1 s.2) (K.map (fun j => if j < k then fullN N K j else headN N j), (k : Int)) = some (K.map (fullN N K))
  | 0, k, hc => by
    refine loopM_done ?_
    show m_spec_l06Number_l2 N place _ (k : Int) = _
    unfold m_spec_l06Number_l2
    rw [decide_eq_false (by omega), cond_false]
    congr 2
    exact List.map_congr_left fun j hj => by rw [if_pos (by have := hR.lt j hj; omega)]
  | c + 1, k, hc => by
    have hk : k < N.length := by omega
    have hstep : m_spec_l06Number_l2 N place (K.map (fun j => if j < k then fullN N K j else headN N j)) (k : Int) =
        some (.inl (K.map (fun j => if j < k + 1 then fullN N K j else headN N j), (((k + 1 : Nat)) : Int))) := by
      unfold m_spec_l06Number_l2
      rw [chk_succ (show k ≤ 8000000000000000000 by omega), decide_eq_true (show (k : Int) < (N.length : Int) by omega), cond_true, bind_of (getL_gd 0 (by rw [hR.len]; exact hk)), hR.at_ k hk]
      by_cases hkK : k ∈ K
      · rw [if_pos hkK, decide_eq_false (by omega), cond_false]
        have h1 := num_inner hN hX hR hcl hk hkK (fun j => if j < k then fullN N K j else headN N j) N[k].Next.length 0 (by omega)
        have e1 : (K.map (fun j => if j < k then fullN N K j else headN N j)) = K.map (fun j => if j = k then ⟨N[k].Final, N[k].Letters, (N[k].Next.take 0).map fun t => (K.idxOf t.toNat : Int)⟩ else if j < k then fullN N K j else headN N j) := by
          refine List.map_congr_left fun j hj => ?_
          by_cases hjk : j = k
          · subst hjk
            rw [if_neg (Nat.lt_irrefl _), if_pos rfl]
            unfold headN
            rw [List.getElem?_eq_getElem hk]; rfl
          · rw [if_neg hjk]
        rw [← e1] at h1
        rw [show ((0 : Nat) : Int) = 0 from rfl] at h1
        rw [bind_of h1, Option.bind_some]
        congr 3
        refine List.map_congr_left fun j hj => ?_
        by_cases hjk : j = k
        · subst hjk; rw [if_pos rfl, if_pos (Nat.lt_succ_self _)]
        · rw [if_neg hjk]
          by_cases hlt : j < k
          · rw [if_pos hlt, if_pos (by omega)]
          · rw [if_neg hlt, if_neg (by omega)]
      · rw [if_neg hkK, decide_eq_true (by omega), cond_true, Option.bind_some, Option.bind_some]
        congr 3
        refine List.map_congr_left fun j hj => ?_
        have hjk : j ≠ k := fun e => hkK (e ▸ hj)
        by_cases hlt : j < k
        · rw [if_pos hlt, if_pos (by omega)]
        · rw [if_neg hlt, if_neg (by omega)]
    rw [loopM_next (step := fun s : List Node × Int => m_spec_l06Number_l2 N place s.1 s.2) hstep]
    exact num_outer hN hX hNl hR hcl c (k + 1) (by omega)
theorem num_first (N : List Node) (hNl : N.length ≤ 2000000) : loopM (fun s : (List Int) × Int => m_spec_l06Number_l1 N s.1 s.2) (([] : (List Int)), 0) = some (List.replicate N.length (-1)) := by
  have := loop_run (step := fun s : (List Int) × Int => m_spec_l06Number_l1 N s.1 s.2) (fun i => (List.replicate i (-1 : Int), ((i : Nat) : Int))) N.length (List.replicate N.length (-1)) (fun i hi => by
    show m_spec_l06Number_l1 N (List.replicate i (-1)) (i : Int) = _
    unfold m_spec_l06Number_l1
    rw [chk_succ (show i ≤ 8000000000000000000 by omega), decide_eq_true (show (i : Int) < (N.length : Int) by omega), cond_true, catL_of (by simp; omega), Option.bind_some, Option.bind_some]
    congr 3
    exact (List.replicate_succ' (n := i) (a := (-1 : Int))).symm) (by
    show m_spec_l06Number_l1 N _ (N.length : Int) = _
    unfold m_spec_l06Number_l1
    rw [decide_eq_false (by omega)]; rfl) 0 (Nat.zero_le _)
  exact this
theorem Number_eq {N : List Node} (hN : InvB N) (hX : ∀ x ∈ N, x.Next.length ≤ 10000) (hNl : N.length ≤ 2000000) {n root : Nat} (hn : n ≤ 1000) (hr : root < N.length) (hs : shortA (ndD N) n root) :
    m_spec_l06Number N (root : Int) = some ((ddA [] (preA (ndD N) n root)).map (fullN N (ddA [] (preA (ndD N) n root)))) := by
  unfold m_spec_l06Number
  rw [num_first N hNl, Option.bind_some, Option.bind_some]
  have hR0 : RSt N [] (List.replicate N.length (-1)) [] :=
    ⟨List.length_replicate, (fun j hj => by rw [List.getD_eq_getElem?_getD, List.getElem?_replicate, if_pos hj]; rfl), rfl, (fun k hk => by cases hk), List.nodup_nil⟩
  obtain ⟨place, out, hrun, hR⟩ := visitR_step hN hX hNl n fuelN [] _ _ root (by show n ≤ 100000; omega) hs hr (by simp) (fun j hj => by cases hj) hR0
  rw [dfsA_eq (ndD N) hs (fun j hj => by cases hj)] at hR
  have hrun' : m_spec_l06R_visit (⟨N, List.replicate N.length (-1), []⟩ : l06R) (root : Int) = some ⟨N, place, out⟩ := hrun
  show ((m_spec_l06R_visit (⟨N, List.replicate N.length (-1), []⟩ : l06R) (root : Int)).bind _) = _
  rw [bind_of hrun']
  generalize hK : ddA [] (preA (ndD N) n root) = K at hR
  have hcl : ∀ k ∈ K, ∀ e ∈ (ndD N k).2, e.2 ∈ K := fun k hk e he => by
    rw [← hK, mem_ddA] at hk ⊢
    exact .inr (preA_next _ hs (hk.resolve_left (by simp)) e he)
  have := num_outer hN hX hNl hR hcl N.length 0 (by omega)
  have e1 : K.map (fun j => if j < 0 then fullN N K j else headN N j) = out := by
    rw [hR.out]
    exact List.map_congr_left fun j _ => by rw [if_neg (by omega)]
  rw [e1, show ((0 : Nat) : Int) = 0 from rfl] at this
  show ((loopM (fun s : List Node × Int => m_spec_l06Number_l2 N place s.1 s.2) (out, 0)).bind _) = _
  rw [bind_of this]

end Go.Proofs.YtdaoecpkgobelaaDoor
