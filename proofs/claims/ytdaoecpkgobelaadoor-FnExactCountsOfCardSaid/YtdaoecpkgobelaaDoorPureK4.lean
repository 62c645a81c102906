/- The program's visit of an automaton's nodes: what it finds. -/
import Derived.Test.YtdaoecpkgobelaaDoorPureK3
namespace Go.Proofs.YtdaoecpkgobelaaDoor
open Go Go.RowKit
set_option linter.unusedSimpArgs false
set_option linter.unusedVariables false

/-- What is known of a node that is done. -/
def ClosedV (D : List Node) (m : Nat) (op : List Bool) (st lg : List Int) (j : Nat) : Prop :=
  (∀ e ∈ (ndD D j).2, e.2 < m ∧ op.getD e.2 false = false) ∧ shortA (ndD D) ((lg.getD j 0).toNat + 1) j ∧
    st.getD j 0 = min ((langA (ndD D) ((lg.getD j 0).toNat + 1) j).length : Int) 3001 ∧ (0 < st.getD j 0 ∨ j = 0) ∧ ¬ shortA (ndD D) (lg.getD j 0).toNat j
structure WFv (D : List Node) (m b : Nat) (op : List Bool) (st lg : List Int) : Prop where
  hm : m ≤ D.length
  lo : op.length = D.length
  ls : st.length = D.length
  ll : lg.length = D.length
  rs : ∀ j, 0 ≤ st.getD j 0 ∧ st.getD j 0 ≤ 3001
  r0 : ∀ j, 0 ≤ lg.getD j 0
  cl : ∀ j, j < m → op.getD j false = false → ClosedV D m op st lg j ∧ lg.getD j 0 ≤ b
  fr : ∀ j, m ≤ j → op.getD j false = false ∧ st.getD j 0 = 0 ∧ lg.getD j 0 = 0
  hb : b ≤ m
structure PostV (D : List Node) (m b : Nat) (op : List Bool) (st lg : List Int) (k m' : Nat) (op' : List Bool) (st' lg' : List Int) : Prop where
  wf : WFv D m' (b + (m' - m)) op' st' lg'
  le : m ≤ m'
  num : ∀ h, shortA (ndD D) h k → numA m (preA (ndD D) h k) = some m'
  kcl : k < m' ∧ op'.getD k false = false
  frame : ∀ j, j < m → op'.getD j false = op.getD j false ∧ st'.getD j 0 = st.getD j 0 ∧ lg'.getD j 0 = lg.getD j 0
  new : ∀ j, m ≤ j → j < m' → op'.getD j false = false
/-- The visit can succeed. -/
def CanV (D : List Node) (m : Nat) (op : List Bool) (k : Nat) : Prop :=
  ∃ h m', shortA (ndD D) h k ∧ numA m (preA (ndD D) h k) = some m' ∧ (∀ o, o < m → op.getD o false = true → o ∉ preA (ndD D) h k) ∧ ∀ j ∈ preA (ndD D) h k, j ≠ 0 → langA (ndD D) h j ≠ []

theorem WFv.closed_pre {D : List Node} {m b : Nat} {op : List Bool} {st lg : List Int} (h : WFv D m b op st lg) : ∀ (n : Nat) {j : Nat}, j < m → op.getD j false = false → ∀ i ∈ preA (ndD D) n j, i < m
  | 0, _, _, _, i, hi => by cases hi
  | n + 1, j, hj, ho, i, hi => by
    rcases List.mem_cons.1 hi with rfl | hi
    · exact hj
    · obtain ⟨e, he, hi⟩ := List.mem_flatMap.1 hi
      have := (h.cl j hj ho).1.1 e he
      exact h.closed_pre n this.1 this.2 i hi

/-- Behind i edges of the node m. -/
structure LoopV (D : List Node) (m b : Nat) (op : List Bool) (st lg : List Int) (i m' : Nat) (op' : List Bool) (st' lg' : List Int) : Prop where
  wf : WFv D m' (b + (m' - (m + 1))) op' st' lg'
  le : m + 1 ≤ m'
  num : ∀ h, (∀ e ∈ (ndD D m).2.take i, shortA (ndD D) h e.2) → numA (m + 1) (((ndD D m).2.take i).flatMap fun e => preA (ndD D) h e.2) = some m'
  chd : ∀ e ∈ (ndD D m).2.take i, e.2 < m' ∧ op'.getD e.2 false = false ∧ lg'.getD e.2 0 + 1 ≤ lg'.getD m 0
  opk : op'.getD m false = true
  stk : ∀ h, (∀ e ∈ (ndD D m).2.take i, shortA (ndD D) h e.2) → st'.getD m 0 = min ((((if (ndD D m).1 then 1 else 0) + (((ndD D m).2.take i).map fun e => (langA (ndD D) h e.2).length).sum : Nat)) : Int) 3001
  lgk : lg'.getD m 0 ≤ (b + (m' - (m + 1)) : Nat) + 1
  att : lg'.getD m 0 = 0 ∨ ∃ e ∈ (ndD D m).2.take i, lg'.getD m 0 = lg'.getD e.2 0 + 1
  frame : ∀ j, j < m → op'.getD j false = op.getD j false ∧ st'.getD j 0 = st.getD j 0 ∧ lg'.getD j 0 = lg.getD j 0
  new : ∀ j, m + 1 ≤ j → j < m' → op'.getD j false = false

theorem min_add (a b : Nat) : min (min (a : Int) 3001 + min (b : Int) 3001) 3001 = min ((a + b : Nat) : Int) 3001 := by omega

abbrev mkI (D : List Node) (m : Nat) (op : List Bool) (st lg : List Int) : inspector := ⟨⟨D⟩, (m : Int), op, st, lg⟩
/-- What a visit with so much fuel does. -/
def SpecV (D : List Node) (f : Nat) : Prop := ∀ (m b : Nat) (op : List Bool) (st lg : List Int) (k : Nat), D.length < f + m → WFv D m b op st lg → k < D.length →
  ∃ r s', m_impl_inspector_visit_n f (mkI D m op st lg) (k : Int) = some (r, s') ∧ (r = true → ∃ (m' : Nat) (op' : List Bool) (st' lg' : List Int), s' = mkI D m' op' st' lg' ∧ PostV D m b op st lg k m' op' st' lg') ∧ (CanV D m op k → r = true)

theorem take_succ_edge {D : List Node} (hD : ShapeOk D) {m : Nat} (hm : m < D.length) {i : Nat} (hi : i < D[m].Next.length) :
    ∃ c, (ndD D m).2.take (i + 1) = (ndD D m).2.take i ++ [(c, D[m].Next[i].toNat)] := by
  have hx := hD.node _ (List.getElem_mem hm)
  have he := hx.edge hi
  rw [ndD_at hm]
  exact ⟨_, by rw [List.take_add_one, he]; rfl⟩

theorem visit_loop {D : List Node} (hD : ShapeOk D) (hlen : ∀ x ∈ D, x.Next.length ≤ 1000000000) {f : Nat} (ih : SpecV D f) {m b : Nat} {op : List Bool} {st lg : List Int} (hf : D.length < f + (m + 1)) (hm : m < D.length) (hb : b ≤ m) :
    ∀ (c i m' : Nat) (op' : List Bool) (st' lg' : List Int), i + c = D[m].Next.length → LoopV D m b op st lg i m' op' st' lg' →
      (∃ (m2 : Nat) (op2 : List Bool) (st2 lg2 : List Int), loopM (fun s : Int × (List Bool) × (List Int) × (List Int) × Int => m_impl_inspector_visit_l1 D[m] (m_impl_inspector_visit_n f) (mkI D m op st lg) (m : Int) s.1 s.2.1 s.2.2.1 s.2.2.2.1 s.2.2.2.2) ((m' : Int), op', st', lg', (i : Int)) =
        some (.inl ((m2 : Int), op2, st2, lg2)) ∧ LoopV D m b op st lg D[m].Next.length m2 op2 st2 lg2) ∨
      ((∃ s2, loopM (fun s : Int × (List Bool) × (List Int) × (List Int) × Int => m_impl_inspector_visit_l1 D[m] (m_impl_inspector_visit_n f) (mkI D m op st lg) (m : Int) s.1 s.2.1 s.2.2.1 s.2.2.2.1 s.2.2.2.2) ((m' : Int), op', st', lg', (i : Int)) = some (.inr (false, s2))) ∧
        ¬ ∃ h n, (∀ e ∈ (ndD D m).2, shortA (ndD D) h e.2) ∧ numA m' (((ndD D m).2.drop i).flatMap fun e => preA (ndD D) h e.2) = some n ∧
          (∀ o, o ≤ m → op'.getD o false = true → ∀ e ∈ (ndD D m).2, o ∉ preA (ndD D) h e.2) ∧ ∀ e ∈ (ndD D m).2, ∀ j ∈ preA (ndD D) h e.2, j ≠ 0 → langA (ndD D) h j ≠ [])
  | 0, i, m', op', st', lg', hc, hL => by
    rw [Nat.add_zero] at hc
    subst hc
    left
    refine ⟨m', op', st', lg', loopM_done ?_, hL⟩
    show m_impl_inspector_visit_l1 D[m] _ _ _ (m' : Int) op' st' lg' ((D[m].Next.length : Nat) : Int) = _
    unfold m_impl_inspector_visit_l1
    rw [decide_eq_false (by omega)]; rfl
  | c + 1, i, m', op', st', lg', hc, hL => by
    have hi : i < D[m].Next.length := by omega
    have hx := hD.node _ (List.getElem_mem hm)
    have hnx := hlen _ (List.getElem_mem hm)
    obtain ⟨hn0, hnl⟩ := hx.next _ (List.getElem_mem hi)
    obtain ⟨t, ht⟩ : ∃ t : Nat, D[m].Next[i] = (t : Int) := ⟨D[m].Next[i].toNat, by omega⟩
    have htl : t < D.length := by omega
    obtain ⟨ch, htake⟩ := take_succ_edge hD hm hi
    rw [ht, Int.toNat_natCast] at htake
    have hmem : (ch, t) ∈ (ndD D m).2 := List.mem_of_mem_take (i := i + 1) (by rw [htake]; simp)
    have hdrop : (ndD D m).2.drop i = (ch, t) :: (ndD D m).2.drop (i + 1) := by
      have h1 : (ndD D m).2[i]? = some (ch, t) := by
        have : ((ndD D m).2.take (i + 1))[i]? = some (ch, t) := by
          rw [htake, List.getElem?_append_right (by rw [List.length_take]; omega)]
          have : ((ndD D m).2.take i).length = i := by
            rw [List.length_take, ndD_at hm, hx.edges_len]; omega
          rw [this]; simp
        rw [List.getElem?_take] at this
        rwa [if_pos (by omega)] at this
      obtain ⟨h2, h3⟩ := List.getElem?_eq_some_iff.1 h1
      rw [List.drop_eq_getElem_cons h2, h3]
    have hmm' : m < m' := hL.le
    obtain ⟨r, s', hrun, hpost, hcan⟩ := ih m' _ op' st' lg' t (by omega) hL.wf htl
    have hstep : ∀ o, m_impl_inspector_visit_l1 D[m] (m_impl_inspector_visit_n f) (mkI D m op st lg) (m : Int) (m' : Int) op' st' lg' (i : Int) = some o →
        (fun s : Int × (List Bool) × (List Int) × (List Int) × Int => m_impl_inspector_visit_l1 D[m] (m_impl_inspector_visit_n f) (mkI D m op st lg) (m : Int) s.1 s.2.1 s.2.2.1 s.2.2.2.1 s.2.2.2.2) ((m' : Int), op', st', lg', (i : Int)) = some o := fun o h => h
    have hs1 : chk ((i : Int) + 1) = some (((i + 1 : Nat)) : Int) := chk_succ (by omega)
    cases r with
    | false =>
      right
      refine ⟨⟨(⟨⟨D⟩, s'.met, s'.open_, s'.strings, s'.longest⟩ : inspector), loopM_done (hstep _ ?_)⟩, ?_⟩
      · unfold m_impl_inspector_visit_l1
        rw [hs1, decide_eq_true (show (i : Int) < (D[m].Next.length : Int) by omega), cond_true, bind_of (getL_at hi), ht, bind_of hrun]
        rfl
      · rintro ⟨h, n, h1, h2, h3, h4⟩
        rw [hdrop, List.flatMap_cons, numA_append] at h2
        cases hn : numA m' (preA (ndD D) h t) with
        | none => rw [hn] at h2; cases h2
        | some n' =>
          have := hcan ⟨h, n', h1 _ hmem, hn, fun o ho hoo => ?_, h4 _ hmem⟩
          · cases this
          · rcases Nat.lt_or_ge m o with hlt | hge
            · rw [hL.new o hlt ho] at hoo; cases hoo
            · exact h3 o hge hoo _ hmem
    | true =>
      obtain ⟨m2, op2, st2, lg2, rfl, hP⟩ := hpost rfl
      have hfm := hP.frame m hmm'
      have hm2 : m < m2 := Nat.lt_of_lt_of_le hmm' hP.le
      have hlo := hP.wf.lo
      have hls := hP.wf.ls
      have hll := hP.wf.ll
      have hts : t < st2.length := by omega
      have hms : m < st2.length := by omega
      have hkl : (ClosedV D m2 op2 st2 lg2 t) ∧ lg2.getD t 0 ≤ ((b + (m' - (m + 1)) + (m2 - m') : Nat) : Int) := hP.wf.cl t hP.kcl.1 hP.kcl.2
      have hlet := hkl.2
      have hle2 := hP.le
      have hm2D := hP.wf.hm
      have hbig : (b + (m' - (m + 1)) + (m2 - m') : Nat) ≤ 6000 := by have := hD.max; have := hL.le; omega
      have hrm := hP.wf.rs m
      have hrt := hP.wf.rs t
      have hl0 := hP.wf.r0 t
      have htm : t ≠ m := fun e => by
        have h1 := hP.kcl.2
        rw [e, hfm.1, hL.opk] at h1
        cases h1
      -- the next state
      have hrunstep : m_impl_inspector_visit_l1 D[m] (m_impl_inspector_visit_n f) (mkI D m op st lg) (m : Int) (m' : Int) op' st' lg' (i : Int) =
          some (.inl ((m2 : Int), op2, st2.set m (min (st2.getD m 0 + st2.getD t 0) 3001), lg2.set m (max (lg2.getD m 0) (lg2.getD t 0 + 1)), (((i + 1 : Nat)) : Int))) := by
        unfold m_impl_inspector_visit_l1
        have c1 : chk (st2.getD m 0 + st2.getD t 0) = some (st2.getD m 0 + st2.getD t 0) := chk_in (by omega) (by omega)
        have c2 : chk (lg2.getD t 0 + 1) = some (lg2.getD t 0 + 1) := chk_in (by omega) (by omega)
        rw [hs1, decide_eq_true (show (i : Int) < (D[m].Next.length : Int) by omega), cond_true, bind_of (getL_at hi), ht, bind_of hrun]
        show (getL st2 (m : Int)).bind _ = _
        rw [bind_of (getL_gd 0 hms)]
        show (getL st2 (t : Int)).bind _ = _
        rw [bind_of (getL_gd 0 hts), c1]
        show (getL st2 (m : Int)).bind _ = _
        rw [bind_of (getL_gd 0 hms)]
        show (setL st2 (m : Int) _).bind _ = _
        rw [bind_of (setL_of hms)]
        show (getL lg2 (m : Int)).bind _ = _
        rw [bind_of (getL_gd 0 (by omega))]
        show (getL lg2 (t : Int)).bind _ = _
        rw [bind_of (getL_gd 0 (by omega)), c2]
        show (getL lg2 (m : Int)).bind _ = _
        rw [bind_of (getL_gd 0 (by omega))]
        show (setL lg2 (m : Int) _).bind _ = _
        rw [bind_of (setL_of (by omega))]
        rfl
      have hgs : ∀ j, (st2.set m (min (st2.getD m 0 + st2.getD t 0) 3001)).getD j 0 = if j = m then min (st2.getD m 0 + st2.getD t 0) 3001 else st2.getD j 0 := fun j => getD_put hms
      have hgl : ∀ j, (lg2.set m (max (lg2.getD m 0) (lg2.getD t 0 + 1))).getD j 0 = if j = m then max (lg2.getD m 0) (lg2.getD t 0 + 1) else lg2.getD j 0 := fun j => getD_put (by omega)
      have hbe : b + (m' - (m + 1)) + (m2 - m') = b + (m2 - (m + 1)) := by have := hL.le; omega
      have hmop : op2.getD m false = true := by rw [hfm.1]; exact hL.opk
      have hL2 : LoopV D m b op st lg (i + 1) m2 op2 (st2.set m (min (st2.getD m 0 + st2.getD t 0) 3001)) (lg2.set m (max (lg2.getD m 0) (lg2.getD t 0 + 1))) := by
        refine ⟨⟨hm2D, hlo, by rw [List.length_set]; exact hls, by rw [List.length_set]; exact hll, fun j => ?_, fun j => ?_, fun j hj ho => ?_, fun j hj => ?_, ?_⟩, by omega, fun h hh => ?_, fun e he => ?_, hmop, fun h hh => ?_, ?_, ?_, fun j hj => ?_, fun j h1 h2 => ?_⟩
        · rw [hgs]; split
          · omega
          · exact hP.wf.rs j
        · rw [hgl]; split
          · have := hP.wf.r0 m; omega
          · exact hP.wf.r0 j
        · have hjm : j ≠ m := fun e => by rw [e, hmop] at ho; cases ho
          obtain ⟨⟨a1, a2, a3, a4⟩, a5⟩ := hP.wf.cl j hj ho
          unfold ClosedV
          rw [hgs, hgl, if_neg hjm, if_neg hjm]
          exact ⟨⟨a1, a2, a3, a4⟩, by rw [← hbe]; exact a5⟩
        · have hjm : j ≠ m := by omega
          rw [hgs, hgl, if_neg hjm, if_neg hjm]
          exact hP.wf.fr j hj
        · have := hP.wf.hb; omega
        · rw [htake] at hh ⊢
          rw [List.flatMap_append, numA_append, hL.num h fun e he => hh e (List.mem_append_left _ he)]
          show numA m' ([(ch, t)].flatMap _) = _
          rw [List.flatMap_cons, List.flatMap_nil, List.append_nil]
          exact hP.num h (hh (ch, t) (by simp))
        · rw [htake] at he
          rcases List.mem_append.1 he with he | he
          · obtain ⟨h1, h2, h3⟩ := hL.chd e he
            have hem : e.2 ≠ m := fun e' => by rw [e', hL.opk] at h2; cases h2
            rw [hgl, hgl, if_neg hem, if_pos rfl]
            by_cases hlt : e.2 < m'
            · obtain ⟨f1, f2, f3⟩ := hP.frame e.2 hlt
              refine ⟨by omega, by rw [f1]; exact h2, ?_⟩
              rw [f3, hfm.2.2]; omega
            · exact absurd h1 hlt
          · rw [List.mem_singleton] at he
            subst he
            show t < m2 ∧ op2.getD t false = false ∧ (lg2.set m (max (lg2.getD m 0) (lg2.getD t 0 + 1))).getD t 0 + 1 ≤ (lg2.set m (max (lg2.getD m 0) (lg2.getD t 0 + 1))).getD m 0
            rw [hgl, hgl, if_neg htm, if_pos rfl]
            refine ⟨hP.kcl.1, hP.kcl.2, ?_⟩
            show lg2.getD t 0 + 1 ≤ max (lg2.getD m 0) (lg2.getD t 0 + 1)
            omega
        · rw [hgs, if_pos rfl, htake]
          have e1 := hL.stk h fun e he => hh e (by rw [htake]; exact List.mem_append_left _ he)
          have hsh : shortA (ndD D) h t := hh (ch, t) (by rw [htake]; simp)
          have e2 := hkl.1.2.2.1
          have e3 : langA (ndD D) ((lg2.getD t 0).toNat + 1) t = langA (ndD D) h t := by
            rcases Nat.le_total h ((lg2.getD t 0).toNat + 1) with hle | hle
            · exact langA_fuel _ hle hsh
            · exact (langA_fuel _ hle hkl.1.2.1).symm
          rw [hfm.2.1, e1, e2, e3, min_add, List.map_append, List.sum_append]
          simp only [List.map_cons, List.map_nil, List.sum_cons, List.sum_nil, Nat.add_zero]
          rw [Nat.add_assoc]
        · rw [hgl, if_pos rfl]
          have h1 := hL.lgk
          rw [← hfm.2.2] at h1
          rw [← hbe]
          omega
        · rw [hgl, if_pos rfl, htake]
          by_cases hmx : lg2.getD m 0 ≤ lg2.getD t 0 + 1
          · refine .inr ⟨(ch, t), by simp, ?_⟩
            show max (lg2.getD m 0) (lg2.getD t 0 + 1) = (lg2.set m (max (lg2.getD m 0) (lg2.getD t 0 + 1))).getD t 0 + 1
            rw [hgl, if_neg htm]; omega
          · rcases hL.att with h0 | ⟨e, he, h0⟩
            · have := hP.wf.r0 t
              rw [← hfm.2.2] at h0
              omega
            · obtain ⟨h1, h2, h3⟩ := hL.chd e he
              have hem : e.2 ≠ m := fun e' => by rw [e', hL.opk] at h2; cases h2
              refine .inr ⟨e, List.mem_append_left _ he, ?_⟩
              rw [hgl, if_neg hem, (hP.frame e.2 h1).2.2, ← h0, ← hfm.2.2]; omega
        · obtain ⟨f1, f2, f3⟩ := hP.frame j (by omega)
          have hjm : j ≠ m := by omega
          rw [hgs, hgl, if_neg hjm, if_neg hjm, f1, f2, f3]
          exact hL.frame j hj
        · rcases Nat.lt_or_ge j m' with hlt | hge
          · rw [(hP.frame j hlt).1]; exact hL.new j h1 hlt
          · exact hP.new j hge h2
      have hrec := visit_loop hD hlen ih hf hm hb c (i + 1) m2 op2 _ _ (by omega) hL2
      rw [loopM_next (hstep _ hrunstep)]
      rcases hrec with hrec | ⟨hrec, hno⟩
      · exact .inl hrec
      · refine .inr ⟨hrec, ?_⟩
        rintro ⟨h, n, h1, h2, h3, h4⟩
        rw [hdrop, List.flatMap_cons, numA_append, hP.num h (h1 _ hmem)] at h2
        refine hno ⟨h, n, h1, h2, fun o ho hoo e he => ?_, h4⟩
        rw [(hP.frame o (by omega)).1] at hoo
        exact h3 o ho hoo e he

theorem visit_step {D : List Node} (hD : ShapeOk D) (hlen : ∀ x ∈ D, x.Next.length ≤ 1000000000) : ∀ f, SpecV D f
  | 0 => fun m b op st lg k hf hW hk => by have := hW.hm; omega
  | f + 1 => fun m b op st lg k hf hW hk => by
    show ∃ r s', m_impl_inspector_visit_b (m_impl_inspector_visit_n f) (mkI D m op st lg) (k : Int) = some (r, s') ∧ _
    unfold m_impl_inspector_visit_b
    by_cases hkm : k < m
    · rw [decide_eq_true (show (k : Int) < (mkI D m op st lg).met by show (k : Int) < (m : Int); omega), cond_true]
      have hko : k < op.length := by rw [hW.lo]; exact hk
      refine ⟨!op.getD k false, mkI D m op st lg, ?_, ?_, ?_⟩
      · show (getL op (k : Int)).bind _ = _
        rw [bind_of (getL_gd false hko)]
      · intro hr
        have ho : op.getD k false = false := by simpa using hr
        refine ⟨m, op, st, lg, rfl, ⟨?_, Nat.le_refl _, fun h hs => numA_all fun i hi => hW.closed_pre h hkm ho i hi, ⟨hkm, ho⟩, fun j hj => ⟨rfl, rfl, rfl⟩, fun j h1 h2 => by omega⟩⟩
        rw [Nat.sub_self, Nat.add_zero]; exact hW
      · rintro ⟨h, m', h1, h2, h3, h4⟩
        cases hc : op.getD k false with
        | false => rfl
        | true => exact absurd (preA_self _ h1) (h3 k hkm hc)
    · rw [decide_eq_false (show ¬ (k : Int) < (mkI D m op st lg).met by show ¬ (k : Int) < (m : Int); omega), cond_false]
      by_cases hmk : m < k
      · rw [decide_eq_true (show (mkI D m op st lg).met < (k : Int) by show (m : Int) < (k : Int); omega), cond_true]
        refine ⟨_, _, rfl, (fun h => by cases h), ?_⟩
        rintro ⟨h, m', h1, h2, h3, h4⟩
        exfalso
        cases h with
        | zero => exact h1.elim
        | succ h =>
          rw [preA, numA, if_neg hkm, if_neg (by omega)] at h2
          cases h2
      · obtain rfl : k = m := by omega
        rw [decide_eq_false (show ¬ (mkI D k op st lg).met < (k : Int) by show ¬ (k : Int) < (k : Int); omega), cond_false]
        have hx := hD.node _ (List.getElem_mem hk)
        have hko : k < op.length := by rw [hW.lo]; exact hk
        have hks : k < st.length := by rw [hW.ls]; exact hk
        have hkl : k < lg.length := by rw [hW.ll]; exact hk
        obtain ⟨f1, f2, f3⟩ := hW.fr k (Nat.le_refl _)
        have hmax := hD.max
        have c1 : chk ((k : Int) + 1) = some (((k + 1 : Nat)) : Int) := chk_succ (by omega)
        show ∃ r s', ((chk ((k : Int) + 1)).bind _) = some (r, s') ∧ _
        rw [c1, Option.bind_some]
        show ∃ r s', ((getL op (k : Int)).bind _) = some (r, s') ∧ _
        rw [bind_of (getL_gd false hko)]
        show ∃ r s', ((setL op (k : Int) true).bind _) = some (r, s') ∧ _
        rw [bind_of (setL_of hko)]
        show ∃ r s', ((getL D (k : Int)).bind _) = some (r, s') ∧ _
        rw [bind_of (getL_at hk)]
        -- the strings
        obtain ⟨st1, hst1, hst1l, hst1g⟩ : ∃ st1 : List Int, (bif D[k].Final then (getL st (k : Int)).bind fun e65 => (setL st (k : Int) 1).bind fun xs75 => some xs75 else some st : Option (List Int)) = some st1 ∧ st1.length = D.length ∧ ∀ j, st1.getD j 0 = if j = k then (if D[k].Final then 1 else 0) else st.getD j 0 := by
          cases hF : D[k].Final with
          | true =>
            refine ⟨st.set k 1, ?_, by rw [List.length_set]; exact hW.ls, fun j => ?_⟩
            · rw [cond_true, bind_of (getL_gd 0 hks), bind_of (setL_of hks)]
            · rw [getD_put hks]; rfl
          | false =>
            refine ⟨st, rfl, hW.ls, fun j => ?_⟩
            by_cases hjk : j = k
            · subst hjk; rw [if_pos rfl, f2]; rfl
            · rw [if_neg hjk]
        have hst2 : (bif D[k].Final then (getL (mkI D k op st lg).strings (k : Int)).bind fun e65 => (setL (mkI D k op st lg).strings (k : Int) 1).bind fun xs75 => some xs75 else some (mkI D k op st lg).strings : Option (List Int)) = some st1 := hst1
        rw [bind_of hst2]
        -- the loop
        have hL0 : LoopV D k b op st lg 0 (k + 1) (op.set k true) st1 lg := by
          have hgo : ∀ j, (op.set k true).getD j false = if j = k then true else op.getD j false := fun j => getD_put hko
          refine ⟨⟨by omega, by rw [List.length_set]; exact hW.lo, hst1l, hW.ll, fun j => ?_, hW.r0, fun j hj ho => ?_, fun j hj => ?_, ?_⟩, Nat.le_refl _, fun h _ => rfl, (fun e he => by cases he), (by rw [hgo, if_pos rfl]), fun h _ => ?_, ?_, .inl f3, fun j hj => ?_, fun j h1 h2 => by omega⟩
          · rw [hst1g]; split
            · cases D[k].Final <;> simp
            · exact hW.rs j
          · have hjk : j ≠ k := fun e => by rw [e, hgo, if_pos rfl] at ho; cases ho
            rw [hgo, if_neg hjk] at ho
            obtain ⟨⟨a1, a2, a3, a4⟩, a5⟩ := hW.cl j (by omega) ho
            refine ⟨⟨fun e he => ?_, a2, by rw [hst1g, if_neg hjk]; exact a3, by rw [hst1g, if_neg hjk]; exact a4⟩, by rw [Nat.sub_self, Nat.add_zero]; exact a5⟩
            obtain ⟨q1, q2⟩ := a1 e he
            exact ⟨by omega, by rw [hgo, if_neg (by omega)]; exact q2⟩
          · have hjk : j ≠ k := by omega
            rw [hgo, if_neg hjk, hst1g, if_neg hjk]
            exact hW.fr j (by omega)
          · have := hW.hb; omega
          · rw [hst1g, if_pos rfl, ndD_at hk, List.take_zero, List.map_nil, List.sum_nil, Nat.add_zero]
            show _ = min (((if D[k].Final then 1 else 0 : Nat)) : Int) 3001
            cases D[k].Final <;> rfl
          · rw [f3]; omega
          · have hjk : j ≠ k := by omega
            rw [hgo, if_neg hjk, hst1g, if_neg hjk]
            exact ⟨rfl, rfl, rfl⟩
        rcases visit_loop hD hlen (visit_step hD hlen f) (by omega) hk hW.hb D[k].Next.length 0 (k + 1) _ _ _ (by omega) hL0 with ⟨m2, op2, st2, lg2, hrun, hL⟩ | ⟨⟨s2, hrun⟩, hno⟩
        · have hloop : (loopM (fun s : Int × (List Bool) × (List Int) × (List Int) × Int => m_impl_inspector_visit_l1 D[k] (m_impl_inspector_visit_n f) (mkI D k op st lg) (k : Int) s.1 s.2.1 s.2.2.1 s.2.2.2.1 s.2.2.2.2) ((((k + 1 : Nat)) : Int), op.set k true, st1, (mkI D k op st lg).longest, 0)) = some (.inl ((m2 : Int), op2, st2, lg2)) := hrun
          rw [bind_of hloop]
          have hko2 : k < op2.length := by rw [hL.wf.lo]; exact hk
          have hks2 : k < st2.length := by rw [hL.wf.ls]; exact hk
          have hm2 : k < m2 := hL.le
          have htl : (ndD D k).2.take D[k].Next.length = (ndD D k).2 := by
            rw [ndD_at hk]; exact List.take_of_length_le (by rw [hx.edges_len]; exact Nat.le_refl _)
          have hchd := hL.chd
          have hnum := hL.num
          have hstk := hL.stk
          rw [htl] at hchd hnum hstk
          have hl0 := hL.wf.r0 k
          -- all paths from k are short
          have hsh : shortA (ndD D) ((lg2.getD k 0).toNat + 1) k := fun e he => by
            obtain ⟨q1, q2, q3⟩ := hchd e he
            have := (hL.wf.cl e.2 q1 q2).1.2.1
            have h0 := hL.wf.r0 e.2
            exact shortA_mono _ (by omega) this
          have hnsh : ¬ shortA (ndD D) (lg2.getD k 0).toNat k := fun hs => by
            have hatt := hL.att
            rw [htl] at hatt
            rcases hatt with h0 | ⟨e, he, h0⟩
            · rw [h0] at hs; exact hs
            · obtain ⟨q1, q2, q3⟩ := hchd e he
              have he0 := hL.wf.r0 e.2
              have hh : (lg2.getD k 0).toNat = (lg2.getD e.2 0).toNat + 1 := by omega
              rw [hh] at hs
              exact (hL.wf.cl e.2 q1 q2).1.2.2.2.2 (hs e he)
          have hstv : st2.getD k 0 = min ((langA (ndD D) ((lg2.getD k 0).toNat + 1) k).length : Int) 3001 := by
            rw [hstk _ (fun e he => hsh e he), langA_len]
          have hgo : ∀ j, (op2.set k false).getD j false = if j = k then false else op2.getD j false := fun j => getD_put hko2
          refine ⟨decide (0 < st2.getD k 0) || (k : Int) == 0, mkI D m2 (op2.set k false) st2 lg2, ?_, fun hr => ⟨m2, op2.set k false, st2, lg2, rfl, ?_⟩, ?_⟩
          · show (getL op2 (k : Int)).bind _ = _
            rw [bind_of (getL_gd false hko2)]
            show (setL op2 (k : Int) false).bind _ = _
            rw [bind_of (setL_of hko2)]
            have : ((getL st2 (k : Int)).bind fun e237 => bif decide (0 < e237) then some true else some ((k : Int) == 0)) = some (decide (0 < st2.getD k 0) || (k : Int) == 0) := by
              rw [bind_of (getL_gd 0 hks2)]
              cases decide (0 < st2.getD k 0) <;> rfl
            rw [bind_of this]
          · have hpos : 0 < st2.getD k 0 ∨ k = 0 := by
              rw [Bool.or_eq_true, decide_eq_true_iff, beq_iff_eq] at hr
              exact hr.imp id fun h => by omega
            have hbe : b + (m2 - k) = b + (m2 - (k + 1)) + 1 := by omega
            refine ⟨⟨hL.wf.hm, by rw [List.length_set]; exact hL.wf.lo, hL.wf.ls, hL.wf.ll, hL.wf.rs, hL.wf.r0, fun j hj ho => ?_, fun j hj => ?_, ?_⟩, by omega, fun h hs => ?_, ⟨hm2, by rw [hgo, if_pos rfl]⟩, fun j hj => ?_, fun j h1 h2 => ?_⟩
            · have hup : ∀ e, (e < m2 ∧ op2.getD e false = false) → (e < m2 ∧ (op2.set k false).getD e false = false) := fun e he => ⟨he.1, by
                rw [hgo]
                split
                · rfl
                · exact he.2⟩
              by_cases hjk : j = k
              · subst hjk
                refine ⟨⟨fun e he => hup _ ⟨(hchd e he).1, (hchd e he).2.1⟩, hsh, hstv, hpos, hnsh⟩, ?_⟩
                have := hL.lgk
                rw [hbe]; push_cast; exact this
              · rw [hgo, if_neg hjk] at ho
                obtain ⟨⟨a1, a2, a3, a4⟩, a5⟩ := hL.wf.cl j hj ho
                exact ⟨⟨fun e he => hup _ (a1 e he), a2, a3, a4⟩, by rw [hbe]; push_cast; omega⟩
            · rw [hgo, if_neg (by omega)]
              exact hL.wf.fr j hj
            · have := hL.wf.hb; have := hL.wf.hm; have := hW.hb; omega
            · cases h with
              | zero => exact hs.elim
              | succ h =>
                rw [preA, numA, if_neg (Nat.lt_irrefl k), if_pos rfl]
                exact hnum h hs
            · obtain ⟨q1, q2, q3⟩ := hL.frame j hj
              exact ⟨by rw [hgo, if_neg (by omega)]; exact q1, q2, q3⟩
            · rw [hgo]
              split
              · rfl
              · exact hL.new j (by omega) h2
          · rintro ⟨h, m', h1, h2, h3, h4⟩
            rw [Bool.or_eq_true, decide_eq_true_iff, beq_iff_eq]
            by_cases hk0 : k = 0
            · right; omega
            · left
              have hne := h4 k (preA_self _ h1) hk0
              have e3 : langA (ndD D) ((lg2.getD k 0).toNat + 1) k = langA (ndD D) h k := by
                rcases Nat.le_total h ((lg2.getD k 0).toNat + 1) with hle | hle
                · exact langA_fuel _ hle h1
                · exact (langA_fuel _ hle hsh).symm
              rw [hstv, e3]
              have : 0 < (langA (ndD D) h k).length := List.length_pos_iff.2 hne
              omega
        · have hloop : (loopM (fun s : Int × (List Bool) × (List Int) × (List Int) × Int => m_impl_inspector_visit_l1 D[k] (m_impl_inspector_visit_n f) (mkI D k op st lg) (k : Int) s.1 s.2.1 s.2.2.1 s.2.2.2.1 s.2.2.2.2) ((((k + 1 : Nat)) : Int), op.set k true, st1, (mkI D k op st lg).longest, 0)) = some (.inr (false, s2)) := hrun
          rw [bind_of hloop]
          refine ⟨_, _, rfl, (fun h => by cases h), ?_⟩
          rintro ⟨h, m', h1, h2, h3, h4⟩
          exfalso
          cases h with
          | zero => exact h1.elim
          | succ h =>
            rw [preA, numA, if_neg (Nat.lt_irrefl k), if_pos rfl] at h2
            refine hno ⟨h, m', h1, by rw [List.drop_zero]; exact h2, fun o ho hoo e he hin => ?_, fun e he j hj hj0 hnil => ?_⟩
            · rcases Nat.lt_or_ge o k with hlt | hge
              · have hgo : (op.set k true).getD o false = op.getD o false := by rw [getD_put hko, if_neg (by omega)]
                rw [hgo] at hoo
                exact h3 o hlt hoo (List.mem_cons_of_mem _ (List.mem_flatMap.2 ⟨e, he, hin⟩))
              · obtain rfl : o = k := by omega
                exact preA_acyc _ h1 e he h hin
            · refine h4 j (List.mem_cons_of_mem _ (List.mem_flatMap.2 ⟨e, he, hj⟩)) hj0 ?_
              rw [langA_fuel _ (Nat.le_succ h) (preA_short _ (h1 e he) hj)]
              exact hnil

end Go.Proofs.YtdaoecpkgobelaaDoor
