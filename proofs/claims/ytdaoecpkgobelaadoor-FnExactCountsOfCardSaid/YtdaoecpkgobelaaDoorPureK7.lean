/- Words of an automaton in order; groups of an ordered list; the reference's walk. -/
import Derived.Test.YtdaoecpkgobelaaDoorPureK6
import Derived.Test.YtdaoecpkgobelaaDoorPureE
namespace Go.Proofs.YtdaoecpkgobelaaDoor
open Go Go.RowKit
set_option linter.unusedSimpArgs false
set_option linter.unusedVariables false

/-- An ordered list of different words. -/
def SortedW (R : List Str) : Prop := R.Pairwise fun a b => ltS a b = true
/-- Letters rise from edge to edge. -/
def RiseG {α : Type} (G : List (UInt8 × α)) : Prop := G.Pairwise fun a b => a.1 < b.1
theorem SortedW.map (c : UInt8) {R : List Str} (h : SortedW R) : SortedW (R.map (c :: ·)) := by
  unfold SortedW
  rw [List.pairwise_map]
  refine h.imp fun hab => ?_
  rw [ltS_cons]
  simp [hab]
theorem sorted_flat {α : Type} (f : α → List Str) : ∀ (G : List (UInt8 × α)), RiseG G → (∀ e ∈ G, SortedW (f e.2)) → SortedW (G.flatMap fun e => (f e.2).map (e.1 :: ·))
  | [], _, _ => List.Pairwise.nil
  | e :: G, hr, hs => by
    rw [List.flatMap_cons]
    unfold SortedW
    rw [List.pairwise_append]
    rw [RiseG, List.pairwise_cons] at hr
    refine ⟨(hs e List.mem_cons_self).map e.1, sorted_flat f G hr.2 fun x hx => hs x (List.mem_cons_of_mem _ hx), fun a ha b hb => ?_⟩
    obtain ⟨a', _, rfl⟩ := List.mem_map.1 ha
    obtain ⟨e', he', hb⟩ := List.mem_flatMap.1 hb
    obtain ⟨b', _, rfl⟩ := List.mem_map.1 hb
    rw [ltS_cons, decide_eq_true (hr.1 e' he')]; rfl
theorem langA_sorted {σ : Type} (nd : σ → Bool × List (UInt8 × σ)) (hr : ∀ k, RiseG (nd k).2) : ∀ (n : Nat) (k : σ), SortedW (langA nd n k)
  | 0, _ => List.Pairwise.nil
  | n + 1, k => by
    rw [langA]
    unfold SortedW
    rw [List.pairwise_append]
    refine ⟨by split <;> simp, sorted_flat (langA nd n) _ (hr k) fun e _ => langA_sorted nd hr n e.2, fun a ha b hb => ?_⟩
    have ha' : a = [] := by
      split at ha
      · rwa [List.mem_singleton] at ha
      · cases ha
    subst ha'
    obtain ⟨e', he', hb⟩ := List.mem_flatMap.1 hb
    obtain ⟨b', _, rfl⟩ := List.mem_map.1 hb
    exact ltS_nil_cons _ _
theorem RiseG.apart {α : Type} : ∀ {G : List (UInt8 × α)}, RiseG G → apartG G
  | [], _ => trivial
  | [_], _ => trivial
  | (c, x) :: (d, y) :: G, h => by
    rw [RiseG, List.pairwise_cons] at h
    exact ⟨fun e => by
      have := h.1 (d, y) List.mem_cons_self
      simp only at this
      rw [e] at this
      exact UInt8.lt_irrefl _ this, RiseG.apart h.2⟩
theorem rise_of_steps {α : Type} : ∀ {G : List (UInt8 × α)}, (∀ i, (h : i + 1 < G.length) → G[i].1 < G[i + 1].1) → RiseG G
  | [], _ => List.Pairwise.nil
  | [_], _ => List.pairwise_singleton _ _
  | (c, x) :: (d, y) :: G, h => by
    have h0 := h 0 (by simp)
    simp only [List.getElem_cons_zero, List.getElem_cons_succ, Nat.zero_add] at h0
    have ht : RiseG ((d, y) :: G) := rise_of_steps fun i hi => by
      have := h (i + 1) (by simpa using hi)
      simpa using this
    have ht' := ht
    rw [RiseG, List.pairwise_cons] at ht'
    rw [RiseG, List.pairwise_cons]
    refine ⟨fun e he => ?_, ht⟩
    rcases List.mem_cons.1 he with rfl | he
    · exact h0
    · exact UInt8.lt_trans h0 (ht'.1 e he)
theorem NodeOk.rise {n : Nat} {x : Node} (hx : NodeOk n x) : RiseG (ndN x).2 := by
  refine rise_of_steps fun i hi => ?_
  have hi' : i + 1 < x.Next.length := by rw [hx.edges_len] at hi; exact hi
  have e1 := hx.edge (i := i) (by omega)
  have e2 := hx.edge hi'
  rw [List.getElem?_eq_getElem (by rw [hx.edges_len]; omega), Option.some.injEq] at e1
  rw [List.getElem?_eq_getElem (by rw [hx.edges_len]; omega), Option.some.injEq] at e2
  rw [e1, e2]
  exact hx.inc i (by rw [hx.len]; exact hi')
theorem ShapeOk.rise {D : List Node} (h : ShapeOk D) (k : Nat) : RiseG (ndD D k).2 := by
  by_cases hk : k < D.length
  · rw [ndD_at hk]; exact (h.node _ (List.getElem_mem hk)).rise
  · rw [ndD_none (by omega)]; exact List.Pairwise.nil
/-- Letters of words are letters of edges. -/
theorem langA_form {D : List Node} (h : ShapeOk D) : ∀ (n : Nat) (k : Nat), ∀ w ∈ langA (ndD D) n k, ∀ c ∈ w, formB c = true
  | 0, _, w, hw, _, _ => by cases hw
  | n + 1, k, w, hw, c, hc => by
    rw [langA] at hw
    rcases List.mem_append.1 hw with hw | hw
    · have : w = [] := by
        split at hw
        · rwa [List.mem_singleton] at hw
        · cases hw
      subst this; cases hc
    · obtain ⟨e, he, hw⟩ := List.mem_flatMap.1 hw
      obtain ⟨w', hw', rfl⟩ := List.mem_map.1 hw
      rcases List.mem_cons.1 hc with rfl | hc
      · by_cases hk : k < D.length
        · rw [ndD_at hk] at he
          exact (h.node _ (List.getElem_mem hk)).form _ (List.of_mem_zip (he : (e.1, e.2) ∈ _)).1
        · rw [ndD_none (by omega)] at he; cases he
      · exact langA_form h n e.2 w' hw' c hc
theorem langA_le {σ : Type} (nd : σ → Bool × List (UInt8 × σ)) : ∀ (n : Nat) (k : σ), ∀ w ∈ langA nd n k, w.length + 1 ≤ n
  | 0, _, w, hw => by cases hw
  | n + 1, k, w, hw => by
    rw [langA] at hw
    rcases List.mem_append.1 hw with hw | hw
    · have : w = [] := by
        split at hw
        · rwa [List.mem_singleton] at hw
        · cases hw
      subst this; simp
    · obtain ⟨e, he, hw⟩ := List.mem_flatMap.1 hw
      obtain ⟨w', hw', rfl⟩ := List.mem_map.1 hw
      have := langA_le nd n e.2 w' hw'
      rw [List.length_cons]; omega

/-! the reference's walk -/
abbrev mkW (D : List Node) (out : List Str) (full : Bool) : l06W := ⟨⟨D⟩, out, full⟩
/-- What the walk from a node with a string and so many letters to come does. -/
def SpecW (D : List Node) (n : Nat) : Prop := ∀ (f : Nat) (out : List Str) (s : Str) (k : Nat), n < f → s.length + n = 14 → out.length ≤ 3000 → k < D.length →
  ∃ out' full', m_spec_l06W_walk_n f (mkW D out false) (k : Int) s = some (mkW D out' full') ∧
    (full' = false → shortA (ndD D) n k ∧ out' = out ++ (langA (ndD D) n k).map (s ++ ·) ∧ out'.length ≤ 3000) ∧
    (full' = true → ¬ (shortA (ndD D) n k ∧ out.length + (langA (ndD D) n k).length ≤ 3000))

theorem walk_loop {D : List Node} (hD : ShapeOk D) (hlen : ∀ x ∈ D, x.Next.length ≤ 2000000) {n f : Nat} (ih : SpecW D n) (hf : n < f) {s : Str} (hs : s.length + (n + 1) = 14) {k : Nat} (hk : k < D.length) (w1 : l06W) (hw1 : w1.d = ⟨D⟩) :
    ∀ (c i : Nat) (out : List Str) (full : Bool), i + c = D[k].Next.length → (full = false → out.length ≤ 3000) →
      ∃ out' full', loopM (fun q : Bool × (List Str) × Int => m_spec_l06W_walk_l1 D[k] s (m_spec_l06W_walk_n f) w1 q.1 q.2.1 q.2.2) (full, out, (i : Int)) = some (full', out') ∧
        (full' = false → full = false ∧ (∀ e ∈ (ndD D k).2.drop i, shortA (ndD D) n e.2) ∧ out' = out ++ (((ndD D k).2.drop i).flatMap fun e => (langA (ndD D) n e.2).map (e.1 :: ·)).map (s ++ ·) ∧ out'.length ≤ 3000) ∧
        (full' = true → full = true ∨ ¬ ((∀ e ∈ (ndD D k).2.drop i, shortA (ndD D) n e.2) ∧ out.length + (((ndD D k).2.drop i).flatMap fun e => (langA (ndD D) n e.2).map (e.1 :: ·)).length ≤ 3000))
  | 0, i, out, full, hc, ho => by
    rw [Nat.add_zero] at hc
    have hx := hD.node _ (List.getElem_mem hk)
    have hdrop : (ndD D k).2.drop i = [] := by
      rw [ndD_at hk]; exact List.drop_of_length_le (by rw [hx.edges_len]; omega)
    refine ⟨out, full, loopM_done ?_, fun h => ⟨h, by rw [hdrop]; simp, by rw [hdrop]; simp, ho h⟩, fun h => .inl h⟩
    show m_spec_l06W_walk_l1 D[k] s _ w1 full out (i : Int) = _
    unfold m_spec_l06W_walk_l1
    rw [decide_eq_false (show ¬ (i : Int) < (D[k].Next.length : Int) by omega)]
    rfl
  | c + 1, i, out, full, hc, ho => by
    have hx := hD.node _ (List.getElem_mem hk)
    have hnl := hlen _ (List.getElem_mem hk)
    have hi : i < D[k].Next.length := by omega
    have hli : i < D[k].Letters.length := by rw [hx.len]; exact hi
    cases full with
    | true =>
      refine ⟨out, true, loopM_done ?_, (fun h => by cases h), fun _ => .inl rfl⟩
      show m_spec_l06W_walk_l1 D[k] s _ w1 true out (i : Int) = _
      unfold m_spec_l06W_walk_l1
      rw [decide_eq_true (show (i : Int) < (D[k].Next.length : Int) by omega)]
      rfl
    | false =>
      have hol := ho rfl
      have hnn := (hx.next _ (List.getElem_mem hi))
      obtain ⟨t, ht⟩ : ∃ t : Nat, D[k].Next[i] = (t : Int) := ⟨D[k].Next[i].toNat, by omega⟩
      have htl : t < D.length := by omega
      have hedge : (ndD D k).2[i]? = some (D[k].Letters[i], t) := by
        rw [ndD_at hk, hx.edge hi, ht, Int.toNat_natCast]
      obtain ⟨h2, h3⟩ := List.getElem?_eq_some_iff.1 hedge
      have hdrop : (ndD D k).2.drop i = (D[k].Letters[i], t) :: (ndD D k).2.drop (i + 1) := by
        rw [List.drop_eq_getElem_cons h2, h3]
      obtain ⟨out1, full1, hrun, hno, hyes⟩ := ih f out (s ++ [D[k].Letters[i]]) t hf (by simp; omega) hol htl
      have hstep : m_spec_l06W_walk_l1 D[k] s (m_spec_l06W_walk_n f) w1 false out (i : Int) = some (.inl (full1, out1, ((i + 1 : Nat) : Int))) := by
        unfold m_spec_l06W_walk_l1
        have hsub : subL D[k].Letters (i : Int) ((i + 1 : Nat) : Int) = some [D[k].Letters[i]] := by
          rw [subL_of (by omega) (by omega) (by omega), Int.toNat_natCast, Int.toNat_natCast, Nat.add_sub_cancel_left, List.drop_eq_getElem_cons hli]
          rfl
        rw [chk_succ (show i ≤ 8000000000000000000 by omega), decide_eq_true (show (i : Int) < (D[k].Next.length : Int) by omega), cond_true, Option.bind_some, Bool.not_false, cond_true, bind_of (getL_at hi), Option.bind_some, bind_of hsub, bind_of (catL_of (by simp; omega)), ht, hw1, bind_of hrun]
        rfl
      obtain ⟨out', full', hrec, hn, hy⟩ := walk_loop hD hlen ih hf hs hk w1 hw1 c (i + 1) out1 full1 (by omega) fun h => (hno h).2.2
      refine ⟨out', full', ?_, fun h => ?_, fun h => ?_⟩
      · rw [loopM_next (show (fun q : Bool × (List Str) × Int => m_spec_l06W_walk_l1 D[k] s (m_spec_l06W_walk_n f) w1 q.1 q.2.1 q.2.2) (false, out, (i : Int)) = _ from hstep)]
        exact hrec
      · obtain ⟨h1, h2, h3, h4⟩ := hn h
        obtain ⟨g1, g2, g3⟩ := hno h1
        refine ⟨rfl, fun e he => ?_, ?_, h4⟩
        · rw [hdrop] at he
          rcases List.mem_cons.1 he with rfl | he
          · exact g1
          · exact h2 e he
        · rw [h3, g2, hdrop, List.flatMap_cons, List.map_append, List.append_assoc]
          congr 2
          rw [List.map_map]
          refine List.map_congr_left fun w _ => ?_
          simp [Function.comp]
      · right
        rintro ⟨h1, h2⟩
        rw [hdrop] at h1 h2
        rw [List.flatMap_cons, List.length_append, List.length_map] at h2
        have hsh := h1 (D[k].Letters[i], t) List.mem_cons_self
        cases full1 with
        | true => exact hyes rfl ⟨hsh, by simp only at h2; omega⟩
        | false =>
          obtain ⟨g1, g2, g3⟩ := hno rfl
          rcases hy h with h' | h'
          · cases h'
          · refine h' ⟨fun e he => h1 e (List.mem_cons_of_mem _ he), ?_⟩
            rw [g2, List.length_append, List.length_map]
            simp only at h2
            omega
theorem walk_step {D : List Node} (hD : ShapeOk D) (hlen : ∀ x ∈ D, x.Next.length ≤ 2000000) : ∀ n, SpecW D n
  | 0 => fun f out s k hf hs ho hk => by
    obtain ⟨f, rfl⟩ : ∃ g, f = g + 1 := ⟨f - 1, by omega⟩
    refine ⟨out, true, ?_, (fun h => by cases h), fun _ h => h.1⟩
    show m_spec_l06W_walk_b (m_spec_l06W_walk_n f) (mkW D out false) (k : Int) s = _
    unfold m_spec_l06W_walk_b
    have : decide ((13 : Int) < (s.length : Int)) = true := decide_eq_true (by omega)
    show ((some (decide ((13 : Int) < (s.length : Int)))).bind _) = _
    rw [this]; rfl
  | n + 1 => fun f out s k hf hs ho hk => by
    obtain ⟨f, rfl⟩ : ∃ g, f = g + 1 := ⟨f - 1, by omega⟩
    have hx := hD.node _ (List.getElem_mem hk)
    show ∃ out' full', m_spec_l06W_walk_b (m_spec_l06W_walk_n f) (mkW D out false) (k : Int) s = _ ∧ _
    unfold m_spec_l06W_walk_b
    have h13 : decide ((13 : Int) < (s.length : Int)) = false := decide_eq_false (by omega)
    show ∃ out' full', ((some (decide ((13 : Int) < (s.length : Int)))).bind _) = _ ∧ _
    rw [h13]
    show ∃ out' full', ((getL D (k : Int)).bind _) = _ ∧ _
    rw [bind_of (getL_at hk)]
    have hhead : (bif D[k].Final then (catL out ([s] : (List Str))).bind fun xs51 => some (decide (3000 < (xs51.length : Int)), xs51) else some (false, out) : Option (Bool × (List Str))) =
        some (decide (3000 < (out ++ (if D[k].Final then [s] else [])).length), out ++ (if D[k].Final then [s] else [])) := by
      cases D[k].Final with
      | true =>
        rw [cond_true, catL_of (by simp; omega), Option.bind_some]
        simp only [if_true]
        congr 2
        rw [decide_eq_decide]; omega
      | false =>
        rw [cond_false]
        simp only [Bool.false_eq_true, if_false, List.append_nil]
        rw [decide_eq_false (by omega)]
    have hhead' : (bif D[k].Final then (catL (mkW D out false).out ([s] : (List Str))).bind fun xs51 => some (decide (3000 < (xs51.length : Int)), xs51) else some ((mkW D out false).full, (mkW D out false).out) : Option (Bool × (List Str))) = _ := hhead
    rw [bind_of hhead']
    generalize ho1 : out ++ (if D[k].Final then [s] else []) = out1
    obtain ⟨out', full', hrun, hn, hy⟩ := walk_loop (n := n) (f := f) hD hlen (walk_step hD hlen n) (by omega) hs hk (mkW D out false) rfl D[k].Next.length 0 out1 (decide (3000 < out1.length)) (by omega) (fun h => by have := of_decide_eq_false h; omega)
    have hrun' : loopM (fun q : Bool × (List Str) × Int => m_spec_l06W_walk_l1 D[k] s (m_spec_l06W_walk_n f) (mkW D out false) q.1 q.2.1 q.2.2) (decide (3000 < out1.length), out1, 0) = some (full', out') := hrun
    show ∃ out' full', ((loopM (fun q : Bool × (List Str) × Int => m_spec_l06W_walk_l1 D[k] s (m_spec_l06W_walk_n f) (mkW D out false) q.1 q.2.1 q.2.2) (decide (3000 < out1.length), out1, 0)).bind _) = _ ∧ _
    rw [bind_of hrun']
    rw [List.drop_zero] at hn hy
    have hlang : langA (ndD D) (n + 1) k = (if D[k].Final then [[]] else []) ++ ((ndD D k).2.flatMap fun e => (langA (ndD D) n e.2).map (e.1 :: ·)) := by
      rw [langA]
      have : (ndD D k).1 = D[k].Final := by rw [ndD_at hk]; rfl
      rw [this]
    have hout : out1.length = out.length + (if D[k].Final = true then ([[]] : List Str) else []).length := by
      rw [← ho1, List.length_append]; split <;> rfl
    refine ⟨out', full', rfl, fun h => ?_, fun h => ?_⟩
    · obtain ⟨h1, h2, h3, h4⟩ := hn h
      refine ⟨h2, ?_, h4⟩
      rw [h3, ← ho1, hlang, List.map_append, List.append_assoc]
      congr 2
      split
      · simp
      · rfl
    · rintro ⟨h1, h2⟩
      rw [hlang, List.length_append] at h2
      rcases hy h with h' | h'
      · have := of_decide_eq_true h'; omega
      · exact h' ⟨h1, by omega⟩
theorem Words_eq (d : Dawg) (hD : ShapeOk d.Nodes) (hlen : ∀ x ∈ d.Nodes, x.Next.length ≤ 2000000) : ∃ out ok, m_spec_l06Words d = some (out, ok) ∧
    (ok = true ↔ shortA (ndD d.Nodes) 14 0 ∧ (langA (ndD d.Nodes) 14 0).length ≤ 3000) ∧ (ok = true → out = langA (ndD d.Nodes) 14 0) := by
  have h0 : 0 < d.Nodes.length := hD.pos
  obtain ⟨out, full, hrun, hn, hy⟩ := walk_step hD hlen 14 fuelN [] [] 0 (by show 14 < 100000; omega) rfl (by simp) h0
  have hrun' : m_spec_l06W_walk (⟨d, ([] : (List Str)), false⟩ : l06W) 0 ([] : Str) = some (mkW d.Nodes out full) := hrun
  unfold m_spec_l06Words
  rw [bind_of hrun']
  have hid : ((langA (ndD d.Nodes) 14 0).map (([] : Str) ++ ·)) = langA (ndD d.Nodes) 14 0 := by simp
  refine ⟨out, !full, rfl, ⟨fun h => ?_, fun h => ?_⟩, fun h => ?_⟩
  · obtain ⟨h1, h2, h3⟩ := hn (by simpa using h)
    rw [hid, List.nil_append] at h2
    exact ⟨h1, by rw [← h2]; exact h3⟩
  · cases full with
    | false => rfl
    | true => exact absurd ⟨h.1, by simpa using h.2⟩ (hy rfl)
  · obtain ⟨h1, h2, h3⟩ := hn (by simpa using h)
    rw [hid, List.nil_append] at h2
    exact h2

end Go.Proofs.YtdaoecpkgobelaaDoor
