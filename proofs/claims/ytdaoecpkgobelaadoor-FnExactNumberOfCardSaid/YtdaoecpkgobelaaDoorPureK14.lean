/- Words less than a word, words that begin with one, the word with a number: program and reference. -/
import Derived.Test.YtdaoecpkgobelaaDoorPureK13
namespace Go.Proofs.YtdaoecpkgobelaaDoor
open Go Go.RowKit
set_option linter.unusedSimpArgs false
set_option linter.unusedVariables false

/-- The words of an automaton, cut at a word. -/
structure CutA (L : List Str) (s : Str) (A M B : List Str) : Prop where
  eq : L = A ++ M.map (s ++ ·) ++ B
  lt : ∀ a ∈ A, ltS a s = true
  ge : ∀ b ∈ B, ltS b s = false ∧ ¬ s <+: b
theorem ltS_pre (s w : Str) : ltS (s ++ w) s = false := by
  induction s with
  | nil => exact ltS_nil _
  | cons c s ih =>
    rw [List.cons_append, ltS_cons, ih]
    simp
theorem edge_find {nd : Nat → Bool × List (UInt8 × Nat)} {k : Nat} (hr : RiseG (nd k).2) (c : UInt8) :
    (∃ A j B, (nd k).2 = A ++ (c, j) :: B ∧ edgeA nd k c = some j ∧ (∀ e ∈ A, e.1 < c) ∧ ∀ e ∈ B, c < e.1) ∨
    (∃ A B, (nd k).2 = A ++ B ∧ edgeA nd k c = none ∧ (∀ e ∈ A, e.1 < c) ∧ ∀ e ∈ B, c < e.1) := by
  unfold edgeA
  generalize (nd k).2 = G at hr
  induction G with
  | nil => exact .inr ⟨[], [], rfl, rfl, (fun e he => by cases he), (fun e he => by cases he)⟩
  | cons e G ih =>
    rw [RiseG, List.pairwise_cons] at hr
    by_cases hc : e.1 = c
    · left
      obtain ⟨d, j⟩ := e
      simp only at hc
      subst hc
      exact ⟨[], j, G, rfl, by simp, (fun e he => by cases he), fun x hx => hr.1 x hx⟩
    · have hb : (e.1 == c) = false := by simpa using hc
      by_cases hlt : e.1 < c
      · rcases ih hr.2 with ⟨A, j, B, h1, h2, h3, h4⟩ | ⟨A, B, h1, h2, h3, h4⟩
        · refine .inl ⟨e :: A, j, B, by rw [h1]; rfl, ?_, fun x hx => ?_, h4⟩
          · rw [List.find?_cons, hb]; exact h2
          · rcases List.mem_cons.1 hx with rfl | hx
            · exact hlt
            · exact h3 x hx
        · refine .inr ⟨e :: A, B, by rw [h1]; rfl, ?_, fun x hx => ?_, h4⟩
          · rw [List.find?_cons, hb]; exact h2
          · rcases List.mem_cons.1 hx with rfl | hx
            · exact hlt
            · exact h3 x hx
      · have hgt : c < e.1 := by
          rcases UInt8.lt_or_lt_of_ne hc with h | h
          · exact absurd h hlt
          · exact h
        refine .inr ⟨[], e :: G, rfl, ?_, (fun x hx => by cases hx), fun x hx => ?_⟩
        · rw [Option.map_eq_none_iff, List.find?_eq_none]
          intro x hx
          rcases List.mem_cons.1 hx with rfl | hx
          · simpa using hc
          · have := UInt8.lt_trans hgt (hr.1 x hx)
            simp only [beq_iff_eq]
            rintro rfl
            exact UInt8.lt_irrefl _ this
        · rcases List.mem_cons.1 hx with rfl | hx
          · exact hgt
          · exact UInt8.lt_trans hgt (hr.1 x hx)
theorem cut_exists {nd : Nat → Bool × List (UInt8 × Nat)} (hr : ∀ k, RiseG (nd k).2) : ∀ (s : Str) (k : Nat), shortA nd 14 k → ∃ A B, CutA (langA nd 14 k) s A (match afterA nd k s with | some j => langA nd 14 j | none => []) B ∧ ∀ j, afterA nd k s = some j → j ∈ preA nd 14 k
  | [], k, hs => ⟨[], [], ⟨by simp [afterA], (fun a ha => by cases ha), (fun b hb => by cases hb)⟩, fun j hj => by cases hj; exact preA_self _ hs⟩
  | c :: s, k, hs => by
    have hkid : ∀ e ∈ (nd k).2, shortA nd 14 e.2 := fun e he => shortA_mono nd (show 13 ≤ 14 by omega) (hs e he)
    have hfl : ∀ (G : List (UInt8 × Nat)), (∀ e ∈ G, e.1 < c) → ∀ a ∈ (G.flatMap fun e => (langA nd 14 e.2).map (e.1 :: ·)), ltS a (c :: s) = true := fun G hG a ha => by
      obtain ⟨e, he, ha⟩ := List.mem_flatMap.1 ha
      obtain ⟨w, _, rfl⟩ := List.mem_map.1 ha
      rw [ltS_cons, decide_eq_true (hG e he)]; rfl
    have hgt : ∀ (G : List (UInt8 × Nat)), (∀ e ∈ G, c < e.1) → ∀ a ∈ (G.flatMap fun e => (langA nd 14 e.2).map (e.1 :: ·)), ltS a (c :: s) = false ∧ ¬ (c :: s) <+: a := fun G hG a ha => by
      obtain ⟨e, he, ha⟩ := List.mem_flatMap.1 ha
      obtain ⟨w, _, rfl⟩ := List.mem_map.1 ha
      have h1 := hG e he
      have hne : ¬ e.1 = c := fun h => by rw [h] at h1; exact UInt8.lt_irrefl _ h1
      have hnl : ¬ e.1 < c := fun h => UInt8.lt_irrefl _ (UInt8.lt_trans h h1)
      refine ⟨?_, fun h => ?_⟩
      · rw [ltS_cons, decide_eq_false hnl]
        have : (e.1 == c) = false := by simpa using hne
        rw [this]; rfl
      · rw [List.cons_prefix_cons] at h
        exact hne h.1.symm
    have hfin : ∀ a ∈ (if (nd k).1 = true then ([[]] : List Str) else []), ltS a (c :: s) = true := fun a ha => by
      have : a = [] := by
        split at ha
        · rwa [List.mem_singleton] at ha
        · cases ha
      rw [this]; rfl
    rw [afterA]
    rcases edge_find (hr k) c with ⟨A, j, B, h1, h2, h3, h4⟩ | ⟨A, B, h1, h2, h3, h4⟩
    · rw [h2, Option.bind_some]
      have hjm : (c, j) ∈ (nd k).2 := by rw [h1]; simp
      obtain ⟨A', B', hC, hp⟩ := cut_exists hr s j (hkid _ hjm)
      refine ⟨(if (nd k).1 then [[]] else []) ++ (A.flatMap fun e => (langA nd 14 e.2).map (e.1 :: ·)) ++ A'.map (c :: ·), B'.map (c :: ·) ++ (B.flatMap fun e => (langA nd 14 e.2).map (e.1 :: ·)), ⟨?_, fun a ha => ?_, fun b hb => ?_⟩, fun i hi => preA_sub _ hs (preA_next _ hs (preA_self _ hs) _ hjm) (hp i hi)⟩
      · rw [lang_unfold hs, h1, List.flatMap_append, List.flatMap_cons]
        simp only
        conv => lhs; rw [hC.eq]
        simp only [List.map_append, List.map_map, List.append_assoc, List.cons_append]
        rfl
      · rcases List.mem_append.1 ha with ha | ha
        · rcases List.mem_append.1 ha with ha | ha
          · exact hfin a ha
          · exact hfl A h3 a ha
        · obtain ⟨w, hw, rfl⟩ := List.mem_map.1 ha
          rw [ltS_cons, hC.lt w hw]; simp
      · rcases List.mem_append.1 hb with hb | hb
        · obtain ⟨w, hw, rfl⟩ := List.mem_map.1 hb
          obtain ⟨q1, q2⟩ := hC.ge w hw
          refine ⟨by rw [ltS_cons, q1]; simp, fun h => ?_⟩
          rw [List.cons_prefix_cons] at h
          exact q2 h.2
        · exact hgt B h4 b hb
    · rw [h2, Option.bind_none]
      refine ⟨(if (nd k).1 then [[]] else []) ++ (A.flatMap fun e => (langA nd 14 e.2).map (e.1 :: ·)), (B.flatMap fun e => (langA nd 14 e.2).map (e.1 :: ·)), ⟨?_, fun a ha => ?_, fun b hb => hgt B h4 b hb⟩, fun i hi => by cases hi⟩
      · rw [lang_unfold hs, h1, List.flatMap_append]
        simp
      · rcases List.mem_append.1 ha with ha | ha
        · exact hfin a ha
        · exact hfl A h3 a ha
/-- How many words are less. -/
def lessN (L : List Str) (s : Str) : Nat := (L.filter fun a => ltS a s).length
theorem CutA.less {L : List Str} {s : Str} {A M B : List Str} (h : CutA L s A M B) : lessN L s = A.length := by
  unfold lessN
  rw [h.eq, List.filter_append, List.filter_append, List.filter_eq_self.2 h.lt]
  have h1 : (M.map (s ++ ·)).filter (fun a => ltS a s) = [] := by
    rw [List.filter_eq_nil_iff]
    intro a ha
    obtain ⟨w, _, rfl⟩ := List.mem_map.1 ha
    rw [ltS_pre]; simp
  have h2 : B.filter (fun a => ltS a s) = [] := by
    rw [List.filter_eq_nil_iff]
    intro a ha
    rw [(h.ge a ha).1]; simp
  rw [h1, h2]
  simp
theorem CutA.first {L : List Str} {s : Str} {A M B : List Str} (h : CutA L s A M B) : IsFirst L s A.length := by
  refine ⟨by rw [h.eq]; simp, fun i hi => ?_, fun hlt => ?_⟩
  · have : L.getD i [] = A[i] := by
      rw [List.getD_eq_getElem?_getD, h.eq, List.append_assoc, List.getElem?_append_left hi, List.getElem?_eq_getElem hi]; rfl
    rw [this]
    exact h.lt _ (List.getElem_mem hi)
  · have h1 : L.getD A.length [] = (M.map (s ++ ·) ++ B).getD 0 [] := by
      rw [List.getD_eq_getElem?_getD, List.getD_eq_getElem?_getD, h.eq, List.append_assoc, List.getElem?_append_right (Nat.le_refl _), Nat.sub_self]
    rw [h1]
    cases hM : M with
    | nil =>
      cases hB : B with
      | nil => rw [h.eq, hM, hB] at hlt; simp at hlt
      | cons b B' =>
        have := (h.ge b (by rw [hB]; exact List.mem_cons_self)).1
        simpa using this
    | cons m M' =>
      have := ltS_pre s m
      simpa using this

/-! the reference's number of lesser words -/
theorem lessN_append (A B : List Str) (s : Str) : lessN (A ++ B) s = lessN A s + lessN B s := by unfold lessN; rw [List.filter_append, List.length_append]
theorem lessN_le (A : List Str) (s : Str) : lessN A s ≤ A.length := List.length_filter_le _ _
theorem lessN_map (c d : UInt8) (A : List Str) (s : Str) : lessN (A.map (c :: ·)) (d :: s) = if c < d then A.length else if c = d then lessN A s else 0 := by
  unfold lessN
  rw [List.filter_map, List.length_map]
  by_cases h1 : c < d
  · rw [if_pos h1]
    congr 1
    rw [List.filter_eq_self]
    intro a _
    simp only [Function.comp]
    rw [ltS_cons, decide_eq_true h1]; rfl
  · rw [if_neg h1]
    by_cases h2 : c = d
    · rw [if_pos h2]
      congr 2
      funext a
      simp only [Function.comp]
      rw [ltS_cons, decide_eq_false h1]
      subst h2
      simp
    · rw [if_neg h2, List.length_eq_zero_iff, List.filter_eq_nil_iff]
      intro a _
      simp only [Function.comp]
      rw [ltS_cons, decide_eq_false h1]
      have : (c == d) = false := by simpa using h2
      rw [this]; simp
theorem less_inner (d : Dawg) (hG : GoodD d.Nodes) (hlen : ∀ x ∈ d.Nodes, x.Next.length ≤ 2000000) {k : Nat} (hk : k < d.Nodes.length) (s : Str) (p : Nat) (hp : p < s.length) :
    ∀ (c i : Nat) (nx : Int) (acc : Nat), i + c = d.Nodes[k].Next.length → acc + c * 3000 ≤ 9000000000000000 → (nx = -1 ∨ edgeA (ndD d.Nodes) k s[p] = some nx.toNat ∧ 0 ≤ nx) → (nx = -1 → ∀ e ∈ (ndD d.Nodes k).2.take i, e.1 ≠ s[p]) →
      ∃ (nx' : Int) (acc' : Nat), loopM (fun q : Int × Int × Int => m_spec_l07Less_l2 d.Nodes[k] s (p : Int) (cntL d.Nodes) q.1 q.2.1 q.2.2) (nx, (i : Int), (acc : Int)) = some (nx', (acc' : Int)) ∧
        acc' = acc + (((ndD d.Nodes k).2.drop i).map fun e => if e.1 < s[p] then cntA d.Nodes e.2 else 0).sum ∧ nx' = optI (edgeA (ndD d.Nodes) k s[p])
  | 0, i, nx, acc, hi, ha, hnx, hno => by
    have hx := hG.shape.node _ (List.getElem_mem hk)
    have hdrop : (ndD d.Nodes k).2.drop i = [] := by rw [ndD_at hk]; exact List.drop_of_length_le (by rw [hx.edges_len]; omega)
    have htake : (ndD d.Nodes k).2.take i = (ndD d.Nodes k).2 := by rw [ndD_at hk]; exact List.take_of_length_le (by rw [hx.edges_len]; omega)
    refine ⟨nx, acc, loopM_done ?_, by rw [hdrop]; simp, ?_⟩
    · show m_spec_l07Less_l2 d.Nodes[k] s (p : Int) _ nx (i : Int) (acc : Int) = _
      unfold m_spec_l07Less_l2
      rw [decide_eq_false (by omega)]; rfl
    · rcases hnx with h | ⟨h1, h2⟩
      · have hn := hno h
        rw [htake] at hn
        have : edgeA (ndD d.Nodes) k s[p] = none := by
          unfold edgeA
          rw [Option.map_eq_none_iff, List.find?_eq_none]
          intro e he
          simpa using hn e he
        rw [this, h]; rfl
      · rw [h1]
        show nx = ((nx.toNat : Nat) : Int)
        omega
  | c + 1, i, nx, acc, hi, ha, hnx, hno => by
    have hx := hG.shape.node _ (List.getElem_mem hk)
    have hxl := hlen _ (List.getElem_mem hk)
    have hil : i < d.Nodes[k].Next.length := by omega
    have hll : i < d.Nodes[k].Letters.length := by rw [hx.len]; exact hil
    have hnn := (hx.next _ (List.getElem_mem hil))
    obtain ⟨t, ht⟩ : ∃ t : Nat, d.Nodes[k].Next[i] = (t : Int) := ⟨d.Nodes[k].Next[i].toNat, by omega⟩
    have htl : t < d.Nodes.length := by omega
    have hedge : (ndD d.Nodes k).2[i]? = some (d.Nodes[k].Letters[i], t) := by
      rw [ndD_at hk, hx.edge hil, ht, Int.toNat_natCast]
    obtain ⟨h2, h3⟩ := List.getElem?_eq_some_iff.1 hedge
    have hdrop : (ndD d.Nodes k).2.drop i = (d.Nodes[k].Letters[i], t) :: (ndD d.Nodes k).2.drop (i + 1) := by
      rw [List.drop_eq_getElem_cons h2, h3]
    have htake : (ndD d.Nodes k).2.take (i + 1) = (ndD d.Nodes k).2.take i ++ [(d.Nodes[k].Letters[i], t)] := by
      rw [List.take_add_one, hedge]; rfl
    have hc3 := hG.le htl
    have hfind : d.Nodes[k].Letters[i] = s[p] → edgeA (ndD d.Nodes) k s[p] = some t := fun he => by
      unfold edgeA
      rw [ndD_at hk]
      have hrise := List.pairwise_iff_getElem.1 hx.rise
      show ((d.Nodes[k].Letters.zip (d.Nodes[k].Next.map Int.toNat)).find? fun e => e.1 == s[p]).map (·.2) = _
      rw [find_zip d.Nodes[k].Letters (d.Nodes[k].Next.map Int.toNat) s[p] i hll (by rw [List.length_map]; exact hil) he fun j hj hji e => ?_]
      · rw [List.getElem_map, ht, Int.toNat_natCast]
      · have hjn : j < d.Nodes[k].Next.length := by omega
        have e1 := hx.edge hjn
        have e2 := hx.edge hil
        rw [List.getElem?_eq_getElem (by rw [hx.edges_len]; exact hjn), Option.some.injEq] at e1
        rw [List.getElem?_eq_getElem (by rw [hx.edges_len]; exact hil), Option.some.injEq] at e2
        have := hrise j i (by rw [hx.edges_len]; exact hjn) (by rw [hx.edges_len]; exact hil) hji
        rw [e1, e2] at this
        simp only at this
        rw [e, he] at this
        exact UInt8.lt_irrefl _ this
    have hmul : (c + 1) * 3000 = c * 3000 + 3000 := Nat.succ_mul c 3000
    have hacc2l : (if d.Nodes[k].Letters[i] < s[p] then acc + cntA d.Nodes t else acc) ≤ acc + 3000 := by split <;> omega
    have hA : ((getL d.Nodes[k].Letters (i : Int)).bind fun c100 => (getL s (p : Int)).bind fun c102 => bif decide (c100 < c102) then (getL d.Nodes[k].Next (i : Int)).bind fun e105 => (getL (cntL d.Nodes) e105).bind fun e114 => (chk ((acc : Int) + e114)).bind fun z123 => some z123 else some (acc : Int) : Option Int) =
        some (((if d.Nodes[k].Letters[i] < s[p] then acc + cntA d.Nodes t else acc : Nat)) : Int) := by
      rw [bind_of (getL_at hll), bind_of (getL_at hp)]
      by_cases hlt : d.Nodes[k].Letters[i] < s[p]
      · rw [decide_eq_true hlt, cond_true, if_pos hlt, bind_of (getL_at hil), ht, bind_of (getL_cnt htl), chk_to (((acc + cntA d.Nodes t : Nat)) : Int) (by push_cast; rfl) (by omega) (by omega)]
        rfl
      · rw [decide_eq_false hlt, cond_false, if_neg hlt]
    have hB : ∀ z : Int, ((getL d.Nodes[k].Letters (i : Int)).bind fun c129 => (getL s (p : Int)).bind fun c131 => bif c129 == c131 then (getL d.Nodes[k].Next (i : Int)).bind fun e134 => some (e134, z) else some (nx, z) : Option (Int × Int)) = some ((if d.Nodes[k].Letters[i] = s[p] then (t : Int) else nx), z) := fun z => by
      rw [bind_of (getL_at hll), bind_of (getL_at hp)]
      by_cases he : d.Nodes[k].Letters[i] = s[p]
      · rw [show (d.Nodes[k].Letters[i] == s[p]) = true by simpa using he, cond_true, if_pos he, bind_of (getL_at hil), ht]
      · rw [show (d.Nodes[k].Letters[i] == s[p]) = false by simpa using he, cond_false, if_neg he]
    have hstep : m_spec_l07Less_l2 d.Nodes[k] s (p : Int) (cntL d.Nodes) nx (i : Int) (acc : Int) = some (.inl ((if d.Nodes[k].Letters[i] = s[p] then (t : Int) else nx), (((i + 1 : Nat)) : Int), (((if d.Nodes[k].Letters[i] < s[p] then acc + cntA d.Nodes t else acc : Nat)) : Int))) := by
      unfold m_spec_l07Less_l2
      rw [chk_succ (show i ≤ 8000000000000000000 by omega), decide_eq_true (show (i : Int) < (d.Nodes[k].Next.length : Int) by omega), cond_true, hA, Option.bind_some, hB, Option.bind_some]
      rfl
    obtain ⟨nx', acc', h4, h5, h6⟩ := less_inner d hG hlen hk s p hp c (i + 1) (if d.Nodes[k].Letters[i] = s[p] then (t : Int) else nx) (if d.Nodes[k].Letters[i] < s[p] then acc + cntA d.Nodes t else acc) (by omega) (by omega)
      (by
        by_cases he : d.Nodes[k].Letters[i] = s[p]
        · rw [if_pos he]; exact .inr ⟨by rw [hfind he]; simp, by omega⟩
        · rw [if_neg he]; exact hnx)
      (fun h e he' => by
        by_cases he : d.Nodes[k].Letters[i] = s[p]
        · rw [if_pos he] at h; omega
        · rw [if_neg he] at h
          rw [htake] at he'
          rcases List.mem_append.1 he' with he' | he'
          · exact hno h e he'
          · rw [List.mem_singleton] at he'; subst he'; exact he)
    refine ⟨nx', acc', ?_, ?_, h6⟩
    · rw [loopM_next (step := fun q : Int × Int × Int => m_spec_l07Less_l2 d.Nodes[k] s (p : Int) (cntL d.Nodes) q.1 q.2.1 q.2.2) hstep]
      exact h4
    · rw [h5, hdrop, List.map_cons, List.sum_cons]
      simp only
      split <;> omega
theorem sum_nil {α : Type} (G : List α) : (G.map fun _ => (0 : Nat)).sum = 0 := by
  induction G with
  | nil => rfl
  | cons _ _ ih => rw [List.map_cons, List.sum_cons, ih]
theorem lessN_flat (D : List Node) (c : UInt8) (s : Str) : ∀ (G : List (UInt8 × Nat)), RiseG G → lessN (G.flatMap fun e => (langA (ndD D) 14 e.2).map (e.1 :: ·)) (c :: s) = (G.map fun e => if e.1 < c then cntA D e.2 else 0).sum + (match (G.find? fun e => e.1 == c).map (·.2) with | some j => lessN (langA (ndD D) 14 j) s | none => 0)
  | [], _ => rfl
  | e :: G, hr => by
    rw [RiseG, List.pairwise_cons] at hr
    rw [List.flatMap_cons, lessN_append, lessN_map, lessN_flat D c s G hr.2, List.map_cons, List.sum_cons, List.find?_cons]
    by_cases h1 : e.1 < c
    · have hb : (e.1 == c) = false := by
        rw [beq_eq_false_iff_ne]
        intro h; rw [h] at h1; exact UInt8.lt_irrefl _ h1
      rw [if_pos h1, if_pos h1, hb]
      exact (Nat.add_assoc _ _ _).symm
    · rw [if_neg h1, if_neg h1]
      by_cases h2 : e.1 = c
      · have hb : (e.1 == c) = true := by simpa using h2
        rw [if_pos h2, hb]
        have hz : (G.map fun e => if e.1 < c then cntA D e.2 else 0).sum = 0 := by
          have : (G.map fun e => if e.1 < c then cntA D e.2 else 0) = G.map fun _ => 0 := List.map_congr_left fun x hx => by
            have := hr.1 x hx
            rw [h2] at this
            rw [if_neg (fun h => UInt8.lt_irrefl _ (UInt8.lt_trans h this))]
          rw [this]
          exact sum_nil G
        have hn : (G.find? fun e => e.1 == c) = none := by
          rw [List.find?_eq_none]
          intro x hx
          have := hr.1 x hx
          rw [h2] at this
          intro hxc
          rw [beq_iff_eq] at hxc
          rw [hxc] at this
          exact UInt8.lt_irrefl _ this
        rw [hz, hn]
        simp
      · have hb : (e.1 == c) = false := by simpa using h2
        rw [if_neg h2, hb]
        simp
theorem less_unfold {D : List Node} (hD : ShapeOk D) {k : Nat} (hs : shortA (ndD D) 14 k) (c : UInt8) (s : Str) : lessN (langA (ndD D) 14 k) (c :: s) = (if (ndD D k).1 then 1 else 0) + ((ndD D k).2.map fun e => if e.1 < c then cntA D e.2 else 0).sum + (match edgeA (ndD D) k c with | some j => lessN (langA (ndD D) 14 j) s | none => 0) := by
  rw [lang_unfold hs, lessN_append, lessN_flat D c s _ (hD.rise k), Nat.add_assoc]
  congr 1
  cases (ndD D k).1 <;> rfl
theorem Less_at (d : Dawg) (hG : GoodD d.Nodes) (hlen : ∀ x ∈ d.Nodes, x.Next.length ≤ 2000000) (s : Str) (hs : s.length ≤ 1000000000) :
    ∀ (c p : Nat) (acc k : Nat), p + c = s.length → k < d.Nodes.length → acc ≤ 3001 → acc + lessN (langA (ndD d.Nodes) 14 k) (s.drop p) ≤ 3000 →
      (loopM (fun q : Int × Int × Int => m_spec_l07Less_l1 s d (cntL d.Nodes) q.1 q.2.1 q.2.2) ((acc : Int), (k : Int), (p : Int)) = some (.inl (((acc + lessN (langA (ndD d.Nodes) 14 k) (s.drop p) : Nat)) : Int)) ∨
       loopM (fun q : Int × Int × Int => m_spec_l07Less_l1 s d (cntL d.Nodes) q.1 q.2.1 q.2.2) ((acc : Int), (k : Int), (p : Int)) = some (.inr (((acc + lessN (langA (ndD d.Nodes) 14 k) (s.drop p) : Nat)) : Int)))
  | 0, p, acc, k, hp, hk, ha, hb => by
    left
    have : s.drop p = [] := List.drop_of_length_le (by omega)
    have hz : lessN (langA (ndD d.Nodes) 14 k) [] = 0 := by
      unfold lessN
      rw [List.length_eq_zero_iff, List.filter_eq_nil_iff]
      intro a _
      rw [ltS_nil]; simp
    rw [this, hz]
    refine loopM_done ?_
    show m_spec_l07Less_l1 s d _ (acc : Int) (k : Int) (p : Int) = _
    unfold m_spec_l07Less_l1
    rw [decide_eq_false (by omega)]; rfl
  | c + 1, p, acc, k, hp, hk, ha, hb => by
    have hx := hG.shape.node _ (List.getElem_mem hk)
    have hxl := hlen _ (List.getElem_mem hk)
    have hpl : p < s.length := by omega
    have hd : s.drop p = s[p] :: s.drop (p + 1) := List.drop_eq_getElem_cons hpl
    have hfin : (ndD d.Nodes k).1 = d.Nodes[k].Final := by rw [ndD_at hk]; rfl
    have hun := less_unfold hG.shape (hG.short hk) s[p] (s.drop (p + 1))
    rw [hd, hun] at hb ⊢
    generalize hf : (if (ndD d.Nodes k).1 = true then 1 else 0) = fin at hb ⊢
    have hfl : fin ≤ 1 := by rw [← hf]; split <;> omega
    have hA : (bif d.Nodes[k].Final then (chk ((acc : Int) + 1)).bind fun z60 => some z60 else some (acc : Int) : Option Int) = some (((acc + fin : Nat)) : Int) := by
      rw [← hf, hfin]
      cases d.Nodes[k].Final with
      | true => rw [cond_true, chk_succ (by omega)]; rfl
      | false => rfl
    obtain ⟨nx', acc', h1, h2, h3⟩ := less_inner d hG hlen hk s p hpl d.Nodes[k].Next.length 0 (-1) (acc + fin) (by omega) (by omega) (.inl rfl) (fun _ e he => by cases he)
    rw [List.drop_zero] at h2
    have h1' : ((loopM (fun q : Int × Int × Int => m_spec_l07Less_l2 d.Nodes[k] s (p : Int) (cntL d.Nodes) q.1 q.2.1 q.2.2) (-1, 0, (((acc + fin : Nat)) : Int))).bind fun x82 => match x82 with | (n78, i80) => some (n78, i80)) = some (nx', (acc' : Int)) := by
      have : loopM (fun q : Int × Int × Int => m_spec_l07Less_l2 d.Nodes[k] s (p : Int) (cntL d.Nodes) q.1 q.2.1 q.2.2) (-1, 0, (((acc + fin : Nat)) : Int)) = some (nx', (acc' : Int)) := h1
      rw [bind_of this]
    cases he : edgeA (ndD d.Nodes) k s[p] with
    | none =>
      rw [he] at hb h3
      simp only at hb ⊢
      right
      refine loopM_done ?_
      show m_spec_l07Less_l1 s d _ (acc : Int) (k : Int) (p : Int) = _
      unfold m_spec_l07Less_l1
      rw [chk_succ (show p ≤ 8000000000000000000 by omega), decide_eq_true (show (p : Int) < (s.length : Int) by omega), cond_true, bind_of (getL_at hk), hA, Option.bind_some, h1', Option.bind_some]
      have : nx' = -1 := h3
      rw [this]
      show some (Sum.inr (Sum.inr (acc' : Int))) = _
      rw [h2, Nat.add_zero, Nat.add_assoc]
    | some j =>
      rw [he] at hb h3
      simp only at hb ⊢
      have hjl := edgeA_lt hG.shape he
      have hnx : nx' = (j : Int) := h3
      have hstep : m_spec_l07Less_l1 s d (cntL d.Nodes) (acc : Int) (k : Int) (p : Int) = some (.inl ((acc' : Int), (j : Int), (((p + 1 : Nat)) : Int))) := by
        unfold m_spec_l07Less_l1
        rw [chk_succ (show p ≤ 8000000000000000000 by omega), decide_eq_true (show (p : Int) < (s.length : Int) by omega), cond_true, bind_of (getL_at hk), hA, Option.bind_some, h1', Option.bind_some, hnx]
        dsimp only
        rw [decide_eq_false (show ¬ ((j : Int) < 0) by omega)]
        rfl
      rw [loopM_next (step := fun q : Int × Int × Int => m_spec_l07Less_l1 s d (cntL d.Nodes) q.1 q.2.1 q.2.2) hstep]
      have heq : acc + (fin + ((ndD d.Nodes k).2.map fun e => if e.1 < s[p] then cntA d.Nodes e.2 else 0).sum + lessN (langA (ndD d.Nodes) 14 j) (s.drop (p + 1))) = acc' + lessN (langA (ndD d.Nodes) 14 j) (s.drop (p + 1)) := by omega
      rw [heq]
      exact Less_at d hG hlen s hs c (p + 1) acc' j (by omega) hjl (by omega) (by omega)
theorem Less07_eq (d : Dawg) (hG : GoodD d.Nodes) (hlen : ∀ x ∈ d.Nodes, x.Next.length ≤ 2000000) (s : Str) (hs : s.length ≤ 1000000000) : m_spec_l07Less d s = some (lessN (langA (ndD d.Nodes) 14 0) s : Int) := by
  have hle := lessN_le (langA (ndD d.Nodes) 14 0) s
  have hfew := hG.few
  unfold m_spec_l07Less
  rw [bind_of (Counts_eq d hG hlen)]
  have h := Less_at d hG hlen s hs s.length 0 0 0 (by omega) hG.shape.pos (by omega) (by rw [List.drop_zero]; omega)
  rw [List.drop_zero, Nat.zero_add] at h
  rcases h with h | h
  · have h' : loopM (fun q : Int × Int × Int => m_spec_l07Less_l1 s d (cntL d.Nodes) q.1 q.2.1 q.2.2) (0, 0, 0) = some (.inl (lessN (langA (ndD d.Nodes) 14 0) s : Int)) := h
    rw [h']; rfl
  · have h' : loopM (fun q : Int × Int × Int => m_spec_l07Less_l1 s d (cntL d.Nodes) q.1 q.2.1 q.2.2) (0, 0, 0) = some (.inr (lessN (langA (ndD d.Nodes) 14 0) s : Int)) := h
    rw [h']; rfl

end Go.Proofs.YtdaoecpkgobelaaDoor
