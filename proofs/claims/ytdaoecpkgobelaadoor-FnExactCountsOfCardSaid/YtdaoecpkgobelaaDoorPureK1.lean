/- Automata: visits, numbers in the order of the visit. -/
import Derived.Test.YtdaoecpkgobelaaDoorPureK0
namespace Go.Proofs.YtdaoecpkgobelaaDoor
open Go Go.RowKit
set_option linter.unusedSimpArgs false
set_option linter.unusedVariables false

section
variable {σ : Type} (nd : σ → Bool × List (UInt8 × σ))
/-- No state is met again behind itself. -/
theorem preA_acyc : ∀ {n : Nat} {k : σ}, shortA nd n k → ∀ e ∈ (nd k).2, ∀ m, k ∉ preA nd m e.2
  | 0, _, h, _, _, _ => h.elim
  | n + 1, k, h, e, he, m => fun hk => by
    have hs := h e he
    have hk' : k ∈ preA nd n e.2 := preA_sub nd hs (preA_self nd hs) hk
    exact preA_acyc (preA_short nd hs hk') e he m hk
variable [DecidableEq σ]
/-- A visit that passes by what was met. -/
def dfsA : Nat → σ → List σ → List σ
  | 0, _, K => K
  | n + 1, k, K => if k ∈ K then K else (nd k).2.foldl (fun K e => dfsA n e.2 K) (K ++ [k])
/-- What was met behind k is complete. -/
def DoneA (F : Nat) (k : σ) (K : List σ) : Prop := ∀ j ∈ K, j ∈ preA nd F k → ∀ m, ∀ i ∈ preA nd m j, i ∈ K
theorem DoneA.fold {F : Nat} : ∀ (es : List (UInt8 × σ)) (K : List σ), (∀ e ∈ es, shortA nd F e.2) → (∀ e ∈ es, DoneA nd F e.2 K) → (∀ e ∈ es, ∀ K, DoneA nd F e.2 K → dfsA nd F e.2 K = ddA K (preA nd F e.2)) →
    es.foldl (fun K e => dfsA nd F e.2 K) K = ddA K (es.flatMap fun e => preA nd F e.2)
  | [], K, _, _, _ => rfl
  | e :: es, K, hS, hD, hE => by
    rw [List.foldl_cons, hE e List.mem_cons_self K (hD e List.mem_cons_self), List.flatMap_cons, ddA_append]
    refine DoneA.fold es _ (fun x hx => hS x (List.mem_cons_of_mem _ hx)) (fun x hx j hj hjp m i hi => ?_) (fun x hx => hE x (List.mem_cons_of_mem _ hx))
    rw [mem_ddA] at hj ⊢
    rcases hj with hj | hj
    · exact .inl (hD x (List.mem_cons_of_mem _ hx) j hj hjp m i hi)
    · exact .inr (preA_sub nd (hS e List.mem_cons_self) hj hi)
theorem dfsA_eq : ∀ {n : Nat} {k : σ} {K : List σ}, shortA nd n k → DoneA nd n k K → dfsA nd n k K = ddA K (preA nd n k)
  | 0, _, _, h, _ => h.elim
  | n + 1, k, K, h, hD => by
    rw [dfsA]
    split
    · rename_i hk
      exact (ddA_all fun x hx => hD k hk (preA_self nd h) (n + 1) x hx).symm
    · rename_i hk
      rw [preA, ddA, if_neg hk]
      refine DoneA.fold nd _ _ h (fun e he j hj hjp m i hi => ?_) (fun e he K' hK' => dfsA_eq (h e he) hK')
      rcases List.mem_append.1 hj with hj | hj
      · refine List.mem_append_left _ (hD j hj ?_ m i hi)
        rw [preA]
        exact List.mem_cons_of_mem _ (List.mem_flatMap.2 ⟨e, he, hjp⟩)
      · rw [List.mem_singleton] at hj
        subst hj
        exact absurd hjp (preA_acyc nd h e he n)
end
/-! numbered as they are met -/
theorem range_snoc (m : Nat) : List.range (m + 1) = List.range m ++ [m] := List.range_succ
def numA : Nat → List Nat → Option Nat
  | m, [] => some m
  | m, k :: l => if k < m then numA m l else if k = m then numA (m + 1) l else none
theorem numA_dd : ∀ {l : List Nat} {m n : Nat}, numA m l = some n → ddA (List.range m) l = List.range n
  | [], m, n, h => by cases h; rfl
  | k :: l, m, n, h => by
    rw [numA] at h
    rw [ddA]
    split at h
    · rename_i hk
      rw [if_pos (List.mem_range.2 hk)]
      exact numA_dd h
    · rename_i hk
      rw [if_neg (fun hx => hk (List.mem_range.1 hx))]
      split at h
      · rename_i he
        subst he
        rw [← range_snoc]
        exact numA_dd h
      · cases h
theorem dd_numA : ∀ {l : List Nat} {m n : Nat}, ddA (List.range m) l = List.range n → numA m l = some n
  | [], m, n, h => by
    have : m = n := by have := congrArg List.length h; simpa [ddA] using this
    rw [numA, this]
  | k :: l, m, n, h => by
    rw [numA]
    rw [ddA] at h
    by_cases hk : k < m
    · rw [if_pos (List.mem_range.2 hk)] at h
      rw [if_pos hk]; exact dd_numA h
    · rw [if_neg (fun hx => hk (List.mem_range.1 hx))] at h
      rw [if_neg hk]
      obtain ⟨t, ht⟩ := ddA_pre (List.range m ++ [k]) l
      have e : (List.range n)[m]? = some k := by rw [← h, ht]; simp
      have hkm : k = m := by
        rw [List.getElem?_eq_some_iff] at e
        obtain ⟨h1, h2⟩ := e
        simpa using h2.symm
      rw [if_pos hkm]
      subst hkm
      rw [← range_snoc] at h
      exact dd_numA h
theorem numA_append {l l' : List Nat} {m : Nat} : numA m (l ++ l') = (numA m l).bind fun n => numA n l' := by
  induction l generalizing m with
  | nil => rfl
  | cons k l ih =>
    simp only [List.cons_append, numA]
    split
    · exact ih
    · split
      · exact ih
      · rfl
theorem numA_le : ∀ {l : List Nat} {m n : Nat}, numA m l = some n → m ≤ n
  | [], m, n, h => by cases h; exact Nat.le_refl _
  | k :: l, m, n, h => by
    rw [numA] at h
    split at h
    · exact numA_le h
    · split at h
      · have := numA_le h; omega
      · cases h
theorem numA_lt : ∀ {l : List Nat} {m n : Nat}, numA m l = some n → ∀ k ∈ l, k < n
  | [], m, n, h => fun k hk => by cases hk
  | j :: l, m, n, h => fun k hk => by
    rw [numA] at h
    split at h
    · rename_i hj
      rcases List.mem_cons.1 hk with rfl | hk
      · exact Nat.lt_of_lt_of_le hj (numA_le h)
      · exact numA_lt h k hk
    · split at h
      · rename_i hj
        rcases List.mem_cons.1 hk with rfl | hk
        · have := numA_le h; omega
        · exact numA_lt h k hk
      · cases h
theorem numA_all {l : List Nat} {m : Nat} (h : ∀ k ∈ l, k < m) : numA m l = some m := by
  induction l with
  | nil => rfl
  | cons k l ih =>
    rw [numA, if_pos (h k List.mem_cons_self)]
    exact ih fun x hx => h x (List.mem_cons_of_mem _ hx)
/-! automata as lists of nodes -/
def ndL (D : List (Bool × List (UInt8 × Nat))) (k : Nat) : Bool × List (UInt8 × Nat) := (D[k]?).getD (false, [])
/-- An automaton that is numbered as it is met. -/
structure GoodN (F : Nat) (D : List (Bool × List (UInt8 × Nat))) : Prop where
  good : GoodA (ndL D) F 0
  num : ddA [] (preA (ndL D) F 0) = List.range D.length
theorem idxOf_range {n k : Nat} (h : k < n) : (List.range n).idxOf k = k := by
  have h' : k < (List.range n).length := by simpa using h
  have := idxOf_get (List.nodup_range (n := n)) h'
  simpa using this
theorem GoodN.canon {F : Nat} {D : List (Bool × List (UInt8 × Nat))} (h : GoodN F D) : D = canonA F (langA (ndL D) F 0) := by
  rw [← h.good.canon, h.num]
  unfold renA
  apply List.ext_getElem?
  intro i
  rw [List.getElem?_map]
  by_cases hi : i < D.length
  · rw [List.getElem?_range hi]
    have hm : i ∈ preA (ndL D) F 0 := by
      have : i ∈ ddA [] (preA (ndL D) F 0) := by rw [h.num]; exact List.mem_range.2 hi
      simpa using mem_ddA.1 this
    have e : ndL D i = D[i] := by simp [ndL, List.getElem?_eq_getElem hi]
    rw [List.getElem?_eq_getElem hi]
    simp only [Option.map_some, Option.some.injEq]
    rw [e]
    refine Prod.ext rfl ?_
    show D[i].2 = D[i].2.map _
    rw [← e]
    have : ∀ x ∈ (ndL D i).2, (x.1, (List.range D.length).idxOf x.2) = x := fun x hx => by
      have hx' := preA_next (ndL D) h.good.short hm x hx
      have hlt : x.2 < D.length := by
        have : x.2 ∈ ddA [] (preA (ndL D) F 0) := mem_ddA.2 (.inr hx')
        rw [h.num] at this
        exact List.mem_range.1 this
      rw [idxOf_range hlt]
    exact ((List.map_congr_left this).trans (List.map_id' _)).symm
  · have h1 : D[i]? = none := List.getElem?_eq_none (by omega)
    have h2 : (List.range D.length)[i]? = none := List.getElem?_eq_none (by simp; omega)
    rw [h1, h2]; rfl
/-- A good automaton, numbered. -/
theorem GoodA.num {σ : Type} [DecidableEq σ] {nd : σ → Bool × List (UInt8 × σ)} {F : Nat} {r : σ} (h : GoodA nd F r) :
    GoodN F (renA nd (ddA [] (preA nd F r))) ∧ langA (ndL (renA nd (ddA [] (preA nd F r)))) F 0 = langA nd F r := by
  have hK : ∀ k, k ∈ ddA [] (preA nd F r) ↔ k ∈ preA nd F r := fun k => by rw [mem_ddA]; simp
  have hnd : (ddA [] (preA nd F r)).Nodup := ddA_nodup _ List.nodup_nil
  generalize hKe : ddA [] (preA nd F r) = K at hK hnd
  have h0 : K.idxOf r = 0 := by
    obtain ⟨n, rfl⟩ : ∃ n, F = n + 1 := by
      cases F with
      | zero => exact h.short.elim
      | succ n => exact ⟨n, rfl⟩
    rw [← hKe, preA, ddA, if_neg (by simp)]
    obtain ⟨t, ht⟩ := ddA_pre ([] ++ [r]) ((nd r).2.flatMap fun e => preA nd n e.2)
    rw [ht]
    simp
  have hat : ∀ k ∈ K, ndL (renA nd K) (K.idxOf k) = ((nd k).1, (nd k).2.map fun e => (e.1, K.idxOf e.2)) := fun k hk => by
    have hlt : K.idxOf k < K.length := List.idxOf_lt_length_of_mem hk
    unfold ndL renA
    rw [List.getElem?_map, List.getElem?_eq_getElem hlt]
    simp [List.getElem_idxOf hlt]
  have hmor : ∀ j ∈ preA nd F r, ndL (renA nd K) (K.idxOf j) = ((nd j).1, (nd j).2.map fun e => (e.1, K.idxOf e.2)) := fun j hj => hat j ((hK j).2 hj)
  have hpre := preA_map nd (ndL (renA nd K)) (K.idxOf ·) F r hmor
  have hlang := langA_map nd (ndL (renA nd K)) (K.idxOf ·) F r hmor
  have hsh := shortA_map nd (ndL (renA nd K)) (K.idxOf ·) F r hmor h.short
  simp only [h0] at hpre hlang hsh
  have hinj : ∀ x ∈ K, ∀ y ∈ K, K.idxOf x = K.idxOf y → x = y := fun x hx y hy e => by
    have h1 := List.getElem_idxOf (List.idxOf_lt_length_of_mem hx)
    have h2 := List.getElem_idxOf (List.idxOf_lt_length_of_mem hy)
    rw [← h1, ← h2]
    simp only [e]
  refine ⟨⟨⟨hsh, ?_, ?_, ?_⟩, ?_⟩, hlang⟩
  · intro k hk
    rw [hpre] at hk
    obtain ⟨j, hj, rfl⟩ := List.mem_map.1 hk
    rw [hmor j hj]
    exact apartG_map (K.idxOf ·) (nd j).2 (h.apart j hj)
  · intro k hk e he
    rw [hpre] at hk
    obtain ⟨j, hj, rfl⟩ := List.mem_map.1 hk
    rw [hmor j hj] at he
    obtain ⟨e0, he0, rfl⟩ := List.mem_map.1 he
    have hn := preA_next nd h.short hj e0 he0
    have := langA_map nd (ndL (renA nd K)) (K.idxOf ·) F e0.2 fun i hi => hmor i (preA_sub nd h.short hn hi)
    simp only at this ⊢
    rw [this]
    exact h.use j hj e0 he0
  · intro k hk j hj e
    rw [hpre] at hk hj
    obtain ⟨k1, hk1, rfl⟩ := List.mem_map.1 hk
    obtain ⟨j1, hj1, rfl⟩ := List.mem_map.1 hj
    rw [hmor k1 hk1, hmor j1 hj1, Prod.mk.injEq] at e
    have : k1 = j1 := by
      refine h.inj k1 hk1 j1 hj1 (Prod.ext e.1 (list_inj_on (fun x hx y hy exy => ?_) e.2))
      rw [Prod.mk.injEq] at exy
      exact Prod.ext exy.1 (hinj x.2 ((hK _).2 (preA_next nd h.short hk1 x hx)) y.2 ((hK _).2 (preA_next nd h.short hj1 y hy)) exy.2)
    rw [this]
  · rw [hpre]
    have := ddA_map (K.idxOf ·) [] (preA nd F r) fun x y hx hy e => hinj x ((hK x).2 (by simpa using hx)) y ((hK y).2 (by simpa using hy)) e
    rw [List.map_nil] at this
    rw [this, hKe]
    have hl : (renA nd K).length = K.length := by simp [renA]
    rw [hl]
    apply List.ext_getElem
    · simp
    · intro i h1 h2
      rw [List.getElem_map, List.getElem_range]
      exact idxOf_get hnd (by simpa using h1)

end Go.Proofs.YtdaoecpkgobelaaDoor
