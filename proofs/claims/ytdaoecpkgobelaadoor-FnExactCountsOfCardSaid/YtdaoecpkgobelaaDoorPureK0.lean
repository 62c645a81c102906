/- Automata: states met, words, the tree of a list, the automaton of a list. -/
import Derived.Test.YtdaoecpkgobelaaDoorPureA
namespace Go.Proofs.YtdaoecpkgobelaaDoor
open Go Go.RowKit
set_option linter.unusedSimpArgs false
set_option linter.unusedVariables false

/-! first occurrences -/
section
variable {α β : Type} [DecidableEq α] [DecidableEq β]
def ddA (acc : List α) : List α → List α
  | [] => acc
  | x :: l => if x ∈ acc then ddA acc l else ddA (acc ++ [x]) l
theorem ddA_append (acc l l' : List α) : ddA acc (l ++ l') = ddA (ddA acc l) l' := by
  induction l generalizing acc with
  | nil => rfl
  | cons x l ih =>
    simp only [List.cons_append, ddA]
    split
    · exact ih _
    · exact ih _
theorem ddA_pre (acc l : List α) : ∃ t, ddA acc l = acc ++ t := by
  induction l generalizing acc with
  | nil => exact ⟨[], by simp [ddA]⟩
  | cons x l ih =>
    simp only [ddA]
    split
    · exact ih _
    · obtain ⟨t, ht⟩ := ih (acc ++ [x])
      exact ⟨x :: t, by rw [ht]; simp⟩
theorem mem_ddA {acc l : List α} {x : α} : x ∈ ddA acc l ↔ x ∈ acc ∨ x ∈ l := by
  induction l generalizing acc with
  | nil => simp [ddA]
  | cons y l ih =>
    simp only [ddA]
    split
    · rename_i h
      rw [ih]
      constructor
      · rintro (h1 | h1)
        · exact .inl h1
        · exact .inr (List.mem_cons_of_mem _ h1)
      · rintro (h1 | h1)
        · exact .inl h1
        · rcases List.mem_cons.1 h1 with rfl | h1
          · exact .inl h
          · exact .inr h1
    · rw [ih, List.mem_append, List.mem_singleton, List.mem_cons, or_assoc]
theorem ddA_nodup {acc : List α} (l : List α) (h : acc.Nodup) : (ddA acc l).Nodup := by
  induction l generalizing acc with
  | nil => exact h
  | cons y l ih =>
    simp only [ddA]
    split
    · exact ih h
    · rename_i hn
      refine ih ?_
      rw [List.nodup_append]
      refine ⟨h, by simp, ?_⟩
      intro a ha b hb
      rw [List.mem_singleton] at hb
      subst hb
      rintro rfl
      exact hn ha
theorem ddA_all {acc l : List α} (h : ∀ x ∈ l, x ∈ acc) : ddA acc l = acc := by
  induction l with
  | nil => rfl
  | cons y l ih =>
    simp only [ddA]
    rw [if_pos (h y List.mem_cons_self)]
    exact ih fun x hx => h x (List.mem_cons_of_mem _ hx)
theorem ddA_map (f : α → β) (acc l : List α) (hf : ∀ x y, (x ∈ acc ∨ x ∈ l) → (y ∈ acc ∨ y ∈ l) → f x = f y → x = y) : ddA (acc.map f) (l.map f) = (ddA acc l).map f := by
  induction l generalizing acc with
  | nil => rfl
  | cons x l ih =>
    simp only [List.map_cons, ddA]
    have e : (f x ∈ acc.map f) ↔ x ∈ acc := by
      rw [List.mem_map]
      constructor
      · rintro ⟨y, hy, hxy⟩
        have := hf y x (.inl hy) (.inr List.mem_cons_self) hxy
        exact this ▸ hy
      · intro h; exact ⟨x, h, rfl⟩
    by_cases h : x ∈ acc
    · rw [if_pos (e.2 h), if_pos h]
      exact ih acc fun a b ha hb => hf a b (ha.imp id (List.mem_cons_of_mem _)) (hb.imp id (List.mem_cons_of_mem _))
    · rw [if_neg (fun h' => h (e.1 h')), if_neg h]
      have := ih (acc ++ [x]) fun a b ha hb => by
        have up : ∀ a, (a ∈ acc ++ [x] ∨ a ∈ l) → (a ∈ acc ∨ a ∈ x :: l) := by
          intro a ha
          rcases ha with ha | ha
          · rcases List.mem_append.1 ha with ha | ha
            · exact .inl ha
            · rw [List.mem_singleton] at ha; subst ha; exact .inr List.mem_cons_self
          · exact .inr (List.mem_cons_of_mem _ ha)
        exact hf a b (up a ha) (up b hb)
      rw [List.map_append] at this
      exact this
theorem idxOf_map {f : α → β} : ∀ {l : List α} {x : α}, x ∈ l → (∀ y ∈ l, f y = f x → y = x) → (l.map f).idxOf (f x) = l.idxOf x
  | [], x, h, _ => by cases h
  | y :: l, x, h, hf => by
    rw [List.map_cons, List.idxOf_cons, List.idxOf_cons]
    by_cases e : y = x
    · subst e; simp
    · have e' : ¬ f y = f x := fun h' => e (hf y List.mem_cons_self h')
      have b1 : (f y == f x) = false := by simpa using e'
      have b2 : (y == x) = false := by simpa using e
      rw [b1, b2]
      simp only [cond_false]
      rw [idxOf_map ((List.mem_cons.1 h).resolve_left (fun h' => e h'.symm)) fun z hz => hf z (List.mem_cons_of_mem _ hz)]
theorem idxOf_get {l : List α} (hn : l.Nodup) {i : Nat} (h : i < l.length) : l.idxOf l[i] = i := by
  induction l generalizing i with
  | nil => cases h
  | cons y l ih =>
    rw [List.nodup_cons] at hn
    cases i with
    | zero => simp
    | succ i =>
      have hi : i < l.length := by simpa using h
      rw [List.getElem_cons_succ, List.idxOf_cons]
      have : ¬ y = l[i] := fun e => hn.1 (e ▸ List.getElem_mem hi)
      have b : (y == l[i]) = false := by simpa using this
      rw [b]
      simp only [cond_false]
      rw [ih hn.2 hi]
end
section
variable {σ τ : Type} (nd : σ → Bool × List (UInt8 × σ)) (nd' : τ → Bool × List (UInt8 × τ))
/-- The words from a state on, by paths of fewer than so many letters. -/
def langA : Nat → σ → List Str
  | 0, _ => []
  | n + 1, k => (if (nd k).1 then [[]] else []) ++ (nd k).2.flatMap fun e => (langA n e.2).map (e.1 :: ·)
/-- The states as they are met. -/
def preA : Nat → σ → List σ
  | 0, _ => []
  | n + 1, k => k :: (nd k).2.flatMap fun e => preA n e.2
/-- All paths are shorter. -/
def shortA : Nat → σ → Prop
  | 0, _ => False
  | n + 1, k => ∀ e ∈ (nd k).2, shortA n e.2
theorem shortA_mono : ∀ {n m : Nat} {k : σ}, n ≤ m → shortA nd n k → shortA nd m k
  | 0, _, _, _, h => h.elim
  | n + 1, 0, _, hle, _ => absurd hle (by omega)
  | n + 1, m + 1, k, hle, h => fun e he => shortA_mono (by omega) (h e he)
theorem langA_fuel : ∀ {n m : Nat} {k : σ}, n ≤ m → shortA nd n k → langA nd m k = langA nd n k
  | 0, _, _, _, h => h.elim
  | n + 1, 0, _, hle, _ => absurd hle (by omega)
  | n + 1, m + 1, k, hle, h => by
    simp only [langA]
    congr 1
    rw [List.flatMap_def, List.flatMap_def]
    congr 1
    exact List.map_congr_left fun e he => by rw [langA_fuel (by omega) (h e he)]
theorem preA_self {n : Nat} {k : σ} (h : shortA nd n k) : k ∈ preA nd n k := by
  cases n with
  | zero => exact h.elim
  | succ n => exact List.mem_cons_self
theorem preA_short : ∀ {n : Nat} {k j : σ}, shortA nd n k → j ∈ preA nd n k → shortA nd n j
  | 0, _, _, h, _ => h.elim
  | n + 1, k, j, h, hj => by
    rcases List.mem_cons.1 hj with rfl | hj
    · exact h
    · obtain ⟨e, he, hj⟩ := List.mem_flatMap.1 hj
      exact shortA_mono nd (Nat.le_succ n) (preA_short (h e he) hj)
theorem preA_next : ∀ {n : Nat} {k j : σ}, shortA nd n k → j ∈ preA nd n k → ∀ e ∈ (nd j).2, e.2 ∈ preA nd n k
  | 0, _, _, h, _ => h.elim
  | n + 1, k, j, h, hj => fun e he => by
    rcases List.mem_cons.1 hj with rfl | hj
    · exact List.mem_cons_of_mem _ (List.mem_flatMap.2 ⟨e, he, preA_self nd (h e he)⟩)
    · obtain ⟨e0, he0, hj⟩ := List.mem_flatMap.1 hj
      exact List.mem_cons_of_mem _ (List.mem_flatMap.2 ⟨e0, he0, preA_next (h e0 he0) hj e he⟩)
theorem preA_sub : ∀ {n m : Nat} {k j i : σ}, shortA nd n k → j ∈ preA nd n k → i ∈ preA nd m j → i ∈ preA nd n k
  | n, 0, _, _, _, _, _, hi => by cases hi
  | n, m + 1, k, j, i, h, hj, hi => by
    rcases List.mem_cons.1 hi with rfl | hi
    · exact hj
    · obtain ⟨e, he, hi⟩ := List.mem_flatMap.1 hi
      exact preA_sub h (preA_next nd h hj e he) hi
/-- A map of states that keeps the edges. -/
theorem preA_map (f : σ → τ) : ∀ (n : Nat) (k : σ), (∀ j ∈ preA nd n k, nd' (f j) = ((nd j).1, (nd j).2.map fun e => (e.1, f e.2))) → preA nd' n (f k) = (preA nd n k).map f
  | 0, _, _ => rfl
  | n + 1, k, h => by
    have hk := h k List.mem_cons_self
    simp only [preA]
    rw [hk, List.map_cons, List.flatMap_map, List.map_flatMap]
    congr 1
    rw [List.flatMap_def, List.flatMap_def]
    congr 1
    exact List.map_congr_left fun e he => preA_map f n e.2 fun j hj => h j (List.mem_cons_of_mem _ (List.mem_flatMap.2 ⟨e, he, hj⟩))
theorem langA_map (f : σ → τ) : ∀ (n : Nat) (k : σ), (∀ j ∈ preA nd n k, nd' (f j) = ((nd j).1, (nd j).2.map fun e => (e.1, f e.2))) → langA nd' n (f k) = langA nd n k
  | 0, _, _ => rfl
  | n + 1, k, h => by
    have hk := h k List.mem_cons_self
    simp only [langA]
    rw [hk, List.flatMap_map]
    congr 1
    rw [List.flatMap_def, List.flatMap_def]
    congr 1
    exact List.map_congr_left fun e he => by
      show (langA nd' n (f e.2)).map _ = _
      rw [langA_map f n e.2 fun j hj => h j (List.mem_cons_of_mem _ (List.mem_flatMap.2 ⟨e, he, hj⟩))]
theorem shortA_map (f : σ → τ) : ∀ (n : Nat) (k : σ), (∀ j ∈ preA nd n k, nd' (f j) = ((nd j).1, (nd j).2.map fun e => (e.1, f e.2))) → shortA nd n k → shortA nd' n (f k)
  | 0, _, _, h => h.elim
  | n + 1, k, h, hs => by
    have hk := h k List.mem_cons_self
    intro e he
    rw [hk] at he
    obtain ⟨e0, he0, rfl⟩ := List.mem_map.1 he
    exact shortA_map f n e0.2 (fun j hj => h j (List.mem_cons_of_mem _ (List.mem_flatMap.2 ⟨e0, he0, hj⟩))) (hs e0 he0)
end
/-! the tree of a list of words -/
def grpA : List Str → List (UInt8 × List Str)
  | [] => []
  | [] :: R => grpA R
  | (c :: t) :: R => match grpA R with
    | [] => [(c, [t])]
    | (d, T) :: G => if c = d then (c, t :: T) :: G else (c, [t]) :: (d, T) :: G
def hasE : List Str → Bool
  | [] :: _ => true
  | _ => false
def ndT (R : List Str) : Bool × List (UInt8 × List Str) := (hasE R, grpA R)
def flatG (G : List (UInt8 × List Str)) : List Str := G.flatMap fun e => e.2.map (e.1 :: ·)
/-- Neighbours have other letters. -/
def apartG {α : Type} : List (UInt8 × α) → Prop
  | [] => True
  | [_] => True
  | (c, _) :: (d, y) :: G => c ≠ d ∧ apartG ((d, y) :: G)
theorem grpA_one (c : UInt8) (G : List (UInt8 × List Str)) (R : List Str) (hR : grpA R = G) (hne : ∀ d T G', G = (d, T) :: G' → c ≠ d) : ∀ (T : List Str), T ≠ [] → grpA (T.map (c :: ·) ++ R) = (c, T) :: G
  | [], h => absurd rfl h
  | [t], _ => by
    show grpA ((c :: t) :: R) = _
    simp only [grpA, hR]
    cases G with
    | nil => rfl
    | cons g G =>
      obtain ⟨d, T⟩ := g
      simp only
      rw [if_neg (hne d T G rfl)]
  | t :: u :: T, _ => by
    have ih := grpA_one c G R hR hne (u :: T) (by simp)
    show grpA ((c :: t) :: ((u :: T).map (c :: ·) ++ R)) = _
    rw [grpA, ih]
    simp
theorem grpA_flat : ∀ (G : List (UInt8 × List Str)), apartG G → (∀ e ∈ G, e.2 ≠ []) → grpA (flatG G) = G
  | [], _, _ => rfl
  | (c, T) :: G, hA, hN => by
    have hA' : apartG G := by
      cases G with
      | nil => trivial
      | cons g G => exact hA.2
    have ih := grpA_flat G hA' fun e he => hN e (List.mem_cons_of_mem _ he)
    show grpA (T.map (c :: ·) ++ flatG G) = _
    refine grpA_one c G _ ih (fun d T' G' e => ?_) T (hN _ List.mem_cons_self)
    subst e
    exact hA.1
theorem hasE_flat (b : Bool) (G : List (UInt8 × List Str)) : hasE ((if b then [[]] else []) ++ flatG G) = b := by
  cases b with
  | true => rfl
  | false =>
    show hasE (flatG G) = false
    induction G with
    | nil => rfl
    | cons e G ih =>
      obtain ⟨c, T⟩ := e
      cases T with
      | nil => exact ih
      | cons t T => rfl
theorem grpA_flat' (b : Bool) (G : List (UInt8 × List Str)) (hA : apartG G) (hN : ∀ e ∈ G, e.2 ≠ []) : grpA ((if b then [[]] else []) ++ flatG G) = G := by
  cases b
  · exact grpA_flat G hA hN
  · show grpA ([] :: flatG G) = G
    rw [grpA]; exact grpA_flat G hA hN
theorem apartG_map {α β : Type} (f : α → β) : ∀ (G : List (UInt8 × α)), apartG G → apartG (G.map fun e => (e.1, f e.2))
  | [], _ => trivial
  | [_], _ => trivial
  | _ :: _ :: G, h => ⟨h.1, apartG_map f _ h.2⟩
section
variable {σ : Type} (nd : σ → Bool × List (UInt8 × σ))
/-- An automaton with a root: short paths, letters apart, words behind each edge, no two states alike. -/
structure GoodA (F : Nat) (r : σ) : Prop where
  short : shortA nd F r
  apart : ∀ k ∈ preA nd F r, apartG (nd k).2
  use : ∀ k ∈ preA nd F r, ∀ e ∈ (nd k).2, langA nd F e.2 ≠ []
  inj : ∀ k ∈ preA nd F r, ∀ j ∈ preA nd F r, nd k = nd j → k = j
variable {nd}
theorem GoodA.tree {F : Nat} {r : σ} (h : GoodA nd F r) {k : σ} (hk : k ∈ preA nd F r) : ndT (langA nd F k) = ((nd k).1, (nd k).2.map fun e => (e.1, langA nd F e.2)) := by
  have hs := preA_short nd h.short hk
  obtain ⟨n, rfl⟩ : ∃ n, F = n + 1 := by
    cases F with
    | zero => exact hs.elim
    | succ n => exact ⟨n, rfl⟩
  have e : langA nd (n + 1) k = (if (nd k).1 then [[]] else []) ++ flatG ((nd k).2.map fun e => (e.1, langA nd (n + 1) e.2)) := by
    rw [langA]
    congr 1
    unfold flatG
    rw [List.flatMap_map, List.flatMap_def, List.flatMap_def]
    congr 1
    exact List.map_congr_left fun e he => by rw [langA_fuel nd (Nat.le_succ n) (hs e he)]
  unfold ndT
  rw [e, hasE_flat, grpA_flat']
  · exact apartG_map _ _ (h.apart k hk)
  · intro e he
    obtain ⟨e0, he0, rfl⟩ := List.mem_map.1 he
    exact h.use k hk e0 he0
theorem list_inj_on {α β : Type} {f : α → β} : ∀ {l m : List α}, (∀ x ∈ l, ∀ y ∈ m, f x = f y → x = y) → l.map f = m.map f → l = m
  | [], [], _, _ => rfl
  | [], _ :: _, _, h => by cases h
  | _ :: _, [], _, h => by cases h
  | x :: l, y :: m, hf, h => by
    rw [List.map_cons, List.map_cons, List.cons.injEq] at h
    rw [hf x List.mem_cons_self y List.mem_cons_self h.1, list_inj_on (fun a ha b hb => hf a (List.mem_cons_of_mem _ ha) b (List.mem_cons_of_mem _ hb)) h.2]
theorem GoodA.lang_inj {F : Nat} {r : σ} (h : GoodA nd F r) : ∀ (n : Nat) {k j : σ}, shortA nd n k → k ∈ preA nd F r → j ∈ preA nd F r → langA nd F k = langA nd F j → k = j
  | 0, _, _, hs, _, _, _ => hs.elim
  | n + 1, k, j, hs, hk, hj, e => by
    have e1 := h.tree hk
    rw [e, h.tree hj, Prod.mk.injEq] at e1
    refine h.inj k hk j hj (Prod.ext e1.1.symm ?_)
    refine list_inj_on (fun x hx y hy exy => ?_) e1.2.symm
    rw [Prod.mk.injEq] at exy
    exact Prod.ext exy.1 (h.lang_inj n (hs x hx) (preA_next nd h.short hk x hx) (preA_next nd h.short hj y hy) exy.2)
/-- The states in the order in which they are met, numbered. -/
def renA {σ : Type} [DecidableEq σ] (nd : σ → Bool × List (UInt8 × σ)) (K : List σ) : List (Bool × List (UInt8 × Nat)) := K.map fun k => ((nd k).1, (nd k).2.map fun e => (e.1, K.idxOf e.2))
/-- The automaton of a list. -/
def canonA (F : Nat) (R : List Str) : List (Bool × List (UInt8 × Nat)) := renA ndT (ddA [] (preA ndT F R))
theorem GoodA.canon [DecidableEq σ] {F : Nat} {r : σ} (h : GoodA nd F r) : renA nd (ddA [] (preA nd F r)) = canonA F (langA nd F r) := by
  have hm : preA ndT F (langA nd F r) = (preA nd F r).map (langA nd F) := preA_map nd ndT (langA nd F) F r fun j hj => h.tree hj
  have hinj : ∀ x ∈ preA nd F r, ∀ y ∈ preA nd F r, langA nd F x = langA nd F y → x = y := fun x hx y hy e => h.lang_inj F (preA_short nd h.short hx) hx hy e
  have hd : ddA [] (preA ndT F (langA nd F r)) = (ddA [] (preA nd F r)).map (langA nd F) := by
    rw [hm]
    exact ddA_map (langA nd F) [] _ fun x y hx hy e => hinj x (by simpa using hx) y (by simpa using hy) e
  unfold canonA renA
  rw [hd, List.map_map]
  refine List.map_congr_left fun k hk => ?_
  have hk' : k ∈ preA nd F r := by simpa using mem_ddA.1 hk
  simp only [Function.comp]
  rw [h.tree hk']
  simp only [List.map_map, Prod.mk.injEq, true_and]
  refine List.map_congr_left fun e he => ?_
  simp only [Function.comp, Prod.mk.injEq, true_and]
  have hn := preA_next nd h.short hk' e he
  rw [idxOf_map (f := langA nd F) (mem_ddA.2 (.inr hn)) fun y hy exy => hinj y (by simpa using mem_ddA.1 hy) e.2 hn exy]
end

end Go.Proofs.YtdaoecpkgobelaaDoor
