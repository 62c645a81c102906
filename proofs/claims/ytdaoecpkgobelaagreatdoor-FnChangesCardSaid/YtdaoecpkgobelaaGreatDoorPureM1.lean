/- PureK0, PureK1, PureK2, PureK3, PureK4, PureK5, PureK6, PureK7, PureK8 in one text. -/
import Derived.Test.YtdaoecpkgobelaaGreatDoorPureA
import Derived.Test.YtdaoecpkgobelaaGreatDoorPureN
import Derived.Test.YtdaoecpkgobelaaGreatDoorPureE
namespace Go.Proofs.YtdaoecpkgobelaaGreatDoor
open Go Go.RowKit
set_option linter.unusedSimpArgs false
set_option linter.unusedVariables false
set_option linter.unusedSectionVars false
section
/-! first occurrences -/
section
variable {α β : Type} [DecidableEq α] [DecidableEq β]
def ddA (acc : List α) : List α → List α
 | [] => acc
 | x :: l => if x ∈ acc then ddA acc l else ddA (acc ++ [x]) l
theorem ddA_append (acc l l' : List α) : ddA acc (l ++ l') = ddA (ddA acc l) l' := by
 induction l generalizing acc with
 | nil => rfl
 | cons x l ih =>
  simp only [List.cons_append, ddA]
  split
  ·exact ih _
  ·exact ih _
theorem ddA_pre (acc l : List α) : ∃ t, ddA acc l = acc ++ t := by
 induction l generalizing acc with
 | nil => exact ⟨[], by simp [ddA]⟩
 | cons x l ih =>
  simp only [ddA]
  split
  ·exact ih _
  ·obtain ⟨t, ht⟩ := ih (acc ++ [x])
   exact ⟨x :: t, by rw [ht]; simp⟩
theorem mem_ddA {acc l : List α} {x : α} : x ∈ ddA acc l ↔ x ∈ acc ∨ x ∈ l := by
 induction l generalizing acc with
 | nil => simp [ddA]
 | cons y l ih =>
  simp only [ddA]
  split
  ·rename_i h
   rw [ih]
   constructor
   ·rintro (h1 | h1)
    ·exact .inl h1
    ·exact .inr (List.mem_cons_of_mem _ h1)
   ·rintro (h1 | h1)
    ·exact .inl h1
    ·rcases List.mem_cons.1 h1 with rfl | h1
     ·exact .inl h
     ·exact .inr h1
  ·rw [ih, List.mem_append, List.mem_singleton, List.mem_cons, or_assoc]
theorem ddA_nodup {acc : List α} (l : List α) (h : acc.Nodup) : (ddA acc l).Nodup := by
 induction l generalizing acc with
 | nil => exact h
 | cons y l ih =>
  simp only [ddA]
  split
  ·exact ih h
  ·rename_i hn
   refine ih ?_
   rw [List.nodup_append]
   refine ⟨h, by simp, ?_⟩
   intro a ha b hb
   rw [List.mem_singleton] at hb
   subst hb
   rintro rfl
   exact hn ha
theorem ddA_all {acc l : List α} (h : ∀ x ∈ l, x ∈ acc) : ddA acc l = acc := by
 induction l with
 | nil => rfl
 | cons y l ih =>
  simp only [ddA]
  rw [if_pos (h y List.mem_cons_self)]
  exact ih fun x hx => h x (List.mem_cons_of_mem _ hx)
theorem ddA_map (f : α → β) (acc l : List α) (hf : ∀ x y, (x ∈ acc ∨ x ∈ l) → (y ∈ acc ∨ y ∈ l) → f x = f y → x = y) : ddA (acc.map f) (l.map f) = (ddA acc l).map f := by
 induction l generalizing acc with
 | nil => rfl
 | cons x l ih =>
  simp only [List.map_cons, ddA]
  have e : (f x ∈ acc.map f) ↔ x ∈ acc := by
   rw [List.mem_map]
   constructor
   ·rintro ⟨y, hy, hxy⟩
    have := hf y x (.inl hy) (.inr List.mem_cons_self) hxy
    exact this ▸ hy
   ·intro h; exact ⟨x, h, rfl⟩
  by_cases h : x ∈ acc
  ·rw [if_pos (e.2 h), if_pos h]
   exact ih acc fun a b ha hb => hf a b (ha.imp id (List.mem_cons_of_mem _)) (hb.imp id (List.mem_cons_of_mem _))
  ·rw [if_neg (fun h' => h (e.1 h')), if_neg h]
   have := ih (acc ++ [x]) fun a b ha hb => by
    have up : ∀ a, (a ∈ acc ++ [x] ∨ a ∈ l) → (a ∈ acc ∨ a ∈ x :: l) := by
     intro a ha
     rcases ha with ha | ha
     ·rcases List.mem_append.1 ha with ha | ha
      ·exact .inl ha
      ·rw [List.mem_singleton] at ha; subst ha; exact .inr List.mem_cons_self
     ·exact .inr (List.mem_cons_of_mem _ ha)
    exact hf a b (up a ha) (up b hb)
   rw [List.map_append] at this
   exact this
theorem idxOf_map {f : α → β} : ∀ {l : List α} {x : α}, x ∈ l → (∀ y ∈ l, f y = f x → y = x) → (l.map f).idxOf (f x) = l.idxOf x
 | [], x, h, _ => by cases h
 | y :: l, x, h, hf => by
  rw [List.map_cons, List.idxOf_cons, List.idxOf_cons]
  by_cases e : y = x
  ·subst e; simp
  ·have e' : ¬ f y = f x := fun h' => e (hf y List.mem_cons_self h')
   have b1 : (f y == f x) = false := by simpa using e'
   have b2 : (y == x) = false := by simpa using e
   rw [b1, b2]
   simp only [cond_false]
   rw [idxOf_map ((List.mem_cons.1 h).resolve_left (fun h' => e h'.symm)) fun z hz => hf z (List.mem_cons_of_mem _ hz)]
theorem idxOf_get {l : List α} (hn : l.Nodup) {i : Nat} (h : i < l.length) : l.idxOf l[i] = i := by
 induction l generalizing i with
 | nil => cases h
 | cons y l ih =>
  rw [List.nodup_cons] at hn
  cases i with
  | zero => simp
  | succ i =>
   have hi : i < l.length := by simpa using h
   rw [List.getElem_cons_succ, List.idxOf_cons]
   have : ¬ y = l[i] := fun e => hn.1 (e ▸ List.getElem_mem hi)
   have b : (y == l[i]) = false := by simpa using this
   rw [b]
   simp only [cond_false]
   rw [ih hn.2 hi]
end
section
variable {σ τ : Type} (nd : σ → Bool × List (UInt8 × σ)) (nd' : τ → Bool × List (UInt8 × τ))
def langA : Nat → σ → List Str
 | 0, _ => []
 | n + 1, k => (if (nd k).1 then [[]] else []) ++ (nd k).2.flatMap fun e => (langA n e.2).map (e.1 :: ·)
def preA : Nat → σ → List σ
 | 0, _ => []
 | n + 1, k => k :: (nd k).2.flatMap fun e => preA n e.2
def shortA : Nat → σ → Prop
 | 0, _ => False
 | n + 1, k => ∀ e ∈ (nd k).2, shortA n e.2
theorem shortA_mono : ∀ {n m : Nat} {k : σ}, n ≤ m → shortA nd n k → shortA nd m k
 | 0, _, _, _, h => h.elim
 | n + 1, 0, _, hle, _ => absurd hle (by omega)
 | n + 1, m + 1, k, hle, h => fun e he => shortA_mono (by omega) (h e he)
theorem langA_fuel : ∀ {n m : Nat} {k : σ}, n ≤ m → shortA nd n k → langA nd m k = langA nd n k
 | 0, _, _, _, h => h.elim
 | n + 1, 0, _, hle, _ => absurd hle (by omega)
 | n + 1, m + 1, k, hle, h => by
  simp only [langA]
  congr 1
  rw [List.flatMap_def, List.flatMap_def]
  congr 1
  exact List.map_congr_left fun e he => by rw [langA_fuel (by omega) (h e he)]
theorem preA_self {n : Nat} {k : σ} (h : shortA nd n k) : k ∈ preA nd n k := by
 cases n with
 | zero => exact h.elim
 | succ n => exact List.mem_cons_self
theorem preA_short : ∀ {n : Nat} {k j : σ}, shortA nd n k → j ∈ preA nd n k → shortA nd n j
 | 0, _, _, h, _ => h.elim
 | n + 1, k, j, h, hj => by
  rcases List.mem_cons.1 hj with rfl | hj
  ·exact h
  ·obtain ⟨e, he, hj⟩ := List.mem_flatMap.1 hj
   exact shortA_mono nd (Nat.le_succ n) (preA_short (h e he) hj)
theorem preA_next : ∀ {n : Nat} {k j : σ}, shortA nd n k → j ∈ preA nd n k → ∀ e ∈ (nd j).2, e.2 ∈ preA nd n k
 | 0, _, _, h, _ => h.elim
 | n + 1, k, j, h, hj => fun e he => by
  rcases List.mem_cons.1 hj with rfl | hj
  ·exact List.mem_cons_of_mem _ (List.mem_flatMap.2 ⟨e, he, preA_self nd (h e he)⟩)
  ·obtain ⟨e0, he0, hj⟩ := List.mem_flatMap.1 hj
   exact List.mem_cons_of_mem _ (List.mem_flatMap.2 ⟨e0, he0, preA_next (h e0 he0) hj e he⟩)
theorem preA_sub : ∀ {n m : Nat} {k j i : σ}, shortA nd n k → j ∈ preA nd n k → i ∈ preA nd m j → i ∈ preA nd n k
 | n, 0, _, _, _, _, _, hi => by cases hi
 | n, m + 1, k, j, i, h, hj, hi => by
  rcases List.mem_cons.1 hi with rfl | hi
  ·exact hj
  ·obtain ⟨e, he, hi⟩ := List.mem_flatMap.1 hi
   exact preA_sub h (preA_next nd h hj e he) hi
theorem preA_map (f : σ → τ) : ∀ (n : Nat) (k : σ), (∀ j ∈ preA nd n k, nd' (f j) = ((nd j).1, (nd j).2.map fun e => (e.1, f e.2))) → preA nd' n (f k) = (preA nd n k).map f
 | 0, _, _ => rfl
 | n + 1, k, h => by
  have hk := h k List.mem_cons_self
  simp only [preA]
  rw [hk, List.map_cons, List.flatMap_map, List.map_flatMap]
  congr 1
  rw [List.flatMap_def, List.flatMap_def]
  congr 1
  exact List.map_congr_left fun e he => preA_map f n e.2 fun j hj => h j (List.mem_cons_of_mem _ (List.mem_flatMap.2 ⟨e, he, hj⟩))
theorem langA_map (f : σ → τ) : ∀ (n : Nat) (k : σ), (∀ j ∈ preA nd n k, nd' (f j) = ((nd j).1, (nd j).2.map fun e => (e.1, f e.2))) → langA nd' n (f k) = langA nd n k
 | 0, _, _ => rfl
 | n + 1, k, h => by
  have hk := h k List.mem_cons_self
  simp only [langA]
  rw [hk, List.flatMap_map]
  congr 1
  rw [List.flatMap_def, List.flatMap_def]
  congr 1
  exact List.map_congr_left fun e he => by
   show (langA nd' n (f e.2)).map _ = _
   rw [langA_map f n e.2 fun j hj => h j (List.mem_cons_of_mem _ (List.mem_flatMap.2 ⟨e, he, hj⟩))]
theorem shortA_map (f : σ → τ) : ∀ (n : Nat) (k : σ), (∀ j ∈ preA nd n k, nd' (f j) = ((nd j).1, (nd j).2.map fun e => (e.1, f e.2))) → shortA nd n k → shortA nd' n (f k)
 | 0, _, _, h => h.elim
 | n + 1, k, h, hs => by
  have hk := h k List.mem_cons_self
  intro e he
  rw [hk] at he
  obtain ⟨e0, he0, rfl⟩ := List.mem_map.1 he
  exact shortA_map f n e0.2 (fun j hj => h j (List.mem_cons_of_mem _ (List.mem_flatMap.2 ⟨e0, he0, hj⟩))) (hs e0 he0)
end
/-! the tree of a list of words -/
def grpA : List Str → List (UInt8 × List Str)
 | [] => []
 | [] :: R => grpA R
 | (c :: t) :: R => match grpA R with
  | [] => [(c, [t])]
  | (d, T) :: G => if c = d then (c, t :: T) :: G else (c, [t]) :: (d, T) :: G
def hasE : List Str → Bool
 | [] :: _ => true
 | _ => false
def ndT (R : List Str) : Bool × List (UInt8 × List Str) := (hasE R, grpA R)
def flatG (G : List (UInt8 × List Str)) : List Str := G.flatMap fun e => e.2.map (e.1 :: ·)
def apartG {α : Type} : List (UInt8 × α) → Prop
 | [] => True
 | [_] => True
 | (c, _) :: (d, y) :: G => c ≠ d ∧ apartG ((d, y) :: G)
theorem grpA_one (c : UInt8) (G : List (UInt8 × List Str)) (R : List Str) (hR : grpA R = G) (hne : ∀ d T G', G = (d, T) :: G' → c ≠ d) : ∀ (T : List Str), T ≠ [] → grpA (T.map (c :: ·) ++ R) = (c, T) :: G
 | [], h => absurd rfl h
 | [t], _ => by
  show grpA ((c :: t) :: R) = _
  simp only [grpA, hR]
  cases G with
  | nil => rfl
  | cons g G =>
   obtain ⟨d, T⟩ := g
   simp only
   rw [if_neg (hne d T G rfl)]
 | t :: u :: T, _ => by
  have ih := grpA_one c G R hR hne (u :: T) (by simp)
  show grpA ((c :: t) :: ((u :: T).map (c :: ·) ++ R)) = _
  rw [grpA, ih]
  simp
theorem grpA_flat : ∀ (G : List (UInt8 × List Str)), apartG G → (∀ e ∈ G, e.2 ≠ []) → grpA (flatG G) = G
 | [], _, _ => rfl
 | (c, T) :: G, hA, hN => by
  have hA' : apartG G := by
   cases G with
   | nil => trivial
   | cons g G => exact hA.2
  have ih := grpA_flat G hA' fun e he => hN e (List.mem_cons_of_mem _ he)
  show grpA (T.map (c :: ·) ++ flatG G) = _
  refine grpA_one c G _ ih (fun d T' G' e => ?_) T (hN _ List.mem_cons_self)
  subst e
  exact hA.1
theorem hasE_flat (b : Bool) (G : List (UInt8 × List Str)) : hasE ((if b then [[]] else []) ++ flatG G) = b := by
 cases b with
 | true => rfl
 | false =>
  show hasE (flatG G) = false
  induction G with
  | nil => rfl
  | cons e G ih =>
   obtain ⟨c, T⟩ := e
   cases T with
   | nil => exact ih
   | cons t T => rfl
theorem grpA_flat' (b : Bool) (G : List (UInt8 × List Str)) (hA : apartG G) (hN : ∀ e ∈ G, e.2 ≠ []) : grpA ((if b then [[]] else []) ++ flatG G) = G := by
 cases b
 ·exact grpA_flat G hA hN
 ·show grpA ([] :: flatG G) = G
  rw [grpA]; exact grpA_flat G hA hN
theorem apartG_map {α β : Type} (f : α → β) : ∀ (G : List (UInt8 × α)), apartG G → apartG (G.map fun e => (e.1, f e.2))
 | [], _ => trivial
 | [_], _ => trivial
 | _ :: _ :: G, h => ⟨h.1, apartG_map f _ h.2⟩
section
variable {σ : Type} (nd : σ → Bool × List (UInt8 × σ))
structure GoodA (F : Nat) (r : σ) : Prop where
 short : shortA nd F r
 apart : ∀ k ∈ preA nd F r, apartG (nd k).2
 use : ∀ k ∈ preA nd F r, ∀ e ∈ (nd k).2, langA nd F e.2 ≠ []
 inj : ∀ k ∈ preA nd F r, ∀ j ∈ preA nd F r, nd k = nd j → k = j
variable {nd}
theorem GoodA.tree {F : Nat} {r : σ} (h : GoodA nd F r) {k : σ} (hk : k ∈ preA nd F r) : ndT (langA nd F k) = ((nd k).1, (nd k).2.map fun e => (e.1, langA nd F e.2)) := by
 have hs := preA_short nd h.short hk
 obtain ⟨n, rfl⟩ : ∃ n, F = n + 1 := by
  cases F with
  | zero => exact hs.elim
  | succ n => exact ⟨n, rfl⟩
 have e : langA nd (n + 1) k = (if (nd k).1 then [[]] else []) ++ flatG ((nd k).2.map fun e => (e.1, langA nd (n + 1) e.2)) := by
  rw [langA]
  congr 1
  unfold flatG
  rw [List.flatMap_map, List.flatMap_def, List.flatMap_def]
  congr 1
  exact List.map_congr_left fun e he => by rw [langA_fuel nd (Nat.le_succ n) (hs e he)]
 unfold ndT
 rw [e, hasE_flat, grpA_flat']
 ·exact apartG_map _ _ (h.apart k hk)
 ·intro e he
  obtain ⟨e0, he0, rfl⟩ := List.mem_map.1 he
  exact h.use k hk e0 he0
theorem list_inj_on {α β : Type} {f : α → β} : ∀ {l m : List α}, (∀ x ∈ l, ∀ y ∈ m, f x = f y → x = y) → l.map f = m.map f → l = m
 | [], [], _, _ => rfl
 | [], _ :: _, _, h => by cases h
 | _ :: _, [], _, h => by cases h
 | x :: l, y :: m, hf, h => by
  rw [List.map_cons, List.map_cons, List.cons.injEq] at h
  rw [hf x List.mem_cons_self y List.mem_cons_self h.1, list_inj_on (fun a ha b hb => hf a (List.mem_cons_of_mem _ ha) b (List.mem_cons_of_mem _ hb)) h.2]
theorem GoodA.lang_inj {F : Nat} {r : σ} (h : GoodA nd F r) : ∀ (n : Nat) {k j : σ}, shortA nd n k → k ∈ preA nd F r → j ∈ preA nd F r → langA nd F k = langA nd F j → k = j
 | 0, _, _, hs, _, _, _ => hs.elim
 | n + 1, k, j, hs, hk, hj, e => by
  have e1 := h.tree hk
  rw [e, h.tree hj, Prod.mk.injEq] at e1
  refine h.inj k hk j hj (Prod.ext e1.1.symm ?_)
  refine list_inj_on (fun x hx y hy exy => ?_) e1.2.symm
  rw [Prod.mk.injEq] at exy
  exact Prod.ext exy.1 (h.lang_inj n (hs x hx) (preA_next nd h.short hk x hx) (preA_next nd h.short hj y hy) exy.2)
def renA {σ : Type} [DecidableEq σ] (nd : σ → Bool × List (UInt8 × σ)) (K : List σ) : List (Bool × List (UInt8 × Nat)) := K.map fun k => ((nd k).1, (nd k).2.map fun e => (e.1, K.idxOf e.2))
def canonA (F : Nat) (R : List Str) : List (Bool × List (UInt8 × Nat)) := renA ndT (ddA [] (preA ndT F R))
theorem GoodA.canon [DecidableEq σ] {F : Nat} {r : σ} (h : GoodA nd F r) : renA nd (ddA [] (preA nd F r)) = canonA F (langA nd F r) := by
 have hm : preA ndT F (langA nd F r) = (preA nd F r).map (langA nd F) := preA_map nd ndT (langA nd F) F r fun j hj => h.tree hj
 have hinj : ∀ x ∈ preA nd F r, ∀ y ∈ preA nd F r, langA nd F x = langA nd F y → x = y := fun x hx y hy e => h.lang_inj F (preA_short nd h.short hx) hx hy e
 have hd : ddA [] (preA ndT F (langA nd F r)) = (ddA [] (preA nd F r)).map (langA nd F) := by
  rw [hm]
  exact ddA_map (langA nd F) [] _ fun x y hx hy e => hinj x (by simpa using hx) y (by simpa using hy) e
 unfold canonA renA
 rw [hd, List.map_map]
 refine List.map_congr_left fun k hk => ?_
 have hk' : k ∈ preA nd F r := by simpa using mem_ddA.1 hk
 simp only [Function.comp]
 rw [h.tree hk']
 simp only [List.map_map, Prod.mk.injEq, true_and]
 refine List.map_congr_left fun e he => ?_
 simp only [Function.comp, Prod.mk.injEq, true_and]
 have hn := preA_next nd h.short hk' e he
 rw [idxOf_map (f := langA nd F) (mem_ddA.2 (.inr hn)) fun y hy exy => hinj y (by simpa using mem_ddA.1 hy) e.2 hn exy]
end
end
section
section
variable {σ : Type} (nd : σ → Bool × List (UInt8 × σ))
theorem preA_acyc : ∀ {n : Nat} {k : σ}, shortA nd n k → ∀ e ∈ (nd k).2, ∀ m, k ∉ preA nd m e.2
 | 0, _, h, _, _, _ => h.elim
 | n + 1, k, h, e, he, m => fun hk => by
  have hs := h e he
  have hk' : k ∈ preA nd n e.2 := preA_sub nd hs (preA_self nd hs) hk
  exact preA_acyc (preA_short nd hs hk') e he m hk
variable [DecidableEq σ]
def dfsA : Nat → σ → List σ → List σ
 | 0, _, K => K
 | n + 1, k, K => if k ∈ K then K else (nd k).2.foldl (fun K e => dfsA n e.2 K) (K ++ [k])
def DoneA (F : Nat) (k : σ) (K : List σ) : Prop := ∀ j ∈ K, j ∈ preA nd F k → ∀ m, ∀ i ∈ preA nd m j, i ∈ K
theorem DoneA.fold {F : Nat} : ∀ (es : List (UInt8 × σ)) (K : List σ), (∀ e ∈ es, shortA nd F e.2) → (∀ e ∈ es, DoneA nd F e.2 K) → (∀ e ∈ es, ∀ K, DoneA nd F e.2 K → dfsA nd F e.2 K = ddA K (preA nd F e.2)) →
  es.foldl (fun K e => dfsA nd F e.2 K) K = ddA K (es.flatMap fun e => preA nd F e.2)
 | [], K, _, _, _ => rfl
 | e :: es, K, hS, hD, hE => by
  rw [List.foldl_cons, hE e List.mem_cons_self K (hD e List.mem_cons_self), List.flatMap_cons, ddA_append]
  refine DoneA.fold es _ (fun x hx => hS x (List.mem_cons_of_mem _ hx)) (fun x hx j hj hjp m i hi => ?_) (fun x hx => hE x (List.mem_cons_of_mem _ hx))
  rw [mem_ddA] at hj ⊢
  rcases hj with hj | hj
  ·exact .inl (hD x (List.mem_cons_of_mem _ hx) j hj hjp m i hi)
  ·exact .inr (preA_sub nd (hS e List.mem_cons_self) hj hi)
theorem dfsA_eq : ∀ {n : Nat} {k : σ} {K : List σ}, shortA nd n k → DoneA nd n k K → dfsA nd n k K = ddA K (preA nd n k)
 | 0, _, _, h, _ => h.elim
 | n + 1, k, K, h, hD => by
  rw [dfsA]
  split
  ·rename_i hk
   exact (ddA_all fun x hx => hD k hk (preA_self nd h) (n + 1) x hx).symm
  ·rename_i hk
   rw [preA, ddA, if_neg hk]
   refine DoneA.fold nd _ _ h (fun e he j hj hjp m i hi => ?_) (fun e he K' hK' => dfsA_eq (h e he) hK')
   rcases List.mem_append.1 hj with hj | hj
   ·refine List.mem_append_left _ (hD j hj ?_ m i hi)
    rw [preA]
    exact List.mem_cons_of_mem _ (List.mem_flatMap.2 ⟨e, he, hjp⟩)
   ·rw [List.mem_singleton] at hj
    subst hj
    exact absurd hjp (preA_acyc nd h e he n)
end
/-! numbered as they are met -/
theorem range_snoc (m : Nat) : List.range (m + 1) = List.range m ++ [m] := List.range_succ
def numA : Nat → List Nat → Option Nat
 | m, [] => some m
 | m, k :: l => if k < m then numA m l else if k = m then numA (m + 1) l else none
theorem numA_dd : ∀ {l : List Nat} {m n : Nat}, numA m l = some n → ddA (List.range m) l = List.range n
 | [], m, n, h => by cases h; rfl
 | k :: l, m, n, h => by
  rw [numA] at h
  rw [ddA]
  split at h
  ·rename_i hk
   rw [if_pos (List.mem_range.2 hk)]
   exact numA_dd h
  ·rename_i hk
   rw [if_neg (fun hx => hk (List.mem_range.1 hx))]
   split at h
   ·rename_i he
    subst he
    rw [← range_snoc]
    exact numA_dd h
   ·cases h
theorem dd_numA : ∀ {l : List Nat} {m n : Nat}, ddA (List.range m) l = List.range n → numA m l = some n
 | [], m, n, h => by
  have : m = n := by have := congrArg List.length h; simpa [ddA] using this
  rw [numA, this]
 | k :: l, m, n, h => by
  rw [numA]
  rw [ddA] at h
  by_cases hk : k < m
  ·rw [if_pos (List.mem_range.2 hk)] at h
   rw [if_pos hk]; exact dd_numA h
  ·rw [if_neg (fun hx => hk (List.mem_range.1 hx))] at h
   rw [if_neg hk]
   obtain ⟨t, ht⟩ := ddA_pre (List.range m ++ [k]) l
   have e : (List.range n)[m]? = some k := by rw [← h, ht]; simp
   have hkm : k = m := by
    rw [List.getElem?_eq_some_iff] at e
    obtain ⟨h1, h2⟩ := e
    simpa using h2.symm
   rw [if_pos hkm]
   subst hkm
   rw [← range_snoc] at h
   exact dd_numA h
theorem numA_append {l l' : List Nat} {m : Nat} : numA m (l ++ l') = (numA m l).bind fun n => numA n l' := by
 induction l generalizing m with
 | nil => rfl
 | cons k l ih =>
  simp only [List.cons_append, numA]
  split
  ·exact ih
  ·split
   ·exact ih
   ·rfl
theorem numA_le : ∀ {l : List Nat} {m n : Nat}, numA m l = some n → m ≤ n
 | [], m, n, h => by cases h; exact Nat.le_refl _
 | k :: l, m, n, h => by
  rw [numA] at h
  split at h
  ·exact numA_le h
  ·split at h
   ·have := numA_le h; omega
   ·cases h
theorem numA_lt : ∀ {l : List Nat} {m n : Nat}, numA m l = some n → ∀ k ∈ l, k < n
 | [], m, n, h => fun k hk => by cases hk
 | j :: l, m, n, h => fun k hk => by
  rw [numA] at h
  split at h
  ·rename_i hj
   rcases List.mem_cons.1 hk with rfl | hk
   ·exact Nat.lt_of_lt_of_le hj (numA_le h)
   ·exact numA_lt h k hk
  ·split at h
   ·rename_i hj
    rcases List.mem_cons.1 hk with rfl | hk
    ·have := numA_le h; omega
    ·exact numA_lt h k hk
   ·cases h
theorem numA_all {l : List Nat} {m : Nat} (h : ∀ k ∈ l, k < m) : numA m l = some m := by
 induction l with
 | nil => rfl
 | cons k l ih =>
  rw [numA, if_pos (h k List.mem_cons_self)]
  exact ih fun x hx => h x (List.mem_cons_of_mem _ hx)
/-! automata as lists of nodes -/
def ndL (D : List (Bool × List (UInt8 × Nat))) (k : Nat) : Bool × List (UInt8 × Nat) := (D[k]?).getD (false, [])
structure GoodN (F : Nat) (D : List (Bool × List (UInt8 × Nat))) : Prop where
 good : GoodA (ndL D) F 0
 num : ddA [] (preA (ndL D) F 0) = List.range D.length
theorem idxOf_range {n k : Nat} (h : k < n) : (List.range n).idxOf k = k := by
 have h' : k < (List.range n).length := by simpa using h
 have := idxOf_get (List.nodup_range (n := n)) h'
 simpa using this
theorem GoodN.canon {F : Nat} {D : List (Bool × List (UInt8 × Nat))} (h : GoodN F D) : D = canonA F (langA (ndL D) F 0) := by
 rw [← h.good.canon, h.num]
 unfold renA
 apply List.ext_getElem?
 intro i
 rw [List.getElem?_map]
 by_cases hi : i < D.length
 ·rw [List.getElem?_range hi]
  have hm : i ∈ preA (ndL D) F 0 := by
   have : i ∈ ddA [] (preA (ndL D) F 0) := by rw [h.num]; exact List.mem_range.2 hi
   simpa using mem_ddA.1 this
  have e : ndL D i = D[i] := by simp [ndL, List.getElem?_eq_getElem hi]
  rw [List.getElem?_eq_getElem hi]
  simp only [Option.map_some, Option.some.injEq]
  rw [e]
  refine Prod.ext rfl ?_
  show D[i].2 = D[i].2.map _
  rw [← e]
  have : ∀ x ∈ (ndL D i).2, (x.1, (List.range D.length).idxOf x.2) = x := fun x hx => by
   have hx' := preA_next (ndL D) h.good.short hm x hx
   have hlt : x.2 < D.length := by
    have : x.2 ∈ ddA [] (preA (ndL D) F 0) := mem_ddA.2 (.inr hx')
    rw [h.num] at this
    exact List.mem_range.1 this
   rw [idxOf_range hlt]
  exact ((List.map_congr_left this).trans (List.map_id' _)).symm
 ·have h1 : D[i]? = none := List.getElem?_eq_none (by omega)
  have h2 : (List.range D.length)[i]? = none := List.getElem?_eq_none (by simp; omega)
  rw [h1, h2]; rfl
theorem GoodA.num {σ : Type} [DecidableEq σ] {nd : σ → Bool × List (UInt8 × σ)} {F : Nat} {r : σ} (h : GoodA nd F r) :
  GoodN F (renA nd (ddA [] (preA nd F r))) ∧ langA (ndL (renA nd (ddA [] (preA nd F r)))) F 0 = langA nd F r := by
 have hK : ∀ k, k ∈ ddA [] (preA nd F r) ↔ k ∈ preA nd F r := fun k => by rw [mem_ddA]; simp
 have hnd : (ddA [] (preA nd F r)).Nodup := ddA_nodup _ List.nodup_nil
 generalize hKe : ddA [] (preA nd F r) = K at hK hnd
 have h0 : K.idxOf r = 0 := by
  obtain ⟨n, rfl⟩ : ∃ n, F = n + 1 := by
   cases F with
   | zero => exact h.short.elim
   | succ n => exact ⟨n, rfl⟩
  rw [← hKe, preA, ddA, if_neg (by simp)]
  obtain ⟨t, ht⟩ := ddA_pre ([] ++ [r]) ((nd r).2.flatMap fun e => preA nd n e.2)
  rw [ht]
  simp
 have hat : ∀ k ∈ K, ndL (renA nd K) (K.idxOf k) = ((nd k).1, (nd k).2.map fun e => (e.1, K.idxOf e.2)) := fun k hk => by
  have hlt : K.idxOf k < K.length := List.idxOf_lt_length_of_mem hk
  unfold ndL renA
  rw [List.getElem?_map, List.getElem?_eq_getElem hlt]
  simp [List.getElem_idxOf hlt]
 have hmor : ∀ j ∈ preA nd F r, ndL (renA nd K) (K.idxOf j) = ((nd j).1, (nd j).2.map fun e => (e.1, K.idxOf e.2)) := fun j hj => hat j ((hK j).2 hj)
 have hpre := preA_map nd (ndL (renA nd K)) (K.idxOf ·) F r hmor
 have hlang := langA_map nd (ndL (renA nd K)) (K.idxOf ·) F r hmor
 have hsh := shortA_map nd (ndL (renA nd K)) (K.idxOf ·) F r hmor h.short
 simp only [h0] at hpre hlang hsh
 have hinj : ∀ x ∈ K, ∀ y ∈ K, K.idxOf x = K.idxOf y → x = y := fun x hx y hy e => by
  have h1 := List.getElem_idxOf (List.idxOf_lt_length_of_mem hx)
  have h2 := List.getElem_idxOf (List.idxOf_lt_length_of_mem hy)
  rw [← h1, ← h2]
  simp only [e]
 refine ⟨⟨⟨hsh, ?_, ?_, ?_⟩, ?_⟩, hlang⟩
 ·intro k hk
  rw [hpre] at hk
  obtain ⟨j, hj, rfl⟩ := List.mem_map.1 hk
  rw [hmor j hj]
  exact apartG_map (K.idxOf ·) (nd j).2 (h.apart j hj)
 ·intro k hk e he
  rw [hpre] at hk
  obtain ⟨j, hj, rfl⟩ := List.mem_map.1 hk
  rw [hmor j hj] at he
  obtain ⟨e0, he0, rfl⟩ := List.mem_map.1 he
  have hn := preA_next nd h.short hj e0 he0
  have := langA_map nd (ndL (renA nd K)) (K.idxOf ·) F e0.2 fun i hi => hmor i (preA_sub nd h.short hn hi)
  simp only at this ⊢
  rw [this]
  exact h.use j hj e0 he0
 ·intro k hk j hj e
  rw [hpre] at hk hj
  obtain ⟨k1, hk1, rfl⟩ := List.mem_map.1 hk
  obtain ⟨j1, hj1, rfl⟩ := List.mem_map.1 hj
  rw [hmor k1 hk1, hmor j1 hj1, Prod.mk.injEq] at e
  have : k1 = j1 := by
   refine h.inj k1 hk1 j1 hj1 (Prod.ext e.1 (list_inj_on (fun x hx y hy exy => ?_) e.2))
   rw [Prod.mk.injEq] at exy
   exact Prod.ext exy.1 (hinj x.2 ((hK _).2 (preA_next nd h.short hk1 x hx)) y.2 ((hK _).2 (preA_next nd h.short hj1 y hy)) exy.2)
  rw [this]
 ·rw [hpre]
  have := ddA_map (K.idxOf ·) [] (preA nd F r) fun x y hx hy e => hinj x ((hK x).2 (by simpa using hx)) y ((hK y).2 (by simpa using hy)) e
  rw [List.map_nil] at this
  rw [this, hKe]
  have hl : (renA nd K).length = K.length := by simp [renA]
  rw [hl]
  apply List.ext_getElem
  ·simp
  ·intro i h1 h2
   rw [List.getElem_map, List.getElem_range]
   exact idxOf_get hnd (by simpa using h1)
end
section
def formB (c : UInt8) : Bool := smB c || c == 62
def edgeB (n : Nat) (x : Node) (i : Nat) : Bool := formB ((x.Letters[i]?).getD 0) && (i == 0 || decide ((x.Letters[i - 1]?).getD 0 < (x.Letters[i]?).getD 0)) && inB ((x.Next[i]?).getD 0) 0 ((n : Int) - 1)
def nodeB (n : Nat) (x : Node) : Bool := x.Letters.length == x.Next.length && allI (edgeB n x) 0 x.Next.length
def shapeB (D : List Node) : Bool := decide (1 ≤ D.length) && decide (D.length ≤ 3000) && D.all (nodeB D.length)
theorem formByte_eq (c : UInt8) : m_impl_formByte c = some (formB c) := by
 unfold m_impl_formByte formB
 rw [bind_of (small_eq c)]
 cases smB c <;> rfl
theorem edge_step (n : Nat) (hn : n ≤ 3000) (x : Node) (d : Dawg) (hd : d.Nodes.length = n) (hl : x.Letters.length = x.Next.length) (hm : x.Next.length ≤ 1000000000) (i : Nat) (hi : i < x.Next.length) :
  m_impl_nodesOk_l2 x d (i : Int) = some (bif edgeB n x i then .inl ((i : Int) + 1) else .inr (.inr false)) := by
 have hi' : i < x.Letters.length := by omega
 have hz : chk ((d.Nodes.length : Int) - 1) = some ((n : Int) - 1) := chk_to _ (by rw [hd]) (by omega) (by omega)
 have hs : chk ((i : Int) + 1) = some ((i : Int) + 1) := chk_in (by omega) (by omega)
 unfold m_impl_nodesOk_l2 edgeB
 rw [hz, hs, decide_eq_true (show (i : Int) < (x.Next.length : Int) by omega)]
 rw [cond_true, bind_of (getL_at hi), bind_of (getL_at hi'), bind_of (formByte_eq _)]
 rw [List.getElem?_eq_getElem hi', List.getElem?_eq_getElem hi, Option.getD_some, Option.getD_some]
 have hz : ∀ {β : Type} (F : Int → Option β), (some ((n : Int) - 1)).bind F = F ((n : Int) - 1) := fun _ => rfl
 clear hs
 cases hf : formB x.Letters[i] with
 | false => simp
 | true =>
  simp only [Bool.not_true, cond_false, Bool.true_and]
  cases i with
  | zero =>
   rw [decide_eq_false (show ¬ (0 : Int) < ((0 : Nat) : Int) by omega), cond_false, hz, bind_of (within_eq _ _ _)]
   cases hb : inB x.Next[0] 0 ((n : Int) - 1) <;> rfl
  | succ i =>
   have hp : i < x.Letters.length := by omega
   rw [decide_eq_true (show (0 : Int) < ((i + 1 : Nat) : Int) by omega)]
   simp only [cond_true]
   rw [bind_of (show chk (((i + 1 : Nat) : Int) - 1) = some (i : Int) from chk_to _ (by omega) (by omega) (by omega)), bind_of (getL_at hp), bind_of (getL_at hi')]
   have h1 : (i + 1 == 0) = false := by simp
   rw [h1, show i + 1 - 1 = i from rfl, List.getElem?_eq_getElem hp]
   simp only [Option.getD_some, Bool.false_or]
   by_cases hle : x.Letters[i + 1] ≤ x.Letters[i]
   ·have hnl : ¬ x.Letters[i] < x.Letters[i + 1] := UInt8.not_lt.2 hle
    rw [decide_eq_true hle, decide_eq_false hnl]
    rfl
   ·have hnl : x.Letters[i] < x.Letters[i + 1] := UInt8.not_le.1 hle
    rw [decide_eq_false hle, decide_eq_true hnl]
    simp only [cond_false, Bool.true_and]
    rw [hz, bind_of (within_eq _ _ _)]
    cases hb : inB x.Next[i + 1] 0 ((n : Int) - 1) <;> rfl
theorem node_step (D : List Node) (d : Dawg) (hd : d.Nodes = D) (hn : D.length ≤ 3000) (hm : ∀ x ∈ D, x.Next.length ≤ 1000000000) (i : Nat) (hi : i < D.length) :
  m_impl_nodesOk_l1 d (i : Int) = some (bif ((D[i]?.map (nodeB D.length)).getD true) then .inl ((i : Int) + 1) else .inr (.inr false)) := by
 subst hd
 unfold m_impl_nodesOk_l1
 rw [show chk ((i : Int) + 1) = some ((i : Int) + 1) from chk_in (by omega) (by omega), decide_eq_true (show (i : Int) < (d.Nodes.length : Int) by omega)]
 rw [cond_true, bind_of (getL_at hi), List.getElem?_eq_getElem hi]
 simp only [Option.map_some, Option.getD_some]
 have hmx := hm d.Nodes[i] (List.getElem_mem hi)
 generalize d.Nodes[i] = x at hmx
 unfold nodeB
 by_cases hl : x.Letters.length = x.Next.length
 ·have h1 : ((x.Letters.length : Int) != (x.Next.length : Int)) = false := by simp [hl]
  have h2 : (x.Letters.length == x.Next.length) = true := by simpa using hl
  rw [h1, h2]
  simp only [cond_false, Bool.true_and]
  have := loop_all (edgeB d.Nodes.length x) x.Next.length (Sum.inl () : Unit ⊕ Bool) (.inr false) (fun i hi => edge_step d.Nodes.length hn x d rfl hl hmx i hi)
   (by unfold m_impl_nodesOk_l2; rw [decide_eq_false (by omega)]; rfl) x.Next.length 0 (by omega)
  rw [show ((0 : Nat) : Int) = 0 from rfl] at this
  rw [bind_of this]
  cases allI (edgeB d.Nodes.length x) 0 x.Next.length <;> rfl
 ·have h1 : ((x.Letters.length : Int) != (x.Next.length : Int)) = true := by rw [bne_iff_ne]; omega
  have h2 : (x.Letters.length == x.Next.length) = false := by simpa using hl
  rw [h1, h2]
  rfl
theorem nodesOk_eq (d : Dawg) (hm : ∀ x ∈ d.Nodes, x.Next.length ≤ 1000000000) : m_impl_nodesOk d = some (shapeB d.Nodes) := by
 unfold m_impl_nodesOk shapeB
 by_cases h1 : 1 ≤ d.Nodes.length
 ·rw [decide_eq_false (show ¬ (d.Nodes.length : Int) < 1 by omega), decide_eq_true h1]
  simp only [cond_false, Option.bind_some, Bool.true_and]
  by_cases h2 : d.Nodes.length ≤ 3000
  ·rw [decide_eq_false (show ¬ (3000 : Int) < (d.Nodes.length : Int) by omega), decide_eq_true h2]
   simp only [cond_false, Bool.true_and]
   have := loop_all (fun i => (d.Nodes[i]?.map (nodeB d.Nodes.length)).getD true) d.Nodes.length (Sum.inl () : Unit ⊕ Bool) (.inr false) (fun i hi => node_step d.Nodes d rfl h2 hm i hi)
    (by unfold m_impl_nodesOk_l1; rw [decide_eq_false (by omega)]; rfl) d.Nodes.length 0 (by omega)
   rw [show ((0 : Nat) : Int) = 0 from rfl, all_idx] at this
   rw [bind_of this]
   cases d.Nodes.all (nodeB d.Nodes.length) <;> rfl
  ·rw [decide_eq_true (show (3000 : Int) < (d.Nodes.length : Int) by omega), decide_eq_false h2]
   rfl
 ·rw [decide_eq_true (show (d.Nodes.length : Int) < 1 by omega), decide_eq_false h1]
  rfl
theorem edge_stepS (n : Nat) (hn : n ≤ 3000) (x : Node) (d : Dawg) (hd : d.Nodes.length = n) (hl : x.Letters.length = x.Next.length) (hm : x.Next.length ≤ 1000000000) (i : Nat) (hi : i < x.Next.length) :
  m_spec_l06Shape_l2 x d (i : Int) = some (bif edgeB n x i then .inl ((i : Int) + 1) else .inr (.inr false)) := by
 have hi' : i < x.Letters.length := by omega
 unfold m_spec_l06Shape_l2 edgeB
 have hz : chk ((d.Nodes.length : Int) - 1) = some ((n : Int) - 1) := chk_to _ (by rw [hd]) (by omega) (by omega)
 have hs : chk ((i : Int) + 1) = some ((i : Int) + 1) := chk_in (by omega) (by omega)
 rw [hs, decide_eq_true (show (i : Int) < (x.Next.length : Int) by omega), cond_true]
 rw [bind_of (getL_at hi), bind_of hz, bind_of (l00In_eq _ _ _)]
 rw [List.getElem?_eq_getElem hi', List.getElem?_eq_getElem hi]
 simp only [Option.getD_some]
 cases hb : inB x.Next[i] 0 ((n : Int) - 1) with
 | false => simp
 | true =>
  simp only [Bool.not_true, cond_false, Bool.and_true]
  rw [bind_of (getL_at hi')]
  -- the order of the letters
  have hord : (bif decide ((0 : Int) < (i : Int)) then
       (getL x.Letters (i : Int)).bind fun c99 =>
       (chk ((i : Int) - 1)).bind fun z101 =>
       (getL x.Letters z101).bind fun c103 =>
       some (decide (c99 ≤ c103))
      else
       some false : Option Bool) = some (!(i == 0 || decide ((x.Letters[i - 1]?).getD 0 < x.Letters[i]))) := by
   cases i with
   | zero => rfl
   | succ i =>
    have hp : i < x.Letters.length := by omega
    rw [decide_eq_true (show (0 : Int) < ((i + 1 : Nat) : Int) by omega)]
    simp only [cond_true]
    rw [bind_of (getL_at hi'), bind_of (show chk (((i + 1 : Nat) : Int) - 1) = some (i : Int) from chk_to _ (by omega) (by omega) (by omega)), bind_of (getL_at hp)]
    have h1 : (i + 1 == 0) = false := by simp
    rw [h1, show i + 1 - 1 = i from rfl, List.getElem?_eq_getElem hp]
    simp only [Option.getD_some, Bool.false_or, Option.some.injEq]
    by_cases hle : x.Letters[i + 1] ≤ x.Letters[i]
    ·rw [decide_eq_true hle, decide_eq_false (UInt8.not_lt.2 hle)]; rfl
    ·rw [decide_eq_false hle, decide_eq_true (UInt8.not_le.1 hle)]; rfl
  unfold formB
  cases h62 : x.Letters[i] != 62 with
  | true =>
   have h62' : (x.Letters[i] == 62) = false := by simpa using h62
   rw [h62']
   simp only [cond_true, Bool.or_false]
   rw [bind_of (getL_at hi'), bind_of (l01Small_eq _)]
   cases hsm : smB x.Letters[i] with
   | false => rfl
   | true =>
    simp only [Bool.not_true, cond_false, Bool.true_and]
    rw [bind_of hord]
    cases (i == 0 || decide ((x.Letters[i - 1]?).getD 0 < x.Letters[i]))
    ·rfl
    ·rfl
  | false =>
   have h62' : (x.Letters[i] == 62) = true := by simpa using h62
   rw [h62']
   simp only [cond_false, Bool.or_true, Bool.true_and]
   rw [bind_of hord]
   cases (i == 0 || decide ((x.Letters[i - 1]?).getD 0 < x.Letters[i]))
   ·rfl
   ·rfl
theorem node_stepS (D : List Node) (d : Dawg) (hd : d.Nodes = D) (hn : D.length ≤ 3000) (hm : ∀ x ∈ D, x.Next.length ≤ 1000000000) (i : Nat) (hi : i < D.length) :
  m_spec_l06Shape_l1 d (i : Int) = some (bif ((D[i]?.map (nodeB D.length)).getD true) then .inl ((i : Int) + 1) else .inr (.inr false)) := by
 subst hd
 unfold m_spec_l06Shape_l1
 rw [show chk ((i : Int) + 1) = some ((i : Int) + 1) from chk_in (by omega) (by omega), decide_eq_true (show (i : Int) < (d.Nodes.length : Int) by omega)]
 rw [cond_true, bind_of (getL_at hi), List.getElem?_eq_getElem hi]
 simp only [Option.map_some, Option.getD_some]
 have hmx := hm d.Nodes[i] (List.getElem_mem hi)
 generalize d.Nodes[i] = x at hmx
 unfold nodeB
 by_cases hl : x.Letters.length = x.Next.length
 ·have h1 : ((x.Letters.length : Int) != (x.Next.length : Int)) = false := by simp [hl]
  have h2 : (x.Letters.length == x.Next.length) = true := by simpa using hl
  rw [h1, h2]
  simp only [cond_false, Bool.true_and]
  have := loop_all (edgeB d.Nodes.length x) x.Next.length (Sum.inl () : Unit ⊕ Bool) (.inr false) (fun i hi => edge_stepS d.Nodes.length hn x d rfl hl hmx i hi)
   (by unfold m_spec_l06Shape_l2; rw [decide_eq_false (by omega)]; rfl) x.Next.length 0 (by omega)
  rw [show ((0 : Nat) : Int) = 0 from rfl] at this
  rw [bind_of this]
  cases allI (edgeB d.Nodes.length x) 0 x.Next.length <;> rfl
 ·have h1 : ((x.Letters.length : Int) != (x.Next.length : Int)) = true := by rw [bne_iff_ne]; omega
  have h2 : (x.Letters.length == x.Next.length) = false := by simpa using hl
  rw [h1, h2]
  rfl
theorem l06Shape_eq (d : Dawg) (hm : ∀ x ∈ d.Nodes, x.Next.length ≤ 1000000000) : m_spec_l06Shape d = some (shapeB d.Nodes) := by
 unfold m_spec_l06Shape shapeB
 rw [bind_of (l00In_eq _ _ _)]
 by_cases h1 : 1 ≤ d.Nodes.length
 ·by_cases h2 : d.Nodes.length ≤ 3000
  ·rw [show inB (d.Nodes.length : Int) 1 3000 = true from inB_iff.2 ⟨by omega, by omega⟩, decide_eq_true h1, decide_eq_true h2]
   simp only [Bool.not_true, cond_false, Bool.true_and]
   have := loop_all (fun i => (d.Nodes[i]?.map (nodeB d.Nodes.length)).getD true) d.Nodes.length (Sum.inl () : Unit ⊕ Bool) (.inr false) (fun i hi => node_stepS d.Nodes d rfl h2 hm i hi)
    (by unfold m_spec_l06Shape_l1; rw [decide_eq_false (by omega)]; rfl) d.Nodes.length 0 (by omega)
   rw [show ((0 : Nat) : Int) = 0 from rfl, all_idx] at this
   rw [bind_of this]
   cases d.Nodes.all (nodeB d.Nodes.length) <;> rfl
  ·have : inB (d.Nodes.length : Int) 1 3000 = false := by rw [← Bool.not_eq_true, inB_iff]; omega
   rw [this, decide_eq_false h2]
   simp
 ·have : inB (d.Nodes.length : Int) 1 3000 = false := by rw [← Bool.not_eq_true, inB_iff]; omega
  rw [this, decide_eq_false h1]
  rfl
end
section
def ndN (x : Node) : Bool × List (UInt8 × Nat) := (x.Final, x.Letters.zip (x.Next.map Int.toNat))
abbrev ndD (D : List Node) : Nat → Bool × List (UInt8 × Nat) := ndL (D.map ndN)
theorem ndD_at {D : List Node} {k : Nat} (h : k < D.length) : ndD D k = ndN D[k] := by
 show ((D.map ndN)[k]?).getD (false, []) = _
 rw [List.getElem?_map, List.getElem?_eq_getElem h]; rfl
theorem ndD_none {D : List Node} {k : Nat} (h : D.length ≤ k) : ndD D k = (false, []) := by
 show ((D.map ndN)[k]?).getD (false, []) = _
 rw [List.getElem?_map, List.getElem?_eq_none h]; rfl
structure NodeOk (n : Nat) (x : Node) : Prop where
 len : x.Letters.length = x.Next.length
 form : ∀ c ∈ x.Letters, formB c = true
 inc : ∀ i, (h : i + 1 < x.Letters.length) → x.Letters[i] < x.Letters[i + 1]
 next : ∀ t ∈ x.Next, 0 ≤ t ∧ t < (n : Int)
theorem nodeB_ok {n : Nat} {x : Node} (h : nodeB n x = true) : NodeOk n x := by
 unfold nodeB at h
 rw [Bool.and_eq_true, allI_iff, beq_iff_eq] at h
 obtain ⟨hl, h⟩ := h
 have key : ∀ i (hi : i < x.Letters.length) (hi' : i < x.Next.length), formB x.Letters[i] = true ∧ (i = 0 ∨ (x.Letters[i - 1]?).getD 0 < x.Letters[i]) ∧ 0 ≤ x.Next[i] ∧ x.Next[i] ≤ (n : Int) - 1 := by
  intro i hi hi'
  have := h i (Nat.zero_le _) (by omega)
  unfold edgeB at this
  rw [List.getElem?_eq_getElem hi, List.getElem?_eq_getElem hi', Option.getD_some, Option.getD_some, Bool.and_eq_true, Bool.and_eq_true, Bool.or_eq_true, inB_iff, beq_iff_eq, decide_eq_true_iff] at this
  exact ⟨this.1.1, this.1.2, this.2.1, this.2.2⟩
 refine ⟨hl, fun c hc => ?_, fun i hi => ?_, fun t ht => ?_⟩
 ·obtain ⟨i, hi, rfl⟩ := List.mem_iff_getElem.1 hc
  exact (key i hi (by omega)).1
 ·have := (key (i + 1) hi (by omega)).2.1.resolve_left (by omega)
  rw [show i + 1 - 1 = i from rfl, List.getElem?_eq_getElem (by omega), Option.getD_some] at this
  exact this
 ·obtain ⟨i, hi, rfl⟩ := List.mem_iff_getElem.1 ht
  have := (key i (by omega) hi).2.2
  exact ⟨this.1, by omega⟩
theorem NodeOk.nodeB {n : Nat} {x : Node} (h : NodeOk n x) : nodeB n x = true := by
 unfold Go.Proofs.YtdaoecpkgobelaaGreatDoor.nodeB
 rw [Bool.and_eq_true, allI_iff, beq_iff_eq]
 refine ⟨h.len, fun i _ hi => ?_⟩
 rw [Nat.zero_add] at hi
 have hi' : i < x.Letters.length := by rw [h.len]; exact hi
 unfold edgeB
 rw [List.getElem?_eq_getElem hi, List.getElem?_eq_getElem hi', Option.getD_some, Option.getD_some, Bool.and_eq_true, Bool.and_eq_true, Bool.or_eq_true, inB_iff, beq_iff_eq, decide_eq_true_iff]
 have hn := h.next _ (List.getElem_mem hi)
 refine ⟨⟨h.form _ (List.getElem_mem hi'), ?_⟩, hn.1, by omega⟩
 cases i with
 | zero => exact .inl rfl
 | succ i =>
  refine .inr ?_
  rw [show i + 1 - 1 = i from rfl, List.getElem?_eq_getElem (by omega), Option.getD_some]
  exact h.inc i hi'
structure ShapeOk (D : List Node) : Prop where
 pos : 1 ≤ D.length
 max : D.length ≤ 3000
 node : ∀ x ∈ D, NodeOk D.length x
theorem shapeB_ok {D : List Node} (h : shapeB D = true) : ShapeOk D := by
 unfold shapeB at h
 rw [Bool.and_eq_true, Bool.and_eq_true, decide_eq_true_iff, decide_eq_true_iff, List.all_eq_true] at h
 exact ⟨h.1.1, h.1.2, fun x hx => nodeB_ok (h.2 x hx)⟩
theorem ShapeOk.shapeB {D : List Node} (h : ShapeOk D) : shapeB D = true := by
 unfold Go.Proofs.YtdaoecpkgobelaaGreatDoor.shapeB
 rw [Bool.and_eq_true, Bool.and_eq_true, decide_eq_true_iff, decide_eq_true_iff, List.all_eq_true]
 exact ⟨⟨h.pos, h.max⟩, fun x hx => (h.node x hx).nodeB⟩
theorem NodeOk.edges_len {n : Nat} {x : Node} (h : NodeOk n x) : (ndN x).2.length = x.Next.length := by
 show (x.Letters.zip (x.Next.map Int.toNat)).length = _
 rw [List.length_zip, List.length_map, h.len, Nat.min_self]
theorem NodeOk.edge {n : Nat} {x : Node} (h : NodeOk n x) {i : Nat} (hi : i < x.Next.length) : (ndN x).2[i]? = some (x.Letters[i]'(by rw [h.len]; exact hi), x.Next[i].toNat) := by
 show (x.Letters.zip (x.Next.map Int.toNat))[i]? = _
 rw [List.getElem?_zip_eq_some]
 exact ⟨List.getElem?_eq_getElem _, by rw [List.getElem?_map, List.getElem?_eq_getElem hi]; rfl⟩
theorem ndN_inj {n m : Nat} {x y : Node} (hx : NodeOk n x) (hy : NodeOk m y) (h : ndN x = ndN y) : x = y := by
 obtain ⟨f, l, t⟩ := x
 obtain ⟨g, l', t'⟩ := y
 have h1 : f = g := congrArg Prod.fst h
 have h2 : l.zip (t.map Int.toNat) = l'.zip (t'.map Int.toNat) := congrArg Prod.snd h
 have hl : l.length = t.length := hx.len
 have hl' : l'.length = t'.length := hy.len
 have e1 : l = l' := by
  have := congrArg (List.map Prod.fst) h2
  rwa [List.map_fst_zip (by rw [List.length_map]; omega), List.map_fst_zip (by rw [List.length_map]; omega)] at this
 have e2 : t = t' := by
  have := congrArg (List.map Prod.snd) h2
  rw [List.map_snd_zip (by rw [List.length_map]; omega), List.map_snd_zip (by rw [List.length_map]; omega)] at this
  have h3 := congrArg (List.map (fun k : Nat => (k : Int))) this
  rw [List.map_map, List.map_map] at h3
  have hid : ∀ (u : List Int), (∀ x ∈ u, 0 ≤ x) → u.map ((fun k : Nat => (k : Int)) ∘ Int.toNat) = u := fun u hu => by
   refine (List.map_congr_left fun x hx => ?_).trans (List.map_id _)
   simp only [Function.comp, id]
   exact Int.toNat_of_nonneg (hu x hx)
  rwa [hid t fun x hx' => (hx.next x hx').1, hid t' fun x hx' => (hy.next x hx').1] at h3
 rw [h1, e1, e2]
theorem ShapeOk.edge_lt {D : List Node} (h : ShapeOk D) {k : Nat} : ∀ e ∈ (ndD D k).2, e.2 < D.length := fun e he => by
 by_cases hk : k < D.length
 ·rw [ndD_at hk] at he
  have := (List.of_mem_zip (he : (e.1, e.2) ∈ _)).2
  obtain ⟨t, ht, e1⟩ := List.mem_map.1 this
  have := (h.node _ (List.getElem_mem hk)).next t ht
  omega
 ·rw [ndD_none (by omega)] at he; cases he
theorem apartG_inc {α : Type} : ∀ (G : List (UInt8 × α)), (∀ i, (h : i + 1 < G.length) → G[i].1 < G[i + 1].1) → apartG G
 | [], _ => trivial
 | [_], _ => trivial
 | (c, x) :: (d, y) :: G, h => ⟨fun e => by
   have h0 := h 0 (by simp)
   simp only [List.getElem_cons_zero, List.getElem_cons_succ, Nat.zero_add] at h0
   rw [e] at h0
   exact absurd h0 (UInt8.lt_irrefl _), apartG_inc _ fun i hi => by
   have := h (i + 1) (by simpa using hi)
   simpa using this⟩
theorem ShapeOk.apart {D : List Node} (h : ShapeOk D) (k : Nat) : apartG (ndD D k).2 := by
 by_cases hk : k < D.length
 ·rw [ndD_at hk]
  have hx := h.node _ (List.getElem_mem hk)
  generalize D[k] = x at hx
  refine apartG_inc _ fun i hi => ?_
  have hi' : i + 1 < x.Next.length := by rw [hx.edges_len] at hi; exact hi
  have e1 := hx.edge (i := i) (by omega)
  have e2 := hx.edge hi'
  rw [List.getElem?_eq_getElem (by rw [hx.edges_len]; omega), Option.some.injEq] at e1
  rw [List.getElem?_eq_getElem (by rw [hx.edges_len]; omega), Option.some.injEq] at e2
  rw [e1, e2]
  exact hx.inc i (by rw [hx.len]; exact hi')
 ·rw [ndD_none (by omega)]; trivial
/-! ### lists by index -/
section
variable {α : Type}
theorem getD_put {l : List α} {k j : Nat} {v d : α} (hk : k < l.length) : (l.set k v).getD j d = if j = k then v else l.getD j d := by
 rw [List.getD_eq_getElem?_getD, List.getD_eq_getElem?_getD, List.getElem?_set]
 by_cases h : k = j
 ·subst h; simp [hk]
 ·rw [if_neg h, if_neg (fun e => h e.symm)]
theorem getL_gd {l : List α} {k : Nat} (d : α) (hk : k < l.length) : getL l (k : Int) = some (l.getD k d) := by
 rw [getL_at hk, List.getD_eq_getElem?_getD, List.getElem?_eq_getElem hk, Option.getD_some]
end
theorem langA_len {σ : Type} (nd : σ → Bool × List (UInt8 × σ)) (n : Nat) (k : σ) : (langA nd (n + 1) k).length = (if (nd k).1 then 1 else 0) + ((nd k).2.map fun e => (langA nd n e.2).length).sum := by
 rw [langA, List.length_append, List.length_flatMap]
 congr 1
 ·cases (nd k).1 <;> rfl
 ·congr 1
  exact List.map_congr_left fun e _ => by rw [List.length_map]
end
section
def ClosedV (D : List Node) (m : Nat) (op : List Bool) (st lg : List Int) (j : Nat) : Prop :=
 (∀ e ∈ (ndD D j).2, e.2 < m ∧ op.getD e.2 false = false) ∧ shortA (ndD D) ((lg.getD j 0).toNat + 1) j ∧
  st.getD j 0 = min ((langA (ndD D) ((lg.getD j 0).toNat + 1) j).length : Int) 3001 ∧ (0 < st.getD j 0 ∨ j = 0) ∧ ¬ shortA (ndD D) (lg.getD j 0).toNat j
structure WFv (D : List Node) (m b : Nat) (op : List Bool) (st lg : List Int) : Prop where
 hm : m ≤ D.length
 lo : op.length = D.length
 ls : st.length = D.length
 ll : lg.length = D.length
 rs : ∀ j, 0 ≤ st.getD j 0 ∧ st.getD j 0 ≤ 3001
 r0 : ∀ j, 0 ≤ lg.getD j 0
 cl : ∀ j, j < m → op.getD j false = false → ClosedV D m op st lg j ∧ lg.getD j 0 ≤ b
 fr : ∀ j, m ≤ j → op.getD j false = false ∧ st.getD j 0 = 0 ∧ lg.getD j 0 = 0
 hb : b ≤ m
structure PostV (D : List Node) (m b : Nat) (op : List Bool) (st lg : List Int) (k m' : Nat) (op' : List Bool) (st' lg' : List Int) : Prop where
 wf : WFv D m' (b + (m' - m)) op' st' lg'
 le : m ≤ m'
 num : ∀ h, shortA (ndD D) h k → numA m (preA (ndD D) h k) = some m'
 kcl : k < m' ∧ op'.getD k false = false
 frame : ∀ j, j < m → op'.getD j false = op.getD j false ∧ st'.getD j 0 = st.getD j 0 ∧ lg'.getD j 0 = lg.getD j 0
 new : ∀ j, m ≤ j → j < m' → op'.getD j false = false
def CanV (D : List Node) (m : Nat) (op : List Bool) (k : Nat) : Prop :=
 ∃ h m', shortA (ndD D) h k ∧ numA m (preA (ndD D) h k) = some m' ∧ (∀ o, o < m → op.getD o false = true → o ∉ preA (ndD D) h k) ∧ ∀ j ∈ preA (ndD D) h k, j ≠ 0 → langA (ndD D) h j ≠ []
theorem WFv.closed_pre {D : List Node} {m b : Nat} {op : List Bool} {st lg : List Int} (h : WFv D m b op st lg) : ∀ (n : Nat) {j : Nat}, j < m → op.getD j false = false → ∀ i ∈ preA (ndD D) n j, i < m
 | 0, _, _, _, i, hi => by cases hi
 | n + 1, j, hj, ho, i, hi => by
  rcases List.mem_cons.1 hi with rfl | hi
  ·exact hj
  ·obtain ⟨e, he, hi⟩ := List.mem_flatMap.1 hi
   have := (h.cl j hj ho).1.1 e he
   exact h.closed_pre n this.1 this.2 i hi
structure LoopV (D : List Node) (m b : Nat) (op : List Bool) (st lg : List Int) (i m' : Nat) (op' : List Bool) (st' lg' : List Int) : Prop where
 wf : WFv D m' (b + (m' - (m + 1))) op' st' lg'
 le : m + 1 ≤ m'
 num : ∀ h, (∀ e ∈ (ndD D m).2.take i, shortA (ndD D) h e.2) → numA (m + 1) (((ndD D m).2.take i).flatMap fun e => preA (ndD D) h e.2) = some m'
 chd : ∀ e ∈ (ndD D m).2.take i, e.2 < m' ∧ op'.getD e.2 false = false ∧ lg'.getD e.2 0 + 1 ≤ lg'.getD m 0
 opk : op'.getD m false = true
 stk : ∀ h, (∀ e ∈ (ndD D m).2.take i, shortA (ndD D) h e.2) → st'.getD m 0 = min ((((if (ndD D m).1 then 1 else 0) + (((ndD D m).2.take i).map fun e => (langA (ndD D) h e.2).length).sum : Nat)) : Int) 3001
 lgk : lg'.getD m 0 ≤ (b + (m' - (m + 1)) : Nat) + 1
 att : lg'.getD m 0 = 0 ∨ ∃ e ∈ (ndD D m).2.take i, lg'.getD m 0 = lg'.getD e.2 0 + 1
 frame : ∀ j, j < m → op'.getD j false = op.getD j false ∧ st'.getD j 0 = st.getD j 0 ∧ lg'.getD j 0 = lg.getD j 0
 new : ∀ j, m + 1 ≤ j → j < m' → op'.getD j false = false
theorem min_add (a b : Nat) : min (min (a : Int) 3001 + min (b : Int) 3001) 3001 = min ((a + b : Nat) : Int) 3001 := by omega
abbrev mkI (D : List Node) (m : Nat) (op : List Bool) (st lg : List Int) : inspector := ⟨⟨D⟩, (m : Int), op, st, lg⟩
def SpecV (D : List Node) (f : Nat) : Prop := ∀ (m b : Nat) (op : List Bool) (st lg : List Int) (k : Nat), D.length < f + m → WFv D m b op st lg → k < D.length →
 ∃ r s', m_impl_inspector_visit_n f (mkI D m op st lg) (k : Int) = some (r, s') ∧ (r = true → ∃ (m' : Nat) (op' : List Bool) (st' lg' : List Int), s' = mkI D m' op' st' lg' ∧ PostV D m b op st lg k m' op' st' lg') ∧ (CanV D m op k → r = true)
theorem take_succ_edge {D : List Node} (hD : ShapeOk D) {m : Nat} (hm : m < D.length) {i : Nat} (hi : i < D[m].Next.length) :
  ∃ c, (ndD D m).2.take (i + 1) = (ndD D m).2.take i ++ [(c, D[m].Next[i].toNat)] := by
 have hx := hD.node _ (List.getElem_mem hm)
 have he := hx.edge hi
 rw [ndD_at hm]
 exact ⟨_, by rw [List.take_add_one, he]; rfl⟩
theorem visit_loop {D : List Node} (hD : ShapeOk D) (hlen : ∀ x ∈ D, x.Next.length ≤ 1000000000) {f : Nat} (ih : SpecV D f) {m b : Nat} {op : List Bool} {st lg : List Int} (hf : D.length < f + (m + 1)) (hm : m < D.length) (hb : b ≤ m) :
  ∀ (c i m' : Nat) (op' : List Bool) (st' lg' : List Int), i + c = D[m].Next.length → LoopV D m b op st lg i m' op' st' lg' →
   (∃ (m2 : Nat) (op2 : List Bool) (st2 lg2 : List Int), loopM (fun s : Int × (List Bool) × (List Int) × (List Int) × Int => m_impl_inspector_visit_l1 D[m] (m_impl_inspector_visit_n f) (mkI D m op st lg) (m : Int) s.1 s.2.1 s.2.2.1 s.2.2.2.1 s.2.2.2.2) ((m' : Int), op', st', lg', (i : Int)) =
    some (.inl ((m2 : Int), op2, st2, lg2)) ∧ LoopV D m b op st lg D[m].Next.length m2 op2 st2 lg2) ∨
   ((∃ s2, loopM (fun s : Int × (List Bool) × (List Int) × (List Int) × Int => m_impl_inspector_visit_l1 D[m] (m_impl_inspector_visit_n f) (mkI D m op st lg) (m : Int) s.1 s.2.1 s.2.2.1 s.2.2.2.1 s.2.2.2.2) ((m' : Int), op', st', lg', (i : Int)) = some (.inr (false, s2))) ∧
    ¬ ∃ h n, (∀ e ∈ (ndD D m).2, shortA (ndD D) h e.2) ∧ numA m' (((ndD D m).2.drop i).flatMap fun e => preA (ndD D) h e.2) = some n ∧
     (∀ o, o ≤ m → op'.getD o false = true → ∀ e ∈ (ndD D m).2, o ∉ preA (ndD D) h e.2) ∧ ∀ e ∈ (ndD D m).2, ∀ j ∈ preA (ndD D) h e.2, j ≠ 0 → langA (ndD D) h j ≠ [])
 | 0, i, m', op', st', lg', hc, hL => by
  rw [Nat.add_zero] at hc
  subst hc
  left
  refine ⟨m', op', st', lg', loopM_done ?_, hL⟩
  show m_impl_inspector_visit_l1 D[m] _ _ _ (m' : Int) op' st' lg' ((D[m].Next.length : Nat) : Int) = _
  unfold m_impl_inspector_visit_l1
  rw [decide_eq_false (by omega)]; rfl
 | c + 1, i, m', op', st', lg', hc, hL => by
  have hi : i < D[m].Next.length := by omega
  have hx := hD.node _ (List.getElem_mem hm)
  have hnx := hlen _ (List.getElem_mem hm)
  obtain ⟨hn0, hnl⟩ := hx.next _ (List.getElem_mem hi)
  obtain ⟨t, ht⟩ : ∃ t : Nat, D[m].Next[i] = (t : Int) := ⟨D[m].Next[i].toNat, by omega⟩
  have htl : t < D.length := by omega
  obtain ⟨ch, htake⟩ := take_succ_edge hD hm hi
  rw [ht, Int.toNat_natCast] at htake
  have hmem : (ch, t) ∈ (ndD D m).2 := List.mem_of_mem_take (i := i + 1) (by rw [htake]; simp)
  have hdrop : (ndD D m).2.drop i = (ch, t) :: (ndD D m).2.drop (i + 1) := by
   have h1 : (ndD D m).2[i]? = some (ch, t) := by
    have : ((ndD D m).2.take (i + 1))[i]? = some (ch, t) := by
     rw [htake, List.getElem?_append_right (by rw [List.length_take]; omega)]
     have : ((ndD D m).2.take i).length = i := by
      rw [List.length_take, ndD_at hm, hx.edges_len]; omega
     rw [this]; simp
    rw [List.getElem?_take] at this
    rwa [if_pos (by omega)] at this
   obtain ⟨h2, h3⟩ := List.getElem?_eq_some_iff.1 h1
   rw [List.drop_eq_getElem_cons h2, h3]
  have hmm' : m < m' := hL.le
  obtain ⟨r, s', hrun, hpost, hcan⟩ := ih m' _ op' st' lg' t (by omega) hL.wf htl
  have hstep : ∀ o, m_impl_inspector_visit_l1 D[m] (m_impl_inspector_visit_n f) (mkI D m op st lg) (m : Int) (m' : Int) op' st' lg' (i : Int) = some o →
    (fun s : Int × (List Bool) × (List Int) × (List Int) × Int => m_impl_inspector_visit_l1 D[m] (m_impl_inspector_visit_n f) (mkI D m op st lg) (m : Int) s.1 s.2.1 s.2.2.1 s.2.2.2.1 s.2.2.2.2) ((m' : Int), op', st', lg', (i : Int)) = some o := fun o h => h
  have hs1 : chk ((i : Int) + 1) = some (((i + 1 : Nat)) : Int) := chk_succ (by omega)
  cases r with
  | false =>
   right
   refine ⟨⟨(⟨⟨D⟩, s'.met, s'.open_, s'.strings, s'.longest⟩ : inspector), loopM_done (hstep _ ?_)⟩, ?_⟩
   ·unfold m_impl_inspector_visit_l1
    rw [hs1, decide_eq_true (show (i : Int) < (D[m].Next.length : Int) by omega), cond_true, bind_of (getL_at hi), ht, bind_of hrun]
    rfl
   ·rintro ⟨h, n, h1, h2, h3, h4⟩
    rw [hdrop, List.flatMap_cons, numA_append] at h2
    cases hn : numA m' (preA (ndD D) h t) with
    | none => rw [hn] at h2; cases h2
    | some n' =>
     have := hcan ⟨h, n', h1 _ hmem, hn, fun o ho hoo => ?_, h4 _ hmem⟩
     ·cases this
     ·rcases Nat.lt_or_ge m o with hlt | hge
      ·rw [hL.new o hlt ho] at hoo; cases hoo
      ·exact h3 o hge hoo _ hmem
  | true =>
   obtain ⟨m2, op2, st2, lg2, rfl, hP⟩ := hpost rfl
   have hfm := hP.frame m hmm'
   have hm2 : m < m2 := Nat.lt_of_lt_of_le hmm' hP.le
   have hlo := hP.wf.lo
   have hls := hP.wf.ls
   have hll := hP.wf.ll
   have hts : t < st2.length := by omega
   have hms : m < st2.length := by omega
   have hkl : (ClosedV D m2 op2 st2 lg2 t) ∧ lg2.getD t 0 ≤ ((b + (m' - (m + 1)) + (m2 - m') : Nat) : Int) := hP.wf.cl t hP.kcl.1 hP.kcl.2
   have hlet := hkl.2
   have hle2 := hP.le
   have hm2D := hP.wf.hm
   have hbig : (b + (m' - (m + 1)) + (m2 - m') : Nat) ≤ 6000 := by have := hD.max; have := hL.le; omega
   have hrm := hP.wf.rs m
   have hrt := hP.wf.rs t
   have hl0 := hP.wf.r0 t
   have htm : t ≠ m := fun e => by
    have h1 := hP.kcl.2
    rw [e, hfm.1, hL.opk] at h1
    cases h1
   -- the next state
   have hrunstep : m_impl_inspector_visit_l1 D[m] (m_impl_inspector_visit_n f) (mkI D m op st lg) (m : Int) (m' : Int) op' st' lg' (i : Int) =
     some (.inl ((m2 : Int), op2, st2.set m (min (st2.getD m 0 + st2.getD t 0) 3001), lg2.set m (max (lg2.getD m 0) (lg2.getD t 0 + 1)), (((i + 1 : Nat)) : Int))) := by
    unfold m_impl_inspector_visit_l1
    have c1 : chk (st2.getD m 0 + st2.getD t 0) = some (st2.getD m 0 + st2.getD t 0) := chk_in (by omega) (by omega)
    have c2 : chk (lg2.getD t 0 + 1) = some (lg2.getD t 0 + 1) := chk_in (by omega) (by omega)
    rw [hs1, decide_eq_true (show (i : Int) < (D[m].Next.length : Int) by omega), cond_true, bind_of (getL_at hi), ht, bind_of hrun]
    show (getL st2 (m : Int)).bind _ = _
    rw [bind_of (getL_gd 0 hms)]
    show (getL st2 (t : Int)).bind _ = _
    rw [bind_of (getL_gd 0 hts), c1]
    show (getL st2 (m : Int)).bind _ = _
    rw [bind_of (getL_gd 0 hms)]
    show (setL st2 (m : Int) _).bind _ = _
    rw [bind_of (setL_of hms)]
    show (getL lg2 (m : Int)).bind _ = _
    rw [bind_of (getL_gd 0 (by omega))]
    show (getL lg2 (t : Int)).bind _ = _
    rw [bind_of (getL_gd 0 (by omega)), c2]
    show (getL lg2 (m : Int)).bind _ = _
    rw [bind_of (getL_gd 0 (by omega))]
    show (setL lg2 (m : Int) _).bind _ = _
    rw [bind_of (setL_of (by omega))]
    rfl
   have hgs : ∀ j, (st2.set m (min (st2.getD m 0 + st2.getD t 0) 3001)).getD j 0 = if j = m then min (st2.getD m 0 + st2.getD t 0) 3001 else st2.getD j 0 := fun j => getD_put hms
   have hgl : ∀ j, (lg2.set m (max (lg2.getD m 0) (lg2.getD t 0 + 1))).getD j 0 = if j = m then max (lg2.getD m 0) (lg2.getD t 0 + 1) else lg2.getD j 0 := fun j => getD_put (by omega)
   have hbe : b + (m' - (m + 1)) + (m2 - m') = b + (m2 - (m + 1)) := by have := hL.le; omega
   have hmop : op2.getD m false = true := by rw [hfm.1]; exact hL.opk
   have hL2 : LoopV D m b op st lg (i + 1) m2 op2 (st2.set m (min (st2.getD m 0 + st2.getD t 0) 3001)) (lg2.set m (max (lg2.getD m 0) (lg2.getD t 0 + 1))) := by
    refine ⟨⟨hm2D, hlo, by rw [List.length_set]; exact hls, by rw [List.length_set]; exact hll, fun j => ?_, fun j => ?_, fun j hj ho => ?_, fun j hj => ?_, ?_⟩, by omega, fun h hh => ?_, fun e he => ?_, hmop, fun h hh => ?_, ?_, ?_, fun j hj => ?_, fun j h1 h2 => ?_⟩
    ·rw [hgs]; split
     ·omega
     ·exact hP.wf.rs j
    ·rw [hgl]; split
     ·have := hP.wf.r0 m; omega
     ·exact hP.wf.r0 j
    ·have hjm : j ≠ m := fun e => by rw [e, hmop] at ho; cases ho
     obtain ⟨⟨a1, a2, a3, a4⟩, a5⟩ := hP.wf.cl j hj ho
     unfold ClosedV
     rw [hgs, hgl, if_neg hjm, if_neg hjm]
     exact ⟨⟨a1, a2, a3, a4⟩, by rw [← hbe]; exact a5⟩
    ·have hjm : j ≠ m := by omega
     rw [hgs, hgl, if_neg hjm, if_neg hjm]
     exact hP.wf.fr j hj
    ·have := hP.wf.hb; omega
    ·rw [htake] at hh ⊢
     rw [List.flatMap_append, numA_append, hL.num h fun e he => hh e (List.mem_append_left _ he)]
     show numA m' ([(ch, t)].flatMap _) = _
     rw [List.flatMap_cons, List.flatMap_nil, List.append_nil]
     exact hP.num h (hh (ch, t) (by simp))
    ·rw [htake] at he
     rcases List.mem_append.1 he with he | he
     ·obtain ⟨h1, h2, h3⟩ := hL.chd e he
      have hem : e.2 ≠ m := fun e' => by rw [e', hL.opk] at h2; cases h2
      rw [hgl, hgl, if_neg hem, if_pos rfl]
      by_cases hlt : e.2 < m'
      ·obtain ⟨f1, f2, f3⟩ := hP.frame e.2 hlt
       refine ⟨by omega, by rw [f1]; exact h2, ?_⟩
       rw [f3, hfm.2.2]; omega
      ·exact absurd h1 hlt
     ·rw [List.mem_singleton] at he
      subst he
      show t < m2 ∧ op2.getD t false = false ∧ (lg2.set m (max (lg2.getD m 0) (lg2.getD t 0 + 1))).getD t 0 + 1 ≤ (lg2.set m (max (lg2.getD m 0) (lg2.getD t 0 + 1))).getD m 0
      rw [hgl, hgl, if_neg htm, if_pos rfl]
      refine ⟨hP.kcl.1, hP.kcl.2, ?_⟩
      show lg2.getD t 0 + 1 ≤ max (lg2.getD m 0) (lg2.getD t 0 + 1)
      omega
    ·rw [hgs, if_pos rfl, htake]
     have e1 := hL.stk h fun e he => hh e (by rw [htake]; exact List.mem_append_left _ he)
     have hsh : shortA (ndD D) h t := hh (ch, t) (by rw [htake]; simp)
     have e2 := hkl.1.2.2.1
     have e3 : langA (ndD D) ((lg2.getD t 0).toNat + 1) t = langA (ndD D) h t := by
      rcases Nat.le_total h ((lg2.getD t 0).toNat + 1) with hle | hle
      ·exact langA_fuel _ hle hsh
      ·exact (langA_fuel _ hle hkl.1.2.1).symm
     rw [hfm.2.1, e1, e2, e3, min_add, List.map_append, List.sum_append]
     simp only [List.map_cons, List.map_nil, List.sum_cons, List.sum_nil, Nat.add_zero]
     rw [Nat.add_assoc]
    ·rw [hgl, if_pos rfl]
     have h1 := hL.lgk
     rw [← hfm.2.2] at h1
     rw [← hbe]
     omega
    ·rw [hgl, if_pos rfl, htake]
     by_cases hmx : lg2.getD m 0 ≤ lg2.getD t 0 + 1
     ·refine .inr ⟨(ch, t), by simp, ?_⟩
      show max (lg2.getD m 0) (lg2.getD t 0 + 1) = (lg2.set m (max (lg2.getD m 0) (lg2.getD t 0 + 1))).getD t 0 + 1
      rw [hgl, if_neg htm]; omega
     ·rcases hL.att with h0 | ⟨e, he, h0⟩
      ·have := hP.wf.r0 t
       rw [← hfm.2.2] at h0
       omega
      ·obtain ⟨h1, h2, h3⟩ := hL.chd e he
       have hem : e.2 ≠ m := fun e' => by rw [e', hL.opk] at h2; cases h2
       refine .inr ⟨e, List.mem_append_left _ he, ?_⟩
       rw [hgl, if_neg hem, (hP.frame e.2 h1).2.2, ← h0, ← hfm.2.2]; omega
    ·obtain ⟨f1, f2, f3⟩ := hP.frame j (by omega)
     have hjm : j ≠ m := by omega
     rw [hgs, hgl, if_neg hjm, if_neg hjm, f1, f2, f3]
     exact hL.frame j hj
    ·rcases Nat.lt_or_ge j m' with hlt | hge
     ·rw [(hP.frame j hlt).1]; exact hL.new j h1 hlt
     ·exact hP.new j hge h2
   have hrec := visit_loop hD hlen ih hf hm hb c (i + 1) m2 op2 _ _ (by omega) hL2
   rw [loopM_next (hstep _ hrunstep)]
   rcases hrec with hrec | ⟨hrec, hno⟩
   ·exact .inl hrec
   ·refine .inr ⟨hrec, ?_⟩
    rintro ⟨h, n, h1, h2, h3, h4⟩
    rw [hdrop, List.flatMap_cons, numA_append, hP.num h (h1 _ hmem)] at h2
    refine hno ⟨h, n, h1, h2, fun o ho hoo e he => ?_, h4⟩
    rw [(hP.frame o (by omega)).1] at hoo
    exact h3 o ho hoo e he
theorem visit_step {D : List Node} (hD : ShapeOk D) (hlen : ∀ x ∈ D, x.Next.length ≤ 1000000000) : ∀ f, SpecV D f
 | 0 => fun m b op st lg k hf hW hk => by have := hW.hm; omega
 | f + 1 => fun m b op st lg k hf hW hk => by
  show ∃ r s', m_impl_inspector_visit_b (m_impl_inspector_visit_n f) (mkI D m op st lg) (k : Int) = some (r, s') ∧ _
  unfold m_impl_inspector_visit_b
  by_cases hkm : k < m
  ·rw [decide_eq_true (show (k : Int) < (mkI D m op st lg).met by show (k : Int) < (m : Int); omega), cond_true]
   have hko : k < op.length := by rw [hW.lo]; exact hk
   refine ⟨!op.getD k false, mkI D m op st lg, ?_, ?_, ?_⟩
   ·show (getL op (k : Int)).bind _ = _
    rw [bind_of (getL_gd false hko)]
   ·intro hr
    have ho : op.getD k false = false := by simpa using hr
    refine ⟨m, op, st, lg, rfl, ⟨?_, Nat.le_refl _, fun h hs => numA_all fun i hi => hW.closed_pre h hkm ho i hi, ⟨hkm, ho⟩, fun j hj => ⟨rfl, rfl, rfl⟩, fun j h1 h2 => by omega⟩⟩
    rw [Nat.sub_self, Nat.add_zero]; exact hW
   ·rintro ⟨h, m', h1, h2, h3, h4⟩
    cases hc : op.getD k false with
    | false => rfl
    | true => exact absurd (preA_self _ h1) (h3 k hkm hc)
  ·rw [decide_eq_false (show ¬ (k : Int) < (mkI D m op st lg).met by show ¬ (k : Int) < (m : Int); omega), cond_false]
   by_cases hmk : m < k
   ·rw [decide_eq_true (show (mkI D m op st lg).met < (k : Int) by show (m : Int) < (k : Int); omega), cond_true]
    refine ⟨_, _, rfl, (fun h => by cases h), ?_⟩
    rintro ⟨h, m', h1, h2, h3, h4⟩
    exfalso
    cases h with
    | zero => exact h1.elim
    | succ h =>
     rw [preA, numA, if_neg hkm, if_neg (by omega)] at h2
     cases h2
   ·obtain rfl : k = m := by omega
    rw [decide_eq_false (show ¬ (mkI D k op st lg).met < (k : Int) by show ¬ (k : Int) < (k : Int); omega), cond_false]
    have hx := hD.node _ (List.getElem_mem hk)
    have hko : k < op.length := by rw [hW.lo]; exact hk
    have hks : k < st.length := by rw [hW.ls]; exact hk
    have hkl : k < lg.length := by rw [hW.ll]; exact hk
    obtain ⟨f1, f2, f3⟩ := hW.fr k (Nat.le_refl _)
    have hmax := hD.max
    have c1 : chk ((k : Int) + 1) = some (((k + 1 : Nat)) : Int) := chk_succ (by omega)
    show ∃ r s', ((chk ((k : Int) + 1)).bind _) = some (r, s') ∧ _
    rw [c1, Option.bind_some]
    show ∃ r s', ((getL op (k : Int)).bind _) = some (r, s') ∧ _
    rw [bind_of (getL_gd false hko)]
    show ∃ r s', ((setL op (k : Int) true).bind _) = some (r, s') ∧ _
    rw [bind_of (setL_of hko)]
    show ∃ r s', ((getL D (k : Int)).bind _) = some (r, s') ∧ _
    rw [bind_of (getL_at hk)]
    -- the strings
    obtain ⟨st1, hst1, hst1l, hst1g⟩ : ∃ st1 : List Int, (bif D[k].Final then (getL st (k : Int)).bind fun e65 => (setL st (k : Int) 1).bind fun xs75 => some xs75 else some st : Option (List Int)) = some st1 ∧ st1.length = D.length ∧ ∀ j, st1.getD j 0 = if j = k then (if D[k].Final then 1 else 0) else st.getD j 0 := by
     cases hF : D[k].Final with
     | true =>
      refine ⟨st.set k 1, ?_, by rw [List.length_set]; exact hW.ls, fun j => ?_⟩
      ·rw [cond_true, bind_of (getL_gd 0 hks), bind_of (setL_of hks)]
      ·rw [getD_put hks]; rfl
     | false =>
      refine ⟨st, rfl, hW.ls, fun j => ?_⟩
      by_cases hjk : j = k
      ·subst hjk; rw [if_pos rfl, f2]; rfl
      ·rw [if_neg hjk]
    have hst2 : (bif D[k].Final then (getL (mkI D k op st lg).strings (k : Int)).bind fun e65 => (setL (mkI D k op st lg).strings (k : Int) 1).bind fun xs75 => some xs75 else some (mkI D k op st lg).strings : Option (List Int)) = some st1 := hst1
    rw [bind_of hst2]
    -- the loop
    have hL0 : LoopV D k b op st lg 0 (k + 1) (op.set k true) st1 lg := by
     have hgo : ∀ j, (op.set k true).getD j false = if j = k then true else op.getD j false := fun j => getD_put hko
     refine ⟨⟨by omega, by rw [List.length_set]; exact hW.lo, hst1l, hW.ll, fun j => ?_, hW.r0, fun j hj ho => ?_, fun j hj => ?_, ?_⟩, Nat.le_refl _, fun h _ => rfl, (fun e he => by cases he), (by rw [hgo, if_pos rfl]), fun h _ => ?_, ?_, .inl f3, fun j hj => ?_, fun j h1 h2 => by omega⟩
     ·rw [hst1g]; split
      ·cases D[k].Final <;> simp
      ·exact hW.rs j
     ·have hjk : j ≠ k := fun e => by rw [e, hgo, if_pos rfl] at ho; cases ho
      rw [hgo, if_neg hjk] at ho
      obtain ⟨⟨a1, a2, a3, a4⟩, a5⟩ := hW.cl j (by omega) ho
      refine ⟨⟨fun e he => ?_, a2, by rw [hst1g, if_neg hjk]; exact a3, by rw [hst1g, if_neg hjk]; exact a4⟩, by rw [Nat.sub_self, Nat.add_zero]; exact a5⟩
      obtain ⟨q1, q2⟩ := a1 e he
      exact ⟨by omega, by rw [hgo, if_neg (by omega)]; exact q2⟩
     ·have hjk : j ≠ k := by omega
      rw [hgo, if_neg hjk, hst1g, if_neg hjk]
      exact hW.fr j (by omega)
     ·have := hW.hb; omega
     ·rw [hst1g, if_pos rfl, ndD_at hk, List.take_zero, List.map_nil, List.sum_nil, Nat.add_zero]
      show _ = min (((if D[k].Final then 1 else 0 : Nat)) : Int) 3001
      cases D[k].Final <;> rfl
     ·rw [f3]; omega
     ·have hjk : j ≠ k := by omega
      rw [hgo, if_neg hjk, hst1g, if_neg hjk]
      exact ⟨rfl, rfl, rfl⟩
    rcases visit_loop hD hlen (visit_step hD hlen f) (by omega) hk hW.hb D[k].Next.length 0 (k + 1) _ _ _ (by omega) hL0 with ⟨m2, op2, st2, lg2, hrun, hL⟩ | ⟨⟨s2, hrun⟩, hno⟩
    ·have hloop : (loopM (fun s : Int × (List Bool) × (List Int) × (List Int) × Int => m_impl_inspector_visit_l1 D[k] (m_impl_inspector_visit_n f) (mkI D k op st lg) (k : Int) s.1 s.2.1 s.2.2.1 s.2.2.2.1 s.2.2.2.2) ((((k + 1 : Nat)) : Int), op.set k true, st1, (mkI D k op st lg).longest, 0)) = some (.inl ((m2 : Int), op2, st2, lg2)) := hrun
     rw [bind_of hloop]
     have hko2 : k < op2.length := by rw [hL.wf.lo]; exact hk
     have hks2 : k < st2.length := by rw [hL.wf.ls]; exact hk
     have hm2 : k < m2 := hL.le
     have htl : (ndD D k).2.take D[k].Next.length = (ndD D k).2 := by
      rw [ndD_at hk]; exact List.take_of_length_le (by rw [hx.edges_len]; exact Nat.le_refl _)
     have hchd := hL.chd
     have hnum := hL.num
     have hstk := hL.stk
     rw [htl] at hchd hnum hstk
     have hl0 := hL.wf.r0 k
     -- all paths from k are short
     have hsh : shortA (ndD D) ((lg2.getD k 0).toNat + 1) k := fun e he => by
      obtain ⟨q1, q2, q3⟩ := hchd e he
      have := (hL.wf.cl e.2 q1 q2).1.2.1
      have h0 := hL.wf.r0 e.2
      exact shortA_mono _ (by omega) this
     have hnsh : ¬ shortA (ndD D) (lg2.getD k 0).toNat k := fun hs => by
      have hatt := hL.att
      rw [htl] at hatt
      rcases hatt with h0 | ⟨e, he, h0⟩
      ·rw [h0] at hs; exact hs
      ·obtain ⟨q1, q2, q3⟩ := hchd e he
       have he0 := hL.wf.r0 e.2
       have hh : (lg2.getD k 0).toNat = (lg2.getD e.2 0).toNat + 1 := by omega
       rw [hh] at hs
       exact (hL.wf.cl e.2 q1 q2).1.2.2.2.2 (hs e he)
     have hstv : st2.getD k 0 = min ((langA (ndD D) ((lg2.getD k 0).toNat + 1) k).length : Int) 3001 := by
      rw [hstk _ (fun e he => hsh e he), langA_len]
     have hgo : ∀ j, (op2.set k false).getD j false = if j = k then false else op2.getD j false := fun j => getD_put hko2
     refine ⟨decide (0 < st2.getD k 0) || (k : Int) == 0, mkI D m2 (op2.set k false) st2 lg2, ?_, fun hr => ⟨m2, op2.set k false, st2, lg2, rfl, ?_⟩, ?_⟩
     ·show (getL op2 (k : Int)).bind _ = _
      rw [bind_of (getL_gd false hko2)]
      show (setL op2 (k : Int) false).bind _ = _
      rw [bind_of (setL_of hko2)]
      have : ((getL st2 (k : Int)).bind fun e237 => bif decide (0 < e237) then some true else some ((k : Int) == 0)) = some (decide (0 < st2.getD k 0) || (k : Int) == 0) := by
       rw [bind_of (getL_gd 0 hks2)]
       cases decide (0 < st2.getD k 0) <;> rfl
      rw [bind_of this]
     ·have hpos : 0 < st2.getD k 0 ∨ k = 0 := by
       rw [Bool.or_eq_true, decide_eq_true_iff, beq_iff_eq] at hr
       exact hr.imp id fun h => by omega
      have hbe : b + (m2 - k) = b + (m2 - (k + 1)) + 1 := by omega
      refine ⟨⟨hL.wf.hm, by rw [List.length_set]; exact hL.wf.lo, hL.wf.ls, hL.wf.ll, hL.wf.rs, hL.wf.r0, fun j hj ho => ?_, fun j hj => ?_, ?_⟩, by omega, fun h hs => ?_, ⟨hm2, by rw [hgo, if_pos rfl]⟩, fun j hj => ?_, fun j h1 h2 => ?_⟩
      ·have hup : ∀ e, (e < m2 ∧ op2.getD e false = false) → (e < m2 ∧ (op2.set k false).getD e false = false) := fun e he => ⟨he.1, by
        rw [hgo]
        split
        ·rfl
        ·exact he.2⟩
       by_cases hjk : j = k
       ·subst hjk
        refine ⟨⟨fun e he => hup _ ⟨(hchd e he).1, (hchd e he).2.1⟩, hsh, hstv, hpos, hnsh⟩, ?_⟩
        have := hL.lgk
        rw [hbe]; push_cast; exact this
       ·rw [hgo, if_neg hjk] at ho
        obtain ⟨⟨a1, a2, a3, a4⟩, a5⟩ := hL.wf.cl j hj ho
        exact ⟨⟨fun e he => hup _ (a1 e he), a2, a3, a4⟩, by rw [hbe]; push_cast; omega⟩
      ·rw [hgo, if_neg (by omega)]
       exact hL.wf.fr j hj
      ·have := hL.wf.hb; have := hL.wf.hm; have := hW.hb; omega
      ·cases h with
       | zero => exact hs.elim
       | succ h =>
        rw [preA, numA, if_neg (Nat.lt_irrefl k), if_pos rfl]
        exact hnum h hs
      ·obtain ⟨q1, q2, q3⟩ := hL.frame j hj
       exact ⟨by rw [hgo, if_neg (by omega)]; exact q1, q2, q3⟩
      ·rw [hgo]
       split
       ·rfl
       ·exact hL.new j (by omega) h2
     ·rintro ⟨h, m', h1, h2, h3, h4⟩
      rw [Bool.or_eq_true, decide_eq_true_iff, beq_iff_eq]
      by_cases hk0 : k = 0
      ·right; omega
      ·left
       have hne := h4 k (preA_self _ h1) hk0
       have e3 : langA (ndD D) ((lg2.getD k 0).toNat + 1) k = langA (ndD D) h k := by
        rcases Nat.le_total h ((lg2.getD k 0).toNat + 1) with hle | hle
        ·exact langA_fuel _ hle h1
        ·exact (langA_fuel _ hle hsh).symm
       rw [hstv, e3]
       have : 0 < (langA (ndD D) h k).length := List.length_pos_iff.2 hne
       omega
    ·have hloop : (loopM (fun s : Int × (List Bool) × (List Int) × (List Int) × Int => m_impl_inspector_visit_l1 D[k] (m_impl_inspector_visit_n f) (mkI D k op st lg) (k : Int) s.1 s.2.1 s.2.2.1 s.2.2.2.1 s.2.2.2.2) ((((k + 1 : Nat)) : Int), op.set k true, st1, (mkI D k op st lg).longest, 0)) = some (.inr (false, s2)) := hrun
     rw [bind_of hloop]
     refine ⟨_, _, rfl, (fun h => by cases h), ?_⟩
     rintro ⟨h, m', h1, h2, h3, h4⟩
     exfalso
     cases h with
     | zero => exact h1.elim
     | succ h =>
      rw [preA, numA, if_neg (Nat.lt_irrefl k), if_pos rfl] at h2
      refine hno ⟨h, m', h1, by rw [List.drop_zero]; exact h2, fun o ho hoo e he hin => ?_, fun e he j hj hj0 hnil => ?_⟩
      ·rcases Nat.lt_or_ge o k with hlt | hge
       ·have hgo : (op.set k true).getD o false = op.getD o false := by rw [getD_put hko, if_neg (by omega)]
        rw [hgo] at hoo
        exact h3 o hlt hoo (List.mem_cons_of_mem _ (List.mem_flatMap.2 ⟨e, he, hin⟩))
       ·obtain rfl : o = k := by omega
        exact preA_acyc _ h1 e he h hin
      ·refine h4 j (List.mem_cons_of_mem _ (List.mem_flatMap.2 ⟨e, he, hj⟩)) hj0 ?_
       rw [langA_fuel _ (Nat.le_succ h) (preA_short _ (h1 e he) hj)]
       exact hnil
end
section
theorem dec_digit : ∀ (u : Nat), ∀ c ∈ Lib.decDigits u, c ≠ 32
 | u => fun c hc => by
  rw [Lib.decDigits] at hc
  split at hc
  ·rename_i h
   rw [List.mem_singleton] at hc
   subst hc
   intro e
   have := congrArg UInt8.toNat e
   rw [UInt8.toNat_ofNat'] at this
   rw [Nat.mod_eq_of_lt (by omega)] at this
   have h32 : (32 : UInt8).toNat = 32 := rfl
   omega
  ·rename_i h
   rcases List.mem_append.1 hc with hc | hc
   ·exact dec_digit (u / 10) c hc
   ·rw [List.mem_singleton] at hc
    subst hc
    intro e
    have := congrArg UInt8.toNat e
    rw [UInt8.toNat_ofNat', Nat.mod_eq_of_lt (by omega)] at this
    have h32 : (32 : UInt8).toNat = 32 := rfl
    omega
 termination_by u => u
theorem dec_pos (u : Nat) : 1 ≤ (Lib.decDigits u).length := by
 rw [Lib.decDigits]
 split <;> simp
theorem dec_byte {a b : Nat} (ha : a < 10) (hb : b < 10) (h : UInt8.ofNat (48 + a) = UInt8.ofNat (48 + b)) : a = b := by
 have := congrArg UInt8.toNat h
 rw [UInt8.toNat_ofNat', UInt8.toNat_ofNat', Nat.mod_eq_of_lt (by omega), Nat.mod_eq_of_lt (by omega)] at this
 omega
theorem dec_inj : ∀ (u v : Nat), Lib.decDigits u = Lib.decDigits v → u = v
 | u, v => fun h => by
  rw [Lib.decDigits] at h
  split at h
  ·rename_i hu
   rw [Lib.decDigits] at h
   split at h
   ·rename_i hv
    exact dec_byte hu hv (List.cons.inj h).1
   ·have := congrArg List.length h
    have h1 := dec_pos (v / 10)
    simp only [List.length_cons, List.length_nil, List.length_append] at this
    omega
  ·rename_i hu
   rw [Lib.decDigits.eq_def v] at h
   split at h
   ·have := congrArg List.length h
    have h1 := dec_pos (u / 10)
    simp only [List.length_cons, List.length_nil, List.length_append] at this
    omega
   ·rename_i hv
    obtain ⟨h1, h2⟩ := List.append_inj' h rfl
    have e1 := dec_inj (u / 10) (v / 10) h1
    have e2 := dec_byte (Nat.mod_lt _ (by decide)) (Nat.mod_lt _ (by decide)) (List.cons.inj h2).1
    omega
 termination_by u => u
theorem sep_inj {z : UInt8} : ∀ {a b r s : Str}, z ∉ a → z ∉ b → a ++ z :: r = b ++ z :: s → a = b ∧ r = s
 | [], [], r, s, _, _, h => ⟨rfl, (List.cons.inj h).2⟩
 | [], y :: b, r, s, _, hb, h => absurd (List.cons.inj h).1 (fun e => hb (e ▸ List.mem_cons_self))
 | x :: a, [], r, s, ha, _, h => absurd (List.cons.inj h).1 (fun e => ha (e ▸ List.mem_cons_self))
 | x :: a, y :: b, r, s, ha, hb, h => by
  obtain ⟨h1, h2⟩ := List.cons.inj h
  obtain ⟨h3, h4⟩ := sep_inj (fun m => ha (List.mem_cons_of_mem _ m)) (fun m => hb (List.mem_cons_of_mem _ m)) h2
  exact ⟨by rw [h1, h3], h4⟩
def pieceA (e : UInt8 × Nat) : Str := e.1 :: (Lib.decDigits e.2 ++ [32])
def keyA (x : Bool × List (UInt8 × Nat)) : Str := (if x.1 then [43] else []) ++ x.2.flatMap pieceA
theorem pieces_inj : ∀ {es es' : List (UInt8 × Nat)}, es.flatMap pieceA = es'.flatMap pieceA → es = es'
 | [], [], _ => rfl
 | [], e :: es, h => by rw [List.flatMap_nil, List.flatMap_cons] at h; cases h
 | e :: es, [], h => by rw [List.flatMap_nil, List.flatMap_cons] at h; cases h
 | (c, t) :: es, (d, u) :: es', h => by
  rw [List.flatMap_cons, List.flatMap_cons] at h
  unfold pieceA at h
  rw [List.cons_append, List.cons_append, List.append_assoc, List.append_assoc] at h
  obtain ⟨h1, h2⟩ := List.cons.inj h
  obtain ⟨h3, h4⟩ := sep_inj (z := 32) (fun m => dec_digit t 32 m rfl) (fun m => dec_digit u 32 m rfl) h2
  simp only at h1
  rw [h1, dec_inj t u h3, pieces_inj h4]
theorem keyA_inj {x y : Bool × List (UInt8 × Nat)} (hx : ∀ e ∈ x.2, formB e.1 = true) (hy : ∀ e ∈ y.2, formB e.1 = true) (h : keyA x = keyA y) : x = y := by
 obtain ⟨f, es⟩ := x
 obtain ⟨g, es'⟩ := y
 have h43 : formB 43 = false := by decide
 have key : ∀ (es es' : List (UInt8 × Nat)), (∀ e ∈ es', formB e.1 = true) → keyA (true, es) ≠ keyA (false, es') := by
  intro es es' hf h
  unfold keyA at h
  simp only [if_true, Bool.false_eq_true, if_false, List.nil_append] at h
  cases es' with
  | nil => cases h
  | cons e es' =>
   rw [List.flatMap_cons] at h
   have h1 := (List.cons.inj h).1
   have := hf e List.mem_cons_self
   rw [← h1, h43] at this
   cases this
 cases f <;> cases g
 ·exact Prod.ext rfl (pieces_inj h)
 ·exact absurd h.symm (key es' es hx)
 ·exact absurd h (key es es' hy)
 ·exact Prod.ext rfl (pieces_inj (List.append_cancel_left h))
theorem piece_len (e : UInt8 × Nat) (h : e.2 ≤ 3000) : (pieceA e).length ≤ 23 := by
 unfold pieceA
 have h1 := Lib.itoa_length_le (e.2 : Int) (by omega) (by omega)
 unfold Lib.itoa at h1
 rw [if_neg (by omega), Int.toNat_natCast] at h1
 simp only [List.length_cons, List.length_append, List.length_nil]
 omega
theorem pieces_len : ∀ (es : List (UInt8 × Nat)), (∀ e ∈ es, e.2 ≤ 3000) → (es.flatMap pieceA).length ≤ 23 * es.length
 | [], _ => Nat.le_refl _
 | e :: es, h => by
  rw [List.flatMap_cons, List.length_append, List.length_cons]
  have := piece_len e (h e List.mem_cons_self)
  have := pieces_len es fun x hx => h x (List.mem_cons_of_mem _ hx)
  omega
theorem keyOf_eq {n : Nat} {x : Node} (hn : n ≤ 3000) (hx : NodeOk n x) (hl : x.Next.length ≤ 2000000) : m_impl_keyOf x = some (keyA (ndN x)) := by
 have hel := hx.edges_len
 have hto : ∀ e ∈ (ndN x).2, e.2 ≤ 3000 := fun e he => by
  have := (List.of_mem_zip (he : (e.1, e.2) ∈ _)).2
  obtain ⟨t, ht, e1⟩ := List.mem_map.1 this
  have := hx.next t ht
  omega
 have hhead : (bif x.Final then (m_strings_Builder_WriteByte ([] : Str) 43).bind fun y22 => some y22.2 else some ([] : Str) : Option Str) = some (if x.Final then [43] else []) := by
  cases x.Final <;> rfl
 unfold m_impl_keyOf
 rw [hhead, Option.bind_some]
 have hpre : (if x.Final = true then ([43] : Str) else []).length ≤ 1 := by split <;> simp
 generalize hp : (if x.Final = true then ([43] : Str) else []) = pre at hpre
 have hloop : loopM (fun s : Str × Int => m_impl_keyOf_l1 x s.1 s.2) (pre, 0) = some (pre ++ (ndN x).2.flatMap pieceA) := by
  have htk : (ndN x).2 = (ndN x).2.take x.Next.length := (List.take_of_length_le (by omega)).symm
  rw [htk]
  have h0 : (pre, (0 : Int)) = (pre ++ ((ndN x).2.take 0).flatMap pieceA, ((0 : Nat) : Int)) := by simp
  rw [h0]
  refine loop_run (fun i => (pre ++ ((ndN x).2.take i).flatMap pieceA, ((i : Nat) : Int))) x.Next.length _ (fun i hi => ?_) ?_ 0 (Nat.zero_le _)
  ·have he := hx.edge hi
   have hli : i < x.Letters.length := by rw [hx.len]; exact hi
   have hlen : (((ndN x).2.take i).flatMap pieceA).length ≤ 23 * x.Next.length := by
    have := pieces_len ((ndN x).2.take i) fun e he => hto e (List.mem_of_mem_take he)
    rw [List.length_take] at this
    omega
   have hnn := (hx.next _ (List.getElem_mem hi))
   obtain ⟨t, ht⟩ : ∃ t : Nat, x.Next[i] = (t : Int) := ⟨x.Next[i].toNat, by omega⟩
   have hit : Lib.itoa x.Next[i] = Lib.decDigits t := by rw [ht]; unfold Lib.itoa; rw [if_neg (by omega), Int.toNat_natCast]
   have hpl := piece_len (x.Letters[i], t) (by show t ≤ 3000; omega)
   unfold pieceA at hpl
   simp only [List.length_cons, List.length_append, List.length_nil] at hpl
   show m_impl_keyOf_l1 x _ ((i : Nat) : Int) = _
   unfold m_impl_keyOf_l1
   rw [chk_succ (show i ≤ 8000000000000000000 by omega), decide_eq_true (show (i : Int) < (x.Next.length : Int) by omega), cond_true, bind_of (getL_at hi), Option.bind_some]
   have hsub : subL x.Letters (i : Int) ((i + 1 : Nat) : Int) = some [x.Letters[i]] := by
    rw [subL_of (by omega) (by omega) (by omega), Int.toNat_natCast, Int.toNat_natCast, Nat.add_sub_cancel_left, List.drop_eq_getElem_cons hli]
    rfl
   rw [bind_of hsub, bind_of (Decimal_eq _), hit, catL_of (by simp; omega), Option.bind_some, catL_of (by simp; omega), Option.bind_some]
   have hw : ∀ (a b : Str), a.length + b.length ≤ 100000000 → m_strings_Builder_WriteString a b = some ((b.length : Int), (), a ++ b) := fun a b h => by
    unfold m_strings_Builder_WriteString
    show (catL a b).bind _ = _
    rw [catL_of h]; rfl
   rw [bind_of (hw _ _ (by simp only [List.length_append, List.length_cons, List.length_nil]; omega)), Option.bind_some]
   have : (ndN x).2.take (i + 1) = (ndN x).2.take i ++ [(x.Letters[i], t)] := by
    rw [List.take_add_one, he, ht, Int.toNat_natCast]; rfl
   rw [this, List.flatMap_append, List.append_assoc]
   simp [pieceA]
  ·show m_impl_keyOf_l1 x _ ((x.Next.length : Nat) : Int) = _
   unfold m_impl_keyOf_l1
   rw [decide_eq_false (by omega)]; rfl
 rw [bind_of (bind_of hloop ▸ rfl : ((loopM (fun s : Str × Int => m_impl_keyOf_l1 x s.1 s.2) (pre, 0)).bind fun xs52 => some xs52) = some (pre ++ (ndN x).2.flatMap pieceA))]
 unfold keyA
 rw [← hp]
 rfl
end
section
structure GoodD (D : List Node) : Prop where
 shape : ShapeOk D
 nofin : (ndD D 0).1 = false
 num : GoodN 14 (D.map ndN)
 few : (langA (ndD D) 14 0).length ≤ 3000
theorem preA_parent {σ : Type} (nd : σ → Bool × List (UInt8 × σ)) : ∀ (n : Nat) {k j : σ}, j ∈ preA nd n k → j = k ∨ ∃ i ∈ preA nd n k, ∃ e ∈ (nd i).2, e.2 = j
 | 0, _, _, h => by cases h
 | n + 1, k, j, h => by
  rcases List.mem_cons.1 h with rfl | h
  ·exact .inl rfl
  ·obtain ⟨e, he, hj⟩ := List.mem_flatMap.1 h
   rcases preA_parent nd n hj with rfl | ⟨i, hi, e', he', h'⟩
   ·exact .inr ⟨k, List.mem_cons_self, e, he, rfl⟩
   ·exact .inr ⟨i, List.mem_cons_of_mem _ (List.mem_flatMap.2 ⟨e, he, hi⟩), e', he', h'⟩
/-! the register -/
theorem getM_cons {α β : Type} [DecidableEq α] (e : α × β) (M : List (α × β)) (k : α) : getM (e :: M) k = if k = e.1 then some e.2 else getM M k := by
 rw [getM]
 by_cases h : k = e.1
 ·have : (k == e.1) = true := by simpa using h
  rw [this, if_pos h]; rfl
 ·have : (k == e.1) = false := by simpa using h
  rw [this, if_neg h]; rfl
theorem getM_true : ∀ (ks : List Str) (k : Str), (getM (ks.map fun x => (x, true)) k).getD false = decide (k ∈ ks)
 | [], k => rfl
 | x :: ks, k => by
  rw [List.map_cons, getM_cons]
  by_cases h : k = x
  ·rw [if_pos h, decide_eq_true (by rw [h]; exact List.mem_cons_self)]
   rfl
  ·rw [if_neg h, getM_true ks k]
   have e : (k ∈ x :: ks) ↔ k ∈ ks := by rw [List.mem_cons]; exact ⟨fun h' => h'.resolve_left h, .inr⟩
   rw [decide_eq_decide]
   exact e.symm
theorem getM_none : ∀ (ks : List Str) (k : Str), k ∉ ks → getM (ks.map fun x => (x, true)) k = none
 | [], k, _ => rfl
 | x :: ks, k, h => by
  rw [List.map_cons, getM_cons, if_neg (fun e => h (by rw [e]; exact List.mem_cons_self)), getM_none ks k fun h' => h (List.mem_cons_of_mem _ h')]
def keysOf (D : List Node) : List Str := D.map fun x => keyA (ndN x)
theorem reg_loop {D : List Node} (hD : ShapeOk D) (hlen : ∀ x ∈ D, x.Next.length ≤ 2000000) (d : Dawg) (hd : d.Nodes = D) : ∀ (c i : Nat), i + c = D.length → ((keysOf D).take i).Nodup →
  ∃ r : (List (Str × Bool)) ⊕ Bool, loopM (fun s : (List (Str × Bool)) × Int => m_impl_ValidDawg_l1 d s.1 s.2) (((keysOf D).take i).map fun x => (x, true), (i : Int)) = some r ∧
   ((∃ M, r = .inl M) ∧ (keysOf D).Nodup ∨ r = .inr false ∧ ¬ (keysOf D).Nodup)
 | 0, i, hc, hn => by
  subst hd
  rw [Nat.add_zero] at hc
  refine ⟨.inl (((keysOf d.Nodes).take i).map fun x => (x, true)), loopM_done ?_, .inl ⟨⟨_, rfl⟩, ?_⟩⟩
  ·show m_impl_ValidDawg_l1 d _ (i : Int) = _
   unfold m_impl_ValidDawg_l1
   rw [decide_eq_false (by omega)]; rfl
  ·rwa [List.take_of_length_le (by unfold keysOf; rw [List.length_map]; omega)] at hn
 | c + 1, i, hc, hn => by
  subst hd
  have hi : i < d.Nodes.length := by omega
  have hk : (keysOf d.Nodes)[i]? = some (keyA (ndN d.Nodes[i])) := by
   unfold keysOf
   rw [List.getElem?_map, List.getElem?_eq_getElem hi]; rfl
  have htk : (keysOf d.Nodes).take (i + 1) = (keysOf d.Nodes).take i ++ [keyA (ndN d.Nodes[i])] := by
   rw [List.take_add_one, hk]; rfl
  have hmax := hD.max
  have hstep : m_impl_ValidDawg_l1 d (((keysOf d.Nodes).take i).map fun x => (x, true)) (i : Int) =
    some (bif decide (keyA (ndN d.Nodes[i]) ∈ (keysOf d.Nodes).take i) then .inr (.inr false) else .inl (putM (((keysOf d.Nodes).take i).map fun x => (x, true)) (keyA (ndN d.Nodes[i])) true, ((i + 1 : Nat) : Int))) := by
   unfold m_impl_ValidDawg_l1
   rw [chk_succ (show i ≤ 8000000000000000000 by omega), decide_eq_true (show (i : Int) < (d.Nodes.length : Int) by omega), cond_true, bind_of (getL_at hi), bind_of (keyOf_eq hmax (hD.node _ (List.getElem_mem hi)) (hlen _ (List.getElem_mem hi))), getM_true]
   cases decide (keyA (ndN d.Nodes[i]) ∈ (keysOf d.Nodes).take i) <;> rfl
  by_cases hin : keyA (ndN d.Nodes[i]) ∈ (keysOf d.Nodes).take i
  ·rw [decide_eq_true hin] at hstep
   refine ⟨_, loopM_done hstep, .inr ⟨rfl, fun hnd => ?_⟩⟩
   have := (List.take_sublist (i + 1) (keysOf d.Nodes)).nodup hnd
   rw [htk, List.nodup_append] at this
   exact this.2.2 _ hin _ (by simp) rfl
  ·rw [decide_eq_false hin, cond_false, putM_new (getM_none _ _ hin)] at hstep
   have hn' : ((keysOf d.Nodes).take (i + 1)).Nodup := by
    rw [htk, List.nodup_append]
    exact ⟨hn, by simp, fun a ha b hb => by rw [List.mem_singleton] at hb; subst hb; rintro rfl; exact hin ha⟩
   have e : (((keysOf d.Nodes).take i).map fun x => (x, true)) ++ [(keyA (ndN d.Nodes[i]), true)] = ((keysOf d.Nodes).take (i + 1)).map fun x => (x, true) := by rw [htk, List.map_append]; rfl
   rw [e] at hstep
   have := reg_loop hD hlen d rfl c (i + 1) (by omega) hn'
   rw [loopM_next (show (fun s : (List (Str × Bool)) × Int => m_impl_ValidDawg_l1 d s.1 s.2) (((keysOf d.Nodes).take i).map fun x => (x, true), (i : Int)) = _ from hstep)]
   exact this
theorem keys_nodup {D : List Node} (hD : ShapeOk D) : (keysOf D).Nodup ↔ ∀ k j, k < D.length → j < D.length → ndD D k = ndD D j → k = j := by
 have hf : ∀ x ∈ D, ∀ e ∈ (ndN x).2, formB e.1 = true := fun x hx e he => (hD.node x hx).form e.1 (List.of_mem_zip (he : (e.1, e.2) ∈ _)).1
 rw [List.nodup_iff_pairwise_ne, List.pairwise_iff_getElem]
 have hl : (keysOf D).length = D.length := by unfold keysOf; rw [List.length_map]
 have hg : ∀ i (h : i < (keysOf D).length), (keysOf D)[i] = keyA (ndN (D[i]'(by rw [← hl]; exact h))) := fun i h => by simp [keysOf]
 constructor
 ·intro h k j hk hj e
  rw [ndD_at hk, ndD_at hj] at e
  rcases Nat.lt_trichotomy k j with hlt | rfl | hlt
  ·refine absurd ?_ (h k j (by omega) (by omega) hlt)
   rw [hg, hg, e]
  ·rfl
  ·refine absurd ?_ (h j k (by omega) (by omega) hlt)
   rw [hg, hg, e]
 ·intro h i j hi hj hij e
  rw [hg, hg] at e
  have := keyA_inj (hf _ (List.getElem_mem _)) (hf _ (List.getElem_mem _)) e
  have := h i j (by omega) (by omega) (by rw [ndD_at (by omega), ndD_at (by omega)]; exact this)
  omega
theorem ValidDawg_iff (d : Dawg) (hlen : ∀ x ∈ d.Nodes, x.Next.length ≤ 2000000) : ∃ r, m_impl_ValidDawg d = some r ∧ (r = true ↔ GoodD d.Nodes) := by
 have hlen' : ∀ x ∈ d.Nodes, x.Next.length ≤ 1000000000 := fun x hx => Nat.le_trans (hlen x hx) (by omega)
 unfold m_impl_ValidDawg
 rw [bind_of (nodesOk_eq d hlen')]
 cases hsh : shapeB d.Nodes with
 | false =>
  refine ⟨false, rfl, (fun h => by cases h), fun h => ?_⟩
  rw [h.shape.shapeB] at hsh; cases hsh
 | true =>
  have hD := shapeB_ok hsh
  have hpos := hD.pos
  have hmax := hD.max
  have h0 : 0 < d.Nodes.length := hpos
  simp only [Bool.not_true, cond_false]
  rw [bind_of (getL_of (z := 0) 0 rfl h0), Option.bind_some]
  have hnf : (ndD d.Nodes 0).1 = d.Nodes[0].Final := by rw [ndD_at h0]; rfl
  cases hF : d.Nodes[0].Final with
  | true =>
   refine ⟨false, rfl, (fun h => by cases h), fun h => ?_⟩
   have := h.nofin
   rw [hnf, hF] at this; cases this
  | false =>
   rw [cond_false, makeL_of (by omega), Option.bind_some, makeL_of (by omega), Option.bind_some, Option.bind_some]
   have hrep : ∀ j, (List.replicate d.Nodes.length false).getD j false = false := fun j => by
    rw [List.getD_eq_getElem?_getD, List.getElem?_replicate]; split <;> rfl
   have hrep0 : ∀ j, (List.replicate d.Nodes.length (0 : Int)).getD j 0 = 0 := fun j => by
    rw [List.getD_eq_getElem?_getD, List.getElem?_replicate]; split <;> rfl
   have hW : WFv d.Nodes 0 0 (List.replicate d.Nodes.length false) (List.replicate d.Nodes.length 0) (List.replicate d.Nodes.length 0) :=
    ⟨Nat.zero_le _, List.length_replicate, List.length_replicate, List.length_replicate, fun j => by rw [hrep0]; omega, fun j => by rw [hrep0]; omega, fun j hj => by omega, fun j _ => ⟨hrep j, hrep0 j, hrep0 j⟩, Nat.le_refl _⟩
   obtain ⟨r, s', hrun, hpost, hcan⟩ := visit_step hD hlen' fuelN 0 0 _ _ _ 0 (by show d.Nodes.length < 100000 + 0; omega) hW h0
   have hrun' : m_impl_inspector_visit (⟨⟨d.Nodes⟩, 0, List.replicate d.Nodes.length false, List.replicate d.Nodes.length 0, List.replicate d.Nodes.length 0⟩ : inspector) 0 = some (r, s') := hrun
   rw [bind_of hrun']
   -- a good automaton can be visited
   have hgoodcan : GoodD d.Nodes → r = true := fun h => by
    refine hcan ⟨14, d.Nodes.length, h.num.good.short, dd_numA ?_, fun o ho => by omega, fun j hj hj0 => ?_⟩
    ·have := h.num.num
     rw [List.length_map] at this
     exact this
    ·rcases preA_parent _ 14 hj with rfl | ⟨i, hi, e, he, rfl⟩
     ·exact absurd rfl hj0
     ·exact h.num.good.use i hi e he
   cases r with
   | false =>
    refine ⟨false, rfl, (fun h => by cases h), fun h => ?_⟩
    have := hgoodcan h; cases this
   | true =>
    obtain ⟨m', op', st', lg', rfl, hP⟩ := hpost rfl
    have hm'D := hP.wf.hm
    have hls : 0 < st'.length := by rw [hP.wf.ls]; exact h0
    have hll : 0 < lg'.length := by rw [hP.wf.ll]; exact h0
    obtain ⟨⟨c1, c2, c3, c4, c5⟩, c6⟩ := hP.wf.cl 0 hP.kcl.1 hP.kcl.2
    have hl0 := hP.wf.r0 0
    -- what a good one has
    have hgm : GoodD d.Nodes → m' = d.Nodes.length ∧ st'.getD 0 0 ≤ 3000 ∧ lg'.getD 0 0 ≤ 13 := fun h => by
     have h1 := hP.num 14 h.num.good.short
     have h2 : numA 0 (preA (ndD d.Nodes) 14 0) = some d.Nodes.length := dd_numA (by have := h.num.num; rw [List.length_map] at this; exact this)
     rw [h2] at h1
     have e1 : langA (ndD d.Nodes) ((lg'.getD 0 0).toNat + 1) 0 = langA (ndD d.Nodes) 14 0 := by
      rcases Nat.le_total 14 ((lg'.getD 0 0).toNat + 1) with hle | hle
      ·exact langA_fuel _ hle h.num.good.short
      ·exact (langA_fuel _ hle c2).symm
     refine ⟨(Option.some.inj h1).symm, ?_, ?_⟩
     ·rw [c3, e1]; have := h.few; omega
     ·rcases Int.lt_or_le 13 (lg'.getD 0 0) with hlt | hle
      ·exact absurd (shortA_mono _ (by omega) h.num.good.short) c5
      ·exact hle
    show ∃ r, ((bif (m' : Int) != (d.Nodes.length : Int) then _ else _ : Option _).bind _) = some r ∧ _
    by_cases hm : m' = d.Nodes.length
    ·rw [show ((m' : Int) != (d.Nodes.length : Int)) = false by rw [hm]; simp, cond_false]
     show ∃ r, (((getL st' ((0 : Nat) : Int)).bind _).bind _) = some r ∧ _
     rw [bind_of (getL_gd 0 hls)]
     by_cases hs : 3000 < st'.getD 0 0
     ·rw [decide_eq_true hs, cond_true]
      refine ⟨false, rfl, (fun h => by cases h), fun h => ?_⟩
      have := (hgm h).2.1; omega
     ·rw [decide_eq_false hs, cond_false]
      show ∃ r, (((getL lg' ((0 : Nat) : Int)).bind _).bind _) = some r ∧ _
      rw [bind_of (getL_gd 0 hll), Option.bind_some]
      by_cases hg : 13 < lg'.getD 0 0
      ·rw [decide_eq_true hg]
       refine ⟨false, rfl, (fun h => by cases h), fun h => ?_⟩
       have := (hgm h).2.2; omega
      ·rw [decide_eq_false hg]
       simp only [cond_false]
       obtain ⟨r2, hreg, hcase⟩ := reg_loop hD hlen d rfl d.Nodes.length 0 (by omega) (by rw [List.take_zero]; exact List.nodup_nil)
       have hreg' : loopM (fun s : (List (Str × Bool)) × Int => m_impl_ValidDawg_l1 d s.1 s.2) (([] : (List (Str × Bool))), 0) = some r2 := hreg
       rw [bind_of hreg']
       have hall : ∀ i, i < d.Nodes.length → i ∈ preA (ndD d.Nodes) 14 0 ∧ True := fun i hi => by
        have hsh : shortA (ndD d.Nodes) 14 0 := shortA_mono _ (by omega) c2
        have := numA_dd (hP.num 14 hsh)
        rw [hm] at this
        have : i ∈ ddA (List.range 0) (preA (ndD d.Nodes) 14 0) := by rw [this]; exact List.mem_range.2 hi
        rw [mem_ddA] at this
        exact ⟨this.resolve_left (by simp), trivial⟩
       rcases hcase with ⟨⟨M, rfl⟩, hnd⟩ | ⟨rfl, hnd⟩
       ·refine ⟨true, rfl, fun _ => ?_, fun _ => rfl⟩
        have hsh : shortA (ndD d.Nodes) 14 0 := shortA_mono _ (by omega) c2
        have hin := (keys_nodup hD).1 hnd
        have hpl : ∀ i ∈ preA (ndD d.Nodes) 14 0, i < d.Nodes.length := fun i hi => by
         have := numA_lt (hP.num 14 hsh) i hi; omega
        have e1 : langA (ndD d.Nodes) ((lg'.getD 0 0).toNat + 1) 0 = langA (ndD d.Nodes) 14 0 := (langA_fuel _ (by omega) c2).symm
        refine ⟨hD, by rw [hnf]; exact hF, ⟨⟨hsh, fun k hk => hD.apart k, fun k hk e he hnil => ?_, fun k hk j hj e => hin k j (hpl k hk) (hpl j hj) e⟩, ?_⟩, ?_⟩
        ·have hen := preA_next _ hsh hk e he
         have hel := hpl _ hen
         have hclose := hP.new e.2 (Nat.zero_le _) (by omega)
         obtain ⟨⟨q1, q2, q3, q4, q5⟩, q6⟩ := hP.wf.cl e.2 (by omega) hclose
         have hes := preA_short _ hsh hen
         have e2 : langA (ndD d.Nodes) ((lg'.getD e.2 0).toNat + 1) e.2 = langA (ndD d.Nodes) 14 e.2 := by
          rcases Nat.le_total 14 ((lg'.getD e.2 0).toNat + 1) with hle | hle
          ·exact langA_fuel _ hle hes
          ·exact (langA_fuel _ hle q2).symm
         rcases q4 with hp | h0'
         ·rw [q3, e2, hnil, List.length_nil] at hp
          omega
         ·have hks := preA_short _ hsh hk
          have := preA_acyc _ hks e he 14
          rw [h0'] at this
          exact this hk
        ·rw [List.length_map]
         have := numA_dd (hP.num 14 hsh)
         rw [hm] at this
         exact this
        ·rw [e1] at c3
         omega
       ·refine ⟨false, rfl, (fun h => by cases h), fun h => absurd ((keys_nodup hD).2 fun k j hk hj e => ?_) hnd⟩
        exact h.num.good.inj k (hall k hk).1 j (hall j hj).1 e
    ·rw [show ((m' : Int) != (d.Nodes.length : Int)) = true by rw [bne_iff_ne]; omega, cond_true]
     refine ⟨false, rfl, (fun h => by cases h), fun h => absurd (hgm h).1 hm⟩
end
section
def SortedW (R : List Str) : Prop := R.Pairwise fun a b => ltS a b = true
def RiseG {α : Type} (G : List (UInt8 × α)) : Prop := G.Pairwise fun a b => a.1 < b.1
theorem SortedW.map (c : UInt8) {R : List Str} (h : SortedW R) : SortedW (R.map (c :: ·)) := by
 unfold SortedW
 rw [List.pairwise_map]
 refine h.imp fun hab => ?_
 rw [ltS_cons]
 simp [hab]
theorem sorted_flat {α : Type} (f : α → List Str) : ∀ (G : List (UInt8 × α)), RiseG G → (∀ e ∈ G, SortedW (f e.2)) → SortedW (G.flatMap fun e => (f e.2).map (e.1 :: ·))
 | [], _, _ => List.Pairwise.nil
 | e :: G, hr, hs => by
  rw [List.flatMap_cons]
  unfold SortedW
  rw [List.pairwise_append]
  rw [RiseG, List.pairwise_cons] at hr
  refine ⟨(hs e List.mem_cons_self).map e.1, sorted_flat f G hr.2 fun x hx => hs x (List.mem_cons_of_mem _ hx), fun a ha b hb => ?_⟩
  obtain ⟨a', _, rfl⟩ := List.mem_map.1 ha
  obtain ⟨e', he', hb⟩ := List.mem_flatMap.1 hb
  obtain ⟨b', _, rfl⟩ := List.mem_map.1 hb
  rw [ltS_cons, decide_eq_true (hr.1 e' he')]; rfl
theorem langA_sorted {σ : Type} (nd : σ → Bool × List (UInt8 × σ)) (hr : ∀ k, RiseG (nd k).2) : ∀ (n : Nat) (k : σ), SortedW (langA nd n k)
 | 0, _ => List.Pairwise.nil
 | n + 1, k => by
  rw [langA]
  unfold SortedW
  rw [List.pairwise_append]
  refine ⟨by split <;> simp, sorted_flat (langA nd n) _ (hr k) fun e _ => langA_sorted nd hr n e.2, fun a ha b hb => ?_⟩
  have ha' : a = [] := by
   split at ha
   ·rwa [List.mem_singleton] at ha
   ·cases ha
  subst ha'
  obtain ⟨e', he', hb⟩ := List.mem_flatMap.1 hb
  obtain ⟨b', _, rfl⟩ := List.mem_map.1 hb
  exact ltS_nil_cons _ _
theorem RiseG.apart {α : Type} : ∀ {G : List (UInt8 × α)}, RiseG G → apartG G
 | [], _ => trivial
 | [_], _ => trivial
 | (c, x) :: (d, y) :: G, h => by
  rw [RiseG, List.pairwise_cons] at h
  exact ⟨fun e => by
   have := h.1 (d, y) List.mem_cons_self
   simp only at this
   rw [e] at this
   exact UInt8.lt_irrefl _ this, RiseG.apart h.2⟩
theorem rise_of_steps {α : Type} : ∀ {G : List (UInt8 × α)}, (∀ i, (h : i + 1 < G.length) → G[i].1 < G[i + 1].1) → RiseG G
 | [], _ => List.Pairwise.nil
 | [_], _ => List.pairwise_singleton _ _
 | (c, x) :: (d, y) :: G, h => by
  have h0 := h 0 (by simp)
  simp only [List.getElem_cons_zero, List.getElem_cons_succ, Nat.zero_add] at h0
  have ht : RiseG ((d, y) :: G) := rise_of_steps fun i hi => by
   have := h (i + 1) (by simpa using hi)
   simpa using this
  have ht' := ht
  rw [RiseG, List.pairwise_cons] at ht'
  rw [RiseG, List.pairwise_cons]
  refine ⟨fun e he => ?_, ht⟩
  rcases List.mem_cons.1 he with rfl | he
  ·exact h0
  ·exact UInt8.lt_trans h0 (ht'.1 e he)
theorem NodeOk.rise {n : Nat} {x : Node} (hx : NodeOk n x) : RiseG (ndN x).2 := by
 refine rise_of_steps fun i hi => ?_
 have hi' : i + 1 < x.Next.length := by rw [hx.edges_len] at hi; exact hi
 have e1 := hx.edge (i := i) (by omega)
 have e2 := hx.edge hi'
 rw [List.getElem?_eq_getElem (by rw [hx.edges_len]; omega), Option.some.injEq] at e1
 rw [List.getElem?_eq_getElem (by rw [hx.edges_len]; omega), Option.some.injEq] at e2
 rw [e1, e2]
 exact hx.inc i (by rw [hx.len]; exact hi')
theorem ShapeOk.rise {D : List Node} (h : ShapeOk D) (k : Nat) : RiseG (ndD D k).2 := by
 by_cases hk : k < D.length
 ·rw [ndD_at hk]; exact (h.node _ (List.getElem_mem hk)).rise
 ·rw [ndD_none (by omega)]; exact List.Pairwise.nil
theorem langA_form {D : List Node} (h : ShapeOk D) : ∀ (n : Nat) (k : Nat), ∀ w ∈ langA (ndD D) n k, ∀ c ∈ w, formB c = true
 | 0, _, w, hw, _, _ => by cases hw
 | n + 1, k, w, hw, c, hc => by
  rw [langA] at hw
  rcases List.mem_append.1 hw with hw | hw
  ·have : w = [] := by
    split at hw
    ·rwa [List.mem_singleton] at hw
    ·cases hw
   subst this; cases hc
  ·obtain ⟨e, he, hw⟩ := List.mem_flatMap.1 hw
   obtain ⟨w', hw', rfl⟩ := List.mem_map.1 hw
   rcases List.mem_cons.1 hc with rfl | hc
   ·by_cases hk : k < D.length
    ·rw [ndD_at hk] at he
     exact (h.node _ (List.getElem_mem hk)).form _ (List.of_mem_zip (he : (e.1, e.2) ∈ _)).1
    ·rw [ndD_none (by omega)] at he; cases he
   ·exact langA_form h n e.2 w' hw' c hc
theorem langA_le {σ : Type} (nd : σ → Bool × List (UInt8 × σ)) : ∀ (n : Nat) (k : σ), ∀ w ∈ langA nd n k, w.length + 1 ≤ n
 | 0, _, w, hw => by cases hw
 | n + 1, k, w, hw => by
  rw [langA] at hw
  rcases List.mem_append.1 hw with hw | hw
  ·have : w = [] := by
    split at hw
    ·rwa [List.mem_singleton] at hw
    ·cases hw
   subst this; simp
  ·obtain ⟨e, he, hw⟩ := List.mem_flatMap.1 hw
   obtain ⟨w', hw', rfl⟩ := List.mem_map.1 hw
   have := langA_le nd n e.2 w' hw'
   rw [List.length_cons]; omega
/-! the reference's walk -/
abbrev mkW (D : List Node) (out : List Str) (full : Bool) : l06W := ⟨⟨D⟩, out, full⟩
def SpecW (D : List Node) (n : Nat) : Prop := ∀ (f : Nat) (out : List Str) (s : Str) (k : Nat), n < f → s.length + n = 14 → out.length ≤ 3000 → k < D.length →
 ∃ out' full', m_spec_l06W_walk_n f (mkW D out false) (k : Int) s = some (mkW D out' full') ∧
  (full' = false → shortA (ndD D) n k ∧ out' = out ++ (langA (ndD D) n k).map (s ++ ·) ∧ out'.length ≤ 3000) ∧
  (full' = true → ¬ (shortA (ndD D) n k ∧ out.length + (langA (ndD D) n k).length ≤ 3000))
theorem walk_loop {D : List Node} (hD : ShapeOk D) (hlen : ∀ x ∈ D, x.Next.length ≤ 2000000) {n f : Nat} (ih : SpecW D n) (hf : n < f) {s : Str} (hs : s.length + (n + 1) = 14) {k : Nat} (hk : k < D.length) (w1 : l06W) (hw1 : w1.d = ⟨D⟩) :
  ∀ (c i : Nat) (out : List Str) (full : Bool), i + c = D[k].Next.length → (full = false → out.length ≤ 3000) →
   ∃ out' full', loopM (fun q : Bool × (List Str) × Int => m_spec_l06W_walk_l1 D[k] s (m_spec_l06W_walk_n f) w1 q.1 q.2.1 q.2.2) (full, out, (i : Int)) = some (full', out') ∧
    (full' = false → full = false ∧ (∀ e ∈ (ndD D k).2.drop i, shortA (ndD D) n e.2) ∧ out' = out ++ (((ndD D k).2.drop i).flatMap fun e => (langA (ndD D) n e.2).map (e.1 :: ·)).map (s ++ ·) ∧ out'.length ≤ 3000) ∧
    (full' = true → full = true ∨ ¬ ((∀ e ∈ (ndD D k).2.drop i, shortA (ndD D) n e.2) ∧ out.length + (((ndD D k).2.drop i).flatMap fun e => (langA (ndD D) n e.2).map (e.1 :: ·)).length ≤ 3000))
 | 0, i, out, full, hc, ho => by
  rw [Nat.add_zero] at hc
  have hx := hD.node _ (List.getElem_mem hk)
  have hdrop : (ndD D k).2.drop i = [] := by
   rw [ndD_at hk]; exact List.drop_of_length_le (by rw [hx.edges_len]; omega)
  refine ⟨out, full, loopM_done ?_, fun h => ⟨h, by rw [hdrop]; simp, by rw [hdrop]; simp, ho h⟩, fun h => .inl h⟩
  show m_spec_l06W_walk_l1 D[k] s _ w1 full out (i : Int) = _
  unfold m_spec_l06W_walk_l1
  rw [decide_eq_false (show ¬ (i : Int) < (D[k].Next.length : Int) by omega)]
  rfl
 | c + 1, i, out, full, hc, ho => by
  have hx := hD.node _ (List.getElem_mem hk)
  have hnl := hlen _ (List.getElem_mem hk)
  have hi : i < D[k].Next.length := by omega
  have hli : i < D[k].Letters.length := by rw [hx.len]; exact hi
  cases full with
  | true =>
   refine ⟨out, true, loopM_done ?_, (fun h => by cases h), fun _ => .inl rfl⟩
   show m_spec_l06W_walk_l1 D[k] s _ w1 true out (i : Int) = _
   unfold m_spec_l06W_walk_l1
   rw [decide_eq_true (show (i : Int) < (D[k].Next.length : Int) by omega)]
   rfl
  | false =>
   have hol := ho rfl
   have hnn := (hx.next _ (List.getElem_mem hi))
   obtain ⟨t, ht⟩ : ∃ t : Nat, D[k].Next[i] = (t : Int) := ⟨D[k].Next[i].toNat, by omega⟩
   have htl : t < D.length := by omega
   have hedge : (ndD D k).2[i]? = some (D[k].Letters[i], t) := by
    rw [ndD_at hk, hx.edge hi, ht, Int.toNat_natCast]
   obtain ⟨h2, h3⟩ := List.getElem?_eq_some_iff.1 hedge
   have hdrop : (ndD D k).2.drop i = (D[k].Letters[i], t) :: (ndD D k).2.drop (i + 1) := by
    rw [List.drop_eq_getElem_cons h2, h3]
   obtain ⟨out1, full1, hrun, hno, hyes⟩ := ih f out (s ++ [D[k].Letters[i]]) t hf (by simp; omega) hol htl
   have hstep : m_spec_l06W_walk_l1 D[k] s (m_spec_l06W_walk_n f) w1 false out (i : Int) = some (.inl (full1, out1, ((i + 1 : Nat) : Int))) := by
    unfold m_spec_l06W_walk_l1
    have hsub : subL D[k].Letters (i : Int) ((i + 1 : Nat) : Int) = some [D[k].Letters[i]] := by
     rw [subL_of (by omega) (by omega) (by omega), Int.toNat_natCast, Int.toNat_natCast, Nat.add_sub_cancel_left, List.drop_eq_getElem_cons hli]
     rfl
    rw [chk_succ (show i ≤ 8000000000000000000 by omega), decide_eq_true (show (i : Int) < (D[k].Next.length : Int) by omega), cond_true, Option.bind_some, Bool.not_false, cond_true, bind_of (getL_at hi), Option.bind_some, bind_of hsub, bind_of (catL_of (by simp; omega)), ht, hw1, bind_of hrun]
    rfl
   obtain ⟨out', full', hrec, hn, hy⟩ := walk_loop hD hlen ih hf hs hk w1 hw1 c (i + 1) out1 full1 (by omega) fun h => (hno h).2.2
   refine ⟨out', full', ?_, fun h => ?_, fun h => ?_⟩
   ·rw [loopM_next (show (fun q : Bool × (List Str) × Int => m_spec_l06W_walk_l1 D[k] s (m_spec_l06W_walk_n f) w1 q.1 q.2.1 q.2.2) (false, out, (i : Int)) = _ from hstep)]
    exact hrec
   ·obtain ⟨h1, h2, h3, h4⟩ := hn h
    obtain ⟨g1, g2, g3⟩ := hno h1
    refine ⟨rfl, fun e he => ?_, ?_, h4⟩
    ·rw [hdrop] at he
     rcases List.mem_cons.1 he with rfl | he
     ·exact g1
     ·exact h2 e he
    ·rw [h3, g2, hdrop, List.flatMap_cons, List.map_append, List.append_assoc]
     congr 2
     rw [List.map_map]
     refine List.map_congr_left fun w _ => ?_
     simp [Function.comp]
   ·right
    rintro ⟨h1, h2⟩
    rw [hdrop] at h1 h2
    rw [List.flatMap_cons, List.length_append, List.length_map] at h2
    have hsh := h1 (D[k].Letters[i], t) List.mem_cons_self
    cases full1 with
    | true => exact hyes rfl ⟨hsh, by simp only at h2; omega⟩
    | false =>
     obtain ⟨g1, g2, g3⟩ := hno rfl
     rcases hy h with h' | h'
     ·cases h'
     ·refine h' ⟨fun e he => h1 e (List.mem_cons_of_mem _ he), ?_⟩
      rw [g2, List.length_append, List.length_map]
      simp only at h2
      omega
theorem walk_step {D : List Node} (hD : ShapeOk D) (hlen : ∀ x ∈ D, x.Next.length ≤ 2000000) : ∀ n, SpecW D n
 | 0 => fun f out s k hf hs ho hk => by
  obtain ⟨f, rfl⟩ : ∃ g, f = g + 1 := ⟨f - 1, by omega⟩
  refine ⟨out, true, ?_, (fun h => by cases h), fun _ h => h.1⟩
  show m_spec_l06W_walk_b (m_spec_l06W_walk_n f) (mkW D out false) (k : Int) s = _
  unfold m_spec_l06W_walk_b
  have : decide ((13 : Int) < (s.length : Int)) = true := decide_eq_true (by omega)
  show ((some (decide ((13 : Int) < (s.length : Int)))).bind _) = _
  rw [this]; rfl
 | n + 1 => fun f out s k hf hs ho hk => by
  obtain ⟨f, rfl⟩ : ∃ g, f = g + 1 := ⟨f - 1, by omega⟩
  have hx := hD.node _ (List.getElem_mem hk)
  show ∃ out' full', m_spec_l06W_walk_b (m_spec_l06W_walk_n f) (mkW D out false) (k : Int) s = _ ∧ _
  unfold m_spec_l06W_walk_b
  have h13 : decide ((13 : Int) < (s.length : Int)) = false := decide_eq_false (by omega)
  show ∃ out' full', ((some (decide ((13 : Int) < (s.length : Int)))).bind _) = _ ∧ _
  rw [h13]
  show ∃ out' full', ((getL D (k : Int)).bind _) = _ ∧ _
  rw [bind_of (getL_at hk)]
  have hhead : (bif D[k].Final then (catL out ([s] : (List Str))).bind fun xs51 => some (decide (3000 < (xs51.length : Int)), xs51) else some (false, out) : Option (Bool × (List Str))) =
    some (decide (3000 < (out ++ (if D[k].Final then [s] else [])).length), out ++ (if D[k].Final then [s] else [])) := by
   cases D[k].Final with
   | true =>
    rw [cond_true, catL_of (by simp; omega), Option.bind_some]
    simp only [if_true]
    congr 2
    rw [decide_eq_decide]; omega
   | false =>
    rw [cond_false]
    simp only [Bool.false_eq_true, if_false, List.append_nil]
    rw [decide_eq_false (by omega)]
  have hhead' : (bif D[k].Final then (catL (mkW D out false).out ([s] : (List Str))).bind fun xs51 => some (decide (3000 < (xs51.length : Int)), xs51) else some ((mkW D out false).full, (mkW D out false).out) : Option (Bool × (List Str))) = _ := hhead
  rw [bind_of hhead']
  generalize ho1 : out ++ (if D[k].Final then [s] else []) = out1
  obtain ⟨out', full', hrun, hn, hy⟩ := walk_loop (n := n) (f := f) hD hlen (walk_step hD hlen n) (by omega) hs hk (mkW D out false) rfl D[k].Next.length 0 out1 (decide (3000 < out1.length)) (by omega) (fun h => by have := of_decide_eq_false h; omega)
  have hrun' : loopM (fun q : Bool × (List Str) × Int => m_spec_l06W_walk_l1 D[k] s (m_spec_l06W_walk_n f) (mkW D out false) q.1 q.2.1 q.2.2) (decide (3000 < out1.length), out1, 0) = some (full', out') := hrun
  show ∃ out' full', ((loopM (fun q : Bool × (List Str) × Int => m_spec_l06W_walk_l1 D[k] s (m_spec_l06W_walk_n f) (mkW D out false) q.1 q.2.1 q.2.2) (decide (3000 < out1.length), out1, 0)).bind _) = _ ∧ _
  rw [bind_of hrun']
  rw [List.drop_zero] at hn hy
  have hlang : langA (ndD D) (n + 1) k = (if D[k].Final then [[]] else []) ++ ((ndD D k).2.flatMap fun e => (langA (ndD D) n e.2).map (e.1 :: ·)) := by
   rw [langA]
   have : (ndD D k).1 = D[k].Final := by rw [ndD_at hk]; rfl
   rw [this]
  have hout : out1.length = out.length + (if D[k].Final = true then ([[]] : List Str) else []).length := by
   rw [← ho1, List.length_append]; split <;> rfl
  refine ⟨out', full', rfl, fun h => ?_, fun h => ?_⟩
  ·obtain ⟨h1, h2, h3, h4⟩ := hn h
   refine ⟨h2, ?_, h4⟩
   rw [h3, ← ho1, hlang, List.map_append, List.append_assoc]
   congr 2
   split
   ·simp
   ·rfl
  ·rintro ⟨h1, h2⟩
   rw [hlang, List.length_append] at h2
   rcases hy h with h' | h'
   ·have := of_decide_eq_true h'; omega
   ·exact h' ⟨h1, by omega⟩
theorem Words_eq (d : Dawg) (hD : ShapeOk d.Nodes) (hlen : ∀ x ∈ d.Nodes, x.Next.length ≤ 2000000) : ∃ out ok, m_spec_l06Words d = some (out, ok) ∧
  (ok = true ↔ shortA (ndD d.Nodes) 14 0 ∧ (langA (ndD d.Nodes) 14 0).length ≤ 3000) ∧ (ok = true → out = langA (ndD d.Nodes) 14 0) := by
 have h0 : 0 < d.Nodes.length := hD.pos
 obtain ⟨out, full, hrun, hn, hy⟩ := walk_step hD hlen 14 fuelN [] [] 0 (by show 14 < 100000; omega) rfl (by simp) h0
 have hrun' : m_spec_l06W_walk (⟨d, ([] : (List Str)), false⟩ : l06W) 0 ([] : Str) = some (mkW d.Nodes out full) := hrun
 unfold m_spec_l06Words
 rw [bind_of hrun']
 have hid : ((langA (ndD d.Nodes) 14 0).map (([] : Str) ++ ·)) = langA (ndD d.Nodes) 14 0 := by simp
 refine ⟨out, !full, rfl, ⟨fun h => ?_, fun h => ?_⟩, fun h => ?_⟩
 ·obtain ⟨h1, h2, h3⟩ := hn (by simpa using h)
  rw [hid, List.nil_append] at h2
  exact ⟨h1, by rw [← h2]; exact h3⟩
 ·cases full with
  | false => rfl
  | true => exact absurd ⟨h.1, by simpa using h.2⟩ (hy rfl)
 ·obtain ⟨h1, h2, h3⟩ := hn (by simpa using h)
  rw [hid, List.nil_append] at h2
  exact h2
end
section
/-! groups -/
def runT (c : UInt8) : List Str → List Str
 | (d :: t) :: R => if d = c then t :: runT c R else []
 | _ => []
theorem runT_hd (c : UInt8) (t : Str) (R : List Str) : runT c ((c :: t) :: R) = t :: runT c R := by rw [runT, if_pos rfl]
theorem grpA_run : ∀ (R : List Str) (c : UInt8) (t : Str), (∀ w ∈ R, w ≠ []) → grpA ((c :: t) :: R) = (c, runT c ((c :: t) :: R)) :: grpA (((c :: t) :: R).drop (runT c ((c :: t) :: R)).length)
 | [], c, t, _ => by rw [runT_hd]; rfl
 | [] :: R, c, t, h => absurd rfl (h [] List.mem_cons_self)
 | (d :: u) :: R, c, t, h => by
  have ih := grpA_run R d u fun w hw => h w (List.mem_cons_of_mem _ hw)
  rw [runT_hd, grpA, ih]
  by_cases hcd : c = d
  ·subst hcd
   simp only [if_true, List.length_cons, List.drop_succ_cons]
  ·simp only [if_neg hcd]
   have : runT c ((d :: u) :: R) = [] := by rw [runT, if_neg (fun e => hcd e.symm)]
   rw [this, ← ih]
   rfl
theorem runT_at (c : UInt8) : ∀ (L : List Str) (j : Nat) (h : j < (runT c L).length), L[j]? = some (c :: (runT c L)[j])
 | [], j, h => by simp [runT] at h
 | [] :: R, j, h => by simp [runT] at h
 | (d :: t) :: R, j, h => by
  by_cases hd : d = c
  ·subst hd
   have e : runT d ((d :: t) :: R) = t :: runT d R := runT_hd d t R
   cases j with
   | zero => simp [e]
   | succ j =>
    have hj : j < (runT d R).length := by rw [e] at h; simpa using h
    have := runT_at d R j hj
    rw [List.getElem?_cons_succ, this]
    simp [e]
  ·simp [runT, hd] at h
theorem runT_end (c : UInt8) : ∀ (L : List Str), (∀ w ∈ L, w ≠ []) → ∀ d t, L[(runT c L).length]? = some (d :: t) → d ≠ c
 | [], _, d, t, h => by simp at h
 | [] :: R, hn, _, _, _ => absurd rfl (hn [] List.mem_cons_self)
 | (e :: u) :: R, hn, d, t, h => by
  by_cases hd : e = c
  ·subst hd
   rw [runT_hd, List.length_cons, List.getElem?_cons_succ] at h
   exact runT_end e R (fun w hw => hn w (List.mem_cons_of_mem _ hw)) d t h
  ·have : runT c ((e :: u) :: R) = [] := by rw [runT, if_neg hd]
   rw [this, List.length_nil, List.getElem?_cons_zero, Option.some.injEq, List.cons.injEq] at h
   exact h.1 ▸ hd
theorem runT_le (c : UInt8) : ∀ (L : List Str), (runT c L).length ≤ L.length
 | [] => by simp [runT]
 | [] :: R => by simp [runT]
 | (d :: t) :: R => by
  rw [runT]
  split
  ·rw [List.length_cons, List.length_cons]; have := runT_le c R; omega
  ·simp
theorem flat_grp : ∀ (R : List Str), (∀ w ∈ R, w ≠ []) → flatG (grpA R) = R
 | [], _ => rfl
 | [] :: R, h => absurd rfl (h [] List.mem_cons_self)
 | (c :: t) :: R, h => by
  have ih := flat_grp R fun w hw => h w (List.mem_cons_of_mem _ hw)
  rw [grpA]
  cases hg : grpA R with
  | nil => rw [hg] at ih; simp only [flatG, List.flatMap_nil] at ih; rw [← ih]; rfl
  | cons g G =>
   obtain ⟨d, T⟩ := g
   rw [hg] at ih
   simp only
   split
   ·rename_i e
    subst e
    rw [← ih]; rfl
   ·rw [← ih]; rfl
theorem grp_ne : ∀ (R : List Str), ∀ e ∈ grpA R, e.2 ≠ []
 | [], e, h => by cases h
 | [] :: R, e, h => grp_ne R e (by rw [grpA] at h; exact h)
 | (c :: t) :: R, e, h => by
  rw [grpA] at h
  have ih := grp_ne R
  cases hg : grpA R with
  | nil =>
   rw [hg] at h
   simp only [List.mem_singleton] at h
   subst h; simp
  | cons g G =>
   obtain ⟨d, T⟩ := g
   rw [hg] at h ih
   simp only at h
   split at h
   ·rcases List.mem_cons.1 h with rfl | h
    ·simp
    ·exact ih e (List.mem_cons_of_mem _ h)
   ·rcases List.mem_cons.1 h with rfl | h
    ·simp
    ·exact ih e h
theorem grp_mem : ∀ {R : List Str} {e : UInt8 × List Str}, e ∈ grpA R → ∀ w ∈ e.2, e.1 :: w ∈ R
 | [], e, h, w, hw => by cases h
 | [] :: R, e, h, w, hw => List.mem_cons_of_mem _ (grp_mem (R := R) (by rw [grpA] at h; exact h) w hw)
 | (c :: t) :: R, e, h, w, hw => by
  rw [grpA] at h
  cases hg : grpA R with
  | nil =>
   rw [hg] at h
   simp only [List.mem_singleton] at h
   subst h
   rw [List.mem_singleton] at hw
   subst hw
   exact List.mem_cons_self
  | cons g G =>
   obtain ⟨d, T⟩ := g
   have ih := fun e he => grp_mem (R := R) (e := e) (by rw [hg]; exact he)
   rw [hg] at h
   simp only at h
   split at h
   ·rename_i hcd
    subst hcd
    rcases List.mem_cons.1 h with rfl | h
    ·rcases List.mem_cons.1 hw with rfl | hw
     ·exact List.mem_cons_self
     ·exact List.mem_cons_of_mem _ (ih (c, T) List.mem_cons_self w hw)
    ·exact List.mem_cons_of_mem _ (ih e (List.mem_cons_of_mem _ h) w hw)
   ·rcases List.mem_cons.1 h with rfl | h
    ·rw [List.mem_singleton] at hw
     subst hw
     exact List.mem_cons_self
    ·exact List.mem_cons_of_mem _ (ih e h w hw)
theorem grp_sorted : ∀ {R : List Str}, SortedW R → RiseG (grpA R) ∧ ∀ e ∈ grpA R, SortedW e.2
 | [], _ => ⟨List.Pairwise.nil, fun e h => by cases h⟩
 | [] :: R, h => by
  rw [SortedW, List.pairwise_cons] at h
  rw [grpA]
  exact grp_sorted h.2
 | (c :: t) :: R, h => by
  rw [SortedW, List.pairwise_cons] at h
  obtain ⟨ih1, ih2⟩ := grp_sorted (R := R) h.2
  rw [grpA]
  cases hg : grpA R with
  | nil => exact ⟨List.pairwise_singleton _ _, fun e he => by rw [List.mem_singleton] at he; subst he; exact List.pairwise_singleton _ _⟩
  | cons g G =>
   obtain ⟨d, T⟩ := g
   rw [hg] at ih1 ih2
   have hmem := fun e he => grp_mem (R := R) (e := e) (by rw [hg]; exact he)
   have hlt : ∀ w ∈ T, c < d ∨ (c = d ∧ ltS t w = true) := fun w hw => by
    have := h.1 (d :: w) (hmem (d, T) List.mem_cons_self w hw)
    rw [ltS_cons, Bool.or_eq_true, decide_eq_true_iff, Bool.and_eq_true, beq_iff_eq] at this
    exact this
   have hT : T ≠ [] := grp_ne R (d, T) (by rw [hg]; exact List.mem_cons_self)
   simp only
   split
   ·rename_i hcd
    subst hcd
    refine ⟨?_, fun e he => ?_⟩
    ·rw [RiseG, List.pairwise_cons] at ih1 ⊢
     exact ⟨ih1.1, ih1.2⟩
    ·rcases List.mem_cons.1 he with rfl | he
     ·rw [SortedW, List.pairwise_cons]
      refine ⟨fun w hw => ?_, ih2 (c, T) List.mem_cons_self⟩
      rcases hlt w hw with h' | h'
      ·exact absurd h' (UInt8.lt_irrefl _)
      ·exact h'.2
     ·exact ih2 e (List.mem_cons_of_mem _ he)
   ·rename_i hcd
    have hcd' : c < d := by
     obtain ⟨w, hw⟩ := List.exists_mem_of_ne_nil T hT
     rcases hlt w hw with h' | h'
     ·exact h'
     ·exact absurd h'.1 hcd
    refine ⟨?_, fun e he => ?_⟩
    ·have ih1' := ih1
     rw [RiseG, List.pairwise_cons] at ih1'
     rw [RiseG, List.pairwise_cons]
     refine ⟨fun e he => ?_, ih1⟩
     rcases List.mem_cons.1 he with rfl | he
     ·exact hcd'
     ·exact UInt8.lt_trans hcd' (ih1'.1 e he)
    ·rcases List.mem_cons.1 he with rfl | he
     ·exact List.pairwise_singleton _ _
     ·exact ih2 e he
theorem sorted_tail {x : Str} {R : List Str} (h : SortedW (x :: R)) : ∀ w ∈ R, w ≠ [] := fun w hw e => by
 rw [SortedW, List.pairwise_cons] at h
 have := h.1 w hw
 rw [e, ltS_nil] at this
 cases this
theorem sorted_split {R : List Str} (h : SortedW R) : R = (if hasE R then [[]] else []) ++ flatG (grpA R) := by
 cases R with
 | nil => rfl
 | cons x R =>
  cases x with
  | nil =>
   show [] :: R = [[]] ++ flatG (grpA ([] :: R))
   rw [grpA, flat_grp R (sorted_tail h)]
   rfl
  | cons c t =>
   show (c :: t) :: R = [] ++ flatG (grpA ((c :: t) :: R))
   rw [flat_grp _ (fun w hw => ?_)]
   ·rfl
   ·rcases List.mem_cons.1 hw with rfl | hw
    ·simp
    ·exact sorted_tail h w hw
def totA (R : List Str) : Nat := (R.map List.length).sum
theorem totA_grp : ∀ (R : List Str), ((grpA R).map fun e => 1 + totA e.2).sum ≤ totA R
 | [] => Nat.le_refl _
 | [] :: R => by
  rw [grpA]
  have := totA_grp R
  simp only [totA, List.map_cons, List.length_nil, List.sum_cons, Nat.zero_add] at this ⊢
  exact this
 | (c :: t) :: R => by
  have ih := totA_grp R
  rw [grpA]
  cases hg : grpA R with
  | nil => simp only [totA, List.map_cons, List.map_nil, List.sum_cons, List.sum_nil, List.length_cons]; omega
  | cons g G =>
   obtain ⟨d, T⟩ := g
   rw [hg] at ih
   simp only
   split
   ·simp only [totA, List.map_cons, List.sum_cons, List.length_cons] at ih ⊢; omega
   ·simp only [totA, List.map_cons, List.map_nil, List.sum_cons, List.sum_nil, List.length_cons] at ih ⊢; omega
/-! the reference's tails -/
theorem Tails_eq (R : List Str) (p : Nat) (c : UInt8) (t : Str) (L : List Str) (hp : R.drop p = (c :: t) :: L) (hne : ∀ w ∈ R.drop p, w ≠ []) (hl : R.length ≤ 10000000) :
  m_spec_l06Tails R (p : Int) = some (runT c (R.drop p), (((p + (runT c (R.drop p)).length : Nat)) : Int)) := by
 have hat : ∀ j, (R.drop p)[j]? = R[p + j]? := fun j => List.getElem?_drop
 have h0 : R[p]? = some (c :: t) := by
  have := hat 0
  rw [hp, Nat.add_zero] at this
  exact this.symm
 obtain ⟨hpl, hp0⟩ := List.getElem?_eq_some_iff.1 h0
 unfold m_spec_l06Tails
 have hg0 : getL (c :: t) 0 = some c := rfl
 rw [bind_of (getL_at hpl), hp0, bind_of hg0]
 generalize hL : R.drop p = L' at hne hat ⊢
 have hrl := runT_le c L'
 have hLl : L'.length = R.length - p := by rw [← hL, List.length_drop]
 have hloop : loopM (fun s : (List Str) × Int => m_spec_l06Tails_l1 R c s.1 s.2) (([] : (List Str)), (p : Int)) = some (runT c L', (((p + (runT c L').length : Nat)) : Int)) := by
  refine loop_run (step := fun s : (List Str) × Int => m_spec_l06Tails_l1 R c s.1 s.2) (fun j => ((runT c L').take j, (((p + j : Nat)) : Int))) (runT c L').length _ (fun j hj => ?_) ?_ 0 (Nat.zero_le _)
  ·have h1 := runT_at c L' j hj
   rw [hat] at h1
   obtain ⟨h2, h3⟩ := List.getElem?_eq_some_iff.1 h1
   show m_spec_l06Tails_l1 R c ((runT c L').take j) (((p + j : Nat)) : Int) = _
   unfold m_spec_l06Tails_l1
   rw [chk_succ (show p + j ≤ 8000000000000000000 by omega), decide_eq_true (show (((p + j : Nat)) : Int) < (R.length : Int) by omega), cond_true, bind_of (getL_at h2), h3]
   show ((some (c == c)).bind _) = _
   rw [show (c == c) = true by simp, Option.bind_some, cond_true, bind_of (getL_at h2), h3]
   have hsub : subL (c :: (runT c L')[j]) 1 ((c :: (runT c L')[j]).length : Int) = some (runT c L')[j] := by
    rw [subL_of (by omega) (by simp; omega) (by omega)]
    have : ((c :: (runT c L')[j]).length : Int).toNat - (1 : Int).toNat = (runT c L')[j].length := by simp
    rw [this, show (1 : Int).toNat = 1 from rfl, List.drop_succ_cons, List.drop_zero, List.take_length]
   rw [hsub, Option.bind_some, catL_of (by rw [List.length_take]; simp; omega)]
   rw [Option.bind_some, Option.bind_some, List.take_add_one, List.getElem?_eq_getElem hj]
   rfl
  ·show m_spec_l06Tails_l1 R c ((runT c L').take (runT c L').length) (((p + (runT c L').length : Nat)) : Int) = _
   unfold m_spec_l06Tails_l1
   rw [List.take_length]
   by_cases hend : p + (runT c L').length < R.length
   ·rw [decide_eq_true (show (((p + (runT c L').length : Nat)) : Int) < (R.length : Int) by omega), cond_true, bind_of (getL_at hend)]
    have h1 : L'[(runT c L').length]? = some R[p + (runT c L').length] := by rw [hat, List.getElem?_eq_getElem hend]
    have hw := hne _ (List.mem_of_getElem? h1)
    cases hx : R[p + (runT c L').length] with
    | nil => exact absurd hx hw
    | cons d u =>
     rw [hx] at h1
     have hd := runT_end c L' hne d u h1
     show ((some (d == c)).bind _) = _
     rw [show (d == c) = false by simpa using hd]
     rfl
   ·rw [decide_eq_false (show ¬ (((p + (runT c L').length : Nat)) : Int) < (R.length : Int) by omega)]
    rfl
 rw [bind_of hloop]
 rfl
/-! equal nodes -/
theorem l00Same_eq (a b : List Int) (hl : a.length ≤ 10000000) : m_spec_l00Same a b = some (decide (a = b)) := by
 unfold m_spec_l00Same
 by_cases h : a.length = b.length
 ·rw [show ((a.length : Int) != (b.length : Int)) = false by rw [h]; simp, cond_false]
  have := loop_all (step := fun s => m_spec_l00Same_l1 a b s) (fun i => a[i]? == b[i]?) a.length (Sum.inl () : Unit ⊕ Bool) (.inr false) (fun i hi => by
    have hib : i < b.length := by omega
    show m_spec_l00Same_l1 a b (i : Int) = _
    unfold m_spec_l00Same_l1
    rw [show chk ((i : Int) + 1) = some ((i : Int) + 1) from chk_in (by omega) (by omega), decide_eq_true (show (i : Int) < (a.length : Int) by omega), cond_true, bind_of (getL_at hi), bind_of (getL_at hib), List.getElem?_eq_getElem hi, List.getElem?_eq_getElem hib]
    by_cases he : a[i] = b[i]
    ·rw [show (a[i] != b[i]) = false by rw [he]; simp, show (some a[i] == some b[i]) = true by rw [he]; simp]; rfl
    ·rw [show (a[i] != b[i]) = true by simpa using he, show (some a[i] == some b[i]) = false by simpa using he]; rfl)
   (by show m_spec_l00Same_l1 a b (a.length : Int) = _; unfold m_spec_l00Same_l1; rw [decide_eq_false (by omega)]; rfl) a.length 0 (by omega)
  rw [show ((0 : Nat) : Int) = 0 from rfl] at this
  rw [bind_of this]
  have hiff : allI (fun i => a[i]? == b[i]?) 0 a.length = decide (a = b) := by
   rw [Bool.eq_iff_iff, allI_iff, decide_eq_true_iff]
   constructor
   ·intro hh
    apply List.ext_getElem?
    intro i
    by_cases hi : i < a.length
    ·have := hh i (Nat.zero_le _) (by omega)
     simpa using this
    ·rw [List.getElem?_eq_none (by omega), List.getElem?_eq_none (by omega)]
   ·rintro rfl i _ _; simp
  rw [hiff]
  cases decide (a = b) <;> rfl
 ·rw [show ((a.length : Int) != (b.length : Int)) = true by rw [bne_iff_ne]; omega, cond_true, decide_eq_false (fun e => h (by rw [e]))]
theorem l06Equal_eq (a b : Node) (hl : a.Next.length ≤ 10000000) : m_spec_l06Equal a b = some (decide (a = b)) := by
 unfold m_spec_l06Equal
 obtain ⟨f, l, n⟩ := a
 obtain ⟨g, l', n'⟩ := b
 simp only at hl ⊢
 rw [l00Same_eq n n' hl]
 by_cases h1 : f = g
 ·subst h1
  rw [show (f == f) = true by simp, cond_true]
  by_cases h2 : l = l'
  ·subst h2
   rw [show (l == l) = true by simp, cond_true]
   have : decide (n = n') = decide ((⟨f, l, n⟩ : Node) = ⟨f, l, n'⟩) := by
    rw [decide_eq_decide]; simp
   rw [this]; rfl
  ·rw [show (l == l') = false by simpa using h2, cond_false, decide_eq_false (by simp [h2])]; rfl
 ·rw [show (f == g) = false by simpa using h1, cond_false, decide_eq_false (by simp [h1])]; rfl
end
end Go.Proofs.YtdaoecpkgobelaaGreatDoor
