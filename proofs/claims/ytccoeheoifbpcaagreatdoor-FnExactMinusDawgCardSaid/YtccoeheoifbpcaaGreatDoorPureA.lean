/- Words for the models: partial steps that succeed, loops that run. -/
import Derived.Test.YtccoeheoifbpcaaGreatDoorMod
import Derived.Test.YtccoeheoifbpcaaGreatDoorEngK
namespace Go.Proofs.YtccoeheoifbpcaaGreatDoor
open Go Go.RowKit
set_option linter.unusedSimpArgs false
set_option linter.unusedVariables false
theorem getL_nat {α : Type} (xs : List α) (i : Nat) : getL xs (i : Int) = xs[i]? := by
  unfold getL
  rw [decide_eq_true (by omega : (0 : Int) ≤ (i : Int))]
  rfl
theorem getL_at {α : Type} {xs : List α} {i : Nat} (h : i < xs.length) : getL xs (i : Int) = some xs[i] := by rw [getL_nat, List.getElem?_eq_getElem h]
theorem getL_of {α : Type} {xs : List α} {z : Int} (i : Nat) (hz : z = i) (h : i < xs.length) : getL xs z = some xs[i] := by rw [hz]; exact getL_at h
theorem chk_in {x : Int} (h1 : -9000000000000000000 ≤ x) (h2 : x ≤ 9000000000000000000) : chk x = some x := chk_of ⟨by omega, by omega⟩
theorem chk_to {x : Int} (y : Int) (e : x = y) (h1 : -9000000000000000000 ≤ y) (h2 : y ≤ 9000000000000000000) : chk x = some y := by rw [e]; exact chk_in h1 h2
theorem chk_succ {i : Nat} (h : i ≤ 8000000000000000000) : chk ((i : Int) + 1) = some ((i + 1 : Nat) : Int) := chk_to _ (by omega) (by omega) (by omega)
theorem catL_of {α : Type} {xs ys : List α} (h : xs.length + ys.length ≤ 100000000) : catL xs ys = some (xs ++ ys) := by
  unfold catL
  rw [decide_eq_true (by unfold lim; exact h)]
  rfl
theorem subL_of {α : Type} {xs : List α} {lo hi : Int} (h0 : 0 ≤ lo) (h1 : lo ≤ hi) (h2 : hi ≤ xs.length) : subL xs lo hi = some ((xs.drop lo.toNat).take (hi.toNat - lo.toNat)) := by
  unfold subL
  rw [decide_eq_true h0, decide_eq_true h1, decide_eq_true h2]
  rfl
theorem setL_of {α : Type} {xs : List α} {i : Nat} {x : α} (h : i < xs.length) : setL xs (i : Int) x = some (xs.set i x) := by
  unfold setL
  rw [decide_eq_true (by omega : (0 : Int) ≤ (i : Int)), decide_eq_true (by omega : (i : Int) < xs.length)]
  rfl
theorem makeL_of {α : Type} {n : Nat} {z : α} (h : n ≤ 100000000) : makeL (n : Int) z = some (List.replicate n z) := by
  unfold makeL
  rw [decide_eq_true (by omega : (0 : Int) ≤ (n : Int)), decide_eq_true (by unfold lim; omega : (n : Int) ≤ lim)]
  rfl
theorem bind_of {α β : Type} {m : Option α} {x : α} {f : α → Option β} (h : m = some x) : m.bind f = f x := by rw [h]; rfl
/-! ### Loops -/
section
variable {σ ρ : Type} {step : σ → Option (σ ⊕ ρ)}
theorem loop_run (s : Nat → σ) (n : Nat) (r : ρ) (hlt : ∀ i, i < n → step (s i) = some (.inl (s (i + 1)))) (hend : step (s n) = some (.inr r)) : ∀ i, i ≤ n → loopM step (s i) = some r := by
  intro i hi
  induction hk : n - i generalizing i with
  | zero =>
    obtain rfl : i = n := by omega
    exact loopM_done hend
  | succ k ih =>
    rw [loopM_next (hlt i (by omega))]
    exact ih (i + 1) (by omega) (by omega)
end
def allI (p : Nat → Bool) : Nat → Nat → Bool
  | _, 0 => true
  | i, k + 1 => p i && allI p (i + 1) k
theorem allI_iff {p : Nat → Bool} : ∀ {k i : Nat}, allI p i k = true ↔ ∀ j, i ≤ j → j < i + k → p j = true
  | 0, i => by simp [allI]; intro j h1 h2; omega
  | k + 1, i => by
    rw [allI, Bool.and_eq_true, allI_iff]
    constructor
    · rintro ⟨h1, h2⟩ j hj hk
      rcases Nat.eq_or_lt_of_le hj with rfl | h
      · exact h1
      · exact h2 j h (by omega)
    · intro h
      exact ⟨h i (Nat.le_refl _) (by omega), fun j h1 h2 => h j (by omega) (by omega)⟩
theorem loop_all {ρ : Type} {step : Int → Option (Int ⊕ ρ)} (p : Nat → Bool) (n : Nat) (yes no : ρ) (hlt : ∀ i : Nat, i < n → step (i : Int) = some (bif p i then .inl ((i : Int) + 1) else .inr no)) (hend : step (n : Int) = some (.inr yes)) :
    ∀ (k i : Nat), i + k = n → loopM step (i : Int) = some (bif allI p i k then yes else no)
  | 0, i, h => by
    rw [Nat.add_zero] at h
    subst h
    exact loopM_done hend
  | k + 1, i, h => by
    have h1 := hlt i (by omega)
    rw [allI]
    cases hp : p i with
    | true =>
      rw [hp] at h1
      have := loop_all p n yes no hlt hend k (i + 1) (by omega)
      rw [loopM_next h1]
      simpa using this
    | false =>
      rw [hp] at h1
      exact loopM_done h1
/-! ### Small functions -/
def inB (x lo hi : Int) : Bool := decide (lo ≤ x) && decide (x ≤ hi)
theorem inB_iff {x lo hi : Int} : inB x lo hi = true ↔ lo ≤ x ∧ x ≤ hi := by simp [inB]
theorem within_eq (x lo hi : Int) : m_impl_within x lo hi = some (inB x lo hi) := by
  unfold m_impl_within inB; cases decide (lo ≤ x) <;> rfl
theorem l00In_eq (x lo hi : Int) : m_spec_l00In x lo hi = some (inB x lo hi) := by
  unfold m_spec_l00In inB; cases decide (lo ≤ x) <;> rfl
def smB (c : UInt8) : Bool := decide (97 ≤ c) && decide (c ≤ 122)
theorem small_eq (c : UInt8) : m_impl_small c = some (smB c) := by
  unfold m_impl_small smB; cases decide (97 ≤ c) <;> rfl
theorem l01Small_eq (c : UInt8) : m_spec_l01Small c = some (smB c) := by
  unfold m_spec_l01Small smB; cases decide (97 ≤ c) <;> rfl
theorem all_idx {α : Type} (p : α → Bool) (s : List α) : allI (fun i => (s[i]?.map p).getD true) 0 s.length = s.all p := by
  rw [Bool.eq_iff_iff, allI_iff, List.all_eq_true]
  constructor
  · intro h x hx
    obtain ⟨i, hi, rfl⟩ := List.getElem_of_mem hx
    have := h i (by omega) (by omega)
    rwa [List.getElem?_eq_getElem hi] at this
  · intro h i _ hi
    rw [List.getElem?_eq_getElem (by omega : i < s.length)]
    exact h _ (List.getElem_mem _)
/-! ### What the laws do with their arguments: size, copy, equality, marks -/
def szR (b : Nat) (l : Int) : Int := if (b : Int) ≤ l then l - b else -1
theorem sz_len {β : Type} (n : Nat) (l : Int) (h0 : 0 ≤ l) (h1 : l ≤ 1048576) (hn : n ≤ maxLen) (no : β) (F : Int → Option β) : ((chk (l - (n : Int))).bind fun z => bif decide (z < 0) then some no else F z) = if (n : Int) ≤ l then F (l - n) else some no := by
  unfold maxLen at hn
  rw [chk_of ⟨by omega, by omega⟩, Option.bind_some]
  split
  · rw [decide_eq_false (by omega)]; rfl
  · rw [decide_eq_true (by omega)]; rfl
theorem sz_end (n : Nat) (l : Int) (h0 : 0 ≤ l) (h1 : l ≤ 1048576) (hn : n ≤ maxLen) : ((chk (l - (n : Int))).bind fun z => bif decide (z < 0) then some (-1) else some z) = some (szR n l) := by
  rw [sz_len n l h0 h1 hn]
  unfold szR
  split <;> rfl
theorem sz_sub {β : Type} (b : Nat) (l : Int) (h0 : 0 ≤ l) {m : Option Int} (hm : m = some (szR b l)) (no : β) (F : Int → Option β) : (m.bind fun y => bif decide (y < 0) then some no else F y) = if (b : Int) ≤ l then F (l - b) else some no := by
  rw [hm, Option.bind_some]
  unfold szR
  split
  · rw [decide_eq_false (by omega)]; rfl
  · rfl
def szStep {α : Type} (f : α → Int → Option Int) (a : List α) (left n : Int) : Option ((Int × Int) ⊕ (Int ⊕ Int)) :=
  bif decide (n < (a.length : Int)) then
    (getL a n).bind fun e => (f e left).bind fun y => bif decide (y < 0) then some (.inr (.inr (-1))) else (chk (n + 1)).bind fun z => some (.inl (y, z))
  else some (.inr (.inl left))
def bulkS {α : Type} (bulk : α → Nat) : List α → Nat
  | [] => 0
  | x :: xs => bulk x + bulkS bulk xs
theorem bulkS_mem {α : Type} (bulk : α → Nat) : ∀ {xs : List α} {x : α}, x ∈ xs → bulk x ≤ bulkS bulk xs
  | y :: ys, x, h => by
    rw [bulkS]
    rcases List.mem_cons.1 h with rfl | h
    · omega
    · have := bulkS_mem bulk h; omega
theorem szStep_run {α : Type} (f : α → Int → Option Int) (bulk : α → Nat) (a : List α) (ha : a.length ≤ 1048576) (hf : ∀ e ∈ a, ∀ l, 0 ≤ l → l ≤ 1048576 → ∃ y, f e l = some y ∧ if (bulk e : Int) ≤ l then y = l - bulk e else y < 0) :
    ∀ (k i : Nat) (l : Int), i + k = a.length → 0 ≤ l → l ≤ 1048576 → loopM (fun s : Int × Int => szStep f a s.1 s.2) (l, (i : Int)) = some (if (bulkS bulk (a.drop i) : Int) ≤ l then .inl (l - bulkS bulk (a.drop i)) else .inr (-1))
  | 0, i, l, h, h0, h1 => by
    rw [List.drop_of_length_le (by omega)]
    have : szStep f a l (i : Int) = some (.inr (.inl l)) := by unfold szStep; rw [decide_eq_false (by omega)]; rfl
    rw [loopM_done this]
    simp [bulkS, h0]
  | k + 1, i, l, h, h0, h1 => by
    have hi : i < a.length := by omega
    obtain ⟨y, hy, hcase⟩ := hf a[i] (List.getElem_mem hi) l h0 h1
    have hd : a.drop i = a[i] :: a.drop (i + 1) := List.drop_eq_getElem_cons hi
    rw [hd, bulkS]
    split at hcase
    · rename_i hle
      have hst : szStep f a l (i : Int) = some (.inl (y, ((i + 1 : Nat) : Int))) := by
        unfold szStep
        rw [decide_eq_true (by omega), cond_true, getL_at hi, Option.bind_some, hy, Option.bind_some, decide_eq_false (by omega), cond_false, chk_succ (by omega), Option.bind_some]
      rw [loopM_next hst, szStep_run f bulk a ha hf k (i + 1) y (by omega) (by omega) (by omega)]
      congr 1
      split
      · rw [if_pos (by push_cast; omega)]; congr 1; push_cast; omega
      · rw [if_neg (by push_cast; omega)]
    · have hst : szStep f a l (i : Int) = some (.inr (.inr (-1))) := by
        unfold szStep
        rw [decide_eq_true (by omega), cond_true, getL_at hi, Option.bind_some, hy, Option.bind_some, decide_eq_true (by omega), cond_true]
      rw [loopM_done hst, if_neg (by push_cast; omega)]
theorem szS_gen {α : Type} (f : α → Int → Option Int) (bulk : α → Nat) (a : List α) (l : Int) (h0 : 0 ≤ l) (h1 : l ≤ 1048576) (ha : a.length ≤ maxLen) (hf : ∀ e ∈ a, ∀ l, 0 ≤ l → l ≤ 1048576 → ∃ y, f e l = some y ∧ if (bulk e : Int) ≤ l then y = l - bulk e else y < 0) :
    ((chk (l - (a.length : Int))).bind fun z8 =>
  bif decide (z8 < 0) then
    some (-1)
  else
    (
        (loopM (fun s : Int × Int => szStep f a s.1 s.2) (z8, 0)).bind fun x22 =>
        match x22 with
        | .inl left20 =>
          some (.inl left20)
        | .inr r52 =>
          some (.inr r52) : Option (Int ⊕ Int)).bind fun x13 =>
    match x13 with
    | .inl left11 =>
      some left11
    | .inr r55 =>
      some r55) = some (szR (a.length + bulkS bulk a) l) := by
  rw [sz_len a.length l h0 h1 ha]
  split
  · rename_i hle
    have := szStep_run f bulk a (by omega) hf a.length 0 (l - a.length) (by omega) (by omega) (by omega)
    rw [show ((0 : Nat) : Int) = 0 from rfl, List.drop_zero] at this
    rw [this]
    unfold szR
    split
    · rw [if_pos (by push_cast; omega)]; simp only [Option.bind_some]; congr 1; push_cast; omega
    · rw [if_neg (by push_cast; omega)]; rfl
  · unfold szR
    rw [if_neg (by push_cast; omega)]
def toStep {α : Type} (f : α → Option α) (a xs : List α) (n : Int) : Option ((List α × Int) ⊕ List α) :=
  bif decide (n < (a.length : Int)) then
    (getL a n).bind fun e => (f e).bind fun y => (getL xs n).bind fun _ => (setL xs n y).bind fun xs => (chk (n + 1)).bind fun z => some (.inl (xs, z))
  else some (.inr xs)
theorem toStep_run {α : Type} (f : α → Option α) (a : List α) (ha : a.length ≤ 100000000) (hf : ∀ e ∈ a, f e = some e) :
    ∀ (k i : Nat) (xs : List α), i + k = a.length → xs.length = a.length → loopM (fun s : List α × Int => toStep f a s.1 s.2) (xs, (i : Int)) = some (xs.take i ++ a.drop i)
  | 0, i, xs, h, hx => by
    have : toStep f a xs (i : Int) = some (.inr xs) := by unfold toStep; rw [decide_eq_false (by omega)]; rfl
    rw [loopM_done this, List.drop_of_length_le (by omega), List.take_of_length_le (by omega), List.append_nil]
  | k + 1, i, xs, h, hx => by
    have hi : i < a.length := by omega
    have hst : toStep f a xs (i : Int) = some (.inl (xs.set i a[i], ((i + 1 : Nat) : Int))) := by
      unfold toStep
      rw [decide_eq_true (by omega), cond_true, getL_at hi, Option.bind_some, hf _ (List.getElem_mem hi), Option.bind_some, getL_at (by omega), Option.bind_some, setL_of (by omega), Option.bind_some, chk_succ (by omega), Option.bind_some]
    rw [loopM_next hst, toStep_run f a ha hf k (i + 1) _ (by omega) (by rw [List.length_set]; exact hx)]
    congr 1
    rw [List.drop_eq_getElem_cons hi, List.take_add_one, List.take_set_of_le (Nat.le_refl _), List.getElem?_set_self (by omega), List.append_assoc]
    rfl
theorem toS_gen {α : Type} (f : α → Option α) (z0 : α) (a : List α) (ha : a.length ≤ 100000000) (hf : ∀ e ∈ a, f e = some e) :
    ((makeL (a.length : Int) z0).bind fun xs6 =>
  (
      (loopM (fun s : (List α) × Int => toStep f a s.1 s.2) (xs6, 0)).bind fun xs18 =>
      some xs18 : Option (List α)).bind fun xs11 =>
  some xs11) = some a := by
  rw [makeL_of ha, Option.bind_some]
  have := toStep_run f a ha hf a.length 0 (List.replicate a.length z0) (by omega) (by simp)
  rw [show ((0 : Nat) : Int) = 0 from rfl, List.take_zero, List.drop_zero, List.nil_append] at this
  rw [this]
  rfl
def eqStep {α : Type} (f : α → α → Option Bool) (a b : List α) (n : Int) : Option (Int ⊕ (Unit ⊕ Bool)) :=
  bif decide (n < (a.length : Int)) then
    (getL a n).bind fun e => (getL b n).bind fun e' => (f e e').bind fun y => bif !y then some (.inr (.inr false)) else (chk (n + 1)).bind fun z => some (.inl z)
  else some (.inr (.inl ()))
theorem eqStep_run {α : Type} [DecidableEq α] (f : α → α → Option Bool) (a b : List α) (ha : a.length ≤ 1000000000) (hab : a.length = b.length) (hf : ∀ x ∈ a, ∀ y, f x y = some (decide (x = y))) :
    ∀ (k i : Nat), i + k = a.length → loopM (fun s : Int => eqStep f a b s) (i : Int) = some (if a.drop i = b.drop i then .inl () else .inr false)
  | 0, i, h => by
    have : eqStep f a b (i : Int) = some (.inr (.inl ())) := by unfold eqStep; rw [decide_eq_false (by omega)]; rfl
    rw [loopM_done this, List.drop_of_length_le (by omega), List.drop_of_length_le (by omega), if_pos rfl]
  | k + 1, i, h => by
    have hi : i < a.length := by omega
    have hib : i < b.length := by omega
    have hiff : a.drop i = b.drop i ↔ a[i] = b[i] ∧ a.drop (i + 1) = b.drop (i + 1) := by
      rw [List.drop_eq_getElem_cons hi, List.drop_eq_getElem_cons hib, List.cons.injEq]
    by_cases he : a[i] = b[i]
    · have hst : eqStep f a b (i : Int) = some (.inl ((i + 1 : Nat) : Int)) := by
        unfold eqStep
        rw [decide_eq_true (by omega), cond_true, getL_at hi, Option.bind_some, getL_at hib, Option.bind_some, hf _ (List.getElem_mem hi), decide_eq_true he, Option.bind_some, Bool.not_true, cond_false, chk_succ (by omega), Option.bind_some]
      rw [loopM_next hst, eqStep_run f a b ha hab hf k (i + 1) (by omega)]
      congr 1
      by_cases hd : a.drop (i + 1) = b.drop (i + 1)
      · rw [if_pos hd, if_pos (hiff.2 ⟨he, hd⟩)]
      · rw [if_neg hd, if_neg fun h => hd (hiff.1 h).2]
    · have hst : eqStep f a b (i : Int) = some (.inr (.inr false)) := by
        unfold eqStep
        rw [decide_eq_true (by omega), cond_true, getL_at hi, Option.bind_some, getL_at hib, Option.bind_some, hf _ (List.getElem_mem hi), decide_eq_false he, Option.bind_some, Bool.not_false, cond_true]
      rw [loopM_done hst, if_neg fun h => he (hiff.1 h).1]
theorem eqS_gen' {α : Type} [DecidableEq α] (f : α → α → Option Bool) (a b : List α) (ha : a.length ≤ 1000000000) (hf : ∀ x ∈ a, ∀ y, f x y = some (decide (x = y))) :
    (bif (a.length : Int) != (b.length : Int) then
    some false
  else
    (
        (loopM (fun s : Int => eqStep f a b s) 0).bind fun x17 =>
        match x17 with
        | .inl _ =>
          some (.inl ())
        | .inr r57 =>
          some (.inr r57) : Option (Unit ⊕ Bool)).bind fun x12 =>
    match x12 with
    | .inl _ =>
      some true
    | .inr r60 =>
      some r60) = some (decide (a = b)) := by
  by_cases hab : a.length = b.length
  · have h1 : ((a.length : Int) != (b.length : Int)) = false := by simp [hab]
    rw [h1, cond_false]
    have := eqStep_run f a b ha hab hf a.length 0 (by omega)
    rw [show ((0 : Nat) : Int) = 0 from rfl, List.drop_zero, List.drop_zero] at this
    rw [this]
    split
    · rename_i h; rw [decide_eq_true h]; rfl
    · rename_i h; rw [decide_eq_false h]; rfl
  · have h1 : ((a.length : Int) != (b.length : Int)) = true := by rw [bne_iff_ne]; omega
    rw [h1, cond_true, decide_eq_false (fun h => hab (by rw [h]))]
theorem eqS_gen {α : Type} [DecidableEq α] (f : α → α → Option Bool) (a b : List α) (ha : a.length ≤ 1000000000) (hf : ∀ x y, f x y = some (decide (x = y))) :
    (bif (a.length : Int) != (b.length : Int) then
    some false
  else
    (
        (loopM (fun s : Int => eqStep f a b s) 0).bind fun x17 =>
        match x17 with
        | .inl _ =>
          some (.inl ())
        | .inr r57 =>
          some (.inr r57) : Option (Unit ⊕ Bool)).bind fun x12 =>
    match x12 with
    | .inl _ =>
      some true
    | .inr r60 =>
      some r60) = some (decide (a = b)) := eqS_gen' f a b ha fun x _ y => hf x y
theorem markS_gen {α : Type} (step : List α → Int → Int → Option ((List α × Int × Int) ⊕ (List α × Int))) (mk : Int → α) (c : Nat)
    (hstep : ∀ (xs : List α) (k : Int) (i : Nat), i < xs.length → i ≤ 1000000000 → 0 ≤ k → k ≤ 10000000000 - 20 → step xs k i = some (.inl (xs.set i (mk k), k + c, ((i + 1 : Nat) : Int))))
    (hend : ∀ (xs : List α) (k : Int), step xs k xs.length = some (.inr (xs, k))) :
    ∀ (m i : Nat) (xs : List α) (k : Int), i + m = xs.length → xs.length ≤ 1000000000 → 0 ≤ k → k + c * m ≤ 10000000000 - 20 → loopM (fun s : List α × Int × Int => step s.1 s.2.1 s.2.2) (xs, k, (i : Int)) = some (xs.take i ++ (List.range m).map (fun j : Nat => mk (k + c * j)), k + c * m)
  | 0, i, xs, k, h, hl, h0, h1 => by
    have he := hend xs k
    rw [← h, Nat.add_zero] at he
    rw [loopM_done he, List.take_of_length_le (by omega)]
    simp
  | m + 1, i, xs, k, h, hl, h0, h1 => by
    have hc : (c : Int) * ((m + 1 : Nat) : Int) = c * m + c := by push_cast; rw [Int.mul_add, Int.mul_one]
    have hcm : (0 : Int) ≤ c * m := Int.mul_nonneg (by omega) (by omega)
    rw [hc] at h1
    rw [loopM_next (hstep xs k i (by omega) (by omega) h0 (by omega)), markS_gen step mk c hstep hend m (i + 1) _ (k + c) (by rw [List.length_set]; omega) (by rw [List.length_set]; exact hl) (by omega) (by omega)]
    rw [hc, List.take_add_one, List.take_set_of_le (Nat.le_refl _), List.getElem?_set_self (by omega), List.append_assoc, List.range_succ_eq_map, List.map_cons, List.map_map]
    have e : (fun j : Nat => mk (k + c + c * j)) = (fun j : Nat => mk (k + c * j)) ∘ Nat.succ := by
      funext j
      simp only [Function.comp]
      congr 1
      push_cast
      rw [Int.mul_add]; omega
    rw [e]
    simp
    omega
theorem heldS_gen {α : Type} (step : List α → Int → Int → Option ((Int × Int) ⊕ (Int ⊕ Int))) (mk : Int → α) (c : Nat)
    (hstep : ∀ (ys : List α) (k : Int) (i : Nat), ys[i]? = some (mk k) → i ≤ 1000000000 → 0 ≤ k → k ≤ 10000000000 - 20 → step ys k i = some (.inl (k + c, ((i + 1 : Nat) : Int))))
    (hend : ∀ (ys : List α) (k : Int), step ys k ys.length = some (.inr (.inl k))) (ys : List α) (k0 : Int) (hk0 : 0 ≤ k0) (hys : ∀ i, i < ys.length → ys[i]? = some (mk (k0 + c * i))) (hl : ys.length ≤ 1000000000) (hb : k0 + c * ys.length ≤ 10000000000 - 20) :
    ∀ (m i : Nat), i + m = ys.length → loopM (fun s : Int × Int => step ys s.1 s.2) (k0 + c * i, (i : Int)) = some (.inl (k0 + c * ys.length))
  | 0, i, h => by
    have he := hend ys (k0 + c * i)
    rw [← h, Nat.add_zero] at he
    rw [loopM_done he, ← h, Nat.add_zero]
  | m + 1, i, h => by
    have hci : (0 : Int) ≤ c * i := Int.mul_nonneg (by omega) (by omega)
    have hcl : (c : Int) * i ≤ c * ys.length := Int.mul_le_mul_of_nonneg_left (by omega) (by omega)
    have hs := hstep ys (k0 + c * i) i (hys i (by omega)) (by omega) (by omega) (by omega)
    have e : k0 + (c : Int) * i + c = k0 + c * ((i + 1 : Nat) : Int) := by push_cast; rw [Int.mul_add]; omega
    rw [e] at hs
    rw [loopM_next hs, heldS_gen step mk c hstep hend ys k0 hk0 hys hl hb m (i + 1) (by omega)]
theorem marks_both {α : Type} (mstep : List α → Int → Int → Option ((List α × Int × Int) ⊕ (List α × Int))) (hstep : List α → Int → Int → Option ((Int × Int) ⊕ (Int ⊕ Int))) (mk : Int → α) (c : Nat) (hc : c ≤ 20)
    (hm : ∀ (xs : List α) (k : Int) (i : Nat), i < xs.length → i ≤ 1000000000 → 0 ≤ k → k ≤ 10000000000 - 20 → mstep xs k i = some (.inl (xs.set i (mk k), k + c, ((i + 1 : Nat) : Int))))
    (hme : ∀ (xs : List α) (k : Int), mstep xs k xs.length = some (.inr (xs, k)))
    (hh : ∀ (ys : List α) (k : Int) (i : Nat), ys[i]? = some (mk k) → i ≤ 1000000000 → 0 ≤ k → k ≤ 10000000000 - 20 → hstep ys k i = some (.inl (k + c, ((i + 1 : Nat) : Int))))
    (hhe : ∀ (ys : List α) (k : Int), hstep ys k ys.length = some (.inr (.inl k))) (xs : List α) (hl : xs.length ≤ 100000000) (k0 : Int) (h0 : 0 ≤ k0) (h1 : k0 ≤ 5000000000) :
    ∃ (ys : List α) (k' : Int), loopM (fun s : List α × Int × Int => mstep s.1 s.2.1 s.2.2) (xs, k0, 0) = some (ys, k') ∧ loopM (fun s : Int × Int => hstep ys s.1 s.2) (k0, 0) = some (.inl k') ∧ 0 ≤ k' ∧ k' ≤ k0 + 20 * xs.length := by
  have hcl : (c : Int) * xs.length ≤ 20 * xs.length := Int.mul_le_mul_of_nonneg_right (by omega) (by omega)
  have hcl0 : (0 : Int) ≤ c * xs.length := Int.mul_nonneg (by omega) (by omega)
  have a := markS_gen mstep mk c hm hme xs.length 0 xs k0 (by omega) (by omega) h0 (by omega)
  rw [List.take_zero, List.nil_append] at a
  refine ⟨_, _, a, ?_, by omega, by omega⟩
  have b := heldS_gen hstep mk c hh hhe ((List.range xs.length).map (fun j : Nat => mk (k0 + c * j))) k0 h0 (fun i hi => by
    rw [List.length_map, List.length_range] at hi
    rw [List.getElem?_map, List.getElem?_range hi]
    rfl) (by simp; omega) (by simp; omega) xs.length 0 (by simp)
  simp only [List.length_map, List.length_range] at b
  rw [show k0 + (c : Int) * ((0 : Nat) : Int) = k0 by simp] at b
  exact b
theorem markText_total (k : Int) (h : k ≤ 10000000000) : ∃ s, m_laws_markText k = some s ∧ s.length ≤ 30 := by
  unfold m_laws_markText
  by_cases hk : k ≤ 0
  · rw [decide_eq_true hk]; exact ⟨_, rfl, by simp⟩
  · rw [decide_eq_false hk, cond_false]
    obtain ⟨s, hs, hl⟩ := loopM_inv (step := fun s : Int × Str => m_laws_markText_l1 s.1 s.2) (fun s => 0 ≤ s.1 ∧ s.1 ≤ 10000000000 ∧ s.1 < 10 ^ (12 - s.2.length) ∧ s.2.length ≤ 12) (fun s => s.1.toNat) (fun r => r.length ≤ 12) (fun s hI => by
      obtain ⟨x, s⟩ := s
      obtain ⟨i1, i2, i3, i4⟩ := hI
      simp only at i1 i2 i3 i4
      show (∃ s', m_laws_markText_l1 x s = some (.inl s') ∧ _) ∨ (∃ r, m_laws_markText_l1 x s = some (.inr r) ∧ _)
      unfold m_laws_markText_l1
      by_cases hx : 0 < x
      · left
        have hlen : s.length < 12 := by
          rcases Nat.lt_or_ge s.length 12 with h | h
          · exact h
          · rw [show 12 - s.length = 0 by omega] at i3; simp at i3; omega
        have hp : (10 : Int) ^ (12 - s.length) = 10 ^ (11 - s.length) * 10 := by rw [show 12 - s.length = (11 - s.length) + 1 by omega, Int.pow_succ]
        have hr : remI x 10 = some (x % 10) := by unfold remI; rw [show ((10 : Int) == 0) = false from rfl, cond_false, Int.tmod_eq_emod_of_nonneg i1]
        have hq : quoI x 10 = some (x / 10) := by
          unfold quoI
          rw [show ((10 : Int) == 0) = false from rfl, cond_false, Int.tdiv_eq_ediv_of_nonneg i1, chk_in (by omega) (by omega)]
        rw [decide_eq_true hx, cond_true, hr, Option.bind_some, chk_in (by omega) (by omega), Option.bind_some, catL_of (by simp; omega), Option.bind_some, hq, Option.bind_some]
        refine ⟨_, rfl, ⟨by simp only; omega, by simp only; omega, ?_, by simp; omega⟩, by simp only; omega⟩
        simp only [List.length_append, List.length_cons, List.length_nil]
        rw [show 12 - (0 + 1 + s.length) = 11 - s.length by omega]
        omega
      · right
        rw [decide_eq_false hx]
        exact ⟨_, rfl, i4⟩) (k, []) ⟨by simp only; omega, h, by
          simp only [List.length_nil]
          have e12 : (10 : Int) ^ (12 - 0) = 1000000000000 := by decide
          omega, by simp⟩
    rw [hs, Option.bind_some, Option.bind_some, catL_of (by simp; omega), Option.bind_some]
    exact ⟨_, rfl, by simp; omega⟩
noncomputable def mtext (k : Int) : Str := (m_laws_markText k).getD []
theorem markText_m (k : Int) (h : k ≤ 10000000000) : m_laws_markText k = some (mtext k) := by
  obtain ⟨s, hs, _⟩ := markText_total k h
  unfold mtext
  rw [hs]
  rfl
theorem remI_3 (z : Int) : remI z 3 = some (z.tmod 3) := rfl
end Go.Proofs.YtccoeheoifbpcaaGreatDoor
