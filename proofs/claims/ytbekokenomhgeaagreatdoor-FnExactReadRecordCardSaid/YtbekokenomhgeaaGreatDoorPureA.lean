/- Words for the models: partial steps that succeed, loops that run. -/
import Derived.Test.YtbekokenomhgeaaGreatDoorMod
import Derived.Test.YtbekokenomhgeaaGreatDoorEngK
namespace Go.Proofs.YtbekokenomhgeaaGreatDoor
open Go Go.RowKit
set_option linter.unusedSimpArgs false
set_option linter.unusedVariables false

theorem getL_nat {α : Type} (xs : List α) (i : Nat) : getL xs (i : Int) = xs[i]? := by
  unfold getL
  rw [decide_eq_true (by omega : (0 : Int) ≤ (i : Int))]
  rfl
theorem getL_at {α : Type} {xs : List α} {i : Nat} (h : i < xs.length) : getL xs (i : Int) = some xs[i] := by rw [getL_nat, List.getElem?_eq_getElem h]
theorem getL_of {α : Type} {xs : List α} {z : Int} (i : Nat) (hz : z = i) (h : i < xs.length) : getL xs z = some xs[i] := by rw [hz]; exact getL_at h
theorem chk_nat {n : Nat} (h : n ≤ 9000000000000000000) : chk (n : Int) = some (n : Int) := chk_of ⟨by omega, by omega⟩
theorem chk_in {x : Int} (h1 : -9000000000000000000 ≤ x) (h2 : x ≤ 9000000000000000000) : chk x = some x := chk_of ⟨by omega, by omega⟩
theorem chk_to {x : Int} (y : Int) (e : x = y) (h1 : -9000000000000000000 ≤ y) (h2 : y ≤ 9000000000000000000) : chk x = some y := by rw [e]; exact chk_in h1 h2
theorem chk_succ {i : Nat} (h : i ≤ 8000000000000000000) : chk ((i : Int) + 1) = some ((i + 1 : Nat) : Int) := chk_to _ (by omega) (by omega) (by omega)
theorem catL_of {α : Type} {xs ys : List α} (h : xs.length + ys.length ≤ 100000000) : catL xs ys = some (xs ++ ys) := by
  unfold catL
  rw [decide_eq_true (by unfold lim; exact h)]
  rfl
theorem subL_of {α : Type} {xs : List α} {lo hi : Int} (h0 : 0 ≤ lo) (h1 : lo ≤ hi) (h2 : hi ≤ xs.length) : subL xs lo hi = some ((xs.drop lo.toNat).take (hi.toNat - lo.toNat)) := by
  unfold subL
  rw [decide_eq_true h0, decide_eq_true h1, decide_eq_true h2]
  rfl
theorem setL_of {α : Type} {xs : List α} {i : Nat} {x : α} (h : i < xs.length) : setL xs (i : Int) x = some (xs.set i x) := by
  unfold setL
  rw [decide_eq_true (by omega : (0 : Int) ≤ (i : Int)), decide_eq_true (by omega : (i : Int) < xs.length)]
  rfl
theorem byteP (n : Nat) (h : n < 2 ^ 8) : chk ((n : Int) + 1) = some ((n : Int) + 1) := chk_in (by omega) (by omega)

/-! ### Loops -/
section
variable {σ ρ : Type} {step : σ → Option (σ ⊕ ρ)}
/-- A loop whose states are known, one by one, up to the last. -/
theorem loop_run (s : Nat → σ) (n : Nat) (r : ρ) (hlt : ∀ i, i < n → step (s i) = some (.inl (s (i + 1)))) (hend : step (s n) = some (.inr r)) : ∀ i, i ≤ n → loopM step (s i) = some r := by
  intro i hi
  induction hk : n - i generalizing i with
  | zero =>
    obtain rfl : i = n := by omega
    exact loopM_done hend
  | succ k ih =>
    rw [loopM_next (hlt i (by omega))]
    exact ih (i + 1) (by omega) (by omega)
end

/-- All in a range. -/
def allI (p : Nat → Bool) : Nat → Nat → Bool
  | _, 0 => true
  | i, k + 1 => p i && allI p (i + 1) k
theorem allI_iff {p : Nat → Bool} : ∀ {k i : Nat}, allI p i k = true ↔ ∀ j, i ≤ j → j < i + k → p j = true
  | 0, i => by simp [allI]; intro j h1 h2; omega
  | k + 1, i => by
    rw [allI, Bool.and_eq_true, allI_iff]
    constructor
    · rintro ⟨h1, h2⟩ j hj hk
      rcases Nat.eq_or_lt_of_le hj with rfl | h
      · exact h1
      · exact h2 j h (by omega)
    · intro h
      exact ⟨h i (Nat.le_refl _) (by omega), fun j h1 h2 => h j (by omega) (by omega)⟩
/-- A loop over an index that leaves at the first place that fails. -/
theorem loop_all {ρ : Type} {step : Int → Option (Int ⊕ ρ)} (p : Nat → Bool) (n : Nat) (yes no : ρ) (hlt : ∀ i : Nat, i < n → step (i : Int) = some (bif p i then .inl ((i : Int) + 1) else .inr no)) (hend : step (n : Int) = some (.inr yes)) :
    ∀ (k i : Nat), i + k = n → loopM step (i : Int) = some (bif allI p i k then yes else no)
  | 0, i, h => by
    rw [Nat.add_zero] at h
    subst h
    exact loopM_done hend
  | k + 1, i, h => by
    have h1 := hlt i (by omega)
    rw [allI]
    cases hp : p i with
    | true =>
      rw [hp] at h1
      have := loop_all p n yes no hlt hend k (i + 1) (by omega)
      rw [loopM_next h1]
      simpa using this
    | false =>
      rw [hp] at h1
      exact loopM_done h1

/-! ### Small functions -/
def inB (x lo hi : Int) : Bool := decide (lo ≤ x) && decide (x ≤ hi)
theorem inB_iff {x lo hi : Int} : inB x lo hi = true ↔ lo ≤ x ∧ x ≤ hi := by simp [inB]

theorem within_eq (x lo hi : Int) : m_impl_within x lo hi = some (inB x lo hi) := by
  unfold m_impl_within inB; cases decide (lo ≤ x) <;> rfl

theorem l00In_eq (x lo hi : Int) : m_spec_l00In x lo hi = some (inB x lo hi) := by
  unfold m_spec_l00In inB; cases decide (lo ≤ x) <;> rfl

def smB (c : UInt8) : Bool := decide (97 ≤ c) && decide (c ≤ 122)

theorem small_eq (c : UInt8) : m_impl_small c = some (smB c) := by
  unfold m_impl_small smB; cases decide (97 ≤ c) <;> rfl

theorem l01Small_eq (c : UInt8) : m_spec_l01Small c = some (smB c) := by
  unfold m_spec_l01Small smB; cases decide (97 ≤ c) <;> rfl

def dgB (c : UInt8) : Bool := decide (48 ≤ c) && decide (c ≤ 57)

theorem l01Digit_eq (c : UInt8) : m_spec_l01Digit c = some (dgB c) := by
  unfold m_spec_l01Digit dgB; cases decide (48 ≤ c) <;> rfl

def cpB (c : UInt8) : Bool := decide (65 ≤ c) && decide (c ≤ 90)

theorem l03Capital_eq (c : UInt8) : m_spec_l03Capital c = some (cpB c) := by
  unfold m_spec_l03Capital cpB; cases decide (65 ≤ c) <;> rfl

def tileB (c : UInt8) : Bool := c == 63 || smB c

theorem l03Tile_eq (c : UInt8) : m_spec_l03Tile c = some (tileB c) := by
  unfold m_spec_l03Tile tileB
  rw [l01Small_eq]
  cases c == 63 <;> rfl

/-- The place of a tile among the tiles: 0 for '?', 1 to 26 for the letters; -1. -/
def placeI (c : UInt8) : Int := bif c == 63 then 0 else bif smB c then ((c - 97).toNat : Int) + 1 else -1

theorem chk_byte (c : UInt8) : chk ((c.toNat : Int) + 1) = some ((c.toNat : Int) + 1) := byteP _ c.toNat_lt

theorem place_eq (c : UInt8) : m_impl_place c = some (placeI c) := by
  unfold m_impl_place placeI
  rw [small_eq, chk_byte]
  cases c == 63
  · cases hs : smB c
    · rfl
    · rfl
  · rfl
theorem placeI_neg (c : UInt8) : decide (placeI c < 0) = !tileB c := by
  unfold placeI tileB
  cases c == 63
  · cases smB c
    · rfl
    · have h := (c - 97).toNat_lt
      simp only [cond_true, cond_false, Bool.false_or, Bool.not_true, decide_eq_false_iff_not]
      omega
  · rfl

/-! ### Racks and piles -/
theorem onlyTiles_eq (s : Str) (hl : s.length ≤ 8000000000000000000) : m_impl_onlyTiles s = some (s.all tileB) := by
  unfold m_impl_onlyTiles
  have h := loop_all (step := fun i : Int => m_impl_onlyTiles_l1 s i) (fun i => (s[i]?.map tileB).getD true) s.length (.inl () : Unit ⊕ Bool) (.inr false) (fun i hi => by
      unfold m_impl_onlyTiles_l1
      rw [decide_eq_true (by omega : (i : Int) < s.length), cond_true, getL_at hi, Option.bind_some, place_eq, Option.bind_some, placeI_neg, chk_succ (by omega), List.getElem?_eq_getElem hi, Option.map_some, Option.getD_some]
      cases tileB s[i]
      · rfl
      · simp)
    (by unfold m_impl_onlyTiles_l1; rw [decide_eq_false (by omega)]; rfl) s.length 0 (by omega)
  rw [show ((0 : Nat) : Int) = 0 from rfl] at h
  rw [h]
  have e : allI (fun i => (s[i]?.map tileB).getD true) 0 s.length = s.all tileB := by
    rw [Bool.eq_iff_iff, allI_iff, List.all_eq_true]
    constructor
    · intro h x hx
      obtain ⟨i, hi, rfl⟩ := List.getElem_of_mem hx
      have := h i (by omega) (by omega)
      rwa [List.getElem?_eq_getElem hi] at this
    · intro h i _ hi
      rw [List.getElem?_eq_getElem (by omega : i < s.length)]
      exact h _ (List.getElem_mem _)
  rw [e]
  cases s.all tileB <;> rfl

/-- Not falling at the place i. -/
def upAt (s : Str) (i : Nat) : Bool := match s[i - 1]?, s[i]? with
  | some a, some b => !decide (b < a)
  | _, _ => true
def upB (s : Str) : Bool := allI (upAt s) 1 (s.length - 1)
def pileB (s : Str) : Bool := decide (s.length ≤ 120) && s.all tileB && upB s

theorem ValidPile_eq (s : Str) (hl : s.length ≤ 8000000000000000000) : m_impl_ValidPile s = some (pileB s) := by
  unfold m_impl_ValidPile pileB
  rw [onlyTiles_eq s hl]
  by_cases h : s.length ≤ 120
  · rw [decide_eq_false (by omega : ¬ (120 : Int) < (s.length : Int)), decide_eq_true h]
    simp only [cond_false, Option.bind_some, Bool.true_and]
    cases ha : s.all tileB
    · rfl
    · simp only [Bool.not_true, cond_false, Bool.true_and]
      cases hn : s with
      | nil =>
        have : loopM (fun i : Int => m_impl_ValidPile_l1 [] i) 1 = some (.inl ()) := loopM_done (by unfold m_impl_ValidPile_l1; rfl)
        rw [this]
        rfl
      | cons c t =>
        rw [← hn]
        have hpos : 1 ≤ s.length := by rw [hn]; simp
        have key : ∀ i : Nat, 1 ≤ i → i < s.length → m_impl_ValidPile_l1 s (i : Int) = some (bif upAt s i then .inl ((i : Int) + 1) else .inr (.inr false)) := by
          intro i h1 h2
          have hu : upAt s i = !decide (s[i] < s[i - 1]) := by
            unfold upAt
            rw [List.getElem?_eq_getElem (by omega : i - 1 < s.length), List.getElem?_eq_getElem h2]
          rw [hu]
          unfold m_impl_ValidPile_l1
          rw [decide_eq_true (by omega : (i : Int) < s.length), cond_true, chk_to ((i - 1 : Nat) : Int) (by omega) (by omega) (by omega), Option.bind_some, getL_at (by omega), Option.bind_some, getL_at h2, Option.bind_some, chk_succ (by omega)]
          cases decide (s[i] < s[i - 1])
          · simp
          · rfl
        have hend : m_impl_ValidPile_l1 s (s.length : Int) = some (.inr (.inl ())) := by unfold m_impl_ValidPile_l1; rw [decide_eq_false (by omega)]; rfl
        have hrun : ∀ (k i : Nat), 1 ≤ i → i + k = s.length → loopM (fun i : Int => m_impl_ValidPile_l1 s i) (i : Int) = some (bif allI (upAt s) i k then .inl () else .inr false) := by
          intro k
          induction k with
          | zero => intro i _ h; rw [Nat.add_zero] at h; subst h; exact loopM_done hend
          | succ k ih =>
            intro i h1 h
            have h2 := key i h1 (by omega)
            rw [allI]
            cases hu : upAt s i with
            | true => rw [hu] at h2; rw [loopM_next h2]; simpa using ih (i + 1) (by omega) (by omega)
            | false => rw [hu] at h2; exact loopM_done h2
        have := hrun (s.length - 1) 1 (Nat.le_refl _) (by omega)
        rw [show ((1 : Nat) : Int) = 1 from rfl] at this
        rw [this]
        unfold upB
        cases allI (upAt s) 1 (s.length - 1) <;> rfl
  · rw [decide_eq_true (by omega : (120 : Int) < (s.length : Int)), decide_eq_false h]
    rfl

theorem upAt_zero (s : Str) : upAt s 0 = true := by
  unfold upAt
  cases h : s[0]? with
  | none => simp [h]
  | some a => simp [h]
theorem upAt_at {s : Str} {i : Nat} (h : i < s.length) : upAt s i = !decide (s[i] < s[i - 1]) := by
  unfold upAt
  rw [List.getElem?_eq_getElem (by omega : i - 1 < s.length), List.getElem?_eq_getElem h]
theorem all_idx {α : Type} (p : α → Bool) (s : List α) : allI (fun i => (s[i]?.map p).getD true) 0 s.length = s.all p := by
  rw [Bool.eq_iff_iff, allI_iff, List.all_eq_true]
  constructor
  · intro h x hx
    obtain ⟨i, hi, rfl⟩ := List.getElem_of_mem hx
    have := h i (by omega) (by omega)
    rwa [List.getElem?_eq_getElem hi] at this
  · intro h i _ hi
    rw [List.getElem?_eq_getElem (by omega : i < s.length)]
    exact h _ (List.getElem_mem _)
theorem upB_iff {s : Str} : upB s = true ↔ ∀ i, i < s.length → upAt s i = true := by
  unfold upB
  rw [allI_iff]
  constructor
  · intro h i hi
    rcases Nat.eq_zero_or_pos i with rfl | h0
    · exact upAt_zero s
    · exact h i h0 (by omega)
  · intro h i h1 h2
    exact h i (by omega)

theorem l03Pile_eq (s : Str) (hl : s.length ≤ 8000000000000000000) : m_spec_l03Pile s = some (pileB s) := by
  unfold m_spec_l03Pile
  have h := loop_all (step := fun i : Int => m_spec_l03Pile_l1 s i) (fun i => (s[i]?.map tileB).getD true && upAt s i) s.length (.inl () : Unit ⊕ Bool) (.inr false) (fun i hi => by
      unfold m_spec_l03Pile_l1
      rw [decide_eq_true (by omega : (i : Int) < s.length), cond_true, getL_at hi, Option.bind_some, l03Tile_eq, Option.bind_some, chk_succ (by omega), List.getElem?_eq_getElem hi, Option.map_some, Option.getD_some]
      cases tileB s[i]
      · rfl
      · simp only [Bool.not_true, cond_false, Bool.true_and]
        rcases Nat.eq_zero_or_pos i with rfl | h0
        · rw [upAt_zero]; rfl
        · rw [decide_eq_true (by omega : (0 : Int) < (i : Int)), cond_true, Option.bind_some, chk_to ((i - 1 : Nat) : Int) (by omega) (by omega) (by omega), Option.bind_some, getL_at (by omega), Option.bind_some, upAt_at hi]
          cases decide (s[i] < s[i - 1]) <;> simp)
    (by unfold m_spec_l03Pile_l1; rw [decide_eq_false (by omega)]; rfl) s.length 0 (by omega)
  rw [show ((0 : Nat) : Int) = 0 from rfl] at h
  rw [h]
  have e : allI (fun i => (s[i]?.map tileB).getD true && upAt s i) 0 s.length = (s.all tileB && upB s) := by
    rw [← all_idx tileB s, Bool.eq_iff_iff, Bool.and_eq_true, allI_iff, allI_iff, upB_iff]
    constructor
    · intro h
      exact ⟨fun j h1 h2 => (Bool.and_eq_true_iff.1 (h j h1 h2)).1, fun j h1 => (Bool.and_eq_true_iff.1 (h j (by omega) (by omega))).2⟩
    · rintro ⟨h1, h2⟩ j h3 h4
      exact Bool.and_eq_true_iff.2 ⟨h1 j h3 h4, h2 j (by omega)⟩
  rw [e]
  unfold pileB
  have e2 : decide ((s.length : Int) ≤ 120) = decide (s.length ≤ 120) := by rw [Bool.eq_iff_iff]; simp; omega
  cases hu : s.all tileB && upB s
  · rw [Bool.and_assoc, hu, Bool.and_false]; rfl
  · rw [Bool.and_assoc, hu, Bool.and_true]
    show some _ = _
    rw [e2]

/-! ### What the laws do with their arguments: size, copy, equality, marks -/
def eqStep {α : Type} (f : α → α → Option Bool) (a b : List α) (n : Int) : Option (Int ⊕ (Unit ⊕ Bool)) :=
  bif decide (n < (a.length : Int)) then
    (getL a n).bind fun e => (getL b n).bind fun e' => (f e e').bind fun y => bif !y then some (.inr (.inr false)) else (chk (n + 1)).bind fun z => some (.inl z)
  else some (.inr (.inl ()))
theorem eqStep_run {α : Type} [DecidableEq α] (f : α → α → Option Bool) (a b : List α) (ha : a.length ≤ 1000000000) (hab : a.length = b.length) (hf : ∀ x ∈ a, ∀ y, f x y = some (decide (x = y))) :
    ∀ (k i : Nat), i + k = a.length → loopM (fun s : Int => eqStep f a b s) (i : Int) = some (if a.drop i = b.drop i then .inl () else .inr false)
  | 0, i, h => by
    have : eqStep f a b (i : Int) = some (.inr (.inl ())) := by unfold eqStep; rw [decide_eq_false (by omega)]; rfl
    rw [loopM_done this, List.drop_of_length_le (by omega), List.drop_of_length_le (by omega), if_pos rfl]
  | k + 1, i, h => by
    have hi : i < a.length := by omega
    have hib : i < b.length := by omega
    have hiff : a.drop i = b.drop i ↔ a[i] = b[i] ∧ a.drop (i + 1) = b.drop (i + 1) := by
      rw [List.drop_eq_getElem_cons hi, List.drop_eq_getElem_cons hib, List.cons.injEq]
    by_cases he : a[i] = b[i]
    · have hst : eqStep f a b (i : Int) = some (.inl ((i + 1 : Nat) : Int)) := by
        unfold eqStep
        rw [decide_eq_true (by omega), cond_true, getL_at hi, Option.bind_some, getL_at hib, Option.bind_some, hf _ (List.getElem_mem hi), decide_eq_true he, Option.bind_some, Bool.not_true, cond_false, chk_succ (by omega), Option.bind_some]
      rw [loopM_next hst, eqStep_run f a b ha hab hf k (i + 1) (by omega)]
      congr 1
      by_cases hd : a.drop (i + 1) = b.drop (i + 1)
      · rw [if_pos hd, if_pos (hiff.2 ⟨he, hd⟩)]
      · rw [if_neg hd, if_neg fun h => hd (hiff.1 h).2]
    · have hst : eqStep f a b (i : Int) = some (.inr (.inr false)) := by
        unfold eqStep
        rw [decide_eq_true (by omega), cond_true, getL_at hi, Option.bind_some, getL_at hib, Option.bind_some, hf _ (List.getElem_mem hi), decide_eq_false he, Option.bind_some, Bool.not_false, cond_true]
      rw [loopM_done hst, if_neg fun h => he (hiff.1 h).1]
/-- Two slices are compared. -/
theorem eqS_gen' {α : Type} [DecidableEq α] (f : α → α → Option Bool) (a b : List α) (ha : a.length ≤ 1000000000) (hf : ∀ x ∈ a, ∀ y, f x y = some (decide (x = y))) :
    (bif (a.length : Int) != (b.length : Int) then
    some false
  else
    (
        (loopM (fun s : Int => eqStep f a b s) 0).bind fun x17 =>
        match x17 with
        | .inl _ =>
          some (.inl ())
        | .inr r57 =>
          some (.inr r57) : Option (Unit ⊕ Bool)).bind fun x12 =>
    match x12 with
    | .inl _ =>
      some true
    | .inr r60 =>
      some r60) = some (decide (a = b)) := by
  by_cases hab : a.length = b.length
  · have h1 : ((a.length : Int) != (b.length : Int)) = false := by simp [hab]
    rw [h1, cond_false]
    have := eqStep_run f a b ha hab hf a.length 0 (by omega)
    rw [show ((0 : Nat) : Int) = 0 from rfl, List.drop_zero, List.drop_zero] at this
    rw [this]
    split
    · rename_i h; rw [decide_eq_true h]; rfl
    · rename_i h; rw [decide_eq_false h]; rfl
  · have h1 : ((a.length : Int) != (b.length : Int)) = true := by rw [bne_iff_ne]; omega
    rw [h1, cond_true, decide_eq_false (fun h => hab (by rw [h]))]

/-- The same for any elements. -/
theorem eqS_gen {α : Type} [DecidableEq α] (f : α → α → Option Bool) (a b : List α) (ha : a.length ≤ 1000000000) (hf : ∀ x y, f x y = some (decide (x = y))) :
    (bif (a.length : Int) != (b.length : Int) then
    some false
  else
    (
        (loopM (fun s : Int => eqStep f a b s) 0).bind fun x17 =>
        match x17 with
        | .inl _ =>
          some (.inl ())
        | .inr r57 =>
          some (.inr r57) : Option (Unit ⊕ Bool)).bind fun x12 =>
    match x12 with
    | .inl _ =>
      some true
    | .inr r60 =>
      some r60) = some (decide (a = b)) := eqS_gen' f a b ha fun x _ y => hf x y

theorem markS_gen {α : Type} (step : List α → Int → Int → Option ((List α × Int × Int) ⊕ (List α × Int))) (mk : Int → α) (c : Nat)
    (hstep : ∀ (xs : List α) (k : Int) (i : Nat), i < xs.length → i ≤ 1000000000 → 0 ≤ k → k ≤ 10000000000 - 20 → step xs k i = some (.inl (xs.set i (mk k), k + c, ((i + 1 : Nat) : Int))))
    (hend : ∀ (xs : List α) (k : Int), step xs k xs.length = some (.inr (xs, k))) :
    ∀ (m i : Nat) (xs : List α) (k : Int), i + m = xs.length → xs.length ≤ 1000000000 → 0 ≤ k → k + c * m ≤ 10000000000 - 20 → loopM (fun s : List α × Int × Int => step s.1 s.2.1 s.2.2) (xs, k, (i : Int)) = some (xs.take i ++ (List.range m).map (fun j : Nat => mk (k + c * j)), k + c * m)
  | 0, i, xs, k, h, hl, h0, h1 => by
    have he := hend xs k
    rw [← h, Nat.add_zero] at he
    rw [loopM_done he, List.take_of_length_le (by omega)]
    simp
  | m + 1, i, xs, k, h, hl, h0, h1 => by
    have hc : (c : Int) * ((m + 1 : Nat) : Int) = c * m + c := by push_cast; rw [Int.mul_add, Int.mul_one]
    have hcm : (0 : Int) ≤ c * m := Int.mul_nonneg (by omega) (by omega)
    rw [hc] at h1
    rw [loopM_next (hstep xs k i (by omega) (by omega) h0 (by omega)), markS_gen step mk c hstep hend m (i + 1) _ (k + c) (by rw [List.length_set]; omega) (by rw [List.length_set]; exact hl) (by omega) (by omega)]
    rw [hc, List.take_add_one, List.take_set_of_le (Nat.le_refl _), List.getElem?_set_self (by omega), List.append_assoc, List.range_succ_eq_map, List.map_cons, List.map_map]
    have e : (fun j : Nat => mk (k + c + c * j)) = (fun j : Nat => mk (k + c * j)) ∘ Nat.succ := by
      funext j
      simp only [Function.comp]
      congr 1
      push_cast
      rw [Int.mul_add]; omega
    rw [e]
    simp
    omega
theorem heldS_gen {α : Type} (step : List α → Int → Int → Option ((Int × Int) ⊕ (Int ⊕ Int))) (mk : Int → α) (c : Nat)
    (hstep : ∀ (ys : List α) (k : Int) (i : Nat), ys[i]? = some (mk k) → i ≤ 1000000000 → 0 ≤ k → k ≤ 10000000000 - 20 → step ys k i = some (.inl (k + c, ((i + 1 : Nat) : Int))))
    (hend : ∀ (ys : List α) (k : Int), step ys k ys.length = some (.inr (.inl k))) (ys : List α) (k0 : Int) (hk0 : 0 ≤ k0) (hys : ∀ i, i < ys.length → ys[i]? = some (mk (k0 + c * i))) (hl : ys.length ≤ 1000000000) (hb : k0 + c * ys.length ≤ 10000000000 - 20) :
    ∀ (m i : Nat), i + m = ys.length → loopM (fun s : Int × Int => step ys s.1 s.2) (k0 + c * i, (i : Int)) = some (.inl (k0 + c * ys.length))
  | 0, i, h => by
    have he := hend ys (k0 + c * i)
    rw [← h, Nat.add_zero] at he
    rw [loopM_done he, ← h, Nat.add_zero]
  | m + 1, i, h => by
    have hci : (0 : Int) ≤ c * i := Int.mul_nonneg (by omega) (by omega)
    have hcl : (c : Int) * i ≤ c * ys.length := Int.mul_le_mul_of_nonneg_left (by omega) (by omega)
    have hs := hstep ys (k0 + c * i) i (hys i (by omega)) (by omega) (by omega) (by omega)
    have e : k0 + (c : Int) * i + c = k0 + c * ((i + 1 : Nat) : Int) := by push_cast; rw [Int.mul_add]; omega
    rw [e] at hs
    rw [loopM_next hs, heldS_gen step mk c hstep hend ys k0 hk0 hys hl hb m (i + 1) (by omega)]
theorem marks_both {α : Type} (mstep : List α → Int → Int → Option ((List α × Int × Int) ⊕ (List α × Int))) (hstep : List α → Int → Int → Option ((Int × Int) ⊕ (Int ⊕ Int))) (mk : Int → α) (c : Nat) (hc : c ≤ 20)
    (hm : ∀ (xs : List α) (k : Int) (i : Nat), i < xs.length → i ≤ 1000000000 → 0 ≤ k → k ≤ 10000000000 - 20 → mstep xs k i = some (.inl (xs.set i (mk k), k + c, ((i + 1 : Nat) : Int))))
    (hme : ∀ (xs : List α) (k : Int), mstep xs k xs.length = some (.inr (xs, k)))
    (hh : ∀ (ys : List α) (k : Int) (i : Nat), ys[i]? = some (mk k) → i ≤ 1000000000 → 0 ≤ k → k ≤ 10000000000 - 20 → hstep ys k i = some (.inl (k + c, ((i + 1 : Nat) : Int))))
    (hhe : ∀ (ys : List α) (k : Int), hstep ys k ys.length = some (.inr (.inl k))) (xs : List α) (hl : xs.length ≤ 100000000) (k0 : Int) (h0 : 0 ≤ k0) (h1 : k0 ≤ 5000000000) :
    ∃ (ys : List α) (k' : Int), loopM (fun s : List α × Int × Int => mstep s.1 s.2.1 s.2.2) (xs, k0, 0) = some (ys, k') ∧ loopM (fun s : Int × Int => hstep ys s.1 s.2) (k0, 0) = some (.inl k') ∧ 0 ≤ k' ∧ k' ≤ k0 + 20 * xs.length := by
  have hcl : (c : Int) * xs.length ≤ 20 * xs.length := Int.mul_le_mul_of_nonneg_right (by omega) (by omega)
  have hcl0 : (0 : Int) ≤ c * xs.length := Int.mul_nonneg (by omega) (by omega)
  have a := markS_gen mstep mk c hm hme xs.length 0 xs k0 (by omega) (by omega) h0 (by omega)
  rw [List.take_zero, List.nil_append] at a
  refine ⟨_, _, a, ?_, by omega, by omega⟩
  have b := heldS_gen hstep mk c hh hhe ((List.range xs.length).map (fun j : Nat => mk (k0 + c * j))) k0 h0 (fun i hi => by
    rw [List.length_map, List.length_range] at hi
    rw [List.getElem?_map, List.getElem?_range hi]
    rfl) (by simp; omega) (by simp; omega) xs.length 0 (by simp)
  simp only [List.length_map, List.length_range] at b
  rw [show k0 + (c : Int) * ((0 : Nat) : Int) = k0 by simp] at b
  exact b

theorem markText_total (k : Int) (h : k ≤ 10000000000) : ∃ s, m_laws_markText k = some s ∧ s.length ≤ 30 := by
  unfold m_laws_markText
  by_cases hk : k ≤ 0
  · rw [decide_eq_true hk]; exact ⟨_, rfl, by simp⟩
  · rw [decide_eq_false hk, cond_false]
    obtain ⟨s, hs, hl⟩ := loopM_inv (step := fun s : Int × Str => m_laws_markText_l1 s.1 s.2) (fun s => 0 ≤ s.1 ∧ s.1 ≤ 10000000000 ∧ s.1 < 10 ^ (12 - s.2.length) ∧ s.2.length ≤ 12) (fun s => s.1.toNat) (fun r => r.length ≤ 12) (fun s hI => by
      obtain ⟨x, s⟩ := s
      obtain ⟨i1, i2, i3, i4⟩ := hI
      simp only at i1 i2 i3 i4
      show (∃ s', m_laws_markText_l1 x s = some (.inl s') ∧ _) ∨ (∃ r, m_laws_markText_l1 x s = some (.inr r) ∧ _)
      unfold m_laws_markText_l1
      by_cases hx : 0 < x
      · left
        have hlen : s.length < 12 := by
          rcases Nat.lt_or_ge s.length 12 with h | h
          · exact h
          · rw [show 12 - s.length = 0 by omega] at i3; simp at i3; omega
        have hp : (10 : Int) ^ (12 - s.length) = 10 ^ (11 - s.length) * 10 := by rw [show 12 - s.length = (11 - s.length) + 1 by omega, Int.pow_succ]
        have hr : remI x 10 = some (x % 10) := by unfold remI; rw [show ((10 : Int) == 0) = false from rfl, cond_false, Int.tmod_eq_emod_of_nonneg i1]
        have hq : quoI x 10 = some (x / 10) := by
          unfold quoI
          rw [show ((10 : Int) == 0) = false from rfl, cond_false, Int.tdiv_eq_ediv_of_nonneg i1, chk_in (by omega) (by omega)]
        rw [decide_eq_true hx, cond_true, hr, Option.bind_some, chk_in (by omega) (by omega), Option.bind_some, catL_of (by simp; omega), Option.bind_some, hq, Option.bind_some]
        refine ⟨_, rfl, ⟨by simp only; omega, by simp only; omega, ?_, by simp; omega⟩, by simp only; omega⟩
        simp only [List.length_append, List.length_cons, List.length_nil]
        rw [show 12 - (0 + 1 + s.length) = 11 - s.length by omega]
        omega
      · right
        rw [decide_eq_false hx]
        exact ⟨_, rfl, i4⟩) (k, []) ⟨by simp only; omega, h, by
          simp only [List.length_nil]
          have e12 : (10 : Int) ^ (12 - 0) = 1000000000000 := by decide
          omega, by simp⟩
    rw [hs, Option.bind_some, Option.bind_some, catL_of (by simp; omega), Option.bind_some]
    exact ⟨_, rfl, by simp; omega⟩

noncomputable def mtext (k : Int) : Str := (m_laws_markText k).getD []
theorem markText_m (k : Int) (h : k ≤ 10000000000) : m_laws_markText k = some (mtext k) := by
  obtain ⟨s, hs, _⟩ := markText_total k h
  unfold mtext
  rw [hs]
  rfl

theorem remI_3 (z : Int) : remI z 3 = some (z.tmod 3) := rfl

end Go.Proofs.YtbekokenomhgeaaGreatDoor
