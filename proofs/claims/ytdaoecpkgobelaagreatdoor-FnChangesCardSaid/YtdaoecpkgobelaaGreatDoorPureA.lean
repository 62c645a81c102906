/- Words for the models: partial steps that succeed, loops that run. -/
import Derived.Test.YtdaoecpkgobelaaGreatDoorMod
import Derived.Test.YtdaoecpkgobelaaGreatDoorEngK
namespace Go.Proofs.YtdaoecpkgobelaaGreatDoor
open Go Go.RowKit
set_option linter.unusedSimpArgs false
set_option linter.unusedVariables false
theorem getL_nat {α : Type} (xs : List α) (i : Nat) : getL xs (i : Int) = xs[i]? := by
  unfold getL
  rw [decide_eq_true (by omega : (0 : Int) ≤ (i : Int))]
  rfl
theorem getL_at {α : Type} {xs : List α} {i : Nat} (h : i < xs.length) : getL xs (i : Int) = some xs[i] := by rw [getL_nat, List.getElem?_eq_getElem h]
theorem getL_of {α : Type} {xs : List α} {z : Int} (i : Nat) (hz : z = i) (h : i < xs.length) : getL xs z = some xs[i] := by rw [hz]; exact getL_at h
theorem getL_int {α : Type} {xs : List α} {k : Int} (h0 : 0 ≤ k) (h : k.toNat < xs.length) : getL xs k = some xs[k.toNat] := getL_of k.toNat (by omega) h
theorem chk_nat {n : Nat} (h : n ≤ 9000000000000000000) : chk (n : Int) = some (n : Int) := chk_of ⟨by omega, by omega⟩
theorem chk_in {x : Int} (h1 : -9000000000000000000 ≤ x) (h2 : x ≤ 9000000000000000000) : chk x = some x := chk_of ⟨by omega, by omega⟩
theorem chk_to {x : Int} (y : Int) (e : x = y) (h1 : -9000000000000000000 ≤ y) (h2 : y ≤ 9000000000000000000) : chk x = some y := by rw [e]; exact chk_in h1 h2
theorem chk_succ {i : Nat} (h : i ≤ 8000000000000000000) : chk ((i : Int) + 1) = some ((i + 1 : Nat) : Int) := chk_to _ (by omega) (by omega) (by omega)
theorem catL_of {α : Type} {xs ys : List α} (h : xs.length + ys.length ≤ 100000000) : catL xs ys = some (xs ++ ys) := by
  unfold catL
  rw [decide_eq_true (by unfold lim; exact h)]
  rfl
theorem subL_of {α : Type} {xs : List α} {lo hi : Int} (h0 : 0 ≤ lo) (h1 : lo ≤ hi) (h2 : hi ≤ xs.length) : subL xs lo hi = some ((xs.drop lo.toNat).take (hi.toNat - lo.toNat)) := by
  unfold subL
  rw [decide_eq_true h0, decide_eq_true h1, decide_eq_true h2]
  rfl
theorem setL_of {α : Type} {xs : List α} {i : Nat} {x : α} (h : i < xs.length) : setL xs (i : Int) x = some (xs.set i x) := by
  unfold setL
  rw [decide_eq_true (by omega : (0 : Int) ≤ (i : Int)), decide_eq_true (by omega : (i : Int) < xs.length)]
  rfl
theorem makeL_of {α : Type} {n : Nat} {z : α} (h : n ≤ 100000000) : makeL (n : Int) z = some (List.replicate n z) := by
  unfold makeL
  rw [decide_eq_true (by omega : (0 : Int) ≤ (n : Int)), decide_eq_true (by unfold lim; omega : (n : Int) ≤ lim)]
  rfl
theorem bind_of {α β : Type} {m : Option α} {x : α} {f : α → Option β} (h : m = some x) : m.bind f = f x := by rw [h]; rfl
/-! ### Loops -/
section
variable {σ ρ : Type} {step : σ → Option (σ ⊕ ρ)}
theorem loop_run (s : Nat → σ) (n : Nat) (r : ρ) (hlt : ∀ i, i < n → step (s i) = some (.inl (s (i + 1)))) (hend : step (s n) = some (.inr r)) : ∀ i, i ≤ n → loopM step (s i) = some r := by
  intro i hi
  induction hk : n - i generalizing i with
  | zero =>
    obtain rfl : i = n := by omega
    exact loopM_done hend
  | succ k ih =>
    rw [loopM_next (hlt i (by omega))]
    exact ih (i + 1) (by omega) (by omega)
end
def allI (p : Nat → Bool) : Nat → Nat → Bool
  | _, 0 => true
  | i, k + 1 => p i && allI p (i + 1) k
theorem allI_iff {p : Nat → Bool} : ∀ {k i : Nat}, allI p i k = true ↔ ∀ j, i ≤ j → j < i + k → p j = true
  | 0, i => by simp [allI]; intro j h1 h2; omega
  | k + 1, i => by
    rw [allI, Bool.and_eq_true, allI_iff]
    constructor
    · rintro ⟨h1, h2⟩ j hj hk
      rcases Nat.eq_or_lt_of_le hj with rfl | h
      · exact h1
      · exact h2 j h (by omega)
    · intro h
      exact ⟨h i (Nat.le_refl _) (by omega), fun j h1 h2 => h j (by omega) (by omega)⟩
theorem loop_all {ρ : Type} {step : Int → Option (Int ⊕ ρ)} (p : Nat → Bool) (n : Nat) (yes no : ρ) (hlt : ∀ i : Nat, i < n → step (i : Int) = some (bif p i then .inl ((i : Int) + 1) else .inr no)) (hend : step (n : Int) = some (.inr yes)) :
    ∀ (k i : Nat), i + k = n → loopM step (i : Int) = some (bif allI p i k then yes else no)
  | 0, i, h => by
    rw [Nat.add_zero] at h
    subst h
    exact loopM_done hend
  | k + 1, i, h => by
    have h1 := hlt i (by omega)
    rw [allI]
    cases hp : p i with
    | true =>
      rw [hp] at h1
      have := loop_all p n yes no hlt hend k (i + 1) (by omega)
      rw [loopM_next h1]
      simpa using this
    | false =>
      rw [hp] at h1
      exact loopM_done h1
/-! ### Small functions -/
def inB (x lo hi : Int) : Bool := decide (lo ≤ x) && decide (x ≤ hi)
theorem inB_iff {x lo hi : Int} : inB x lo hi = true ↔ lo ≤ x ∧ x ≤ hi := by simp [inB]
theorem within_eq (x lo hi : Int) : m_impl_within x lo hi = some (inB x lo hi) := by
  unfold m_impl_within inB; cases decide (lo ≤ x) <;> rfl
theorem l00In_eq (x lo hi : Int) : m_spec_l00In x lo hi = some (inB x lo hi) := by
  unfold m_spec_l00In inB; cases decide (lo ≤ x) <;> rfl
def smB (c : UInt8) : Bool := decide (97 ≤ c) && decide (c ≤ 122)
theorem small_eq (c : UInt8) : m_impl_small c = some (smB c) := by
  unfold m_impl_small smB; cases decide (97 ≤ c) <;> rfl
theorem l01Small_eq (c : UInt8) : m_spec_l01Small c = some (smB c) := by
  unfold m_spec_l01Small smB; cases decide (97 ≤ c) <;> rfl
theorem all_idx {α : Type} (p : α → Bool) (s : List α) : allI (fun i => (s[i]?.map p).getD true) 0 s.length = s.all p := by
  rw [Bool.eq_iff_iff, allI_iff, List.all_eq_true]
  constructor
  · intro h x hx
    obtain ⟨i, hi, rfl⟩ := List.getElem_of_mem hx
    have := h i (by omega) (by omega)
    rwa [List.getElem?_eq_getElem hi] at this
  · intro h i _ hi
    rw [List.getElem?_eq_getElem (by omega : i < s.length)]
    exact h _ (List.getElem_mem _)
/-! ### What the laws do with their arguments: size, copy, equality, marks -/
end Go.Proofs.YtdaoecpkgobelaaGreatDoor
