/- Sets of tiles: valid ones, values of letters. -/
import Derived.Test.YtgmikhdealhlfaaPureB
namespace Go.Proofs.Ytgmikhdealhlfaa
open Go Go.RowKit
set_option linter.unusedSimpArgs false
set_option linter.unusedVariables false

theorem getD_of {α : Type} {xs : List α} {i : Nat} (h : i < xs.length) (d : α) : xs.getD i d = xs[i] := by rw [List.getD_eq_getElem?_getD, List.getElem?_eq_getElem h]; rfl
theorem getL_D {α : Type} {xs : List α} {i : Nat} (h : i < xs.length) (d : α) : getL xs (i : Int) = some (xs.getD i d) := by rw [getL_at h, getD_of h]
/-- A loop that runs through states while a test holds. -/
theorem loop_allS {σ ρ : Type} {step : σ → Option (σ ⊕ ρ)} (s : Nat → σ) (p : Nat → Bool) (n : Nat) (yes no : ρ) (hlt : ∀ i, i < n → (∀ j, j < i → p j = true) → step (s i) = some (bif p i then .inl (s (i + 1)) else .inr no)) (hend : (∀ j, j < n → p j = true) → step (s n) = some (.inr yes)) :
    loopM step (s 0) = some (bif allI p 0 n then yes else no) := by
  have key : ∀ (k i : Nat), i + k = n → (∀ j, j < i → p j = true) → loopM step (s i) = some (bif allI p i k then yes else no) := by
    intro k
    induction k with
    | zero => intro i h hb; rw [Nat.add_zero] at h; subst h; exact loopM_done (hend hb)
    | succ k ih =>
      intro i h hb
      have h1 := hlt i (by omega) hb
      rw [allI]
      cases hp : p i with
      | true =>
        rw [hp] at h1
        rw [loopM_next h1]
        simpa using ih (i + 1) (by omega) fun j hj => by
          rcases Nat.eq_or_lt_of_le (Nat.lt_succ_iff.1 hj) with rfl | h'
          · exact hp
          · exact hb j h'
      | false => rw [hp] at h1; exact loopM_done h1
  exact key n 0 (by omega) fun j hj => by omega

end Go.Proofs.Ytgmikhdealhlfaa
