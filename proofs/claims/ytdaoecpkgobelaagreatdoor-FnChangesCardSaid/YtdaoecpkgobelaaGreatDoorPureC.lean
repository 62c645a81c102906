/- Grids: slots, patterns, words in slots. -/
import Derived.Test.YtdaoecpkgobelaaGreatDoorPureB
namespace Go.Proofs.YtdaoecpkgobelaaGreatDoor
open Go Go.RowKit
set_option linter.unusedSimpArgs false
set_option linter.unusedVariables false
set_option linter.unusedSectionVars false
theorem getL_getD {α : Type} {xs : List α} {i : Nat} (h : i < xs.length) (d : α) : getL xs (i : Int) = some (xs.getD i d) := by
  rw [getL_at h, List.getD_eq_getElem?_getD, List.getElem?_eq_getElem h]; rfl
theorem loop_run2 {σ ρ : Type} {step : σ → Option (σ ⊕ ρ)} (s : Nat → σ) (n : Nat) (r : ρ) (hlt : ∀ i, i < n → step (s i) = some (.inl (s (i + 1)))) (hend : step (s n) = some (.inr r)) {s0 : σ} (h0 : s0 = s 0) : loopM step s0 = some r := by
  rw [h0]; exact loop_run s n r hlt hend 0 (Nat.zero_le _)
end Go.Proofs.YtdaoecpkgobelaaGreatDoor
