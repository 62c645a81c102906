/- Words: what a word is, what fits a pattern, a word put into a slot. -/
import Derived.Test.YtdaoecpkgobelaaGreatDoorPureC
namespace Go.Proofs.YtdaoecpkgobelaaGreatDoor
open Go Go.RowKit
set_option linter.unusedSimpArgs false
set_option linter.unusedVariables false

def wordB (s : Str) : Bool := s.all smB && inB s.length 1 12
theorem wordB_iff {s : Str} : wordB s = true ↔ s.all smB = true ∧ 1 ≤ s.length ∧ s.length ≤ 12 := by
  unfold wordB
  rw [Bool.and_eq_true, inB_iff]
  constructor <;> intro h <;> exact ⟨h.1, by omega, by omega⟩
theorem IsWord_eq (s : Str) (hl : s.length ≤ 8000000000000000000) : m_impl_IsWord s = some (wordB s) := by
  unfold m_impl_IsWord wordB m_impl_onlySmall
  have h := loop_all (step := fun i : Int => m_impl_onlySmall_l1 s i) (fun i => (s[i]?.map smB).getD true) s.length (.inl () : Unit ⊕ Bool) (.inr false) (fun i hi => by
      unfold m_impl_onlySmall_l1
      rw [decide_eq_true (by omega : (i : Int) < s.length), cond_true, getL_at hi, Option.bind_some, small_eq, Option.bind_some, chk_succ (by omega), List.getElem?_eq_getElem hi, Option.map_some, Option.getD_some]
      cases smB s[i] <;> rfl)
    (by unfold m_impl_onlySmall_l1; rw [decide_eq_false (by omega)]; rfl) s.length 0 (by omega)
  rw [show ((0 : Nat) : Int) = 0 from rfl, all_idx] at h
  rw [h]
  unfold inB
  by_cases h1 : 1 ≤ (s.length : Int)
  · by_cases h2 : (s.length : Int) ≤ 12
    · rw [decide_eq_true h1, decide_eq_true h2]; cases s.all smB <;> rfl
    · rw [decide_eq_true h1, decide_eq_false h2]; cases s.all smB <;> rfl
  · rw [decide_eq_false h1]; cases s.all smB <;> rfl

end Go.Proofs.YtdaoecpkgobelaaGreatDoor
