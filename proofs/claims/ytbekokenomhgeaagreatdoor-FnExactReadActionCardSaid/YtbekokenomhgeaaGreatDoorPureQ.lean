/- Actions: valid ones, their texts. -/
import Derived.Test.YtbekokenomhgeaaGreatDoorPureP
import Derived.Test.YtbekokenomhgeaaGreatDoorPureB
namespace Go.Proofs.YtbekokenomhgeaaGreatDoor
open Go Go.RowKit
set_option linter.unusedSimpArgs false
set_option linter.unusedVariables false

def none0 : Play := ⟨0, 0, false, ([] : Str)⟩

def actB (a : Action) : Bool := bif !(inB a.Seconds 0 36000) then false else bif a.Kind == 1 then plainB a.Play && (a.Tiles == ([] : Str)) else bif a.Kind == 2 then (a.Play == none0) && ((a.Tiles != ([] : Str)) && rackB a.Tiles) else bif (a.Kind == 3 || a.Kind == 4) then (a.Play == none0) && (a.Tiles == ([] : Str)) else false

theorem playT_some (p : Play) : ((bif plainB p then playT p else []) != ([] : Str)) = plainB p := by
  cases h : plainB p
  · rfl
  · simp only [cond_true, bne, (playT_len h).2, Bool.not_false]

theorem ValidAction_eq (a : Action) (h1 : a.Play.Word.length ≤ 1048576) (h2 : a.Tiles.length ≤ 1048576) : m_impl_ValidAction a = some (actB a) := by
  unfold m_impl_ValidAction actB none0
  rw [within_eq, PlayText_eq _ h1, ValidRack_eq _ (by omega), Option.bind_some]
  cases inB a.Seconds 0 36000
  · rfl
  cases a.Kind == 1
  · cases a.Kind == 2
    · cases h3 : a.Kind == 3
      · cases h4 : a.Kind == 4
        · rfl
        · cases a.Play == (⟨0, 0, false, ([] : Str)⟩ : Play) <;> rfl
      · cases a.Play == (⟨0, 0, false, ([] : Str)⟩ : Play) <;> rfl
    · cases a.Play == (⟨0, 0, false, ([] : Str)⟩ : Play)
      · rfl
      · cases a.Tiles != ([] : Str) <;> rfl
  · simp only [Bool.not_true, cond_false, cond_true, Option.bind_some, playT_some]
    cases plainB a.Play <;> rfl

theorem l20Action_eq (a : Action) (h1 : a.Play.Word.length ≤ 1048576) (h2 : a.Tiles.length ≤ 1048576) : m_spec_l20Action a = some (actB a) := by
  unfold m_spec_l20Action actB none0
  rw [l00In_eq, l12Plain_eq _ h1, l03Rack_eq _ (by omega), Option.bind_some]
  cases inB a.Seconds 0 36000
  · rfl
  cases a.Kind == 1
  · cases a.Kind == 2
    · cases h3 : a.Kind == 3
      · cases h4 : a.Kind == 4
        · rfl
        · cases a.Play == (⟨0, 0, false, ([] : Str)⟩ : Play) <;> rfl
      · cases a.Play == (⟨0, 0, false, ([] : Str)⟩ : Play) <;> rfl
    · cases a.Play == (⟨0, 0, false, ([] : Str)⟩ : Play)
      · rfl
      · cases a.Tiles != ([] : Str) <;> rfl
  · simp only [Bool.not_true, cond_false, cond_true, Option.bind_some]
    cases plainB a.Play <;> rfl

def actT (a : Action) : Str := bif a.Kind == 1 then [112, 108, 97, 121, 32] ++ playT a.Play ++ [32] ++ Lib.itoa a.Seconds else bif a.Kind == 2 then [101, 120, 99, 104, 97, 110, 103, 101, 32] ++ a.Tiles ++ [32] ++ Lib.itoa a.Seconds else bif a.Kind == 3 then [112, 97, 115, 115, 32] ++ Lib.itoa a.Seconds else [99, 104, 97, 108, 108, 101, 110, 103, 101, 32] ++ Lib.itoa a.Seconds

/-- What a valid action holds. -/
theorem actB_all {a : Action} (h : actB a = true) : R64 a.Seconds ∧ ((a.Kind == 1) = true → plainB a.Play = true) ∧ ((a.Kind == 1) = false → (a.Kind == 2) = true → a.Tiles.length ≤ 7) := by
  unfold actB at h
  cases hs : inB a.Seconds 0 36000
  · rw [hs] at h; cases h
  rw [hs] at h
  rw [inB_iff] at hs
  refine ⟨⟨by omega, by omega⟩, fun hk => ?_, fun hk hk2 => ?_⟩
  · rw [hk] at h
    exact (Bool.and_eq_true_iff.1 h).1
  · rw [hk, hk2] at h
    have := (Bool.and_eq_true_iff.1 (Bool.and_eq_true_iff.1 h).2).2
    unfold rackB at this
    exact of_decide_eq_true (Bool.and_eq_true_iff.1 this).2

theorem join2 (a b : Str) : Lib.join [a, b] [32] = a ++ [32] ++ b := by rw [Lib.join_cons]; simp [Lib.joinTail]

theorem join3 (a b c : Str) : Lib.join [a, b, c] [32] = a ++ [32] ++ b ++ [32] ++ c := by rw [Lib.join_cons]; simp [Lib.joinTail]

theorem joined_eq (xs : List Str) (h : xs.length ≤ 100) (h2 : (Lib.join xs [32]).length ≤ 1000000) : m_impl_joined xs = some (Lib.join xs [32]) := by
  unfold m_impl_joined m_strings_Join
  rw [decide_eq_true (by unfold lim; omega), decide_eq_true (by unfold lim; omega)]
  rfl

theorem ActionText_eq (a : Action) (h1 : a.Play.Word.length ≤ 1048576) (h2 : a.Tiles.length ≤ 1048576) : m_impl_ActionText a = some (bif actB a then actT a else []) := by
  unfold m_impl_ActionText
  rw [ValidAction_eq a h1 h2, Option.bind_some]
  cases ha : actB a
  · rfl
  obtain ⟨s1, s2, s3⟩ := actB_all ha
  have hi := itoa_le s1
  simp only [Bool.not_true, cond_false, cond_true, Decimal_eq, Option.bind_some, PlayText_eq _ h1]
  unfold actT
  cases hk : a.Kind == 1
  · cases hk2 : a.Kind == 2
    · cases a.Kind == 3
      · rw [cond_false, cond_false, cond_false, cond_false, cond_false, cond_false, joined_eq _ (by simp) (by rw [join2]; simp; omega), join2]; simp
      · rw [cond_false, cond_false, cond_true, cond_false, cond_false, cond_true, joined_eq _ (by simp) (by rw [join2]; simp; omega), join2]; simp
    · have := s3 hk hk2
      rw [cond_false, cond_true, cond_false, cond_true, joined_eq _ (by simp) (by rw [join3]; simp; omega), join3]; simp
  · have hp := s2 hk
    have := (playT_len hp).1
    rw [cond_true, cond_true, hp, cond_true, joined_eq _ (by simp) (by rw [join3]; simp; omega), join3]; simp

/-! ### Records -/

end Go.Proofs.YtbekokenomhgeaaGreatDoor
