/- Texts written by a builder: turns, records. -/
import Derived.Test.YtbekokenomhgeaaGreatDoorPureQ
namespace Go.Proofs.YtbekokenomhgeaaGreatDoor
open Go Go.RowKit
set_option linter.unusedSimpArgs false
set_option linter.unusedVariables false

theorem WriteString_eq (x s : Str) (h : x.length + s.length ≤ 100000000) : m_strings_Builder_WriteString x s = some ((s.length : Int), (), x ++ s) := by
  unfold m_strings_Builder_WriteString m_strings_Builder_copyCheck
  rw [Option.bind_some, catL_of h]
  rfl

theorem BString_eq (x : Str) : m_strings_Builder_String x = some x := rfl

/-! ### Turns -/

def turnB (x : Turn) : Bool := rackB x.Rack && (bif x.Pass then x.Play == none0 else plainB x.Play)

def dashT (s : Str) : Str := bif s == ([] : Str) then [45] else s

def turnT (x : Turn) : Str := dashT x.Rack ++ (bif x.Pass then [32, 112, 97, 115, 115] else [32] ++ playT x.Play)

theorem dashT_len (s : Str) : (dashT s).length ≤ s.length + 1 := by
  unfold dashT
  cases s == ([] : Str) <;> simp

theorem dashed_eq (s : Str) : m_impl_dashed s = some (dashT s) := by
  unfold m_impl_dashed dashT
  cases s == ([] : Str) <;> rfl

theorem TurnText_eq (x : Turn) (h1 : x.Rack.length ≤ 1048576) (h2 : x.Play.Word.length ≤ 1048576) : m_impl_TurnText x = some (bif turnB x then turnT x else []) := by
  have hd := dashT_len x.Rack
  unfold m_impl_TurnText turnB turnT
  rw [dashed_eq, Option.bind_some, WriteString_eq _ _ (by simp; omega), Option.bind_some, PlayText_eq _ h2, Option.bind_some, ValidRack_eq _ (by omega), Option.bind_some]
  cases hr : rackB x.Rack
  · rfl
  cases hp : x.Pass
  · cases hw : plainB x.Play
    · rfl
    · obtain ⟨hl, hne⟩ := playT_len hw
      simp only [Bool.not_true, cond_false, cond_true, Bool.and_true, hne, Option.bind_some]
      rw [catL_of (by simp; omega), Option.bind_some, WriteString_eq _ _ (by simp; omega)]
      simp [BString_eq]
  · rw [show (⟨0, 0, false, ([] : Str)⟩ : Play) = none0 from rfl]
    cases hz : x.Play == none0
    · simp [bne, hz]
    · simp only [bne, hz, Bool.not_true, cond_false, cond_true, Bool.and_true, Option.bind_some]
      rw [WriteString_eq _ _ (by simp; omega)]
      simp [BString_eq]

theorem l24Plain_eq (x : Turn) (h1 : x.Rack.length ≤ 1048576) (h2 : x.Play.Word.length ≤ 1048576) : m_spec_l24Plain x = some (turnB x) := by
  unfold m_spec_l24Plain turnB none0
  rw [l03Rack_eq _ (by omega), l12Plain_eq _ h2]
  cases x.Pass <;> cases rackB x.Rack <;> rfl

/-! ### Records -/

end Go.Proofs.YtbekokenomhgeaaGreatDoor
