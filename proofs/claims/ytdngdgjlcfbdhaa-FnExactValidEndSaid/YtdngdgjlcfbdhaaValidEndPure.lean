/- ValidEnd: the models of the program and of the reference agree. -/
import Derived.Test.YtdngdgjlcfbdhaaPureB
namespace Go.Proofs.Ytdngdgjlcfbdhaa
open Go Go.RowKit
set_option linter.unusedSimpArgs false
set_option linter.unusedVariables false

def endB (e : End) : Bool := boardB e.Board && rackB e.Mine && rackB e.Theirs && (e.Mine != ([] : Str)) && (e.Theirs != ([] : Str))
theorem m_laws_FnExactValidEnd_true (e : End) (h : Lies EndRep e) : m_laws_FnExactValidEnd e = some true := by
  unfold m_laws_FnExactValidEnd
  rw [szEnd_eq e h 1048576 (by omega) (by omega), Option.bind_some, szR_neg (by omega)]
  by_cases hb : (1048576 : Int) < bulk_End e
  · rw [decide_eq_true hb]; rfl
  · rw [decide_eq_false hb]
    unfold bulk_End bulk_Board at hb
    have h1 := ValidBoard_eq e.Board (by omega) (by omega)
    have h2 := l11Ok_eq e.Board (by omega) (by omega)
    have h3 := ValidRack_eq e.Mine (by omega)
    have h4 := l03Rack_eq e.Mine (by omega)
    have h5 := ValidRack_eq e.Theirs (by omega)
    have h6 := l03Rack_eq e.Theirs (by omega)
    have hi : m_impl_ValidEnd e = some (endB e) := by
      unfold m_impl_ValidEnd endB
      rw [h1, h3, h5]
      cases boardB e.Board <;> cases rackB e.Mine <;> cases rackB e.Theirs <;> cases e.Mine != ([] : Str) <;> rfl
    have hs : m_spec_ValidEnd e = some (endB e) := by
      unfold m_spec_ValidEnd m_spec_l22Ok endB
      rw [h2, h4, h6]
      cases boardB e.Board <;> cases rackB e.Mine <;> cases rackB e.Theirs <;> cases e.Mine != ([] : Str) <;> rfl
    simp only [cond_false, toEnd_eq e, Option.bind_some, hi, hs, bne_self_eq_false]

end Go.Proofs.Ytdngdgjlcfbdhaa
