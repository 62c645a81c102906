/- The functions of Go's library that this seat calls, over the shelf's contracts. Printed by gen.py. -/
import Derived.Test.YtgmikhdealhlfaaShelf
import Derived.Test.YtgmikhdealhlfaaEngM
import Derived.Test.YtgmikhdealhlfaaTyp
namespace Go.Proofs.Ytgmikhdealhlfaa
open Go Go.RowKit
set_option linter.unusedSimpArgs false
set_option linter.unusedVariables false

theorem r_strings_Contains (C : Cx) (x1 : Str) (hp2 : x1.length ≤ maxLen) (x3 : Str) (hp4 : x3.length ≤ maxLen) (r : Bool) (h : m_strings_Contains x1 x3 = some r) :
    Calls Try.prog 116 #[vS (x1), vS (x3)] C.w0 fun e w => e = .returned (.bool (r)) ∧ Mem C w [] [] := by
  unfold m_strings_Contains at h
  match x3, h with
  | [c], h =>
    obtain rfl := some_inj h
    refine (Try.strings_Contains_one ⟨List.toArray x1⟩ c C.w0).mono ?_
    rintro e w ⟨rfl, rfl⟩
    exact ⟨rfl, Mem.none_ C⟩

end Go.Proofs.Ytgmikhdealhlfaa
