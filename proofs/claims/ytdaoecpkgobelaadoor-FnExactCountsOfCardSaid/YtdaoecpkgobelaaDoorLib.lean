/- The functions of Go's library that this seat calls, over the shelf's contracts. Printed by gen.py. -/
import Derived.Test.YtdaoecpkgobelaaDoorShelf
import Derived.Test.YtdaoecpkgobelaaDoorEngM
import Derived.Test.YtdaoecpkgobelaaDoorTyp
namespace Go.Proofs.YtdaoecpkgobelaaDoor
open Go Go.RowKit
set_option linter.unusedSimpArgs false
set_option linter.unusedVariables false

theorem r_strconv_FormatInt (C : Cx) (x1 : Int) (hp2 : R64 x1) (x3 : Int) (hp4 : R64 x3) (r : Str) (h : m_strconv_FormatInt x1 x3 = some r) :
    Calls Tryd.prog 120 #[vI (x1), vI (x3)] C.w0 fun e w => e = .returned (vS (r)) ∧ Mem C w [] [] ∧ r.length ≤ maxLen := by
  unfold m_strconv_FormatInt at h
  rcases cond_some h with ⟨hc, h⟩ | ⟨hc, h⟩
  case inr => cases h
  obtain rfl := some_inj h
  obtain rfl : x3 = 10 := by simpa using hc
  refine (Tryd.strconv_FormatInt_10 x1 hp2.1 hp2.2 C.w0 C.gT.pow).mono ?_
  rintro e w ⟨rfl, k, os, rfl⟩
  exact ⟨rfl, Mem.below C (Lib.below_grow C.w0.heap.size C.w0 (Nat.le_refl _) k os), itoa_max hp2⟩

end Go.Proofs.YtdaoecpkgobelaaDoor
