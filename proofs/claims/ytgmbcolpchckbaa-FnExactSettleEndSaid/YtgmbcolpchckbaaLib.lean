/- The functions of Go's library that this seat calls, over the shelf's contracts. Printed by gen.py. -/
import Derived.Test.YtgmbcolpchckbaaShelf
import Derived.Test.YtgmbcolpchckbaaEngM
import Derived.Test.YtgmbcolpchckbaaTyp
namespace Go.Proofs.Ytgmbcolpchckbaa
open Go Go.RowKit
set_option linter.unusedSimpArgs false
set_option linter.unusedVariables false

theorem r_strings_IndexByte (C : Cx) (x1 : Str) (hp2 : x1.length ≤ maxLen) (x3 : UInt8) (r : Int) (h : m_strings_IndexByte x1 x3 = some r) :
    Calls Try.prog 77 #[vS (x1), vB (x3)] C.w0 fun e w => e = .returned (vI (r)) ∧ Mem C w [] [] ∧ R64 r := by
  obtain rfl := some_inj h
  refine (Try.strings_IndexByte ⟨List.toArray x1⟩ (x3.toNat : Int) C.w0).mono ?_
  rintro e w ⟨rfl, rfl⟩
  refine ⟨?_, Mem.none_ C, indexByte_R hp2⟩
  simp [UInt8.ofNat_toNat]

end Go.Proofs.Ytgmbcolpchckbaa
