/- NumberOf: the models of the program and of the reference agree. -/
import Derived.Test.YtdaoecpkgobelaaDoorPureK15
namespace Go.Proofs.YtdaoecpkgobelaaDoor
open Go Go.RowKit
set_option linter.unusedSimpArgs false
set_option linter.unusedVariables false

theorem m_laws_FnExactNumberOf_true (d : Dawg) (s : Str) (h : Lies DawgRep d) (h' : Lies strRep s) : m_laws_FnExactNumberOf d s = some true := by
  unfold m_laws_FnExactNumberOf
  by_cases hs : (1048576 : Int) < (s.length : Int)
  · rw [decide_eq_true hs]; rfl
  · rw [decide_eq_false hs, cond_false, szDawg_eq d h 1048576 (by omega) (by omega), Option.bind_some, szR_neg (by omega)]
    by_cases hb : (1048576 : Int) < bulk_Dawg d
    · rw [decide_eq_true hb]; rfl
    · rw [decide_eq_false hb, cond_false]
      have hbn : bulk_Dawg d ≤ 1048576 := by omega
      have hsm := sm_Dawg_of hbn
      obtain ⟨v, h1, h2⟩ := NumberOf_eq d (dawg_small hbn) s (by omega)
      rw [toDawg_eq d hsm, Option.bind_some, h2, Option.bind_some, Option.bind_some, h1, Option.bind_some, Option.bind_some, eqDawg_eq d d hsm]
      simp

end Go.Proofs.YtdaoecpkgobelaaDoor
