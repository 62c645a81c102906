/- CountFillings: the models of the program and of the reference agree. -/
import Derived.Test.YtgmikhdealhlfaaPureFd
import Derived.Test.YtgmikhdealhlfaaPureT
namespace Go.Proofs.Ytgmikhdealhlfaa
open Go Go.RowKit
set_option linter.unusedSimpArgs false
set_option linter.unusedVariables false

theorem m_laws_FnExactCountFillings_true (g : Grid) (l : Lexicon) (h : Lies GridRep g) (h' : Lies LexiconRep l) : m_laws_FnExactCountFillings g l = some true := by
  unfold m_laws_FnExactCountFillings
  rw [sz_sub (bulk_Grid g) 1048576 (by omega) (szGrid_eq g h 1048576 (by omega) (by omega))]
  split
  case isFalse => rfl
  rename_i hb
  rw [sz_sub (bulk_Lexicon l) _ (by omega) (szLexicon_eq l h' _ (by omega) (by omega))]
  split
  case isFalse => rfl
  rename_i hc
  obtain ⟨hn, hw⟩ := lex_small (l := l) (by omega)
  have hs := sm_Lexicon_of (x := l) (by omega)
  have hg : g.Cells.length ≤ 1048576 := by unfold bulk_Grid at hb; omega
  obtain ⟨v, h1, h2⟩ := CountFillings_eq g l (by omega) hn hw
  simp only [toGrid_eq g, toLexicon_eq l hs, Option.bind_some, h1, h2, eqLexicon_eq _ _ hs, decide_true, Bool.not_true, cond_false, bne_self_eq_false]

end Go.Proofs.Ytgmikhdealhlfaa
