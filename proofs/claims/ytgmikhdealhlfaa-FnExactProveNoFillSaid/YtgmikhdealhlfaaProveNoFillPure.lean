/- ProveNoFill: the models of the program and of the reference agree. -/
import Derived.Test.YtgmikhdealhlfaaPureFe
import Derived.Test.YtgmikhdealhlfaaPureT
namespace Go.Proofs.Ytgmikhdealhlfaa
open Go Go.RowKit
set_option linter.unusedSimpArgs false
set_option linter.unusedVariables false

theorem m_laws_FnExactProveNoFill_true (g : Grid) (l : Lexicon) (h : Lies GridRep g) (h' : Lies LexiconRep l) : m_laws_FnExactProveNoFill g l = some true := by
  unfold m_laws_FnExactProveNoFill
  rw [sz_sub (bulk_Grid g) 1048576 (by omega) (szGrid_eq g h 1048576 (by omega) (by omega))]
  split
  case isFalse => rfl
  rename_i hb
  rw [sz_sub (bulk_Lexicon l) _ (by omega) (szLexicon_eq l h' _ (by omega) (by omega))]
  split
  case isFalse => rfl
  rename_i hc
  obtain ⟨hn, hw⟩ := lex_small (l := l) (by omega)
  have hs := sm_Lexicon_of (x := l) (by omega)
  have hg : g.Cells.length ≤ 1048576 := by unfold bulk_Grid at hb; omega
  obtain ⟨v, h1, h2, h3⟩ := ProveNoFill_eq g l (by omega) hn hw
  obtain ⟨ys, k', m1, m2, m3, m4⟩ := marksInt64S v.1 (by omega) 1 (by omega) (by omega)
  obtain ⟨zs, q', n1, n2, n3, n4⟩ := marksStringS l.Words (by omega) 1 (by omega) (by omega)
  have hsv : sm_Int64S v.1 := by unfold sm_Int64S; omega
  simp only [toGrid_eq g, toLexicon_eq l hs, Option.bind_some, h1, h2, eqInt64S_eq _ _ hsv, eqLexicon_eq _ _ hs, decide_true, Bool.not_true, cond_false, bne_self_eq_false, m_laws_markLexicon, n1, decide_eq_false (by omega : ¬ q' < 0), m1, m2, decide_eq_false (by omega : ¬ k' < 0)]

end Go.Proofs.Ytgmikhdealhlfaa
