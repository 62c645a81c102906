/- DawgChanges: the models of the program and of the reference agree. -/
import Derived.Test.YtccoeheoifbpcaaDoorPureCh
import Derived.Test.YtccoeheoifbpcaaDoorPureMk
namespace Go.Proofs.YtccoeheoifbpcaaDoor
open Go Go.RowKit
set_option linter.unusedSimpArgs false
set_option linter.unusedVariables false

theorem m_laws_FnExactDawgChanges_true (a b : Dawg) (h : Lies DawgRep a) (h' : Lies DawgRep b) : m_laws_FnExactDawgChanges a b = some true := by
  unfold m_laws_FnExactDawgChanges
  rw [sz_sub (bulk_Dawg a) 1048576 (by omega) (szDawg_eq a h 1048576 (by omega) (by omega))]
  split
  case isFalse => rfl
  rename_i hb
  rw [sz_sub (bulk_Dawg b) _ (by omega) (szDawg_eq b h' _ (by omega) (by omega))]
  split
  case isFalse => rfl
  rename_i hc
  have hbn : bulk_Dawg a ≤ 1048576 := by omega
  have hcn : bulk_Dawg b ≤ 1048576 := by omega
  have sa := sm_Dawg_of hbn
  have sb := sm_Dawg_of hcn
  obtain ⟨v, h1, h2, h3, h4⟩ := Changes_eq a b (dawg_small hbn) (dawg_small hcn)
  obtain ⟨ns, k1, n1, n2, n3⟩ := markDawg_some a hbn 1 (by omega) (by omega)
  obtain ⟨ms, k2, q1, q2, q3⟩ := markDawg_some b hcn k1 (by omega) (by omega)
  obtain ⟨ys, k3, m1, m2, m3, m4⟩ := marksStringS v.1 (by omega) 1 (by omega) (by omega)
  obtain ⟨zs, k4, o1, o2, o3, o4⟩ := marksStringS v.2.1 (by omega) k3 (by omega) (by omega)
  have e1 := eqStringS_eq v.1 v.1 (show sm_StringS v.1 by unfold sm_StringS; omega)
  have e2 := eqStringS_eq v.2.1 v.2.1 (show sm_StringS v.2.1 by unfold sm_StringS; omega)
  have d1 := eqDawg_eq a a sa
  have d2 := eqDawg_eq b b sb
  simp only [toDawg_eq a sa, toDawg_eq b sb, h1, h2, e1, e2, d1, d2, n1, q1, m1, m2, o1, o2, Option.bind_some, decide_true, Bool.not_true, cond_false, bne_self_eq_false, decide_eq_false (by omega : ¬ k2 < 0), decide_eq_false (by omega : ¬ k3 < 0), decide_eq_false (by omega : ¬ k4 < 0)]

end Go.Proofs.YtccoeheoifbpcaaDoor
