/- MinusDawg: the models of the program and of the reference agree. -/
import Derived.Test.YtccoeheoifbpcaaGreatDoorPureSet
namespace Go.Proofs.YtccoeheoifbpcaaGreatDoor
open Go Go.RowKit
set_option linter.unusedSimpArgs false
set_option linter.unusedVariables false
theorem m_laws_FnExactMinusDawg_true (a b : Dawg) (h : Lies DawgRep a) (h' : Lies DawgRep b) : m_laws_FnExactMinusDawg a b = some true := by
  unfold m_laws_FnExactMinusDawg
  rw [sz_sub (bulk_Dawg a) 1048576 (by omega) (szDawg_eq a h 1048576 (by omega) (by omega))]
  split
  case isFalse => rfl
  rename_i hb
  rw [sz_sub (bulk_Dawg b) _ (by omega) (szDawg_eq b h' _ (by omega) (by omega))]
  split
  case isFalse => rfl
  rename_i hc
  have hbn : bulk_Dawg a ≤ 1048576 := by omega
  have hcn : bulk_Dawg b ≤ 1048576 := by omega
  have sa := sm_Dawg_of hbn
  have sb := sm_Dawg_of hcn
  obtain ⟨v, h1, h2, h3⟩ := MinusDawg_eq a b (dawg_small hbn) (dawg_small hcn)
  have sv := sm_Dawg_of h3
  obtain ⟨ns, k1, n1, n2, n3⟩ := markDawg_some a hbn 1 (by omega) (by omega)
  obtain ⟨ms, k2, q1, q2, q3⟩ := markDawg_some b hcn k1 (by omega) (by omega)
  obtain ⟨zs, k3, o1, o2, o3⟩ := marksDawg v.1 h3 1 (by omega) (by omega)
  have d1 := eqDawg_eq a a sa
  have d2 := eqDawg_eq b b sb
  have d3 := eqDawg_eq v.1 v.1 sv
  simp only [toDawg_eq a sa, toDawg_eq b sb, h1, h2, d1, d2, d3, n1, q1, o1, o2, Option.bind_some, decide_true, Bool.not_true, cond_false, bne_self_eq_false, decide_eq_false (by omega : ¬ k2 < 0), decide_eq_false (by omega : ¬ k3 < 0)]
end Go.Proofs.YtccoeheoifbpcaaGreatDoor
