/- Two automata combined: both builders make the same automaton of the words that are chosen. -/
import Derived.Test.YtccoeheoifbpcaaGreatDoorPureM3
import Derived.Test.YtccoeheoifbpcaaGreatDoorPureCh
import Derived.Test.YtccoeheoifbpcaaGreatDoorPureMk
namespace Go.Proofs.YtccoeheoifbpcaaGreatDoor
open Go Go.RowKit
set_option linter.unusedSimpArgs false
set_option linter.unusedVariables false
theorem sm_nat {c : UInt8} : smB c = true ↔ 97 ≤ c.toNat ∧ c.toNat ≤ 122 := by
  unfold smB
  simp only [Bool.and_eq_true, decide_eq_true_eq, UInt8.le_iff_toNat_le]
  exact Iff.rfl
theorem form_nat {c : UInt8} (h : formB c = true) : 62 ≤ c.toNat ∧ c.toNat ≤ 122 ∧ (c.toNat = 62 ∨ 97 ≤ c.toNat) := by
  unfold formB at h
  rcases Bool.or_eq_true_iff.1 h with h1 | h1
  · have := sm_nat.1 h1; omega
  · have : c = 62 := by simpa using h1
    subst this
    exact ⟨by decide, by decide, .inl rfl⟩
theorem NodeOk.few {n : Nat} {x : Node} (h : NodeOk n x) : x.Letters.length ≤ 27 := by
  have hf : ∀ i (hi : i < x.Letters.length), 62 ≤ x.Letters[i].toNat ∧ x.Letters[i].toNat ≤ 122 ∧ (x.Letters[i].toNat = 62 ∨ 97 ≤ x.Letters[i].toNat) := fun i hi => form_nat (h.form _ (List.getElem_mem hi))
  have key : ∀ i (hi : i + 1 < x.Letters.length), 97 + i ≤ x.Letters[i + 1].toNat := by
    intro i
    induction i with
    | zero =>
      intro hi
      have h1 := UInt8.lt_iff_toNat_lt.1 (h.inc 0 hi)
      have h2 := hf 0 (by omega)
      have h3 := hf 1 hi
      simp only [Nat.zero_add] at h1 ⊢
      omega
    | succ i ih =>
      intro hi
      have h1 := UInt8.lt_iff_toNat_lt.1 (h.inc (i + 1) hi)
      have h2 := ih (by omega)
      omega
  rcases Nat.lt_or_ge 27 x.Letters.length with h1 | h1
  · have h2 := key 26 (by omega)
    have h3 := hf 27 (by omega)
    simp only [Nat.reduceAdd] at h2
    omega
  · exact h1
theorem union_has (a b : Dawg) (ha : GoodD a.Nodes) (hb : GoodD b.Nodes) (hla : ∀ x ∈ a.Nodes, x.Next.length ≤ 2000000) (hlb : ∀ x ∈ b.Nodes, x.Next.length ≤ 2000000) (w : Str) (hw : w.length ≤ 13) :
    m_impl_union_has (⟨⟨a.Nodes⟩, ⟨b.Nodes⟩⟩ : union) w = some (decide (w ∈ wordsD a.Nodes) || decide (w ∈ wordsD b.Nodes)) := by
  unfold m_impl_union_has
  have h1 : m_impl_Dawg_accepts (⟨⟨a.Nodes⟩, ⟨b.Nodes⟩⟩ : union).a w = some (decide (w ∈ wordsD a.Nodes)) := by
    rw [← acc_in ha]
    exact accepts_eq a ha.shape hla w (by omega)
  have h2 : m_impl_Dawg_accepts (⟨⟨a.Nodes⟩, ⟨b.Nodes⟩⟩ : union).b w = some (decide (w ∈ wordsD b.Nodes)) := by
    rw [← acc_in hb]
    exact accepts_eq b hb.shape hlb w (by omega)
  rw [h1, Option.bind_some]
  cases decide (w ∈ wordsD a.Nodes) with
  | true => rfl
  | false => rw [cond_false, h2, Option.bind_some, Option.bind_some, Bool.false_or]
theorem all_same (a b : List Str) : (bothW a b).filter (fun w => decide (w ∈ a) || decide (w ∈ b)) = bothW a b := by
  rw [List.filter_eq_self]
  intro y hy
  rw [bothW_mem] at hy
  simpa using hy
theorem meet_same {a b : List Str} (ha : SortedW a) (hb : SortedW b) : (bothW a b).filter (fun w => decide (w ∈ a) && decide (w ∈ b)) = a.filter fun t => decide (t ∈ b) == true := by
  refine sortedW_ext ((bothW_sorted a b).filter _) (ha.filter _) fun y => ?_
  rw [List.mem_filter, List.mem_filter, bothW_mem]
  by_cases h1 : y ∈ a <;> by_cases h2 : y ∈ b <;> simp [h1, h2]
/-! ### Marks, and whether they are held -/
end Go.Proofs.YtccoeheoifbpcaaGreatDoor
