/- What is chosen of two automata's words. -/
import Derived.Test.YtdaoecpkgobelaaGreatDoorPureM2
import Derived.Test.YtdaoecpkgobelaaGreatDoorPureSo
namespace Go.Proofs.YtdaoecpkgobelaaGreatDoor
open Go Go.RowKit
set_option linter.unusedSimpArgs false
set_option linter.unusedVariables false
def wordsD (D : List Node) : List Str := langA (ndD D) 14 0
theorem acc_in {D : List Node} (hG : GoodD D) (s : Str) : accA (ndD D) s = decide (s ∈ wordsD D) := by
  obtain ⟨A, B, hc⟩ := hG.cut s
  rw [Bool.eq_iff_iff, decide_eq_true_iff]
  constructor
  · intro h
    have hf := acc_first D hG s hc
    rw [h, Bool.and_eq_true, decide_eq_true_eq, beq_iff_eq, List.getD_eq_getElem?_getD] at hf
    obtain ⟨h1, h2⟩ := hf
    rw [List.getElem?_eq_getElem h1] at h2
    have : (langA (ndD D) 14 0)[A.length] = s := h2
    exact this ▸ List.getElem_mem h1
  · intro h
    have h' : s ∈ A ++ (behindA D s).map (s ++ ·) ++ B := hc.eq ▸ h
    rcases List.mem_append.1 h' with h' | h'
    · rcases List.mem_append.1 h' with h' | h'
      · have := hc.lt s h'
        rw [ltS_irrefl] at this; cases this
      · obtain ⟨m, hm, e⟩ := List.mem_map.1 h'
        have hm0 : m = [] := by simpa using e
        subst hm0
        unfold behindA at hm
        unfold accA
        cases ha : afterA (ndD D) 0 s with
        | none => rw [ha] at hm; cases hm
        | some j =>
          rw [ha] at hm
          have hj := afterA_lt hG.shape s hG.shape.pos ha
          have hm' : ([] : Str) ∈ langA (ndD D) 14 j := hm
          rw [lang_fl (hG.short hj)] at hm'
          show (ndD D j).1 = true
          rcases List.mem_append.1 hm' with q | q
          · cases hf : (ndD D j).1 with
            | true => rfl
            | false => rw [hf] at q; cases q
          · exact absurd rfl (flA_ne q)
    · exact absurd (List.prefix_refl s) (hc.ge s h').2
theorem wordsD_len {D : List Node} {w : Str} (h : w ∈ wordsD D) : w.length ≤ 13 := by
  have := langA_le (ndD D) 14 0 w h
  omega
theorem chosen_eq (a b : Dawg) (ha : GoodD a.Nodes) (hb : GoodD b.Nodes) (hla : ∀ x ∈ a.Nodes, x.Next.length ≤ 2000000) (hlb : ∀ x ∈ b.Nodes, x.Next.length ≤ 2000000) (is : Str → Option Bool) (p : Str → Bool) (hp : ∀ w : Str, w.length ≤ 13 → is w = some (p w)) :
    m_impl_chosen a b is = some ((bothW (wordsD a.Nodes) (wordsD b.Nodes)).filter p) := by
  have h1 : (wordsD a.Nodes).length ≤ 3000 := ha.few
  have h2 : (wordsD b.Nodes).length ≤ 3000 := hb.few
  have h3 := bothW_len (wordsD a.Nodes) (wordsD b.Nodes)
  unfold m_impl_chosen
  rw [words_eq a ha hla, Option.bind_some, words_eq b hb hlb, Option.bind_some, catL_of (by unfold wordsD at h1 h2; omega), Option.bind_some]
  unfold m_slices_Sort_string_string m_slices_Compact_string_string
  rw [decide_eq_true (by rw [List.length_append]; unfold lim; unfold wordsD at h1 h2; omega), cond_true, Option.bind_some, Option.bind_some]
  rw [show m_impl_selected_string (Lib.compact ((langA (ndD a.Nodes) 14 0 ++ langA (ndD b.Nodes) 14 0).mergeSort fun x y => decide (x ≤ y))) is = some ((bothW (wordsD a.Nodes) (wordsD b.Nodes)).filter p) from
    selected_eq (bothW (wordsD a.Nodes) (wordsD b.Nodes)) (by omega) is p (fun w hw => hp w (((bothW_mem _ _ w).1 hw).elim wordsD_len wordsD_len)), Option.bind_some]
theorem minus_has (a b : Dawg) (ha : GoodD a.Nodes) (hb : GoodD b.Nodes) (hla : ∀ x ∈ a.Nodes, x.Next.length ≤ 2000000) (hlb : ∀ x ∈ b.Nodes, x.Next.length ≤ 2000000) (w : Str) (hw : w.length ≤ 13) :
    m_impl_minus_has (⟨⟨a.Nodes⟩, ⟨b.Nodes⟩⟩ : minus) w = some (decide (w ∈ wordsD a.Nodes) && !decide (w ∈ wordsD b.Nodes)) := by
  unfold m_impl_minus_has
  have h1 : m_impl_Dawg_accepts (⟨⟨a.Nodes⟩, ⟨b.Nodes⟩⟩ : minus).a w = some (decide (w ∈ wordsD a.Nodes)) := by
    rw [← acc_in ha]
    exact accepts_eq a ha.shape hla w (by omega)
  have h2 : m_impl_Dawg_accepts (⟨⟨a.Nodes⟩, ⟨b.Nodes⟩⟩ : minus).b w = some (decide (w ∈ wordsD b.Nodes)) := by
    rw [← acc_in hb]
    exact accepts_eq b hb.shape hlb w (by omega)
  rw [h1, Option.bind_some]
  cases decide (w ∈ wordsD a.Nodes) with
  | false => rfl
  | true => rw [cond_true, h2, Option.bind_some, Option.bind_some, Bool.true_and]
theorem only_same {a b : List Str} (ha : SortedW a) (hb : SortedW b) : (bothW a b).filter (fun w => decide (w ∈ a) && !decide (w ∈ b)) = a.filter fun t => decide (t ∈ b) == false := by
  refine sortedW_ext ((bothW_sorted a b).filter _) (ha.filter _) fun y => ?_
  rw [List.mem_filter, List.mem_filter, bothW_mem]
  by_cases h1 : y ∈ a <;> by_cases h2 : y ∈ b <;> simp [h1, h2]
theorem only_same' {a b : List Str} (ha : SortedW a) (hb : SortedW b) : (bothW a b).filter (fun w => decide (w ∈ b) && !decide (w ∈ a)) = b.filter fun t => decide (t ∈ a) == false := by
  refine sortedW_ext ((bothW_sorted a b).filter _) (hb.filter _) fun y => ?_
  rw [List.mem_filter, List.mem_filter, bothW_mem]
  by_cases h1 : y ∈ a <;> by_cases h2 : y ∈ b <;> simp [h1, h2]
end Go.Proofs.YtdaoecpkgobelaaGreatDoor
