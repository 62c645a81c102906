/- ReadGrid: the models of the program and of the reference agree. -/
import Derived.Test.YtgmikhdealhlfaaGreatDoorPureG
import Derived.Test.YtgmikhdealhlfaaGreatDoorPureS
namespace Go.Proofs.YtgmikhdealhlfaaGreatDoor
open Go Go.RowKit
set_option linter.unusedSimpArgs false
set_option linter.unusedVariables false

theorem joinTail_empty (r : List Str) : Lib.joinTail [] r = r.flatten := by
  unfold Lib.joinTail
  simp
theorem join_empty (r : List Str) : Lib.join r [] = r.flatten := by
  cases r with
  | nil => rfl
  | cons x r => rw [Lib.join_cons, joinTail_empty]; rfl
/-- What both take a text for. -/
def readG (s : Str) : Grid := ⟨((splitC 47 s).length : Int), (((splitC 47 s).headD []).length : Int), (splitC 47 s).flatten⟩
theorem head_get {l : List Str} (h : l ≠ []) : getL l 0 = some (l.headD []) := by
  cases l with
  | nil => exact absurd rfl h
  | cons y r => rfl
theorem ReadGrid_eq (s : Str) (h : s.length ≤ 1048576) : m_impl_ReadGrid s = some (bif gridB (readG s) && (gridT (readG s) == s) then (readG s, true) else ((⟨0, 0, ([] : Str)⟩ : Grid), false)) := by
  have hn := splitC_ne 47 s
  have hf := splitC_flat 47 s
  have hl := splitC_len 47 s
  unfold m_impl_ReadGrid
  rw [Split_eq _ _ h, Option.bind_some, head_get hn, Option.bind_some]
  unfold m_strings_Join
  rw [decide_eq_true (by unfold lim; omega), join_empty, decide_eq_true (by unfold lim; omega), Bool.and_true, cond_true, Option.bind_some]
  show Option.bind ((m_impl_ValidGrid (readG s)).bind _) _ = _
  rw [ValidGrid_eq _ (by show (splitC 47 s).flatten.length ≤ _; omega), Option.bind_some]
  cases gridB (readG s)
  · rfl
  · rw [Bool.not_true, cond_false]
    show Option.bind ((m_impl_GridText (readG s)).bind _) _ = _
    rw [GridText_eq _ (by show (splitC 47 s).flatten.length ≤ _; omega), Option.bind_some, Option.bind_some]
    unfold bne
    cases gridT (readG s) == s <;> rfl
def evenB (l : List Str) (n : Nat) : Bool := l.all fun y => y.length == n
theorem flat_take (l : List Str) (i : Nat) (h : i < l.length) : (l.take (i + 1)).flatten = (l.take i).flatten ++ l[i] := by
  rw [List.take_add_one, List.getElem?_eq_getElem h, List.flatten_append]
  simp only [Option.toList_some, List.flatten_cons, List.flatten_nil, List.append_nil]
theorem flat_le (l : List Str) (i : Nat) : (l.take i).flatten.length ≤ l.flatten.length := by
  have : l.flatten = (l.take i).flatten ++ (l.drop i).flatten := by rw [← List.flatten_append, List.take_append_drop]
  rw [this, List.length_append]
  omega
theorem specRows (l : List Str) (hn : l ≠ []) (hl : l.length ≤ 2000000) (hf : l.flatten.length ≤ 2000000) :
    loopM (fun q : Str × Int => m_spec_ReadGrid_l1 l q.1 q.2) (([] : Str), 0) = some (bif evenB l (l.headD []).length then .inl l.flatten else .inr ((⟨0, 0, ([] : Str)⟩ : Grid), false)) := by
  have key : ∀ (k i : Nat), i + k = l.length → loopM (fun q : Str × Int => m_spec_ReadGrid_l1 l q.1 q.2) ((l.take i).flatten, (i : Int)) = some (bif evenB (l.drop i) (l.headD []).length then .inl l.flatten else .inr ((⟨0, 0, ([] : Str)⟩ : Grid), false)) := by
    intro k
    induction k with
    | zero =>
      intro i hi
      rw [List.drop_eq_nil_of_le (by omega), List.take_of_length_le (by omega)]
      refine loopM_done ?_
      show m_spec_ReadGrid_l1 l _ _ = _
      unfold m_spec_ReadGrid_l1
      rw [decide_eq_false (by omega)]
      rfl
    | succ k ih =>
      intro i hi
      have hi' : i < l.length := by omega
      have hfl := flat_le l (i + 1)
      rw [flat_take l i hi', List.length_append] at hfl
      have hd : l.drop i = l[i] :: l.drop (i + 1) := List.drop_eq_getElem_cons hi'
      have hb : evenB (l.drop i) (l.headD []).length = ((l[i].length == (l.headD []).length) && evenB (l.drop (i + 1)) (l.headD []).length) := by
        rw [hd]; rfl
      rw [hb]
      by_cases he : l[i].length = (l.headD []).length
      · rw [beq_iff_eq.2 he, Bool.true_and, ← ih (i + 1) (by omega)]
        refine loopM_next ?_
        show m_spec_ReadGrid_l1 l (l.take i).flatten (i : Int) = _
        unfold m_spec_ReadGrid_l1
        rw [decide_eq_true (by omega : (i : Int) < l.length), cond_true, getL_at hi', Option.bind_some, head_get hn, Option.bind_some, show (((l[i].length : Int)) != ((l.headD []).length : Int)) = false by simp [he], cond_false, Option.bind_some, catL_of (by omega), Option.bind_some, chk_succ (by omega), Option.bind_some, ← flat_take l i hi']
      · rw [beq_eq_false_iff_ne.2 he, Bool.false_and]
        refine loopM_done ?_
        show m_spec_ReadGrid_l1 l (l.take i).flatten (i : Int) = _
        unfold m_spec_ReadGrid_l1
        rw [decide_eq_true (by omega : (i : Int) < l.length), cond_true, getL_at hi', Option.bind_some, head_get hn, Option.bind_some, show (((l[i].length : Int)) != ((l.headD []).length : Int)) = true by rw [bne_iff_ne, ne_eq]; omega]
        rfl
  exact key l.length 0 (by omega)
theorem ReadGridS_eq (s : Str) (h : s.length ≤ 1048576) : m_spec_ReadGrid s = some (bif evenB (splitC 47 s) ((splitC 47 s).headD []).length && gridB (readG s) then (readG s, true) else ((⟨0, 0, ([] : Str)⟩ : Grid), false)) := by
  have hn := splitC_ne 47 s
  have hf := splitC_flat 47 s
  have hl := splitC_len 47 s
  unfold m_spec_ReadGrid
  rw [l01Split_eq _ _ h, Option.bind_some, head_get hn, Option.bind_some, specRows _ hn (by omega) (by omega)]
  cases evenB (splitC 47 s) ((splitC 47 s).headD []).length
  · rfl
  · rw [cond_true, Option.bind_some]
    show Option.bind (m_spec_l25Ok (readG s)) _ = _
    rw [l25Ok_eq _ (by show (splitC 47 s).flatten.length ≤ _; omega), Option.bind_some]
    cases gridB (readG s) <;> rfl

/-! ### The two tests agree -/
theorem rowT_zero (y z : Str) : rowT (y ++ z) y.length 0 = y := by
  unfold rowT
  simp
theorem rowT_succ (y z : Str) (i : Nat) : rowT (y ++ z) y.length (i + 1) = rowT z y.length i := by
  unfold rowT
  rw [Nat.succ_mul, Nat.add_comm, List.drop_append]
  rw [show y.length + i * y.length - y.length = i * y.length by omega, List.drop_eq_nil_of_le (by omega), List.nil_append]
theorem rowsT_flat (n : Nat) : ∀ l : List Str, (∀ y ∈ l, y.length = n) → rowsT l.flatten n l.length = l
  | [], _ => by rfl
  | y :: r, h => by
    have hy := h y List.mem_cons_self
    have ih := rowsT_flat n r fun x hx => h x (List.mem_cons_of_mem _ hx)
    subst hy
    unfold rowsT at ih ⊢
    rw [List.length_cons, List.range_succ_eq_map, List.map_cons, List.flatten_cons, rowT_zero, List.map_map]
    congr 1
    rw [show ((rowT (y ++ r.flatten) y.length) ∘ Nat.succ) = rowT r.flatten y.length from funext fun i => rowT_succ y r.flatten i]
    exact ih
theorem slash_not : gridC 47 = false := by decide +kernel
theorem tests_eq (s : Str) (hg : gridB (readG s) = true) : (gridT (readG s) == s) = evenB (splitC 47 s) ((splitC 47 s).headD []).length := by
  have hn := splitC_ne 47 s
  obtain ⟨R, C, e1, e2, h1, h2, h3, h4, h5, h6⟩ := gridB_iff.1 hg
  have e1' : (splitC 47 s).length = R := by have : ((splitC 47 s).length : Int) = R := e1; omega
  have e2' : ((splitC 47 s).headD []).length = C := by have : (((splitC 47 s).headD []).length : Int) = C := e2; omega
  have ht : gridT (readG s) = Lib.join (rowsT (splitC 47 s).flatten C R) [47] := by
    unfold gridT
    rw [hg, cond_true, e1, e2]
    rfl
  rw [e2', ht, Bool.eq_iff_iff, beq_iff_eq]
  unfold evenB
  rw [List.all_eq_true]
  constructor
  · intro he y hy
    have hsp : splitC 47 s = rowsT (splitC 47 s).flatten C R := by
      conv => lhs; rw [← he]
      refine splitC_join 47 _ (fun e => ?_) fun z hz hm => ?_
      · have := rowsT_len (splitC 47 s).flatten C R
        rw [e] at this
        simp at this
        omega
      · unfold rowsT at hz
        obtain ⟨i, _, rfl⟩ := List.mem_map.1 hz
        have hm' : (47 : UInt8) ∈ (splitC 47 s).flatten := List.mem_of_mem_drop (List.mem_of_mem_take hm)
        have := List.all_eq_true.1 h6 47 hm'
        rw [slash_not] at this
        cases this
    rw [hsp] at hy
    unfold rowsT at hy
    obtain ⟨i, hi, rfl⟩ := List.mem_map.1 hy
    have hi' : i < R := List.mem_range.1 hi
    have h5' : (splitC 47 s).flatten.length = R * C := h5
    have hle : (i + 1) * C ≤ R * C := Nat.mul_le_mul_right C hi'
    rw [Nat.succ_mul] at hle
    rw [beq_iff_eq]
    unfold rowT
    rw [List.length_take, List.length_drop]
    omega
  · intro hall
    have := rowsT_flat C (splitC 47 s) fun y hy => beq_iff_eq.1 (hall y hy)
    rw [e1'] at this
    rw [this, join_splitC]

end Go.Proofs.YtgmikhdealhlfaaGreatDoor
