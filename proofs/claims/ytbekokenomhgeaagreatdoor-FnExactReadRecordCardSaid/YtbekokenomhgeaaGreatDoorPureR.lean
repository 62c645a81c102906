/- Texts written by a builder: turns, records. -/
import Derived.Test.YtbekokenomhgeaaGreatDoorPureQ
namespace Go.Proofs.YtbekokenomhgeaaGreatDoor
open Go Go.RowKit
set_option linter.unusedSimpArgs false
set_option linter.unusedVariables false

theorem loop_runR {σ ρ : Type} {step : σ → Option (σ ⊕ ρ)} (s : Nat → σ) (n : Nat) (r : ρ) (hlt : ∀ i, i < n → step (s i) = some (.inl (s (i + 1)))) (hend : step (s n) = some (.inr r)) {s0 : σ} (h0 : s0 = s 0) : loopM step s0 = some r := by
  rw [h0]; exact loop_run s n r hlt hend 0 (Nat.zero_le _)

theorem WriteString_eq (x s : Str) (h : x.length + s.length ≤ 100000000) : m_strings_Builder_WriteString x s = some ((s.length : Int), (), x ++ s) := by
  unfold m_strings_Builder_WriteString m_strings_Builder_copyCheck
  rw [Option.bind_some, catL_of h]
  rfl

/-! ### Turns -/

/-! ### Records -/

def linesT (xs : List Action) : Str := (xs.map fun a => actT a ++ [10]).flatten

def recT (r : Record) : Str := [115, 101, 101, 100, 32] ++ Lib.itoa r.Seed ++ [10] ++ linesT r.Actions

theorem linesT_take (xs : List Action) (i : Nat) (hi : i < xs.length) : linesT (xs.take (i + 1)) = linesT (xs.take i) ++ (actT xs[i] ++ [10]) := by
  unfold linesT
  rw [List.take_add_one, List.getElem?_eq_getElem hi, List.map_append, List.flatten_append]
  simp only [Option.toList_some, List.map_cons, List.map_nil, List.flatten_cons, List.flatten_nil, List.append_nil]

theorem linesT_len : ∀ (xs : List Action), (∀ a ∈ xs, actB a = true) → (linesT xs).length ≤ 201 * xs.length
  | [], _ => by simp [linesT]
  | a :: xs, h => by
    have h1 := actT_len (h a (List.mem_cons_self))
    have h2 := linesT_len xs fun b hb => h b (List.mem_cons_of_mem _ hb)
    unfold linesT at h2 ⊢
    simp only [List.map_cons, List.flatten_cons, List.length_append, List.length_cons, List.length_nil] at h2 ⊢
    omega

theorem recB_all {r : Record} (h : recB r = true) : R64 r.Seed ∧ r.Actions.length ≤ 200 ∧ ∀ a ∈ r.Actions, actB a = true := by
  unfold recB at h
  obtain ⟨h, h3⟩ := Bool.and_eq_true_iff.1 h
  obtain ⟨h1, h2⟩ := Bool.and_eq_true_iff.1 h
  rw [inB_iff] at h1
  exact ⟨⟨by omega, by omega⟩, of_decide_eq_true h2, fun a ha => List.all_eq_true.1 h3 a ha⟩

theorem RecordText_of (r : Record) (hs : ∀ a ∈ r.Actions, a.Play.Word.length ≤ 1048576 ∧ a.Tiles.length ≤ 1048576) (hl0 : r.Actions.length ≤ 1048576) : m_impl_RecordText r = some (bif recB r then recT r else []) := by
  unfold m_impl_RecordText
  rw [ValidRecord_of r hs hl0, Option.bind_some]
  cases hr : recB r
  · rfl
  obtain ⟨g1, g2, g3⟩ := recB_all hr
  have hi := itoa_le g1
  rw [Bool.not_true, cond_false, Decimal_eq, Option.bind_some, catL_of (by simp; omega), Option.bind_some, catL_of (by simp; omega), Option.bind_some, WriteString_eq _ _ (by simp; omega), Option.bind_some, cond_true]
  have hrun := loop_runR (step := fun s : Str × Int => m_impl_RecordText_l1 r s.1 s.2) (fun i => ([115, 101, 101, 100, 32] ++ Lib.itoa r.Seed ++ [10] ++ linesT (r.Actions.take i), (i : Int))) r.Actions.length (recT r) (fun i hi' => by
      have ha := g3 _ (List.getElem_mem hi')
      obtain ⟨a1, a2⟩ := hs _ (List.getElem_mem hi')
      have hl := linesT_len (r.Actions.take i) fun b hb => g3 b (List.mem_of_mem_take hb)
      have hl2 : (r.Actions.take i).length ≤ 200 := by rw [List.length_take]; omega
      have hl3 := actT_len ha
      show m_impl_RecordText_l1 r _ (i : Int) = _
      unfold m_impl_RecordText_l1
      rw [decide_eq_true (by omega : (i : Int) < r.Actions.length), cond_true, getL_at hi', Option.bind_some, ActionText_eq _ a1 a2, ha, cond_true, Option.bind_some, catL_of (by simp; omega), Option.bind_some, WriteString_eq _ _ (by simp; omega), Option.bind_some, chk_succ (by omega), Option.bind_some, linesT_take _ _ hi']
      simp only [List.append_assoc])
    (by
      show m_impl_RecordText_l1 r _ (r.Actions.length : Int) = _
      unfold m_impl_RecordText_l1
      rw [decide_eq_false (by omega), cond_false, List.take_length]
      rfl)
    (s0 := ([] ++ ([115, 101, 101, 100, 32] ++ Lib.itoa r.Seed ++ [10]), 0)) (by simp [linesT])
  rw [hrun]
  rfl

end Go.Proofs.YtbekokenomhgeaaGreatDoor
