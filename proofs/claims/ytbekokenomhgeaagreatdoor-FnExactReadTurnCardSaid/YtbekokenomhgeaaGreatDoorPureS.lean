/- Splitting at a byte. -/
import Derived.Test.YtbekokenomhgeaaGreatDoorPureT
import Derived.Lib.SplitLaws
import Derived.Lib.CountLaws
namespace Go.Proofs.YtbekokenomhgeaaGreatDoor
open Go Go.RowKit
set_option linter.unusedSimpArgs false
set_option linter.unusedVariables false

def preS (p : Str) : List Str → List Str
  | [] => [p]
  | y :: r => (p ++ y) :: r
def splitC (c : UInt8) : Str → List Str
  | [] => [[]]
  | x :: t => bif x == c then [] :: splitC c t else preS [x] (splitC c t)
theorem splitC_ne (c : UInt8) (s : Str) : splitC c s ≠ [] := by
  cases s with
  | nil => simp [splitC]
  | cons x t =>
    unfold splitC
    cases x == c
    · rw [cond_false]
      cases splitC c t <;> simp [preS]
    · simp
theorem preS_pre (p q : Str) (l : List Str) (h : l ≠ []) : preS p (preS q l) = preS (p ++ q) l := by
  cases l with
  | nil => exact absurd rfl h
  | cons y r => simp [preS]
theorem preS_nil (l : List Str) (h : l ≠ []) : preS [] l = l := by
  cases l with
  | nil => exact absurd rfl h
  | cons y r => simp [preS]
theorem preS_join (p : Str) (l : List Str) (sep : Str) (h : l ≠ []) : Lib.join (preS p l) sep = p ++ Lib.join l sep := by
  cases l with
  | nil => exact absurd rfl h
  | cons y r => simp [preS, Lib.join_cons]
theorem join_cons2 (x : Str) (l : List Str) (sep : Str) (h : l ≠ []) : Lib.join (x :: l) sep = x ++ sep ++ Lib.join l sep := by
  cases l with
  | nil => exact absurd rfl h
  | cons y r => simp [Lib.join_cons, Lib.joinTail]
theorem join_splitC (c : UInt8) : ∀ s : Str, Lib.join (splitC c s) [c] = s
  | [] => by rfl
  | x :: t => by
    have ih := join_splitC c t
    have hn := splitC_ne c t
    unfold splitC
    cases hx : x == c
    · rw [cond_false, preS_join _ _ _ hn, ih]
      rfl
    · rw [cond_true, join_cons2 _ _ _ hn, ih, beq_iff_eq.1 hx]
      rfl
theorem splitC_pre (c : UInt8) : ∀ (y t : Str), c ∉ y → splitC c (y ++ t) = preS y (splitC c t)
  | [], t, _ => by rw [preS_nil _ (splitC_ne c t)]; rfl
  | x :: y, t, h => by
    have h1 : x ≠ c := fun e => h (by rw [e]; exact List.mem_cons_self)
    have ih := splitC_pre c y t fun e => h (List.mem_cons_of_mem _ e)
    rw [List.cons_append, splitC, beq_eq_false_iff_ne.2 h1, cond_false, ih, preS_pre _ _ _ (splitC_ne c t)]
    rfl
theorem splitC_flat (c : UInt8) (s : Str) : (splitC c s).flatten.length ≤ s.length := by
  induction s with
  | nil => simp [splitC]
  | cons x t ih =>
    unfold splitC
    cases x == c
    · rw [cond_false]
      cases hq : splitC c t with
      | nil => simp [preS]
      | cons y r => rw [hq] at ih; simp [preS] at ih ⊢; omega
    · simp; simp at ih; omega
/-- What the reference's loop holds at place i: the pieces, where the current one begins. -/
def atS (c : UInt8) (s : Str) : Nat → List Str × Nat
  | 0 => ([], 0)
  | i + 1 => bif s.getD i 0 == c then ((atS c s i).1 ++ [(s.drop (atS c s i).2).take (i - (atS c s i).2)], i + 1) else atS c s i
theorem atS_le (c : UInt8) (s : Str) : ∀ i, (atS c s i).2 ≤ i ∧ (atS c s i).1.length ≤ i
  | 0 => by simp [atS]
  | i + 1 => by
    have := atS_le c s i
    unfold atS
    cases s.getD i 0 == c
    · rw [cond_false]; omega
    · rw [cond_true]; simp; omega
theorem atS_split (c : UInt8) (s : Str) : ∀ i, i ≤ s.length → splitC c s = (atS c s i).1 ++ preS ((s.drop (atS c s i).2).take (i - (atS c s i).2)) (splitC c (s.drop i))
  | 0, _ => by
    simp only [atS, List.nil_append, List.drop_zero, Nat.sub_zero, List.take_zero]
    rw [preS_nil _ (splitC_ne c s)]
  | i + 1, h => by
    have ih := atS_split c s i (by omega)
    have hle := (atS_le c s i).1
    rw [ih]
    have hd : s.drop i = s[i] :: s.drop (i + 1) := List.drop_eq_getElem_cons h
    have hg : s.getD i 0 = s[i] := by simp [List.getD, List.getElem?_eq_getElem h]
    rw [hd, splitC]
    rw [atS, hg]
    cases hc : s[i] == c
    · rw [cond_false, cond_false, preS_pre _ _ _ (splitC_ne c _)]
      congr 2
      rw [show i + 1 - (atS c s i).2 = i - (atS c s i).2 + 1 by omega, List.take_add_one, List.getElem?_drop, show (atS c s i).2 + (i - (atS c s i).2) = i by omega, List.getElem?_eq_getElem h]
      rfl
    · rw [cond_true, cond_true]
      simp only [List.append_assoc, Nat.sub_self, List.take_zero]
      rw [preS_nil _ (splitC_ne c _)]
      simp [preS]

theorem l01Split_eq (c : UInt8) (s : Str) (h : s.length ≤ 1048576) : m_spec_l01Split s c = some (splitC c s) := by
  unfold m_spec_l01Split
  have hrun := loop_run (step := fun q : (List Str) × Int × Int => m_spec_l01Split_l1 s c q.1 q.2.1 q.2.2) (fun i => ((atS c s i).1, ((atS c s i).2 : Int), (i : Int))) s.length ((atS c s s.length).1, ((atS c s s.length).2 : Int)) (fun i hi => by
      obtain ⟨h1, h2⟩ := atS_le c s i
      have hg : s.getD i 0 = s[i] := by simp [List.getD, List.getElem?_eq_getElem hi]
      show m_spec_l01Split_l1 s c _ ((atS c s i).2 : Int) (i : Int) = _
      unfold m_spec_l01Split_l1
      rw [decide_eq_true (by omega : (i : Int) < s.length), cond_true, getL_at hi, Option.bind_some, atS, hg]
      cases s[i] == c
      · rw [cond_false, cond_false, Option.bind_some]
        show (chk ((i : Int) + 1)).bind _ = _
        rw [chk_succ (by omega), Option.bind_some]
      · rw [cond_true, cond_true, subL_of (by omega) (by omega) (by omega), Option.bind_some, catL_of (by simp; omega), Option.bind_some]
        simp only [chk_succ (by omega : i ≤ 8000000000000000000), Option.bind_some, Int.toNat_natCast])
    (by
      show m_spec_l01Split_l1 s c _ _ (s.length : Int) = _
      unfold m_spec_l01Split_l1
      rw [decide_eq_false (by omega)]
      rfl) 0 (Nat.zero_le _)
  have hs := atS_split c s s.length (Nat.le_refl _)
  obtain ⟨h1, h2⟩ := atS_le c s s.length
  have h0 : ((atS c s 0).1, ((atS c s 0).2 : Int), ((0 : Nat) : Int)) = (([] : List Str), 0, 0) := rfl
  rw [h0] at hrun
  rw [hrun, Option.bind_some]
  show ((some ((atS c s s.length).1, ((atS c s s.length).2 : Int)) : Option ((List Str) × Int)).bind _) = _
  rw [Option.bind_some]
  show (subL s ((atS c s s.length).2 : Int) (s.length : Int)).bind _ = _
  rw [subL_of (by omega) (by omega) (by omega), Option.bind_some, catL_of (by simp; omega), hs, List.drop_length]
  simp [splitC, preS]

end Go.Proofs.YtbekokenomhgeaaGreatDoor
