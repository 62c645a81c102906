/- Splitting at a byte. -/
import Derived.Test.YtdaoecpkgobelaaGreatDoorPureT
import Derived.Lib.SplitLaws
import Derived.Lib.CountLaws
namespace Go.Proofs.YtdaoecpkgobelaaGreatDoor
open Go Go.RowKit
set_option linter.unusedSimpArgs false
set_option linter.unusedVariables false

def preS (p : Str) : List Str → List Str
  | [] => [p]
  | y :: r => (p ++ y) :: r
def splitC (c : UInt8) : Str → List Str
  | [] => [[]]
  | x :: t => bif x == c then [] :: splitC c t else preS [x] (splitC c t)
theorem splitC_ne (c : UInt8) (s : Str) : splitC c s ≠ [] := by
  cases s with
  | nil => simp [splitC]
  | cons x t =>
    unfold splitC
    cases x == c
    · rw [cond_false]
      cases splitC c t <;> simp [preS]
    · simp
theorem preS_pre (p q : Str) (l : List Str) (h : l ≠ []) : preS p (preS q l) = preS (p ++ q) l := by
  cases l with
  | nil => exact absurd rfl h
  | cons y r => simp [preS]
theorem preS_nil (l : List Str) (h : l ≠ []) : preS [] l = l := by
  cases l with
  | nil => exact absurd rfl h
  | cons y r => simp [preS]
theorem splitK_one (c : UInt8) : ∀ s : Str, Lib.splitK [c] 0 (Lib.count s [c]) s = splitC c s
  | [] => by rfl
  | x :: t => by
    have ih := splitK_one c t
    unfold splitC
    by_cases hx : x = c
    · subst hx
      have hix : Lib.index (x :: t) [x] = 0 := by rw [Lib.index]; simp
      rw [Lib.count_cons_eq, Nat.add_comm, beq_self_eq_true, cond_true, Lib.splitK, hix]
      rw [if_neg (by decide)]
      show _ :: Lib.splitK [x] 0 _ t = _
      rw [ih]
      rfl
    · rw [beq_eq_false_iff_ne.2 hx, cond_false, Lib.count_cons_ne x c t hx, ← ih]
      have hp : ([c] : List UInt8).isPrefixOf (x :: t) = false := by simp [List.isPrefixOf, Ne.symm hx]
      have hix : Lib.index (x :: t) [c] = if Lib.index t [c] == -1 then -1 else Lib.index t [c] + 1 := by rw [Lib.index, hp]; simp
      by_cases hm : Lib.index t [c] = -1
      · rw [Lib.count_miss hm]
        rfl
      · have hge := Lib.index_ge t [c]
        obtain ⟨j, hj⟩ : ∃ j : Nat, Lib.index t [c] = j := ⟨(Lib.index t [c]).toNat, by omega⟩
        have hix' : Lib.index (x :: t) [c] = ((j + 1 : Nat) : Int) := by rw [hix, if_neg (fun e => hm (beq_iff_eq.1 e)), hj]; omega
        have hne : ¬ ((j : Int) == -1) = true := by rw [beq_iff_eq]; omega
        have hne' : ¬ (((j + 1 : Nat) : Int) == -1) = true := by rw [beq_iff_eq]; omega
        rw [Lib.count_hit (by simp) hj, Nat.add_comm 1, Lib.splitK, Lib.splitK, hix', hj, if_neg hne, if_neg hne']
        simp [preS]
theorem split_eq (c : UInt8) (s : Str) : Lib.split s [c] = splitC c s := splitK_one c s
theorem join_cons2 (x : Str) (l : List Str) (sep : Str) (h : l ≠ []) : Lib.join (x :: l) sep = x ++ sep ++ Lib.join l sep := by
  cases l with
  | nil => exact absurd rfl h
  | cons y r => simp [Lib.join_cons, Lib.joinTail]
theorem splitC_pre (c : UInt8) : ∀ (y t : Str), c ∉ y → splitC c (y ++ t) = preS y (splitC c t)
  | [], t, _ => by rw [preS_nil _ (splitC_ne c t)]; rfl
  | x :: y, t, h => by
    have h1 : x ≠ c := fun e => h (by rw [e]; exact List.mem_cons_self)
    have ih := splitC_pre c y t fun e => h (List.mem_cons_of_mem _ e)
    rw [List.cons_append, splitC, beq_eq_false_iff_ne.2 h1, cond_false, ih, preS_pre _ _ _ (splitC_ne c t)]
    rfl
theorem splitC_join (c : UInt8) : ∀ l : List Str, l ≠ [] → (∀ y ∈ l, c ∉ y) → splitC c (Lib.join l [c]) = l
  | [], h, _ => absurd rfl h
  | [y], _, h => by
    have := splitC_pre c y [] (h y List.mem_cons_self)
    rw [List.append_nil] at this
    rw [Lib.join_one, this]
    simp [splitC, preS]
  | y :: z :: r, _, h => by
    have ih := splitC_join c (z :: r) (by simp) fun x hx => h x (List.mem_cons_of_mem _ hx)
    rw [join_cons2 _ _ _ (by simp), List.append_assoc, splitC_pre c y _ (h y List.mem_cons_self), List.singleton_append, splitC, beq_self_eq_true, cond_true, ih]
    simp [preS]
theorem Split_eq (c : UInt8) (s : Str) (h : s.length ≤ 1048576) : m_strings_Split s [c] = some (splitC c s) := by
  unfold m_strings_Split
  rw [decide_eq_true (by unfold lim; omega), split_eq]
  rfl

end Go.Proofs.YtdaoecpkgobelaaGreatDoor
