/- Splitting at a byte. -/
import Derived.Test.YtbekokenomhgeaaGreatDoorPureT
import Derived.Lib.SplitLaws
import Derived.Lib.CountLaws
namespace Go.Proofs.YtbekokenomhgeaaGreatDoor
open Go Go.RowKit
set_option linter.unusedSimpArgs false
set_option linter.unusedVariables false

def preS (p : Str) : List Str → List Str
  | [] => [p]
  | y :: r => (p ++ y) :: r
def splitC (c : UInt8) : Str → List Str
  | [] => [[]]
  | x :: t => bif x == c then [] :: splitC c t else preS [x] (splitC c t)
theorem splitC_ne (c : UInt8) (s : Str) : splitC c s ≠ [] := by
  cases s with
  | nil => simp [splitC]
  | cons x t =>
    unfold splitC
    cases x == c
    · rw [cond_false]
      cases splitC c t <;> simp [preS]
    · simp
theorem preS_pre (p q : Str) (l : List Str) (h : l ≠ []) : preS p (preS q l) = preS (p ++ q) l := by
  cases l with
  | nil => exact absurd rfl h
  | cons y r => simp [preS]
theorem preS_nil (l : List Str) (h : l ≠ []) : preS [] l = l := by
  cases l with
  | nil => exact absurd rfl h
  | cons y r => simp [preS]
theorem splitK_one (c : UInt8) : ∀ s : Str, Lib.splitK [c] 0 (Lib.count s [c]) s = splitC c s
  | [] => by rfl
  | x :: t => by
    have ih := splitK_one c t
    unfold splitC
    by_cases hx : x = c
    · subst hx
      have hix : Lib.index (x :: t) [x] = 0 := by rw [Lib.index]; simp
      rw [Lib.count_cons_eq, Nat.add_comm, beq_self_eq_true, cond_true, Lib.splitK, hix]
      rw [if_neg (by decide)]
      show _ :: Lib.splitK [x] 0 _ t = _
      rw [ih]
      rfl
    · rw [beq_eq_false_iff_ne.2 hx, cond_false, Lib.count_cons_ne x c t hx, ← ih]
      have hp : ([c] : List UInt8).isPrefixOf (x :: t) = false := by simp [List.isPrefixOf, Ne.symm hx]
      have hix : Lib.index (x :: t) [c] = if Lib.index t [c] == -1 then -1 else Lib.index t [c] + 1 := by rw [Lib.index, hp]; simp
      by_cases hm : Lib.index t [c] = -1
      · rw [Lib.count_miss hm]
        rfl
      · have hge := Lib.index_ge t [c]
        obtain ⟨j, hj⟩ : ∃ j : Nat, Lib.index t [c] = j := ⟨(Lib.index t [c]).toNat, by omega⟩
        have hix' : Lib.index (x :: t) [c] = ((j + 1 : Nat) : Int) := by rw [hix, if_neg (fun e => hm (beq_iff_eq.1 e)), hj]; omega
        have hne : ¬ ((j : Int) == -1) = true := by rw [beq_iff_eq]; omega
        have hne' : ¬ (((j + 1 : Nat) : Int) == -1) = true := by rw [beq_iff_eq]; omega
        rw [Lib.count_hit (by simp) hj, Nat.add_comm 1, Lib.splitK, Lib.splitK, hix', hj, if_neg hne, if_neg hne']
        simp [preS]
theorem split_eq (c : UInt8) (s : Str) : Lib.split s [c] = splitC c s := splitK_one c s
theorem preS_join (p : Str) (l : List Str) (sep : Str) (h : l ≠ []) : Lib.join (preS p l) sep = p ++ Lib.join l sep := by
  cases l with
  | nil => exact absurd rfl h
  | cons y r => simp [preS, Lib.join_cons]
theorem join_cons2 (x : Str) (l : List Str) (sep : Str) (h : l ≠ []) : Lib.join (x :: l) sep = x ++ sep ++ Lib.join l sep := by
  cases l with
  | nil => exact absurd rfl h
  | cons y r => simp [Lib.join_cons, Lib.joinTail]
theorem join_splitC (c : UInt8) : ∀ s : Str, Lib.join (splitC c s) [c] = s
  | [] => by rfl
  | x :: t => by
    have ih := join_splitC c t
    have hn := splitC_ne c t
    unfold splitC
    cases hx : x == c
    · rw [cond_false, preS_join _ _ _ hn, ih]
      rfl
    · rw [cond_true, join_cons2 _ _ _ hn, ih, beq_iff_eq.1 hx]
      rfl
theorem splitC_pre (c : UInt8) : ∀ (y t : Str), c ∉ y → splitC c (y ++ t) = preS y (splitC c t)
  | [], t, _ => by rw [preS_nil _ (splitC_ne c t)]; rfl
  | x :: y, t, h => by
    have h1 : x ≠ c := fun e => h (by rw [e]; exact List.mem_cons_self)
    have ih := splitC_pre c y t fun e => h (List.mem_cons_of_mem _ e)
    rw [List.cons_append, splitC, beq_eq_false_iff_ne.2 h1, cond_false, ih, preS_pre _ _ _ (splitC_ne c t)]
    rfl
theorem splitC_join (c : UInt8) : ∀ l : List Str, l ≠ [] → (∀ y ∈ l, c ∉ y) → splitC c (Lib.join l [c]) = l
  | [], h, _ => absurd rfl h
  | [y], _, h => by
    have := splitC_pre c y [] (h y List.mem_cons_self)
    rw [List.append_nil] at this
    rw [Lib.join_one, this]
    simp [splitC, preS]
  | y :: z :: r, _, h => by
    have ih := splitC_join c (z :: r) (by simp) fun x hx => h x (List.mem_cons_of_mem _ hx)
    rw [join_cons2 _ _ _ (by simp), List.append_assoc, splitC_pre c y _ (h y List.mem_cons_self), List.singleton_append, splitC, beq_self_eq_true, cond_true, ih]
    simp [preS]
theorem splitC_len (c : UInt8) (s : Str) : (splitC c s).length ≤ s.length + 1 := by
  induction s with
  | nil => simp [splitC]
  | cons x t ih =>
    unfold splitC
    cases x == c
    · rw [cond_false]
      cases hq : splitC c t with
      | nil => simp [preS]
      | cons y r => rw [hq] at ih; simp [preS] at ih ⊢; omega
    · simp; omega
theorem splitC_flat (c : UInt8) (s : Str) : (splitC c s).flatten.length ≤ s.length := by
  induction s with
  | nil => simp [splitC]
  | cons x t ih =>
    unfold splitC
    cases x == c
    · rw [cond_false]
      cases hq : splitC c t with
      | nil => simp [preS]
      | cons y r => rw [hq] at ih; simp [preS] at ih ⊢; omega
    · simp; simp at ih; omega
theorem Split_eq (c : UInt8) (s : Str) (h : s.length ≤ 1048576) : m_strings_Split s [c] = some (splitC c s) := by
  unfold m_strings_Split
  rw [decide_eq_true (by unfold lim; omega), split_eq]
  rfl

/-- What the reference's loop holds at place i: the pieces, where the current one begins. -/
def atS (c : UInt8) (s : Str) : Nat → List Str × Nat
  | 0 => ([], 0)
  | i + 1 => bif s.getD i 0 == c then ((atS c s i).1 ++ [(s.drop (atS c s i).2).take (i - (atS c s i).2)], i + 1) else atS c s i
theorem atS_le (c : UInt8) (s : Str) : ∀ i, (atS c s i).2 ≤ i ∧ (atS c s i).1.length ≤ i
  | 0 => by simp [atS]
  | i + 1 => by
    have := atS_le c s i
    unfold atS
    cases s.getD i 0 == c
    · rw [cond_false]; omega
    · rw [cond_true]; simp; omega
theorem atS_split (c : UInt8) (s : Str) : ∀ i, i ≤ s.length → splitC c s = (atS c s i).1 ++ preS ((s.drop (atS c s i).2).take (i - (atS c s i).2)) (splitC c (s.drop i))
  | 0, _ => by
    simp only [atS, List.nil_append, List.drop_zero, Nat.sub_zero, List.take_zero]
    rw [preS_nil _ (splitC_ne c s)]
  | i + 1, h => by
    have ih := atS_split c s i (by omega)
    have hle := (atS_le c s i).1
    rw [ih]
    have hd : s.drop i = s[i] :: s.drop (i + 1) := List.drop_eq_getElem_cons h
    have hg : s.getD i 0 = s[i] := by simp [List.getD, List.getElem?_eq_getElem h]
    rw [hd, splitC]
    rw [atS, hg]
    cases hc : s[i] == c
    · rw [cond_false, cond_false, preS_pre _ _ _ (splitC_ne c _)]
      congr 2
      rw [show i + 1 - (atS c s i).2 = i - (atS c s i).2 + 1 by omega, List.take_add_one, List.getElem?_drop, show (atS c s i).2 + (i - (atS c s i).2) = i by omega, List.getElem?_eq_getElem h]
      rfl
    · rw [cond_true, cond_true]
      simp only [List.append_assoc, Nat.sub_self, List.take_zero]
      rw [preS_nil _ (splitC_ne c _)]
      simp [preS]

theorem l01Split_eq (c : UInt8) (s : Str) (h : s.length ≤ 1048576) : m_spec_l01Split s c = some (splitC c s) := by
  unfold m_spec_l01Split
  have hrun := loop_run (step := fun q : (List Str) × Int × Int => m_spec_l01Split_l1 s c q.1 q.2.1 q.2.2) (fun i => ((atS c s i).1, ((atS c s i).2 : Int), (i : Int))) s.length ((atS c s s.length).1, ((atS c s s.length).2 : Int)) (fun i hi => by
      obtain ⟨h1, h2⟩ := atS_le c s i
      have hg : s.getD i 0 = s[i] := by simp [List.getD, List.getElem?_eq_getElem hi]
      show m_spec_l01Split_l1 s c _ ((atS c s i).2 : Int) (i : Int) = _
      unfold m_spec_l01Split_l1
      rw [decide_eq_true (by omega : (i : Int) < s.length), cond_true, getL_at hi, Option.bind_some, atS, hg]
      cases s[i] == c
      · rw [cond_false, cond_false, Option.bind_some]
        show (chk ((i : Int) + 1)).bind _ = _
        rw [chk_succ (by omega), Option.bind_some]
      · rw [cond_true, cond_true, subL_of (by omega) (by omega) (by omega), Option.bind_some, catL_of (by simp; omega), Option.bind_some]
        simp only [chk_succ (by omega : i ≤ 8000000000000000000), Option.bind_some, Int.toNat_natCast])
    (by
      show m_spec_l01Split_l1 s c _ _ (s.length : Int) = _
      unfold m_spec_l01Split_l1
      rw [decide_eq_false (by omega)]
      rfl) 0 (Nat.zero_le _)
  have hs := atS_split c s s.length (Nat.le_refl _)
  obtain ⟨h1, h2⟩ := atS_le c s s.length
  have h0 : ((atS c s 0).1, ((atS c s 0).2 : Int), ((0 : Nat) : Int)) = (([] : List Str), 0, 0) := rfl
  rw [h0] at hrun
  rw [hrun, Option.bind_some]
  show ((some ((atS c s s.length).1, ((atS c s s.length).2 : Int)) : Option ((List Str) × Int)).bind _) = _
  rw [Option.bind_some]
  show (subL s ((atS c s s.length).2 : Int) (s.length : Int)).bind _ = _
  rw [subL_of (by omega) (by omega) (by omega), Option.bind_some, catL_of (by simp; omega), hs, List.drop_length]
  simp [splitC, preS]

end Go.Proofs.YtbekokenomhgeaaGreatDoor
