/- Tiles taken from a pile, on both sides. -/
import Derived.Test.YtbekokenomhgeaaGreatDoorPureZ4
namespace Go.Proofs.YtbekokenomhgeaaGreatDoor
open Go Go.RowKit
set_option linter.unusedSimpArgs false
set_option linter.unusedVariables false

/-- What is left of b when a's tiles are gone through. -/
def remT : Str → Str → Str
  | [], b => b
  | _ :: _, [] => []
  | x :: a, y :: b => if y = x then remT a b else remT a (y :: b)

theorem remT_nil : ∀ a : Str, remT a [] = []
  | [] => rfl
  | _ :: _ => rfl

theorem remT_iff : ∀ (a b : Str), SortedB a → SortedB b → (remT a b = [] ↔ ∀ c, b.count c ≤ a.count c)
  | [], b, _, _ => by
    constructor
    · intro h c
      have : b = [] := h
      rw [this]
      simp
    · intro h
      cases b with
      | nil => rfl
      | cons y b => have := h y; simp at this
  | x :: a, [], _, _ => by simp [remT]
  | x :: a, y :: b, ha, hb => by
    rw [remT]
    by_cases e : y = x
    · subst e
      rw [if_pos rfl, remT_iff a b ha.2 hb.2]
      constructor
      · intro h c
        have := h c
        rw [List.count_cons, List.count_cons]
        omega
      · intro h c
        have := h c
        rw [List.count_cons, List.count_cons] at this
        omega
    · rw [if_neg e, remT_iff a (y :: b) ha.2 hb]
      constructor
      · intro h c
        have := h c
        rw [List.count_cons (l := a)]
        omega
      · intro h c
        have hc := h c
        rw [List.count_cons (l := a)] at hc
        by_cases ec : c = x
        · subst ec
          -- is x among y :: b at all?
          rcases Nat.lt_or_ge c.toNat y.toNat with hl | hl
          · have h0 : (y :: b).count c = 0 := by
              refine List.count_eq_zero.2 fun hm => ?_
              rcases List.mem_cons.1 hm with rfl | hm
              · omega
              · have := hb.1 c hm; omega
            rw [h0]; exact Nat.zero_le _
          · have hy := h y
            have h0 : (c :: a).count y = 0 := by
              refine List.count_eq_zero.2 fun hm => ?_
              rcases List.mem_cons.1 hm with e' | hm
              · exact e e'
              · have := ha.1 y hm
                have : y.toNat = c.toNat := by omega
                exact e (UInt8.toNat_inj.1 this)
            rw [h0] at hy
            simp at hy
        · rw [beq_eq_false_iff_ne.2 (fun e' => ec e'.symm)] at hc
          simpa using hc

def stepT (x : UInt8) : Str → Str
  | [] => []
  | y :: t => if y = x then t else y :: t

theorem stepT_cons (x y : UInt8) (t : Str) : stepT x (y :: t) = if y = x then t else y :: t := rfl

theorem remT_snoc : ∀ (a b : Str) (x : UInt8), remT (a ++ [x]) b = stepT x (remT a b)
  | [], [], x => rfl
  | [], y :: b, x => by
    show remT [x] (y :: b) = _
    rw [remT]
    rfl
  | z :: a, [], x => rfl
  | z :: a, y :: b, x => by
    rw [List.cons_append, remT, remT]
    split
    · exact remT_snoc a b x
    · exact remT_snoc a (y :: b) x

theorem remT_suffix : ∀ (a b : Str), ∃ n, n ≤ b.length ∧ remT a b = b.drop n
  | [], b => ⟨0, Nat.zero_le _, rfl⟩
  | _ :: _, [] => ⟨0, Nat.zero_le _, rfl⟩
  | x :: a, y :: b => by
    rw [remT]
    split
    · obtain ⟨n, h1, h2⟩ := remT_suffix a b
      exact ⟨n + 1, by simp; omega, by rw [h2]; rfl⟩
    · exact remT_suffix a (y :: b)

theorem takeS_eq (a b : Str) (ha : a.length ≤ 1000) (hb : b.length ≤ 1000) : ∃ r : Str × Bool, m_spec_l03Take a b = some r ∧ r.2 = decide (remT a b = []) := by
  unfold m_spec_l03Take
  have key : ∀ (d i n : Nat) (out : Str), i + d = a.length → n ≤ b.length → out.length ≤ i → remT (a.take i) b = b.drop n → ∃ (o : Str) (k : Nat), loopM (fun q : Str × Int × Int => m_spec_l03Take_l1 a b q.1 q.2.1 q.2.2) (out, (n : Int), (i : Int)) = some (o, (k : Int)) ∧ k ≤ b.length ∧ remT a b = b.drop k := by
    intro d
    induction d with
    | zero =>
      intro i n out hi hn ho hr
      rw [List.take_of_length_le (by omega)] at hr
      refine ⟨out, n, loopM_done ?_, hn, hr⟩
      show m_spec_l03Take_l1 a b out (n : Int) (i : Int) = _
      unfold m_spec_l03Take_l1
      rw [decide_eq_false (by omega)]
      rfl
    | succ d ih =>
      intro i n out hi hn ho hr
      have hia : i < a.length := by omega
      have hsn : remT (a.take (i + 1)) b = stepT a[i] (b.drop n) := by
        rw [List.take_add_one, List.getElem?_eq_getElem hia, Option.toList_some, remT_snoc, hr]
      by_cases hnb : n < b.length
      · rw [List.drop_eq_getElem_cons hnb, stepT_cons] at hsn
        by_cases e : b[n] = a[i]
        · rw [if_pos e] at hsn
          obtain ⟨o, k, k1, k2, k3⟩ := ih (i + 1) (n + 1) out (by omega) (by omega) (by omega) hsn
          refine ⟨o, k, ?_, k2, k3⟩
          rw [← k1]
          refine loopM_next ?_
          show m_spec_l03Take_l1 a b out (n : Int) (i : Int) = _
          unfold m_spec_l03Take_l1
          rw [decide_eq_true (by omega : (i : Int) < a.length), cond_true, decide_eq_true (by omega : (n : Int) < b.length), cond_true, getL_at hnb, Option.bind_some, getL_at hia, Option.bind_some, Option.bind_some, beq_iff_eq.2 e, cond_true, chk_succ (by omega), Option.bind_some, Option.bind_some]
          try simp only
          rw [chk_succ (by omega), Option.bind_some]
        · rw [if_neg e, ← List.drop_eq_getElem_cons hnb] at hsn
          obtain ⟨o, k, k1, k2, k3⟩ := ih (i + 1) n (out ++ [a[i]]) (by omega) hn (by simp; omega) hsn
          refine ⟨o, k, ?_, k2, k3⟩
          rw [← k1]
          refine loopM_next ?_
          show m_spec_l03Take_l1 a b out (n : Int) (i : Int) = _
          unfold m_spec_l03Take_l1
          rw [decide_eq_true (by omega : (i : Int) < a.length), cond_true, decide_eq_true (by omega : (n : Int) < b.length), cond_true, getL_at hnb, Option.bind_some, getL_at hia, Option.bind_some, Option.bind_some, beq_eq_false_iff_ne.2 e, cond_false, Option.bind_some, catL_of (by simp; omega), Option.bind_some, Option.bind_some]
          try simp only
          rw [chk_succ (by omega), Option.bind_some]
      · rw [List.drop_eq_nil_of_le (by omega)] at hsn hr
        replace hsn : remT (a.take (i + 1)) b = [] := hsn
        obtain ⟨o, k, k1, k2, k3⟩ := ih (i + 1) n (out ++ [a[i]]) (by omega) hn (by simp; omega) (by rw [hsn, List.drop_eq_nil_of_le (by omega)])
        refine ⟨o, k, ?_, k2, k3⟩
        rw [← k1]
        refine loopM_next ?_
        show m_spec_l03Take_l1 a b out (n : Int) (i : Int) = _
        unfold m_spec_l03Take_l1
        rw [decide_eq_true (by omega : (i : Int) < a.length), cond_true, decide_eq_false (by omega : ¬ (n : Int) < b.length), cond_false, Option.bind_some, cond_false, getL_at hia, Option.bind_some, catL_of (by simp; omega), Option.bind_some, Option.bind_some]
        try simp only
        rw [chk_succ (by omega), Option.bind_some]
  obtain ⟨o, k, k1, k2, k3⟩ := key a.length 0 0 [] (by omega) (by omega) (by simp) rfl
  rw [show ((0 : Nat) : Int) = 0 from rfl] at k1
  rw [k1, Option.bind_some, Option.bind_some]
  refine ⟨_, rfl, ?_⟩
  show ((k : Int) == (b.length : Int)) = _
  rw [k3, Bool.eq_iff_iff, beq_iff_eq, decide_eq_true_eq, List.drop_eq_nil_iff]
  omega

end Go.Proofs.YtbekokenomhgeaaGreatDoor
