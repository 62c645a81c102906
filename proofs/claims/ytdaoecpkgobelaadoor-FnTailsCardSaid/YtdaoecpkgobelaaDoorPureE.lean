/- The order of texts; sorted lists; lexicons. -/
import Derived.Test.YtdaoecpkgobelaaDoorPureD
namespace Go.Proofs.YtdaoecpkgobelaaDoor
open Go Go.RowKit
set_option linter.unusedSimpArgs false
set_option linter.unusedVariables false
set_option linter.unusedSectionVars false

/-! ### The order of texts -/
theorem ltS_cons (a b : UInt8) (x y : Str) : ltS (a :: x) (b :: y) = (decide (a < b) || (a == b && ltS x y)) := by
  unfold ltS; rw [Op.bytesLess]
theorem ltS_nil (x : Str) : ltS x [] = false := by unfold ltS; cases x <;> rfl
theorem ltS_nil_cons (b : UInt8) (y : Str) : ltS [] (b :: y) = true := rfl
theorem ltS_irrefl : ∀ x : Str, ltS x x = false
  | [] => rfl
  | a :: x => by rw [ltS_cons, ltS_irrefl x]; simp
theorem ltS_trans : ∀ {x y z : Str}, ltS x y = true → ltS y z = true → ltS x z = true
  | x, [], z, h, _ => by rw [ltS_nil] at h; cases h
  | x, y, [], _, h => by rw [ltS_nil] at h; cases h
  | [], b :: y, c :: z, _, _ => rfl
  | a :: x, b :: y, c :: z, h1, h2 => by
    rw [ltS_cons] at h1 h2 ⊢
    simp only [Bool.or_eq_true, Bool.and_eq_true, decide_eq_true_eq, beq_iff_eq] at h1 h2 ⊢
    rcases h1 with h1 | ⟨rfl, h1⟩
    · rcases h2 with h2 | ⟨rfl, h2⟩
      · exact .inl (UInt8.lt_trans h1 h2)
      · exact .inl h1
    · rcases h2 with h2 | ⟨rfl, h2⟩
      · exact .inl h2
      · exact .inr ⟨rfl, ltS_trans h1 h2⟩
theorem ltS_total : ∀ x y : Str, ltS x y = true ∨ x = y ∨ ltS y x = true
  | [], [] => .inr (.inl rfl)
  | [], b :: y => .inl rfl
  | a :: x, [] => .inr (.inr rfl)
  | a :: x, b :: y => by
    rw [ltS_cons, ltS_cons]
    simp only [Bool.or_eq_true, Bool.and_eq_true, decide_eq_true_eq, beq_iff_eq]
    have tri : a < b ∨ a = b ∨ b < a := by
      rw [UInt8.lt_iff_toNat_lt, UInt8.lt_iff_toNat_lt, ← UInt8.toNat_inj]
      omega
    rcases tri with h | rfl | h
    · exact .inl (.inl h)
    · rcases ltS_total x y with h | rfl | h
      · exact .inl (.inr ⟨rfl, h⟩)
      · exact .inr (.inl rfl)
      · exact .inr (.inr (.inr ⟨rfl, h⟩))
    · exact .inr (.inr (.inl h))
theorem ltS_asymm {x y : Str} (h : ltS x y = true) : ltS y x = false := by
  cases hb : ltS y x
  · rfl
  · have := ltS_trans h hb; rw [ltS_irrefl] at this; cases this
/-- Not above: the same said in two ways. -/
theorem ltS_le (x y : Str) : (ltS x y || x == y) = !ltS y x := by
  rcases ltS_total x y with h | rfl | h
  · rw [h, ltS_asymm h]; rfl
  · rw [ltS_irrefl]; simp
  · rw [h, ltS_asymm h]
    have : (x == y) = false := by rw [beq_eq_false_iff_ne]; rintro rfl; rw [ltS_irrefl] at h; cases h
    rw [this]; rfl

/-! ### Sorted lists -/
/-- Rising at the place i. -/
def riseAt (ws : List Str) (i : Nat) : Bool := decide (i = 0) || ltS (ws.getD (i - 1) []) (ws.getD i [])

def riseB (ws : List Str) : Bool := allI (riseAt ws) 0 ws.length

theorem riseB_lt {ws : List Str} (h : riseB ws = true) : ∀ j i, i < j → j < ws.length → ltS (ws.getD i []) (ws.getD j []) = true := by
  have step : ∀ i, i + 1 < ws.length → ltS (ws.getD i []) (ws.getD (i + 1) []) = true := fun i hi => by
    have := allI_iff.1 h (i + 1) (by omega) (by omega)
    unfold riseAt at this
    rw [decide_eq_false (by omega), Bool.false_or] at this
    exact this
  intro j
  induction j with
  | zero => intro i h; omega
  | succ j ih =>
    intro i h1 h2
    rcases Nat.eq_or_lt_of_le (Nat.lt_succ_iff.1 h1) with rfl | h
    · exact step i h2
    · exact ltS_trans (ih i h (by omega)) (step j h2)

/-- The first place that is not below t. -/
def IsFirst (ws : List Str) (t : Str) (n : Nat) : Prop := n ≤ ws.length ∧ (∀ i, i < n → ltS (ws.getD i []) t = true) ∧ (n < ws.length → ltS (ws.getD n []) t = false)

theorem IsFirst.unique {ws : List Str} {t : Str} {n m : Nat} (h : IsFirst ws t n) (h' : IsFirst ws t m) : n = m := by
  rcases Nat.lt_trichotomy n m with hl | he | hl
  · have h1 := h'.2.1 n hl
    have h2 := h.2.2 (by have := h'.1; omega)
    rw [h1] at h2; cases h2
  · exact he
  · have h1 := h.2.1 m hl
    have h2 := h'.2.2 (by have := h.1; omega)
    rw [h1] at h2; cases h2

/-- What a search in a sorted list tells. -/
theorem Less_eq (x y : Str) : m_cmp_Less_string x y = some (ltS x y) := by
  unfold m_cmp_Less_string m_cmp_isNaN_string
  simp

theorem binary_eq (ws : List Str) (t : Str) (hl : ws.length ≤ 1000000000) (hs : riseB ws = true) : ∃ n : Nat, IsFirst ws t n ∧ m_slices_BinarySearch_string_string ws t = some ((n : Int), decide (n < ws.length) && ws.getD n [] == t) := by
  obtain ⟨r, hr, n, rfl, hn⟩ := loopM_inv (step := fun s : Int × Int => m_slices_BinarySearch_string_string_l1 ws t s.1 s.2) (fun s => ∃ i j : Nat, s = ((i : Int), (j : Int)) ∧ i ≤ j ∧ j ≤ ws.length ∧ (∀ k, k < i → ltS (ws.getD k []) t = true) ∧ (j < ws.length → ltS (ws.getD j []) t = false)) (fun s => (s.2 - s.1).toNat) (fun r => ∃ n : Nat, r = n ∧ IsFirst ws t n) (fun s hI => by
      obtain ⟨i, j, rfl, hij, hj, h1, h2⟩ := hI
      show (∃ s', m_slices_BinarySearch_string_string_l1 ws t (i : Int) (j : Int) = some (.inl s') ∧ _) ∨ (∃ r, m_slices_BinarySearch_string_string_l1 ws t (i : Int) (j : Int) = some (.inr r) ∧ _)
      unfold m_slices_BinarySearch_string_string_l1
      rcases Nat.lt_or_ge i j with h | h
      · left
        have e : (((i : Int) + (j : Int)) % 18446744073709551616) / 2 = (((i + j) / 2 : Nat) : Int) := by omega
        have hm : (i + j) / 2 < ws.length := by omega
        rw [decide_eq_true (by omega : (i : Int) < (j : Int)), cond_true, chk_in (by omega) (by omega), Option.bind_some, e, chk_nat (by omega), Option.bind_some, getL_getD hm [], Option.bind_some, Less_eq, Option.bind_some]
        cases hlt : ltS (ws.getD ((i + j) / 2) []) t
        · refine ⟨((i : Int), (((i + j) / 2 : Nat) : Int)), rfl, ⟨i, (i + j) / 2, rfl, by omega, by omega, h1, fun _ => hlt⟩, by simp only; omega⟩
        · refine ⟨((((i + j) / 2 + 1 : Nat) : Int), (j : Int)), by simp only [cond_true, chk_succ (by omega : (i + j) / 2 ≤ 8000000000000000000), Option.bind_some], ⟨(i + j) / 2 + 1, j, rfl, by omega, hj, fun k hk => ?_, h2⟩, by simp only; omega⟩
          rcases Nat.eq_or_lt_of_le (Nat.lt_succ_iff.1 hk) with rfl | h'
          · exact hlt
          · exact ltS_trans (riseB_lt hs _ k h' hm) hlt
      · right
        obtain rfl : i = j := by omega
        rw [decide_eq_false (by omega)]
        exact ⟨_, rfl, i, rfl, hj, h1, h2⟩) (0, (ws.length : Int)) ⟨0, ws.length, rfl, by omega, by omega, fun k hk => by omega, fun h => by omega⟩
  refine ⟨n, hn, ?_⟩
  unfold m_slices_BinarySearch_string_string
  rw [hr]
  simp only [Option.bind_some]
  rcases Nat.lt_or_ge n ws.length with h | h
  · rw [decide_eq_true (by omega : (n : Int) < ws.length), cond_true, getL_getD h [], decide_eq_true h]
    simp only [Option.bind_some, Bool.true_and]
    cases ws.getD n [] == t
    · simp [m_slices_isNaN_string]
    · rfl
  · rw [decide_eq_false (by omega), decide_eq_false (by omega)]
    rfl

/-! ### What is chosen from a list -/
end Go.Proofs.YtdaoecpkgobelaaDoor
