/- The order of texts; sorted lists; lexicons. -/
import Derived.Test.YtdaoecpkgobelaaDoorPureD
namespace Go.Proofs.YtdaoecpkgobelaaDoor
open Go Go.RowKit
set_option linter.unusedSimpArgs false
set_option linter.unusedVariables false
set_option linter.unusedSectionVars false

/-! ### The order of texts -/
theorem ltS_cons (a b : UInt8) (x y : Str) : ltS (a :: x) (b :: y) = (decide (a < b) || (a == b && ltS x y)) := by
  unfold ltS; rw [Op.bytesLess]
theorem ltS_nil (x : Str) : ltS x [] = false := by unfold ltS; cases x <;> rfl
theorem ltS_nil_cons (b : UInt8) (y : Str) : ltS [] (b :: y) = true := rfl
theorem ltS_irrefl : ∀ x : Str, ltS x x = false
  | [] => rfl
  | a :: x => by rw [ltS_cons, ltS_irrefl x]; simp
theorem ltS_trans : ∀ {x y z : Str}, ltS x y = true → ltS y z = true → ltS x z = true
  | x, [], z, h, _ => by rw [ltS_nil] at h; cases h
  | x, y, [], _, h => by rw [ltS_nil] at h; cases h
  | [], b :: y, c :: z, _, _ => rfl
  | a :: x, b :: y, c :: z, h1, h2 => by
    rw [ltS_cons] at h1 h2 ⊢
    simp only [Bool.or_eq_true, Bool.and_eq_true, decide_eq_true_eq, beq_iff_eq] at h1 h2 ⊢
    rcases h1 with h1 | ⟨rfl, h1⟩
    · rcases h2 with h2 | ⟨rfl, h2⟩
      · exact .inl (UInt8.lt_trans h1 h2)
      · exact .inl h1
    · rcases h2 with h2 | ⟨rfl, h2⟩
      · exact .inl h2
      · exact .inr ⟨rfl, ltS_trans h1 h2⟩
theorem ltS_total : ∀ x y : Str, ltS x y = true ∨ x = y ∨ ltS y x = true
  | [], [] => .inr (.inl rfl)
  | [], b :: y => .inl rfl
  | a :: x, [] => .inr (.inr rfl)
  | a :: x, b :: y => by
    rw [ltS_cons, ltS_cons]
    simp only [Bool.or_eq_true, Bool.and_eq_true, decide_eq_true_eq, beq_iff_eq]
    have tri : a < b ∨ a = b ∨ b < a := by
      rw [UInt8.lt_iff_toNat_lt, UInt8.lt_iff_toNat_lt, ← UInt8.toNat_inj]
      omega
    rcases tri with h | rfl | h
    · exact .inl (.inl h)
    · rcases ltS_total x y with h | rfl | h
      · exact .inl (.inr ⟨rfl, h⟩)
      · exact .inr (.inl rfl)
      · exact .inr (.inr (.inr ⟨rfl, h⟩))
    · exact .inr (.inr (.inl h))
theorem ltS_asymm {x y : Str} (h : ltS x y = true) : ltS y x = false := by
  cases hb : ltS y x
  · rfl
  · have := ltS_trans h hb; rw [ltS_irrefl] at this; cases this
/-- Not above: the same said in two ways. -/
theorem ltS_le (x y : Str) : (ltS x y || x == y) = !ltS y x := by
  rcases ltS_total x y with h | rfl | h
  · rw [h, ltS_asymm h]; rfl
  · rw [ltS_irrefl]; simp
  · rw [h, ltS_asymm h]
    have : (x == y) = false := by rw [beq_eq_false_iff_ne]; rintro rfl; rw [ltS_irrefl] at h; cases h
    rw [this]; rfl

/-- The first place that is not below t. -/
def IsFirst (ws : List Str) (t : Str) (n : Nat) : Prop := n ≤ ws.length ∧ (∀ i, i < n → ltS (ws.getD i []) t = true) ∧ (n < ws.length → ltS (ws.getD n []) t = false)
theorem IsFirst.unique {ws : List Str} {t : Str} {n m : Nat} (h : IsFirst ws t n) (h' : IsFirst ws t m) : n = m := by
  rcases Nat.lt_trichotomy n m with hl | he | hl
  · have h1 := h'.2.1 n hl
    have h2 := h.2.2 (by have := h'.1; omega)
    rw [h1] at h2; cases h2
  · exact he
  · have h1 := h.2.1 m hl
    have h2 := h'.2.2 (by have := h.1; omega)
    rw [h1] at h2; cases h2

end Go.Proofs.YtdaoecpkgobelaaDoor
