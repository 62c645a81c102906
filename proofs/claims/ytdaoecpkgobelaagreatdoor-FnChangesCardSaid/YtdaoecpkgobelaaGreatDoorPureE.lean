/- The order of texts; sorted lists; lexicons. -/
import Derived.Test.YtdaoecpkgobelaaGreatDoorPureD
namespace Go.Proofs.YtdaoecpkgobelaaGreatDoor
open Go Go.RowKit
set_option linter.unusedSimpArgs false
set_option linter.unusedVariables false
set_option linter.unusedSectionVars false
/-! ### The order of texts -/
theorem ltS_cons (a b : UInt8) (x y : Str) : ltS (a :: x) (b :: y) = (decide (a < b) || (a == b && ltS x y)) := by
  unfold ltS; rw [Op.bytesLess]
theorem ltS_nil (x : Str) : ltS x [] = false := by unfold ltS; cases x <;> rfl
theorem ltS_nil_cons (b : UInt8) (y : Str) : ltS [] (b :: y) = true := rfl
theorem ltS_irrefl : ∀ x : Str, ltS x x = false
  | [] => rfl
  | a :: x => by rw [ltS_cons, ltS_irrefl x]; simp
theorem ltS_trans : ∀ {x y z : Str}, ltS x y = true → ltS y z = true → ltS x z = true
  | x, [], z, h, _ => by rw [ltS_nil] at h; cases h
  | x, y, [], _, h => by rw [ltS_nil] at h; cases h
  | [], b :: y, c :: z, _, _ => rfl
  | a :: x, b :: y, c :: z, h1, h2 => by
    rw [ltS_cons] at h1 h2 ⊢
    simp only [Bool.or_eq_true, Bool.and_eq_true, decide_eq_true_eq, beq_iff_eq] at h1 h2 ⊢
    rcases h1 with h1 | ⟨rfl, h1⟩
    · rcases h2 with h2 | ⟨rfl, h2⟩
      · exact .inl (UInt8.lt_trans h1 h2)
      · exact .inl h1
    · rcases h2 with h2 | ⟨rfl, h2⟩
      · exact .inl h2
      · exact .inr ⟨rfl, ltS_trans h1 h2⟩
theorem ltS_total : ∀ x y : Str, ltS x y = true ∨ x = y ∨ ltS y x = true
  | [], [] => .inr (.inl rfl)
  | [], b :: y => .inl rfl
  | a :: x, [] => .inr (.inr rfl)
  | a :: x, b :: y => by
    rw [ltS_cons, ltS_cons]
    simp only [Bool.or_eq_true, Bool.and_eq_true, decide_eq_true_eq, beq_iff_eq]
    have tri : a < b ∨ a = b ∨ b < a := by
      rw [UInt8.lt_iff_toNat_lt, UInt8.lt_iff_toNat_lt, ← UInt8.toNat_inj]
      omega
    rcases tri with h | rfl | h
    · exact .inl (.inl h)
    · rcases ltS_total x y with h | rfl | h
      · exact .inl (.inr ⟨rfl, h⟩)
      · exact .inr (.inl rfl)
      · exact .inr (.inr (.inr ⟨rfl, h⟩))
    · exact .inr (.inr (.inl h))
theorem ltS_asymm {x y : Str} (h : ltS x y = true) : ltS y x = false := by
  cases hb : ltS y x
  · rfl
  · have := ltS_trans h hb; rw [ltS_irrefl] at this; cases this
theorem ltS_le (x y : Str) : (ltS x y || x == y) = !ltS y x := by
  rcases ltS_total x y with h | rfl | h
  · rw [h, ltS_asymm h]; rfl
  · rw [ltS_irrefl]; simp
  · rw [h, ltS_asymm h]
    have : (x == y) = false := by rw [beq_eq_false_iff_ne]; rintro rfl; rw [ltS_irrefl] at h; cases h
    rw [this]; rfl
/-! ### Sorted lists -/
def riseAt (ws : List Str) (i : Nat) : Bool := decide (i = 0) || ltS (ws.getD (i - 1) []) (ws.getD i [])
def riseB (ws : List Str) : Bool := allI (riseAt ws) 0 ws.length
theorem riseB_lt {ws : List Str} (h : riseB ws = true) : ∀ j i, i < j → j < ws.length → ltS (ws.getD i []) (ws.getD j []) = true := by
  have step : ∀ i, i + 1 < ws.length → ltS (ws.getD i []) (ws.getD (i + 1) []) = true := fun i hi => by
    have := allI_iff.1 h (i + 1) (by omega) (by omega)
    unfold riseAt at this
    rw [decide_eq_false (by omega), Bool.false_or] at this
    exact this
  intro j
  induction j with
  | zero => intro i h; omega
  | succ j ih =>
    intro i h1 h2
    rcases Nat.eq_or_lt_of_le (Nat.lt_succ_iff.1 h1) with rfl | h
    · exact step i h2
    · exact ltS_trans (ih i h (by omega)) (step j h2)
def IsFirst (ws : List Str) (t : Str) (n : Nat) : Prop := n ≤ ws.length ∧ (∀ i, i < n → ltS (ws.getD i []) t = true) ∧ (n < ws.length → ltS (ws.getD n []) t = false)
theorem IsFirst.unique {ws : List Str} {t : Str} {n m : Nat} (h : IsFirst ws t n) (h' : IsFirst ws t m) : n = m := by
  rcases Nat.lt_trichotomy n m with hl | he | hl
  · have h1 := h'.2.1 n hl
    have h2 := h.2.2 (by have := h'.1; omega)
    rw [h1] at h2; cases h2
  · exact he
  · have h1 := h.2.1 m hl
    have h2 := h'.2.2 (by have := h.1; omega)
    rw [h1] at h2; cases h2
theorem Less_eq (x y : Str) : m_cmp_Less_string x y = some (ltS x y) := by
  unfold m_cmp_Less_string m_cmp_isNaN_string
  simp
theorem binary_eq (ws : List Str) (t : Str) (hl : ws.length ≤ 1000000000) (hs : riseB ws = true) : ∃ n : Nat, IsFirst ws t n ∧ m_slices_BinarySearch_string_string ws t = some ((n : Int), decide (n < ws.length) && ws.getD n [] == t) := by
  obtain ⟨r, hr, n, rfl, hn⟩ := loopM_inv (step := fun s : Int × Int => m_slices_BinarySearch_string_string_l1 ws t s.1 s.2) (fun s => ∃ i j : Nat, s = ((i : Int), (j : Int)) ∧ i ≤ j ∧ j ≤ ws.length ∧ (∀ k, k < i → ltS (ws.getD k []) t = true) ∧ (j < ws.length → ltS (ws.getD j []) t = false)) (fun s => (s.2 - s.1).toNat) (fun r => ∃ n : Nat, r = n ∧ IsFirst ws t n) (fun s hI => by
      obtain ⟨i, j, rfl, hij, hj, h1, h2⟩ := hI
      show (∃ s', m_slices_BinarySearch_string_string_l1 ws t (i : Int) (j : Int) = some (.inl s') ∧ _) ∨ (∃ r, m_slices_BinarySearch_string_string_l1 ws t (i : Int) (j : Int) = some (.inr r) ∧ _)
      unfold m_slices_BinarySearch_string_string_l1
      rcases Nat.lt_or_ge i j with h | h
      · left
        have e : (((i : Int) + (j : Int)) % 18446744073709551616) / 2 = (((i + j) / 2 : Nat) : Int) := by omega
        have hm : (i + j) / 2 < ws.length := by omega
        rw [decide_eq_true (by omega : (i : Int) < (j : Int)), cond_true, chk_in (by omega) (by omega), Option.bind_some, e, chk_nat (by omega), Option.bind_some, getL_getD hm [], Option.bind_some, Less_eq, Option.bind_some]
        cases hlt : ltS (ws.getD ((i + j) / 2) []) t
        · refine ⟨((i : Int), (((i + j) / 2 : Nat) : Int)), rfl, ⟨i, (i + j) / 2, rfl, by omega, by omega, h1, fun _ => hlt⟩, by simp only; omega⟩
        · refine ⟨((((i + j) / 2 + 1 : Nat) : Int), (j : Int)), by simp only [cond_true, chk_succ (by omega : (i + j) / 2 ≤ 8000000000000000000), Option.bind_some], ⟨(i + j) / 2 + 1, j, rfl, by omega, hj, fun k hk => ?_, h2⟩, by simp only; omega⟩
          rcases Nat.eq_or_lt_of_le (Nat.lt_succ_iff.1 hk) with rfl | h'
          · exact hlt
          · exact ltS_trans (riseB_lt hs _ k h' hm) hlt
      · right
        obtain rfl : i = j := by omega
        rw [decide_eq_false (by omega)]
        exact ⟨_, rfl, i, rfl, hj, h1, h2⟩) (0, (ws.length : Int)) ⟨0, ws.length, rfl, by omega, by omega, fun k hk => by omega, fun h => by omega⟩
  refine ⟨n, hn, ?_⟩
  unfold m_slices_BinarySearch_string_string
  rw [hr]
  simp only [Option.bind_some]
  rcases Nat.lt_or_ge n ws.length with h | h
  · rw [decide_eq_true (by omega : (n : Int) < ws.length), cond_true, getL_getD h [], decide_eq_true h]
    simp only [Option.bind_some, Bool.true_and]
    cases ws.getD n [] == t
    · simp [m_slices_isNaN_string]
    · rfl
  · rw [decide_eq_false (by omega), decide_eq_false (by omega)]
    rfl
/-! ### Lexicons -/
/-! ### What is chosen from a list -/
theorem loop_filter {α : Type} (p : α → Bool) (ws : List α) (step : List α → Int → Option ((List α × Int) ⊕ List α)) (hst : ∀ (xs : List α) (i : Nat) (hi : i < ws.length), xs.length ≤ i → step xs i = some (.inl ((bif p ws[i] then xs ++ [ws[i]] else xs), ((i + 1 : Nat) : Int)))) (hend : ∀ xs, step xs ws.length = some (.inr xs)) :
    loopM (fun s : List α × Int => step s.1 s.2) (([] : List α), 0) = some (ws.filter p) := by
  refine loop_run2 (step := fun s : List α × Int => step s.1 s.2) (fun i => ((ws.take i).filter p, (i : Int))) ws.length _ (fun i hi => ?_) ?_ rfl
  · show step ((ws.take i).filter p) (i : Int) = _
    rw [hst _ i hi (by have := List.length_filter_le p (ws.take i); rw [List.length_take] at this; omega), List.take_add_one, List.getElem?_eq_getElem hi, List.filter_append]
    cases hp : p ws[i] <;> simp [hp]
  · show step _ (ws.length : Int) = _
    rw [hend, List.take_length]
theorem selected_eq (ws : List Str) (hl : ws.length ≤ 1000000) (is : Str → Option Bool) (p : Str → Bool) (hp : ∀ w ∈ ws, is w = some (p w)) : m_impl_selected_string ws is = some (ws.filter p) := by
  unfold m_impl_selected_string
  rw [loop_filter p ws (m_impl_selected_string_l1 ws is) (fun xs i hi hx => by
      unfold m_impl_selected_string_l1
      rw [decide_eq_true (by omega : (i : Int) < ws.length), cond_true, getL_at hi, Option.bind_some, hp _ (List.getElem_mem hi), Option.bind_some, chk_succ (by omega), catL_of (by simp; omega)]
      cases p ws[i] <;> rfl) (fun xs => by unfold m_impl_selected_string_l1; rw [decide_eq_false (by omega)]; rfl)]
  rfl
end Go.Proofs.YtdaoecpkgobelaaGreatDoor
