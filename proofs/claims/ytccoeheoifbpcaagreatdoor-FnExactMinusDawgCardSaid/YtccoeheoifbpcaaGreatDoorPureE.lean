/- The order of texts; sorted lists; lexicons. -/
import Derived.Test.YtccoeheoifbpcaaGreatDoorPureD
namespace Go.Proofs.YtccoeheoifbpcaaGreatDoor
open Go Go.RowKit
set_option linter.unusedSimpArgs false
set_option linter.unusedVariables false
set_option linter.unusedSectionVars false
/-! ### The order of texts -/
theorem ltS_cons (a b : UInt8) (x y : Str) : ltS (a :: x) (b :: y) = (decide (a < b) || (a == b && ltS x y)) := by
  unfold ltS; rw [Op.bytesLess]
theorem ltS_nil (x : Str) : ltS x [] = false := by unfold ltS; cases x <;> rfl
theorem ltS_nil_cons (b : UInt8) (y : Str) : ltS [] (b :: y) = true := rfl
theorem ltS_irrefl : ∀ x : Str, ltS x x = false
  | [] => rfl
  | a :: x => by rw [ltS_cons, ltS_irrefl x]; simp
theorem ltS_trans : ∀ {x y z : Str}, ltS x y = true → ltS y z = true → ltS x z = true
  | x, [], z, h, _ => by rw [ltS_nil] at h; cases h
  | x, y, [], _, h => by rw [ltS_nil] at h; cases h
  | [], b :: y, c :: z, _, _ => rfl
  | a :: x, b :: y, c :: z, h1, h2 => by
    rw [ltS_cons] at h1 h2 ⊢
    simp only [Bool.or_eq_true, Bool.and_eq_true, decide_eq_true_eq, beq_iff_eq] at h1 h2 ⊢
    rcases h1 with h1 | ⟨rfl, h1⟩
    · rcases h2 with h2 | ⟨rfl, h2⟩
      · exact .inl (UInt8.lt_trans h1 h2)
      · exact .inl h1
    · rcases h2 with h2 | ⟨rfl, h2⟩
      · exact .inl h2
      · exact .inr ⟨rfl, ltS_trans h1 h2⟩
theorem ltS_total : ∀ x y : Str, ltS x y = true ∨ x = y ∨ ltS y x = true
  | [], [] => .inr (.inl rfl)
  | [], b :: y => .inl rfl
  | a :: x, [] => .inr (.inr rfl)
  | a :: x, b :: y => by
    rw [ltS_cons, ltS_cons]
    simp only [Bool.or_eq_true, Bool.and_eq_true, decide_eq_true_eq, beq_iff_eq]
    have tri : a < b ∨ a = b ∨ b < a := by
      rw [UInt8.lt_iff_toNat_lt, UInt8.lt_iff_toNat_lt, ← UInt8.toNat_inj]
      omega
    rcases tri with h | rfl | h
    · exact .inl (.inl h)
    · rcases ltS_total x y with h | rfl | h
      · exact .inl (.inr ⟨rfl, h⟩)
      · exact .inr (.inl rfl)
      · exact .inr (.inr (.inr ⟨rfl, h⟩))
    · exact .inr (.inr (.inl h))
theorem ltS_asymm {x y : Str} (h : ltS x y = true) : ltS y x = false := by
  cases hb : ltS y x
  · rfl
  · have := ltS_trans h hb; rw [ltS_irrefl] at this; cases this
/-! ### Sorted lists -/
def riseAt (ws : List Str) (i : Nat) : Bool := decide (i = 0) || ltS (ws.getD (i - 1) []) (ws.getD i [])
def riseB (ws : List Str) : Bool := allI (riseAt ws) 0 ws.length
def IsFirst (ws : List Str) (t : Str) (n : Nat) : Prop := n ≤ ws.length ∧ (∀ i, i < n → ltS (ws.getD i []) t = true) ∧ (n < ws.length → ltS (ws.getD n []) t = false)
theorem firstS_eq (ws : List Str) (t : Str) (hl : ws.length ≤ 8000000000000000000) : ∃ n : Nat, m_spec_l05First ws t = some (n : Int) ∧ IsFirst ws t n := by
  obtain ⟨r, hr, n, rfl, hn⟩ := loopM_inv (step := fun s : Int => m_spec_l05First_l1 ws t s) (fun s => ∃ i : Nat, s = i ∧ i ≤ ws.length ∧ ∀ j, j < i → ltS (ws.getD j []) t = true) (fun s => (ws.length + 1 - s).toNat) (fun r => ∃ n : Nat, r = n ∧ IsFirst ws t n) (fun s hI => by
      obtain ⟨i, rfl, hi, hb⟩ := hI
      unfold m_spec_l05First_l1
      rcases Nat.lt_or_ge i ws.length with h | h
      · rw [decide_eq_true (by omega : (i : Int) < ws.length), cond_true, getL_getD h [], Option.bind_some, Option.bind_some]
        cases hlt : ltS (ws.getD i []) t
        · right
          exact ⟨_, rfl, i, rfl, by omega, hb, fun _ => hlt⟩
        · left
          rw [cond_true, chk_succ (by omega), Option.bind_some]
          refine ⟨_, rfl, ⟨i + 1, rfl, by omega, fun j hj => ?_⟩, by omega⟩
          rcases Nat.eq_or_lt_of_le (Nat.lt_succ_iff.1 hj) with rfl | h'
          · exact hlt
          · exact hb j h'
      · right
        rw [decide_eq_false (by omega)]
        exact ⟨_, rfl, i, rfl, by omega, hb, fun h' => by omega⟩) 0 ⟨0, rfl, by omega, fun j hj => by omega⟩
  refine ⟨n, ?_, hn⟩
  unfold m_spec_l05First
  rw [hr]
  rfl
/-! ### What is chosen from a list -/
theorem loop_filter {α : Type} (p : α → Bool) (ws : List α) (step : List α → Int → Option ((List α × Int) ⊕ List α)) (hst : ∀ (xs : List α) (i : Nat) (hi : i < ws.length), xs.length ≤ i → step xs i = some (.inl ((bif p ws[i] then xs ++ [ws[i]] else xs), ((i + 1 : Nat) : Int)))) (hend : ∀ xs, step xs ws.length = some (.inr xs)) :
    loopM (fun s : List α × Int => step s.1 s.2) (([] : List α), 0) = some (ws.filter p) := by
  refine loop_run2 (step := fun s : List α × Int => step s.1 s.2) (fun i => ((ws.take i).filter p, (i : Int))) ws.length _ (fun i hi => ?_) ?_ rfl
  · show step ((ws.take i).filter p) (i : Int) = _
    rw [hst _ i hi (by have := List.length_filter_le p (ws.take i); rw [List.length_take] at this; omega), List.take_add_one, List.getElem?_eq_getElem hi, List.filter_append]
    cases hp : p ws[i] <;> simp [hp]
  · show step _ (ws.length : Int) = _
    rw [hend, List.take_length]
theorem selected_eq (ws : List Str) (hl : ws.length ≤ 1000000) (is : Str → Option Bool) (p : Str → Bool) (hp : ∀ w ∈ ws, is w = some (p w)) : m_impl_selected_string ws is = some (ws.filter p) := by
  unfold m_impl_selected_string
  rw [loop_filter p ws (m_impl_selected_string_l1 ws is) (fun xs i hi hx => by
      unfold m_impl_selected_string_l1
      rw [decide_eq_true (by omega : (i : Int) < ws.length), cond_true, getL_at hi, Option.bind_some, hp _ (List.getElem_mem hi), Option.bind_some, chk_succ (by omega), catL_of (by simp; omega)]
      cases p ws[i] <;> rfl) (fun xs => by unfold m_impl_selected_string_l1; rw [decide_eq_false (by omega)]; rfl)]
  rfl
end Go.Proofs.YtccoeheoifbpcaaGreatDoor
