/- Sub-piles of a pile, in order. -/
import Derived.Test.YtbekokenomhgeaaGreatDoorPureA
namespace Go.Proofs.YtbekokenomhgeaaGreatDoor
open Go Go.RowKit
set_option linter.unusedSimpArgs false
set_option linter.unusedVariables false

/-- Sorted, as bytes. -/
def SortedB : Str → Prop
  | [] => True
  | x :: t => (∀ y ∈ t, x.toNat ≤ y.toNat) ∧ SortedB t
theorem SortedB.drop : ∀ {s : Str} (n : Nat), SortedB s → SortedB (s.drop n)
  | [], n, h => by simp [SortedB]
  | x :: t, 0, h => h
  | x :: t, n + 1, h => SortedB.drop (s := t) n h.2
theorem SortedB.dropWhile {p : UInt8 → Bool} : ∀ {s : Str}, SortedB s → SortedB (s.dropWhile p)
  | [], h => h
  | x :: t, h => by
    rw [List.dropWhile_cons]
    split
    · exact SortedB.dropWhile h.2
    · exact h
theorem dropWhile_len (p : UInt8 → Bool) (s : Str) : (s.dropWhile p).length ≤ s.length := by
  induction s with
  | nil => simp
  | cons x t ih =>
    rw [List.dropWhile_cons]
    split
    · simp; omega
    · simp
/-- The sub-piles of n tiles, each once, in order. -/
def subsP (s : Str) (n : Nat) : List Str := match n, s with
  | 0, _ => [[]]
  | _ + 1, [] => []
  | n + 1, x :: t => (subsP t n).map (x :: ·) ++ subsP (t.dropWhile (· == x)) (n + 1)
termination_by s.length
decreasing_by
  · simp
  · have := dropWhile_len (· == x) t
    simp; omega
theorem subsP_zero (s : Str) : subsP s 0 = [[]] := by unfold subsP; rfl
theorem subsP_nil (n : Nat) : subsP [] (n + 1) = [] := by unfold subsP; rfl
theorem subsP_cons (x : UInt8) (t : Str) (n : Nat) : subsP (x :: t) (n + 1) = (subsP t n).map (x :: ·) ++ subsP (t.dropWhile (· == x)) (n + 1) := by rw [subsP]
/-- An induction on the pile and the number of tiles, as subsP goes. -/
theorem subs_ind {Q : Str → Nat → Prop} (h0 : ∀ s, Q s 0) (hn : ∀ n, Q [] (n + 1)) (hc : ∀ x t n, Q t n → Q (t.dropWhile (· == x)) (n + 1) → Q (x :: t) (n + 1)) : ∀ (k : Nat) (s : Str) (n : Nat), s.length ≤ k → Q s n
  | _, s, 0, _ => h0 s
  | _, [], n + 1, _ => hn n
  | k + 1, x :: t, n + 1, h => by
    have hl : t.length ≤ k := by simp at h; omega
    have := dropWhile_len (· == x) t
    exact hc x t n (subs_ind h0 hn hc k t n hl) (subs_ind h0 hn hc k _ (n + 1) (by omega))
theorem subsP_len_each {s : Str} {n : Nat} : ∀ y ∈ subsP s n, y.length = n := by
  refine subs_ind (Q := fun s n => ∀ y ∈ subsP s n, y.length = n) (fun s y hy => ?_) (fun n y hy => ?_) (fun x t n h1 h2 y hy => ?_) s.length s n (Nat.le_refl _)
  · rw [subsP_zero, List.mem_singleton] at hy
    rw [hy]; rfl
  · rw [subsP_nil] at hy; cases hy
  · rw [subsP_cons, List.mem_append] at hy
    rcases hy with hy | hy
    · obtain ⟨z, hz, rfl⟩ := List.mem_map.1 hy
      simp [h1 z hz]
    · exact h2 y hy
theorem subsP_few {s : Str} {n : Nat} : s.length < n → subsP s n = [] := by
  refine subs_ind (Q := fun s n => s.length < n → subsP s n = []) (fun s h => by omega) (fun n _ => subsP_nil n) (fun x t n h1 h2 h => ?_) s.length s n (Nat.le_refl _)
  have hl := dropWhile_len (· == x) t
  rw [List.length_cons] at h
  rw [subsP_cons, h1 (by omega), h2 (by omega)]
  rfl
theorem subsP_count {s : Str} {n : Nat} : (subsP s n).length ≤ 2 ^ s.length := by
  refine subs_ind (Q := fun s n => (subsP s n).length ≤ 2 ^ s.length) (fun s => ?_) (fun n => ?_) (fun x t n h1 h2 => ?_) s.length s n (Nat.le_refl _)
  · rw [subsP_zero]
    have := Nat.one_le_two_pow (n := s.length)
    simpa using this
  · rw [subsP_nil]; simp
  · have hl := dropWhile_len (· == x) t
    have hp : 2 ^ (t.dropWhile (· == x)).length ≤ 2 ^ t.length := Nat.pow_le_pow_right (by omega) hl
    rw [subsP_cons, List.length_append, List.length_map, List.length_cons, Nat.pow_succ]
    omega
/-- All tiles of a sub-pile are tiles of the pile. -/
theorem subsP_mem {s : Str} {n : Nat} : ∀ y ∈ subsP s n, ∀ b ∈ y, b ∈ s := by
  refine subs_ind (Q := fun s n => ∀ y ∈ subsP s n, ∀ b ∈ y, b ∈ s) (fun s y hy b hb => ?_) (fun n y hy => ?_) (fun x t n h1 h2 y hy b hb => ?_) s.length s n (Nat.le_refl _)
  · rw [subsP_zero, List.mem_singleton] at hy
    rw [hy] at hb; cases hb
  · rw [subsP_nil] at hy; cases hy
  · rw [subsP_cons, List.mem_append] at hy
    rcases hy with hy | hy
    · obtain ⟨z, hz, rfl⟩ := List.mem_map.1 hy
      rcases List.mem_cons.1 hb with rfl | hb
      · exact List.mem_cons_self
      · exact List.mem_cons_of_mem _ (h1 z hz b hb)
    · exact List.mem_cons_of_mem _ ((List.dropWhile_sublist _).subset (h2 y hy b hb))

/-! ### Their order -/
theorem ltS_cons (a b : UInt8) (x y : Str) : ltS (a :: x) (b :: y) = (decide (a < b) || (a == b && ltS x y)) := by
  unfold ltS; rw [Op.bytesLess]
theorem ltS_nil (x : Str) : ltS x [] = false := by unfold ltS; cases x <;> rfl
theorem ltS_nil_cons (b : UInt8) (y : Str) : ltS [] (b :: y) = true := rfl
theorem ltS_irrefl : ∀ x : Str, ltS x x = false
  | [] => rfl
  | a :: x => by rw [ltS_cons, ltS_irrefl x]; simp
theorem drop_gt {x : UInt8} : ∀ {t : Str}, SortedB t → (∀ y ∈ t, x.toNat ≤ y.toNat) → ∀ y ∈ t.dropWhile (· == x), x < y
  | [], _, _, y, hy => by simp at hy
  | z :: t, hs, hx, y, hy => by
    rw [List.dropWhile_cons] at hy
    by_cases hz : z = x
    · rw [if_pos (beq_iff_eq.2 hz)] at hy
      exact drop_gt hs.2 (fun w hw => hx w (List.mem_cons_of_mem _ hw)) y hy
    · rw [if_neg (fun e => hz (beq_iff_eq.1 e))] at hy
      have h1 := hx z List.mem_cons_self
      have h2 : z.toNat ≠ x.toNat := fun e => hz (UInt8.toNat_inj.1 e)
      have h3 : z.toNat ≤ y.toNat := by
        rcases List.mem_cons.1 hy with rfl | hy
        · exact Nat.le_refl _
        · exact hs.1 y hy
      exact UInt8.lt_iff_toNat_lt.2 (by omega)
theorem subsP_rise {s : Str} {n : Nat} : SortedB s → (subsP s n).Pairwise fun a b => ltS a b = true := by
  refine subs_ind (Q := fun s n => SortedB s → (subsP s n).Pairwise fun a b => ltS a b = true) (fun s _ => ?_) (fun n _ => ?_) (fun x t n h1 h2 hs => ?_) s.length s n (Nat.le_refl _)
  · rw [subsP_zero]; exact List.pairwise_singleton _ _
  · rw [subsP_nil]; exact List.Pairwise.nil
  · rw [subsP_cons, List.pairwise_append]
    refine ⟨?_, h2 hs.2.dropWhile, fun a ha b hb => ?_⟩
    · rw [List.pairwise_map]
      refine (h1 hs.2).imp fun {a b} hab => ?_
      rw [ltS_cons, hab, beq_self_eq_true]
      simp
    · obtain ⟨a', ha', rfl⟩ := List.mem_map.1 ha
      have hl := subsP_len_each b hb
      cases b with
      | nil => simp at hl
      | cons y b =>
        have hy := subsP_mem (y :: b) hb y List.mem_cons_self
        have := drop_gt hs.2 hs.1 y hy
        rw [ltS_cons, decide_eq_true this]
        rfl

end Go.Proofs.YtbekokenomhgeaaGreatDoor
