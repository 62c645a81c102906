/- The order of texts; sorted lists; lexicons. -/
import Derived.Test.YtdaoecpkgobelaaGreatDoorPureD
namespace Go.Proofs.YtdaoecpkgobelaaGreatDoor
open Go Go.RowKit
set_option linter.unusedSimpArgs false
set_option linter.unusedVariables false
set_option linter.unusedSectionVars false

/-! ### The order of texts -/
theorem ltS_cons (a b : UInt8) (x y : Str) : ltS (a :: x) (b :: y) = (decide (a < b) || (a == b && ltS x y)) := by
  unfold ltS; rw [Op.bytesLess]
theorem ltS_nil (x : Str) : ltS x [] = false := by unfold ltS; cases x <;> rfl
theorem ltS_nil_cons (b : UInt8) (y : Str) : ltS [] (b :: y) = true := rfl
theorem ltS_irrefl : ∀ x : Str, ltS x x = false
  | [] => rfl
  | a :: x => by rw [ltS_cons, ltS_irrefl x]; simp
theorem ltS_trans : ∀ {x y z : Str}, ltS x y = true → ltS y z = true → ltS x z = true
  | x, [], z, h, _ => by rw [ltS_nil] at h; cases h
  | x, y, [], _, h => by rw [ltS_nil] at h; cases h
  | [], b :: y, c :: z, _, _ => rfl
  | a :: x, b :: y, c :: z, h1, h2 => by
    rw [ltS_cons] at h1 h2 ⊢
    simp only [Bool.or_eq_true, Bool.and_eq_true, decide_eq_true_eq, beq_iff_eq] at h1 h2 ⊢
    rcases h1 with h1 | ⟨rfl, h1⟩
    · rcases h2 with h2 | ⟨rfl, h2⟩
      · exact .inl (UInt8.lt_trans h1 h2)
      · exact .inl h1
    · rcases h2 with h2 | ⟨rfl, h2⟩
      · exact .inl h2
      · exact .inr ⟨rfl, ltS_trans h1 h2⟩
theorem ltS_total : ∀ x y : Str, ltS x y = true ∨ x = y ∨ ltS y x = true
  | [], [] => .inr (.inl rfl)
  | [], b :: y => .inl rfl
  | a :: x, [] => .inr (.inr rfl)
  | a :: x, b :: y => by
    rw [ltS_cons, ltS_cons]
    simp only [Bool.or_eq_true, Bool.and_eq_true, decide_eq_true_eq, beq_iff_eq]
    have tri : a < b ∨ a = b ∨ b < a := by
      rw [UInt8.lt_iff_toNat_lt, UInt8.lt_iff_toNat_lt, ← UInt8.toNat_inj]
      omega
    rcases tri with h | rfl | h
    · exact .inl (.inl h)
    · rcases ltS_total x y with h | rfl | h
      · exact .inl (.inr ⟨rfl, h⟩)
      · exact .inr (.inl rfl)
      · exact .inr (.inr (.inr ⟨rfl, h⟩))
    · exact .inr (.inr (.inl h))
theorem ltS_asymm {x y : Str} (h : ltS x y = true) : ltS y x = false := by
  cases hb : ltS y x
  · rfl
  · have := ltS_trans h hb; rw [ltS_irrefl] at this; cases this
/-- Not above: the same said in two ways. -/
theorem ltS_le (x y : Str) : (ltS x y || x == y) = !ltS y x := by
  rcases ltS_total x y with h | rfl | h
  · rw [h, ltS_asymm h]; rfl
  · rw [ltS_irrefl]; simp
  · rw [h, ltS_asymm h]
    have : (x == y) = false := by rw [beq_eq_false_iff_ne]; rintro rfl; rw [ltS_irrefl] at h; cases h
    rw [this]; rfl

/-! ### Sorted lists -/
/-- Rising at the place i. -/
def riseAt (ws : List Str) (i : Nat) : Bool := decide (i = 0) || ltS (ws.getD (i - 1) []) (ws.getD i [])

def riseB (ws : List Str) : Bool := allI (riseAt ws) 0 ws.length

theorem increasing_eq (ws : List Str) (hl : ws.length ≤ 8000000000000000000) : m_impl_increasing ws = some (riseB ws) := by
  unfold m_impl_increasing
  have key : ∀ i : Nat, 1 ≤ i → i < ws.length → m_impl_increasing_l1 ws (i : Int) = some (bif riseAt ws i then .inl ((i : Int) + 1) else .inr (.inr false)) := by
    intro i h1 h2
    unfold m_impl_increasing_l1 riseAt
    rw [decide_eq_true (by omega : (i : Int) < ws.length), cond_true, chk_pred (by omega) (by omega), Option.bind_some, getL_getD (by omega) [], Option.bind_some, getL_getD h2 [], Option.bind_some, chk_succ (by omega), decide_eq_false (by omega : ¬ i = 0), Bool.false_or]
    cases ltS (ws.getD (i - 1) []) (ws.getD i []) <;> simp
  have hend : m_impl_increasing_l1 ws (ws.length : Int) = some (.inr (.inl ())) := by unfold m_impl_increasing_l1; rw [decide_eq_false (by omega)]; rfl
  have hrun : ∀ (k i : Nat), 1 ≤ i → i + k = ws.length → loopM (fun i : Int => m_impl_increasing_l1 ws i) (i : Int) = some (bif allI (riseAt ws) i k then .inl () else .inr false) := by
    intro k
    induction k with
    | zero => intro i _ h; rw [Nat.add_zero] at h; subst h; exact loopM_done hend
    | succ k ih =>
      intro i h1 h
      have h2 := key i h1 (by omega)
      rw [allI]
      cases hu : riseAt ws i with
      | true => rw [hu] at h2; rw [loopM_next h2]; simpa using ih (i + 1) (by omega) (by omega)
      | false => rw [hu] at h2; exact loopM_done h2
  cases hws : ws with
  | nil =>
    have : loopM (fun i : Int => m_impl_increasing_l1 [] i) 1 = some (.inl ()) := loopM_done (by unfold m_impl_increasing_l1; rfl)
    rw [this]; rfl
  | cons a t =>
    rw [← hws]
    have hpos : 1 ≤ ws.length := by rw [hws]; simp
    have := hrun (ws.length - 1) 1 (Nat.le_refl _) (by omega)
    rw [show ((1 : Nat) : Int) = 1 from rfl] at this
    rw [this]
    unfold riseB
    have e : allI (riseAt ws) 0 ws.length = allI (riseAt ws) 1 (ws.length - 1) := by
      rw [show ws.length = (ws.length - 1) + 1 by omega, allI]
      simp [riseAt]
    rw [e]
    cases allI (riseAt ws) 1 (ws.length - 1) <;> rfl

/-- The first place that is not below t. -/
def IsFirst (ws : List Str) (t : Str) (n : Nat) : Prop := n ≤ ws.length ∧ (∀ i, i < n → ltS (ws.getD i []) t = true) ∧ (n < ws.length → ltS (ws.getD n []) t = false)

theorem IsFirst.unique {ws : List Str} {t : Str} {n m : Nat} (h : IsFirst ws t n) (h' : IsFirst ws t m) : n = m := by
  rcases Nat.lt_trichotomy n m with hl | he | hl
  · have h1 := h'.2.1 n hl
    have h2 := h.2.2 (by have := h'.1; omega)
    rw [h1] at h2; cases h2
  · exact he
  · have h1 := h.2.1 m hl
    have h2 := h'.2.2 (by have := h.1; omega)
    rw [h1] at h2; cases h2

theorem firstS_eq (ws : List Str) (t : Str) (hl : ws.length ≤ 8000000000000000000) : ∃ n : Nat, m_spec_l05First ws t = some (n : Int) ∧ IsFirst ws t n := by
  obtain ⟨r, hr, n, rfl, hn⟩ := loopM_inv (step := fun s : Int => m_spec_l05First_l1 ws t s) (fun s => ∃ i : Nat, s = i ∧ i ≤ ws.length ∧ ∀ j, j < i → ltS (ws.getD j []) t = true) (fun s => (ws.length + 1 - s).toNat) (fun r => ∃ n : Nat, r = n ∧ IsFirst ws t n) (fun s hI => by
      obtain ⟨i, rfl, hi, hb⟩ := hI
      unfold m_spec_l05First_l1
      rcases Nat.lt_or_ge i ws.length with h | h
      · rw [decide_eq_true (by omega : (i : Int) < ws.length), cond_true, getL_getD h [], Option.bind_some, Option.bind_some]
        cases hlt : ltS (ws.getD i []) t
        · right
          exact ⟨_, rfl, i, rfl, by omega, hb, fun _ => hlt⟩
        · left
          rw [cond_true, chk_succ (by omega), Option.bind_some]
          refine ⟨_, rfl, ⟨i + 1, rfl, by omega, fun j hj => ?_⟩, by omega⟩
          rcases Nat.eq_or_lt_of_le (Nat.lt_succ_iff.1 hj) with rfl | h'
          · exact hlt
          · exact hb j h'
      · right
        rw [decide_eq_false (by omega)]
        exact ⟨_, rfl, i, rfl, by omega, hb, fun h' => by omega⟩) 0 ⟨0, rfl, by omega, fun j hj => by omega⟩
  refine ⟨n, ?_, hn⟩
  unfold m_spec_l05First
  rw [hr]
  rfl

/-! ### Lexicons -/
def longB (s : Str) : Bool := decide (1 < s.length) && wordB s

theorem isLong_eq (s : Str) (hl : s.length ≤ 8000000000000000000) : m_impl_isLong s = some (longB s) := by
  unfold m_impl_isLong longB
  rw [IsWord_eq s hl, show decide (2 ≤ (s.length : Int)) = decide (1 < s.length) by rw [Bool.eq_iff_iff]; simp; omega]
  cases decide (1 < s.length) <;> rfl

def lexB (l : Lexicon) : Bool := decide (l.Words.length ≤ 200) && riseB l.Words && l.Words.all longB

theorem ValidLexicon_eq (l : Lexicon) (hl : l.Words.length ≤ 1000000000) (hw : ∀ w ∈ l.Words, w.length ≤ 8000000000000000000) : m_impl_ValidLexicon l = some (lexB l) := by
  unfold m_impl_ValidLexicon lexB
  rw [increasing_eq l.Words (by omega)]
  by_cases h : l.Words.length ≤ 200
  · rw [decide_eq_false (by omega : ¬ 200 < (l.Words.length : Int)), decide_eq_true h]
    simp only [cond_false, Option.bind_some, Bool.true_and]
    cases riseB l.Words
    · rfl
    have hrun := loop_all (step := fun i : Int => m_impl_ValidLexicon_l1 l i) (fun i => (l.Words[i]?.map longB).getD true) l.Words.length (.inl () : Unit ⊕ Bool) (.inr false) (fun i hi => by
        unfold m_impl_ValidLexicon_l1
        rw [decide_eq_true (by omega : (i : Int) < l.Words.length), cond_true, getL_at hi, Option.bind_some, isLong_eq _ (hw _ (List.getElem_mem hi)), Option.bind_some, chk_succ (by omega), List.getElem?_eq_getElem hi, Option.map_some, Option.getD_some]
        cases longB l.Words[i] <;> rfl)
      (by unfold m_impl_ValidLexicon_l1; rw [decide_eq_false (by omega)]; rfl) l.Words.length 0 (by omega)
    rw [show ((0 : Nat) : Int) = 0 from rfl, all_idx] at hrun
    simp only [Bool.not_true, cond_false, hrun, Bool.true_and]
    cases l.Words.all longB <;> rfl
  · rw [decide_eq_true (by omega : 200 < (l.Words.length : Int)), decide_eq_false h]; rfl

/-! ### What is chosen from a list -/
end Go.Proofs.YtdaoecpkgobelaaGreatDoor
