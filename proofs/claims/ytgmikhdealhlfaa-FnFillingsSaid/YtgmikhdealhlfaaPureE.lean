/- The order of texts; sorted lists; lexicons. -/
import Derived.Test.YtgmikhdealhlfaaPureD
namespace Go.Proofs.Ytgmikhdealhlfaa
open Go Go.RowKit
set_option linter.unusedSimpArgs false
set_option linter.unusedVariables false
set_option linter.unusedSectionVars false

/-! ### The order of texts -/
theorem ltS_cons (a b : UInt8) (x y : Str) : ltS (a :: x) (b :: y) = (decide (a < b) || (a == b && ltS x y)) := by
  unfold ltS; rw [Op.bytesLess]
theorem ltS_nil (x : Str) : ltS x [] = false := by unfold ltS; cases x <;> rfl
theorem ltS_nil_cons (b : UInt8) (y : Str) : ltS [] (b :: y) = true := rfl
theorem ltS_irrefl : ∀ x : Str, ltS x x = false
  | [] => rfl
  | a :: x => by rw [ltS_cons, ltS_irrefl x]; simp
theorem ltS_trans : ∀ {x y z : Str}, ltS x y = true → ltS y z = true → ltS x z = true
  | x, [], z, h, _ => by rw [ltS_nil] at h; cases h
  | x, y, [], _, h => by rw [ltS_nil] at h; cases h
  | [], b :: y, c :: z, _, _ => rfl
  | a :: x, b :: y, c :: z, h1, h2 => by
    rw [ltS_cons] at h1 h2 ⊢
    simp only [Bool.or_eq_true, Bool.and_eq_true, decide_eq_true_eq, beq_iff_eq] at h1 h2 ⊢
    rcases h1 with h1 | ⟨rfl, h1⟩
    · rcases h2 with h2 | ⟨rfl, h2⟩
      · exact .inl (UInt8.lt_trans h1 h2)
      · exact .inl h1
    · rcases h2 with h2 | ⟨rfl, h2⟩
      · exact .inl h2
      · exact .inr ⟨rfl, ltS_trans h1 h2⟩
theorem ltS_total : ∀ x y : Str, ltS x y = true ∨ x = y ∨ ltS y x = true
  | [], [] => .inr (.inl rfl)
  | [], b :: y => .inl rfl
  | a :: x, [] => .inr (.inr rfl)
  | a :: x, b :: y => by
    rw [ltS_cons, ltS_cons]
    simp only [Bool.or_eq_true, Bool.and_eq_true, decide_eq_true_eq, beq_iff_eq]
    have tri : a < b ∨ a = b ∨ b < a := by
      rw [UInt8.lt_iff_toNat_lt, UInt8.lt_iff_toNat_lt, ← UInt8.toNat_inj]
      omega
    rcases tri with h | rfl | h
    · exact .inl (.inl h)
    · rcases ltS_total x y with h | rfl | h
      · exact .inl (.inr ⟨rfl, h⟩)
      · exact .inr (.inl rfl)
      · exact .inr (.inr (.inr ⟨rfl, h⟩))
    · exact .inr (.inr (.inl h))
theorem ltS_asymm {x y : Str} (h : ltS x y = true) : ltS y x = false := by
  cases hb : ltS y x
  · rfl
  · have := ltS_trans h hb; rw [ltS_irrefl] at this; cases this
/-- Not above: the same said in two ways. -/
theorem ltS_le (x y : Str) : (ltS x y || x == y) = !ltS y x := by
  rcases ltS_total x y with h | rfl | h
  · rw [h, ltS_asymm h]; rfl
  · rw [ltS_irrefl]; simp
  · rw [h, ltS_asymm h]
    have : (x == y) = false := by rw [beq_eq_false_iff_ne]; rintro rfl; rw [ltS_irrefl] at h; cases h
    rw [this]; rfl

/-! ### Sorted lists -/
/-- Rising at the place i. -/
def riseAt (ws : List Str) (i : Nat) : Bool := decide (i = 0) || ltS (ws.getD (i - 1) []) (ws.getD i [])
def riseB (ws : List Str) : Bool := allI (riseAt ws) 0 ws.length
theorem riseB_lt {ws : List Str} (h : riseB ws = true) : ∀ j i, i < j → j < ws.length → ltS (ws.getD i []) (ws.getD j []) = true := by
  have step : ∀ i, i + 1 < ws.length → ltS (ws.getD i []) (ws.getD (i + 1) []) = true := fun i hi => by
    have := allI_iff.1 h (i + 1) (by omega) (by omega)
    unfold riseAt at this
    rw [decide_eq_false (by omega), Bool.false_or] at this
    exact this
  intro j
  induction j with
  | zero => intro i h; omega
  | succ j ih =>
    intro i h1 h2
    rcases Nat.eq_or_lt_of_le (Nat.lt_succ_iff.1 h1) with rfl | h
    · exact step i h2
    · exact ltS_trans (ih i h (by omega)) (step j h2)
theorem increasing_eq (ws : List Str) (hl : ws.length ≤ 8000000000000000000) : m_impl_increasing ws = some (riseB ws) := by
  unfold m_impl_increasing
  have key : ∀ i : Nat, 1 ≤ i → i < ws.length → m_impl_increasing_l1 ws (i : Int) = some (bif riseAt ws i then .inl ((i : Int) + 1) else .inr (.inr false)) := by
    intro i h1 h2
    unfold m_impl_increasing_l1 riseAt
    rw [decide_eq_true (by omega : (i : Int) < ws.length), cond_true, chk_pred (by omega) (by omega), Option.bind_some, getL_getD (by omega) [], Option.bind_some, getL_getD h2 [], Option.bind_some, chk_succ (by omega), decide_eq_false (by omega : ¬ i = 0), Bool.false_or]
    cases ltS (ws.getD (i - 1) []) (ws.getD i []) <;> simp
  have hend : m_impl_increasing_l1 ws (ws.length : Int) = some (.inr (.inl ())) := by unfold m_impl_increasing_l1; rw [decide_eq_false (by omega)]; rfl
  have hrun : ∀ (k i : Nat), 1 ≤ i → i + k = ws.length → loopM (fun i : Int => m_impl_increasing_l1 ws i) (i : Int) = some (bif allI (riseAt ws) i k then .inl () else .inr false) := by
    intro k
    induction k with
    | zero => intro i _ h; rw [Nat.add_zero] at h; subst h; exact loopM_done hend
    | succ k ih =>
      intro i h1 h
      have h2 := key i h1 (by omega)
      rw [allI]
      cases hu : riseAt ws i with
      | true => rw [hu] at h2; rw [loopM_next h2]; simpa using ih (i + 1) (by omega) (by omega)
      | false => rw [hu] at h2; exact loopM_done h2
  cases hws : ws with
  | nil =>
    have : loopM (fun i : Int => m_impl_increasing_l1 [] i) 1 = some (.inl ()) := loopM_done (by unfold m_impl_increasing_l1; rfl)
    rw [this]; rfl
  | cons a t =>
    rw [← hws]
    have hpos : 1 ≤ ws.length := by rw [hws]; simp
    have := hrun (ws.length - 1) 1 (Nat.le_refl _) (by omega)
    rw [show ((1 : Nat) : Int) = 1 from rfl] at this
    rw [this]
    unfold riseB
    have e : allI (riseAt ws) 0 ws.length = allI (riseAt ws) 1 (ws.length - 1) := by
      rw [show ws.length = (ws.length - 1) + 1 by omega, allI]
      simp [riseAt]
    rw [e]
    cases allI (riseAt ws) 1 (ws.length - 1) <;> rfl

/-- The first place that is not below t. -/
def IsFirst (ws : List Str) (t : Str) (n : Nat) : Prop := n ≤ ws.length ∧ (∀ i, i < n → ltS (ws.getD i []) t = true) ∧ (n < ws.length → ltS (ws.getD n []) t = false)
theorem IsFirst.unique {ws : List Str} {t : Str} {n m : Nat} (h : IsFirst ws t n) (h' : IsFirst ws t m) : n = m := by
  rcases Nat.lt_trichotomy n m with hl | he | hl
  · have h1 := h'.2.1 n hl
    have h2 := h.2.2 (by have := h'.1; omega)
    rw [h1] at h2; cases h2
  · exact he
  · have h1 := h.2.1 m hl
    have h2 := h'.2.2 (by have := h.1; omega)
    rw [h1] at h2; cases h2

theorem firstS_eq (ws : List Str) (t : Str) (hl : ws.length ≤ 8000000000000000000) : ∃ n : Nat, m_spec_l05First ws t = some (n : Int) ∧ IsFirst ws t n := by
  obtain ⟨r, hr, n, rfl, hn⟩ := loopM_inv (step := fun s : Int => m_spec_l05First_l1 ws t s) (fun s => ∃ i : Nat, s = i ∧ i ≤ ws.length ∧ ∀ j, j < i → ltS (ws.getD j []) t = true) (fun s => (ws.length + 1 - s).toNat) (fun r => ∃ n : Nat, r = n ∧ IsFirst ws t n) (fun s hI => by
      obtain ⟨i, rfl, hi, hb⟩ := hI
      unfold m_spec_l05First_l1
      rcases Nat.lt_or_ge i ws.length with h | h
      · rw [decide_eq_true (by omega : (i : Int) < ws.length), cond_true, getL_getD h [], Option.bind_some, Option.bind_some]
        cases hlt : ltS (ws.getD i []) t
        · right
          exact ⟨_, rfl, i, rfl, by omega, hb, fun _ => hlt⟩
        · left
          rw [cond_true, chk_succ (by omega), Option.bind_some]
          refine ⟨_, rfl, ⟨i + 1, rfl, by omega, fun j hj => ?_⟩, by omega⟩
          rcases Nat.eq_or_lt_of_le (Nat.lt_succ_iff.1 hj) with rfl | h'
          · exact hlt
          · exact hb j h'
      · right
        rw [decide_eq_false (by omega)]
        exact ⟨_, rfl, i, rfl, by omega, hb, fun h' => by omega⟩) 0 ⟨0, rfl, by omega, fun j hj => by omega⟩
  refine ⟨n, ?_, hn⟩
  unfold m_spec_l05First
  rw [hr]
  rfl
/-- What a search in a sorted list tells. -/
theorem Less_eq (x y : Str) : m_cmp_Less_string x y = some (ltS x y) := by
  unfold m_cmp_Less_string m_cmp_isNaN_string
  simp
theorem binary_eq (ws : List Str) (t : Str) (hl : ws.length ≤ 1000000000) (hs : riseB ws = true) : ∃ n : Nat, IsFirst ws t n ∧ m_slices_BinarySearch_string_string ws t = some ((n : Int), decide (n < ws.length) && ws.getD n [] == t) := by
  obtain ⟨r, hr, n, rfl, hn⟩ := loopM_inv (step := fun s : Int × Int => m_slices_BinarySearch_string_string_l1 ws t s.1 s.2) (fun s => ∃ i j : Nat, s = ((i : Int), (j : Int)) ∧ i ≤ j ∧ j ≤ ws.length ∧ (∀ k, k < i → ltS (ws.getD k []) t = true) ∧ (j < ws.length → ltS (ws.getD j []) t = false)) (fun s => (s.2 - s.1).toNat) (fun r => ∃ n : Nat, r = n ∧ IsFirst ws t n) (fun s hI => by
      obtain ⟨i, j, rfl, hij, hj, h1, h2⟩ := hI
      show (∃ s', m_slices_BinarySearch_string_string_l1 ws t (i : Int) (j : Int) = some (.inl s') ∧ _) ∨ (∃ r, m_slices_BinarySearch_string_string_l1 ws t (i : Int) (j : Int) = some (.inr r) ∧ _)
      unfold m_slices_BinarySearch_string_string_l1
      rcases Nat.lt_or_ge i j with h | h
      · left
        have e : (((i : Int) + (j : Int)) % 18446744073709551616) / 2 = (((i + j) / 2 : Nat) : Int) := by omega
        have hm : (i + j) / 2 < ws.length := by omega
        rw [decide_eq_true (by omega : (i : Int) < (j : Int)), cond_true, chk_in (by omega) (by omega), Option.bind_some, e, chk_nat (by omega), Option.bind_some, getL_getD hm [], Option.bind_some, Less_eq, Option.bind_some]
        cases hlt : ltS (ws.getD ((i + j) / 2) []) t
        · refine ⟨((i : Int), (((i + j) / 2 : Nat) : Int)), rfl, ⟨i, (i + j) / 2, rfl, by omega, by omega, h1, fun _ => hlt⟩, by simp only; omega⟩
        · refine ⟨((((i + j) / 2 + 1 : Nat) : Int), (j : Int)), by simp only [cond_true, chk_succ (by omega : (i + j) / 2 ≤ 8000000000000000000), Option.bind_some], ⟨(i + j) / 2 + 1, j, rfl, by omega, hj, fun k hk => ?_, h2⟩, by simp only; omega⟩
          rcases Nat.eq_or_lt_of_le (Nat.lt_succ_iff.1 hk) with rfl | h'
          · exact hlt
          · exact ltS_trans (riseB_lt hs _ k h' hm) hlt
      · right
        obtain rfl : i = j := by omega
        rw [decide_eq_false (by omega)]
        exact ⟨_, rfl, i, rfl, hj, h1, h2⟩) (0, (ws.length : Int)) ⟨0, ws.length, rfl, by omega, by omega, fun k hk => by omega, fun h => by omega⟩
  refine ⟨n, hn, ?_⟩
  unfold m_slices_BinarySearch_string_string
  rw [hr]
  simp only [Option.bind_some]
  rcases Nat.lt_or_ge n ws.length with h | h
  · rw [decide_eq_true (by omega : (n : Int) < ws.length), cond_true, getL_getD h [], decide_eq_true h]
    simp only [Option.bind_some, Bool.true_and]
    cases ws.getD n [] == t
    · simp [m_slices_isNaN_string]
    · rfl
  · rw [decide_eq_false (by omega), decide_eq_false (by omega)]
    rfl

/-! ### Lexicons -/
def longB (s : Str) : Bool := decide (1 < s.length) && wordB s
theorem isLong_eq (s : Str) (hl : s.length ≤ 8000000000000000000) : m_impl_isLong s = some (longB s) := by
  unfold m_impl_isLong longB
  rw [IsWord_eq s hl, show decide (2 ≤ (s.length : Int)) = decide (1 < s.length) by rw [Bool.eq_iff_iff]; simp; omega]
  cases decide (1 < s.length) <;> rfl
theorem l05Long_eq (s : Str) (hl : s.length ≤ 8000000000000000000) : m_spec_l05Long s = some (longB s) := by
  unfold m_spec_l05Long longB
  rw [IsWordS_eq s hl, show decide (1 < (s.length : Int)) = decide (1 < s.length) by rw [Bool.eq_iff_iff]; simp; omega]
  cases decide (1 < s.length) <;> rfl
def lexB (l : Lexicon) : Bool := decide (l.Words.length ≤ 200) && riseB l.Words && l.Words.all longB
theorem ValidLexicon_eq (l : Lexicon) (hl : l.Words.length ≤ 1000000000) (hw : ∀ w ∈ l.Words, w.length ≤ 8000000000000000000) : m_impl_ValidLexicon l = some (lexB l) := by
  unfold m_impl_ValidLexicon lexB
  rw [increasing_eq l.Words (by omega)]
  by_cases h : l.Words.length ≤ 200
  · rw [decide_eq_false (by omega : ¬ 200 < (l.Words.length : Int)), decide_eq_true h]
    simp only [cond_false, Option.bind_some, Bool.true_and]
    cases riseB l.Words
    · rfl
    have hrun := loop_all (step := fun i : Int => m_impl_ValidLexicon_l1 l i) (fun i => (l.Words[i]?.map longB).getD true) l.Words.length (.inl () : Unit ⊕ Bool) (.inr false) (fun i hi => by
        unfold m_impl_ValidLexicon_l1
        rw [decide_eq_true (by omega : (i : Int) < l.Words.length), cond_true, getL_at hi, Option.bind_some, isLong_eq _ (hw _ (List.getElem_mem hi)), Option.bind_some, chk_succ (by omega), List.getElem?_eq_getElem hi, Option.map_some, Option.getD_some]
        cases longB l.Words[i] <;> rfl)
      (by unfold m_impl_ValidLexicon_l1; rw [decide_eq_false (by omega)]; rfl) l.Words.length 0 (by omega)
    rw [show ((0 : Nat) : Int) = 0 from rfl, all_idx] at hrun
    simp only [Bool.not_true, cond_false, hrun, Bool.true_and]
    cases l.Words.all longB <;> rfl
  · rw [decide_eq_true (by omega : 200 < (l.Words.length : Int)), decide_eq_false h]; rfl
theorem l05Ok_eq (l : Lexicon) (hl : l.Words.length ≤ 1000000000) (hw : ∀ w ∈ l.Words, w.length ≤ 8000000000000000000) : m_spec_l05Ok l = some (lexB l) := by
  unfold m_spec_l05Ok lexB
  have hrun := loop_all (step := fun i : Int => m_spec_l05Ok_l1 l i) (fun i => (l.Words[i]?.map longB).getD true && riseAt l.Words i) l.Words.length (.inl () : Unit ⊕ Bool) (.inr false) (fun i hi => by
      unfold m_spec_l05Ok_l1
      rw [decide_eq_true (by omega : (i : Int) < l.Words.length), cond_true, getL_at hi, Option.bind_some, l05Long_eq _ (hw _ (List.getElem_mem hi)), Option.bind_some, chk_succ (by omega), List.getElem?_eq_getElem hi, Option.map_some, Option.getD_some]
      cases longB l.Words[i]
      · rfl
      · rcases Nat.eq_zero_or_pos i with rfl | h0
        · simp [riseAt]
        · have ei : l.Words.getD i [] = l.Words[i] := by rw [List.getD_eq_getElem?_getD, List.getElem?_eq_getElem hi]; rfl
          unfold riseAt
          simp only [Bool.not_true, cond_false, decide_eq_true (by omega : (0 : Int) < (i : Int)), cond_true, Option.bind_some, chk_pred h0 (by omega), getL_getD (by omega : i - 1 < l.Words.length) [], ltS_le, decide_eq_false (by omega : ¬ i = 0), Bool.false_or, Bool.true_and, ei]
          cases ltS (l.Words.getD (i - 1) []) l.Words[i] <;> simp)
    (by unfold m_spec_l05Ok_l1; rw [decide_eq_false (by omega)]; rfl) l.Words.length 0 (by omega)
  have e : allI (fun i => (l.Words[i]?.map longB).getD true && riseAt l.Words i) 0 l.Words.length = (riseB l.Words && l.Words.all longB) := by
    unfold riseB
    rw [← all_idx longB l.Words, Bool.eq_iff_iff, Bool.and_eq_true, allI_iff, allI_iff, allI_iff]
    constructor
    · intro h; exact ⟨fun j a c => (Bool.and_eq_true_iff.1 (h j a c)).2, fun j a c => (Bool.and_eq_true_iff.1 (h j a c)).1⟩
    · rintro ⟨a, c⟩ j x y; exact Bool.and_eq_true_iff.2 ⟨c j x y, a j x y⟩
  rw [show ((0 : Nat) : Int) = 0 from rfl, e] at hrun
  rw [hrun, show decide ((l.Words.length : Int) ≤ 200) = decide (l.Words.length ≤ 200) by rw [Bool.eq_iff_iff]; simp; omega]
  cases riseB l.Words <;> cases l.Words.all longB <;> simp
theorem lexB_all {l : Lexicon} (h : lexB l = true) : l.Words.length ≤ 200 ∧ riseB l.Words = true ∧ ∀ w ∈ l.Words, w.all smB = true ∧ 2 ≤ w.length ∧ w.length ≤ 12 := by
  unfold lexB at h
  simp only [Bool.and_eq_true, decide_eq_true_eq] at h
  refine ⟨h.1.1, h.1.2, fun w hw => ?_⟩
  have := List.all_eq_true.1 h.2 w hw
  unfold longB at this
  simp only [Bool.and_eq_true, decide_eq_true_eq] at this
  obtain ⟨a, b, c⟩ := wordB_iff.1 this.2
  exact ⟨a, by omega, c⟩

/-- The same is found on both sides. -/
theorem has_eq (l : Lexicon) (t : Str) (hl : l.Words.length ≤ 1000000000) (hs : riseB l.Words = true) : ∃ v, m_impl_Lexicon_has l t = some v ∧ m_spec_l05Has l.Words t = some v := by
  obtain ⟨n, hn, hb⟩ := binary_eq l.Words t hl hs
  obtain ⟨m, hm, hf⟩ := firstS_eq l.Words t (by omega)
  obtain rfl := hn.unique hf
  refine ⟨decide (n < l.Words.length) && l.Words.getD n [] == t, ?_, ?_⟩
  · unfold m_impl_Lexicon_has; rw [hb]; rfl
  · unfold m_spec_l05Has
    rw [hm]
    simp only [Option.bind_some]
    rcases Nat.lt_or_ge n l.Words.length with h | h
    · rw [decide_eq_true (by omega : (n : Int) < l.Words.length), cond_true, getL_getD h [], decide_eq_true h]; rfl
    · rw [decide_eq_false (by omega), decide_eq_false (by omega)]; rfl

/-! ### What is chosen from a list -/
theorem loop_filter {α : Type} (p : α → Bool) (ws : List α) (step : List α → Int → Option ((List α × Int) ⊕ List α)) (hst : ∀ (xs : List α) (i : Nat) (hi : i < ws.length), xs.length ≤ i → step xs i = some (.inl ((bif p ws[i] then xs ++ [ws[i]] else xs), ((i + 1 : Nat) : Int)))) (hend : ∀ xs, step xs ws.length = some (.inr xs)) :
    loopM (fun s : List α × Int => step s.1 s.2) (([] : List α), 0) = some (ws.filter p) := by
  refine loop_run2 (step := fun s : List α × Int => step s.1 s.2) (fun i => ((ws.take i).filter p, (i : Int))) ws.length _ (fun i hi => ?_) ?_ rfl
  · show step ((ws.take i).filter p) (i : Int) = _
    rw [hst _ i hi (by have := List.length_filter_le p (ws.take i); rw [List.length_take] at this; omega), List.take_add_one, List.getElem?_eq_getElem hi, List.filter_append]
    cases hp : p ws[i] <;> simp [hp]
  · show step _ (ws.length : Int) = _
    rw [hend, List.take_length]
theorem selected_eq (ws : List Str) (hl : ws.length ≤ 1000000) (is : Str → Option Bool) (p : Str → Bool) (hp : ∀ w ∈ ws, is w = some (p w)) : m_impl_selected_string ws is = some (ws.filter p) := by
  unfold m_impl_selected_string
  rw [loop_filter p ws (m_impl_selected_string_l1 ws is) (fun xs i hi hx => by
      unfold m_impl_selected_string_l1
      rw [decide_eq_true (by omega : (i : Int) < ws.length), cond_true, getL_at hi, Option.bind_some, hp _ (List.getElem_mem hi), Option.bind_some, chk_succ (by omega), catL_of (by simp; omega)]
      cases p ws[i] <;> rfl) (fun xs => by unfold m_impl_selected_string_l1; rw [decide_eq_false (by omega)]; rfl)]
  rfl
theorem wordsS_eq {g : Grid} {R C : Nat} (e2 : g.Cols = C) (hR : R ≤ 5) (hC : C ≤ 5) (hl : g.Cells.length = R * C) {s : Slot} (hs : SlotIn R C s) (ws : List Str) (hn : ws.length ≤ 1000000) (hw : ∀ w ∈ ws, w.length ≤ 8000000000000000000) : m_spec_l25Words g ws s = some (ws.filter (fitB (patT g.Cells C s))) := by
  unfold m_spec_l25Words
  rw [patternS_rfl, pattern_eq e2 hR hC hl hs, Option.bind_some]
  rw [loop_filter (fitB (patT g.Cells C s)) ws (m_spec_l25Words_l1 ws (patT g.Cells C s)) (fun xs i hi hx => by
      unfold m_spec_l25Words_l1
      rw [decide_eq_true (by omega : (i : Int) < ws.length), cond_true, getL_at hi, Option.bind_some, l25Fits_eq _ _ (hw _ (List.getElem_mem hi)), Option.bind_some, Option.bind_some, chk_succ (by omega), catL_of (by simp; omega)]
      cases fitB (patT g.Cells C s) ws[i] <;> rfl) (fun xs => by unfold m_spec_l25Words_l1; rw [decide_eq_false (by omega)]; rfl)]
  rfl
theorem candidates_eq {g : Grid} {R C : Nat} (e2 : g.Cols = C) (hR : R ≤ 5) (hC : C ≤ 5) (hl : g.Cells.length = R * C) {s : Slot} (hs : SlotIn R C s) (l : Lexicon) (hlex : lexB l = true) : m_impl_Grid_candidates g l s = some (l.Words.filter (fitB (patT g.Cells C s))) := by
  obtain ⟨h1, h2, h3⟩ := lexB_all hlex
  unfold m_impl_Grid_candidates
  rw [pattern_eq e2 hR hC hl hs, Option.bind_some, selected_eq l.Words (by omega) _ (fitB (patT g.Cells C s)) (fun w hw => by
    unfold m_impl_Grid_candidates_1
    rw [fitsPattern_eq _ w (h3 w hw).1]
    rfl)]
  rfl

/-! ### Lexicons among a law's arguments -/
theorem lex_small {l : Lexicon} (h : bulk_Lexicon l ≤ 1048576) : l.Words.length ≤ 1048576 ∧ ∀ w ∈ l.Words, w.length ≤ 1048576 := by
  unfold bulk_Lexicon bulk_StringS at h
  refine ⟨by omega, fun w hw => ?_⟩
  have := bulkS_mem (fun e : Str => e.length) hw
  try simp only at this
  omega

end Go.Proofs.Ytgmikhdealhlfaa
