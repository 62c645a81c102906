/- Fillings of grids: what the models of both searches compute. -/
import Derived.Test.YtgmikhdealhlfaaPureFb
import Derived.Test.YtgmikhdealhlfaaPureF
namespace Go.Proofs.Ytgmikhdealhlfaa
open Go Go.RowKit
set_option linter.unusedSimpArgs false
set_option linter.unusedVariables false

/-- A loop that looks for the first place at which a test holds. -/
theorem loop_find {α ρ : Type} (q : α → Bool) (l : List α) {step : Int → Option (Int ⊕ ρ)} (hit : Nat → ρ) (miss : ρ) (hlt : ∀ i (hi : i < l.length), step (i : Int) = some (bif q l[i] then .inr (hit i) else .inl ((i + 1 : Nat) : Int))) (hend : step (l.length : Int) = some (.inr miss)) :
    loopM step 0 = some (match l.findIdx? q with | some i => hit i | none => miss) := by
  have key : ∀ (k i : Nat), i + k = l.length → loopM step (i : Int) = some (match (l.drop i).findIdx? q with | some j => hit (i + j) | none => miss) := by
    intro k
    induction k with
    | zero =>
      intro i h
      obtain rfl : i = l.length := by omega
      rw [List.drop_length]
      exact loopM_done hend
    | succ k ih =>
      intro i h
      have hi : i < l.length := by omega
      have h1 := hlt i hi
      rw [List.drop_eq_getElem_cons hi, List.findIdx?_cons]
      cases hq : q l[i] with
      | true =>
        rw [hq] at h1
        exact loopM_done h1
      | false =>
        rw [hq] at h1
        rw [loopM_next h1, ih (i + 1) (by omega)]
        cases (l.drop (i + 1)).findIdx? q with
        | none => rfl
        | some j => simp only [Bool.false_eq_true, if_false, Option.map_some]; rw [show i + 1 + j = i + (j + 1) by omega]
  have := key l.length 0 (by omega)
  simpa using this
def idxI {α : Type} (q : α → Bool) (l : List α) : Int := match l.findIdx? q with
  | some i => (i : Int)
  | none => -1
theorem findIdx_find {α : Type} (q : α → Bool) : ∀ l : List α, (∀ i, l.findIdx? q = some i → ∃ h : i < l.length, q l[i] = true ∧ l.find? q = some l[i]) ∧ (l.findIdx? q = none → l.find? q = none)
  | [] => ⟨fun i h => (by cases h), fun _ => rfl⟩
  | x :: l => by
    obtain ⟨h1, h2⟩ := findIdx_find q l
    rw [List.findIdx?_cons, List.find?_cons]
    cases hq : q x with
    | true =>
      refine ⟨fun i h => ?_, fun h => by cases h⟩
      cases h
      exact ⟨by simp, hq, rfl⟩
    | false =>
      simp only [Bool.false_eq_true, if_false]
      refine ⟨fun i h => ?_, fun h => ?_⟩
      · cases hf : l.findIdx? q with
        | none => rw [hf] at h; cases h
        | some j =>
          rw [hf] at h
          obtain rfl : j + 1 = i := Option.some.inj h
          obtain ⟨hj, e1, e2⟩ := h1 j hf
          exact ⟨by simpa using hj, by simpa using e1, by simpa using e2⟩
      · cases hf : l.findIdx? q with
        | none => exact h2 hf
        | some j => rw [hf] at h; cases h
theorem idxI_cases {α : Type} (q : α → Bool) (l : List α) : (idxI q l = -1 ∧ l.find? q = none ∧ l.any q = false) ∨ ∃ i : Nat, idxI q l = i ∧ ∃ h : i < l.length, q l[i] = true ∧ l.find? q = some l[i] ∧ l.any q = true := by
  obtain ⟨h1, h2⟩ := findIdx_find q l
  unfold idxI
  cases hf : l.findIdx? q with
  | none =>
    refine .inl ⟨rfl, h2 hf, ?_⟩
    have := h2 hf
    rw [List.find?_eq_none] at this
    rw [List.any_eq_false]
    exact this
  | some i =>
    obtain ⟨h, e1, e2⟩ := h1 i hf
    exact .inr ⟨i, rfl, h, e1, e2, List.any_eq_true.2 ⟨_, List.getElem_mem h, e1⟩⟩
theorem countP_lt {α : Type} {p q : α → Bool} : ∀ {l : List α}, (∀ x ∈ l, q x = true → p x = true) → (∃ x ∈ l, p x = true ∧ q x = false) → l.countP q < l.countP p
  | [], _, ⟨x, hx, _⟩ => by cases hx
  | y :: l, h, ⟨x, hx, h1, h2⟩ => by
    have hle : l.countP q ≤ l.countP p := List.countP_mono_left fun z hz => h z (List.mem_cons_of_mem _ hz)
    rw [List.countP_cons, List.countP_cons]
    rcases List.mem_cons.1 hx with rfl | hx
    · rw [h1, h2]; simp; omega
    · have ih := countP_lt (fun z hz => h z (List.mem_cons_of_mem _ hz)) ⟨x, hx, h1, h2⟩
      have hy := h y List.mem_cons_self
      cases hq : q y
      · simp; split <;> omega
      · rw [hy hq]; simp; omega
theorem take_take_append {α : Type} (a b : List α) (m : Nat) : (a.take m ++ b).take m = (a ++ b).take m := by
  rcases Nat.lt_or_ge a.length m with h | h
  · rw [List.take_of_length_le (by omega : a.length ≤ m)]
  · rw [List.take_append_of_le_length (by rw [List.length_take]; omega), List.take_append_of_le_length h, List.take_take, Nat.min_self]
/-- Data handed on to a visitor that may stop. -/
def visitL {σ α : Type} (yv : α → σ → Option (Bool × σ)) : List α → σ → Option (Bool × σ)
  | [], s => some (true, s)
  | x :: xs, s => (yv x s).bind fun r => bif r.1 then visitL yv xs r.2 else some (false, r.2)
theorem visitL_append {σ α : Type} (yv : α → σ → Option (Bool × σ)) : ∀ (xs ys : List α) (s : σ) (r : Bool × σ), visitL yv (xs ++ ys) s = some r → (visitL yv xs s = some (false, r.2) ∧ r.1 = false) ∨ ∃ s', visitL yv xs s = some (true, s') ∧ visitL yv ys s' = some r
  | [], ys, s, r, h => .inr ⟨s, rfl, h⟩
  | x :: xs, ys, s, r, h => by
    rw [List.cons_append, visitL] at h
    obtain ⟨z, hz, h⟩ := Option.bind_eq_some_iff.1 h
    cases hb : z.1 with
    | false =>
      rw [hb, cond_false] at h
      obtain rfl := Option.some.inj h
      refine .inl ⟨?_, rfl⟩
      rw [visitL, hz, Option.bind_some, hb]
      rfl
    | true =>
      rw [hb, cond_true] at h
      rw [visitL, hz, Option.bind_some, hb, cond_true]
      exact visitL_append yv xs ys z.2 r h

section
variable {R C : Nat} (hR : R ≤ 5) (hC : C ≤ 5) {sl : List Slot} {l : Lexicon} (hlex : lexB l = true)
include hlex in
theorem lex_ok : WordsOk l.Words := by
  obtain ⟨h1, h2, h3⟩ := lexB_all hlex
  refine ⟨?_, fun w hw => ?_⟩
  · rw [List.nodup_iff_pairwise_ne, List.pairwise_iff_getElem]
    intro i j hi hj hij e
    have := riseB_lt h2 j i hij hj
    rw [List.getD_eq_getElem?_getD, List.getD_eq_getElem?_getD, List.getElem?_eq_getElem hi, List.getElem?_eq_getElem hj, Option.getD_some, Option.getD_some, e, ltS_irrefl] at this
    cases this
  · obtain ⟨q1, q2, q3⟩ := h3 w hw
    exact wordB_iff.2 ⟨q1, by omega, q3⟩
theorem cand_le (g : Grid) (s : Slot) : (candT l.Words C g s).length ≤ l.Words.length := List.length_filter_le _ _
def deadT (l : Lexicon) (C : Nat) (g : Grid) (s : Slot) : Bool := (candT l.Words C g s).isEmpty
include hR hC hlex
theorem possible_eq {g : Grid} (hg : ShapeT R C sl g) (hsl : sl.length ≤ 50) : m_impl_Grid_possible g l sl = some (!deadF sl (candT l.Words C) g) := by
  obtain ⟨h1, h2, h3⟩ := lexB_all hlex
  unfold m_impl_Grid_possible
  rw [loop_find (deadT l C g) sl (fun _ => (.inr false : Unit ⊕ Bool)) (.inl ()) (fun i hi => by
      have hin := shape_slot hg (List.getElem_mem hi)
      obtain ⟨g1, g2, g3, g4, g5⟩ := hg
      unfold m_impl_Grid_possible_l1
      have hcf : m_slices_ContainsFunc_string_string l.Words (fun u64 => m_impl_Grid_possible_1 u64 (patT g.Cells C sl[i])) = some (!deadT l C g sl[i]) := by
        unfold m_slices_ContainsFunc_string_string m_slices_IndexFunc_string_string
        rw [loop_find (fitB (patT g.Cells C sl[i])) l.Words (fun i => (.inr (i : Int) : Unit ⊕ Int)) (.inl ()) (fun j hj => by
            unfold m_slices_IndexFunc_string_string_l1 m_impl_Grid_possible_1
            rw [decide_eq_true (by omega : (j : Int) < l.Words.length), cond_true, getL_at hj, Option.bind_some]
            dsimp only
            rw [fitsPattern_eq _ _ (h3 _ (List.getElem_mem hj)).1, Option.bind_some, Option.bind_some, chk_succ (by omega)]
            cases fitB (patT g.Cells C sl[i]) l.Words[j] <;> rfl)
          (by unfold m_slices_IndexFunc_string_string_l1; rw [decide_eq_false (by omega)]; rfl), Option.bind_some]
        have hc := idxI_cases (fitB (patT g.Cells C sl[i])) l.Words
        have hd : (!deadT l C g sl[i]) = l.Words.any (fitB (patT g.Cells C sl[i])) := by
          unfold deadT candT
          rw [Bool.eq_iff_iff, Bool.not_eq_true', List.any_eq_true]
          constructor
          · intro h
            obtain ⟨w, hw⟩ := List.exists_mem_of_ne_nil (l.Words.filter (fitB (patT g.Cells C sl[i]))) (fun e => by rw [e] at h; cases h)
            exact ⟨w, (List.mem_filter.1 hw).1, (List.mem_filter.1 hw).2⟩
          · rintro ⟨w, hw, hf⟩
            have : w ∈ l.Words.filter (fitB (patT g.Cells C sl[i])) := List.mem_filter.2 ⟨hw, hf⟩
            cases hx : l.Words.filter (fitB (patT g.Cells C sl[i])) with
            | nil => rw [hx] at this; cases this
            | cons a b => rfl
        rw [hd]
        unfold idxI at hc
        cases hf : l.Words.findIdx? (fitB (patT g.Cells C sl[i])) with
        | none =>
          rw [hf] at hc
          rcases hc with ⟨_, _, e⟩ | ⟨i', e, _⟩
          · rw [e]; rfl
          · simp only at e; omega
        | some j =>
          rw [hf] at hc
          rcases hc with ⟨e, _⟩ | ⟨i', _, _, _, _, e⟩
          · simp only at e; omega
          · rw [e]
            simp only [Option.bind_some]
            rw [decide_eq_true (by omega)]
      rw [decide_eq_true (by omega : (i : Int) < sl.length), cond_true, getL_at hi, Option.bind_some, pattern_eq g3 hR hC g4 hin, Option.bind_some, hcf, Option.bind_some, chk_succ (by omega)]
      cases deadT l C g sl[i] <;> rfl)
    (by unfold m_impl_Grid_possible_l1; rw [decide_eq_false (by omega)]; rfl), Option.bind_some]
  have hc := idxI_cases (deadT l C g) sl
  have hd : deadF sl (candT l.Words C) g = sl.any (deadT l C g) := rfl
  rw [hd]
  unfold idxI at hc
  cases hf : sl.findIdx? (deadT l C g) with
  | none =>
    rw [hf] at hc
    rcases hc with ⟨_, _, e⟩ | ⟨i', e, _⟩
    · rw [e]; rfl
    · simp only at e; omega
  | some j =>
    rw [hf] at hc
    rcases hc with ⟨e, _⟩ | ⟨i', _, _, _, _, e⟩
    · simp only at e; omega
    · rw [e]; rfl
/-- The program's search, visited. -/
theorem fill_eq {σ : Type} (yv : Grid → σ → Option (Bool × σ)) (hsl : sl.length ≤ 50) : ∀ (rest pre : List Slot) (g : Grid) (n : Nat) (s : σ) (r : Bool × σ), pre ++ rest = sl → ShapeT R C sl g → rest.length < n → visitL yv (progF sl (candT l.Words C) putT rest g) s = some r → m_impl_Grid_fillings_1_1_n n g (pre.length : Int) sl l yv s = some r := by
  intro rest
  induction rest with
  | nil =>
    intro pre g n s r hp hg hn h
    obtain ⟨n, rfl⟩ : ∃ m, n = m + 1 := ⟨n - 1, by simp at hn; omega⟩
    rw [progF, visitL] at h
    obtain ⟨z, hz, h⟩ := Option.bind_eq_some_iff.1 h
    have hr : r = z := by
      cases hb : z.1
      · rw [hb, cond_false] at h
        rw [← Option.some.inj h, ← hb]
      · rw [hb, cond_true, visitL] at h
        rw [← Option.some.inj h, ← hb]
    subst hr
    show m_impl_Grid_fillings_1_1_b (m_impl_Grid_fillings_1_1_n n) g (pre.length : Int) sl l yv s = _
    unfold m_impl_Grid_fillings_1_1_b
    rw [beq_iff_eq.2 (by rw [← hp]; simp), cond_true, hz]
    rfl
  | cons x rest ihr =>
    intro pre g n s r hp hg hn h
    obtain ⟨n, rfl⟩ : ∃ m, n = m + 1 := ⟨n - 1, by simp at hn; omega⟩
    have hpl : pre.length < sl.length := by rw [← hp]; simp
    have hx : sl[pre.length] = x := by
      subst hp
      simp
    have hxs : x ∈ sl := by rw [← hx]; exact List.getElem_mem _
    have hin := shape_slot hg hxs
    obtain ⟨l1, l2, l3⟩ := lexB_all hlex
    have hws := lex_ok hlex
    have hlen := cand_le (C := C) (l := l) g x
    show m_impl_Grid_fillings_1_1_b (m_impl_Grid_fillings_1_1_n n) g (pre.length : Int) sl l yv s = _
    unfold m_impl_Grid_fillings_1_1_b
    have hcand : m_impl_Grid_candidates g l x = some (candT l.Words C g x) := candidates_eq hg.2.2.1 hR hC hg.2.2.2.1 hin l hlex
    rw [beq_eq_false_iff_ne.2 (by omega), cond_false, getL_at hpl, hx, Option.bind_some, hcand, Option.bind_some]
    rw [progF] at h
    have key : ∀ (d i : Nat) (s : σ), i + d = (candT l.Words C g x).length → visitL yv (((candT l.Words C g x).drop i).flatMap fun w => if deadF sl (candT l.Words C) (putT g x w) = true then [] else progF sl (candT l.Words C) putT rest (putT g x w)) s = some r →
        loopM (fun q : σ × Int => m_impl_Grid_fillings_1_1_l1 (candT l.Words C g x) sl (pre.length : Int) g l (m_impl_Grid_fillings_1_1_n n) yv q.1 q.2) (s, (i : Int)) = some (bif r.1 then .inl r.2 else .inr (false, r.2)) := by
      intro d
      induction d with
      | zero =>
        intro i s hi h
        rw [List.drop_eq_nil_of_le (by omega)] at h
        obtain rfl := Option.some.inj (show some (true, s) = some r from h)
        refine loopM_done ?_
        show m_impl_Grid_fillings_1_1_l1 _ sl _ g l _ yv s (i : Int) = _
        unfold m_impl_Grid_fillings_1_1_l1
        rw [decide_eq_false (by omega)]
        rfl
      | succ d ih =>
        intro i s hi h
        have hi' : i < (candT l.Words C g x).length := by omega
        have hw := List.getElem_mem hi'
        obtain ⟨hm, hfit⟩ := List.mem_filter.1 hw
        obtain ⟨hshape, _⟩ := put_shape hR hC hws hg hxs hw
        obtain ⟨_, nn, hn1, hn2⟩ := put_ref hR hC hws hg hxs hw
        rw [List.drop_eq_getElem_cons hi', List.flatMap_cons] at h
        have hput : m_impl_Grid_put g x (candT l.Words C g x)[i] = some (putT g x (candT l.Words C g x)[i]) := putI_eq hg.2.2.1 hR hC hg.2.2.2.1 hin (l3 _ hm).1 (by rw [hn1, hn2])
        rcases visitL_append yv _ _ s r h with ⟨h1, h2⟩ | ⟨s', h1, h2⟩
        · -- it stops here
          by_cases hd : deadF sl (candT l.Words C) (putT g x (candT l.Words C g x)[i]) = true
          · rw [if_pos hd] at h1
            cases h1
          rw [if_neg hd] at h1
          have hrec := ihr (pre ++ [x]) _ n s _ (by rw [List.append_assoc]; exact hp) hshape (by simp at hn; omega) h1
          rw [h2, cond_false]
          refine loopM_done ?_
          show m_impl_Grid_fillings_1_1_l1 (candT l.Words C g x) sl (pre.length : Int) g l (m_impl_Grid_fillings_1_1_n n) yv s (i : Int) = _
          unfold m_impl_Grid_fillings_1_1_l1
          rw [List.length_append, List.length_singleton] at hrec
          rw [decide_eq_true (by omega), cond_true, getL_at hi', Option.bind_some, getL_at hpl, hx, Option.bind_some, hput, Option.bind_some, possible_eq hR hC hlex hshape hsl, Option.bind_some, (by simpa using hd : deadF sl (candT l.Words C) (putT g x (candT l.Words C g x)[i]) = false), Bool.not_false, cond_true, chk_succ (by omega), Option.bind_some, hrec]
          rfl
        · rw [← ih (i + 1) s' (by omega) h2]
          refine loopM_next ?_
          show m_impl_Grid_fillings_1_1_l1 (candT l.Words C g x) sl (pre.length : Int) g l (m_impl_Grid_fillings_1_1_n n) yv s (i : Int) = _
          unfold m_impl_Grid_fillings_1_1_l1
          rw [decide_eq_true (by omega), cond_true, getL_at hi', Option.bind_some, getL_at hpl, hx, Option.bind_some, hput, Option.bind_some, possible_eq hR hC hlex hshape hsl, Option.bind_some]
          by_cases hd : deadF sl (candT l.Words C) (putT g x (candT l.Words C g x)[i]) = true
          · rw [if_pos hd] at h1
            obtain rfl := (Prod.mk.inj (Option.some.inj (show some (true, s) = some (true, s') from h1))).2
            rw [hd, Bool.not_true, cond_false, Option.bind_some, chk_succ (i := i) (by omega)]
            rfl
          · rw [if_neg hd] at h1
            have hrec := ihr (pre ++ [x]) _ n s _ (by rw [List.append_assoc]; exact hp) hshape (by simp at hn; omega) h1
            rw [List.length_append, List.length_singleton] at hrec
            rw [(by simpa using hd : deadF sl (candT l.Words C) (putT g x (candT l.Words C g x)[i]) = false), Bool.not_false, cond_true, chk_succ (i := pre.length) (by omega), Option.bind_some, hrec, Option.bind_some, Option.bind_some, chk_succ (i := i) (by omega)]
            rfl
    have hk := key (candT l.Words C g x).length 0 s (by omega) (by rw [List.drop_zero]; exact h)
    rw [show ((0 : Nat) : Int) = 0 from rfl] at hk
    rw [hk, Option.bind_some]
    obtain ⟨b, s'⟩ := r
    cases b <;> rfl
end

end Go.Proofs.Ytgmikhdealhlfaa
