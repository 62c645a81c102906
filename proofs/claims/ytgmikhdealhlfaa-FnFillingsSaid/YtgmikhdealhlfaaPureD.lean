/- Words: what a word is, what fits a pattern, a word put into a slot. -/
import Derived.Test.YtgmikhdealhlfaaPureC
namespace Go.Proofs.Ytgmikhdealhlfaa
open Go Go.RowKit
set_option linter.unusedSimpArgs false
set_option linter.unusedVariables false

def wordB (s : Str) : Bool := s.all smB && inB s.length 1 12
theorem wordB_iff {s : Str} : wordB s = true ↔ s.all smB = true ∧ 1 ≤ s.length ∧ s.length ≤ 12 := by
  unfold wordB
  rw [Bool.and_eq_true, inB_iff]
  constructor <;> intro h <;> exact ⟨h.1, by omega, by omega⟩
theorem smB_lt {c : UInt8} (h : smB c = true) : c.toNat < 128 := by
  unfold smB at h
  simp only [Bool.and_eq_true, decide_eq_true_eq] at h
  have := UInt8.le_iff_toNat_le.1 h.2
  have e : (122 : UInt8).toNat = 122 := rfl
  omega
theorem IsWordS_eq (s : Str) (hl : s.length ≤ 8000000000000000000) : m_spec_IsWord s = some (wordB s) := by
  unfold m_spec_IsWord wordB
  have h := loop_all (step := fun i : Int => m_spec_IsWord_l1 s i) (fun i => (s[i]?.map smB).getD true) s.length (.inl () : Unit ⊕ Bool) (.inr false) (fun i hi => by
      unfold m_spec_IsWord_l1
      rw [decide_eq_true (by omega : (i : Int) < s.length), cond_true, getL_at hi, Option.bind_some, l01Small_eq, Option.bind_some, chk_succ (by omega), List.getElem?_eq_getElem hi, Option.map_some, Option.getD_some]
      cases smB s[i] <;> rfl)
    (by unfold m_spec_IsWord_l1; rw [decide_eq_false (by omega)]; rfl) s.length 0 (by omega)
  rw [show ((0 : Nat) : Int) = 0 from rfl, all_idx] at h
  rw [h, l00In_eq]
  cases s.all smB <;> rfl
theorem IsWord_eq (s : Str) (hl : s.length ≤ 8000000000000000000) : m_impl_IsWord s = some (wordB s) := by
  unfold m_impl_IsWord wordB m_impl_onlySmall
  have h := loop_all (step := fun i : Int => m_impl_onlySmall_l1 s i) (fun i => (s[i]?.map smB).getD true) s.length (.inl () : Unit ⊕ Bool) (.inr false) (fun i hi => by
      unfold m_impl_onlySmall_l1
      rw [decide_eq_true (by omega : (i : Int) < s.length), cond_true, getL_at hi, Option.bind_some, small_eq, Option.bind_some, chk_succ (by omega), List.getElem?_eq_getElem hi, Option.map_some, Option.getD_some]
      cases smB s[i] <;> rfl)
    (by unfold m_impl_onlySmall_l1; rw [decide_eq_false (by omega)]; rfl) s.length 0 (by omega)
  rw [show ((0 : Nat) : Int) = 0 from rfl, all_idx] at h
  rw [h]
  unfold inB
  by_cases h1 : 1 ≤ (s.length : Int)
  · by_cases h2 : (s.length : Int) ≤ 12
    · rw [decide_eq_true h1, decide_eq_true h2]; cases s.all smB <;> rfl
    · rw [decide_eq_true h1, decide_eq_false h2]; cases s.all smB <;> rfl
  · rw [decide_eq_false h1]; cases s.all smB <;> rfl

/-- What fits at a place. -/
def fitC (p w : Str) (i : Nat) : Bool := match p[i]?, w[i]? with
  | some a, some b => a == 46 || a == b
  | _, _ => true
def fitB (p w : Str) : Bool := decide (p.length = w.length) && allI (fitC p w) 0 w.length
theorem l25Fits_eq (p w : Str) (hl : w.length ≤ 8000000000000000000) : m_spec_l25Fits p w = some (fitB p w) := by
  unfold m_spec_l25Fits fitB
  by_cases hpw : p.length = w.length
  · rw [show ((p.length : Int) != (w.length : Int)) = false by simp [hpw], cond_false, decide_eq_true hpw]
    have h := loop_all (step := fun i : Int => m_spec_l25Fits_l1 w p i) (fitC p w) w.length (.inl () : Unit ⊕ Bool) (.inr false) (fun i hi => by
        have hi' : i < p.length := by omega
        unfold m_spec_l25Fits_l1 fitC
        simp only [decide_eq_true (by omega : (i : Int) < w.length), cond_true, getL_at hi, getL_at hi', Option.bind_some, chk_succ (by omega : i ≤ 8000000000000000000), List.getElem?_eq_getElem hi, List.getElem?_eq_getElem hi', bne]
        cases p[i] == 46 <;> cases p[i] == w[i] <;> rfl)
      (by unfold m_spec_l25Fits_l1; rw [decide_eq_false (by omega)]; rfl) w.length 0 (by omega)
    rw [show ((0 : Nat) : Int) = 0 from rfl] at h
    rw [h]
    cases allI (fitC p w) 0 w.length <;> rfl
  · rw [show ((p.length : Int) != (w.length : Int)) = true by rw [bne_iff_ne]; omega, cond_true, decide_eq_false hpw]
    rfl
theorem small_rune {w : Str} (hw : w.all smB = true) {i : Nat} (hi : i < w.length) : runeW w i = 1 := (rune_small hi (smB_lt (List.all_eq_true.1 hw _ (List.getElem_mem hi)))).2
/-- A loop over the places of a word of small letters. -/
theorem pos_all {ρ : Type} {step : Nat → Option (Nat ⊕ (Nat ⊕ ρ))} (p : Nat → Bool) (n : Nat) (no : ρ) (hlt : ∀ i : Nat, i < n → step i = some (bif p i then .inl (i + 1) else .inr (.inr no))) (hend : step n = some (.inr (.inl n))) :
    ∀ (k i : Nat), i + k = n → loopM step i = some (bif allI p i k then .inl n else .inr no)
  | 0, i, h => by
    rw [Nat.add_zero] at h
    subst h
    exact loopM_done hend
  | k + 1, i, h => by
    have h1 := hlt i (by omega)
    rw [allI]
    cases hp : p i with
    | true =>
      rw [hp] at h1
      have := pos_all p n no hlt hend k (i + 1) (by omega)
      rw [loopM_next h1]
      simpa using this
    | false =>
      rw [hp] at h1
      exact loopM_done h1
theorem fitsPattern_eq (p w : Str) (hw : w.all smB = true) : m_impl_fitsPattern p w = some (fitB p w) := by
  unfold m_impl_fitsPattern fitB
  by_cases hpw : p.length = w.length
  · rw [show ((p.length : Int) != (w.length : Int)) = false by simp [hpw], cond_false, decide_eq_true hpw]
    have h := pos_all (step := fun i : Nat => m_impl_fitsPattern_l1 w p i) (fitC p w) w.length false (fun i hi => by
        have hi' : i < p.length := by omega
        unfold m_impl_fitsPattern_l1 fitC
        simp only [decide_eq_true hi, cond_true, getL_at hi, getL_at hi', Option.bind_some, small_rune hw hi, List.getElem?_eq_getElem hi, List.getElem?_eq_getElem hi', bne]
        cases p[i] == 46 <;> cases p[i] == w[i] <;> rfl)
      (by unfold m_impl_fitsPattern_l1; rw [decide_eq_false (by omega)]; rfl) w.length 0 (by omega)
    rw [h]
    cases allI (fitC p w) 0 w.length <;> rfl
  · rw [show ((p.length : Int) != (w.length : Int)) = true by rw [bne_iff_ne]; omega, cond_true, decide_eq_false hpw]
    rfl

/-- The cells with the first n letters of a word put into a slot. -/
def putN (C : Nat) (s : Slot) (w : Str) : Nat → Str → Str
  | 0, cs => cs
  | n + 1, cs => (putN C s w n cs).set (sqT C s n) (w.getD n 0)
theorem putN_len (C : Nat) (s : Slot) (w cs : Str) : ∀ n, (putN C s w n cs).length = cs.length
  | 0 => rfl
  | n + 1 => by rw [putN, List.length_set, putN_len C s w cs n]
def putT (g : Grid) (s : Slot) (w : Str) : Grid := ⟨g.Rows, g.Cols, putN g.Cols.toNat s w w.length g.Cells⟩
theorem putI_eq {g : Grid} {R C : Nat} (e2 : g.Cols = C) (hR : R ≤ 5) (hC : C ≤ 5) (hl : g.Cells.length = R * C) {s : Slot} (hs : SlotIn R C s) {w : Str} (hw : w.all smB = true) (hn : (w.length : Int) = s.Length) : m_impl_Grid_put g s w = some (putT g s w) := by
  unfold m_impl_Grid_put
  have h := loop_run2 (step := fun x : Nat × Str => m_impl_Grid_put_l1 w g s x.1 x.2) (fun i => (i, putN C s w i g.Cells)) w.length (w.length, putN C s w w.length g.Cells) (fun i hi => by
      obtain ⟨h1, h2⟩ := index_eq e2 hR hC hs (k := i) (by omega)
      have hlen := putN_len C s w g.Cells i
      show m_impl_Grid_put_l1 w g s i (putN C s w i g.Cells) = _
      unfold m_impl_Grid_put_l1
      rw [decide_eq_true hi, cond_true, getL_getD hi 0, Option.bind_some, h1, Option.bind_some, getL_at (by omega), Option.bind_some, setL_of (by omega), Option.bind_some, small_rune hw hi]
      rfl) (by
      show m_impl_Grid_put_l1 w g s w.length _ = _
      unfold m_impl_Grid_put_l1
      rw [decide_eq_false (by omega)]
      rfl) (s0 := (0, g.Cells)) rfl
  rw [h]
  unfold putT
  rw [e2]
  rfl
theorem putS_eq {g : Grid} {R C : Nat} (e2 : g.Cols = C) (hR : R ≤ 5) (hC : C ≤ 5) (hl : g.Cells.length = R * C) {s : Slot} (hs : SlotIn R C s) {w : Str} (hn : (w.length : Int) = s.Length) : m_spec_l25Put g s w = some (putT g s w) := by
  obtain ⟨n, en, _, h5⟩ := hs.len hR hC
  unfold m_spec_l25Put
  have h := loop_run2 (step := fun x : Str × Int => m_spec_l25Put_l1 s w g x.1 x.2) (fun i => (putN C s w i g.Cells, (i : Int))) w.length (putN C s w w.length g.Cells) (fun i hi => by
      obtain ⟨h1, h2⟩ := index_eq e2 hR hC hs (k := i) (by omega)
      have hlen := putN_len C s w g.Cells i
      show m_spec_l25Put_l1 s w g (putN C s w i g.Cells) (i : Int) = _
      unfold m_spec_l25Put_l1
      rw [decide_eq_true (by omega), cond_true, getL_getD hi 0, Option.bind_some, show m_spec_l25Square g s (i : Int) = m_impl_Grid_index g s i from rfl, h1, Option.bind_some, getL_at (by omega), Option.bind_some, setL_of (by omega), Option.bind_some, chk_succ (by omega)]
      rfl) (by
      show m_spec_l25Put_l1 s w g _ (w.length : Int) = _
      unfold m_spec_l25Put_l1
      rw [decide_eq_false (by omega)]
      rfl) (s0 := (g.Cells, 0)) rfl
  rw [h]
  unfold putT
  rw [e2]
  rfl

end Go.Proofs.Ytgmikhdealhlfaa
