/- Grids, boards, racks: what valid means, on both sides. -/
import Derived.Test.YtgmikhdealhlfaaPureT
import Derived.Lib.IndexLaws
namespace Go.Proofs.Ytgmikhdealhlfaa
open Go Go.RowKit
set_option linter.unusedSimpArgs false
set_option linter.unusedVariables false

theorem allBytes_eq (s : Str) (hl : s.length ≤ 8000000000000000000) (is : UInt8 → Option Bool) (p : UInt8 → Bool) (hp : ∀ c, is c = some (p c)) : m_impl_allBytes s is = some (s.all p) := by
  unfold m_impl_allBytes
  have h := loop_all (step := fun i : Int => m_impl_allBytes_l1 s is i) (fun i => (s[i]?.map p).getD true) s.length (.inl () : Unit ⊕ Bool) (.inr false) (fun i hi => by
      unfold m_impl_allBytes_l1
      rw [decide_eq_true (by omega : (i : Int) < s.length), cond_true, getL_at hi, Option.bind_some, hp, Option.bind_some, chk_succ (by omega), List.getElem?_eq_getElem hi, Option.map_some, Option.getD_some]
      cases p s[i] <;> rfl)
    (by unfold m_impl_allBytes_l1; rw [decide_eq_false (by omega)]; rfl) s.length 0 (by omega)
  rw [show ((0 : Nat) : Int) = 0 from rfl, all_idx] at h
  rw [h]
  cases s.all p <;> rfl
theorem prod_in {a b m : Int} (ha : 1 ≤ a) (ha' : a ≤ m) (hb : 1 ≤ b) (hb' : b ≤ m) : 1 ≤ a * b ∧ a * b ≤ m * m := by
  constructor
  · have := Int.mul_le_mul ha hb (by omega) (by omega : (0 : Int) ≤ a)
    omega
  · exact Int.mul_le_mul ha' hb' (by omega) (by omega)

def gridC (c : UInt8) : Bool := c == 35 || c == 46 || smB c
theorem gridByte_eq (c : UInt8) : m_impl_gridByte c = some (gridC c) := by
  unfold m_impl_gridByte gridC
  rw [small_eq]
  cases c == 35 <;> cases c == 46 <;> rfl
def gridB (g : Grid) : Bool := inB g.Rows 1 5 && inB g.Cols 1 5 && ((g.Cells.length : Int) == g.Rows * g.Cols) && g.Cells.all gridC
theorem gridB_iff {g : Grid} : gridB g = true ↔ ∃ R C : Nat, g.Rows = R ∧ g.Cols = C ∧ 1 ≤ R ∧ R ≤ 5 ∧ 1 ≤ C ∧ C ≤ 5 ∧ g.Cells.length = R * C ∧ g.Cells.all gridC = true := by
  unfold gridB
  simp only [Bool.and_eq_true, inB_iff, beq_iff_eq]
  constructor
  · rintro ⟨⟨⟨h1, h2⟩, h3⟩, h4⟩
    refine ⟨g.Rows.toNat, g.Cols.toNat, by omega, by omega, by omega, by omega, by omega, by omega, ?_, h4⟩
    have e1 : (g.Rows.toNat : Int) = g.Rows := by omega
    have e2 : (g.Cols.toNat : Int) = g.Cols := by omega
    have : ((g.Rows.toNat * g.Cols.toNat : Nat) : Int) = g.Rows * g.Cols := by push_cast; rw [e1, e2]
    omega
  · rintro ⟨R, C, e1, e2, h1, h2, h3, h4, h5, h6⟩
    refine ⟨⟨⟨by omega, by omega⟩, ?_⟩, h6⟩
    rw [e1, e2, h5]
    push_cast
    rfl
theorem ValidGrid_eq (g : Grid) (hl : g.Cells.length ≤ 8000000000000000000) : m_impl_ValidGrid g = some (gridB g) := by
  unfold m_impl_ValidGrid gridB
  rw [within_eq, within_eq]
  cases h1 : inB g.Rows 1 5
  · rfl
  cases h2 : inB g.Cols 1 5
  · rfl
  rw [inB_iff] at h1 h2
  have hp := prod_in h1.1 h1.2 h2.1 h2.2
  simp only [Option.bind_some, cond_true, chk_in (by omega : -9000000000000000000 ≤ g.Rows * g.Cols) (by omega), allBytes_eq _ hl _ _ gridByte_eq, Bool.true_and]
  cases (g.Cells.length : Int) == g.Rows * g.Cols <;> rfl
theorem l25Ok_eq (g : Grid) (hl : g.Cells.length ≤ 8000000000000000000) : m_spec_l25Ok g = some (gridB g) := by
  unfold m_spec_l25Ok gridB
  rw [l00In_eq, l00In_eq]
  cases h1 : inB g.Rows 1 5
  · rfl
  cases h2 : inB g.Cols 1 5
  · rfl
  rw [inB_iff] at h1 h2
  have hp := prod_in h1.1 h1.2 h2.1 h2.2
  simp only [Option.bind_some, cond_true, Bool.not_true, cond_false, chk_in (by omega : -9000000000000000000 ≤ g.Rows * g.Cols) (by omega), Bool.true_and, bne]
  have h := loop_all (step := fun i : Int => m_spec_l25Ok_l1 g i) (fun i => (g.Cells[i]?.map gridC).getD true) g.Cells.length (.inl () : Unit ⊕ Bool) (.inr false) (fun i hi => by
      unfold m_spec_l25Ok_l1 gridC
      simp only [decide_eq_true (by omega : (i : Int) < g.Cells.length), cond_true, getL_at hi, Option.bind_some, l01Small_eq, chk_succ (by omega : i ≤ 8000000000000000000), List.getElem?_eq_getElem hi, Option.map_some, Option.getD_some, bne]
      cases g.Cells[i] == 35 <;> cases g.Cells[i] == 46 <;> cases smB g.Cells[i] <;> rfl)
    (by unfold m_spec_l25Ok_l1; rw [decide_eq_false (by omega)]; rfl) g.Cells.length 0 (by omega)
  rw [show ((0 : Nat) : Int) = 0 from rfl, all_idx] at h
  cases (g.Cells.length : Int) == g.Rows * g.Cols
  · rfl
  · simp only [Bool.not_true, cond_false, h, Bool.true_and]
    cases g.Cells.all gridC <;> rfl

/-! ### Boards and racks -/

end Go.Proofs.Ytgmikhdealhlfaa
