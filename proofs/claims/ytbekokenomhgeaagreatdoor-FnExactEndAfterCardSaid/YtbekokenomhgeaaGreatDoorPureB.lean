/- Grids, boards, racks: what valid means, on both sides. -/
import Derived.Test.YtbekokenomhgeaaGreatDoorPureT
import Derived.Lib.IndexLaws
namespace Go.Proofs.YtbekokenomhgeaaGreatDoor
open Go Go.RowKit
set_option linter.unusedSimpArgs false
set_option linter.unusedVariables false

theorem allBytes_eq (s : Str) (hl : s.length ≤ 8000000000000000000) (is : UInt8 → Option Bool) (p : UInt8 → Bool) (hp : ∀ c, is c = some (p c)) : m_impl_allBytes s is = some (s.all p) := by
  unfold m_impl_allBytes
  have h := loop_all (step := fun i : Int => m_impl_allBytes_l1 s is i) (fun i => (s[i]?.map p).getD true) s.length (.inl () : Unit ⊕ Bool) (.inr false) (fun i hi => by
      unfold m_impl_allBytes_l1
      rw [decide_eq_true (by omega : (i : Int) < s.length), cond_true, getL_at hi, Option.bind_some, hp, Option.bind_some, chk_succ (by omega), List.getElem?_eq_getElem hi, Option.map_some, Option.getD_some]
      cases p s[i] <;> rfl)
    (by unfold m_impl_allBytes_l1; rw [decide_eq_false (by omega)]; rfl) s.length 0 (by omega)
  rw [show ((0 : Nat) : Int) = 0 from rfl, all_idx] at h
  rw [h]
  cases s.all p <;> rfl
theorem prod_in {a b m : Int} (ha : 1 ≤ a) (ha' : a ≤ m) (hb : 1 ≤ b) (hb' : b ≤ m) : 1 ≤ a * b ∧ a * b ≤ m * m := by
  constructor
  · have := Int.mul_le_mul ha hb (by omega) (by omega : (0 : Int) ≤ a)
    omega
  · exact Int.mul_le_mul ha' hb' (by omega) (by omega)

/-! ### Boards and racks -/

def rackB (s : Str) : Bool := pileB s && decide (s.length ≤ 7)
theorem ValidRack_eq (s : Str) (hl : s.length ≤ 8000000000000000000) : m_impl_ValidRack s = some (rackB s) := by
  unfold m_impl_ValidRack rackB
  rw [ValidPile_eq s hl, show decide ((s.length : Int) ≤ 7) = decide (s.length ≤ 7) by rw [Bool.eq_iff_iff]; simp; omega]
  cases decide (s.length ≤ 7) <;> cases pileB s <;> rfl
theorem l03Rack_eq (s : Str) (hl : s.length ≤ 8000000000000000000) : m_spec_l03Rack s = some (rackB s) := by
  unfold m_spec_l03Rack rackB
  rw [l03Pile_eq s hl, show decide ((s.length : Int) ≤ 7) = decide (s.length ≤ 7) by rw [Bool.eq_iff_iff]; simp; omega]
  cases decide (s.length ≤ 7) <;> cases pileB s <;> rfl

def premC (c : UInt8) : Bool := c == 46 || c == 50 || c == 51 || c == 100 || c == 116
def cellC (c : UInt8) : Bool := c == 46 || smB c || cpB c
theorem premiumOk_eq (c : UInt8) : m_impl_premiumOk c = some (premC c) := by
  unfold m_impl_premiumOk m_strings_IndexByte premC
  simp only [Option.bind_some, Lib.indexByte]
  by_cases h1 : (50 : UInt8) = c
  · subst h1; rfl
  by_cases h2 : (51 : UInt8) = c
  · subst h2; rfl
  by_cases h3 : (100 : UInt8) = c
  · subst h3; rfl
  by_cases h4 : (116 : UInt8) = c
  · subst h4; rfl
  by_cases h5 : (46 : UInt8) = c
  · subst h5; rfl
  have n1 : ((50 : UInt8) == c) = false := by simpa using h1
  have n2 : ((51 : UInt8) == c) = false := by simpa using h2
  have n3 : ((100 : UInt8) == c) = false := by simpa using h3
  have n4 : ((116 : UInt8) == c) = false := by simpa using h4
  have n5 : ((46 : UInt8) == c) = false := by simpa using h5
  have m1 : (c == 50) = false := by rw [beq_eq_false_iff_ne]; exact fun e => h1 e.symm
  have m2 : (c == 51) = false := by rw [beq_eq_false_iff_ne]; exact fun e => h2 e.symm
  have m3 : (c == 100) = false := by rw [beq_eq_false_iff_ne]; exact fun e => h3 e.symm
  have m4 : (c == 116) = false := by rw [beq_eq_false_iff_ne]; exact fun e => h4 e.symm
  have m5 : (c == 46) = false := by rw [beq_eq_false_iff_ne]; exact fun e => h5 e.symm
  simp [n1, n2, n3, n4, n5, m1, m2, m3, m4, m5]
theorem l11Premium_eq (c : UInt8) : m_spec_l11Premium c = some (premC c) := by
  unfold m_spec_l11Premium premC
  cases c == 46 <;> cases c == 50 <;> cases c == 51 <;> cases c == 100 <;> rfl
theorem cellOk_eq (c : UInt8) : m_impl_cellOk c = some (cellC c) := by
  unfold m_impl_cellOk cellC
  rw [small_eq, capital_eq]
  cases c == 46 <;> cases smB c <;> rfl
theorem l11Cell_eq (c : UInt8) : m_spec_l11Cell c = some (cellC c) := by
  unfold m_spec_l11Cell cellC
  rw [l01Small_eq, l03Capital_eq]
  cases c == 46 <;> cases smB c <;> rfl
def boardB (b : Board) : Bool := inB b.Size 5 15 && ((b.Premium.length : Int) == b.Size * b.Size) && ((b.Cells.length : Int) == b.Size * b.Size) && (b.Premium.all premC && b.Cells.all cellC)
theorem ValidBoard_eq (b : Board) (h1 : b.Premium.length ≤ 8000000000000000000) (h2 : b.Cells.length ≤ 8000000000000000000) : m_impl_ValidBoard b = some (boardB b) := by
  unfold m_impl_ValidBoard boardB m_impl_sizeOk
  rw [within_eq, allBytes_eq _ h1 _ _ premiumOk_eq, allBytes_eq _ h2 _ _ cellOk_eq]
  cases hs : inB b.Size 5 15
  · rfl
  rw [inB_iff] at hs
  have hp := prod_in (by omega : 1 ≤ b.Size) hs.2 (by omega : 1 ≤ b.Size) hs.2
  simp only [Option.bind_some, Bool.not_true, cond_false, chk_in (by omega : -9000000000000000000 ≤ b.Size * b.Size) (by omega), bne, Bool.true_and]
  cases hq : (b.Premium.length : Int) == b.Size * b.Size
  · rfl
  · have hq' : (b.Premium.length : Int) = b.Size * b.Size := by simpa using hq
    rw [hq']
    cases (b.Cells.length : Int) == b.Size * b.Size
    · rfl
    · cases b.Premium.all premC <;> cases b.Cells.all cellC <;> rfl
theorem l11Ok_eq (b : Board) (h1 : b.Premium.length ≤ 8000000000000000000) (h2 : b.Cells.length ≤ 8000000000000000000) : m_spec_l11Ok b = some (boardB b) := by
  unfold m_spec_l11Ok boardB m_spec_l11Size
  rw [l00In_eq]
  cases hs : inB b.Size 5 15
  · rfl
  rw [inB_iff] at hs
  have hp := prod_in (by omega : 1 ≤ b.Size) hs.2 (by omega : 1 ≤ b.Size) hs.2
  simp only [Option.bind_some, Bool.not_true, cond_false, chk_in (by omega : -9000000000000000000 ≤ b.Size * b.Size) (by omega), bne, Bool.true_and]
  cases hq : (b.Premium.length : Int) == b.Size * b.Size
  · rfl
  cases hq2 : (b.Cells.length : Int) == b.Size * b.Size
  · rfl
  have hq' : (b.Premium.length : Int) = b.Size * b.Size := by simpa using hq
  have hq2' : (b.Cells.length : Int) = b.Size * b.Size := by simpa using hq2
  have hpc : b.Premium.length = b.Cells.length := by omega
  have h := loop_all (step := fun i : Int => m_spec_l11Ok_l1 b i) (fun i => (b.Premium[i]?.map premC).getD true && (b.Cells[i]?.map cellC).getD true) b.Cells.length (.inl () : Unit ⊕ Bool) (.inr false) (fun i hi => by
      unfold m_spec_l11Ok_l1
      simp only [decide_eq_true (by omega : (i : Int) < b.Cells.length), cond_true, getL_at hi, getL_at (hpc ▸ hi : i < b.Premium.length), Option.bind_some, l11Cell_eq, l11Premium_eq, chk_succ (by omega : i ≤ 8000000000000000000), List.getElem?_eq_getElem hi, List.getElem?_eq_getElem (hpc ▸ hi : i < b.Premium.length), Option.map_some, Option.getD_some]
      cases cellC b.Cells[i] <;> cases premC (b.Premium[i]'(hpc ▸ hi)) <;> rfl)
    (by unfold m_spec_l11Ok_l1; rw [decide_eq_false (by omega)]; rfl) b.Cells.length 0 (by omega)
  have e : allI (fun i => (b.Premium[i]?.map premC).getD true && (b.Cells[i]?.map cellC).getD true) 0 b.Cells.length = (b.Premium.all premC && b.Cells.all cellC) := by
    rw [← all_idx premC b.Premium, ← all_idx cellC b.Cells, hpc, Bool.eq_iff_iff, Bool.and_eq_true, allI_iff, allI_iff, allI_iff]
    constructor
    · intro h; exact ⟨fun j a c => (Bool.and_eq_true_iff.1 (h j a c)).1, fun j a c => (Bool.and_eq_true_iff.1 (h j a c)).2⟩
    · rintro ⟨a, c⟩ j x y; exact Bool.and_eq_true_iff.2 ⟨a j x y, c j x y⟩
  rw [show ((0 : Nat) : Int) = 0 from rfl, e] at h
  simp only [Bool.not_true, cond_false, h, Bool.true_and]
  cases b.Premium.all premC && b.Cells.all cellC <;> rfl

end Go.Proofs.YtbekokenomhgeaaGreatDoor
