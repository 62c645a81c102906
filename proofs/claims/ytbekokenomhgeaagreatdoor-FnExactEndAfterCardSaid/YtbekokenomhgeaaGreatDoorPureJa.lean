/- Boards: laid over on their side, cells by row and column, the squares of a play. -/
import Derived.Test.YtbekokenomhgeaaGreatDoorPureP
import Derived.Test.YtbekokenomhgeaaGreatDoorPureF
namespace Go.Proofs.YtbekokenomhgeaaGreatDoor
open Go Go.RowKit
set_option linter.unusedSimpArgs false
set_option linter.unusedVariables false

theorem cell_lt {n r c : Nat} (hr : r < n) (hc : c < n) : r * n + c < n * n := by
  have h : (r + 1) * n ≤ n * n := Nat.mul_le_mul_right n hr
  rw [Nat.add_mul, Nat.one_mul] at h
  omega
theorem cell_mod {n r c : Nat} (hc : c < n) : (r * n + c) % n = c := by rw [Nat.mul_comm, Nat.mul_add_mod, Nat.mod_eq_of_lt hc]
theorem cell_div {n r c : Nat} (hc : c < n) : (r * n + c) / n = r := by rw [Nat.mul_comm, Nat.mul_add_div (by omega), Nat.div_eq_of_lt hc, Nat.add_zero]
theorem sq_le {n : Nat} (hn : n ≤ 15) : n * n ≤ 225 := Nat.le_trans (Nat.mul_le_mul hn hn) (by decide)
def turnL (n : Nat) (s : Str) : Str := (List.range (n * n)).map fun k => s.getD (k % n * n + k / n) 0
theorem turnL_len (n : Nat) (s : Str) : (turnL n s).length = n * n := by simp [turnL]
theorem turnL_at {n : Nat} {s : Str} {k : Nat} (h : k < (turnL n s).length) : (turnL n s)[k] = s.getD (k % n * n + k / n) 0 := by simp [turnL]
theorem turnL_getD {n : Nat} {s : Str} {r c : Nat} (hr : r < n) (hc : c < n) : (turnL n s).getD (r * n + c) 0 = s.getD (c * n + r) 0 := by
  rw [getD_of (by rw [turnL_len]; exact cell_lt hr hc), turnL_at, cell_mod hc, cell_div hc]
theorem grid_ext {n : Nat} {a b : Str} (ha : a.length = n * n) (hb : b.length = n * n) (h : ∀ r c, r < n → c < n → a.getD (r * n + c) 0 = b.getD (r * n + c) 0) : a = b := by
  apply List.ext_getElem (by rw [ha, hb])
  intro k h1 h2
  have hk : k < n * n := by omega
  have hn : 0 < n := by
    rcases Nat.eq_zero_or_pos n with e | e
    · subst e; simp at hk
    · exact e
  have := h (k / n) (k % n) (Nat.div_lt_of_lt_mul hk) (Nat.mod_lt _ hn)
  rw [Nat.div_add_mod'] at this
  rwa [getD_of h1, getD_of h2] at this
theorem turnL_turnL {n : Nat} {s : Str} (hs : s.length = n * n) : turnL n (turnL n s) = s := by
  apply grid_ext (turnL_len _ _) hs
  intro r c hr hc
  rw [turnL_getD hr hc, turnL_getD hc hr]
theorem cell_inj {n r c r' c' : Nat} (hc : c < n) (hc' : c' < n) (h : r * n + c = r' * n + c') : r = r' ∧ c = c' := by
  have h1 := congrArg (· % n) h
  have h2 := congrArg (· / n) h
  simp only [cell_mod hc, cell_mod hc', cell_div hc, cell_div hc'] at h1 h2
  exact ⟨h2, h1⟩
theorem getD_set {s : Str} {i j : Nat} {x : UInt8} (hi : i < s.length) : (s.set i x).getD j 0 = if i = j then x else s.getD j 0 := by
  rw [List.getD_eq_getElem?_getD, List.getElem?_set]
  split
  · rename_i e
    subst e
    simp
  · rw [List.getD_eq_getElem?_getD]
theorem turnL_set {n r c : Nat} {t : Str} {x : UInt8} (ht : t.length = n * n) (hr : r < n) (hc : c < n) : turnL n (t.set (r * n + c) x) = (turnL n t).set (c * n + r) x := by
  apply grid_ext (turnL_len _ _) (by rw [List.length_set, turnL_len])
  intro a b ha hb
  rw [turnL_getD ha hb, getD_set (by rw [ht]; exact cell_lt hr hc), getD_set (by rw [turnL_len]; exact cell_lt hc hr), turnL_getD ha hb]
  by_cases h : r = b ∧ c = a
  · obtain ⟨rfl, rfl⟩ := h
    simp
  · rw [if_neg fun e => h (cell_inj hc ha e), if_neg fun e => h (cell_inj hr hb e).symm]
theorem turnL_all {n : Nat} {s : Str} {p : UInt8 → Bool} (hs : s.length = n * n) (h : s.all p = true) : (turnL n s).all p = true := by
  rw [List.all_eq_true]
  intro x hx
  unfold turnL at hx
  obtain ⟨k, hk, rfl⟩ := List.mem_map.1 hx
  have hk : k < n * n := List.mem_range.1 hk
  have hn : 0 < n := by
    rcases Nat.eq_zero_or_pos n with e | e
    · subst e; simp at hk
    · exact e
  have hlt := cell_lt (Nat.mod_lt k hn) (Nat.div_lt_of_lt_mul hk)
  rw [getD_of (by rw [hs]; exact hlt)]
  exact List.all_eq_true.1 h _ (List.getElem_mem _)

theorem chk_cell {n i : Nat} (hn : n ≤ 15) (hi : i < n) : chk ((i : Int) * (n : Int)) = some ((i * n : Nat) : Int) := by
  have : i * n ≤ 15 * 15 := Nat.mul_le_mul (by omega) hn
  exact chk_to _ (Int.natCast_mul i n).symm (by omega) (by omega)
theorem chk_add {i j : Nat} (h : i + j ≤ 1000000) : chk ((i : Int) + (j : Int)) = some ((i + j : Nat) : Int) := chk_to _ (by omega) (by omega) (by omega)

set_option maxRecDepth 100000 in
theorem l11Turn_eq {n : Nat} {s : Str} (hn : n ≤ 15) (hs : s.length = n * n) : m_spec_l11Turn (n : Int) s = some (turnL n s) := by
  have h225 := sq_le hn
  have step : ∀ r : Nat, r < n → loopM (fun q : Str × Int => m_spec_l11Turn_l2 (n : Int) (r : Int) s q.1 q.2) ((turnL n s).take (r * n), 0) = some ((turnL n s).take ((r + 1) * n)) := by
    intro r hr
    refine loop_run (s := fun i : Nat => ((turnL n s).take (r * n + i), (i : Int))) n _ ?_ ?_ 0 (by omega)
    · intro i hi
      have hlt := cell_lt hr hi
      have hlt' := cell_lt hi hr
      show m_spec_l11Turn_l2 (n : Int) (r : Int) s ((turnL n s).take (r * n + i)) (i : Int) = _
      unfold m_spec_l11Turn_l2
      rw [decide_eq_true (by omega : (i : Int) < (n : Int)), cond_true, chk_cell hn hi, Option.bind_some, chk_add (by omega), Option.bind_some, getL_D (by omega) 0, Option.bind_some, catL_of (by rw [List.length_take, turnL_len]; simp; omega), Option.bind_some, chk_succ (by omega), Option.bind_some]
      have e : (turnL n s).take (r * n + i) ++ [s.getD (i * n + r) 0] = (turnL n s).take (r * n + (i + 1)) := by
        rw [← Nat.add_assoc, List.take_add_one, List.getElem?_eq_getElem (by rw [turnL_len]; omega), turnL_at, cell_mod hi, cell_div hi]
        rfl
      rw [e]
    · show m_spec_l11Turn_l2 (n : Int) (r : Int) s ((turnL n s).take (r * n + n)) (n : Int) = _
      unfold m_spec_l11Turn_l2
      rw [decide_eq_false (by omega), cond_false, Nat.add_mul, Nat.one_mul]
  unfold m_spec_l11Turn
  have all : loopM (fun q : Str × Int => m_spec_l11Turn_l1 (n : Int) s q.1 q.2) ((turnL n s).take (0 * n), ((0 : Nat) : Int)) = some ((turnL n s).take (n * n)) := by
    refine loop_run (s := fun i : Nat => ((turnL n s).take (i * n), (i : Int))) n _ ?_ ?_ 0 (by omega)
    · intro i hi
      show m_spec_l11Turn_l1 (n : Int) s ((turnL n s).take (i * n)) (i : Int) = _
      unfold m_spec_l11Turn_l1
      rw [decide_eq_true (by omega : (i : Int) < (n : Int)), cond_true, step i hi, Option.bind_some, Option.bind_some, chk_succ (by omega), Option.bind_some]
    · show m_spec_l11Turn_l1 (n : Int) s ((turnL n s).take (n * n)) (n : Int) = _
      unfold m_spec_l11Turn_l1
      rw [decide_eq_false (by omega), cond_false]
  rw [List.take_of_length_le (l := turnL n s) (i := n * n) (by rw [turnL_len]; omega), Nat.zero_mul, List.take_zero] at all
  show ((loopM (fun q : Str × Int => m_spec_l11Turn_l1 (n : Int) s q.1 q.2) (([] : Str), ((0 : Nat) : Int))).bind fun x => some x).bind (fun x => some x) = _
  rw [all]
  rfl

/-! ### Boards -/
def IsB (n : Nat) (b : Board) : Prop := b.Size = n ∧ 5 ≤ n ∧ n ≤ 15 ∧ b.Premium.length = n * n ∧ b.Cells.length = n * n ∧ b.Premium.all premC = true ∧ b.Cells.all cellC = true
theorem boardB_iff {b : Board} : boardB b = true ↔ ∃ n, IsB n b := by
  unfold boardB IsB
  constructor
  · intro h
    rw [Bool.and_eq_true, Bool.and_eq_true, Bool.and_eq_true, inB_iff, beq_iff_eq, beq_iff_eq, Bool.and_eq_true] at h
    obtain ⟨⟨⟨⟨h1, h2⟩, h3⟩, h4⟩, h5, h6⟩ := h
    have e : b.Size = (b.Size.toNat : Int) := by omega
    refine ⟨b.Size.toNat, e, by omega, by omega, ?_, ?_, h5, h6⟩
    · rw [e, ← Int.natCast_mul] at h3; exact Int.ofNat.inj h3
    · rw [e, ← Int.natCast_mul] at h4; exact Int.ofNat.inj h4
  · rintro ⟨n, h1, h2, h3, h4, h5, h6, h7⟩
    rw [Bool.and_eq_true, Bool.and_eq_true, Bool.and_eq_true, inB_iff, beq_iff_eq, beq_iff_eq, Bool.and_eq_true, h1, h4, h5]
    exact ⟨⟨⟨⟨by omega, by omega⟩, by rw [Int.natCast_mul]⟩, by rw [Int.natCast_mul]⟩, h6, h7⟩
def flipB (n : Nat) (b : Board) : Board := ⟨b.Size, turnL n b.Premium, turnL n b.Cells⟩
theorem flipB_is {n : Nat} {b : Board} (h : IsB n b) : IsB n (flipB n b) := by
  obtain ⟨h1, h2, h3, h4, h5, h6, h7⟩ := h
  exact ⟨h1, h2, h3, turnL_len _ _, turnL_len _ _, turnL_all h4 h6, turnL_all h5 h7⟩
theorem l11Transpose_eq {n : Nat} {b : Board} (hs : b.Size = n) (hn : n ≤ 15) (h4 : b.Premium.length = n * n) (h5 : b.Cells.length = n * n) : m_spec_l11Transpose b = some (flipB n b) := by
  unfold m_spec_l11Transpose
  rw [hs, l11Turn_eq hn h4, Option.bind_some, l11Turn_eq hn h5, Option.bind_some]
  unfold flipB
  rw [hs]
def flatB (n : Nat) (b : Board) (p : Play) : Board := bif p.Down then flipB n b else b
def flatP (p : Play) : Play := bif p.Down then ⟨p.Col, p.Row, !p.Down, p.Word⟩ else p
theorem flatB_is {n : Nat} {b : Board} (h : IsB n b) (p : Play) : IsB n (flatB n b p) := by
  unfold flatB
  cases p.Down
  · exact h
  · exact flipB_is h
theorem flatP_word (p : Play) : (flatP p).Word = p.Word := by
  unfold flatP
  cases p.Down <;> rfl
theorem l12Flat_eq {n : Nat} {b : Board} (h : IsB n b) (p : Play) : m_spec_l12Flat b p = some (flatB n b p, flatP p) := by
  obtain ⟨h1, h2, h3, h4, h5, h6, h7⟩ := h
  unfold m_spec_l12Flat flatB flatP m_spec_l12Turn
  cases p.Down
  · rfl
  · rw [cond_true, l11Transpose_eq h1 h3 h4 h5]
    rfl

def insB (n : Nat) (r c : Int) : Bool := inB r 0 ((n : Int) - 1) && inB c 0 ((n : Int) - 1)
def bAt (n : Nat) (s : Str) (r c : Int) : UInt8 := bif insB n r c then s.getD (r.toNat * n + c.toNat) 0 else 0
theorem insB_iff {n : Nat} {r c : Int} : insB n r c = true ↔ (0 ≤ r ∧ r ≤ (n : Int) - 1) ∧ 0 ≤ c ∧ c ≤ (n : Int) - 1 := by
  unfold insB
  rw [Bool.and_eq_true, inB_iff, inB_iff]
theorem insB_nat {n : Nat} {r c : Int} (h : insB n r c = true) : ∃ R C : Nat, r = R ∧ c = C ∧ R < n ∧ C < n := by
  have := insB_iff.1 h
  exact ⟨r.toNat, c.toNat, by omega, by omega, by omega, by omega⟩
theorem inside_eq {n : Nat} {b : Board} (hb : IsB n b) (r c : Int) : m_impl_Board_inside b r c = some (insB n r c) := by
  unfold m_impl_Board_inside insB
  rw [hb.1, chk_in (x := (n : Int) - 1) (by have := hb.2.1; omega) (by have := hb.2.2.1; omega)]
  simp only [Option.bind_some, within_eq]
  cases inB r 0 ((n : Int) - 1) <;> rfl
theorem l11In_eq {n : Nat} {b : Board} (hb : IsB n b) (r c : Int) : m_spec_l11In b r c = some (insB n r c) := by
  unfold m_spec_l11In insB
  rw [hb.1, chk_in (x := (n : Int) - 1) (by have := hb.2.1; omega) (by have := hb.2.2.1; omega)]
  simp only [Option.bind_some, l00In_eq]
  cases inB r 0 ((n : Int) - 1) <;> rfl
theorem l11At_eq {n : Nat} {b : Board} (hb : IsB n b) {r c : Int} (h : insB n r c = true) : m_spec_l11At b r c = some (bAt n b.Cells r c) := by
  unfold bAt
  rw [h, cond_true]
  obtain ⟨R, C, rfl, rfl, hR, hC⟩ := insB_nat h
  obtain ⟨h1, h2, h3, h4, h5, h6, h7⟩ := hb
  have hlt := cell_lt hR hC
  have h225 := sq_le h3
  unfold m_spec_l11At
  rw [h1, chk_cell h3 hR, Option.bind_some, chk_add (by omega), Option.bind_some, getL_D (by omega) 0]
  rfl
theorem cell_eq {n : Nat} {b : Board} (hb : IsB n b) (r c : Int) : m_impl_Board_cell b r c = some (bAt n b.Cells r c) := by
  unfold m_impl_Board_cell
  rw [inside_eq hb, Option.bind_some]
  cases h : insB n r c
  · unfold bAt
    rw [h]
    rfl
  · have := l11At_eq hb h
    unfold m_spec_l11At at this
    rw [← this]
    rfl
def letB (n : Nat) (s : Str) (r c : Int) : Bool := bAt n s r c != 0 && bAt n s r c != 46
theorem letter_eq {n : Nat} {b : Board} (hb : IsB n b) (r c : Int) : m_impl_Board_letter b r c = some (letB n b.Cells r c) := by
  unfold m_impl_Board_letter letB
  rw [cell_eq hb, Option.bind_some]
  cases bAt n b.Cells r c != 0 <;> rfl
theorem bAt_cell {n : Nat} {s : Str} (hs : s.length = n * n) (ha : s.all cellC = true) {r c : Int} (h : insB n r c = true) : cellC (bAt n s r c) = true ∧ bAt n s r c ≠ 0 := by
  have : cellC (bAt n s r c) = true := by
    unfold bAt
    rw [h, cond_true]
    obtain ⟨R, C, rfl, rfl, hR, hC⟩ := insB_nat h
    have hlt := cell_lt hR hC
    rw [getD_of (by simp; omega)]
    exact List.all_eq_true.1 ha _ (List.getElem_mem _)
  refine ⟨this, fun e => ?_⟩
  rw [e] at this
  exact absurd this (by decide)
theorem letB_in {n : Nat} {s : Str} (hs : s.length = n * n) (ha : s.all cellC = true) {r c : Int} (h : insB n r c = true) : letB n s r c = (bAt n s r c != 46) := by
  unfold letB
  rw [show (bAt n s r c != 0) = true from by rw [bne_iff_ne]; exact (bAt_cell hs ha h).2, Bool.true_and]
theorem l11Full_eq {n : Nat} {b : Board} (hb : IsB n b) (r c : Int) : m_spec_l11Full b r c = some (letB n b.Cells r c) := by
  unfold m_spec_l11Full
  rw [l11In_eq hb, Option.bind_some]
  cases h : insB n r c
  · unfold letB bAt
    rw [h]
    rfl
  · rw [cond_true, l11At_eq hb h, letB_in hb.2.2.2.2.1 hb.2.2.2.2.2.2 h]
    rfl
theorem insB_comm (n : Nat) (r c : Int) : insB n r c = insB n c r := by unfold insB; rw [Bool.and_comm]
theorem bAt_turn (n : Nat) (s : Str) (r c : Int) : bAt n (turnL n s) r c = bAt n s c r := by
  unfold bAt
  rw [insB_comm n c r]
  cases h : insB n r c
  · rfl
  · obtain ⟨R, C, rfl, rfl, hR, hC⟩ := insB_nat h
    exact turnL_getD (by simpa using hR) (by simpa using hC)

/-! ### The squares of a play -/
def sqV (p : Play) (k : Int) : Square := bif p.Down then ⟨p.Row + k, p.Col⟩ else ⟨p.Row, p.Col + k⟩
theorem square_eq (p : Play) (k : Int) (h1 : -100 ≤ p.Row ∧ p.Row ≤ 100) (h2 : -100 ≤ p.Col ∧ p.Col ≤ 100) (h3 : -2000000 ≤ k ∧ k ≤ 2000000) : m_impl_Play_square p k = some (sqV p k) := by
  unfold m_impl_Play_square m_impl_directionOf sqV m_impl_downwards_at m_impl_right_at
  cases p.Down
  · rw [cond_false, cond_false, Option.bind_some, cond_false, chk_in (x := p.Col + k) (by omega) (by omega)]
    rfl
  · rw [cond_true, cond_true, Option.bind_some, cond_true, chk_in (x := p.Row + k) (by omega) (by omega)]
    rfl
def fAt (n : Nat) (b : Board) (p : Play) (k : Int) : UInt8 := bAt n (flatB n b p).Cells (flatP p).Row ((flatP p).Col + k)
theorem sq_at (n : Nat) (b : Board) (p : Play) (k : Int) : bAt n b.Cells (sqV p k).Row (sqV p k).Col = fAt n b p k := by
  unfold fAt sqV flatB flatP
  cases p.Down
  · rfl
  · exact (bAt_turn n b.Cells p.Col (p.Row + k)).symm
theorem sq_in (n : Nat) (p : Play) (k : Int) : insB n (sqV p k).Row (sqV p k).Col = insB n (flatP p).Row ((flatP p).Col + k) := by
  unfold sqV flatP
  cases p.Down
  · rfl
  · exact insB_comm n (p.Row + k) p.Col
theorem flat_in (n : Nat) (p : Play) : insB n p.Row p.Col = insB n (flatP p).Row (flatP p).Col := by
  unfold flatP
  cases p.Down
  · rfl
  · exact insB_comm n p.Row p.Col

end Go.Proofs.YtbekokenomhgeaaGreatDoor
