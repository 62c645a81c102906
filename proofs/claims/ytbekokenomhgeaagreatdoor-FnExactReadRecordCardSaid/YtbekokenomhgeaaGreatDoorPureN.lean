/- Numbers as texts. -/
import Derived.Test.YtbekokenomhgeaaGreatDoorPureT
namespace Go.Proofs.YtbekokenomhgeaaGreatDoor
open Go Go.RowKit
set_option linter.unusedSimpArgs false
set_option linter.unusedVariables false

/-- The digits of a number; none of 0. -/
def digs (u : Nat) : Str := if u = 0 then [] else Lib.decDigits u
theorem digs_next {u : Nat} (h : 0 < u) : digs u = digs (u / 10) ++ [UInt8.ofNat (48 + u % 10)] := by
  unfold digs
  rw [if_neg (by omega)]
  conv => lhs; rw [Lib.decDigits]
  split
  · rename_i h10
    rw [if_pos (by omega), List.nil_append, Nat.mod_eq_of_lt h10]
  · rw [if_neg (by omega)]
theorem digs_len {u : Nat} (h : u ≤ 9223372036854775808) : (digs u).length ≤ 21 := by
  unfold digs
  split
  · simp
  · have := Lib.itoa_length_le (-(u : Int)) (by omega) (by omega)
    unfold Lib.itoa at this
    rw [if_pos (by omega)] at this
    simp only [List.length_cons, Int.natAbs_neg, Int.natAbs_natCast] at this
    omega
theorem remI_10 (d : Int) : remI d 10 = some (d.tmod 10) := rfl
theorem decLoop : ∀ (u : Nat) (d : Int) (xs : Str), d.natAbs = u → u ≤ 9223372036854775808 → xs.length + (digs u).length ≤ 100 → loopM (fun s : Str × Int => m_spec_l01Dec_l1 s.1 s.2) (xs, d) = some (digs u ++ xs) := by
  intro u
  induction u using Nat.strongRecOn with
  | _ u ih =>
    intro d xs hd hu hl
    rcases Nat.eq_zero_or_pos u with h0 | h0
    · have hd0 : d = 0 := by omega
      subst hd0
      have hst : m_spec_l01Dec_l1 xs 0 = some (.inr xs) := by unfold m_spec_l01Dec_l1; rfl
      rw [loopM_done hst, h0]
      rfl
    · have hne : (d != 0) = true := by rw [bne_iff_ne]; omega
      have hn : ∃ z : Int, d.tmod 10 = z ∧ ((z < 0 ∧ -z = ((u % 10 : Nat) : Int)) ∨ (0 ≤ z ∧ z = ((u % 10 : Nat) : Int))) := by
        refine ⟨_, rfl, ?_⟩
        rcases Int.lt_or_le d 0 with hneg | hpos
        · have e : d = -((u : Nat) : Int) := by omega
          have e2 : d.tmod 10 = -(((u % 10 : Nat) : Int)) := by
            rw [e, Int.neg_tmod, Int.tmod_eq_emod_of_nonneg (by omega)]
            push_cast
            rfl
          rw [e2]
          by_cases hz : u % 10 = 0
          · right; omega
          · left; omega
        · have e : d = ((u : Nat) : Int) := by omega
          right
          rw [Int.tmod_eq_emod_of_nonneg hpos, e]
          omega
      obtain ⟨z, hz, hcase⟩ := hn
      have hq : quoI d 10 = some (d.tdiv 10) ∧ (d.tdiv 10).natAbs = u / 10 := by
        have e : (d.tdiv 10).natAbs = u / 10 := by
          rw [Int.natAbs_tdiv, hd]
          rfl
        refine ⟨?_, e⟩
        unfold quoI
        rw [show ((10 : Int) == 0) = false from rfl, cond_false, chk_in (by omega) (by omega)]
      have hst : m_spec_l01Dec_l1 xs d = some (.inl ([UInt8.ofNat (48 + u % 10)] ++ xs, d.tdiv 10)) := by
        unfold m_spec_l01Dec_l1
        rw [hne, cond_true, remI_10, Option.bind_some, hz]
        have hb : (bif decide (z < 0) then (chk (-z)).bind fun z33 => some z33 else some z : Option Int) = some ((u % 10 : Nat) : Int) := by
          rcases hcase with ⟨h1, h2⟩ | ⟨h1, h2⟩
          · rw [decide_eq_true h1, cond_true, h2, chk_nat (by omega)]; rfl
          · rw [decide_eq_false (by omega), cond_false, h2]
        rw [hb, Option.bind_some, chk_in (by omega) (by omega), Option.bind_some]
        have hbyte : UInt8.ofNat ((48 + ((u % 10 : Nat) : Int)) % 256).toNat = UInt8.ofNat (48 + u % 10) := by
          congr 1
          omega
        have hd1 : 1 ≤ (digs u).length := by rw [digs_next h0]; simp
        rw [hbyte, catL_of (by simp; omega), Option.bind_some, hq.1, Option.bind_some]
      rw [loopM_next hst]
      have hdn := digs_next h0
      have hlen : (digs u).length = (digs (u / 10)).length + 1 := by rw [hdn]; simp
      rw [ih (u / 10) (by omega) _ _ hq.2 (by omega) (by simp only [List.length_append, List.length_cons, List.length_nil]; omega), hdn, List.append_assoc]
theorem l01Dec_eq {n : Int} (h : R64 n) : m_spec_l01Dec n = some (Lib.itoa n) := by
  have hu : n.natAbs ≤ 9223372036854775808 := by unfold R64 at h; omega
  have hl := digs_len hu
  unfold m_spec_l01Dec
  rw [decLoop n.natAbs n [] rfl hu (by simp; omega)]
  simp only [Option.bind_some, List.append_nil]
  by_cases h0 : n = 0
  · subst h0
    have e0 : Lib.itoa 0 = [48] := by unfold Lib.itoa; rw [if_neg (by omega)]; rw [show (0 : Int).toNat = 0 from rfl, Lib.decDigits]; simp
    rw [e0]
    rfl
  · have hne : digs n.natAbs ≠ [] := by
      rw [digs_next (by omega)]; simp
    have hlen : (((digs n.natAbs).length : Int) == 0) = false := by
      rw [beq_eq_false_iff_ne]
      intro e
      exact hne (List.eq_nil_of_length_eq_zero (by omega))
    have e : digs n.natAbs = Lib.decDigits n.natAbs := by unfold digs; rw [if_neg (by omega)]
    rw [hlen, cond_false]
    unfold Lib.itoa
    rcases Int.lt_or_le n 0 with hneg | hpos
    · rw [decide_eq_true hneg, cond_true, if_pos hneg, catL_of (by simp; omega), e]
      rfl
    · rw [decide_eq_false (by omega), cond_false, if_neg (by omega), e, show n.natAbs = n.toNat by omega]

theorem Decimal_eq (n : Int) : m_impl_Decimal n = some (Lib.itoa n) := rfl

theorem itoa_le {n : Int} (h : R64 n) : (Lib.itoa n).length ≤ 21 := Lib.itoa_length_le n h.1 h.2

end Go.Proofs.YtbekokenomhgeaaGreatDoor
