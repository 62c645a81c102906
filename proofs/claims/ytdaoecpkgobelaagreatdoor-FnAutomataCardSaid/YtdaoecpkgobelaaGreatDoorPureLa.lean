/- Numbers read back from their texts. -/
import Derived.Test.YtdaoecpkgobelaaGreatDoorPureN
import Derived.Lib.ParseIntBCases
namespace Go.Proofs.YtdaoecpkgobelaaGreatDoor
open Go Go.RowKit
set_option linter.unusedSimpArgs false
set_option linter.unusedVariables false

def fold10 (acc : Nat) : Str → Nat
  | [] => acc
  | c :: t => fold10 (10 * acc + (c.toNat - 48)) t

theorem fold10_app : ∀ (s t : Str) (acc : Nat), fold10 acc (s ++ t) = fold10 (fold10 acc s) t
  | [], _, _ => rfl
  | c :: s, t, acc => fold10_app s t _

theorem dgB_iff {c : UInt8} : dgB c = true ↔ 48 ≤ c.toNat ∧ c.toNat ≤ 57 := by
  unfold dgB
  simp only [Bool.and_eq_true, decide_eq_true_eq, UInt8.le_iff_toNat_le]
  exact Iff.rfl

theorem dec_digs (u : Nat) : (∀ c ∈ Lib.decDigits u, dgB c = true) ∧ fold10 0 (Lib.decDigits u) = u := by
  induction u using Nat.strongRecOn with
  | _ u ih =>
    rw [Lib.decDigits]
    split
    · rename_i h
      have e : (UInt8.ofNat (48 + u)).toNat = 48 + u := by rw [UInt8.toNat_ofNat']; omega
      refine ⟨fun c hc => ?_, ?_⟩
      · rw [List.mem_singleton] at hc; subst hc; rw [dgB_iff, e]; omega
      · show 10 * 0 + ((UInt8.ofNat (48 + u)).toNat - 48) = u
        rw [e]; omega
    · rename_i h
      obtain ⟨h1, h2⟩ := ih (u / 10) (by omega)
      have e : (UInt8.ofNat (48 + u % 10)).toNat = 48 + u % 10 := by rw [UInt8.toNat_ofNat']; omega
      refine ⟨fun c hc => ?_, ?_⟩
      · rcases List.mem_append.1 hc with hc | hc
        · exact h1 c hc
        · rw [List.mem_singleton] at hc; subst hc; rw [dgB_iff, e]; omega
      · rw [fold10_app, h2]
        show 10 * (u / 10) + ((UInt8.ofNat (48 + u % 10)).toNat - 48) = u
        rw [e]; omega

theorem fold10_ge : ∀ (s : Str) (acc : Nat), acc ≤ fold10 acc s
  | [], _ => Nat.le_refl _
  | c :: s, acc => Nat.le_trans (by omega) (fold10_ge s _)

theorem parseM_digs (M : Nat) : ∀ (s : Str) (acc : Nat), (∀ c ∈ s, dgB c = true) → fold10 acc s ≤ M → fold10 acc s < 1844674407370955162 → Lib.parseUintM M acc s = .ok (fold10 acc s)
  | [], _, _, _, _ => rfl
  | c :: s, acc, hd, hM, hs => by
    have hc := dgB_iff.1 (hd c (List.mem_cons_self))
    have hg := fold10_ge s (10 * acc + (c.toNat - 48))
    have e : fold10 acc (c :: s) = fold10 (10 * acc + (c.toNat - 48)) s := rfl
    rw [e] at hM hs ⊢
    have ih := parseM_digs M s (10 * acc + (c.toNat - 48)) (fun x hx => hd x (List.mem_cons_of_mem _ hx)) hM hs
    rw [Lib.parseUintM, if_pos hc, if_neg (by omega), if_neg (by omega), Nat.mul_comm acc 10, ih]

theorem nDigits_le : ∀ (k u : Nat), u < 10 ^ (k + 1) → Lib.nDigits u ≤ k + 1
  | 0, u, h => by rw [Lib.nDigits_small (by simpa using h)]; omega
  | k + 1, u, h => by
    by_cases h10 : u < 10
    · rw [Lib.nDigits_small h10]; omega
    · have := nDigits_le k (u / 10) (by rw [Nat.pow_succ] at h; omega)
      rw [Lib.nDigits_big h10]; omega

theorem pow18 : (10 : Nat) ^ 18 = 1000000000000000000 := by decide

/-- Without a minus ahead. -/
def trimM (s : Str) : Str := bif s.take 1 == [45] then s.drop 1 else s

theorem trimM_len (s : Str) : (trimM s).length ≤ s.length ∧ s.length ≤ (trimM s).length + 1 := by
  unfold trimM
  cases s.take 1 == [45]
  · rw [cond_false]; omega
  · rw [cond_true, List.length_drop]; omega

theorem itoa_nat {n : Int} (h0 : 0 ≤ n) : Lib.itoa n = Lib.decDigits n.toNat := by unfold Lib.itoa; rw [if_neg (by omega)]

theorem itoa_dgs {n : Int} (h0 : 0 ≤ n) : ∀ c ∈ Lib.itoa n, dgB c = true := by rw [itoa_nat h0]; exact (dec_digs _).1

theorem itoa_len18 {n : Int} (h0 : 0 ≤ n) (h1 : n < 1000000000000000000) : (Lib.itoa n).length ≤ 18 := by
  rw [itoa_nat h0, Lib.decDigits_length]
  exact nDigits_le 17 _ (by rw [pow18]; omega)

theorem dec_pos (u : Nat) : 1 ≤ (Lib.decDigits u).length := by rw [Lib.decDigits_length]; exact Lib.nDigits_pos u

theorem TrimPrefix_eq (s p : Str) (hs : s.length ≤ 1048576) (hp : p.length ≤ 1048576) : m_strings_TrimPrefix s p = some (bif s.take p.length == p then s.drop p.length else s) := by
  unfold m_strings_TrimPrefix m_internal_stringslite_TrimPrefix m_internal_stringslite_HasPrefix
  by_cases h : p.length ≤ s.length
  · rw [decide_eq_true (by omega : (p.length : Int) ≤ s.length), cond_true, subL_of (by omega) (by omega) (by omega)]
    simp only [Option.bind_some, Int.toNat_zero, List.drop_zero, Int.toNat_natCast, Nat.sub_zero]
    cases s.take p.length == p
    · rfl
    · rw [cond_true, subL_of (by omega) (by omega) (Int.le_refl _), Int.toNat_natCast, Int.toNat_natCast, List.take_of_length_le (by rw [List.length_drop]; omega)]
      rfl
  · rw [decide_eq_false (by omega)]
    have : (s.take p.length == p) = false := beq_eq_false_iff_ne.2 (fun e => by have := congrArg List.length e; rw [List.length_take] at this; omega)
    rw [this]
    rfl

/-- What the program reads as a number. -/
def rdD (s : Str) : Int × Bool := bif decide (18 < (trimM s).length) then (0, false) else match Lib.parseIntB 64 s with
  | .ok v => bif Lib.itoa v != s then (0, false) else (v, true)
  | _ => (0, false)

theorem anyDecimal_eq (s : Str) (h : s.length ≤ 1048576) : m_impl_anyDecimal s = some (match Lib.parseIntB 64 s with
  | .ok v => bif Lib.itoa v != s then (0, false) else (v, true)
  | _ => (0, false)) := by
  unfold m_impl_anyDecimal m_strconv_ParseInt
  rw [decide_eq_true (by unfold lim; omega), show ((((10 : Int) == 10 && (64 : Int) == 64) && true) : Bool) = true from rfl, cond_true, Option.bind_some]
  cases Lib.parseIntB 64 s
  case ok v =>
    show ((m_impl_Decimal v).bind fun y17 => some (y17 != s)).bind (fun t11 => bif t11 then some (0, false) else some (v, true)) = some (bif Lib.itoa v != s then (0, false) else (v, true))
    rw [Decimal_eq, Option.bind_some, Option.bind_some]
    cases Lib.itoa v != s <;> rfl
  all_goals rfl

theorem ReadDecimal_eq (s : Str) (h : s.length ≤ 1048576) : m_impl_ReadDecimal s = some (rdD s) := by
  unfold m_impl_ReadDecimal rdD
  rw [TrimPrefix_eq s [45] h (by simp), Option.bind_some, show (bif s.take ([45] : Str).length == [45] then s.drop ([45] : Str).length else s) = trimM s from rfl, show decide (18 < ((trimM s).length : Int)) = decide (18 < (trimM s).length) from decide_eq_decide.2 (by omega)]
  cases decide (18 < (trimM s).length)
  · rw [cond_false, cond_false, anyDecimal_eq s h]
    rfl
  · rfl

theorem rdD_itoa {n : Int} (h0 : 0 ≤ n) (h1 : n < 1000000000000000000) : rdD (Lib.itoa n) = (n, true) := by
  have hl := itoa_len18 h0 h1
  have ht := (trimM_len (Lib.itoa n)).1
  obtain ⟨d1, d2⟩ := dec_digs n.toNat
  have hp : Lib.parseIntB 64 (Lib.itoa n) = .ok n := by
    rw [itoa_nat h0]
    have hne : Lib.decDigits n.toNat ≠ [] := by
      intro e
      have := dec_pos n.toNat
      rw [e] at this
      simp at this
    have hu : Lib.parseUintB 64 (Lib.decDigits n.toNat) = .ok n.toNat := by
      unfold Lib.parseUintB
      rw [if_neg hne, parseM_digs _ _ 0 d1 (by rw [d2]; omega) (by rw [d2]; omega), d2]
    cases hd : Lib.decDigits n.toNat with
    | nil => exact absurd hd hne
    | cons c r =>
      have hc := dgB_iff.1 (d1 c (by rw [hd]; exact List.mem_cons_self))
      rw [hd] at hu
      rw [Lib.parseIntB_plain 64 c r (by omega) (by omega), hu]
      show (if 2 ^ (64 - 1) ≤ n.toNat then _ else _) = _
      rw [if_neg (by omega), show ((n.toNat : Nat) : Int) = n by omega]
  unfold rdD
  rw [decide_eq_false (by omega), cond_false, hp]
  show (bif Lib.itoa n != Lib.itoa n then _ else _) = _
  rw [bne_self_eq_false, cond_false]

/-! ### The reference's -/

end Go.Proofs.YtdaoecpkgobelaaGreatDoor
