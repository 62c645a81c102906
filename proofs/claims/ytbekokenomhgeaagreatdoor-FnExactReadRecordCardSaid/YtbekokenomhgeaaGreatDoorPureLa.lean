/- Numbers read back from their texts. -/
import Derived.Test.YtbekokenomhgeaaGreatDoorPureN
import Derived.Lib.ParseIntBCases
namespace Go.Proofs.YtbekokenomhgeaaGreatDoor
open Go Go.RowKit
set_option linter.unusedSimpArgs false
set_option linter.unusedVariables false

def fold10 (acc : Nat) : Str → Nat
  | [] => acc
  | c :: t => fold10 (10 * acc + (c.toNat - 48)) t

theorem fold10_app : ∀ (s t : Str) (acc : Nat), fold10 acc (s ++ t) = fold10 (fold10 acc s) t
  | [], _, _ => rfl
  | c :: s, t, acc => fold10_app s t _

theorem dgB_iff {c : UInt8} : dgB c = true ↔ 48 ≤ c.toNat ∧ c.toNat ≤ 57 := by
  unfold dgB
  simp only [Bool.and_eq_true, decide_eq_true_eq, UInt8.le_iff_toNat_le]
  exact Iff.rfl

theorem dec_digs (u : Nat) : (∀ c ∈ Lib.decDigits u, dgB c = true) ∧ fold10 0 (Lib.decDigits u) = u := by
  induction u using Nat.strongRecOn with
  | _ u ih =>
    rw [Lib.decDigits]
    split
    · rename_i h
      have e : (UInt8.ofNat (48 + u)).toNat = 48 + u := by rw [UInt8.toNat_ofNat']; omega
      refine ⟨fun c hc => ?_, ?_⟩
      · rw [List.mem_singleton] at hc; subst hc; rw [dgB_iff, e]; omega
      · show 10 * 0 + ((UInt8.ofNat (48 + u)).toNat - 48) = u
        rw [e]; omega
    · rename_i h
      obtain ⟨h1, h2⟩ := ih (u / 10) (by omega)
      have e : (UInt8.ofNat (48 + u % 10)).toNat = 48 + u % 10 := by rw [UInt8.toNat_ofNat']; omega
      refine ⟨fun c hc => ?_, ?_⟩
      · rcases List.mem_append.1 hc with hc | hc
        · exact h1 c hc
        · rw [List.mem_singleton] at hc; subst hc; rw [dgB_iff, e]; omega
      · rw [fold10_app, h2]
        show 10 * (u / 10) + ((UInt8.ofNat (48 + u % 10)).toNat - 48) = u
        rw [e]; omega

theorem fold10_ge : ∀ (s : Str) (acc : Nat), acc ≤ fold10 acc s
  | [], _ => Nat.le_refl _
  | c :: s, acc => Nat.le_trans (by omega) (fold10_ge s _)

theorem fold10_lt : ∀ (s : Str) (acc k : Nat), acc < 10 ^ k → s.all dgB = true → fold10 acc s < 10 ^ (k + s.length)
  | [], acc, k, h, _ => h
  | c :: s, acc, k, h, hd => by
    rw [List.all_cons, Bool.and_eq_true, dgB_iff] at hd
    have := fold10_lt s (10 * acc + (c.toNat - 48)) (k + 1) (by rw [Nat.pow_succ]; omega) hd.2
    rw [List.length_cons, show k + (s.length + 1) = k + 1 + s.length by omega]
    exact this

theorem parseM_digs (M : Nat) : ∀ (s : Str) (acc : Nat), (∀ c ∈ s, dgB c = true) → fold10 acc s ≤ M → fold10 acc s < 1844674407370955162 → Lib.parseUintM M acc s = .ok (fold10 acc s)
  | [], _, _, _, _ => rfl
  | c :: s, acc, hd, hM, hs => by
    have hc := dgB_iff.1 (hd c (List.mem_cons_self))
    have hg := fold10_ge s (10 * acc + (c.toNat - 48))
    have e : fold10 acc (c :: s) = fold10 (10 * acc + (c.toNat - 48)) s := rfl
    rw [e] at hM hs ⊢
    have ih := parseM_digs M s (10 * acc + (c.toNat - 48)) (fun x hx => hd x (List.mem_cons_of_mem _ hx)) hM hs
    rw [Lib.parseUintM, if_pos hc, if_neg (by omega), if_neg (by omega), Nat.mul_comm acc 10, ih]

theorem nDigits_le : ∀ (k u : Nat), u < 10 ^ (k + 1) → Lib.nDigits u ≤ k + 1
  | 0, u, h => by rw [Lib.nDigits_small (by simpa using h)]; omega
  | k + 1, u, h => by
    by_cases h10 : u < 10
    · rw [Lib.nDigits_small h10]; omega
    · have := nDigits_le k (u / 10) (by rw [Nat.pow_succ] at h; omega)
      rw [Lib.nDigits_big h10]; omega

theorem dec_len_lt {u k : Nat} (h : (Lib.decDigits u).length ≤ k) : u < 10 ^ k := by
  rw [Lib.decDigits_length] at h
  exact Nat.lt_of_lt_of_le (Lib.lt_pow_nDigits u) (Nat.pow_le_pow_right (by omega) h)

theorem pow18 : (10 : Nat) ^ 18 = 1000000000000000000 := by decide

theorem pow17 : (10 : Nat) ^ 17 = 100000000000000000 := by decide

/-- Without a minus ahead. -/
def trimM (s : Str) : Str := bif s.take 1 == [45] then s.drop 1 else s

theorem trimM_len (s : Str) : (trimM s).length ≤ s.length ∧ s.length ≤ (trimM s).length + 1 := by
  unfold trimM
  cases s.take 1 == [45]
  · rw [cond_false]; omega
  · rw [cond_true, List.length_drop]; omega

theorem trimM_dec (u : Nat) : trimM (Lib.decDigits u) = Lib.decDigits u := by
  unfold trimM
  rw [beq_eq_false_iff_ne.2, cond_false]
  intro e
  have hm : (45 : UInt8) ∈ (Lib.decDigits u).take 1 := by rw [e]; exact List.mem_singleton.2 rfl
  have := dgB_iff.1 ((dec_digs u).1 _ (List.mem_of_mem_take hm))
  have e45 : (45 : UInt8).toNat = 45 := rfl
  omega

theorem trimM_itoa (n : Int) : trimM (Lib.itoa n) = Lib.decDigits n.natAbs ∧ ((trimM (Lib.itoa n)).length < (Lib.itoa n).length ↔ n < 0) := by
  unfold Lib.itoa
  by_cases h : n < 0
  · rw [if_pos h]
    have e : trimM (45 :: Lib.decDigits n.natAbs) = Lib.decDigits n.natAbs := rfl
    rw [e]
    exact ⟨rfl, ⟨fun _ => h, fun _ => by rw [List.length_cons]; omega⟩⟩
  · rw [if_neg h, trimM_dec, show n.toNat = n.natAbs by omega]
    exact ⟨rfl, ⟨fun hl => by omega, fun hn => by omega⟩⟩

theorem itoa_small {n : Int} (h : (trimM (Lib.itoa n)).length ≤ 18) : -1000000000000000000 < n ∧ n < 1000000000000000000 := by
  rw [(trimM_itoa n).1] at h
  have := dec_len_lt h
  rw [pow18] at this
  omega

theorem itoa_nat {n : Int} (h0 : 0 ≤ n) : Lib.itoa n = Lib.decDigits n.toNat := by unfold Lib.itoa; rw [if_neg (by omega)]

theorem itoa_dgs {n : Int} (h0 : 0 ≤ n) : ∀ c ∈ Lib.itoa n, dgB c = true := by rw [itoa_nat h0]; exact (dec_digs _).1

theorem itoa_len18 {n : Int} (h0 : 0 ≤ n) (h1 : n < 1000000000000000000) : (Lib.itoa n).length ≤ 18 := by
  rw [itoa_nat h0, Lib.decDigits_length]
  exact nDigits_le 17 _ (by rw [pow18]; omega)

theorem dec_pos (u : Nat) : 1 ≤ (Lib.decDigits u).length := by rw [Lib.decDigits_length]; exact Lib.nDigits_pos u

theorem TrimPrefix_eq (s p : Str) (hs : s.length ≤ 1048576) (hp : p.length ≤ 1048576) : m_strings_TrimPrefix s p = some (bif s.take p.length == p then s.drop p.length else s) := by
  unfold m_strings_TrimPrefix m_internal_stringslite_TrimPrefix m_internal_stringslite_HasPrefix
  by_cases h : p.length ≤ s.length
  · rw [decide_eq_true (by omega : (p.length : Int) ≤ s.length), cond_true, subL_of (by omega) (by omega) (by omega)]
    simp only [Option.bind_some, Int.toNat_zero, List.drop_zero, Int.toNat_natCast, Nat.sub_zero]
    cases s.take p.length == p
    · rfl
    · rw [cond_true, subL_of (by omega) (by omega) (Int.le_refl _), Int.toNat_natCast, Int.toNat_natCast, List.take_of_length_le (by rw [List.length_drop]; omega)]
      rfl
  · rw [decide_eq_false (by omega)]
    have : (s.take p.length == p) = false := beq_eq_false_iff_ne.2 (fun e => by have := congrArg List.length e; rw [List.length_take] at this; omega)
    rw [this]
    rfl

/-- What the program reads as a number. -/
def rdD (s : Str) : Int × Bool := bif decide (18 < (trimM s).length) then (0, false) else match Lib.parseIntB 64 s with
  | .ok v => bif Lib.itoa v != s then (0, false) else (v, true)
  | _ => (0, false)

theorem anyDecimal_eq (s : Str) (h : s.length ≤ 1048576) : m_impl_anyDecimal s = some (match Lib.parseIntB 64 s with
  | .ok v => bif Lib.itoa v != s then (0, false) else (v, true)
  | _ => (0, false)) := by
  unfold m_impl_anyDecimal m_strconv_ParseInt
  rw [decide_eq_true (by unfold lim; omega), show ((((10 : Int) == 10 && (64 : Int) == 64) && true) : Bool) = true from rfl, cond_true, Option.bind_some]
  cases Lib.parseIntB 64 s
  case ok v =>
    show ((m_impl_Decimal v).bind fun y17 => some (y17 != s)).bind (fun t11 => bif t11 then some (0, false) else some (v, true)) = some (bif Lib.itoa v != s then (0, false) else (v, true))
    rw [Decimal_eq, Option.bind_some, Option.bind_some]
    cases Lib.itoa v != s <;> rfl
  all_goals rfl

theorem ReadDecimal_eq (s : Str) (h : s.length ≤ 1048576) : m_impl_ReadDecimal s = some (rdD s) := by
  unfold m_impl_ReadDecimal rdD
  rw [TrimPrefix_eq s [45] h (by simp), Option.bind_some, show (bif s.take ([45] : Str).length == [45] then s.drop ([45] : Str).length else s) = trimM s from rfl, show decide (18 < ((trimM s).length : Int)) = decide (18 < (trimM s).length) from decide_eq_decide.2 (by omega)]
  cases decide (18 < (trimM s).length)
  · rw [cond_false, cond_false, anyDecimal_eq s h]
    rfl
  · rfl

theorem rdD_small (s : Str) : -1000000000000000000 < (rdD s).1 ∧ (rdD s).1 < 1000000000000000000 := by
  unfold rdD
  by_cases h : 18 < (trimM s).length
  · rw [decide_eq_true h, cond_true]; simp
  · rw [decide_eq_false h, cond_false]
    cases Lib.parseIntB 64 s
    case ok v =>
      show _ < (bif Lib.itoa v != s then ((0 : Int), false) else (v, true)).1 ∧ (bif Lib.itoa v != s then ((0 : Int), false) else (v, true)).1 < _
      by_cases he : Lib.itoa v = s
      · rw [bne_eq_false_iff_eq.2 he, cond_false]
        exact itoa_small (by rw [he]; omega)
      · rw [bne_iff_ne.2 he, cond_true]; simp
    all_goals simp

theorem rdD_itoa {n : Int} (h0 : 0 ≤ n) (h1 : n < 1000000000000000000) : rdD (Lib.itoa n) = (n, true) := by
  have hl := itoa_len18 h0 h1
  have ht := (trimM_len (Lib.itoa n)).1
  obtain ⟨d1, d2⟩ := dec_digs n.toNat
  have hp : Lib.parseIntB 64 (Lib.itoa n) = .ok n := by
    rw [itoa_nat h0]
    have hne : Lib.decDigits n.toNat ≠ [] := by
      intro e
      have := dec_pos n.toNat
      rw [e] at this
      simp at this
    have hu : Lib.parseUintB 64 (Lib.decDigits n.toNat) = .ok n.toNat := by
      unfold Lib.parseUintB
      rw [if_neg hne, parseM_digs _ _ 0 d1 (by rw [d2]; omega) (by rw [d2]; omega), d2]
    cases hd : Lib.decDigits n.toNat with
    | nil => exact absurd hd hne
    | cons c r =>
      have hc := dgB_iff.1 (d1 c (by rw [hd]; exact List.mem_cons_self))
      rw [hd] at hu
      rw [Lib.parseIntB_plain 64 c r (by omega) (by omega), hu]
      show (if 2 ^ (64 - 1) ≤ n.toNat then _ else _) = _
      rw [if_neg (by omega), show ((n.toNat : Nat) : Int) = n by omega]
  unfold rdD
  rw [decide_eq_false (by omega), cond_false, hp]
  show (bif Lib.itoa n != Lib.itoa n then _ else _) = _
  rw [bne_self_eq_false, cond_false]

/-! ### The reference's -/

theorem numLoop (t : Str) (hl : t.length ≤ 18) : ∀ (k i acc : Nat), i + k = t.length → acc < 10 ^ i → loopM (fun s : Int × Int => m_spec_l01Number_l1 t s.1 s.2) ((acc : Int), (i : Int)) = some (bif (t.drop i).all dgB then .inl ((fold10 acc (t.drop i) : Nat) : Int) else .inr (0, false))
  | 0, i, acc, hk, ha => by
    have e : t.drop i = [] := List.drop_eq_nil_of_le (by omega)
    have hst : m_spec_l01Number_l1 t (acc : Int) (i : Int) = some (.inr (.inl (acc : Int))) := by
      unfold m_spec_l01Number_l1
      rw [decide_eq_false (by omega)]
      rfl
    rw [loopM_done hst, e]
    rfl
  | k + 1, i, acc, hk, ha => by
    have hi : i < t.length := by omega
    have hd : t.drop i = t[i] :: t.drop (i + 1) := List.drop_eq_getElem_cons hi
    have hp : (10 : Nat) ^ i ≤ 10 ^ 17 := Nat.pow_le_pow_right (by omega) (by omega)
    rw [pow17] at hp
    rw [hd, List.all_cons]
    cases hc : dgB t[i]
    · have hst : m_spec_l01Number_l1 t (acc : Int) (i : Int) = some (.inr (.inr (0, false))) := by
        unfold m_spec_l01Number_l1
        rw [decide_eq_true (by omega), cond_true, getL_at hi, Option.bind_some, l01Digit_eq, hc]
        rfl
      rw [loopM_done hst]
      rfl
    · have hc' := dgB_iff.1 hc
      have es : ((t[i] - 48).toNat : Int) = ((t[i].toNat - 48 : Nat) : Int) := by
        rw [UInt8.toNat_sub_of_le _ _ (by rw [UInt8.le_iff_toNat_le]; exact hc'.1)]
        rfl
      have hst : m_spec_l01Number_l1 t (acc : Int) (i : Int) = some (.inl (((10 * acc + (t[i].toNat - 48) : Nat) : Int), ((i + 1 : Nat) : Int))) := by
        unfold m_spec_l01Number_l1
        rw [decide_eq_true (by omega), cond_true, getL_at hi, Option.bind_some, l01Digit_eq, hc, Option.bind_some, Bool.not_true, cond_false, chk_in (by omega) (by omega), Option.bind_some, Option.bind_some, es, chk_in (by omega) (by omega), Option.bind_some, chk_succ (by omega), Option.bind_some]
        rfl
      rw [loopM_next hst, numLoop t hl k (i + 1) _ (by omega) (by rw [Nat.pow_succ]; omega), Bool.true_and]
      rfl

/-- What the reference reads as a number. -/
def rdN (s : Str) : Int × Bool := bif decide ((trimM s).length < 1) || decide (18 < (trimM s).length) then (0, false) else bif (trimM s).all dgB then (bif Lib.itoa (bif decide ((trimM s).length < s.length) then -((fold10 0 (trimM s) : Nat) : Int) else ((fold10 0 (trimM s) : Nat) : Int)) != s then (0, false) else (bif decide ((trimM s).length < s.length) then -((fold10 0 (trimM s) : Nat) : Int) else ((fold10 0 (trimM s) : Nat) : Int), true)) else (0, false)

theorem l01Number_eq (s : Str) (h : s.length ≤ 1048576) : m_spec_l01Number s = some (rdN s) := by
  have hT : (((bif s != ([] : Str) then (getL s 0).bind fun c12 => some (c12 == 45) else some false : Option Bool).bind fun t7 => bif t7 then (subL s 1 (s.length : Int)).bind fun s18 => some s18 else some s) : Option Str) = some (trimM s) := by
    cases s with
    | nil => rfl
    | cons c t =>
      have e1 : getL (c :: t) 0 = some c := rfl
      have e2 : trimM (c :: t) = bif c == 45 then t else c :: t := by
        unfold trimM
        show (bif [c] == [45] then t else c :: t) = _
        have : ([c] == ([45] : Str)) = (c == 45) := by rw [Bool.eq_iff_iff]; simp
        rw [this]
      rw [e1, e2]
      show (bif c == 45 then _ else _) = _
      cases c == 45
      · rfl
      · rw [cond_true, cond_true, subL_of (by omega) (by rw [List.length_cons]; omega) (Int.le_refl _)]
        rw [Option.bind_some, List.length_cons, List.take_of_length_le (by rw [List.length_drop, List.length_cons]; omega)]
        rfl
  obtain ⟨t1, t2⟩ := trimM_len s
  unfold m_spec_l01Number rdN
  rw [hT, Option.bind_some, show decide (((trimM s).length : Int) < 1) = decide ((trimM s).length < 1) from decide_eq_decide.2 (by omega), show decide (18 < ((trimM s).length : Int)) = decide (18 < (trimM s).length) from decide_eq_decide.2 (by omega), show decide (((trimM s).length : Int) < (s.length : Int)) = decide ((trimM s).length < s.length) from decide_eq_decide.2 (by omega)]
  by_cases h1 : (trimM s).length < 1
  · rw [decide_eq_true h1]; rfl
  by_cases h2 : 18 < (trimM s).length
  · rw [decide_eq_false h1, decide_eq_true h2]; rfl
  rw [decide_eq_false h1, decide_eq_false h2]
  have hL := numLoop (trimM s) (by omega) (trimM s).length 0 0 (by omega) (by decide)
  rw [List.drop_zero] at hL
  show ((loopM (fun s_1 : Int × Int => m_spec_l01Number_l1 (trimM s) s_1.1 s_1.2) (0, 0)).bind _).bind _ = _
  rw [show ((0 : Int), (0 : Int)) = (((0 : Nat) : Int), ((0 : Nat) : Int)) from rfl, hL, Option.bind_some]
  cases hall : (trimM s).all dgB
  · rfl
  have hf := fold10_lt (trimM s) 0 0 (by decide) hall
  have hp : (10 : Nat) ^ (0 + (trimM s).length) ≤ 10 ^ 18 := Nat.pow_le_pow_right (by omega) (by omega)
  rw [pow18] at hp
  simp only [cond_true, Bool.or_false, cond_false, Option.bind_some]
  cases decide ((trimM s).length < s.length)
  · rw [cond_false, cond_false, Option.bind_some, l01Dec_eq ⟨by omega, by omega⟩, Option.bind_some]
    cases Lib.itoa ((fold10 0 (trimM s) : Nat) : Int) != s <;> rfl
  · rw [cond_true, cond_true, chk_in (by omega) (by omega), Option.bind_some, Option.bind_some, l01Dec_eq ⟨by omega, by omega⟩, Option.bind_some]
    cases Lib.itoa (-((fold10 0 (trimM s) : Nat) : Int)) != s <;> rfl

theorem rdN_small (s : Str) : (-1000000000000000000 < (rdN s).1 ∧ (rdN s).1 < 1000000000000000000) ∧ ((rdN s).2 = true → Lib.itoa (rdN s).1 = s) := by
  unfold rdN
  by_cases h : (decide ((trimM s).length < 1) || decide (18 < (trimM s).length)) = true
  · rw [h, cond_true]; simp
  have h2 : ¬ 18 < (trimM s).length := fun hh => h (by simp [hh])
  rw [Bool.not_eq_true] at h
  rw [h, cond_false]
  cases (trimM s).all dgB
  · rw [cond_false]; simp
  rw [cond_true]
  generalize (bif decide ((trimM s).length < s.length) then -((fold10 0 (trimM s) : Nat) : Int) else ((fold10 0 (trimM s) : Nat) : Int)) = v
  by_cases he : Lib.itoa v = s
  · rw [bne_eq_false_iff_eq.2 he, cond_false]
    exact ⟨itoa_small (by rw [he]; omega), fun _ => he⟩
  · rw [bne_iff_ne.2 he, cond_true]; simp

theorem rdN_itoa {n : Int} (h0 : 0 ≤ n) (h1 : n < 1000000000000000000) : rdN (Lib.itoa n) = (n, true) := by
  have hl := itoa_len18 h0 h1
  have hd := dec_pos n.toNat
  obtain ⟨d1, d2⟩ := dec_digs n.toNat
  have ht : trimM (Lib.itoa n) = Lib.itoa n := by rw [itoa_nat h0, trimM_dec]
  have ha : (Lib.itoa n).all dgB = true := List.all_eq_true.2 (itoa_dgs h0)
  have hn : ((fold10 0 (Lib.itoa n) : Nat) : Int) = n := by rw [itoa_nat h0, d2]; omega
  unfold rdN
  rw [ht, decide_eq_false (by rw [itoa_nat h0]; omega), decide_eq_false (by omega), decide_eq_false (by omega), ha, hn]
  simp only [Bool.or_false, cond_false, cond_true, bne_self_eq_false]

end Go.Proofs.YtbekokenomhgeaaGreatDoor
