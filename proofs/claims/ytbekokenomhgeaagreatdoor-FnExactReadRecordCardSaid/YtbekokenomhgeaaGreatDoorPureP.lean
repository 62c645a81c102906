/- Words on a board, plays and moves as texts. -/
import Derived.Test.YtbekokenomhgeaaGreatDoorPureN
import Derived.Lib.MapLaws
import Derived.Lib.TrimU
import Derived.Lib.Case
import Derived.Shelf.Strings.CaseAny
namespace Go.Proofs.YtbekokenomhgeaaGreatDoor
open Go Go.RowKit
set_option linter.unusedSimpArgs false
set_option linter.unusedVariables false

def wordP (s : Str) : Bool := s.all smB && inB s.length 1 12

theorem IsWordP_eq (s : Str) (hl : s.length ≤ 8000000000000000000) : m_impl_IsWord s = some (wordP s) := by
  unfold m_impl_IsWord wordP m_impl_onlySmall
  have h := loop_all (step := fun i : Int => m_impl_onlySmall_l1 s i) (fun i => (s[i]?.map smB).getD true) s.length (.inl () : Unit ⊕ Bool) (.inr false) (fun i hi => by
      unfold m_impl_onlySmall_l1
      rw [decide_eq_true (by omega : (i : Int) < s.length), cond_true, getL_at hi, Option.bind_some, small_eq, Option.bind_some, chk_succ (by omega), List.getElem?_eq_getElem hi, Option.map_some, Option.getD_some]
      cases smB s[i] <;> rfl)
    (by unfold m_impl_onlySmall_l1; rw [decide_eq_false (by omega)]; rfl) s.length 0 (by omega)
  rw [show ((0 : Nat) : Int) = 0 from rfl, all_idx] at h
  rw [h]
  unfold inB
  by_cases h1 : 1 ≤ (s.length : Int)
  · by_cases h2 : (s.length : Int) ≤ 12
    · rw [decide_eq_true h1, decide_eq_true h2]; cases s.all smB <;> rfl
    · rw [decide_eq_true h1, decide_eq_false h2]; cases s.all smB <;> rfl
  · rw [decide_eq_false h1]; cases s.all smB <;> rfl

/-! ### Lower case -/

theorem smB_iff {c : UInt8} : smB c = true ↔ 97 ≤ c.toNat ∧ c.toNat ≤ 122 := by
  unfold smB
  simp only [Bool.and_eq_true, decide_eq_true_eq, UInt8.le_iff_toNat_le]
  exact Iff.rfl

theorem byte_toNat {x : Int} (h0 : 0 ≤ x) (h1 : x < 256) : ((x.toNat.toUInt8).toNat : Int) = x := by
  have : x.toNat.toUInt8.toNat = x.toNat % 256 := by simp [Nat.toUInt8]
  rw [this]
  omega

/-- What is written as small letters alone is one small letter. -/
theorem enc_small {r : Int} (h : (Lib.encodeRune r).all smB = true) : 97 ≤ r ∧ r ≤ 122 ∧ (Lib.encodeRune r).length = 1 := by
  unfold Lib.encodeRune at h ⊢
  unfold Lib.encodeRuneZ at h ⊢
  split at h
  · rename_i h1
    rw [if_pos h1]
    simp only [List.map_cons, List.map_nil, List.all_cons, List.all_nil, Bool.and_true] at h
    rw [smB_iff] at h
    have := byte_toNat h1.1 (by omega)
    exact ⟨by omega, by omega, rfl⟩
  · rename_i h1
    rw [if_neg h1]
    split at h
    · rename_i h2
      simp only [List.map_cons, List.map_nil, List.all_cons, Bool.and_eq_true] at h
      have h' := smB_iff.1 h.1
      have := byte_toNat (x := 192 + r / 64) (by omega) (by omega)
      omega
    · rename_i h2
      rw [if_neg h2]
      split at h
      · rename_i h3
        simp only [List.map_cons, List.map_nil, List.all_cons, Bool.and_eq_true] at h
        have h' := smB_iff.1 h.1
        have := byte_toNat (x := 224 + r / 4096) (by omega) (by omega)
        omega
      · rename_i h3
        split at h
        · rename_i h4
          simp only [List.map_cons, List.map_nil, List.all_cons, Bool.and_eq_true] at h
          have h' := smB_iff.1 h.1
          have := byte_toNat (x := 240 + r / 262144) (by omega) (by omega)
          omega
        · simp only [List.map_cons, List.map_nil, List.all_cons, Bool.and_eq_true] at h
          have h' := smB_iff.1 h.1
          have e : ((239 : Int).toNat.toUInt8).toNat = 239 := rfl
          omega

theorem enc_len (r : Int) : (Lib.encodeRune r).length ≤ 4 := by
  unfold Lib.encodeRune Lib.encodeRuneZ
  rw [List.length_map]
  repeat' split
  all_goals simp

/-- A byte from 128 on that is decoded by itself is no rune. -/
theorem decode_bad' (s : ByteArray) (i : Nat) (hb : 128 ≤ (s.get! (i + 0)).toNat) : (Utf8.decode s i).2 = 1 → (Utf8.decode s i).1 = 65533 := by
  simp only [Utf8.decode]
  rw [if_neg (by omega)]
  repeat' split
  all_goals simp [Utf8.runeError]

theorem decode_bad {b : UInt8} {t : Str} (hb : 128 ≤ b.toNat) (h : (Lib.decodeL (b :: t)).2 = 1) : (Lib.decodeL (b :: t)).1 = 65533 := decode_bad' ⟨(b :: t).toArray⟩ 0 hb h

theorem low_bad : Lib.toLowerU 65533 = 65533 := by kernel_rfl

theorem lowerD_nil : Lib.toLowerD [] = [] := rfl

theorem lowerD_cons (b : UInt8) (t : Str) : Lib.toLowerD (b :: t) = (if 0 ≤ Lib.toLowerU (Lib.decodeL (b :: t)).1 then Lib.encodeRune (Lib.toLowerU (Lib.decodeL (b :: t)).1) else []) ++ Lib.toLowerD ((b :: t).drop (Lib.decodeL (b :: t)).2) :=
  Lib.mapD_step Lib.toLowerU (b :: t) (by simp)

theorem lowerD_len : ∀ (n : Nat) (l : Str), l.length ≤ n → (Lib.toLowerD l).length ≤ 4 * l.length
  | _, [], _ => by rw [lowerD_nil]; simp
  | 0, b :: t, h => by simp at h
  | n + 1, b :: t, h => by
    have hk := Lib.decodeL_width (b :: t)
    have hd : ((b :: t).drop (Lib.decodeL (b :: t)).2).length ≤ n := by rw [List.length_drop]; omega
    have ih := lowerD_len n _ hd
    have hle := Lib.decodeL_le (b :: t) (by simp)
    rw [lowerD_cons, List.length_append]
    rw [List.length_drop] at ih
    split
    · have := enc_len (Lib.toLowerU (Lib.decodeL (b :: t)).1); omega
    · simp only [List.length_nil]; omega

theorem lower_key : ∀ (n : Nat) (l : Str), l.length ≤ n → (Lib.toLowerD l).all smB = true → (Lib.toLowerD l).length ≤ l.length ∧ ((Lib.toLowerD l).length = l.length → ∀ b ∈ l, b.toNat < 128)
  | _, [], _, _ => ⟨by rw [lowerD_nil]; simp, fun _ b hb => by simp at hb⟩
  | 0, b :: t, h, _ => by simp at h
  | n + 1, b :: t, h, hs => by
    have hk := Lib.decodeL_width (b :: t)
    have hle := Lib.decodeL_le (b :: t) (by simp)
    have hd : ((b :: t).drop (Lib.decodeL (b :: t)).2).length ≤ n := by rw [List.length_drop]; omega
    rw [lowerD_cons, List.all_append, Bool.and_eq_true] at hs
    have ih := lower_key n _ hd hs.2
    rw [List.length_drop] at ih
    rw [lowerD_cons, List.length_append]
    by_cases h0 : 0 ≤ Lib.toLowerU (Lib.decodeL (b :: t)).1
    · rw [if_pos h0] at hs ⊢
      obtain ⟨e1, e2, e3⟩ := enc_small hs.1
      rw [e3]
      rcases Nat.lt_or_ge b.toNat 128 with hb | hb
      · have hdec := Lib.decodeL_ascii b t hb
        rw [hdec] at ih hle ⊢
        simp only [List.drop_succ_cons, List.drop_zero, List.length_cons] at ih hle ⊢
        refine ⟨by omega, fun he c hc => ?_⟩
        rcases List.mem_cons.1 hc with rfl | hc
        · exact hb
        · exact ih.2 (by omega) c hc
      · by_cases h1 : (Lib.decodeL (b :: t)).2 = 1
        · rw [decode_bad hb h1, show ((65533 : Nat) : Int) = 65533 from rfl, low_bad] at e1 e2
          omega
        · exact ⟨by omega, fun he => by omega⟩
    · rw [if_neg h0]
      simp only [List.length_nil]
      exact ⟨by omega, fun he => by omega⟩

/-! ### Words that are placed -/

def placedC (c : UInt8) : Bool := smB c || cpB c

def placedB (s : Str) : Bool := s.all placedC && inB s.length 1 12

theorem lowerB_small : ∀ n : Fin 128, smB (Lib.lowerB (UInt8.ofNat n.val)) = placedC (UInt8.ofNat n.val) := by decide +kernel

theorem lower_byte {c : UInt8} (h : c.toNat < 128) : smB (Lib.lowerB c) = placedC c := by
  have := lowerB_small ⟨c.toNat, h⟩
  simpa using this

theorem placed_lt {c : UInt8} (h : placedC c = true) : c.toNat < 128 := by
  unfold placedC cpB at h
  rcases Bool.or_eq_true_iff.1 h with h | h
  · have := smB_iff.1 h; omega
  · simp only [Bool.and_eq_true, decide_eq_true_eq, UInt8.le_iff_toNat_le] at h
    have e : (90 : UInt8).toNat = 90 := rfl
    omega

theorem lower_ascii {s : Str} (h : ∀ b ∈ s, b.toNat < 128) : (Lib.toLowerD s).all smB = s.all placedC ∧ (Lib.toLowerD s).length = s.length := by
  rw [Lib.toLowerD_ascii s h]
  unfold Lib.toLowerA
  refine ⟨?_, by simp⟩
  rw [List.all_map]
  rw [Bool.eq_iff_iff, List.all_eq_true, List.all_eq_true]
  constructor
  · intro hx c hc; rw [← lower_byte (h c hc)]; exact hx c hc
  · intro hx c hc; show smB (Lib.lowerB c) = true; rw [lower_byte (h c hc)]; exact hx c hc

theorem isPlaced_eq (s : Str) (hl : s.length ≤ 1048576) : m_impl_isPlaced s = some (placedB s) := by
  have h4 := lowerD_len s.length s (Nat.le_refl _)
  have hm : m_strings_ToLower s = some (Lib.toLowerD s) := by
    unfold m_strings_ToLower lim
    rw [decide_eq_true (by omega), decide_eq_true (by omega)]
    rfl
  unfold m_impl_isPlaced
  rw [hm, Option.bind_some, IsWordP_eq _ (by omega), Option.bind_some]
  have key : (wordP (Lib.toLowerD s) && ((s.length : Int) == ((Lib.toLowerD s).length : Int))) = placedB s := by
    rw [Bool.eq_iff_iff, Bool.and_eq_true, beq_iff_eq]
    unfold wordP placedB
    rw [Bool.and_eq_true, Bool.and_eq_true]
    constructor
    · rintro ⟨⟨h1, h2⟩, h3⟩
      have ha := (lower_key s.length s (Nat.le_refl _) h1).2 (by omega)
      obtain ⟨e1, e2⟩ := lower_ascii ha
      rw [e1] at h1
      rw [e2] at h2
      exact ⟨h1, h2⟩
    · rintro ⟨h1, h2⟩
      have ha : ∀ b ∈ s, b.toNat < 128 := fun b hb => placed_lt (List.all_eq_true.1 h1 b hb)
      obtain ⟨e1, e2⟩ := lower_ascii ha
      rw [e1, e2]
      exact ⟨⟨h1, h2⟩, rfl⟩
  rw [← key]
  cases wordP (Lib.toLowerD s)
  · rfl
  · simp

theorem l03Placed_eq (s : Str) (hl : s.length ≤ 8000000000000000000) : m_spec_l03Placed s = some (placedB s) := by
  unfold m_spec_l03Placed placedB
  have h := loop_all (step := fun i : Int => m_spec_l03Placed_l1 s i) (fun i => (s[i]?.map placedC).getD true) s.length (.inl () : Unit ⊕ Bool) (.inr false) (fun i hi => by
      unfold m_spec_l03Placed_l1 placedC
      rw [decide_eq_true (by omega : (i : Int) < s.length), cond_true, getL_at hi, Option.bind_some, l01Small_eq, Option.bind_some, chk_succ (by omega), List.getElem?_eq_getElem hi, Option.map_some, Option.getD_some]
      cases smB s[i]
      · simp only [Bool.not_false, cond_true, Option.bind_some, l03Capital_eq, Bool.false_or]
        cases cpB s[i] <;> rfl
      · rfl)
    (by unfold m_spec_l03Placed_l1; rw [decide_eq_false (by omega)]; rfl) s.length 0 (by omega)
  rw [show ((0 : Nat) : Int) = 0 from rfl, all_idx] at h
  rw [h, l00In_eq]
  cases s.all placedC <;> rfl

def mainB (s : Str) : Bool := decide (2 ≤ s.length) && placedB s

theorem isMain_eq (s : Str) (hl : s.length ≤ 1048576) : m_impl_isMain s = some (mainB s) := by
  unfold m_impl_isMain mainB
  rw [isPlaced_eq s hl, show decide (2 ≤ (s.length : Int)) = decide (2 ≤ s.length) by rw [Bool.eq_iff_iff]; simp; omega]
  cases decide (2 ≤ s.length) <;> rfl

theorem l12Word_eq (s : Str) (hl : s.length ≤ 1048576) : m_spec_l12Word s = some (mainB s) := by
  unfold m_spec_l12Word mainB
  rw [l03Placed_eq s (by omega), show decide (1 < (s.length : Int)) = decide (2 ≤ s.length) by rw [Bool.eq_iff_iff]; simp; omega]
  cases decide (2 ≤ s.length) <;> rfl

/-! ### Plays and moves -/

def plainB (p : Play) : Bool := inB p.Row 0 14 && inB p.Col 0 14 && mainB p.Word

def playT (p : Play) : Str := bif p.Down then [UInt8.ofNat (97 + p.Col).toNat] ++ Lib.itoa (p.Row + 1) ++ [32] ++ p.Word else Lib.itoa (p.Row + 1) ++ [UInt8.ofNat (97 + p.Col).toNat] ++ [32] ++ p.Word

theorem plainB_iff {p : Play} : plainB p = true ↔ (0 ≤ p.Row ∧ p.Row ≤ 14) ∧ (0 ≤ p.Col ∧ p.Col ≤ 14) ∧ mainB p.Word = true := by
  unfold plainB
  rw [Bool.and_eq_true, Bool.and_eq_true, inB_iff, inB_iff, and_assoc]

theorem mainB_len {s : Str} (h : mainB s = true) : s.length ≤ 12 := by
  unfold mainB placedB at h
  simp only [Bool.and_eq_true, inB_iff] at h
  omega

theorem playT_len {p : Play} (h : plainB p = true) : (playT p).length ≤ 40 ∧ (playT p == ([] : Str)) = false := by
  obtain ⟨h1, h2, h3⟩ := plainB_iff.1 h
  have hw := mainB_len h3
  have hi := itoa_le (n := p.Row + 1) ⟨by omega, by omega⟩
  unfold playT
  cases p.Down
  · simp; omega
  · simp; omega

theorem l12Plain_eq (p : Play) (hl : p.Word.length ≤ 1048576) : m_spec_l12Plain p = some (plainB p) := by
  unfold m_spec_l12Plain plainB
  rw [l00In_eq, l00In_eq, l12Word_eq _ hl]
  cases inB p.Row 0 14 <;> cases inB p.Col 0 14 <;> rfl

theorem PlayText_eq (p : Play) (hl : p.Word.length ≤ 1048576) : m_impl_PlayText p = some (bif plainB p then playT p else []) := by
  unfold m_impl_PlayText
  rw [within_eq, within_eq, isMain_eq _ hl]
  have ht : (((some (inB p.Row 0 14)).bind fun y13 => bif !y13 then some true else (some (inB p.Col 0 14)).bind fun y20 => bif !y20 then some true else (some (mainB p.Word)).bind fun y27 => some (!y27)) : Option Bool) = some (!plainB p) := by
    unfold plainB
    cases inB p.Row 0 14 <;> cases inB p.Col 0 14 <;> rfl
  rw [ht, Option.bind_some]
  cases hp : plainB p
  · rfl
  obtain ⟨h1, h2, h3⟩ := plainB_iff.1 hp
  have hw := mainB_len h3
  have hi := itoa_le (n := p.Row + 1) ⟨by omega, by omega⟩
  have e32 : chk32 (97 + p.Col) = some (97 + p.Col) := by
    unfold chk32
    rw [decide_eq_true (by omega), decide_eq_true (by omega)]
    rfl
  have eR : encR (97 + p.Col) = some [UInt8.ofNat (97 + p.Col).toNat] := by
    unfold encR
    rw [decide_eq_true (by omega), decide_eq_true (by omega)]
    rfl
  unfold playT
  rw [Bool.not_true, cond_false, cond_true, chk_in (by omega) (by omega), Option.bind_some, chk_in (by omega) (by omega), Option.bind_some, e32, Option.bind_some, eR, Option.bind_some, Decimal_eq, Option.bind_some]
  cases p.Down
  · rw [cond_false, cond_false, catL_of (by simp; omega), Option.bind_some, catL_of (by simp; omega), Option.bind_some, catL_of (by simp; omega), Option.bind_some]
  · rw [cond_true, cond_true, catL_of (by simp; omega), Option.bind_some, catL_of (by simp; omega), Option.bind_some, catL_of (by simp; omega), Option.bind_some]

end Go.Proofs.YtbekokenomhgeaaGreatDoor
