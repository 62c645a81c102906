/- Contracts of small functions over bytes and strings. -/
import Derived.Test.YtdngdgjlcfbdhaaInts
namespace Go.Proofs.Ytdngdgjlcfbdhaa
open Go.RowKit
set_option linter.unusedSimpArgs false
set_option linter.unusedVariables false
attribute [local go_sem ↓] Go.wp_at_zero Go.wp_at_succ

/-- A byte as the walk has it: a number. -/
def smallI (c : Int) : Bool := decide (97 ≤ c) && decide (c ≤ 122)
def capI (c : Int) : Bool := decide (65 ≤ c) && decide (c ≤ 90)
def digitI (c : Int) : Bool := decide (48 ≤ c) && decide (c ≤ 57)
def eqI (c d : Int) : Bool := c == d

/-- All of the first k bytes satisfy f. -/
def allTo (f : Int → Bool) (s : ByteArray) (k : Nat) : Bool := (s.data.toList.take k).all fun c => f c.toNat
def allB (f : Int → Bool) (s : ByteArray) : Bool := s.data.toList.all fun c => f c.toNat

theorem allTo_zero (f : Int → Bool) (s : ByteArray) : allTo f s 0 = true := rfl
theorem byte_at (s : ByteArray) (k : Nat) (h : k < s.size) : s.data.toList[k]? = some s[k] := by
  rw [List.getElem?_eq_getElem (by simpa using h)]; rfl
theorem allTo_succ (f : Int → Bool) (s : ByteArray) (k : Nat) (h : k < s.size) : allTo f s (k + 1) = (allTo f s k && f s[k].toNat) := by
  unfold allTo
  rw [List.take_add_one, byte_at s k h]
  simp
theorem allTo_full (f : Int → Bool) (s : ByteArray) : allTo f s s.size = allB f s := by
  unfold allTo allB
  rw [List.take_of_length_le (by simp)]
theorem allTo_no (f : Int → Bool) (s : ByteArray) (k : Nat) (h : k < s.size) (hf : f s[k].toNat = false) : allB f s = false := by
  unfold allB
  rw [List.all_eq_false]
  exact ⟨s[k], by have := byte_at s k h; exact List.mem_of_getElem? this, by simp [hf]⟩

theorem small_any (c : Int) (w : World) :
    Calls Try.prog 100 #[.int .u8 c] w fun e w' => e = .returned (.bool (smallI c)) ∧ w = w' := by
  go_enter Try.func100, Try.ntmps100
  go_wp2
  all_goals (go_ret; exact ⟨ret_bool (by simp [smallI, *]; try omega), rfl⟩)

theorem capital_any (c : Int) (w : World) :
    Calls Try.prog 134 #[.int .u8 c] w fun e w' => e = .returned (.bool (capI c)) ∧ w = w' := by
  go_enter Try.func134, Try.ntmps134
  go_wp2
  all_goals (go_ret; exact ⟨ret_bool (by simp [capI, *]; try omega), rfl⟩)

theorem digit_any (c : Int) (w : World) :
    Calls Try.prog 126 #[.int .u8 c] w fun e w' => e = .returned (.bool (digitI c)) ∧ w = w' := by
  go_enter Try.func126, Try.ntmps126
  go_wp2
  all_goals (go_ret; exact ⟨ret_bool (by simp [digitI, *]; try omega), rfl⟩)

theorem l01Small_any (c : Int) (w : World) :
    Calls Try.prog 99 #[.int .u8 c] w fun e w' => e = .returned (.bool (smallI c)) ∧ w = w' := by
  go_enter Try.func99, Try.ntmps99
  go_wp2
  all_goals (go_ret; exact ⟨ret_bool (by simp [smallI, *]; try omega), rfl⟩)

theorem l01Digit_any (c : Int) (w : World) :
    Calls Try.prog 139 #[.int .u8 c] w fun e w' => e = .returned (.bool (digitI c)) ∧ w = w' := by
  go_enter Try.func139, Try.ntmps139
  go_wp2
  all_goals (go_ret; exact ⟨ret_bool (by simp [digitI, *]; try omega), rfl⟩)

theorem l03Capital_any (c : Int) (w : World) :
    Calls Try.prog 140 #[.int .u8 c] w fun e w' => e = .returned (.bool (capI c)) ∧ w = w' := by
  go_enter Try.func140, Try.ntmps140
  go_wp2
  all_goals (go_ret; exact ⟨ret_bool (by simp [capI, *]; try omega), rfl⟩)

/-- A byte of a grid. -/
def gridI (c : Int) : Bool := c == 35 || c == 46 || smallI c

theorem gridByte_any (c : Int) (w : World) :
    Calls Try.prog 60 #[.int .u8 c] w fun e w' => e = .returned (.bool (gridI c)) ∧ w = w' := by
  go_enter Try.func60, Try.ntmps60
  go_wp2_with (first | (go_at_call 100; refine (small_any _ _).mono ?_; rintro e w' ⟨rfl, rfl⟩))
  all_goals (go_ret; exact ⟨ret_bool (by simp [gridI, *]), rfl⟩)

/-- allBytes, at whatever function of one byte that only computes. -/
theorem allBytes_any (fn : FuncId) (eg : Ent Try.prog fn) (f : Int → Bool) (hf : ∀ (c : Int) (w : World), Calls Try.prog fn #[.int .u8 c] w fun e w' => e = .returned (.bool (f c)) ∧ w = w') (s : ByteArray) (w : World) (hs : s.size ≤ maxLen) :
    Calls Try.prog 59 #[.string s, .func (.func fn) #[] #[]] w fun e w' => e = .returned (.bool (allB f s)) ∧ w = w' := by
  unfold maxLen at hs
  have HF := Lib.hid hf
  clear hf
  unfold Ent at eg
  go_enter Try.func59, Try.ntmps59
  go_wp2
  go_loop [5] (fun i => ∃ k : Nat, k ≤ s.size ∧ i = .int .i64 k ∧ allTo f s k = true) (fun i => s.size - (intOf i).toNat)
  case atStart => exact ⟨0, Nat.zero_le _, rfl, allTo_zero _ _⟩
  case round =>
    obtain ⟨k, hk, rfl, hall⟩ := hrel
    have HA := Lib.hid hall
    clear hall
    by_cases hlt : k < s.size
    · have HS := Lib.hid (allTo_succ f s k hlt)
      have HN := Lib.hid (allTo_no f s k hlt)
      cases hc : f s[k].toNat
      · have HC := Lib.hid hc
        clear hc
        go_wp2_with ((with_reducible refine (HF.out _ _).mono ?_); rintro e w' ⟨rfl, rfl⟩; rw [HC.out])
        go_ret
        exact ⟨ret_bool (HN.out HC.out).symm, rfl⟩
      · have HC := Lib.hid hc
        clear hc
        go_wp2_with ((with_reducible refine (HF.out _ _).mono ?_); rintro e w' ⟨rfl, rfl⟩; rw [HC.out])
        exact ⟨⟨k + 1, by omega, by go_num, by rw [HS.out, HA.out, HC.out]; rfl⟩, by simp [intOf]; omega⟩
    · have hk' : k = s.size := by omega
      go_wp2
      go_ret
      subst hk'
      exact ⟨ret_bool (by rw [← allTo_full, HA.out]), rfl⟩

end Go.Proofs.Ytdngdgjlcfbdhaa
