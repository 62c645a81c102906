/- Plays read back from their texts. -/
import Derived.Test.YtbekokenomhgeaaGreatDoorPureLa
import Derived.Test.YtbekokenomhgeaaGreatDoorPureP
import Derived.Test.YtbekokenomhgeaaGreatDoorPureS
import Derived.Lib.IndexBytes
namespace Go.Proofs.YtbekokenomhgeaaGreatDoor
open Go Go.RowKit
set_option linter.unusedSimpArgs false
set_option linter.unusedVariables false

theorem indexByte_at {c : UInt8} : ∀ {a : Str} (b : Str), c ∉ a → Lib.indexByte (a ++ c :: b) c = a.length
  | [], b, _ => by simp [Lib.indexByte]
  | x :: a, b, h => by
    have hx : (x == c) = false := beq_eq_false_iff_ne.2 (fun e => h (by rw [e]; exact List.mem_cons_self))
    have ih := indexByte_at (a := a) b (fun hm => h (List.mem_cons_of_mem _ hm))
    rw [List.cons_append, Lib.indexByte, hx, ih, if_neg (by simp), if_neg (by rw [beq_iff_eq]; omega), List.length_cons]
    omega

theorem cut_at {c : UInt8} {a : Str} (b : Str) (h : c ∉ a) : Lib.cut (a ++ c :: b) [c] = (a, b, true) := by
  unfold Lib.cut
  rw [Lib.index_one, indexByte_at b h, if_pos (by omega), Int.toNat_natCast, List.take_left' rfl]
  have e : (a ++ c :: b).drop (a.length + ([c] : Str).length) = b := by
    rw [show a ++ c :: b = (a ++ [c]) ++ b by simp]
    exact List.drop_left' (by simp)
  rw [e]

theorem splitC_none {c : UInt8} {a : Str} (h : c ∉ a) : splitC c a = [a] := by
  have := splitC_pre c a [] h
  rw [List.append_nil] at this
  rw [this]
  simp [splitC, preS]

theorem splitC_at {c : UInt8} {a : Str} (b : Str) (h : c ∉ a) : splitC c (a ++ c :: b) = a :: splitC c b := by
  rw [splitC_pre c a (c :: b) h, splitC, beq_self_eq_true, cond_true]
  simp [preS]

theorem dg_no32 {c : UInt8} (h : dgB c = true) : c ≠ 32 := fun e => by
  have := dgB_iff.1 h
  rw [e] at this
  have e32 : (32 : UInt8).toNat = 32 := rfl
  omega

theorem placed_no32 {c : UInt8} (h : placedC c = true) : c ≠ 32 := fun e => by
  subst e
  revert h
  decide

theorem mainB_no32 {s : Str} (h : mainB s = true) : (32 : UInt8) ∉ s := fun hm => by
  unfold mainB placedB at h
  simp only [Bool.and_eq_true] at h
  exact placed_no32 (List.all_eq_true.1 h.2.1 _ hm) rfl

def colT (p : Play) : UInt8 := UInt8.ofNat (97 + p.Col).toNat

def placeT (p : Play) : Str := bif p.Down then colT p :: Lib.itoa (p.Row + 1) else Lib.itoa (p.Row + 1) ++ [colT p]

theorem playT_split (p : Play) : playT p = placeT p ++ 32 :: p.Word := by
  unfold playT placeT colT
  cases p.Down <;> simp

theorem colT_nat {p : Play} (h : plainB p = true) : ((colT p).toNat : Int) = 97 + p.Col ∧ smB (colT p) = true ∧ colT p ≠ 32 := by
  obtain ⟨_, h2, _⟩ := plainB_iff.1 h
  have e : (colT p).toNat = (97 + p.Col).toNat := by
    unfold colT
    rw [UInt8.toNat_ofNat']
    omega
  have e32 : (32 : UInt8).toNat = 32 := rfl
  exact ⟨by omega, by rw [smB_iff]; omega, fun e0 => by rw [e0] at e; omega⟩

theorem itoa_no32 {n : Int} (h : 0 ≤ n) : (32 : UInt8) ∉ Lib.itoa n := fun hm => dg_no32 (itoa_dgs h _ hm) rfl

theorem placeT_no32 {p : Play} (h : plainB p = true) : (32 : UInt8) ∉ placeT p := fun hm => by
  obtain ⟨h1, h2, h3⟩ := plainB_iff.1 h
  have h4 := (colT_nat h).2.2
  have h5 := itoa_no32 (n := p.Row + 1) (by omega)
  unfold placeT at hm
  cases hd : p.Down
  · rw [hd, cond_false, List.mem_append, List.mem_singleton] at hm
    exact hm.elim h5 fun e => h4 e.symm
  · rw [hd, cond_true, List.mem_cons] at hm
    exact hm.elim (fun e => h4 e.symm) h5

theorem placeT_len {p : Play} (h : plainB p = true) : 2 ≤ (placeT p).length ∧ (placeT p).length ≤ 25 := by
  obtain ⟨h1, h2, h3⟩ := plainB_iff.1 h
  have hi := itoa_le (n := p.Row + 1) ⟨by omega, by omega⟩
  have hp := dec_pos (p.Row + 1).toNat
  rw [← itoa_nat (by omega)] at hp
  unfold placeT
  cases p.Down
  · simp; omega
  · simp; omega

/-- The number of a place. -/
def numOf (place : Str) : Str := bif smB (place.getD 0 0) then place.drop 1 else place.take (place.length - 1)

def colOf (place : Str) : UInt8 := bif smB (place.getD 0 0) then place.getD 0 0 else place.getD (place.length - 1) 0

def playOf (row : Int) (place word : Str) : Play := ⟨row - 1, ((colOf place).toNat : Int) - 97, smB (place.getD 0 0), word⟩

theorem dg_nosm {c : UInt8} (h : dgB c = true) : smB c = false := by
  rw [← Bool.not_eq_true, smB_iff]
  have := dgB_iff.1 h
  omega

theorem place_of {p : Play} (h : plainB p = true) : numOf (placeT p) = Lib.itoa (p.Row + 1) ∧ playOf (p.Row + 1) (placeT p) p.Word = p := by
  obtain ⟨h1, h2, h3⟩ := plainB_iff.1 h
  obtain ⟨c1, c2, c3⟩ := colT_nat h
  have hp := dec_pos (p.Row + 1).toNat
  rw [← itoa_nat (by omega)] at hp
  have hdg := itoa_dgs (n := p.Row + 1) (by omega)
  obtain ⟨r, c, d, w⟩ := p
  unfold placeT
  cases d
  · simp only [cond_false]
    generalize hc : colT ⟨r, c, false, w⟩ = k at c1 c2 c3 ⊢
    generalize hn : Lib.itoa ((⟨r, c, false, w⟩ : Play).Row + 1) = n at hp hdg ⊢
    cases n with
    | nil => simp at hp
    | cons x t =>
      have hx := dg_nosm (hdg x List.mem_cons_self)
      have e0 : ((x :: t) ++ [k]).getD 0 0 = x := rfl
      have el : ((x :: t) ++ [k]).getD (((x :: t) ++ [k]).length - 1) 0 = k := by simp [List.getD]
      have et : ((x :: t) ++ [k]).take (((x :: t) ++ [k]).length - 1) = x :: t := by
        rw [List.length_append, List.length_singleton, Nat.add_sub_cancel]
        exact List.take_left' rfl
      unfold numOf playOf colOf
      rw [e0, hx, cond_false, cond_false, et, el, c1]
      refine ⟨rfl, ?_⟩
      congr 1
      · omega
      · show 97 + c - 97 = c
        omega
  · simp only [cond_true]
    generalize hc : colT ⟨r, c, true, w⟩ = k at c1 c2 c3 ⊢
    unfold numOf playOf colOf
    have e0 : (k :: Lib.itoa ((⟨r, c, true, w⟩ : Play).Row + 1)).getD 0 0 = k := rfl
    rw [e0, c2, cond_true, cond_true, c1]
    refine ⟨rfl, ?_⟩
    congr 1
    · show r + 1 - 1 = r
      omega
    · show 97 + c - 97 = c
      omega

theorem byte_back {c : UInt8} {z : Int} (h : z = (c.toNat : Int) - 97) (h0 : 0 ≤ z) : UInt8.ofNat (97 + z).toNat = c := by
  rw [show (97 + z).toNat = c.toNat by omega]
  simp

theorem play_of_text {n : Int} {place word : Str} (hl : 2 ≤ place.length) (hp : plainB (playOf n place word) = true) (hn : Lib.itoa n = numOf place) : playT (playOf n place word) = place ++ 32 :: word := by
  obtain ⟨_, h2, _⟩ := plainB_iff.1 hp
  rw [playT_split]
  have hw : (playOf n place word).Word = word := rfl
  rw [hw]
  congr 1
  have hr : (playOf n place word).Row + 1 = n := by show n - 1 + 1 = n; omega
  have hcol : colT (playOf n place word) = colOf place := byte_back rfl h2.1
  unfold placeT
  rw [hr, hcol, hn]
  show (bif smB (place.getD 0 0) then _ else _) = place
  unfold colOf numOf
  cases place with
  | nil => simp at hl
  | cons x t =>
    have e0 : (x :: t).getD 0 0 = x := rfl
    rw [e0]
    cases smB x
    · simp only [cond_false]
      have ht : t ≠ [] := by intro e; subst e; simp at hl
      have hlen : (x :: t).length - 1 < (x :: t).length := by simp
      have el : (x :: t).getD ((x :: t).length - 1) 0 = (x :: t)[(x :: t).length - 1] := by simp [List.getD]
      rw [el]
      have := List.take_append_getElem hlen
      rw [this, List.take_of_length_le (by simp)]
    · rfl

/-! ### The program's -/

def zeroP : Play := ⟨0, 0, false, ([] : Str)⟩

def rdP (s : Str) : Play × Bool := bif decide ((Lib.cut s [32]).1.length < 2) then (zeroP, false) else bif (s == ([] : Str)) || ((bif plainB (playOf (rdD (numOf (Lib.cut s [32]).1)).1 (Lib.cut s [32]).1 (Lib.cut s [32]).2.1) then playT (playOf (rdD (numOf (Lib.cut s [32]).1)).1 (Lib.cut s [32]).1 (Lib.cut s [32]).2.1) else []) != s) then (zeroP, false) else (playOf (rdD (numOf (Lib.cut s [32]).1)).1 (Lib.cut s [32]).1 (Lib.cut s [32]).2.1, true)

theorem getL_getD {s : Str} {z : Int} (i : Nat) (hz : z = i) (h : i < s.length) : getL s z = some (s.getD i 0) := by
  rw [getL_of i hz h]
  simp [List.getD, List.getElem?_eq_getElem h]

theorem ReadPlay_eq (s : Str) (h : s.length ≤ 1048576) : m_impl_ReadPlay s = some (rdP s) := by
  obtain ⟨l1, l2⟩ := cut_le s [32]
  unfold m_impl_ReadPlay m_strings_Cut rdP
  rw [decide_eq_true (by unfold lim; omega), cond_true, Option.bind_some]
  generalize Lib.cut s [32] = q at l1 l2 ⊢
  obtain ⟨place, word, b⟩ := q
  simp only at l1 l2 ⊢
  rw [show decide ((place.length : Int) < 2) = decide (place.length < 2) from decide_eq_decide.2 (by omega)]
  by_cases h2 : place.length < 2
  · rw [decide_eq_true h2]; rfl
  rw [decide_eq_false h2, cond_false, cond_false, getL_getD (z := 0) 0 rfl (by omega), Option.bind_some, small_eq, Option.bind_some, chk_to (((place.length - 1 : Nat) : Int)) (by omega) (by omega) (by omega), Option.bind_some, subL_of (by omega) (by omega) (by omega), Option.bind_some, Option.bind_some, getL_getD (place.length - 1) rfl (by omega), Option.bind_some, subL_of (by omega) (by omega) (Int.le_refl _), Option.bind_some, Option.bind_some]
  have hb : (bif smB (place.getD 0 0) then some ((place.drop (1 : Int).toNat).take ((place.length : Int).toNat - (1 : Int).toNat), place.getD 0 0) else some ((place.drop (0 : Int).toNat).take (((place.length - 1 : Nat) : Int).toNat - (0 : Int).toNat), place.getD (place.length - 1) 0) : Option (Str × UInt8)) = some (numOf place, colOf place) := by
    unfold numOf colOf
    cases smB (place.getD 0 0)
    · simp
    · rw [cond_true, cond_true, cond_true, List.take_of_length_le (by rw [List.length_drop]; omega)]
      rfl
  rw [hb, Option.bind_some]
  have hn : (numOf place).length ≤ 1048576 := by
    unfold numOf
    cases smB (place.getD 0 0)
    · rw [cond_false, List.length_take]; omega
    · rw [cond_true, List.length_drop]; omega
  have hr := rdD_small (numOf place)
  have hc := (colOf place).toNat_lt
  show ((m_impl_ReadDecimal (numOf place)).bind fun y57 => (chk (y57.1 - 1)).bind fun z63 => (chk (((colOf place).toNat : Int) - 97)).bind _) = _
  rw [ReadDecimal_eq _ hn, Option.bind_some, chk_in (by omega) (by omega), Option.bind_some, chk_in (by omega) (by omega), Option.bind_some]
  show (((bif s == ([] : Str) then some true else (m_impl_PlayText (playOf (rdD (numOf place)).1 place word)).bind fun y79 => some (y79 != s) : Option Bool)).bind fun t73 => bif t73 then some (zeroP, false) else some (playOf (rdD (numOf place)).1 place word, true)) = _
  rw [PlayText_eq _ (by show word.length ≤ _; omega), Option.bind_some]
  cases s == ([] : Str)
  · simp only [cond_false, Option.bind_some, Bool.false_or]
    cases (bif plainB (playOf (rdD (numOf place)).1 place word) then playT (playOf (rdD (numOf place)).1 place word) else []) != s <;> rfl
  · rfl

theorem rdP_word (s : Str) : (rdP s).1.Word.length ≤ s.length := by
  obtain ⟨l1, l2⟩ := cut_le s [32]
  unfold rdP
  cases decide ((Lib.cut s [32]).1.length < 2)
  · rw [cond_false]
    cases ((s == ([] : Str)) || ((bif plainB (playOf (rdD (numOf (Lib.cut s [32]).1)).1 (Lib.cut s [32]).1 (Lib.cut s [32]).2.1) then playT (playOf (rdD (numOf (Lib.cut s [32]).1)).1 (Lib.cut s [32]).1 (Lib.cut s [32]).2.1) else []) != s))
    · exact l2
    · exact Nat.zero_le _
  · exact Nat.zero_le _

theorem rdP_play {p : Play} (h : plainB p = true) : rdP (playT p) = (p, true) := by
  obtain ⟨h1, h2, h3⟩ := plainB_iff.1 h
  have hc : Lib.cut (playT p) [32] = (placeT p, p.Word, true) := by rw [playT_split]; exact cut_at _ (placeT_no32 h)
  obtain ⟨e1, e2⟩ := place_of h
  have hl := (placeT_len h).1
  unfold rdP
  rw [hc]
  simp only
  rw [decide_eq_false (by omega), cond_false, e1, rdD_itoa (by omega) (by omega)]
  simp only
  rw [e2, h, cond_true, (playT_len h).2, bne_self_eq_false]
  rfl

/-! ### The reference's -/

def rdPs (s : Str) : Play × Bool := bif !decide ((splitC 32 s).length = 2) || decide (((splitC 32 s).getD 0 []).length < 2) then (zeroP, false) else bif !(rdN (numOf ((splitC 32 s).getD 0 []))).2 || !plainB (playOf (rdN (numOf ((splitC 32 s).getD 0 []))).1 ((splitC 32 s).getD 0 []) ((splitC 32 s).getD 1 [])) then (zeroP, false) else (playOf (rdN (numOf ((splitC 32 s).getD 0 []))).1 ((splitC 32 s).getD 0 []) ((splitC 32 s).getD 1 []), true)

theorem splitC_mem (c : UInt8) (s : Str) {x : Str} (hx : x ∈ splitC c s) : x.length ≤ s.length := by
  exact Nat.le_trans (List.sublist_flatten_of_mem hx).length_le (splitC_flat c s)

theorem l12Read_eq (s : Str) (h : s.length ≤ 1048576) : m_spec_l12Read s = some (rdPs s) := by
  have hm : ∀ x ∈ splitC 32 s, x.length ≤ 1048576 := fun x hx => Nat.le_trans (splitC_mem 32 s hx) h
  unfold m_spec_l12Read rdPs
  rw [l01Split_eq 32 s h, Option.bind_some]
  generalize splitC 32 s = w at hm ⊢
  by_cases h2 : w.length = 2
  case neg =>
    rw [show ((w.length : Int) != 2) = true by rw [bne_iff_ne]; omega, decide_eq_false h2]
    rfl
  obtain ⟨place, word, rfl⟩ : ∃ a b, w = [a, b] := by
    match w, h2 with
    | [a, b], _ => exact ⟨a, b, rfl⟩
  have hp := hm place (by simp)
  have hw := hm word (by simp)
  have g0 : getL [place, word] 0 = some place := rfl
  have g1 : getL [place, word] 1 = some word := rfl
  rw [g0, g1]
  show ((some (decide ((place.length : Int) < 2)) : Option Bool).bind _) = (some (bif decide (place.length < 2) then (zeroP, false) else bif !(rdN (numOf place)).2 || !plainB (playOf (rdN (numOf place)).1 place word) then (zeroP, false) else (playOf (rdN (numOf place)).1 place word, true)) : Option (Play × Bool))
  rw [Option.bind_some, show decide ((place.length : Int) < 2) = decide (place.length < 2) from decide_eq_decide.2 (by omega)]
  by_cases hl : place.length < 2
  · rw [decide_eq_true hl]; rfl
  rw [decide_eq_false hl, cond_false, cond_false]
  simp only [Option.bind_some]
  rw [getL_getD (z := 0) 0 rfl (by omega), Option.bind_some, l01Small_eq, Option.bind_some, chk_to (((place.length - 1 : Nat) : Int)) (by omega) (by omega) (by omega), Option.bind_some, getL_getD (place.length - 1) rfl (by omega), Option.bind_some, Option.bind_some, subL_of (by omega) (by omega) (by omega), Option.bind_some, Option.bind_some, subL_of (by omega) (by omega) (Int.le_refl _), Option.bind_some]
  have hb : (bif smB (place.getD 0 0) then some (place.getD 0 0, (place.drop (1 : Int).toNat).take ((place.length : Int).toNat - (1 : Int).toNat)) else some (place.getD (place.length - 1) 0, (place.drop (0 : Int).toNat).take (((place.length - 1 : Nat) : Int).toNat - (0 : Int).toNat)) : Option (UInt8 × Str)) = some (colOf place, numOf place) := by
    unfold numOf colOf
    cases smB (place.getD 0 0)
    · simp
    · rw [cond_true, cond_true, cond_true, List.take_of_length_le (by rw [List.length_drop]; omega)]
      rfl
  rw [hb, Option.bind_some]
  have hn : (numOf place).length ≤ 1048576 := by
    unfold numOf
    cases smB (place.getD 0 0)
    · rw [cond_false, List.length_take]; omega
    · rw [cond_true, List.length_drop]; omega
  have hr := (rdN_small (numOf place)).1
  have hc := (colOf place).toNat_lt
  show ((m_spec_l01Number (numOf place)).bind fun y57 => (chk (y57.1 - 1)).bind fun z63 => (chk (((colOf place).toNat : Int) - 97)).bind _) = _
  rw [l01Number_eq _ hn, Option.bind_some, chk_in (by omega) (by omega), Option.bind_some, chk_in (by omega) (by omega), Option.bind_some]
  show (((bif !(rdN (numOf place)).2 then some true else (m_spec_l12Plain (playOf (rdN (numOf place)).1 place word)).bind fun y121 => some (!y121) : Option Bool)).bind fun t115 => bif t115 then some (zeroP, false) else some (playOf (rdN (numOf place)).1 place word, true)) = _
  rw [l12Plain_eq _ hw, Option.bind_some]
  cases (rdN (numOf place)).2
  · rfl
  · simp only [Bool.not_true, cond_false, Option.bind_some, Bool.false_or]
    cases plainB (playOf (rdN (numOf place)).1 place word) <;> rfl

theorem rdPs_word (s : Str) : (rdPs s).1.Word.length ≤ s.length := by
  unfold rdPs
  cases (!decide ((splitC 32 s).length = 2) || decide (((splitC 32 s).getD 0 []).length < 2))
  · rw [cond_false]
    cases (!(rdN (numOf ((splitC 32 s).getD 0 []))).2 || !plainB (playOf (rdN (numOf ((splitC 32 s).getD 0 []))).1 ((splitC 32 s).getD 0 []) ((splitC 32 s).getD 1 [])))
    · show ((splitC 32 s).getD 1 []).length ≤ s.length
      rw [List.getD_eq_getElem?_getD]
      cases hx : (splitC 32 s)[1]? with
      | none => simp
      | some x => exact splitC_mem 32 s (List.mem_of_getElem? hx)
    · exact Nat.zero_le _
  · exact Nat.zero_le _

theorem rdPs_play {p : Play} (h : plainB p = true) : rdPs (playT p) = (p, true) := by
  obtain ⟨h1, h2, h3⟩ := plainB_iff.1 h
  have hs : splitC 32 (playT p) = [placeT p, p.Word] := by rw [playT_split, splitC_at _ (placeT_no32 h), splitC_none (mainB_no32 h3)]
  obtain ⟨e1, e2⟩ := place_of h
  have hl := (placeT_len h).1
  have g0 : [placeT p, p.Word].getD 0 [] = placeT p := rfl
  have g1 : [placeT p, p.Word].getD 1 [] = p.Word := rfl
  unfold rdPs
  rw [hs, g0, g1, e1, rdN_itoa (by omega) (by omega)]
  simp only
  rw [e2, h, decide_eq_false (by omega : ¬ (placeT p).length < 2)]
  rfl

/-- What the reference reads is what was written. -/
theorem rdPs_ok {s : Str} {p : Play} (h : rdPs s = (p, true)) : plainB p = true ∧ playT p = s := by
  have hj := join_splitC 32 s
  unfold rdPs at h
  generalize splitC 32 s = w at hj h
  cases h2 : (!decide (w.length = 2) || decide ((w.getD 0 []).length < 2))
  case true => rw [h2] at h; cases h
  rw [h2, cond_false] at h
  rw [Bool.or_eq_false_iff] at h2
  have hl : w.length = 2 := by simpa using h2.1
  obtain ⟨place, word, rfl⟩ : ∃ a b, w = [a, b] := by
    match w, hl with
    | [a, b], _ => exact ⟨a, b, rfl⟩
  have g0 : [place, word].getD 0 [] = place := rfl
  have g1 : [place, word].getD 1 [] = word := rfl
  rw [g0, g1] at h
  rw [g0] at h2
  have hpl : ¬ place.length < 2 := by simpa using h2.2
  cases h3 : (!(rdN (numOf place)).2 || !plainB (playOf (rdN (numOf place)).1 place word))
  case true => rw [h3] at h; cases h
  rw [h3, cond_false] at h
  rw [Bool.or_eq_false_iff] at h3
  have hr : (rdN (numOf place)).2 = true := by simpa using h3.1
  have hp : plainB (playOf (rdN (numOf place)).1 place word) = true := by simpa using h3.2
  obtain rfl := (Prod.mk.inj h).1
  refine ⟨hp, ?_⟩
  rw [play_of_text (by omega) hp ((rdN_small _).2 hr), ← hj, join_cons2 _ _ _ (by simp), Lib.join_one]
  simp

end Go.Proofs.YtbekokenomhgeaaGreatDoor
