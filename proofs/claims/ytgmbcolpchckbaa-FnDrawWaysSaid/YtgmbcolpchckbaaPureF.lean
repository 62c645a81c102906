/- Sets of tiles: valid ones, values of letters. -/
import Derived.Test.YtgmbcolpchckbaaPureB
namespace Go.Proofs.Ytgmbcolpchckbaa
open Go Go.RowKit
set_option linter.unusedSimpArgs false
set_option linter.unusedVariables false

theorem getD_of {α : Type} {xs : List α} {i : Nat} (h : i < xs.length) (d : α) : xs.getD i d = xs[i] := by rw [List.getD_eq_getElem?_getD, List.getElem?_eq_getElem h]; rfl
theorem getL_D {α : Type} {xs : List α} {i : Nat} (h : i < xs.length) (d : α) : getL xs (i : Int) = some (xs.getD i d) := by rw [getL_at h, getD_of h]
/-- A loop that runs through states while a test holds. -/
theorem loop_allS {σ ρ : Type} {step : σ → Option (σ ⊕ ρ)} (s : Nat → σ) (p : Nat → Bool) (n : Nat) (yes no : ρ) (hlt : ∀ i, i < n → (∀ j, j < i → p j = true) → step (s i) = some (bif p i then .inl (s (i + 1)) else .inr no)) (hend : (∀ j, j < n → p j = true) → step (s n) = some (.inr yes)) :
    loopM step (s 0) = some (bif allI p 0 n then yes else no) := by
  have key : ∀ (k i : Nat), i + k = n → (∀ j, j < i → p j = true) → loopM step (s i) = some (bif allI p i k then yes else no) := by
    intro k
    induction k with
    | zero => intro i h hb; rw [Nat.add_zero] at h; subst h; exact loopM_done (hend hb)
    | succ k ih =>
      intro i h hb
      have h1 := hlt i (by omega) hb
      rw [allI]
      cases hp : p i with
      | true =>
        rw [hp] at h1
        rw [loopM_next h1]
        simpa using ih (i + 1) (by omega) fun j hj => by
          rcases Nat.eq_or_lt_of_le (Nat.lt_succ_iff.1 hj) with rfl | h'
          · exact hp
          · exact hb j h'
      | false => rw [hp] at h1; exact loopM_done h1
  exact key n 0 (by omega) fun j hj => by omega

/-! ### Letters that rise -/
def riseL (s : Str) (i : Nat) : Bool := decide (i = 0) || !decide (s.getD i 0 ≤ s.getD (i - 1) 0)
theorem rising_eq (s : Str) (hl : s.length ≤ 8000000000000000000) : m_impl_rising s = some (allI (riseL s) 0 s.length && s.all smB) := by
  have h2 : m_impl_onlySmall s = some (s.all smB) := by
    unfold m_impl_onlySmall
    have h := loop_all (step := fun i : Int => m_impl_onlySmall_l1 s i) (fun i => (s[i]?.map smB).getD true) s.length (.inl () : Unit ⊕ Bool) (.inr false) (fun i hi => by
        unfold m_impl_onlySmall_l1
        rw [decide_eq_true (by omega : (i : Int) < s.length), cond_true, getL_at hi, Option.bind_some, small_eq, Option.bind_some, chk_succ (by omega), List.getElem?_eq_getElem hi, Option.map_some, Option.getD_some]
        cases smB s[i] <;> rfl)
      (by unfold m_impl_onlySmall_l1; rw [decide_eq_false (by omega)]; rfl) s.length 0 (by omega)
    rw [show ((0 : Nat) : Int) = 0 from rfl, all_idx] at h
    rw [h]
    cases s.all smB <;> rfl
  unfold m_impl_rising
  cases hs : s with
  | nil =>
    have : loopM (fun i : Int => m_impl_rising_l1 [] i) 1 = some (.inl ()) := loopM_done (by unfold m_impl_rising_l1; rfl)
    rw [this, Option.bind_some]
    rw [hs] at h2
    rw [Option.bind_some]
    simp only [h2]
    rfl
  | cons a t =>
    rw [← hs]
    have hpos : 1 ≤ s.length := by rw [hs]; simp
    have h := loop_allS (step := fun i : Int => m_impl_rising_l1 s i) (fun i => ((i + 1 : Nat) : Int)) (fun i => riseL s (i + 1)) (s.length - 1) (.inl () : Unit ⊕ Bool) (.inr false) (fun i hi _ => by
        show m_impl_rising_l1 s ((i + 1 : Nat) : Int) = _
        unfold m_impl_rising_l1 riseL
        rw [decide_eq_true (by omega : ((i + 1 : Nat) : Int) < s.length), cond_true, chk_pred (by omega) (by omega), Option.bind_some, getL_D (by omega) 0, Option.bind_some, getL_D (by omega) 0, Option.bind_some, chk_succ (by omega), decide_eq_false (by omega : ¬ i + 1 = 0), Bool.false_or]
        cases decide (s.getD (i + 1) 0 ≤ s.getD (i + 1 - 1) 0) <;> rfl)
      (fun _ => by show m_impl_rising_l1 s ((s.length - 1 + 1 : Nat) : Int) = _; unfold m_impl_rising_l1; rw [decide_eq_false (by omega)]; rfl)
    rw [show ((0 + 1 : Nat) : Int) = 1 from rfl] at h
    rw [h]
    have e : allI (riseL s) 0 s.length = allI (fun i => riseL s (i + 1)) 0 (s.length - 1) := by
      rw [Bool.eq_iff_iff, allI_iff, allI_iff]
      constructor
      · intro h j _ hj; exact h (j + 1) (by omega) (by omega)
      · intro h j _ hj
        rcases Nat.eq_zero_or_pos j with rfl | h0
        · rfl
        · have := h (j - 1) (by omega) (by omega)
          rw [show j - 1 + 1 = j by omega] at this
          exact this
    rw [e]
    cases allI (fun i => riseL s (i + 1)) 0 (s.length - 1)
    · rfl
    · simp only [cond_true, Option.bind_some, h2, Bool.true_and]
/-- Rising small letters are at most 26. -/
theorem rise_26 {s : Str} (h : allI (riseL s) 0 s.length = true) (hs : s.all smB = true) : s.length ≤ 26 := by
  rcases Nat.eq_zero_or_pos s.length with h0 | h0
  · omega
  have key : ∀ i, i < s.length → 97 + i ≤ (s.getD i 0).toNat := by
    intro i
    induction i with
    | zero =>
      intro hi
      have := List.all_eq_true.1 hs _ (List.getElem_mem hi)
      unfold smB at this
      simp only [Bool.and_eq_true, decide_eq_true_eq] at this
      rw [getD_of hi]
      have := UInt8.le_iff_toNat_le.1 this.1
      have e : (97 : UInt8).toNat = 97 := rfl
      omega
    | succ i ih =>
      intro hi
      have h1 := ih (by omega)
      have h2 := allI_iff.1 h (i + 1) (by omega) (by omega)
      unfold riseL at h2
      rw [decide_eq_false (by omega), Bool.false_or, show i + 1 - 1 = i by omega] at h2
      simp only [Bool.not_eq_true', decide_eq_false_iff_not, UInt8.le_iff_toNat_le] at h2
      omega
  have hk := key (s.length - 1) (by omega)
  have := List.all_eq_true.1 hs _ (List.getElem_mem (by omega : s.length - 1 < s.length))
  unfold smB at this
  simp only [Bool.and_eq_true, decide_eq_true_eq] at this
  have := UInt8.le_iff_toNat_le.1 this.2
  rw [getD_of (by omega)] at hk
  have e : (122 : UInt8).toNat = 122 := rfl
  omega

/-! ### Valid sets -/
def sumTo (xs : List Int) : Nat → Int
  | 0 => 0
  | n + 1 => sumTo xs n + xs.getD n 0
def tileAt (t : TileSet) (i : Nat) : Bool := inB (t.Values.getD i 0) 0 20 && inB (t.Counts.getD i 0) 1 20
theorem sumTo_le {t : TileSet} : ∀ n, (∀ j, j < n → tileAt t j = true) → 0 ≤ sumTo t.Counts n ∧ sumTo t.Counts n ≤ 20 * n
  | 0, _ => by simp [sumTo]
  | n + 1, h => by
    have h1 := sumTo_le n fun j hj => h j (by omega)
    have h2 := h n (by omega)
    unfold tileAt at h2
    rw [Bool.and_eq_true, inB_iff, inB_iff] at h2
    rw [sumTo]
    push_cast
    omega
def tilesOkB (t : TileSet) : Bool := decide (1 ≤ t.Letters.length) && (allI (riseL t.Letters) 0 t.Letters.length && t.Letters.all smB) && decide (t.Values.length = t.Letters.length) && decide (t.Counts.length = t.Letters.length) && inB t.Blanks 0 4 &&
  allI (tileAt t) 0 t.Letters.length && decide (t.Blanks + sumTo t.Counts t.Letters.length ≤ 120)
theorem ValidTiles_eq (t : TileSet) (hl : t.Letters.length ≤ 8000000000000000000) : m_impl_ValidTiles t = some (tilesOkB t) := by
  unfold m_impl_ValidTiles tilesOkB
  rw [rising_eq _ hl, within_eq]
  by_cases h1 : 1 ≤ t.Letters.length
  case neg => rw [decide_eq_true (by omega : (t.Letters.length : Int) < 1), decide_eq_false h1]; rfl
  rw [decide_eq_false (by omega : ¬ (t.Letters.length : Int) < 1), decide_eq_true h1]
  cases hr : allI (riseL t.Letters) 0 t.Letters.length && t.Letters.all smB
  · rfl
  have h26 := rise_26 (Bool.and_eq_true_iff.1 hr).1 (Bool.and_eq_true_iff.1 hr).2
  by_cases h2 : t.Values.length = t.Letters.length
  case neg => rw [show ((t.Values.length : Int) != (t.Letters.length : Int)) = true by rw [bne_iff_ne]; omega, decide_eq_false h2]; rfl
  rw [show ((t.Values.length : Int) != (t.Letters.length : Int)) = false by simp [h2], decide_eq_true h2]
  by_cases h3 : t.Counts.length = t.Letters.length
  case neg => rw [show ((t.Counts.length : Int) != (t.Letters.length : Int)) = true by rw [bne_iff_ne]; omega, decide_eq_false h3]; rfl
  rw [show ((t.Counts.length : Int) != (t.Letters.length : Int)) = false by simp [h3], decide_eq_true h3]
  cases h4 : inB t.Blanks 0 4
  · rfl
  rw [inB_iff] at h4
  have h := loop_allS (step := fun s : Int × Int => m_impl_ValidTiles_l1 t s.1 s.2) (fun i => (t.Blanks + sumTo t.Counts i, (i : Int))) (tileAt t) t.Letters.length (.inl (t.Blanks + sumTo t.Counts t.Letters.length) : Int ⊕ Bool) (.inr false) (fun i hi hb => by
      have hs := sumTo_le i hb
      show m_impl_ValidTiles_l1 t (t.Blanks + sumTo t.Counts i) (i : Int) = _
      unfold m_impl_ValidTiles_l1 tileAt
      rw [decide_eq_true (by omega : (i : Int) < t.Counts.length), cond_true, getL_D (by omega) 0, Option.bind_some, getL_D (by omega) 0, Option.bind_some, within_eq, within_eq]
      cases hv : inB (t.Values.getD i 0) 0 20
      · rfl
      cases hc : inB (t.Counts.getD i 0) 1 20
      · rfl
      rw [inB_iff] at hc
      simp only [Option.bind_some, Bool.not_true, cond_false, Bool.true_and, cond_true, chk_in (by omega : -9000000000000000000 ≤ t.Blanks + (sumTo t.Counts i + t.Counts.getD i 0)) (by omega), chk_succ (by omega : i ≤ 8000000000000000000), sumTo, Int.add_assoc])
    (fun _ => by show m_impl_ValidTiles_l1 t _ (t.Letters.length : Int) = _; unfold m_impl_ValidTiles_l1; rw [decide_eq_false (by omega)]; rfl)
  rw [show (t.Blanks + sumTo t.Counts 0, ((0 : Nat) : Int)) = (t.Blanks, (0 : Int)) by simp [sumTo]] at h
  simp only [Option.bind_some, Bool.not_true, cond_false, h, Bool.true_and]
  cases allI (tileAt t) 0 t.Letters.length <;> simp
theorem tile_fin {t : TileSet} {i : Nat} (h0 : 0 ≤ sumTo t.Counts i) (h1 : sumTo t.Counts i ≤ 20 * i) (hb : 0 ≤ t.Blanks ∧ t.Blanks ≤ 4) (hi : i ≤ 100) (hv : i < t.Values.length) (hc : i < t.Counts.length) :
    (((getL t.Values (i : Int)).bind fun e110 => (m_spec_l00In e110 0 20).bind fun y119 => bif !y119 then some true else (getL t.Counts (i : Int)).bind fun e126 => (m_spec_l00In e126 1 20).bind fun y135 => some (!y135)).bind fun t56 =>
          bif t56 then some (.inr (.inr false)) else (getL t.Counts (i : Int)).bind fun e143 => (chk (t.Blanks + sumTo t.Counts i + e143)).bind fun z152 => (chk ((i : Int) + 1)).bind fun z154 => some (.inl (z152, z154)) : Option ((Int × Int) ⊕ (Int ⊕ Bool))) = some (bif tileAt t i then .inl (t.Blanks + sumTo t.Counts (i + 1), ((i + 1 : Nat) : Int)) else .inr (.inr false)) := by
  unfold tileAt
  rw [getL_D hv 0, Option.bind_some, getL_D hc 0, l00In_eq, Option.bind_some]
  cases inB (t.Values.getD i 0) 0 20
  · rfl
  rw [Bool.not_true, cond_false, Option.bind_some, l00In_eq, Option.bind_some]
  cases hc : inB (t.Counts.getD i 0) 1 20
  · rfl
  rw [inB_iff] at hc
  rw [Bool.not_true, Option.bind_some, cond_false, Option.bind_some, chk_in (by omega) (by omega), Option.bind_some, chk_succ (by omega), Option.bind_some, sumTo, Int.add_assoc]
  rfl
theorem l02Ok_eq (t : TileSet) (hl : t.Letters.length ≤ 8000000000000000000) : m_spec_l02Ok t = some (tilesOkB t) := by
  unfold m_spec_l02Ok tilesOkB
  rw [l00In_eq, l00In_eq]
  by_cases h1 : 1 ≤ t.Letters.length
  case neg => rw [show inB (t.Letters.length : Int) 1 26 = false by rw [Bool.eq_false_iff, Ne, inB_iff]; omega, decide_eq_false h1]; rfl
  rw [decide_eq_true h1]
  by_cases h26 : t.Letters.length ≤ 26
  case neg =>
    rw [show inB (t.Letters.length : Int) 1 26 = false by rw [Bool.eq_false_iff, Ne, inB_iff]; omega]
    cases hr : allI (riseL t.Letters) 0 t.Letters.length && t.Letters.all smB
    · rfl
    · exact absurd (rise_26 (Bool.and_eq_true_iff.1 hr).1 (Bool.and_eq_true_iff.1 hr).2) h26
  rw [show inB (t.Letters.length : Int) 1 26 = true from inB_iff.2 ⟨by omega, by omega⟩]
  by_cases h2 : t.Values.length = t.Letters.length
  case neg => rw [show ((t.Values.length : Int) != (t.Letters.length : Int)) = true by rw [bne_iff_ne]; omega, decide_eq_false h2]; simp
  rw [show ((t.Values.length : Int) != (t.Letters.length : Int)) = false by simp [h2], decide_eq_true h2]
  by_cases h3 : t.Counts.length = t.Letters.length
  case neg => rw [show ((t.Counts.length : Int) != (t.Letters.length : Int)) = true by rw [bne_iff_ne]; omega, decide_eq_false h3]; simp
  rw [show ((t.Counts.length : Int) != (t.Letters.length : Int)) = false by simp [h3], decide_eq_true h3]
  cases h4 : inB t.Blanks 0 4
  · simp
  rw [inB_iff] at h4
  have h := loop_allS (step := fun s : Int × Int => m_spec_l02Ok_l1 t s.1 s.2) (fun i => (t.Blanks + sumTo t.Counts i, (i : Int))) (fun i => (t.Letters[i]?.map smB).getD true && riseL t.Letters i && tileAt t i) t.Letters.length (.inl (t.Blanks + sumTo t.Counts t.Letters.length) : Int ⊕ Bool) (.inr false) (fun i hi hb => by
      have hs := sumTo_le (t := t) i fun j hj => (Bool.and_eq_true_iff.1 (hb j hj)).2
      show m_spec_l02Ok_l1 t (t.Blanks + sumTo t.Counts i) (i : Int) = _
      unfold m_spec_l02Ok_l1
      have hL : t.Letters.getD i 0 = t.Letters[i] := getD_of hi 0
      have hV := getL_D (xs := t.Values) (i := i) (by omega) 0
      have hC := getL_D (xs := t.Counts) (i := i) (by omega) 0
      rw [decide_eq_true (by omega : (i : Int) < t.Letters.length), cond_true, getL_at hi, Option.bind_some, l01Small_eq, Option.bind_some, List.getElem?_eq_getElem hi, Option.map_some, Option.getD_some]
      have fin := tile_fin (t := t) (i := i) hs.1 hs.2 h4 (by omega) (by omega) (by omega)
      cases hsm : smB t.Letters[i]
      · rfl
      rcases Nat.eq_zero_or_pos i with rfl | h0
      · rw [Bool.not_true, cond_false, decide_eq_false (by omega : ¬ (0 : Int) < ((0 : Nat) : Int)), cond_false]
        exact fin
      · rw [Bool.not_true, cond_false, decide_eq_true (by omega : (0 : Int) < (i : Int)), cond_true, Option.bind_some, chk_pred h0 (by omega), Option.bind_some, getL_D (by omega) 0, Option.bind_some, ← hL]
        unfold riseL
        rw [decide_eq_false (by omega : ¬ i = 0), Bool.false_or]
        cases hle : decide (t.Letters.getD i 0 ≤ t.Letters.getD (i - 1) 0)
        · exact fin
        · rfl)
    (fun _ => by show m_spec_l02Ok_l1 t _ (t.Letters.length : Int) = _; unfold m_spec_l02Ok_l1; rw [decide_eq_false (by omega)]; rfl)
  rw [show (t.Blanks + sumTo t.Counts 0, ((0 : Nat) : Int)) = (t.Blanks, (0 : Int)) by simp [sumTo]] at h
  have e : allI (fun i => (t.Letters[i]?.map smB).getD true && riseL t.Letters i && tileAt t i) 0 t.Letters.length = (allI (riseL t.Letters) 0 t.Letters.length && t.Letters.all smB && allI (tileAt t) 0 t.Letters.length) := by
    rw [← all_idx smB t.Letters, Bool.eq_iff_iff, Bool.and_eq_true, Bool.and_eq_true, allI_iff, allI_iff, allI_iff, allI_iff]
    simp only [Bool.and_eq_true]
    constructor
    · intro h; exact ⟨⟨fun j a c => (h j a c).1.2, fun j a c => (h j a c).1.1⟩, fun j a c => (h j a c).2⟩
    · rintro ⟨⟨a, b⟩, c⟩ j x y; exact ⟨⟨b j x y, a j x y⟩, c j x y⟩
  rw [e] at h
  simp only [Option.bind_some, Bool.not_true, cond_false, h, Bool.true_and, Bool.and_true]
  cases allI (riseL t.Letters) 0 t.Letters.length && t.Letters.all smB
  · simp
  · cases allI (tileAt t) 0 t.Letters.length <;> simp
theorem tilesOkB_all {t : TileSet} (h : tilesOkB t = true) : t.Letters.length ≤ 26 ∧ t.Values.length = t.Letters.length ∧ t.Counts.length = t.Letters.length ∧ ∀ i, i < t.Letters.length → 0 ≤ t.Values.getD i 0 ∧ t.Values.getD i 0 ≤ 20 := by
  unfold tilesOkB at h
  simp only [Bool.and_eq_true, decide_eq_true_eq] at h
  obtain ⟨⟨⟨⟨⟨⟨_, h1⟩, h2⟩, h3⟩, _⟩, h4⟩, _⟩ := h
  refine ⟨rise_26 h1.1 h1.2, h2, h3, fun i hi => ?_⟩
  have := allI_iff.1 h4 i (by omega) (by omega)
  unfold tileAt at this
  rw [Bool.and_eq_true, inB_iff] at this
  exact this.1

/-! ### Values of letters -/
theorem find_eq (t : TileSet) (c : UInt8) (hl : t.Letters.length ≤ 8000000000000000000) : m_spec_l02Find t c = some (Lib.indexByte t.Letters c) := by
  have key : ∀ (k i : Nat), i + k = t.Letters.length → loopM (fun s : Int => m_spec_l02Find_l1 t c s) (i : Int) = some (if Lib.indexByte (t.Letters.drop i) c = -1 then .inl () else .inr ((i : Int) + Lib.indexByte (t.Letters.drop i) c)) := by
    intro k
    induction k with
    | zero =>
      intro i h
      have hst : m_spec_l02Find_l1 t c (i : Int) = some (.inr (.inl ())) := by unfold m_spec_l02Find_l1; rw [decide_eq_false (by omega)]; rfl
      rw [loopM_done hst, List.drop_of_length_le (by omega)]
      rfl
    | succ k ih =>
      intro i h
      have hi : i < t.Letters.length := by omega
      rw [List.drop_eq_getElem_cons hi, Lib.indexByte]
      have hst : m_spec_l02Find_l1 t c (i : Int) = some (bif t.Letters[i] == c then .inr (.inr (i : Int)) else .inl ((i + 1 : Nat) : Int)) := by
        unfold m_spec_l02Find_l1
        rw [decide_eq_true (by omega : (i : Int) < t.Letters.length), cond_true, getL_at hi, Option.bind_some, chk_succ (by omega), Option.bind_some]
        cases t.Letters[i] == c <;> rfl
      cases hc : t.Letters[i] == c
      · rw [hc] at hst
        rw [loopM_next hst, ih (i + 1) (by omega)]
        simp only [Bool.false_eq_true, if_false]
        have hge := Lib.indexByte_ge (t.Letters.drop (i + 1)) c
        by_cases hx : Lib.indexByte (t.Letters.drop (i + 1)) c = -1
        · rw [if_pos hx]
          simp [hx]
        · rw [if_neg hx]
          have hx' : (Lib.indexByte (t.Letters.drop (i + 1)) c == -1) = false := by simpa using hx
          simp only [hx', Bool.false_eq_true, if_false]
          rw [if_neg (by omega)]
          congr 2
          push_cast
          omega
      · rw [hc] at hst
        rw [loopM_done hst]
        simp
  have h := key t.Letters.length 0 (by omega)
  rw [show ((0 : Nat) : Int) = 0 from rfl, List.drop_zero] at h
  unfold m_spec_l02Find
  rw [h]
  split
  · rename_i e; rw [e]; rfl
  · simp
theorem indexByte_lt {s : Str} {c : UInt8} (h : 0 ≤ Lib.indexByte s c) : (Lib.indexByte s c).toNat < s.length := by
  obtain ⟨o, ho⟩ := Int.eq_ofNat_of_zero_le h
  have := (Lib.indexByte_some (o := o) ho).1
  rw [ho]
  exact (List.getElem?_eq_some_iff.1 this).1
def valI (t : TileSet) (c : UInt8) : Int := if 0 ≤ Lib.indexByte t.Letters c then t.Values.getD (Lib.indexByte t.Letters c).toNat 0 else 0
theorem valI_in {t : TileSet} (h : tilesOkB t = true) (c : UInt8) : 0 ≤ valI t c ∧ valI t c ≤ 20 := by
  obtain ⟨_, _, _, h4⟩ := tilesOkB_all h
  unfold valI
  split
  · rename_i hi; exact h4 _ (indexByte_lt hi)
  · omega
theorem valueOf_eq {t : TileSet} (h : tilesOkB t = true) (c : UInt8) : m_impl_valueOf t c = some (valI t c) := by
  obtain ⟨h1, h2, _, h4⟩ := tilesOkB_all h
  unfold m_impl_valueOf m_strings_IndexByte valI
  rw [Option.bind_some]
  by_cases hi : 0 ≤ Lib.indexByte t.Letters c
  · have hlt := indexByte_lt hi
    rw [decide_eq_true hi, if_pos hi, cond_true, getL_int hi (by omega), getD_of (by omega)]
    rfl
  · rw [decide_eq_false hi, if_neg hi]; rfl
theorem l02Value_eq {t : TileSet} (h : tilesOkB t = true) (c : UInt8) : m_spec_l02Value t c = some (valI t c) := by
  obtain ⟨h1, h2, _, h4⟩ := tilesOkB_all h
  unfold m_spec_l02Value valI
  rw [find_eq t c (by omega), Option.bind_some]
  by_cases hi : 0 ≤ Lib.indexByte t.Letters c
  · have hlt := indexByte_lt hi
    rw [decide_eq_false (by omega), if_pos hi, cond_false, getL_int hi (by omega), getD_of (by omega)]
    rfl
  · rw [decide_eq_true (by omega), if_neg hi]; rfl
def worthTo (t : TileSet) (s : Str) : Nat → Int
  | 0 => 0
  | n + 1 => worthTo t s n + valI t (s.getD n 0)
theorem worthTo_in {t : TileSet} (h : tilesOkB t = true) (s : Str) : ∀ n, 0 ≤ worthTo t s n ∧ worthTo t s n ≤ 20 * n
  | 0 => by simp [worthTo]
  | n + 1 => by
    have h1 := worthTo_in h s n
    have h2 := valI_in h (s.getD n 0)
    rw [worthTo]
    push_cast
    omega
theorem lettersValue_eq {t : TileSet} (h : tilesOkB t = true) (s : Str) (hl : s.length ≤ 100000) : m_impl_lettersValue t s = some (worthTo t s s.length) := by
  unfold m_impl_lettersValue
  have hr := loop_run (step := fun x : Int × Int => m_impl_lettersValue_l1 s t x.1 x.2) (fun i => (worthTo t s i, (i : Int))) s.length (worthTo t s s.length) (fun i hi => by
      have h1 := worthTo_in h s i
      have h2 := valI_in h (s.getD i 0)
      show m_impl_lettersValue_l1 s t (worthTo t s i) (i : Int) = _
      unfold m_impl_lettersValue_l1
      rw [decide_eq_true (by omega : (i : Int) < s.length), cond_true, getL_D hi 0, Option.bind_some, valueOf_eq h, Option.bind_some, chk_in (by omega) (by omega), Option.bind_some, chk_succ (by omega)]
      rfl) (by show m_impl_lettersValue_l1 s t _ (s.length : Int) = _; unfold m_impl_lettersValue_l1; rw [decide_eq_false (by omega)]; rfl) 0 (by omega)
  rw [show (worthTo t s 0, ((0 : Nat) : Int)) = ((0 : Int), (0 : Int)) from rfl] at hr
  rw [hr]
  rfl
theorem l02Sum_eq {t : TileSet} (h : tilesOkB t = true) (s : Str) (hl : s.length ≤ 100000) : m_spec_l02Sum t s = some (worthTo t s s.length) := by
  rw [← lettersValue_eq h s hl]
  unfold m_spec_l02Sum m_impl_lettersValue
  rw [show (fun x : Int × Int => m_spec_l02Sum_l1 s t x.1 x.2) = fun x => m_impl_lettersValue_l1 s t x.1 x.2 from funext fun x => by
    unfold m_spec_l02Sum_l1 m_impl_lettersValue_l1
    simp only [valueOf_eq h, l02Value_eq h]]

end Go.Proofs.Ytgmbcolpchckbaa
