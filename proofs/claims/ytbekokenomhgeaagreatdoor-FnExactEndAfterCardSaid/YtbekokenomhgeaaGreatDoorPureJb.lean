/- A play on a board: the program's test and the reference's. -/
import Derived.Test.YtbekokenomhgeaaGreatDoorPureJa
namespace Go.Proofs.YtbekokenomhgeaaGreatDoor
open Go Go.RowKit
set_option linter.unusedSimpArgs false
set_option linter.unusedVariables false

def fitR (n : Nat) (s : Str) (r c : Int) (w : Str) (k : Nat) : Bool := bAt n s r (c + k) == 46 || bAt n s r (c + k) == w.getD k 0
def freshR (n : Nat) (s : Str) (r c : Int) : Nat → Bool
  | 0 => false
  | k + 1 => bAt n s r (c + k) == 46 || freshR n s r c k
theorem freshR_succ (n : Nat) (s : Str) (r c : Int) (k : Nat) : freshR n s r c (k + 1) = (bAt n s r (c + k) == 46 || freshR n s r c k) := rfl
def onF (n : Nat) (s : Str) (r c : Int) (w : Str) : Bool := insB n r c && (decide (c + (w.length : Int) ≤ n) && (!letB n s r (c - 1) && (!letB n s r (c + (w.length : Int)) && (allI (fitR n s r c w) 0 w.length && freshR n s r c w.length))))
def onB (n : Nat) (b : Board) (p : Play) : Bool := mainB p.Word && onF n (flatB n b p).Cells (flatP p).Row (flatP p).Col p.Word

theorem out_loop (a : Bool) (t : Bool) : ((match (bif a then Sum.inl t else Sum.inr false : Bool ⊕ Bool) with | .inl s => some (Sum.inl s) | .inr r => some (.inr r) : Option (Bool ⊕ Bool)).bind fun x => match x with | .inl s => some s | .inr r => some r) = some (a && t) := by
  cases a <;> rfl

set_option maxRecDepth 100000 in
theorem fitsS_loop {n : Nat} {F : Board} (hF : IsB n F) (P : Play) (hin : insB n P.Row P.Col = true) (hw : P.Col + (P.Word.length : Int) ≤ n) :
    loopM (fun s : Bool × Int => m_spec_l12Fits_l1 P F s.1 s.2) (false, 0) = some (bif allI (fitR n F.Cells P.Row P.Col P.Word) 0 P.Word.length then Sum.inl (freshR n F.Cells P.Row P.Col P.Word.length) else Sum.inr false : Bool ⊕ Bool) := by
  have hi' := insB_iff.1 hin
  have h15 := hF.2.2.1
  refine loop_allS (s := fun i : Nat => (freshR n F.Cells P.Row P.Col i, (i : Int))) (p := fitR n F.Cells P.Row P.Col P.Word) P.Word.length (Sum.inl (freshR n F.Cells P.Row P.Col P.Word.length) : Bool ⊕ Bool) (Sum.inr false) ?_ ?_
  · intro i hi _
    have hin' : insB n P.Row (P.Col + (i : Int)) = true := insB_iff.2 ⟨hi'.1, by omega, by omega⟩
    show m_spec_l12Fits_l1 P F (freshR n F.Cells P.Row P.Col i) (i : Int) = _
    unfold m_spec_l12Fits_l1
    rw [decide_eq_true (by omega : (i : Int) < (P.Word.length : Int)), cond_true, chk_in (x := P.Col + (i : Int)) (by omega) (by omega), Option.bind_some, l11At_eq hF hin', Option.bind_some, getL_D hi 0, Option.bind_some, chk_succ (by omega)]
    unfold fitR
    cases h1 : bAt n F.Cells P.Row (P.Col + (i : Int)) == 46
    · cases h2 : bAt n F.Cells P.Row (P.Col + (i : Int)) == P.Word.getD i 0
      · rw [show (bAt n F.Cells P.Row (P.Col + (i : Int)) != P.Word.getD i 0) = true from by rw [bne, h2]; rfl]
        rfl
      · rw [show (bAt n F.Cells P.Row (P.Col + (i : Int)) != P.Word.getD i 0) = false from by rw [bne, h2]; rfl, freshR_succ, h1]
        rfl
    · rw [freshR_succ, h1]
      rfl
  · intro _
    show m_spec_l12Fits_l1 P F (freshR n F.Cells P.Row P.Col P.Word.length) (P.Word.length : Int) = _
    unfold m_spec_l12Fits_l1
    rw [decide_eq_false (by omega), cond_false]

set_option maxRecDepth 100000 in
theorem l12Fits_eq {n : Nat} {F : Board} (hF : IsB n F) (P : Play) (hl : P.Word.length ≤ 1048576) : m_spec_l12Fits F P = some (onF n F.Cells P.Row P.Col P.Word) := by
  unfold m_spec_l12Fits onF
  rw [l11In_eq hF, Option.bind_some]
  cases hin : insB n P.Row P.Col
  · rfl
  · have hi' := insB_iff.1 hin
    have h15 := hF.2.2.1
    rw [Bool.not_true, cond_false, chk_in (x := P.Col + (P.Word.length : Int)) (by omega) (by omega), Option.bind_some, hF.1]
    by_cases hw : P.Col + (P.Word.length : Int) ≤ n
    · rw [decide_eq_false (by omega : ¬ (n : Int) < P.Col + (P.Word.length : Int)), cond_false, chk_in (x := P.Col - 1) (by omega) (by omega), Option.bind_some, l11Full_eq hF, Option.bind_some, Option.bind_some, l11Full_eq hF, Option.bind_some, decide_eq_true hw]
      cases h1 : letB n F.Cells P.Row (P.Col - 1)
      · cases h2 : letB n F.Cells P.Row (P.Col + (P.Word.length : Int))
        · rw [cond_false, Option.bind_some, cond_false, fitsS_loop hF P hin hw, Option.bind_some]
          exact out_loop _ _
        · rfl
      · rfl
    · rw [decide_eq_true (by omega : (n : Int) < P.Col + (P.Word.length : Int)), decide_eq_false hw]
      rfl

theorem l12Ok_eq {n : Nat} {b : Board} (hb : IsB n b) (p : Play) (hl : p.Word.length ≤ 1048576) (h1 : b.Premium.length ≤ 8000000000000000000) (h2 : b.Cells.length ≤ 8000000000000000000) : m_spec_l12Ok b p = some (onB n b p) := by
  unfold m_spec_l12Ok onB
  rw [l11Ok_eq b h1 h2, boardB_iff.2 ⟨n, hb⟩, Option.bind_some, Bool.not_true, cond_false, l12Word_eq p.Word hl, Option.bind_some, Option.bind_some]
  cases mainB p.Word
  · rfl
  · rw [Bool.not_true, cond_false, l12Flat_eq hb, Option.bind_some]
    show (m_spec_l12Fits (flatB n b p) (flatP p)).bind _ = _
    rw [l12Fits_eq (flatB_is hb p) (flatP p) (by rw [flatP_word]; exact hl), Option.bind_some, flatP_word]
    rfl

/-! ### The program's test -/
theorem sq_let (n : Nat) (b : Board) (p : Play) (k : Int) : letB n b.Cells (sqV p k).Row (sqV p k).Col = letB n (flatB n b p).Cells (flatP p).Row ((flatP p).Col + k) := by
  have := sq_at n b p k
  unfold fAt at this
  unfold letB
  rw [this]

set_option maxRecDepth 100000 in
theorem on_loop {n : Nat} {b : Board} (hb : IsB n b) (p : Play) (hin : insB n p.Row p.Col = true) (hw : p.Word.length ≤ 1048576) :
    loopM (fun s : Bool × Int => m_impl_Play_validOn_l1 p b s.1 s.2) (false, 0) = some (bif allI (fitR n (flatB n b p).Cells (flatP p).Row (flatP p).Col p.Word) 0 p.Word.length then Sum.inl (freshR n (flatB n b p).Cells (flatP p).Row (flatP p).Col p.Word.length) else Sum.inr false : Bool ⊕ Bool) := by
  have hi' := insB_iff.1 hin
  have h15 := hb.2.2.1
  refine loop_allS (s := fun i : Nat => (freshR n (flatB n b p).Cells (flatP p).Row (flatP p).Col i, (i : Int))) (p := fitR n (flatB n b p).Cells (flatP p).Row (flatP p).Col p.Word) p.Word.length (Sum.inl (freshR n (flatB n b p).Cells (flatP p).Row (flatP p).Col p.Word.length) : Bool ⊕ Bool) (Sum.inr false) ?_ ?_
  · intro i hi _
    have e := sq_at n b p (i : Int)
    unfold fAt at e
    show m_impl_Play_validOn_l1 p b (freshR n (flatB n b p).Cells (flatP p).Row (flatP p).Col i) (i : Int) = _
    unfold m_impl_Play_validOn_l1
    rw [decide_eq_true (by omega : (i : Int) < (p.Word.length : Int)), cond_true, square_eq p i (by omega) (by omega) (by omega), Option.bind_some, cell_eq hb, Option.bind_some, e, getL_D hi 0, Option.bind_some, chk_succ (by omega)]
    unfold fitR
    cases h1 : bAt n (flatB n b p).Cells (flatP p).Row ((flatP p).Col + (i : Int)) == 46
    · cases h2 : bAt n (flatB n b p).Cells (flatP p).Row ((flatP p).Col + (i : Int)) == p.Word.getD i 0
      · rw [show (bAt n (flatB n b p).Cells (flatP p).Row ((flatP p).Col + (i : Int)) != p.Word.getD i 0) = true from by rw [bne, h2]; rfl]
        rfl
      · rw [show (bAt n (flatB n b p).Cells (flatP p).Row ((flatP p).Col + (i : Int)) != p.Word.getD i 0) = false from by rw [bne, h2]; rfl, freshR_succ, h1]
        rfl
    · rw [freshR_succ, h1]
      rfl
  · intro _
    show m_impl_Play_validOn_l1 p b (freshR n (flatB n b p).Cells (flatP p).Row (flatP p).Col p.Word.length) (p.Word.length : Int) = _
    unfold m_impl_Play_validOn_l1
    rw [decide_eq_false (by omega), cond_false]

theorem on_eq {n : Nat} {b : Board} (hb : IsB n b) (s : Square) : m_impl_Board_on b s = some (letB n b.Cells s.Row s.Col) := by
  unfold m_impl_Board_on
  rw [letter_eq hb]
  rfl

set_option maxRecDepth 100000 in
theorem validOn_eq {n : Nat} {b : Board} (hb : IsB n b) (p : Play) (hl : p.Word.length ≤ 1048576) : m_impl_Play_validOn p b = some (onB n b p) := by
  unfold m_impl_Play_validOn onB onF
  rw [isMain_eq p.Word hl, Option.bind_some]
  cases hm : mainB p.Word
  · rfl
  · have hlen := mainB_len hm
    rw [Bool.not_true, cond_false, inside_eq hb, Option.bind_some, Option.bind_some, ← flat_in]
    cases hin : insB n p.Row p.Col
    · rfl
    · have hi' := insB_iff.1 hin
      have hi'' := insB_iff.1 (flat_in n p ▸ hin)
      have h15 := hb.2.2.1
      rw [Bool.not_true, cond_false, chk_in (x := (p.Word.length : Int) - 1) (by omega) (by omega), Option.bind_some, square_eq p _ (by omega) (by omega) (by omega), Option.bind_some, inside_eq hb, Option.bind_some, sq_in]
      by_cases hw : (flatP p).Col + (p.Word.length : Int) ≤ n
      · have h2 : 2 ≤ p.Word.length := by
          unfold mainB at hm
          rw [Bool.and_eq_true] at hm
          exact of_decide_eq_true hm.1
        rw [show insB n (flatP p).Row ((flatP p).Col + ((p.Word.length : Int) - 1)) = true from insB_iff.2 ⟨hi''.1, by omega, by omega⟩, Bool.not_true, cond_false, square_eq p (-1) (by omega) (by omega) (by omega), Option.bind_some, on_eq hb, Option.bind_some, sq_let, square_eq p (p.Word.length : Int) (by omega) (by omega) (by omega), Option.bind_some, on_eq hb, Option.bind_some, sq_let, decide_eq_true hw, ← Int.sub_eq_add_neg]
        cases h1 : letB n (flatB n b p).Cells (flatP p).Row ((flatP p).Col - 1)
        · cases h2 : letB n (flatB n b p).Cells (flatP p).Row ((flatP p).Col + (p.Word.length : Int))
          · rw [cond_false, Option.bind_some, cond_false, on_loop hb p hin hl, Option.bind_some]
            exact out_loop _ _
          · rfl
        · rfl
      · have h2 : 2 ≤ p.Word.length := by
          unfold mainB at hm
          rw [Bool.and_eq_true] at hm
          exact of_decide_eq_true hm.1
        rw [show insB n (flatP p).Row ((flatP p).Col + ((p.Word.length : Int) - 1)) = false from Bool.eq_false_iff.2 fun e => by have := insB_iff.1 e; omega, decide_eq_false hw]
        rfl

theorem onB_all {n : Nat} {b : Board} {p : Play} (h : onB n b p = true) : mainB p.Word = true ∧ insB n p.Row p.Col = true ∧ (flatP p).Col + (p.Word.length : Int) ≤ n := by
  unfold onB onF at h
  rw [Bool.and_eq_true, Bool.and_eq_true, Bool.and_eq_true] at h
  exact ⟨h.1, by rw [flat_in]; exact h.2.1, of_decide_eq_true h.2.2.1⟩

end Go.Proofs.YtbekokenomhgeaaGreatDoor
