/- FnTails: the automaton of the tails of a drawn automaton. -/
import Derived.Test.YtdaoecpkgobelaaDoorPureM3
namespace Go.Proofs.YtdaoecpkgobelaaDoor
open Go Go.RowKit
set_option linter.unusedSimpArgs false
set_option linter.unusedVariables false

section
variable {D : List Node} (hG : GoodD D) (hlen : ∀ x ∈ D, x.Next.length ≤ 2000000)
include hG hlen
theorem rangeS_val {s : Str} (hs : s.length ≤ 1000000000) {A B : List Str} (hc : CutA (langA (ndD D) 14 0) s A (behindA D s) B) : m_spec_RangeOf ⟨D⟩ s = some ((A.length : Int), ((behindA D s).length : Int), 0) := by
  obtain ⟨v, h1, h2⟩ := RangeOf_eq ⟨D⟩ hlen s hs
  rw [rangeP_val hG hlen hc] at h1
  rw [h2, ← h1]
theorem accP_val {s : Str} (hs : s.length ≤ 1000000000) : m_impl_AcceptsWord ⟨D⟩ s = some (accA (ndD D) s) := by
  unfold m_impl_AcceptsWord
  rw [(valid_val hG hlen).1, Option.bind_some, cond_true, accepts_eq ⟨D⟩ hG.shape hlen s (by omega)]
  rfl
theorem accS_val {s : Str} (hs : s.length ≤ 1000000000) : m_spec_AcceptsWord ⟨D⟩ s = some (accA (ndD D) s) := by
  obtain ⟨v, h1, h2⟩ := AcceptsWord_eq ⟨D⟩ hlen s (by omega)
  rw [accP_val hG hlen hs] at h1
  rw [h2, ← h1]
theorem wordsP_val : m_impl_WordsOf ⟨D⟩ = some (langA (ndD D) 14 0, 0) := by
  unfold m_impl_WordsOf
  rw [(valid_val hG hlen).1, Option.bind_some, Bool.not_true, cond_false, words_eq ⟨D⟩ hG hlen]
  rfl
theorem tailP_val {s : Str} {A B : List Str} (hc : CutA (langA (ndD D) 14 0) s A (behindA D s) B) : m_impl_TailDawg ⟨D⟩ s = m_impl_dawgOf ((behindA D s).filter (fun u => u != [])) := by
  unfold m_impl_TailDawg
  rw [(valid_val hG hlen).1, Option.bind_some, Bool.not_true, cond_false, words_eq ⟨D⟩ hG hlen, Option.bind_some]
  show (((loopM (fun q : (List Str) × Int => m_impl_TailDawg_l1 (langA (ndD D) 14 0) s q.1 q.2) (([] : (List Str)), 0)).bind _).bind _) = _
  rw [tails_loop _ s hG.few, cut_tails hc, Option.bind_some, Option.bind_some]
  cases m_impl_dawgOf ((behindA D s).filter (fun u => u != [])) <;> rfl
end
theorem filter_count (M : List Str) (hs : SortedW M) : ((M.filter (fun u => u != [])).length : Int) + (if hasE M then 1 else 0) = (M.length : Int) := by
  cases M with
  | nil => rfl
  | cons x M =>
    cases x with
    | nil =>
      have h1 : M.filter (fun u => u != []) = M := List.filter_eq_self.2 fun u hu => by simpa using sorted_tail hs u hu
      rw [List.filter_cons, if_neg (by simp), h1]
      simp [hasE]
    | cons c u =>
      have h1 : ((c :: u) :: M).filter (fun u => u != []) = (c :: u) :: M := List.filter_eq_self.2 fun y hy => by
        rcases List.mem_cons.1 hy with rfl | hy
        · simp
        · simpa using sorted_tail hs y hy
      rw [h1]
      simp [hasE]
theorem m_laws_FnTails_true (code more : Str) (h : Lies (sliceRep byteRep) code) (h' : Lies (sliceRep byteRep) more) : m_laws_FnTails code more = some true := by
  unfold m_laws_FnTails m_laws_a2Long
  by_cases hc : (3000 : Int) < (code.length : Int)
  · rw [decide_eq_true hc]; rfl
  by_cases hm : (3000 : Int) < (more.length : Int)
  · rw [decide_eq_false hc, cond_false, decide_eq_true hm]; rfl
  rw [decide_eq_false hc, cond_false, decide_eq_false hm, Option.bind_some, Option.bind_some, cond_false]
  obtain ⟨D, hD, hG, hlen, hL⟩ := drawnD code
  obtain ⟨w, hw, hwm⟩ := A2Word_val more
  obtain ⟨q1, q2, q3⟩ := someD_ok.2 w hwm
  obtain ⟨v, hv, hvl⟩ := a2At_val more w.length (by omega)
  have hsub : subL w 0 (v : Int) = some (w.take v) := by
    rw [subL_of (by omega) (by omega) (by omega), show Int.toNat 0 = 0 from rfl, List.drop_zero]; congr 1
  have hsub2 : subL w (v : Int) (w.length : Int) = some (w.drop v) := by
    rw [subL_of (by omega) (by omega) (by omega), List.take_of_length_le (by rw [List.length_drop]; omega)]; congr 1
  have htl : (w.take v).length ≤ 1000000000 := by rw [List.length_take]; omega
  have hdl : (w.drop v).length ≤ 1000000000 := by rw [List.length_drop]; omega
  obtain ⟨A, B, hcut⟩ := hG.cut (w.take v)
  have hcl := hcut.len
  have hMs : SortedW (behindA D (w.take v)) := by
    unfold behindA
    cases afterA (ndD D) 0 (w.take v) with
    | none => exact List.Pairwise.nil
    | some j => exact langA_sorted _ hG.shape.rise 14 j
  have hMm : ∀ u ∈ behindA D (w.take v), w.take v ++ u ∈ someD := fun u hu => hL.2.2 _ ((hcut.mem u).2 hu)
  have hMf : hasE (behindA D (w.take v)) = accA (ndD D) (w.take v) := by
    unfold behindA accA
    cases ha : afterA (ndD D) 0 (w.take v) with
    | none => rfl
    | some j =>
      have hj := afterA_lt hG.shape _ hG.shape.pos ha
      show hasE (langA (ndD D) 14 j) = (ndD D j).1
      rw [lang_fl (hG.short hj)]
      cases (ndD D j).1 with
      | true => rfl
      | false =>
        show hasE (flA D (ndD D j).2) = false
        cases hfl : flA D (ndD D j).2 with
        | nil => rfl
        | cons x X =>
          have := flA_ne (D := D) (G := (ndD D j).2) (w := x) (by rw [hfl]; exact List.mem_cons_self)
          cases x with
          | nil => exact absurd rfl this
          | cons _ _ => rfl
  have hcount := filter_count _ hMs
  have hfl := List.length_filter_le (fun u : Str => u != []) (behindA D (w.take v))
  have hM25 : (behindA D (w.take v)).length ≤ 25 := by have := hL.1; omega
  have hRm : ∀ u ∈ (behindA D (w.take v)).filter (fun u => u != []), u ≠ [] ∧ u.length ≤ 6 ∧ ∀ c ∈ u, formB c = true := fun u hu => by
    rw [List.mem_filter] at hu
    obtain ⟨p1, p2, p3⟩ := someD_ok.2 _ (hMm u hu.1)
    rw [List.length_append] at p3
    refine ⟨by simpa using hu.2, by omega, fun c hcu => form_small (List.all_eq_true.1 p1 c (List.mem_append_right _ hcu))⟩
  have htot := totA_le fun u hu => (hRm u hu).2.1
  obtain ⟨E, hE, hGE, hLE, hlenE⟩ := dawgOf_good ((behindA D (w.take v)).filter (fun u => u != [])) (hMs.sublist List.filter_sublist) (fun u hu => ⟨(hRm u hu).1, by have := (hRm u hu).2.1; omega, (hRm u hu).2.2⟩) (by omega) (Nat.le_trans (Nat.succ_le_succ htot) (by omega))
  have hacc : accA (ndD E) (w.drop v) = accA (ndD D) w := by
    rw [Bool.eq_iff_iff, acc_mem hGE, acc_mem hG, hLE, List.mem_filter]
    have hne : w.drop v ≠ [] := fun e => by
      have := congrArg List.length e
      rw [List.length_drop, List.length_nil] at this
      omega
    have e : w.take v ++ w.drop v = w := List.take_append_drop v w
    rw [← hcut.mem, e]
    exact ⟨fun h => h.1, fun h => ⟨h, by simpa using hne⟩⟩
  rw [hD, Option.bind_some, hw, Option.bind_some, hv, Option.bind_some, hsub, Option.bind_some, tailP_val hG hlen hcut, hE, Option.bind_some]
  dsimp only
  rw [bne_self_eq_false, cond_false, Option.bind_some, rangeS_val hG hlen htl hcut, Option.bind_some, wordsP_val hGE hlenE, Option.bind_some, Option.bind_some, accS_val hG hlen htl, Option.bind_some, hLE]
  have hn : (bif accA (ndD D) (w.take v) then some 1 else some 0 : Option Int) = some (if hasE (behindA D (w.take v)) then 1 else 0) := by
    rw [hMf]; cases accA (ndD D) (w.take v) <;> rfl
  rw [hn, Option.bind_some]
  dsimp only
  rw [hcount, chk_in (by omega) (by omega), Option.bind_some, hsub2, Option.bind_some, accP_val hGE hlenE hdl, Option.bind_some, accS_val hG hlen (by omega), Option.bind_some, hacc]
  simp

end Go.Proofs.YtdaoecpkgobelaaDoor
