/- FnHashing: the numbers, words and ranges of a drawn automaton. -/
import Derived.Test.YtdaoecpkgobelaaDoorPureM3
namespace Go.Proofs.YtdaoecpkgobelaaDoor
open Go Go.RowKit
set_option linter.unusedSimpArgs false
set_option linter.unusedVariables false

theorem hashing_step {D : List Node} (hG : GoodD D) (hlen : ∀ x ∈ D, x.Next.length ≤ 2000000) (hl : ∀ w ∈ langA (ndD D) 14 0, w.length ≤ 1000) {i : Nat} (hi : i < (langA (ndD D) 14 0).length) :
    m_laws_FnHashing_l1 (langA (ndD D) 14 0, 0) ⟨D⟩ (i : Int) = some (.inl (((i + 1 : Nat)) : Int)) := by
  have hfew := hG.few
  obtain ⟨A, B, hc, he, ha⟩ := at_word hG hi
  have hw : ((langA (ndD D) 14 0).getD i []).length ≤ 1000000000 := by
    rw [List.getD_eq_getElem?_getD, List.getElem?_eq_getElem hi]
    have := hl _ (List.getElem_mem hi)
    show (langA (ndD D) 14 0)[i].length ≤ _
    omega
  have h1 := numberP_val hG hlen hw hc ha
  have h2 := wordP_val hG hlen hi
  have h3 := nextP_val hG hlen hc ha
  rw [he] at h1 h3
  unfold m_laws_FnHashing_l1
  dsimp only
  rw [decide_eq_true (show (i : Int) < ((langA (ndD D) 14 0).length : Int) by omega), cond_true, getL_getD hi [], Option.bind_some, h1, Option.bind_some, h2, Option.bind_some, Option.bind_some, h3, Option.bind_some, chk_succ (show i ≤ 8000000000000000000 by omega)]
  dsimp only [Option.bind_some]
  by_cases hl : i + 1 < (langA (ndD D) 14 0).length
  · rw [if_pos hl, getL_getD hl []]
    simp [hl]
    rw [show ((i : Int) + 1 == ((langA (ndD D) 14 0).length : Int)) = false by rw [beq_eq_false_iff_ne]; omega]
    rfl
  · rw [if_neg hl]
    have : i + 1 = (langA (ndD D) 14 0).length := by omega
    simp [this]
theorem hashing_loop {D : List Node} (hG : GoodD D) (hlen : ∀ x ∈ D, x.Next.length ≤ 2000000) (hl : ∀ w ∈ langA (ndD D) 14 0, w.length ≤ 1000) : ∀ (c i : Nat), i + c = (langA (ndD D) 14 0).length →
    loopM (fun s : Int => m_laws_FnHashing_l1 (langA (ndD D) 14 0, 0) ⟨D⟩ s) (i : Int) = some (.inl ())
  | 0, i, hi => by
    refine loopM_done ?_
    unfold m_laws_FnHashing_l1
    dsimp only
    rw [decide_eq_false (by omega)]; rfl
  | c + 1, i, hi => by
    rw [loopM_next (step := fun s : Int => m_laws_FnHashing_l1 (langA (ndD D) 14 0, 0) ⟨D⟩ s) (hashing_step hG hlen hl (i := i) (by omega))]
    exact hashing_loop hG hlen hl c (i + 1) (by omega)
theorem m_laws_FnHashing_true (code more : Str) (h : Lies (sliceRep byteRep) code) (h' : Lies (sliceRep byteRep) more) : m_laws_FnHashing code more = some true := by
  unfold m_laws_FnHashing m_laws_a2Long
  by_cases hc : (3000 : Int) < (code.length : Int)
  · rw [decide_eq_true hc]; rfl
  by_cases hm : (3000 : Int) < (more.length : Int)
  · rw [decide_eq_false hc, cond_false, decide_eq_true hm]; rfl
  rw [decide_eq_false hc, cond_false, decide_eq_false hm, Option.bind_some, Option.bind_some, cond_false]
  obtain ⟨D, hD, hG, hlen, hL⟩ := drawnD code
  have hok := ok_drawn hL (by omega)
  have h0 : getL (cntL D) 0 = some ((langA (ndD D) 14 0).length : Int) := getL_cnt hG.shape.pos
  have hl : ∀ w ∈ langA (ndD D) 14 0, w.length ≤ 1000 := fun w hw => by have := someD_ok.2 w (hL.2.2 w hw); omega
  have hloop : loopM (fun s : Int => m_laws_FnHashing_l1 (langA (ndD D) 14 0, 0) ⟨D⟩ s) 0 = some (.inl ()) := hashing_loop hG hlen hl (langA (ndD D) 14 0).length 0 (by omega)
  obtain ⟨w, hw, hwm⟩ := A2Word_val more
  obtain ⟨q1, q2, q3⟩ := someD_ok.2 w hwm
  obtain ⟨v, hv, hvl⟩ := a2At_val more w.length (by omega)
  have hz : chk (1 + (v : Int)) = some (((v + 1 : Nat)) : Int) := chk_to _ (by push_cast; omega) (by omega) (by omega)
  have hsub : subL w 0 (((v + 1 : Nat)) : Int) = some (w.take (v + 1)) := by
    rw [subL_of (by omega) (by omega) (by omega)]
    rw [show Int.toNat 0 = 0 from rfl, List.drop_zero]; congr 1
  obtain ⟨A, B, hcut⟩ := hG.cut (w.take (v + 1))
  have hlen' : (((cntL D).length : Int) != (D.length : Int)) = false := by rw [cntL_len]; simp
  rw [hD, Option.bind_some, wordsS_val hG hlen, Option.bind_some, countsP_val hG hlen, Option.bind_some]
  dsimp only
  rw [hlen', h0]
  simp only [bne_self_eq_false, cond_false, Option.bind_some]
  rw [hloop, Option.bind_some, Option.bind_some, hw, Option.bind_some, hv, Option.bind_some, hz, Option.bind_some, hsub, Option.bind_some, rangeP_val hG hlen hcut, Option.bind_some, prefixS_val hcut (by have := hL.1; omega) hok, Option.bind_some]
  simp

end Go.Proofs.YtdaoecpkgobelaaDoor
