/- Two automata combined: both builders make the same automaton of the words that are chosen. -/
import Derived.Test.YtccoeheoifbpcaaGreatDoorPureM3
import Derived.Test.YtccoeheoifbpcaaGreatDoorPureCh
import Derived.Test.YtccoeheoifbpcaaGreatDoorPureMk
namespace Go.Proofs.YtccoeheoifbpcaaGreatDoor
open Go Go.RowKit
set_option linter.unusedSimpArgs false
set_option linter.unusedVariables false
theorem sm_nat {c : UInt8} : smB c = true ↔ 97 ≤ c.toNat ∧ c.toNat ≤ 122 := by
  unfold smB
  simp only [Bool.and_eq_true, decide_eq_true_eq, UInt8.le_iff_toNat_le]
  exact Iff.rfl
theorem form_nat {c : UInt8} (h : formB c = true) : 62 ≤ c.toNat ∧ c.toNat ≤ 122 ∧ (c.toNat = 62 ∨ 97 ≤ c.toNat) := by
  unfold formB at h
  rcases Bool.or_eq_true_iff.1 h with h1 | h1
  · have := sm_nat.1 h1; omega
  · have : c = 62 := by simpa using h1
    subst this
    exact ⟨by decide, by decide, .inl rfl⟩
theorem NodeOk.few {n : Nat} {x : Node} (h : NodeOk n x) : x.Letters.length ≤ 27 := by
  have hf : ∀ i (hi : i < x.Letters.length), 62 ≤ x.Letters[i].toNat ∧ x.Letters[i].toNat ≤ 122 ∧ (x.Letters[i].toNat = 62 ∨ 97 ≤ x.Letters[i].toNat) := fun i hi => form_nat (h.form _ (List.getElem_mem hi))
  have key : ∀ i (hi : i + 1 < x.Letters.length), 97 + i ≤ x.Letters[i + 1].toNat := by
    intro i
    induction i with
    | zero =>
      intro hi
      have h1 := UInt8.lt_iff_toNat_lt.1 (h.inc 0 hi)
      have h2 := hf 0 (by omega)
      have h3 := hf 1 hi
      simp only [Nat.zero_add] at h1 ⊢
      omega
    | succ i ih =>
      intro hi
      have h1 := UInt8.lt_iff_toNat_lt.1 (h.inc (i + 1) hi)
      have h2 := ih (by omega)
      omega
  rcases Nat.lt_or_ge 27 x.Letters.length with h1 | h1
  · have h2 := key 26 (by omega)
    have h3 := hf 27 (by omega)
    simp only [Nat.reduceAdd] at h2
    omega
  · exact h1
theorem bulk_few {n : Nat} : ∀ {D : List Node}, (∀ x ∈ D, NodeOk n x) → bulk_NodeS D ≤ 55 * D.length
  | [], _ => Nat.zero_le _
  | x :: t, h => by
    have h1 := (h x List.mem_cons_self).few
    have h2 := (h x List.mem_cons_self).len
    have h3 := bulk_few (D := t) fun y hy => h y (List.mem_cons_of_mem _ hy)
    rw [bulkN_cons]
    have h4 : bulk_Node x = x.Letters.length + x.Next.length := rfl
    rw [List.length_cons]
    omega
theorem code_same (R : List Str) (hs : SortedW R) (hR : ∀ w ∈ R, w.length ≤ 13 ∧ ∀ c ∈ w, formB c = true) (hl : R.length ≤ 100000) :
    ∃ v : Dawg × Int, m_impl_dawgOf R = some v ∧ m_spec_l08Code R = some v ∧ bulk_Dawg v.1 ≤ 1048576 := by
  rcases Nat.lt_or_ge 3000 R.length with hb | hb
  · refine ⟨(⟨[]⟩, 5), ?_, ?_, Nat.zero_le _⟩
    · unfold m_impl_dawgOf
      rw [decide_eq_true (by omega), cond_true]
    · unfold m_spec_l08Code
      rw [decide_eq_true (by omega), cond_true]
  · obtain ⟨D, d1, d2, d3, d4, d5, d6⟩ := dawgOf_eq R hs hR hb
    have htot := totA_le (fun w hw => (hR w hw).1)
    obtain ⟨B, b1, b2, b3, b4, b5, b6, b7⟩ := Build_eq R hs hR (by omega)
    have e1 := d2.canon
    have e2 := b2.canon
    rw [show langA (ndL (D.map ndN)) 14 0 = R from d3] at e1
    rw [show langA (ndL (B.map ndN)) 14 0 = R from b3] at e2
    have e : B = D := map_ndN_inj b4 d4 (e2.trans e1.symm)
    subst e
    refine ⟨_, d1, ?_, ?_⟩
    · unfold m_spec_l08Code
      rw [decide_eq_false (by omega), cond_false, b1, Option.bind_some]
      show (bif decide ((3000 : Int) < (B.length : Int)) then _ else _ : Option (Dawg × Int)) = _
      by_cases h : 3000 < B.length
      · rw [if_pos h, decide_eq_true (by omega)]; rfl
      · rw [if_neg h, decide_eq_false (by omega)]; rfl
    · by_cases h : 3000 < B.length
      · rw [if_pos h]; exact Nat.zero_le _
      · rw [if_neg h]
        have := bulk_few d4
        show bulk_NodeS B ≤ 1048576
        omega
theorem wordsD_form {D : List Node} (h : GoodD D) {w : Str} (hw : w ∈ wordsD D) : ∀ c ∈ w, formB c = true := langA_form h.shape 14 0 w hw
theorem combined_eq (a b : Dawg) (hla : ∀ x ∈ a.Nodes, x.Next.length ≤ 2000000) (hlb : ∀ x ∈ b.Nodes, x.Next.length ≤ 2000000) (is : Str → Option Bool) (p : Str → Bool)
    (hp : GoodD a.Nodes → GoodD b.Nodes → ∀ w : Str, w.length ≤ 13 → is w = some (p w)) (both : List Str → List Str → Option (List Str))
    (hq : GoodD a.Nodes → GoodD b.Nodes → both (wordsD a.Nodes) (wordsD b.Nodes) = some ((bothW (wordsD a.Nodes) (wordsD b.Nodes)).filter p)) :
    ∃ v : Dawg × Int, m_impl_combined a b is = some v ∧
      (((m_spec_l06Ok a).bind fun y25 => bif !y25 then some true else (m_spec_l06Ok b).bind fun y32 => some (!y32) : Option Bool).bind fun t21 =>
        bif t21 then some ((⟨([] : (List Node))⟩ : Dawg), 1) else (m_spec_l08List a).bind fun y44 => (m_spec_l08List b).bind fun y51 => (both y44 y51).bind fun y58 => (m_spec_l08Code y58).bind fun y65 => some (y65.1, y65.2) : Option (Dawg × Int)) = some v ∧ bulk_Dawg v.1 ≤ 1048576 := by
  obtain ⟨r, h1, h2, h3⟩ := tests_agree a hla
  obtain ⟨q, k1, k2, k3⟩ := tests_agree b hlb
  unfold m_impl_combined
  rw [h1, h2, k1, k2]
  cases r with
  | false => exact ⟨(⟨[]⟩, 1), rfl, rfl, Nat.zero_le _⟩
  | true =>
    cases q with
    | false => exact ⟨(⟨[]⟩, 1), rfl, rfl, Nat.zero_le _⟩
    | true =>
      have ha := h3.1 rfl
      have hb := k3.1 rfl
      have e1 : (wordsD a.Nodes).length ≤ 3000 := ha.few
      have e2 : (wordsD b.Nodes).length ≤ 3000 := hb.few
      have e3 := bothW_len (wordsD a.Nodes) (wordsD b.Nodes)
      have p1 := chosen_eq a b ha hb hla hlb is p (hp ha hb)
      obtain ⟨v, v1, v2, v3⟩ := code_same ((bothW (wordsD a.Nodes) (wordsD b.Nodes)).filter p) ((bothW_sorted _ _).filter _) (fun w hw => by
        rcases (bothW_mem _ _ w).1 (List.mem_filter.1 hw).1 with h | h
        · exact ⟨wordsD_len h, wordsD_form ha h⟩
        · exact ⟨wordsD_len h, wordsD_form hb h⟩) (Nat.le_trans (List.length_filter_le _ _) (by omega))
      refine ⟨v, ?_, ?_, v3⟩
      · simp only [Option.bind_some, Bool.not_true, cond_false]
        rw [p1, Option.bind_some, v1, Option.bind_some]
      · simp only [Option.bind_some, Bool.not_true, cond_false]
        rw [List_eq a ha hla, Option.bind_some, List_eq b hb hlb, Option.bind_some, hq ha hb, Option.bind_some, v2, Option.bind_some]
theorem MinusDawg_eq (a b : Dawg) (hla : ∀ x ∈ a.Nodes, x.Next.length ≤ 2000000) (hlb : ∀ x ∈ b.Nodes, x.Next.length ≤ 2000000) : ∃ v : Dawg × Int, m_impl_MinusDawg a b = some v ∧ m_spec_MinusDawg a b = some v ∧ bulk_Dawg v.1 ≤ 1048576 := by
  obtain ⟨v, h1, h2, h3⟩ := combined_eq a b hla hlb (fun u => m_impl_minus_has (⟨⟨a.Nodes⟩, ⟨b.Nodes⟩⟩ : minus) u) _ (fun ha hb w hw => minus_has a b ha hb hla hlb w hw) (fun x y => m_spec_l08Only x y false) (fun ha hb => by
    have e1 : (wordsD a.Nodes).length ≤ 3000 := ha.few
    have e2 : (wordsD b.Nodes).length ≤ 3000 := hb.few
    rw [Only_eq _ _ (by omega) (wordsD_sorted hb) (by omega), only_same (wordsD_sorted ha) (wordsD_sorted hb)])
  refine ⟨v, ?_, h2, h3⟩
  unfold m_impl_MinusDawg
  rw [h1, Option.bind_some]
/-! ### Marks, and whether they are held -/
theorem marksN_loop : ∀ (t P : List Node) (k : Int), 0 ≤ k → k + 20 * (bulk_NodeS t : Nat) ≤ 2000000000 → (P ++ t).length ≤ 100000000 → ∃ (t' : List Node) (k' : Int),
    loopM (fun s : (List Node) × Int × Int => m_laws_markNodeS_l1 s.1 s.2.1 s.2.2) (P ++ t, k, (P.length : Int)) = some (P ++ t', k') ∧ t'.length = t.length ∧
    (∀ Q : List Node, Q.length = P.length → loopM (fun s : Int × Int => m_laws_heldNodeS_l1 (Q ++ t') s.1 s.2) (k, (P.length : Int)) = some (.inl k')) ∧ 0 ≤ k' ∧ k' ≤ k + 20 * (bulk_NodeS t : Nat)
  | [], P, k, h0, h1, h2 => by
    refine ⟨[], k, loopM_done ?_, rfl, fun Q hQ => loopM_done ?_, h0, by omega⟩
    · show m_laws_markNodeS_l1 (P ++ []) k (P.length : Int) = _
      unfold m_laws_markNodeS_l1
      rw [decide_eq_false (by simp), cond_false]
    · show m_laws_heldNodeS_l1 (Q ++ []) k (P.length : Int) = _
      unfold m_laws_heldNodeS_l1
      rw [decide_eq_false (by simp; omega), cond_false]
  | x :: t, P, k, h0, h1, h2 => by
    have hB := bulkN_cons x t
    have hn := bulkN_next x
    have h2' : P.length + (t.length + 1) ≤ 100000000 := by simpa using h2
    obtain ⟨ys, k3, m1, m2, m3, m4⟩ := marksInt64S x.Next (by omega) (k + 1 + 1) (by omega) (by omega)
    have hst : m_laws_markNodeS_l1 (P ++ x :: t) k (P.length : Int) = some (.inl ((P ++ [(⟨k.tmod 3 == 0, mtext (k + 1), ys⟩ : Node)]) ++ t, k3, ((P ++ [(⟨k.tmod 3 == 0, mtext (k + 1), ys⟩ : Node)]).length : Int))) := by
      unfold m_laws_markNodeS_l1
      rw [decide_eq_true (by simp; omega), cond_true, remN_3, Option.bind_some, getL_mid, Option.bind_some, setL_mid, Option.bind_some, chk_in (by omega) (by omega), Option.bind_some, markText_m (k + 1) (by omega), Option.bind_some, getL_mid, Option.bind_some, setL_mid, Option.bind_some, chk_in (by omega) (by omega), Option.bind_some, getL_mid, Option.bind_some, m1, Option.bind_some, setL_mid, Option.bind_some, chk_in (by omega) (by omega), Option.bind_some]
      simp
    obtain ⟨t', k', g1, gl, g4, g2, g3⟩ := marksN_loop t (P ++ [(⟨k.tmod 3 == 0, mtext (k + 1), ys⟩ : Node)]) k3 m3 (by omega) (by simp; omega)
    refine ⟨(⟨k.tmod 3 == 0, mtext (k + 1), ys⟩ : Node) :: t', k', ?_, by simp [gl], fun Q hQ => ?_, g2, by omega⟩
    · rw [loopM_next hst, g1]
      simp
    · have hgt : getL (Q ++ (⟨k.tmod 3 == 0, mtext (k + 1), ys⟩ : Node) :: t') (P.length : Int) = some ⟨k.tmod 3 == 0, mtext (k + 1), ys⟩ := by rw [← hQ]; exact getL_mid Q t' _
      have hsh : m_laws_heldNodeS_l1 (Q ++ (⟨k.tmod 3 == 0, mtext (k + 1), ys⟩ : Node) :: t') k (P.length : Int) = some (.inl (k3, ((P ++ [(⟨k.tmod 3 == 0, mtext (k + 1), ys⟩ : Node)]).length : Int))) := by
        unfold m_laws_heldNodeS_l1
        rw [decide_eq_true (by simp; omega), cond_true, hgt, Option.bind_some, remN_3, Option.bind_some]
        simp only [bne_self_eq_false, cond_false]
        rw [chk_in (by omega) (by omega), Option.bind_some, Option.bind_some, markText_m (k + 1) (by omega), Option.bind_some]
        simp only [bne_self_eq_false, cond_false]
        rw [chk_in (by omega) (by omega), Option.bind_some, Option.bind_some, m2, Option.bind_some, decide_eq_false (by omega), cond_false, chk_in (by omega) (by omega), Option.bind_some]
        simp
      rw [loopM_next (step := fun s : Int × Int => m_laws_heldNodeS_l1 (Q ++ (⟨k.tmod 3 == 0, mtext (k + 1), ys⟩ : Node) :: t') s.1 s.2) hsh]
      have e : Q ++ (⟨k.tmod 3 == 0, mtext (k + 1), ys⟩ : Node) :: t' = (Q ++ [(⟨k.tmod 3 == 0, mtext (k + 1), ys⟩ : Node)]) ++ t' := by simp
      rw [e]
      exact g4 (Q ++ [(⟨k.tmod 3 == 0, mtext (k + 1), ys⟩ : Node)]) (by simp [hQ])
theorem marksDawg (d : Dawg) (hb : bulk_Dawg d ≤ 1048576) (k : Int) (h0 : 0 ≤ k) (h1 : k ≤ 1000000000) : ∃ (ys : List Node) (k' : Int), m_laws_markDawg d k = some (k', ys) ∧ m_laws_heldDawg (⟨ys⟩ : Dawg) k = some k' ∧ 0 ≤ k' := by
  have hl : d.Nodes.length ≤ bulk_NodeS d.Nodes := by unfold bulk_NodeS; omega
  have hb' : bulk_NodeS d.Nodes ≤ 1048576 := hb
  obtain ⟨ys, k', g1, gl, g4, g2, g3⟩ := marksN_loop d.Nodes [] k h0 (by omega) (by simp; omega)
  refine ⟨ys, k', ?_, ?_, g2⟩
  · unfold m_laws_markDawg m_laws_markNodeS
    show ((loopM (fun s : (List Node) × Int × Int => m_laws_markNodeS_l1 s.1 s.2.1 s.2.2) ([] ++ d.Nodes, k, ((([] : List Node)).length : Int))).bind _).bind _ = _
    rw [g1]
    rfl
  · have g5 : loopM (fun s : Int × Int => m_laws_heldNodeS_l1 ys s.1 s.2) (k, 0) = some (.inl k') := g4 [] rfl
    unfold m_laws_heldDawg m_laws_heldNodeS
    rw [g5]
    simp only [Option.bind_some]
    rw [decide_eq_false (by omega), cond_false]
end Go.Proofs.YtccoeheoifbpcaaGreatDoor
