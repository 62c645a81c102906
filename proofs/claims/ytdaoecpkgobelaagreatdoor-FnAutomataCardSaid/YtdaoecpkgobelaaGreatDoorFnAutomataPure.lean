/- FnAutomata: the automaton of a drawn lexicon. -/
import Derived.Test.YtdaoecpkgobelaaGreatDoorPureDt
namespace Go.Proofs.YtdaoecpkgobelaaGreatDoor
open Go Go.RowKit
set_option linter.unusedSimpArgs false
set_option linter.unusedVariables false

theorem drawnL (code : Str) : ∃ L : List Str, m_spec_A2Lexicon code = some ⟨L⟩ ∧ LexD 25 L := by
  have h0 : SrcK code 0 (⟨code, 0, 0⟩ : l00Src) := ⟨by simp, by simp, rfl⟩
  obtain ⟨v, s1, e1, a1, _, a2, h1⟩ := pick_k h0 (by omega) (16 + 1) (by omega)
  have a2 := a2 (by omega)
  obtain ⟨n, hn⟩ : ∃ n : Nat, v = n := ⟨v.toNat, by omega⟩
  subst hn
  obtain ⟨s2, x, e2, h2⟩ := draw_words (⟨code, 0, 0⟩ : l00Src) n 1 s1 [] h1 (by omega) ⟨by simp, List.Pairwise.nil, by simp⟩ (by omega)
  refine ⟨x, ?_, h2⟩
  unfold m_spec_A2Lexicon m_spec_l00From m_spec_l05Draw
  rw [Option.bind_some, someD_eq, Option.bind_some, chk_in (by omega) (by omega), Option.bind_some, e1, Option.bind_some]
  simp only
  rw [e2]
  rfl

theorem lexB_drawn {L : List Str} (h : LexD 25 L) : lexB ⟨L⟩ = true := by
  obtain ⟨h1, h2, h3⟩ := h
  unfold lexB
  rw [Bool.and_eq_true, Bool.and_eq_true]
  refine ⟨⟨decide_eq_true (by show L.length ≤ 200; omega), ?_⟩, List.all_eq_true.2 fun w hw => ?_⟩
  · unfold riseB
    rw [allI_iff]
    intro j _ hj
    unfold riseAt
    rcases Nat.eq_zero_or_pos j with h0 | h0
    · rw [decide_eq_true h0]; rfl
    · have hj' : j < L.length := by simpa using hj
      have := List.pairwise_iff_getElem.1 h2 (j - 1) j (by omega) hj' (by omega)
      rw [decide_eq_false (by omega), Bool.false_or]
      show ltS (L.getD (j - 1) []) (L.getD j []) = true
      rw [List.getD_eq_getElem?_getD, List.getD_eq_getElem?_getD, List.getElem?_eq_getElem (by omega), List.getElem?_eq_getElem hj']
      exact this
  · obtain ⟨q1, q2, q3⟩ := someD_ok.2 w (h3 w hw)
    unfold longB
    rw [Bool.and_eq_true]
    exact ⟨decide_eq_true (by omega), wordB_iff.2 ⟨q1, by omega, by omega⟩⟩

theorem validLex_drawn {L : List Str} (h : LexD 25 L) : m_impl_ValidLexicon ⟨L⟩ = some true := by
  rw [ValidLexicon_eq ⟨L⟩ (by have := h.1; show L.length ≤ _; omega) (fun w hw => by have := (someD_ok.2 w (h.2.2 w hw)).2.2; omega), lexB_drawn h]

theorem hasWord_eq {D : List Node} (hG : GoodD D) (hL : LexD 25 (langA (ndD D) 14 0)) (s : Str) : m_spec_HasWord ⟨langA (ndD D) 14 0⟩ s = some (accA (ndD D) s) := by
  obtain ⟨A, B, hcut⟩ := hG.cut s
  obtain ⟨n, hn, hf⟩ := firstS_eq (langA (ndD D) 14 0) s (by have := hL.1; omega)
  obtain rfl := hf.unique hcut.first
  have hacc := acc_first D hG s hcut
  unfold m_spec_HasWord
  rw [ok_drawn hL (by omega), Option.bind_some, cond_true]
  unfold m_spec_l05Has
  dsimp only
  rw [hn, Option.bind_some, ← hacc]
  rcases Nat.lt_or_ge A.length (langA (ndD D) 14 0).length with h | h
  · rw [decide_eq_true (by omega : ((A.length : Nat) : Int) < ((langA (ndD D) 14 0).length : Int)), decide_eq_true h, cond_true, getL_at h, List.getD_eq_getElem?_getD, List.getElem?_eq_getElem h]
    rfl
  · rw [decide_eq_false (by omega), decide_eq_false (by omega)]
    rfl

theorem accP_drawn {D : List Node} (hG : GoodD D) (hlen : ∀ x ∈ D, x.Next.length ≤ 2000000) {s : Str} (hs : s.length ≤ 1000000000) : m_impl_AcceptsWord ⟨D⟩ s = some (accA (ndD D) s) := by
  unfold m_impl_AcceptsWord
  rw [(valid_val hG hlen).1, Option.bind_some, cond_true, accepts_eq ⟨D⟩ hG.shape hlen s (by omega)]
  rfl

theorem same_list (L : List Str) (hl : L.length ≤ 8000000000000000000) : m_laws_a2Same L L = some true ∧ m_spec_l05Same L L = some true := by
  have k1 := loop_run (step := fun s : Int => m_laws_a2Same_l1 L L s) (fun i => (i : Int)) L.length (.inl () : Unit ⊕ Bool) (fun i hi => by
      show m_laws_a2Same_l1 L L (i : Int) = _
      unfold m_laws_a2Same_l1
      rw [decide_eq_true (by omega), cond_true, getL_at hi, Option.bind_some, Option.bind_some, bne_self_eq_false, cond_false, chk_succ (by omega)]
      rfl)
    (by
      show m_laws_a2Same_l1 L L (L.length : Int) = _
      unfold m_laws_a2Same_l1
      rw [decide_eq_false (by omega)]
      rfl) 0 (Nat.zero_le _)
  have k2 := loop_run (step := fun s : Int => m_spec_l05Same_l1 L L s) (fun i => (i : Int)) L.length (.inl () : Unit ⊕ Bool) (fun i hi => by
      show m_spec_l05Same_l1 L L (i : Int) = _
      unfold m_spec_l05Same_l1
      rw [decide_eq_true (by omega), cond_true, getL_at hi, Option.bind_some, Option.bind_some, bne_self_eq_false, cond_false, chk_succ (by omega)]
      rfl)
    (by
      show m_spec_l05Same_l1 L L (L.length : Int) = _
      unfold m_spec_l05Same_l1
      rw [decide_eq_false (by omega)]
      rfl) 0 (Nat.zero_le _)
  unfold m_laws_a2Same m_spec_l05Same
  rw [show ((0 : Nat) : Int) = 0 from rfl] at k1 k2
  rw [bne_self_eq_false, cond_false, k1, k2]
  exact ⟨rfl, rfl⟩

theorem sameDawg_eq (a b : Dawg) (hl : a.Nodes.length ≤ 10000000) (hx : ∀ x ∈ a.Nodes, x.Next.length ≤ 10000000) : m_spec_SameDawg a b = some (decide (a.Nodes = b.Nodes)) := by
  unfold m_spec_SameDawg
  rw [Same_eq a b hl hx]
  rfl

theorem nodes_apart {D : List Node} (hG : GoodD D) {i k : Nat} (hi : i < D.length) (hk : k < D.length) (hne : i ≠ k) : D[i] ≠ D[k] := fun e => by
  have h1 : ndD D i = ndD D k := by rw [ndD_at hi, ndD_at hk, e]
  exact hne (hG.num.good.inj i (hG.pre hi) k (hG.pre hk) h1)

theorem apart_inner {D : List Node} (hG : GoodD D) (y : Dawg × Int) (hy : y.1 = ⟨D⟩) {i : Nat} (hi : i < D.length) : loopM (fun s : Int => m_laws_FnAutomata_l2 (i : Int) y s) 0 = some (.inl ()) := by
  have hmax := hG.shape.max
  have hrun := loop_run (step := fun s : Int => m_laws_FnAutomata_l2 (i : Int) y s) (fun k => (k : Int)) i (.inl () : Unit ⊕ Bool) (fun k hk => by
      have hok := hG.shape.node _ (List.getElem_mem hi)
      have hfew := hok.few
      have hl := hok.len
      have hkd : k < D.length := by omega
      show m_laws_FnAutomata_l2 (i : Int) y (k : Int) = _
      unfold m_laws_FnAutomata_l2
      rw [hy]
      dsimp only
      rw [decide_eq_true (by omega : (k : Int) < (i : Int)), cond_true, getL_at hi, Option.bind_some, getL_at hkd, Option.bind_some, sameDawg_eq _ _ (by simp) (fun x hx => by
        have : x = D[i] := by simpa using hx
        rw [this]; omega), Option.bind_some]
      have hd : decide ([D[i]] = [D[k]]) = false := decide_eq_false fun e => nodes_apart hG hi hkd (by omega) (List.cons.inj e).1
      dsimp only
      rw [hd, cond_false, chk_succ (by omega), Option.bind_some])
    (by
      show m_laws_FnAutomata_l2 (i : Int) y (i : Int) = _
      unfold m_laws_FnAutomata_l2
      rw [decide_eq_false (by omega)]
      rfl) 0 (Nat.zero_le _)
  exact hrun

theorem apart_all {D : List Node} (hG : GoodD D) (y : Dawg × Int) (hy : y.1 = ⟨D⟩) : loopM (fun s : Int => m_laws_FnAutomata_l1 y s) 0 = some (.inl ()) := by
  have hmax := hG.shape.max
  have hrun := loop_run (step := fun s : Int => m_laws_FnAutomata_l1 y s) (fun k => (k : Int)) D.length (.inl () : Unit ⊕ Bool) (fun i hi => by
      show m_laws_FnAutomata_l1 y (i : Int) = _
      unfold m_laws_FnAutomata_l1
      rw [apart_inner hG y hy hi, hy]
      dsimp only
      rw [decide_eq_true (by omega : (i : Int) < (D.length : Int)), cond_true, Option.bind_some, Option.bind_some]
      dsimp only
      rw [chk_succ (by omega), Option.bind_some])
    (by
      show m_laws_FnAutomata_l1 y (D.length : Int) = _
      unfold m_laws_FnAutomata_l1
      rw [hy]
      dsimp only
      rw [decide_eq_false (by omega : ¬ (D.length : Int) < (D.length : Int)), cond_false]) 0 (Nat.zero_le _)
  exact hrun

theorem m_laws_FnAutomata_true (code more : Str) (h : Lies (sliceRep byteRep) code) (h' : Lies (sliceRep byteRep) more) : m_laws_FnAutomata code more = some true := by
  unfold m_laws_FnAutomata
  cases hlong : m_laws_a2Long code more with
  | none =>
    unfold m_laws_a2Long at hlong
    cases hq : decide (3000 < (code.length : Int)) <;> rw [hq] at hlong <;> cases hlong
  | some lg =>
    rw [Option.bind_some]
    cases lg with
    | true => rfl
    | false =>
      rw [cond_false]
      obtain ⟨L, e1, hL⟩ := drawnL code
      obtain ⟨w, e2, hw⟩ := A2Word_val more
      obtain ⟨w1, w2, w3⟩ := someD_ok.2 w hw
      have hR : ∀ u ∈ L, u ≠ [] ∧ u.length ≤ 13 ∧ ∀ c ∈ u, formB c = true := fun u hu => by
        obtain ⟨q1, q2, q3⟩ := someD_ok.2 u (hL.2.2 u hu)
        refine ⟨?_, by omega, fun c hc => form_small (List.all_eq_true.1 q1 c hc)⟩
        rintro rfl
        simp at q2
      have htot := totA_le (R := L) (n := 6) fun u hu => (someD_ok.2 u (hL.2.2 u hu)).2.2
      have hL25 := hL.1
      obtain ⟨D, hD, hG, hlang, hlen⟩ := dawgOf_good L hL.2.1 hR (by omega) (by omega)
      have hsize := hG.num.size
      rw [hlang] at hsize
      have hmax := hG.shape.max
      have hT := textD_len D.length hmax D hG.shape.node
      have hB : m_impl_BuildDawg ⟨L⟩ = some (⟨D⟩, 0) := by
        unfold m_impl_BuildDawg
        rw [validLex_drawn hL, Option.bind_some, Bool.not_true, cond_false]
        show ((m_impl_dawgOf L).bind _) = _
        rw [hD]
        rfl
      have hW : m_impl_WordsOf ⟨D⟩ = some (L, 0) := by
        unfold m_impl_WordsOf
        rw [(valid_val hG hlen).1, Option.bind_some, Bool.not_true, cond_false, words_eq ⟨D⟩ hG hlen, Option.bind_some]
        show some (langA (ndD D) 14 0, (0 : Int)) = _
        rw [hlang]
      have hX : m_impl_LexiconOf ⟨D⟩ = some (⟨L⟩, 0) := by
        unfold m_impl_LexiconOf
        rw [(valid_val hG hlen).1, Option.bind_some, Bool.not_true, cond_false, words_eq ⟨D⟩ hG hlen, Option.bind_some]
        show (((m_impl_ValidLexicon ⟨langA (ndD D) 14 0⟩).bind _)) = _
        rw [hlang, validLex_drawn hL]
        rfl
      obtain ⟨s1, s2⟩ := same_list L (by omega)
      have hsl : m_spec_SameLexicon ⟨L⟩ ⟨L⟩ = some true := by
        unfold m_spec_SameLexicon
        show ((m_spec_l05Same L L).bind _) = _
        rw [s2]
        rfl
      have hsd := sameDawg_eq ⟨D⟩ ⟨D⟩ (by show D.length ≤ _; omega) (fun x hx => Nat.le_trans (hlen x hx) (by omega))
      rw [decide_eq_true rfl] at hsd
      have hrd := ReadDawg_text hG hlen (by omega)
      have hv := (valid_val hG hlen).1
      have hacc := accP_drawn hG hlen (s := w) (by omega)
      have hacc0 := accP_drawn hG hlen (s := []) (by simp)
      have h00 : accA (ndD D) [] = false := hG.nofin
      have hhas : m_spec_HasWord ⟨L⟩ w = some (accA (ndD D) w) := by
        have := hasWord_eq hG (by rw [hlang]; exact hL) w
        rw [hlang] at this
        exact this
      rw [e1, Option.bind_some, e2, Option.bind_some, hB, Option.bind_some]
      simp only [bne_self_eq_false, cond_false, decide_eq_false (show ¬ (3000 : Int) < (D.length : Int) by omega), Option.bind_some]
      rw [hW, Option.bind_some, hX, Option.bind_some, DawgText_eq hG hlen, Option.bind_some, hrd, Option.bind_some]
      simp only [bne_self_eq_false, cond_false, Bool.not_true, s1, hsl, hsd, hv, Option.bind_some]
      rw [apart_all hG (⟨D⟩, 0) rfl]
      simp only [Option.bind_some, hacc, hhas, beq_self_eq_true, cond_true, hacc0, h00, Bool.not_false]

end Go.Proofs.YtdaoecpkgobelaaGreatDoor
