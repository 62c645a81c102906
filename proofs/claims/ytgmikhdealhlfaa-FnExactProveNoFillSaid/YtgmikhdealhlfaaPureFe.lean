/- Proofs that there is no filling: both sides write the same. -/
import Derived.Test.YtgmikhdealhlfaaPureFd
namespace Go.Proofs.Ytgmikhdealhlfaa
open Go Go.RowKit
set_option linter.unusedSimpArgs false
set_option linter.unusedVariables false

theorem indexByte_dot : ∀ s : Str, decide (0 ≤ Lib.indexByte s 46) = s.any (· == 46)
  | [] => rfl
  | b :: s => by
    have ih := indexByte_dot s
    have hge := Lib.indexByte_ge s 46
    rw [Lib.indexByte, List.any_cons, ← ih]
    cases hb : b == 46
    · rw [if_neg (by decide), Bool.false_or]
      by_cases h : Lib.indexByte s 46 = -1
      · rw [h]; rfl
      · rw [if_neg (by simpa using h), decide_eq_true (by omega), decide_eq_true (by omega)]
    · rw [if_pos rfl]; rfl
section
variable {R C : Nat} (hR : R ≤ 5) (hC : C ≤ 5) {sl : List Slot} {l : Lexicon} (hlex : lexB l = true)
/-- The slot of a step: the first dead one, or the first that has a free square. -/
def nextK (C : Nat) (sl : List Slot) (l : Lexicon) (g : Grid) : Int := bif sl.any (deadT l C g) then idxI (deadT l C g) sl else idxI (freeT C g) sl
def proofF (C : Nat) (sl : List Slot) (l : Lexicon) : Nat → Grid → List Int
  | 0, _ => []
  | n + 1, g => nextK C sl l g :: (match sl[(nextK C sl l g).toNat]? with
    | none => []
    | some s => (candT l.Words C g s).flatMap fun w => proofF C sl l n (putT g s w))
include hR hC hlex
theorem nextSlot_eq {g : Grid} (hg : ShapeT R C sl g) (hsl : sl.length ≤ 50) : m_impl_Grid_nextSlot g l sl = some (nextK C sl l g) := by
  unfold m_impl_Grid_nextSlot nextK
  rw [loop_find (deadT l C g) sl (fun i => (.inr (i : Int) : Unit ⊕ Int)) (.inl ()) (fun i hi => by
      have hin := shape_slot hg (List.getElem_mem hi)
      have hcand : m_impl_Grid_candidates g l sl[i] = some (candT l.Words C g sl[i]) := candidates_eq hg.2.2.1 hR hC hg.2.2.2.1 hin l hlex
      unfold m_impl_Grid_nextSlot_l1
      rw [decide_eq_true (by omega : (i : Int) < sl.length), cond_true, getL_at hi, Option.bind_some, hcand, Option.bind_some, chk_succ (i := i) (by omega)]
      unfold deadT
      cases candT l.Words C g sl[i] with
      | nil => rfl
      | cons a b =>
        rw [beq_eq_false_iff_ne.2 (by simp; omega)]
        rfl)
    (by unfold m_impl_Grid_nextSlot_l1; rw [decide_eq_false (by omega)]; rfl), Option.bind_some]
  have hc := idxI_cases (deadT l C g) sl
  unfold idxI at hc
  cases hf : sl.findIdx? (deadT l C g) with
  | some i =>
    rw [hf] at hc
    rcases hc with ⟨e, _⟩ | ⟨i', e, _, _, _, ha⟩
    · simp only at e; omega
    · rw [ha, cond_true]
      unfold idxI
      rw [hf]
      rfl
  | none =>
    rw [hf] at hc
    rcases hc with ⟨_, _, ha⟩ | ⟨i', e, _⟩
    case inr => simp only at e; omega
    rw [ha, cond_false, Option.bind_some]
    have hidx : m_slices_IndexFunc_impl_Slot_impl_Slot sl (fun u69 => m_impl_Grid_nextSlot_1 u69 g) = some (idxI (freeT C g) sl) := by
      unfold m_slices_IndexFunc_impl_Slot_impl_Slot idxI
      rw [loop_find (freeT C g) sl (fun i => (.inr (i : Int) : Unit ⊕ Int)) (.inl ()) (fun i hi => by
          have hin := shape_slot hg (List.getElem_mem hi)
          have hpat : m_impl_Grid_pattern g sl[i] = some (patT g.Cells C sl[i]) := pattern_eq hg.2.2.1 hR hC hg.2.2.2.1 hin
          have hcont : m_strings_Contains (patT g.Cells C sl[i]) [46] = some (freeT C g sl[i]) := by
            show some (decide (0 ≤ Lib.indexByte (patT g.Cells C sl[i]) 46)) = _
            rw [indexByte_dot]
            rfl
          unfold m_slices_IndexFunc_impl_Slot_impl_Slot_l1 m_impl_Grid_nextSlot_1
          rw [decide_eq_true (by omega : (i : Int) < sl.length), cond_true, getL_at hi, Option.bind_some]
          dsimp only
          rw [hpat, Option.bind_some, hcont, Option.bind_some, Option.bind_some, chk_succ (i := i) (by omega)]
          cases freeT C g sl[i] <;> rfl)
        (by unfold m_slices_IndexFunc_impl_Slot_impl_Slot_l1; rw [decide_eq_false (by omega)]; rfl), Option.bind_some]
      cases sl.findIdx? (freeT C g) <;> rfl
    rw [hidx]
    rfl
/-- A grid without a filling has a next slot. -/
theorem nextK_in {g : Grid} {n : Nat} (hn : 0 < n) (h : specF sl (candT l.Words C) putT (freeT C) n g = []) : ∃ (i : Nat) (hi : i < sl.length), nextK C sl l g = i ∧ (candT l.Words C g sl[i] = [] ∨ freeT C g sl[i] = true) ∧ ∀ m w, n = m + 1 → w ∈ candT l.Words C g sl[i] → specF sl (candT l.Words C) putT (freeT C) m (putT g sl[i] w) = [] := by
  have _ := hR
  have _ := hC
  have _ := hlex
  obtain ⟨n, rfl⟩ : ∃ m, n = m + 1 := ⟨n - 1, by omega⟩
  have hdead : deadF sl (candT l.Words C) g = sl.any (deadT l C g) := rfl
  rcases idxI_cases (deadT l C g) sl with ⟨e, _, hd⟩ | ⟨i, e, hi, hdi, _, hd⟩
  · rcases idxI_cases (freeT C g) sl with ⟨e', hf, _⟩ | ⟨i, e', hi, hfr, hf, _⟩
    · rw [specF, hdead, hd, if_neg (by decide), hf] at h
      cases h
    · rw [specF, hdead, hd, if_neg (by decide), hf] at h
      refine ⟨i, hi, ?_, .inr hfr, fun m w hm hw => ?_⟩
      · unfold nextK
        rw [hd, cond_false, e']
      · obtain rfl : n = m := by omega
        exact List.flatMap_eq_nil_iff.1 h w hw
  · unfold deadT at hdi
    refine ⟨i, hi, ?_, .inl (List.isEmpty_iff.1 hdi), fun m w hm hw => ?_⟩
    · unfold nextK
      rw [hd, cond_true, e]
    · rw [List.isEmpty_iff.1 hdi] at hw
      cases hw
theorem proofF_step {g : Grid} {n i : Nat} (hi : i < sl.length) (e : nextK C sl l g = i) : proofF C sl l (n + 1) g = (i : Int) :: (candT l.Words C g sl[i]).flatMap fun w => proofF C sl l n (putT g sl[i] w) := by
  have _ := hR
  have _ := hC
  have _ := hlex
  rw [proofF, e, Int.toNat_natCast, List.getElem?_eq_getElem hi]
/-- The program's proof. -/
theorem prove_eq (hsl : sl.length ≤ 50) : ∀ (n : Nat) (g : Grid) (pf : List Int), freeN C sl g < n → ShapeT R C sl g → specF sl (candT l.Words C) putT (freeT C) n g = [] → pf.length ≤ 5000 →
    (pf.length + (proofF C sl l n g).length ≤ 5000 → m_impl_Grid_prove_n n g l sl pf = some (true, pf ++ proofF C sl l n g)) ∧ (5000 < pf.length + (proofF C sl l n g).length → ∃ p', m_impl_Grid_prove_n n g l sl pf = some (false, p')) := by
  intro n
  induction n with
  | zero => intro g pf h; omega
  | succ n ih =>
    intro g pf hn hg hno hpf
    obtain ⟨l1, l2, l3⟩ := lexB_all hlex
    have hws := lex_ok hlex
    obtain ⟨i, hi, hk, hfree, hch⟩ := nextK_in hR hC hlex (sl := sl) (Nat.succ_pos n) hno
    have hstep := proofF_step hR hC hlex (n := n) hi hk
    have hun : m_impl_Grid_prove_n (n + 1) g l sl pf = m_impl_Grid_prove_b (m_impl_Grid_prove_n n) g l sl pf := rfl
    rw [hun]
    unfold m_impl_Grid_prove_b
    by_cases hfull : pf.length = 5000
    · rw [beq_iff_eq.2 (by omega), cond_true]
      refine ⟨fun h => ?_, fun _ => ⟨pf, rfl⟩⟩
      rw [hstep, List.length_cons] at h
      omega
    have hin := shape_slot hg (List.getElem_mem hi)
    have hlen := cand_le (C := C) (l := l) g sl[i]
    have hcand : m_impl_Grid_candidates g l sl[i] = some (candT l.Words C g sl[i]) := candidates_eq hg.2.2.1 hR hC hg.2.2.2.1 hin l hlex
    have key : ∀ (d j : Nat) (p : List Int), j + d = (candT l.Words C g sl[i]).length → p.length ≤ 5000 →
        (p.length + (((candT l.Words C g sl[i]).drop j).flatMap fun w => proofF C sl l n (putT g sl[i] w)).length ≤ 5000 → loopM (fun s : (List Int) × Int => m_impl_Grid_prove_l1 (candT l.Words C g sl[i]) sl (i : Int) g (m_impl_Grid_prove_n n) l s.1 s.2) (p, (j : Int)) = some (.inl (p ++ ((candT l.Words C g sl[i]).drop j).flatMap fun w => proofF C sl l n (putT g sl[i] w)))) ∧
        (5000 < p.length + (((candT l.Words C g sl[i]).drop j).flatMap fun w => proofF C sl l n (putT g sl[i] w)).length → ∃ p', loopM (fun s : (List Int) × Int => m_impl_Grid_prove_l1 (candT l.Words C g sl[i]) sl (i : Int) g (m_impl_Grid_prove_n n) l s.1 s.2) (p, (j : Int)) = some (.inr (false, p'))) := by
      intro d
      induction d with
      | zero =>
        intro j p hj hp
        rw [List.drop_eq_nil_of_le (by omega), List.flatMap_nil, List.append_nil]
        refine ⟨fun _ => loopM_done ?_, fun h => by simp at h; omega⟩
        show m_impl_Grid_prove_l1 (candT l.Words C g sl[i]) sl (i : Int) g (m_impl_Grid_prove_n n) l p (j : Int) = _
        unfold m_impl_Grid_prove_l1
        rw [decide_eq_false (by omega)]
        rfl
      | succ d ihd =>
        intro j p hj hp
        have hj' : j < (candT l.Words C g sl[i]).length := by omega
        have hw := List.getElem_mem hj'
        obtain ⟨hm, hfit⟩ := List.mem_filter.1 hw
        obtain ⟨hshape, _⟩ := put_shape hR hC hws hg (List.getElem_mem hi) hw
        obtain ⟨_, nn, hn1, hn2⟩ := put_ref hR hC hws hg (List.getElem_mem hi) hw
        have hput : m_impl_Grid_put g sl[i] (candT l.Words C g sl[i])[j] = some (putT g sl[i] (candT l.Words C g sl[i])[j]) := putI_eq hg.2.2.1 hR hC hg.2.2.2.1 hin (l3 _ hm).1 (by rw [hn1, hn2])
        have hfr : freeT C g sl[i] = true := by
          rcases hfree with h | h
          · exact absurd hj' (by rw [h]; simp)
          · exact h
        have hless := freeN_less hR hC hlex hg (List.getElem_mem hi) hfr hw
        obtain ⟨c1, c2⟩ := ih (putT g sl[i] (candT l.Words C g sl[i])[j]) p (by omega) hshape (hch n _ rfl hw) hp
        have hun2 : m_impl_Grid_prove_l1 (candT l.Words C g sl[i]) sl (i : Int) g (m_impl_Grid_prove_n n) l p (j : Int) = (m_impl_Grid_prove_n n (putT g sl[i] (candT l.Words C g sl[i])[j]) l sl p).bind fun y115 => bif !y115.1 then some (.inr (.inr (false, y115.2))) else some (.inl (y115.2, ((j + 1 : Nat) : Int))) := by
          unfold m_impl_Grid_prove_l1
          rw [decide_eq_true (by omega), cond_true, getL_at hj', Option.bind_some, getL_at hi, Option.bind_some, hput, Option.bind_some, chk_succ (i := j) (by omega)]
          rfl
        rw [List.drop_eq_getElem_cons hj', List.flatMap_cons, List.length_append, ← List.append_assoc]
        by_cases hfits : p.length + (proofF C sl l n (putT g sl[i] (candT l.Words C g sl[i])[j])).length ≤ 5000
        · have hc := c1 hfits
          obtain ⟨d1, d2⟩ := ihd (j + 1) (p ++ proofF C sl l n (putT g sl[i] (candT l.Words C g sl[i])[j])) (by omega) (by rw [List.length_append]; omega)
          have hnext : loopM (fun s : (List Int) × Int => m_impl_Grid_prove_l1 (candT l.Words C g sl[i]) sl (i : Int) g (m_impl_Grid_prove_n n) l s.1 s.2) (p, (j : Int)) = loopM (fun s : (List Int) × Int => m_impl_Grid_prove_l1 (candT l.Words C g sl[i]) sl (i : Int) g (m_impl_Grid_prove_n n) l s.1 s.2) (p ++ proofF C sl l n (putT g sl[i] (candT l.Words C g sl[i])[j]), ((j + 1 : Nat) : Int)) := loopM_next (by
            show m_impl_Grid_prove_l1 (candT l.Words C g sl[i]) sl (i : Int) g (m_impl_Grid_prove_n n) l p (j : Int) = _
            rw [hun2, hc]
            rfl)
          rw [hnext]
          rw [List.length_append] at d1 d2
          exact ⟨fun h => d1 (by omega), fun h => d2 (by omega)⟩
        · obtain ⟨p', hc⟩ := c2 (by omega)
          refine ⟨fun h => by omega, fun _ => ⟨p', loopM_done ?_⟩⟩
          show m_impl_Grid_prove_l1 (candT l.Words C g sl[i]) sl (i : Int) g (m_impl_Grid_prove_n n) l p (j : Int) = _
          rw [hun2, hc]
          rfl
    obtain ⟨k1, k2⟩ := key (candT l.Words C g sl[i]).length 0 (pf ++ [(i : Int)]) (by omega) (by simp; omega)
    rw [show ((0 : Nat) : Int) = 0 from rfl, List.drop_zero, List.length_append, List.length_singleton] at k1 k2
    rw [beq_eq_false_iff_ne.2 (by omega), cond_false, nextSlot_eq hR hC hlex hg hsl, Option.bind_some, hk, catL_of (by simp; omega), Option.bind_some, getL_at hi, Option.bind_some, hcand, Option.bind_some, hstep, List.length_cons]
    refine ⟨fun h => ?_, fun h => ?_⟩
    · rw [k1 (by omega), Option.bind_some]
      show some (true, _) = some (true, _)
      rw [List.append_assoc]
      rfl
    · obtain ⟨p', hp'⟩ := k2 (by omega)
      rw [hp']
      exact ⟨p', rfl⟩
/-- The reference's proof. -/
theorem proofS_eq (hsl : sl.length ≤ 50) : ∀ (n : Nat) (g : Grid) (out : List Int), freeN C sl g < n → n ≤ 100000 → ShapeT R C sl g → specF sl (candT l.Words C) putT (freeT C) n g = [] → out.length ≤ 30000000 →
    (5000 < out.length → ∃ p, m_spec_l25Proof_n n out ⟨l.Words, sl, 0, []⟩ g = some (p, p) ∧ p.length = out.length + 1) ∧
    (out.length ≤ 5000 → (out.length + (proofF C sl l n g).length ≤ 5000 → m_spec_l25Proof_n n out ⟨l.Words, sl, 0, []⟩ g = some (out ++ proofF C sl l n g, out ++ proofF C sl l n g)) ∧ (5000 < out.length + (proofF C sl l n g).length → ∃ p, m_spec_l25Proof_n n out ⟨l.Words, sl, 0, []⟩ g = some (p, p) ∧ 5000 < p.length ∧ p.length ≤ 5001 + 201 * n)) := by
  intro n
  induction n with
  | zero => intro g out h; omega
  | succ n ih =>
    intro g out hn hn1 hg hno hout
    obtain ⟨l1, l2, l3⟩ := lexB_all hlex
    have hws := lex_ok hlex
    obtain ⟨i, hi, hk, hfree, hch⟩ := nextK_in hR hC hlex (sl := sl) (Nat.succ_pos n) hno
    have hstep := proofF_step hR hC hlex (n := n) hi hk
    have hun : m_spec_l25Proof_n (n + 1) out ⟨l.Words, sl, 0, []⟩ g = m_spec_l25Proof_b (m_spec_l25Proof_n n) out ⟨l.Words, sl, 0, []⟩ g := rfl
    rw [hun]
    unfold m_spec_l25Proof_b
    rw [dead_eq hR hC hlex hg hsl, Option.bind_some]
    rcases idxI_cases (deadT l C g) sl with ⟨e, _, hd⟩ | ⟨i', e, hi', hdi, _, hd⟩
    case inr =>
      -- a dead slot
      have hki : i' = i := by
        unfold nextK at hk
        rw [hd, cond_true, e] at hk
        omega
      subst hki
      unfold deadT at hdi
      rw [List.isEmpty_iff.1 hdi, List.flatMap_nil] at hstep
      rw [e, decide_eq_true (by omega), cond_true, Option.bind_some, cond_true, catL_of (by simp; omega), Option.bind_some, hstep]
      exact ⟨fun _ => ⟨_, rfl, by simp⟩, fun h => ⟨fun _ => rfl, fun h' => ⟨_, rfl, by simpa using h', by simp; omega⟩⟩⟩
    have hfr : freeT C g sl[i] = true := by
      rcases hfree with h | h
      · exfalso
        have : sl.any (deadT l C g) = true := List.any_eq_true.2 ⟨_, List.getElem_mem hi, by unfold deadT; rw [h]; rfl⟩
        rw [this] at hd
        cases hd
      · exact h
    rw [e, decide_eq_false (by omega), cond_false, Option.bind_some]
    by_cases hbig : 5000 < out.length
    · rw [decide_eq_true (by omega), cond_true, catL_of (by simp; omega), Option.bind_some]
      exact ⟨fun _ => ⟨_, rfl, by simp⟩, fun h => absurd hbig (by omega)⟩
    refine ⟨fun h => absurd h hbig, fun _ => ?_⟩
    have hko : idxI (freeT C g) sl = i := by
      unfold nextK at hk
      rw [hd, cond_false] at hk
      exact hk
    have hin := shape_slot hg (List.getElem_mem hi)
    have hlen := cand_le (C := C) (l := l) g sl[i]
    have hwd : m_spec_l25Words g l.Words sl[i] = some (candT l.Words C g sl[i]) := wordsS_eq hg.2.2.1 hR hC hg.2.2.2.1 hin l.Words (by omega) (fun w hw => by have := l3 w hw; omega)
    have key : ∀ (d j : Nat) (p : List Int), j + d = (candT l.Words C g sl[i]).length → p.length ≤ 5001 + 201 * n + j →
        (p.length + (((candT l.Words C g sl[i]).drop j).flatMap fun w => proofF C sl l n (putT g sl[i] w)).length ≤ 5000 → loopM (fun s : (List Int) × Int => m_spec_l25Proof_l1 (candT l.Words C g sl[i]) ⟨l.Words, sl, 0, []⟩ (i : Int) g (m_spec_l25Proof_n n) s.1 s.2) (p, (j : Int)) = some (p ++ ((candT l.Words C g sl[i]).drop j).flatMap fun w => proofF C sl l n (putT g sl[i] w))) ∧
        (5000 < p.length + (((candT l.Words C g sl[i]).drop j).flatMap fun w => proofF C sl l n (putT g sl[i] w)).length → ∃ p', loopM (fun s : (List Int) × Int => m_spec_l25Proof_l1 (candT l.Words C g sl[i]) ⟨l.Words, sl, 0, []⟩ (i : Int) g (m_spec_l25Proof_n n) s.1 s.2) (p, (j : Int)) = some p' ∧ 5000 < p'.length ∧ p'.length ≤ 5001 + 201 * n + (candT l.Words C g sl[i]).length) := by
      intro d
      induction d with
      | zero =>
        intro j p hj hp
        have hdone : loopM (fun s : (List Int) × Int => m_spec_l25Proof_l1 (candT l.Words C g sl[i]) ⟨l.Words, sl, 0, []⟩ (i : Int) g (m_spec_l25Proof_n n) s.1 s.2) (p, (j : Int)) = some p := loopM_done (by
          show m_spec_l25Proof_l1 (candT l.Words C g sl[i]) ⟨l.Words, sl, 0, []⟩ (i : Int) g (m_spec_l25Proof_n n) p (j : Int) = _
          unfold m_spec_l25Proof_l1
          rw [decide_eq_false (by omega)]
          rfl)
        rw [List.drop_eq_nil_of_le (by omega), List.flatMap_nil, List.append_nil, hdone]
        exact ⟨fun _ => rfl, fun h => ⟨p, rfl, by simpa using h, by omega⟩⟩
      | succ d ihd =>
        intro j p hj hp
        have hj' : j < (candT l.Words C g sl[i]).length := by omega
        have hw := List.getElem_mem hj'
        obtain ⟨hm, hfit⟩ := List.mem_filter.1 hw
        obtain ⟨hshape, _⟩ := put_shape hR hC hws hg (List.getElem_mem hi) hw
        obtain ⟨_, nn, hn1', hn2⟩ := put_ref hR hC hws hg (List.getElem_mem hi) hw
        have hput : m_spec_l25Put g sl[i] (candT l.Words C g sl[i])[j] = some (putT g sl[i] (candT l.Words C g sl[i])[j]) := putS_eq hg.2.2.1 hR hC hg.2.2.2.1 hin (by rw [hn1', hn2])
        have hless := freeN_less hR hC hlex hg (List.getElem_mem hi) hfr hw
        obtain ⟨c1, c2⟩ := ih (putT g sl[i] (candT l.Words C g sl[i])[j]) p (by omega) (by omega) hshape (hch n _ rfl hw) (by omega)
        have hun2 : m_spec_l25Proof_l1 (candT l.Words C g sl[i]) ⟨l.Words, sl, 0, []⟩ (i : Int) g (m_spec_l25Proof_n n) p (j : Int) = (m_spec_l25Proof_n n p ⟨l.Words, sl, 0, []⟩ (putT g sl[i] (candT l.Words C g sl[i])[j])).bind fun y151 => some (.inl (y151.2, ((j + 1 : Nat) : Int))) := by
          unfold m_spec_l25Proof_l1
          rw [decide_eq_true (by omega), cond_true, getL_at hi, Option.bind_some, getL_at hj', Option.bind_some, hput, Option.bind_some, chk_succ (i := j) (by omega)]
          rfl
        have hnext : ∀ p1, m_spec_l25Proof_n n p ⟨l.Words, sl, 0, []⟩ (putT g sl[i] (candT l.Words C g sl[i])[j]) = some (p1, p1) → loopM (fun s : (List Int) × Int => m_spec_l25Proof_l1 (candT l.Words C g sl[i]) ⟨l.Words, sl, 0, []⟩ (i : Int) g (m_spec_l25Proof_n n) s.1 s.2) (p, (j : Int)) = loopM (fun s : (List Int) × Int => m_spec_l25Proof_l1 (candT l.Words C g sl[i]) ⟨l.Words, sl, 0, []⟩ (i : Int) g (m_spec_l25Proof_n n) s.1 s.2) (p1, ((j + 1 : Nat) : Int)) := fun p1 hc => loopM_next (by
          show m_spec_l25Proof_l1 (candT l.Words C g sl[i]) ⟨l.Words, sl, 0, []⟩ (i : Int) g (m_spec_l25Proof_n n) p (j : Int) = _
          rw [hun2, hc]
          rfl)
        rw [List.drop_eq_getElem_cons hj', List.flatMap_cons, List.length_append, ← List.append_assoc]
        by_cases hpb : 5000 < p.length
        · obtain ⟨p1, hc, hl1⟩ := c1 hpb
          rw [hnext p1 hc]
          obtain ⟨d1, d2⟩ := ihd (j + 1) p1 (by omega) (by omega)
          exact ⟨fun h => by omega, fun h => d2 (by omega)⟩
        obtain ⟨c3, c4⟩ := c2 (by omega)
        by_cases hfits : p.length + (proofF C sl l n (putT g sl[i] (candT l.Words C g sl[i])[j])).length ≤ 5000
        · rw [hnext _ (c3 hfits)]
          obtain ⟨d1, d2⟩ := ihd (j + 1) (p ++ proofF C sl l n (putT g sl[i] (candT l.Words C g sl[i])[j])) (by omega) (by rw [List.length_append]; omega)
          rw [List.length_append] at d1 d2
          exact ⟨fun h => d1 (by omega), fun h => d2 (by omega)⟩
        · obtain ⟨p1, hc, hl1, hl2⟩ := c4 (by omega)
          rw [hnext p1 hc]
          obtain ⟨d1, d2⟩ := ihd (j + 1) p1 (by omega) (by omega)
          exact ⟨fun h => by omega, fun h => d2 (by omega)⟩
    obtain ⟨k1, k2⟩ := key (candT l.Words C g sl[i]).length 0 (out ++ [(i : Int)]) (by omega) (by simp; omega)
    rw [show ((0 : Nat) : Int) = 0 from rfl, List.drop_zero, List.length_append, List.length_singleton] at k1 k2
    rw [decide_eq_false (by omega), cond_false, open_eq hR hC hlex hg hsl, Option.bind_some, hko, catL_of (by simp; omega), Option.bind_some]
    show _ ∧ _
    have hget : getL sl (i : Int) = some sl[i] := getL_at hi
    simp only [hget, Option.bind_some, hwd, hstep, List.length_cons]
    refine ⟨fun h => ?_, fun h => ?_⟩
    · rw [k1 (by omega), Option.bind_some, Option.bind_some, List.append_assoc]
      rfl
    · obtain ⟨p', hp', hp1, hp2⟩ := k2 (by omega)
      rw [hp', Option.bind_some, Option.bind_some]
      exact ⟨p', rfl, hp1, by omega⟩
end

theorem ProveNoFill_eq (g : Grid) (l : Lexicon) (hl : g.Cells.length ≤ 8000000000000000000) (hn : l.Words.length ≤ 1048576) (hw : ∀ w ∈ l.Words, w.length ≤ 1048576) : ∃ v : List Int × Int, m_impl_ProveNoFill g l = some v ∧ m_spec_ProveNoFill g l = some v ∧ v.1.length ≤ 5000 := by
  unfold m_impl_ProveNoFill m_spec_ProveNoFill
  have hw' : ∀ w ∈ l.Words, w.length ≤ 8000000000000000000 := fun w h => by have := hw w h; omega
  rw [ValidGrid_eq g hl, l25Ok_eq g hl, ValidLexicon_eq l (by omega) hw', l05Ok_eq l (by omega) hw']
  cases hg : gridB g
  · cases lexB l <;> exact ⟨_, rfl, rfl, by simp⟩
  cases hx : lexB l
  · exact ⟨_, rfl, rfl, by simp⟩
  obtain ⟨R, C, e1, e2, h1, h2, h3, h4, h5, h6⟩ := gridB_iff.1 hg
  have hS := fillS_eq hg e1 e2 h2 h4 h5 hx 1 (by omega) (by omega)
  rw [show ((1 : Nat) : Int) = 1 from rfl] at hS
  have hsl := slotsT_len h2 h4 g.Cells
  have hshape : ShapeT R C (slotsT g.Cells R C) g := ⟨hg, e1, e2, h5, rfl⟩
  have hroot := root_eq (search_grid (sl := slotsT g.Cells R C) h2 h4 (lex_ok hx)) g fuelN hshape (by unfold fuelN; omega)
  have hcp : freeN C (slotsT g.Cells R C) g ≤ (slotsT g.Cells R C).length := List.countP_le_length
  have hfirst := first_eq hg e1 e2 h2 h4 h5 hx
  rw [hS, hfirst]
  cases hall : allFill R C g l with
  | cons x xs => exact ⟨_, rfl, rfl, by simp⟩
  | nil =>
    have hno : specF (slotsT g.Cells R C) (candT l.Words C) putT (freeT C) fuelN g = [] := by rw [hroot]; exact hall
    obtain ⟨a1, a2⟩ := prove_eq h2 h4 hx hsl fuelN g [] (by unfold fuelN; omega) hshape hno (by simp)
    obtain ⟨_, b⟩ := proofS_eq h2 h4 hx hsl fuelN g [] (by unfold fuelN; omega) (by unfold fuelN; omega) hshape hno (by simp)
    obtain ⟨b1, b2⟩ := b (by simp)
    rw [List.length_nil, Nat.zero_add] at a1 a2 b1 b2
    have hun : m_impl_Grid_prove g l (slotsT g.Cells R C) [] = m_impl_Grid_prove_n fuelN g l (slotsT g.Cells R C) [] := rfl
    have hun2 : m_spec_l25Proof [] ⟨l.Words, slotsT g.Cells R C, 0, []⟩ g = m_spec_l25Proof_n fuelN [] ⟨l.Words, slotsT g.Cells R C, 0, []⟩ g := rfl
    rw [slotsI_eq e1 e2 h2 h4 h5, slotsS_eq e1 e2 h2 h4 h5]
    simp only [Bool.not_true, cond_false, Option.bind_some, List.take_nil, List.length_nil, hun, hun2]
    by_cases hle : (proofF C (slotsT g.Cells R C) l fuelN g).length ≤ 5000
    · rw [a1 hle, b1 hle]
      refine ⟨(proofF C (slotsT g.Cells R C) l fuelN g, 0), rfl, ?_, hle⟩
      rw [Option.bind_some]
      simp only [List.nil_append]
      rw [decide_eq_false (by omega : ¬ (0 : Int) < ((0 : Nat) : Int)), cond_false, decide_eq_false (by omega)]
      rfl
    · obtain ⟨p1, q1⟩ := a2 (by omega)
      obtain ⟨p2, q2, q3, q4⟩ := b2 (by omega)
      rw [q1, q2]
      refine ⟨([], 5), rfl, ?_, by simp⟩
      rw [Option.bind_some, decide_eq_false (by omega : ¬ (0 : Int) < ((0 : Nat) : Int)), cond_false]
      simp only
      rw [decide_eq_true (by omega)]
      rfl

end Go.Proofs.Ytgmikhdealhlfaa
