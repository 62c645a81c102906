/- Nodes of the right form: both tests agree. -/
import Derived.Test.YtdaoecpkgobelaaDoorPureK1
namespace Go.Proofs.YtdaoecpkgobelaaDoor
open Go Go.RowKit
set_option linter.unusedSimpArgs false
set_option linter.unusedVariables false

/-- A byte of a form. -/
def formB (c : UInt8) : Bool := smB c || c == 62
/-- Edge i of a node of an automaton of n nodes. -/
def edgeB (n : Nat) (x : Node) (i : Nat) : Bool := formB ((x.Letters[i]?).getD 0) && (i == 0 || decide ((x.Letters[i - 1]?).getD 0 < (x.Letters[i]?).getD 0)) && inB ((x.Next[i]?).getD 0) 0 ((n : Int) - 1)
def nodeB (n : Nat) (x : Node) : Bool := x.Letters.length == x.Next.length && allI (edgeB n x) 0 x.Next.length
def shapeB (D : List Node) : Bool := decide (1 ≤ D.length) && decide (D.length ≤ 3000) && D.all (nodeB D.length)

theorem formByte_eq (c : UInt8) : m_impl_formByte c = some (formB c) := by
  unfold m_impl_formByte formB
  rw [bind_of (small_eq c)]
  cases smB c <;> rfl

theorem edge_step (n : Nat) (hn : n ≤ 3000) (x : Node) (d : Dawg) (hd : d.Nodes.length = n) (hl : x.Letters.length = x.Next.length) (hm : x.Next.length ≤ 1000000000) (i : Nat) (hi : i < x.Next.length) :
    m_impl_nodesOk_l2 x d (i : Int) = some (bif edgeB n x i then .inl ((i : Int) + 1) else .inr (.inr false)) := by
  have hi' : i < x.Letters.length := by omega
  have hz : chk ((d.Nodes.length : Int) - 1) = some ((n : Int) - 1) := chk_to _ (by rw [hd]) (by omega) (by omega)
  have hs : chk ((i : Int) + 1) = some ((i : Int) + 1) := chk_in (by omega) (by omega)
  unfold m_impl_nodesOk_l2 edgeB
  rw [hz, hs, decide_eq_true (show (i : Int) < (x.Next.length : Int) by omega)]
  rw [cond_true, bind_of (getL_at hi), bind_of (getL_at hi'), bind_of (formByte_eq _)]
  rw [List.getElem?_eq_getElem hi', List.getElem?_eq_getElem hi, Option.getD_some, Option.getD_some]
  have hz : ∀ {β : Type} (F : Int → Option β), (some ((n : Int) - 1)).bind F = F ((n : Int) - 1) := fun _ => rfl
  clear hs
  cases hf : formB x.Letters[i] with
  | false => simp
  | true =>
    simp only [Bool.not_true, cond_false, Bool.true_and]
    cases i with
    | zero =>
      rw [decide_eq_false (show ¬ (0 : Int) < ((0 : Nat) : Int) by omega), cond_false, hz, bind_of (within_eq _ _ _)]
      cases hb : inB x.Next[0] 0 ((n : Int) - 1) <;> rfl
    | succ i =>
      have hp : i < x.Letters.length := by omega
      rw [decide_eq_true (show (0 : Int) < ((i + 1 : Nat) : Int) by omega)]
      simp only [cond_true]
      rw [bind_of (show chk (((i + 1 : Nat) : Int) - 1) = some (i : Int) from chk_to _ (by omega) (by omega) (by omega)), bind_of (getL_at hp), bind_of (getL_at hi')]
      have h1 : (i + 1 == 0) = false := by simp
      rw [h1, show i + 1 - 1 = i from rfl, List.getElem?_eq_getElem hp]
      simp only [Option.getD_some, Bool.false_or]
      by_cases hle : x.Letters[i + 1] ≤ x.Letters[i]
      · have hnl : ¬ x.Letters[i] < x.Letters[i + 1] := UInt8.not_lt.2 hle
        rw [decide_eq_true hle, decide_eq_false hnl]
        rfl
      · have hnl : x.Letters[i] < x.Letters[i + 1] := UInt8.not_le.1 hle
        rw [decide_eq_false hle, decide_eq_true hnl]
        simp only [cond_false, Bool.true_and]
        rw [hz, bind_of (within_eq _ _ _)]
        cases hb : inB x.Next[i + 1] 0 ((n : Int) - 1) <;> rfl

theorem node_step (D : List Node) (d : Dawg) (hd : d.Nodes = D) (hn : D.length ≤ 3000) (hm : ∀ x ∈ D, x.Next.length ≤ 1000000000) (i : Nat) (hi : i < D.length) :
    m_impl_nodesOk_l1 d (i : Int) = some (bif ((D[i]?.map (nodeB D.length)).getD true) then .inl ((i : Int) + 1) else .inr (.inr false)) := by
  subst hd
  unfold m_impl_nodesOk_l1
  rw [show chk ((i : Int) + 1) = some ((i : Int) + 1) from chk_in (by omega) (by omega), decide_eq_true (show (i : Int) < (d.Nodes.length : Int) by omega)]
  rw [cond_true, bind_of (getL_at hi), List.getElem?_eq_getElem hi]
  simp only [Option.map_some, Option.getD_some]
  have hmx := hm d.Nodes[i] (List.getElem_mem hi)
  generalize d.Nodes[i] = x at hmx
  unfold nodeB
  by_cases hl : x.Letters.length = x.Next.length
  · have h1 : ((x.Letters.length : Int) != (x.Next.length : Int)) = false := by simp [hl]
    have h2 : (x.Letters.length == x.Next.length) = true := by simpa using hl
    rw [h1, h2]
    simp only [cond_false, Bool.true_and]
    have := loop_all (edgeB d.Nodes.length x) x.Next.length (Sum.inl () : Unit ⊕ Bool) (.inr false) (fun i hi => edge_step d.Nodes.length hn x d rfl hl hmx i hi)
      (by unfold m_impl_nodesOk_l2; rw [decide_eq_false (by omega)]; rfl) x.Next.length 0 (by omega)
    rw [show ((0 : Nat) : Int) = 0 from rfl] at this
    rw [bind_of this]
    cases allI (edgeB d.Nodes.length x) 0 x.Next.length <;> rfl
  · have h1 : ((x.Letters.length : Int) != (x.Next.length : Int)) = true := by rw [bne_iff_ne]; omega
    have h2 : (x.Letters.length == x.Next.length) = false := by simpa using hl
    rw [h1, h2]
    rfl

theorem nodesOk_eq (d : Dawg) (hm : ∀ x ∈ d.Nodes, x.Next.length ≤ 1000000000) : m_impl_nodesOk d = some (shapeB d.Nodes) := by
  unfold m_impl_nodesOk shapeB
  by_cases h1 : 1 ≤ d.Nodes.length
  · rw [decide_eq_false (show ¬ (d.Nodes.length : Int) < 1 by omega), decide_eq_true h1]
    simp only [cond_false, Option.bind_some, Bool.true_and]
    by_cases h2 : d.Nodes.length ≤ 3000
    · rw [decide_eq_false (show ¬ (3000 : Int) < (d.Nodes.length : Int) by omega), decide_eq_true h2]
      simp only [cond_false, Bool.true_and]
      have := loop_all (fun i => (d.Nodes[i]?.map (nodeB d.Nodes.length)).getD true) d.Nodes.length (Sum.inl () : Unit ⊕ Bool) (.inr false) (fun i hi => node_step d.Nodes d rfl h2 hm i hi)
        (by unfold m_impl_nodesOk_l1; rw [decide_eq_false (by omega)]; rfl) d.Nodes.length 0 (by omega)
      rw [show ((0 : Nat) : Int) = 0 from rfl, all_idx] at this
      rw [bind_of this]
      cases d.Nodes.all (nodeB d.Nodes.length) <;> rfl
    · rw [decide_eq_true (show (3000 : Int) < (d.Nodes.length : Int) by omega), decide_eq_false h2]
      rfl
  · rw [decide_eq_true (show (d.Nodes.length : Int) < 1 by omega), decide_eq_false h1]
    rfl

theorem edge_stepS (n : Nat) (hn : n ≤ 3000) (x : Node) (d : Dawg) (hd : d.Nodes.length = n) (hl : x.Letters.length = x.Next.length) (hm : x.Next.length ≤ 1000000000) (i : Nat) (hi : i < x.Next.length) :
    m_spec_l06Shape_l2 x d (i : Int) = some (bif edgeB n x i then .inl ((i : Int) + 1) else .inr (.inr false)) := by
  have hi' : i < x.Letters.length := by omega
  unfold m_spec_l06Shape_l2 edgeB
  have hz : chk ((d.Nodes.length : Int) - 1) = some ((n : Int) - 1) := chk_to _ (by rw [hd]) (by omega) (by omega)
  have hs : chk ((i : Int) + 1) = some ((i : Int) + 1) := chk_in (by omega) (by omega)
  rw [hs, decide_eq_true (show (i : Int) < (x.Next.length : Int) by omega), cond_true]
  rw [bind_of (getL_at hi), bind_of hz, bind_of (l00In_eq _ _ _)]
  rw [List.getElem?_eq_getElem hi', List.getElem?_eq_getElem hi]
  simp only [Option.getD_some]
  cases hb : inB x.Next[i] 0 ((n : Int) - 1) with
  | false => simp
  | true =>
    simp only [Bool.not_true, cond_false, Bool.and_true]
    rw [bind_of (getL_at hi')]
    -- the order of the letters
    have hord : (bif decide ((0 : Int) < (i : Int)) then
              (getL x.Letters (i : Int)).bind fun c99 =>
              (chk ((i : Int) - 1)).bind fun z101 =>
              (getL x.Letters z101).bind fun c103 =>
              some (decide (c99 ≤ c103))
            else
              some false : Option Bool) = some (!(i == 0 || decide ((x.Letters[i - 1]?).getD 0 < x.Letters[i]))) := by
      cases i with
      | zero => rfl
      | succ i =>
        have hp : i < x.Letters.length := by omega
        rw [decide_eq_true (show (0 : Int) < ((i + 1 : Nat) : Int) by omega)]
        simp only [cond_true]
        rw [bind_of (getL_at hi'), bind_of (show chk (((i + 1 : Nat) : Int) - 1) = some (i : Int) from chk_to _ (by omega) (by omega) (by omega)), bind_of (getL_at hp)]
        have h1 : (i + 1 == 0) = false := by simp
        rw [h1, show i + 1 - 1 = i from rfl, List.getElem?_eq_getElem hp]
        simp only [Option.getD_some, Bool.false_or, Option.some.injEq]
        by_cases hle : x.Letters[i + 1] ≤ x.Letters[i]
        · rw [decide_eq_true hle, decide_eq_false (UInt8.not_lt.2 hle)]; rfl
        · rw [decide_eq_false hle, decide_eq_true (UInt8.not_le.1 hle)]; rfl
    unfold formB
    cases h62 : x.Letters[i] != 62 with
    | true =>
      have h62' : (x.Letters[i] == 62) = false := by simpa using h62
      rw [h62']
      simp only [cond_true, Bool.or_false]
      rw [bind_of (getL_at hi'), bind_of (l01Small_eq _)]
      cases hsm : smB x.Letters[i] with
      | false => rfl
      | true =>
        simp only [Bool.not_true, cond_false, Bool.true_and]
        rw [bind_of hord]
        cases (i == 0 || decide ((x.Letters[i - 1]?).getD 0 < x.Letters[i]))
        · rfl
        · rfl
    | false =>
      have h62' : (x.Letters[i] == 62) = true := by simpa using h62
      rw [h62']
      simp only [cond_false, Bool.or_true, Bool.true_and]
      rw [bind_of hord]
      cases (i == 0 || decide ((x.Letters[i - 1]?).getD 0 < x.Letters[i]))
      · rfl
      · rfl

theorem node_stepS (D : List Node) (d : Dawg) (hd : d.Nodes = D) (hn : D.length ≤ 3000) (hm : ∀ x ∈ D, x.Next.length ≤ 1000000000) (i : Nat) (hi : i < D.length) :
    m_spec_l06Shape_l1 d (i : Int) = some (bif ((D[i]?.map (nodeB D.length)).getD true) then .inl ((i : Int) + 1) else .inr (.inr false)) := by
  subst hd
  unfold m_spec_l06Shape_l1
  rw [show chk ((i : Int) + 1) = some ((i : Int) + 1) from chk_in (by omega) (by omega), decide_eq_true (show (i : Int) < (d.Nodes.length : Int) by omega)]
  rw [cond_true, bind_of (getL_at hi), List.getElem?_eq_getElem hi]
  simp only [Option.map_some, Option.getD_some]
  have hmx := hm d.Nodes[i] (List.getElem_mem hi)
  generalize d.Nodes[i] = x at hmx
  unfold nodeB
  by_cases hl : x.Letters.length = x.Next.length
  · have h1 : ((x.Letters.length : Int) != (x.Next.length : Int)) = false := by simp [hl]
    have h2 : (x.Letters.length == x.Next.length) = true := by simpa using hl
    rw [h1, h2]
    simp only [cond_false, Bool.true_and]
    have := loop_all (edgeB d.Nodes.length x) x.Next.length (Sum.inl () : Unit ⊕ Bool) (.inr false) (fun i hi => edge_stepS d.Nodes.length hn x d rfl hl hmx i hi)
      (by unfold m_spec_l06Shape_l2; rw [decide_eq_false (by omega)]; rfl) x.Next.length 0 (by omega)
    rw [show ((0 : Nat) : Int) = 0 from rfl] at this
    rw [bind_of this]
    cases allI (edgeB d.Nodes.length x) 0 x.Next.length <;> rfl
  · have h1 : ((x.Letters.length : Int) != (x.Next.length : Int)) = true := by rw [bne_iff_ne]; omega
    have h2 : (x.Letters.length == x.Next.length) = false := by simpa using hl
    rw [h1, h2]
    rfl

theorem l06Shape_eq (d : Dawg) (hm : ∀ x ∈ d.Nodes, x.Next.length ≤ 1000000000) : m_spec_l06Shape d = some (shapeB d.Nodes) := by
  unfold m_spec_l06Shape shapeB
  rw [bind_of (l00In_eq _ _ _)]
  by_cases h1 : 1 ≤ d.Nodes.length
  · by_cases h2 : d.Nodes.length ≤ 3000
    · rw [show inB (d.Nodes.length : Int) 1 3000 = true from inB_iff.2 ⟨by omega, by omega⟩, decide_eq_true h1, decide_eq_true h2]
      simp only [Bool.not_true, cond_false, Bool.true_and]
      have := loop_all (fun i => (d.Nodes[i]?.map (nodeB d.Nodes.length)).getD true) d.Nodes.length (Sum.inl () : Unit ⊕ Bool) (.inr false) (fun i hi => node_stepS d.Nodes d rfl h2 hm i hi)
        (by unfold m_spec_l06Shape_l1; rw [decide_eq_false (by omega)]; rfl) d.Nodes.length 0 (by omega)
      rw [show ((0 : Nat) : Int) = 0 from rfl, all_idx] at this
      rw [bind_of this]
      cases d.Nodes.all (nodeB d.Nodes.length) <;> rfl
    · have : inB (d.Nodes.length : Int) 1 3000 = false := by rw [← Bool.not_eq_true, inB_iff]; omega
      rw [this, decide_eq_false h2]
      simp
  · have : inB (d.Nodes.length : Int) 1 3000 = false := by rw [← Bool.not_eq_true, inB_iff]; omega
    rw [this, decide_eq_false h1]
    rfl

end Go.Proofs.YtdaoecpkgobelaaDoor
