/- Turns one after another, and the end after a play. -/
import Derived.Test.YtbekokenomhgeaaGreatDoorPureJd
namespace Go.Proofs.YtbekokenomhgeaaGreatDoor
open Go Go.RowKit
set_option linter.unusedSimpArgs false
set_option linter.unusedVariables false

attribute [local irreducible] sortP pileTo tlP

theorem rackB_all {s : Str} (h : rackB s = true) : SortedB s ∧ Tiles s ∧ s.length ≤ 7 := by
  unfold rackB at h
  rw [Bool.and_eq_true] at h
  exact ⟨(pile_sorted h.1).1, (pile_sorted h.1).2, of_decide_eq_true h.2⟩

def possB (n : Nat) (b : Board) (x : Turn) : Bool := rackB x.Rack && (bif x.Pass then x.Play == (⟨0, 0, false, ([] : Str)⟩ : Play) else onB n b x.Play && decide (remT x.Rack (tlP n b x.Play) = []))

theorem Turn_possible_eq {n : Nat} {b : Board} (hb : IsB n b) (x : Turn) (hr : x.Rack.length ≤ 1048576) (hw : x.Play.Word.length ≤ 1048576) : m_impl_Turn_possible x b = some (possB n b x) := by
  unfold m_impl_Turn_possible possB
  rw [ValidRack_eq _ (by omega), Option.bind_some]
  cases hk : rackB x.Rack
  · rfl
  · obtain ⟨k1, k2, k3⟩ := rackB_all hk
    rw [Bool.not_true, cond_false, Bool.true_and]
    cases x.Pass
    · rw [cond_false, cond_false, validOn_eq hb _ hw, Option.bind_some]
      cases ho : onB n b x.Play
      · rfl
      · obtain ⟨t1, t2, t3⟩ := tlP_ok (n := n) (b := b) (onB_all ho).1
        obtain ⟨p, hp⟩ := without_eq x.Rack (tlP n b x.Play) k1 t1 k2 t2 (by omega) (by omega)
        rw [Bool.not_true, cond_false, placedTiles_eq hb ho, Option.bind_some, hp, Option.bind_some, Bool.true_and]
    · rfl

theorem l24Possible_eq {n : Nat} {b : Board} (hb : IsB n b) (x : Turn) (hr : x.Rack.length ≤ 1048576) (hw : x.Play.Word.length ≤ 1048576) : m_spec_l24Possible b x = some (possB n b x) := by
  have h225 := sq_le hb.2.2.1
  have hp := hb.2.2.2.1
  have hc := hb.2.2.2.2.1
  unfold m_spec_l24Possible possB
  rw [l03Rack_eq _ (by omega), Option.bind_some]
  cases hk : rackB x.Rack
  · rfl
  · obtain ⟨k1, k2, k3⟩ := rackB_all hk
    rw [Bool.not_true, cond_false, Bool.true_and]
    cases x.Pass
    · rw [cond_false, cond_false, l12Ok_eq hb _ hw (by omega) (by omega), Option.bind_some]
      cases ho : onB n b x.Play
      · rfl
      · rw [Bool.not_true, cond_false, l15Rest_eq hb ho _ (by omega), Option.bind_some, Bool.true_and]
    · rfl

def afterB (n : Nat) (b : Board) (x : Turn) : Board := bif x.Pass then b else newB n b x.Play

theorem possB_on {n : Nat} {b : Board} {x : Turn} (h : possB n b x = true) (hp : x.Pass = false) : onB n b x.Play = true := by
  unfold possB at h
  rw [hp, Bool.and_eq_true, cond_false, Bool.and_eq_true] at h
  exact h.2.1

theorem afterB_is {n : Nat} {b : Board} (hb : IsB n b) {x : Turn} (h : possB n b x = true) : IsB n (afterB n b x) := by
  unfold afterB
  cases hp : x.Pass
  · exact newB_is hb (possB_on h hp)
  · exact hb

theorem Turn_after_eq {n : Nat} {b : Board} (hb : IsB n b) {x : Turn} (h : possB n b x = true) : m_impl_Turn_after x b = some (afterB n b x) := by
  unfold m_impl_Turn_after afterB
  cases hp : x.Pass
  · rw [cond_false, cond_false, made_eq hb (possB_on h hp), Option.bind_some]
  · rfl

theorem l24After_eq {n : Nat} {b : Board} (hb : IsB n b) {x : Turn} (h : possB n b x = true) : m_spec_l24After b x = some (afterB n b x) := by
  unfold m_spec_l24After afterB
  cases hp : x.Pass
  · rw [cond_false, cond_false, l12Make_eq hb (possB_on h hp), Option.bind_some]
  · rfl

def turn0 : Turn := ⟨([] : Str), true, ⟨0, 0, false, ([] : Str)⟩⟩

def atB (n : Nat) (b : Board) (l : List Turn) : Nat → Board
  | 0 => b
  | i + 1 => afterB n (atB n b l i) (l.getD i turn0)

def okAt (n : Nat) (b : Board) (l : List Turn) (i : Nat) : Bool := possB n (atB n b l i) (l.getD i turn0)

theorem atB_is {n : Nat} {b : Board} (hb : IsB n b) (l : List Turn) : ∀ i, (∀ j, j < i → okAt n b l j = true) → IsB n (atB n b l i)
  | 0, _ => hb
  | i + 1, h => afterB_is (atB_is hb l i (fun j hj => h j (by omega))) (h i (by omega))

def board0 : Board := ⟨0, ([] : Str), ([] : Str)⟩

def repV (n : Nat) (b : Board) (l : List Turn) : Board × Bool := bif allI (okAt n b l) 0 l.length then (atB n b l l.length, true) else (board0, false)

theorem rep_out (a : Bool) (b : Board) : ((match (bif a then Sum.inl (b.Size, b.Premium, b.Cells) else Sum.inr (board0, false) : (Int × Str × Str) ⊕ (Board × Bool)) with
        | .inl (n54, s56, s58) => some (.inl (n54, s56, s58))
        | .inr r114 => some (.inr r114) : Option ((Int × Str × Str) ⊕ (Board × Bool))).bind fun x42 =>
    match x42 with
    | .inl (n36, s38, s40) => some ((⟨n36, s38, s40⟩ : Board), true)
    | .inr r121 => some r121) = some (bif a then (b, true) else (board0, false)) := by
  cases a <;> rfl

set_option maxRecDepth 100000 in
theorem replayTurns_eq {n : Nat} {b : Board} (hb : IsB n b) (l : List Turn) (hl : l.length ≤ 30) (hx : ∀ x ∈ l, x.Rack.length ≤ 1048576 ∧ x.Play.Word.length ≤ 1048576) : m_impl_replayTurns b l = some (repV n b l) := by
  have h225 := sq_le hb.2.2.1
  have hp := hb.2.2.2.1
  have hc := hb.2.2.2.2.1
  have hrun := loop_allS (step := fun s : Int × Str × Str × Int => m_impl_replayTurns_l1 l s.1 s.2.1 s.2.2.1 s.2.2.2) (fun i => ((atB n b l i).Size, (atB n b l i).Premium, (atB n b l i).Cells, (i : Int))) (okAt n b l) l.length (Sum.inl ((atB n b l l.length).Size, (atB n b l l.length).Premium, (atB n b l l.length).Cells) : (Int × Str × Str) ⊕ (Board × Bool)) (Sum.inr (board0, false)) (fun i hi hok => by
      have hB := atB_is hb l i hok
      obtain ⟨x1, x2⟩ := hx _ (List.getElem_mem hi)
      have hg : l.getD i turn0 = l[i] := getD_of hi _
      show m_impl_replayTurns_l1 l (atB n b l i).Size (atB n b l i).Premium (atB n b l i).Cells (i : Int) = _
      unfold m_impl_replayTurns_l1
      rw [decide_eq_true (by omega : (i : Int) < (l.length : Int)), cond_true, getL_at hi, Option.bind_some]
      rw [show (⟨(atB n b l i).Size, (atB n b l i).Premium, (atB n b l i).Cells⟩ : Board) = atB n b l i from rfl, Turn_possible_eq hB _ x1 x2, Option.bind_some]
      have ho : okAt n b l i = possB n (atB n b l i) l[i] := by unfold okAt; rw [hg]
      rw [ho]
      cases hk : possB n (atB n b l i) l[i]
      · rfl
      · rw [Bool.not_true, cond_false, cond_true, Turn_after_eq hB hk, Option.bind_some, chk_succ (by omega), Option.bind_some]
        rw [show atB n b l (i + 1) = afterB n (atB n b l i) l[i] from by rw [atB, hg]])
    (fun _ => by
      show m_impl_replayTurns_l1 l (atB n b l l.length).Size _ _ (l.length : Int) = _
      unfold m_impl_replayTurns_l1
      rw [decide_eq_false (by omega), cond_false])
  unfold m_impl_replayTurns
  rw [ValidBoard_eq b (by omega) (by omega), boardB_iff.2 ⟨n, hb⟩, Option.bind_some, Bool.not_true, cond_false, Option.bind_some, decide_eq_false (by omega : ¬ 30 < (l.length : Int)), cond_false]
  rw [show loopM (fun s : Int × Str × Str × Int => m_impl_replayTurns_l1 l s.1 s.2.1 s.2.2.1 s.2.2.2) (b.Size, b.Premium, b.Cells, 0) = _ from hrun, Option.bind_some]
  exact rep_out _ _

set_option maxRecDepth 100000 in
theorem l24Replay_eq {n : Nat} {b : Board} (hb : IsB n b) (l : List Turn) (hl : l.length ≤ 30) (hx : ∀ x ∈ l, x.Rack.length ≤ 1048576 ∧ x.Play.Word.length ≤ 1048576) : m_spec_l24Replay b l = some (repV n b l) := by
  have h225 := sq_le hb.2.2.1
  have hp := hb.2.2.2.1
  have hc := hb.2.2.2.2.1
  have hrun := loop_allS (step := fun s : Int × Str × Str × Int => m_spec_l24Replay_l1 l s.1 s.2.1 s.2.2.1 s.2.2.2) (fun i => ((atB n b l i).Size, (atB n b l i).Premium, (atB n b l i).Cells, (i : Int))) (okAt n b l) l.length (Sum.inl ((atB n b l l.length).Size, (atB n b l l.length).Premium, (atB n b l l.length).Cells) : (Int × Str × Str) ⊕ (Board × Bool)) (Sum.inr (board0, false)) (fun i hi hok => by
      have hB := atB_is hb l i hok
      obtain ⟨x1, x2⟩ := hx _ (List.getElem_mem hi)
      have hg : l.getD i turn0 = l[i] := getD_of hi _
      show m_spec_l24Replay_l1 l (atB n b l i).Size (atB n b l i).Premium (atB n b l i).Cells (i : Int) = _
      unfold m_spec_l24Replay_l1
      rw [decide_eq_true (by omega : (i : Int) < (l.length : Int)), cond_true, getL_at hi, Option.bind_some]
      rw [show (⟨(atB n b l i).Size, (atB n b l i).Premium, (atB n b l i).Cells⟩ : Board) = atB n b l i from rfl, l24Possible_eq hB _ x1 x2, Option.bind_some]
      have ho : okAt n b l i = possB n (atB n b l i) l[i] := by unfold okAt; rw [hg]
      rw [ho]
      cases hk : possB n (atB n b l i) l[i]
      · rfl
      · rw [Bool.not_true, cond_false, cond_true, Option.bind_some, l24After_eq hB hk, Option.bind_some, chk_succ (by omega), Option.bind_some]
        rw [show atB n b l (i + 1) = afterB n (atB n b l i) l[i] from by rw [atB, hg]])
    (fun _ => by
      show m_spec_l24Replay_l1 l (atB n b l l.length).Size _ _ (l.length : Int) = _
      unfold m_spec_l24Replay_l1
      rw [decide_eq_false (by omega), cond_false])
  unfold m_spec_l24Replay
  rw [l11Ok_eq b (by omega) (by omega), boardB_iff.2 ⟨n, hb⟩, Option.bind_some, Bool.not_true, cond_false, Option.bind_some, decide_eq_false (by omega : ¬ 30 < (l.length : Int)), cond_false]
  rw [show loopM (fun s : Int × Str × Str × Int => m_spec_l24Replay_l1 l s.1 s.2.1 s.2.2.1 s.2.2.2) (b.Size, b.Premium, b.Cells, 0) = _ from hrun, Option.bind_some]
  exact rep_out _ _

theorem replay_both (b : Board) (l : List Turn) (h1 : b.Premium.length ≤ 1048576) (h2 : b.Cells.length ≤ 1048576) (hx : ∀ x ∈ l, x.Rack.length ≤ 1048576 ∧ x.Play.Word.length ≤ 1048576) : ∃ r, m_impl_replayTurns b l = some r ∧ m_spec_l24Replay b l = some r := by
  by_cases hb : boardB b = true
  · obtain ⟨n, hn⟩ := boardB_iff.1 hb
    by_cases hl : l.length ≤ 30
    · exact ⟨_, replayTurns_eq hn l hl hx, l24Replay_eq hn l hl hx⟩
    · refine ⟨(board0, false), ?_, ?_⟩
      · unfold m_impl_replayTurns
        rw [ValidBoard_eq b (by omega) (by omega), hb, Option.bind_some, Bool.not_true, cond_false, Option.bind_some, decide_eq_true (by omega : 30 < (l.length : Int)), cond_true]
        rfl
      · unfold m_spec_l24Replay
        rw [l11Ok_eq b (by omega) (by omega), hb, Option.bind_some, Bool.not_true, cond_false, Option.bind_some, decide_eq_true (by omega : 30 < (l.length : Int)), cond_true]
        rfl
  · replace hb := Bool.eq_false_iff.2 hb
    refine ⟨(board0, false), ?_, ?_⟩
    · unfold m_impl_replayTurns
      rw [ValidBoard_eq b (by omega) (by omega), hb, Option.bind_some, Bool.not_false, cond_true, Option.bind_some, cond_true]
      rfl
    · unfold m_spec_l24Replay
      rw [l11Ok_eq b (by omega) (by omega), hb, Option.bind_some, Bool.not_false, cond_true, Option.bind_some, cond_true]
      rfl

theorem turn_small {l : List Turn} (h : bulk_TurnS l ≤ 1048576) : ∀ x ∈ l, x.Rack.length ≤ 1048576 ∧ x.Play.Word.length ≤ 1048576 := fun x hx => by
  have := bulkS_mem (fun e => bulk_Turn e) hx
  unfold bulk_TurnS at h
  simp only [bulk_Turn, bulk_Play] at this h
  omega

end Go.Proofs.YtbekokenomhgeaaGreatDoor
