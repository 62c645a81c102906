/- Actions: valid ones, their texts. -/
import Derived.Test.YtbekokenomhgeaaGreatDoorPureP
import Derived.Test.YtbekokenomhgeaaGreatDoorPureB
namespace Go.Proofs.YtbekokenomhgeaaGreatDoor
open Go Go.RowKit
set_option linter.unusedSimpArgs false
set_option linter.unusedVariables false

def none0 : Play := ⟨0, 0, false, ([] : Str)⟩

def actB (a : Action) : Bool := bif !(inB a.Seconds 0 36000) then false else bif a.Kind == 1 then plainB a.Play && (a.Tiles == ([] : Str)) else bif a.Kind == 2 then (a.Play == none0) && ((a.Tiles != ([] : Str)) && rackB a.Tiles) else bif (a.Kind == 3 || a.Kind == 4) then (a.Play == none0) && (a.Tiles == ([] : Str)) else false

theorem playT_some (p : Play) : ((bif plainB p then playT p else []) != ([] : Str)) = plainB p := by
  cases h : plainB p
  · rfl
  · simp only [cond_true, bne, (playT_len h).2, Bool.not_false]

theorem ValidAction_eq (a : Action) (h1 : a.Play.Word.length ≤ 1048576) (h2 : a.Tiles.length ≤ 1048576) : m_impl_ValidAction a = some (actB a) := by
  unfold m_impl_ValidAction actB none0
  rw [within_eq, PlayText_eq _ h1, ValidRack_eq _ (by omega), Option.bind_some]
  cases inB a.Seconds 0 36000
  · rfl
  cases a.Kind == 1
  · cases a.Kind == 2
    · cases h3 : a.Kind == 3
      · cases h4 : a.Kind == 4
        · rfl
        · cases a.Play == (⟨0, 0, false, ([] : Str)⟩ : Play) <;> rfl
      · cases a.Play == (⟨0, 0, false, ([] : Str)⟩ : Play) <;> rfl
    · cases a.Play == (⟨0, 0, false, ([] : Str)⟩ : Play)
      · rfl
      · cases a.Tiles != ([] : Str) <;> rfl
  · simp only [Bool.not_true, cond_false, cond_true, Option.bind_some, playT_some]
    cases plainB a.Play <;> rfl

theorem l20Action_eq (a : Action) (h1 : a.Play.Word.length ≤ 1048576) (h2 : a.Tiles.length ≤ 1048576) : m_spec_l20Action a = some (actB a) := by
  unfold m_spec_l20Action actB none0
  rw [l00In_eq, l12Plain_eq _ h1, l03Rack_eq _ (by omega), Option.bind_some]
  cases inB a.Seconds 0 36000
  · rfl
  cases a.Kind == 1
  · cases a.Kind == 2
    · cases h3 : a.Kind == 3
      · cases h4 : a.Kind == 4
        · rfl
        · cases a.Play == (⟨0, 0, false, ([] : Str)⟩ : Play) <;> rfl
      · cases a.Play == (⟨0, 0, false, ([] : Str)⟩ : Play) <;> rfl
    · cases a.Play == (⟨0, 0, false, ([] : Str)⟩ : Play)
      · rfl
      · cases a.Tiles != ([] : Str) <;> rfl
  · simp only [Bool.not_true, cond_false, cond_true, Option.bind_some]
    cases plainB a.Play <;> rfl

def actT (a : Action) : Str := bif a.Kind == 1 then [112, 108, 97, 121, 32] ++ playT a.Play ++ [32] ++ Lib.itoa a.Seconds else bif a.Kind == 2 then [101, 120, 99, 104, 97, 110, 103, 101, 32] ++ a.Tiles ++ [32] ++ Lib.itoa a.Seconds else bif a.Kind == 3 then [112, 97, 115, 115, 32] ++ Lib.itoa a.Seconds else [99, 104, 97, 108, 108, 101, 110, 103, 101, 32] ++ Lib.itoa a.Seconds

/-- What a valid action holds. -/
theorem actB_all {a : Action} (h : actB a = true) : R64 a.Seconds ∧ ((a.Kind == 1) = true → plainB a.Play = true) ∧ ((a.Kind == 1) = false → (a.Kind == 2) = true → a.Tiles.length ≤ 7) := by
  unfold actB at h
  cases hs : inB a.Seconds 0 36000
  · rw [hs] at h; cases h
  rw [hs] at h
  rw [inB_iff] at hs
  refine ⟨⟨by omega, by omega⟩, fun hk => ?_, fun hk hk2 => ?_⟩
  · rw [hk] at h
    exact (Bool.and_eq_true_iff.1 h).1
  · rw [hk, hk2] at h
    have := (Bool.and_eq_true_iff.1 (Bool.and_eq_true_iff.1 h).2).2
    unfold rackB at this
    exact of_decide_eq_true (Bool.and_eq_true_iff.1 this).2

theorem actT_len {a : Action} (h : actB a = true) : (actT a).length ≤ 200 := by
  obtain ⟨h1, h2, h3⟩ := actB_all h
  have hi := itoa_le h1
  unfold actT
  cases hk : a.Kind == 1
  · cases hk2 : a.Kind == 2
    · cases a.Kind == 3 <;> simp <;> omega
    · have := h3 hk hk2
      simp; omega
  · have := (playT_len (h2 hk)).1
    simp; omega

theorem join2 (a b : Str) : Lib.join [a, b] [32] = a ++ [32] ++ b := by rw [Lib.join_cons]; simp [Lib.joinTail]

theorem join3 (a b c : Str) : Lib.join [a, b, c] [32] = a ++ [32] ++ b ++ [32] ++ c := by rw [Lib.join_cons]; simp [Lib.joinTail]

theorem joined_eq (xs : List Str) (h : xs.length ≤ 100) (h2 : (Lib.join xs [32]).length ≤ 1000000) : m_impl_joined xs = some (Lib.join xs [32]) := by
  unfold m_impl_joined m_strings_Join
  rw [decide_eq_true (by unfold lim; omega), decide_eq_true (by unfold lim; omega)]
  rfl

theorem ActionText_eq (a : Action) (h1 : a.Play.Word.length ≤ 1048576) (h2 : a.Tiles.length ≤ 1048576) : m_impl_ActionText a = some (bif actB a then actT a else []) := by
  unfold m_impl_ActionText
  rw [ValidAction_eq a h1 h2, Option.bind_some]
  cases ha : actB a
  · rfl
  obtain ⟨s1, s2, s3⟩ := actB_all ha
  have hi := itoa_le s1
  simp only [Bool.not_true, cond_false, cond_true, Decimal_eq, Option.bind_some, PlayText_eq _ h1]
  unfold actT
  cases hk : a.Kind == 1
  · cases hk2 : a.Kind == 2
    · cases a.Kind == 3
      · rw [cond_false, cond_false, cond_false, cond_false, cond_false, cond_false, joined_eq _ (by simp) (by rw [join2]; simp; omega), join2]; simp
      · rw [cond_false, cond_false, cond_true, cond_false, cond_false, cond_true, joined_eq _ (by simp) (by rw [join2]; simp; omega), join2]; simp
    · have := s3 hk hk2
      rw [cond_false, cond_true, cond_false, cond_true, joined_eq _ (by simp) (by rw [join3]; simp; omega), join3]; simp
  · have hp := s2 hk
    have := (playT_len hp).1
    rw [cond_true, cond_true, hp, cond_true, joined_eq _ (by simp) (by rw [join3]; simp; omega), join3]; simp

/-! ### Records -/

def recB (r : Record) : Bool := inB r.Seed 0 2147483647 && decide (r.Actions.length ≤ 200) && r.Actions.all actB

theorem ValidRecord_of (r : Record) (hs : ∀ a ∈ r.Actions, a.Play.Word.length ≤ 1048576 ∧ a.Tiles.length ≤ 1048576) (hl : r.Actions.length ≤ 1048576) : m_impl_ValidRecord r = some (recB r) := by
  unfold m_impl_ValidRecord recB
  rw [within_eq]
  cases inB r.Seed 0 2147483647
  · rfl
  by_cases hn : r.Actions.length ≤ 200
  case neg => rw [decide_eq_true (by omega : 200 < (r.Actions.length : Int)), decide_eq_false hn]; rfl
  rw [decide_eq_false (by omega : ¬ 200 < (r.Actions.length : Int)), decide_eq_true hn]
  have hrun := loop_all (step := fun i : Int => m_impl_ValidRecord_l1 r i) (fun i => (r.Actions[i]?.map actB).getD true) r.Actions.length (.inl () : Unit ⊕ Bool) (.inr false) (fun i hi => by
      obtain ⟨a1, a2⟩ := hs _ (List.getElem_mem hi)
      unfold m_impl_ValidRecord_l1
      rw [decide_eq_true (by omega : (i : Int) < r.Actions.length), cond_true, getL_at hi, Option.bind_some, ValidAction_eq _ a1 a2, Option.bind_some, chk_succ (by omega), List.getElem?_eq_getElem hi, Option.map_some, Option.getD_some]
      cases actB r.Actions[i] <;> rfl)
    (by unfold m_impl_ValidRecord_l1; rw [decide_eq_false (by omega)]; rfl) r.Actions.length 0 (by omega)
  rw [show ((0 : Nat) : Int) = 0 from rfl, all_idx] at hrun
  simp only [Option.bind_some, Bool.not_true, cond_false, hrun, Bool.true_and]
  cases r.Actions.all actB <;> rfl

theorem l20Ok_of (r : Record) (hs : ∀ a ∈ r.Actions, a.Play.Word.length ≤ 1048576 ∧ a.Tiles.length ≤ 1048576) (hl : r.Actions.length ≤ 1048576) : m_spec_l20Ok r = some (recB r) := by
  unfold m_spec_l20Ok recB
  have hrun := loop_all (step := fun i : Int => m_spec_l20Ok_l1 r i) (fun i => (r.Actions[i]?.map actB).getD true) r.Actions.length (.inl () : Unit ⊕ Bool) (.inr false) (fun i hi => by
      obtain ⟨a1, a2⟩ := hs _ (List.getElem_mem hi)
      unfold m_spec_l20Ok_l1
      rw [decide_eq_true (by omega : (i : Int) < r.Actions.length), cond_true, getL_at hi, Option.bind_some, l20Action_eq _ a1 a2, Option.bind_some, chk_succ (by omega), List.getElem?_eq_getElem hi, Option.map_some, Option.getD_some]
      cases actB r.Actions[i] <;> rfl)
    (by unfold m_spec_l20Ok_l1; rw [decide_eq_false (by omega)]; rfl) r.Actions.length 0 (by omega)
  rw [show ((0 : Nat) : Int) = 0 from rfl, all_idx] at hrun
  rw [hrun, l00In_eq, show decide ((r.Actions.length : Int) ≤ 200) = decide (r.Actions.length ≤ 200) by rw [Bool.eq_iff_iff]; simp; omega]
  cases r.Actions.all actB <;> cases inB r.Seed 0 2147483647 <;> simp

end Go.Proofs.YtbekokenomhgeaaGreatDoor
