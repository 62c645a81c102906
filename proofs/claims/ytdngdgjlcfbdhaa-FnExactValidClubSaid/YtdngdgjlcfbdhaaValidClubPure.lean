/- ValidClub: the models of the program and of the reference agree. -/
import Derived.Test.YtdngdgjlcfbdhaaPureT
namespace Go.Proofs.Ytdngdgjlcfbdhaa
open Go Go.RowKit
set_option linter.unusedSimpArgs false
set_option linter.unusedVariables false

/-- What a name's byte may be. -/
def nameC (c : UInt8) : Bool := smB c || dgB c || c == 45
def nameB (s : Str) : Bool := decide (1 ≤ s.length) && decide (s.length ≤ 12) && ((s[0]?.map smB).getD false) && s.all nameC
theorem IsName_eq (s : Str) (hl : s.length ≤ 8000000000000000000) : m_impl_IsName s = some (nameB s) := by
  unfold m_impl_IsName nameB
  by_cases h1 : s.length < 1
  · rw [decide_eq_true (by omega : (s.length : Int) < 1), decide_eq_false (by omega : ¬ 1 ≤ s.length)]; rfl
  rw [decide_eq_false (by omega : ¬ (s.length : Int) < 1), decide_eq_true (by omega : 1 ≤ s.length)]
  by_cases h2 : 12 < s.length
  · rw [decide_eq_true (by omega : 12 < (s.length : Int)), decide_eq_false (by omega : ¬ s.length ≤ 12)]; rfl
  rw [decide_eq_false (by omega : ¬ 12 < (s.length : Int)), decide_eq_true (by omega : s.length ≤ 12)]
  have h0 : getL s 0 = some s[0] := getL_of 0 rfl (by omega)
  simp only [cond_false, h0, small_eq, Option.bind_some, Bool.true_and, List.getElem?_eq_getElem (by omega : 0 < s.length), Option.map_some, Option.getD_some]
  cases smB s[0]
  · rfl
  have hrun := loop_all (step := fun i : Int => m_impl_IsName_l1 s i) (fun i => (s[i]?.map nameC).getD true) s.length (.inl () : Unit ⊕ Bool) (.inr false) (fun i hi => by
      unfold m_impl_IsName_l1 nameC
      simp only [decide_eq_true (by omega : (i : Int) < s.length), cond_true, getL_at hi, Option.bind_some, small_eq, digit_eq, chk_succ (by omega : i ≤ 8000000000000000000), List.getElem?_eq_getElem hi, Option.map_some, Option.getD_some, bne]
      cases smB s[i] <;> cases dgB s[i] <;> cases s[i] == 45 <;> simp)
    (by unfold m_impl_IsName_l1; rw [decide_eq_false (by omega)]; rfl) s.length 0 (by omega)
  rw [show ((0 : Nat) : Int) = 0 from rfl, all_idx] at hrun
  simp only [Bool.not_true, cond_false, Bool.true_and, hrun]
  cases s.all nameC <;> rfl
theorem IsNameS_eq (s : Str) (hl : s.length ≤ 8000000000000000000) : m_spec_IsName s = some (nameB s) := by
  rw [← IsName_eq s hl]
  unfold m_spec_IsName m_impl_IsName
  rw [show (s == ([] : Str)) = decide ((s.length : Int) < 1) by cases s <;> simp; omega]
  rfl
def memB (m : Member) : Bool := nameB m.Name && inB m.Rating 0 4000
theorem validMember_eq (m : Member) (hl : m.Name.length ≤ 8000000000000000000) : m_impl_validMember m = some (memB m) := by
  unfold m_impl_validMember memB
  rw [IsName_eq _ hl, within_eq]
  cases nameB m.Name <;> rfl
theorem l26Member_eq (m : Member) (hl : m.Name.length ≤ 8000000000000000000) : m_spec_l26Member m = some (memB m) := by
  unfold m_spec_l26Member m_spec_l26Rating memB
  rw [IsNameS_eq _ hl, l00In_eq]
  cases nameB m.Name <;> rfl

/-- A member in its place. -/
def placedB (ms : List Member) (i : Nat) : Bool := (ms[i]?.map memB).getD true && (decide (i = 0) || ((ms[i - 1]?.bind fun a => ms[i]?.map fun b => ltS a.Name b.Name).getD true))
def clubB (c : Club) : Bool := decide (c.Members.length ≤ 12) && allI (placedB c.Members) 0 c.Members.length
theorem clubRun (c : Club) (hl : c.Members.length ≤ 1048576) (hm : ∀ m ∈ c.Members, m.Name.length ≤ 1048576) : loopM (fun s : Int => m_impl_ValidClub_l1 c s) 0 = some (bif allI (placedB c.Members) 0 c.Members.length then .inl () else .inr false) := by
  refine loop_all (step := fun i : Int => m_impl_ValidClub_l1 c i) (placedB c.Members) c.Members.length (.inl ()) (.inr false) (fun i hi => ?_) (by unfold m_impl_ValidClub_l1; rw [decide_eq_false (by omega)]; rfl) c.Members.length 0 (by omega)
  have hn := hm _ (List.getElem_mem hi)
  unfold m_impl_ValidClub_l1 placedB
  simp only [decide_eq_true (by omega : (i : Int) < c.Members.length), cond_true, getL_at hi, Option.bind_some, validMember_eq _ (by omega : c.Members[i].Name.length ≤ 8000000000000000000), chk_succ (by omega : i ≤ 8000000000000000000), List.getElem?_eq_getElem hi, Option.map_some, Option.getD_some]
  cases memB c.Members[i]
  · rfl
  · rcases Nat.eq_zero_or_pos i with rfl | h0
    · simp
    · simp only [Bool.not_true, cond_false, decide_eq_true (by omega : (0 : Int) < (i : Int)), cond_true, chk_pred h0 (by omega), Option.bind_some, getL_at (by omega : i - 1 < c.Members.length), List.getElem?_eq_getElem (by omega : i - 1 < c.Members.length), decide_eq_false (by omega : ¬ i = 0), Option.getD_some, Bool.true_and, Bool.false_or]
      cases ltS c.Members[i - 1].Name c.Members[i].Name <;> simp
theorem ValidClub_eq (c : Club) (hl : c.Members.length ≤ 1048576) (hm : ∀ m ∈ c.Members, m.Name.length ≤ 1048576) : m_impl_ValidClub c = some (clubB c) := by
  unfold m_impl_ValidClub clubB
  rw [clubRun c hl hm]
  by_cases h : c.Members.length ≤ 12
  · rw [decide_eq_false (by omega : ¬ 12 < (c.Members.length : Int)), decide_eq_true h]
    cases allI (placedB c.Members) 0 c.Members.length <;> rfl
  · rw [decide_eq_true (by omega : 12 < (c.Members.length : Int)), decide_eq_false h]; rfl
theorem ValidClubS_eq (c : Club) (hl : c.Members.length ≤ 1048576) (hm : ∀ m ∈ c.Members, m.Name.length ≤ 1048576) : m_spec_l26Ok c = some (clubB c) := by
  have hs : ∀ i, m_spec_l26Ok_l1 c i = m_impl_ValidClub_l1 c i := fun i => by
    unfold m_spec_l26Ok_l1 m_impl_ValidClub_l1
    cases decide (i < (c.Members.length : Int))
    · rfl
    · cases hg : getL c.Members i with
      | none => rfl
      | some e =>
        have he := hm e (List.mem_of_getElem? (getL_some hg).2.2)
        simp only [cond_true, Option.bind_some, l26Member_eq e (by omega), validMember_eq e (by omega)]
  unfold m_spec_l26Ok clubB
  rw [show (fun s : Int => m_spec_l26Ok_l1 c s) = fun s => m_impl_ValidClub_l1 c s from funext hs, clubRun c hl hm]
  rw [show decide ((c.Members.length : Int) ≤ 12) = decide (c.Members.length ≤ 12) by rw [Bool.eq_iff_iff]; simp; omega]
  cases allI (placedB c.Members) 0 c.Members.length <;> simp

theorem m_laws_FnExactValidClub_true (c : Club) (h : Lies ClubRep c) : m_laws_FnExactValidClub c = some true := by
  unfold m_laws_FnExactValidClub
  rw [szClub_eq c h 1048576 (by omega) (by omega), Option.bind_some, szR_neg (by omega)]
  by_cases hb : (1048576 : Int) < bulk_Club c
  · rw [decide_eq_true hb]; rfl
  · rw [decide_eq_false hb]
    have hs := sm_Club_of (x := c) (by omega)
    have hl : c.Members.length ≤ 1048576 ∧ ∀ m ∈ c.Members, m.Name.length ≤ 1048576 := by
      unfold bulk_Club bulk_MemberS at hb
      refine ⟨by omega, fun m hm => ?_⟩
      have := bulkS_mem (fun e => bulk_Member e) hm
      simp only [bulk_Member] at this
      unfold bulk_Member at hb
      omega
    simp only [cond_false, toClub_eq c hs, Option.bind_some, m_spec_ValidClub, ValidClubS_eq c hl.1 hl.2, ValidClub_eq c hl.1 hl.2, bne_self_eq_false, eqClub_eq c c hs, decide_true, Bool.not_true]

end Go.Proofs.Ytdngdgjlcfbdhaa
