/- What the laws draw: the source of numbers never fails, and what is drawn is small. -/
import Derived.Test.YtgmikhdealhlfaaPureE
import Derived.Test.YtgmikhdealhlfaaPureU0
namespace Go.Proofs.Ytgmikhdealhlfaa
open Go Go.RowKit
set_option linter.unusedSimpArgs false
set_option linter.unusedVariables false

/-! ### Grids -/
def gridTexts : List Str := [[46], [46], [46], [46], [46], [46], [35], [35], [116], [101], [97]]

theorem gridTexts_ok : ∀ x ∈ gridTexts, x.length = 1 ∧ x.all gridC = true := by decide +kernel

theorem l25Draw_ok {k : Nat} {s : l00Src} (h : SrcOk k s) (hk : k ≤ 700000) : ∃ g s', m_spec_l25Draw s = some (g, s') ∧ gridB g = true ∧ g.Rows ≤ 4 ∧ 1 ≤ g.Rows ∧ 1 ≤ g.Cells.length ∧ g.Cells.length ≤ 16 ∧ SrcOk (k + 40) s' := by
  obtain ⟨v, s1, e1, a1, a2, h1⟩ := pick_ok h (by omega) 4 (by omega)
  obtain ⟨u, s2, e2, b1, b2, h2⟩ := pick_ok h1 (by omega) 3 (by omega)
  have a2 := a2 (by omega)
  have b2 := b2 (by omega)
  unfold m_spec_l25Draw
  rw [e1, Option.bind_some]
  simp only
  rw [chk_in (by omega) (by omega), Option.bind_some, e2, Option.bind_some]
  simp only
  rw [chk_in (by omega) (by omega), Option.bind_some]
  obtain ⟨R, hR⟩ : ∃ R : Nat, 1 + v = R := ⟨(1 + v).toNat, by omega⟩
  obtain ⟨C, hC⟩ : ∃ C : Nat, 2 + u = C := ⟨(2 + u).toNat, by omega⟩
  rw [hR, hC]
  have hm : R * C ≤ 16 := Nat.mul_le_mul (by omega : R ≤ 4) (by omega : C ≤ 4)
  have hm1 : 1 * 1 ≤ R * C := Nat.mul_le_mul (by omega) (by omega)
  rw [← Int.natCast_mul, chk_nat (by omega), Option.bind_some]
  obtain ⟨s3, x, e3, h3, p1, p2⟩ := draw_loop m_spec_l25Draw_l1 (fun i (x : Str) => x.length + i = R * C ∧ x.all gridC = true) (fun i k s x hs hk hp hi => by
      obtain ⟨y, s', e, hy, hs'⟩ := text_ok hs (by omega) gridTexts (by decide) (by decide)
      obtain ⟨y1, y2⟩ := gridTexts_ok y hy
      refine ⟨s', x ++ y, ?_, hs', by rw [List.length_append, y1]; omega, by rw [List.all_append, hp.2, y2]; rfl⟩
      unfold m_spec_l25Draw_l1
      rw [decide_eq_true (by omega), cond_true]
      show Option.bind (m_spec_l00Src_text s gridTexts) _ = _
      rw [e, Option.bind_some]
      simp only
      rw [catL_of (by omega), Option.bind_some, chk_to (i : Int) (by omega) (by omega) (by omega), Option.bind_some])
    (fun s x => rfl) (R * C) _ s2 [] h2 (by omega) (by omega) ⟨by simp, rfl⟩
  rw [e3, Option.bind_some, Option.bind_some]
  refine ⟨_, _, rfl, gridB_iff.2 ⟨R, C, rfl, rfl, by omega, by omega, by omega, by omega, by simpa using p1, p2⟩, ?_, ?_, ?_, ?_, h3.mono (by omega)⟩
  · simp only; omega
  · simp only; omega
  · simp only; omega
  · simp only; omega

theorem repeat_ok (c : UInt8) (n : Nat) (hn : n ≤ 100) : m_spec_l02Repeat c (n : Int) = some (List.replicate n c) := by
  unfold m_spec_l02Repeat
  have key : ∀ (i : Nat) (xs : Str), xs.length + i ≤ 100 → loopM (fun s : Str × Int => m_spec_l02Repeat_l1 c s.1 s.2) (xs, (i : Int)) = some (xs ++ List.replicate i c) := by
    intro i
    induction i with
    | zero =>
      intro xs _
      rw [List.replicate_zero, List.append_nil]
      exact loopM_done rfl
    | succ i ih =>
      intro xs h
      have hst : m_spec_l02Repeat_l1 c xs ((i + 1 : Nat) : Int) = some (.inl (xs ++ [c], (i : Int))) := by
        unfold m_spec_l02Repeat_l1
        rw [decide_eq_true (by omega), cond_true, catL_of (by simp; omega), Option.bind_some, chk_to (i : Int) (by omega) (by omega) (by omega), Option.bind_some]
      rw [loopM_next (s' := (xs ++ [c], (i : Int))) hst, ih _ (by simp; omega), List.append_assoc]
      rfl
  rw [key n [] (by simpa using hn)]
  rfl

theorem l25Bent_ok {k : Nat} {s : l00Src} (h : SrcOk k s) (hk : k ≤ 700000) : ∃ g s', m_spec_l25Bent s = some (g, s') ∧ g.Cells.length ≤ 100 ∧ SrcOk (k + 60) s' := by
  obtain ⟨g, s1, e1, hg, r1, r2, c1, c2, h1⟩ := l25Draw_ok h hk
  obtain ⟨v, s2, e2, a1, a2, h2⟩ := pick_ok h1 (by omega) 24 (by omega)
  unfold m_spec_l25Bent
  rw [e1, Option.bind_some]
  simp only
  rw [e2, Option.bind_some]
  simp only
  cases hv0 : v == 0
  · cases hv1 : v == 1
    · cases hv2 : v == 2
      · cases hv3 : v == 3
        · simp only [cond_false, Option.bind_some]
          exact ⟨_, _, rfl, by simp only; omega, h2.mono (by omega)⟩
        · simp only [cond_false, cond_true, Option.bind_some]
          exact ⟨_, _, rfl, by simp, h2.mono (by omega)⟩
      · obtain ⟨u, s3, e3, b1, b2, h3⟩ := pick_ok h2 (by omega) 2 (by omega)
        have b2 := b2 (by omega)
        obtain ⟨n, hn⟩ : ∃ n : Nat, 5 + u = n := ⟨(5 + u).toNat, by omega⟩
        simp only [cond_false, cond_true]
        rw [e3, Option.bind_some]
        simp only
        rw [hn, chk_nat (by omega), Option.bind_some, repeat_ok _ _ (by omega), Option.bind_some, Option.bind_some]
        exact ⟨_, _, rfl, by simp; omega, h3.mono (by omega)⟩
    · obtain ⟨y, s3, e3, hy, h3⟩ := text_ok h2 (by omega) [([65] : Str), ([63] : Str), ([32] : Str)] (by decide) (by decide)
      have hyl : y.length = 1 := by
        have : ∀ x ∈ [([65] : Str), ([63] : Str), ([32] : Str)], x.length = 1 := by decide
        exact this y hy
      simp only [cond_false, cond_true]
      rw [subL_of (by omega) (by omega) (by omega), Option.bind_some, e3, Option.bind_some]
      simp only
      rw [catL_of (by simp; omega), Option.bind_some, Option.bind_some]
      exact ⟨_, _, rfl, by simp; omega, h3.mono (by omega)⟩
  · simp only [cond_true]
    rw [chk_in (by omega) (by omega), Option.bind_some]
    obtain ⟨y, s3, e3, hy, h3⟩ := among_ok h2 (by omega) [0, 6, g.Rows + 1] (by simp) (by simp)
    rw [e3, Option.bind_some, Option.bind_some]
    exact ⟨_, _, rfl, by simp only; omega, h3.mono (by omega)⟩

theorem code_eq (g : Grid) (k : Int) (hl : g.Cells.length ≤ 1000) : ∃ c : Int, m_spec_l25Code g k = some c ∧ (c = 0 → ∃ (R C : Nat) (s : Slot), g.Cols = C ∧ R ≤ 5 ∧ C ≤ 5 ∧ g.Cells.length = R * C ∧ SlotIn R C s ∧ (m_spec_l25Slots g).bind (fun y => getL y k) = some s ∧ m_spec_l25Slots g = some (slotsT g.Cells R C) ∧ getL (slotsT g.Cells R C) k = some s) := by
  unfold m_spec_l25Code
  rw [l25Ok_eq g (by omega), Option.bind_some]
  cases hb : gridB g
  · exact ⟨1, rfl, by omega⟩
  · obtain ⟨R, C, e1, e2, h1, h2, h3, h4, h5, h6⟩ := gridB_iff.1 hb
    have hlen := slotsT_len h2 h4 g.Cells
    have hs := slotsS_eq e1 e2 h2 h4 h5
    rw [Bool.not_true, cond_false, hs, Option.bind_some, chk_in (by omega) (by omega), Option.bind_some, l00In_eq, Option.bind_some]
    cases hk : inB k 0 (((slotsT g.Cells R C).length : Int) - 1)
    · exact ⟨2, rfl, by omega⟩
    · rw [inB_iff] at hk
      have hi : k.toNat < (slotsT g.Cells R C).length := by omega
      have hg := getL_int hk.1 hi
      exact ⟨0, rfl, fun _ => ⟨R, C, _, e2, h2, h4, h5, slotsT_in (List.getElem_mem hi), by rw [Option.bind_some, hg], rfl, hg⟩⟩

def putTexts : List Str := [[97, 110], [97, 116, 101], [116, 101, 116, 101], [97, 116], [101, 97, 116], [], [65], [116, 101, 115, 116, 115]]

end Go.Proofs.Ytgmikhdealhlfaa
