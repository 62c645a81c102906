/- Clubs: the laws' helpers. -/
import Derived.Test.YtdngdgjlcfbdhaaLists
import Derived.Deep.Cut
namespace Go.Proofs.Ytdngdgjlcfbdhaa
open Go.RowKit
set_option linter.unusedSimpArgs false
set_option linter.unusedVariables false
attribute [local go_sem ↓] Go.wp_at_zero Go.wp_at_succ

theorem SR.to {α : Type} {K : Rep α} {w w' : World} {A : Option Addr} {xs : List α} (h : SR K w (· < w.heap.size) A xs) (hb : Below w.heap.size w w') : SR K w' (· < w'.heap.size) A xs := (h.below hb).more hb.size
/-- A store into a block that the slice does not lead to. -/
theorem SR.apart {α : Type} {K : Rep α} {w : World} {P : Nat → Prop} {A : Option Addr} {xs : List α} (h : SR K w P A xs) {a : Addr} (ha : ¬ P a.block) (u : Value) : SR K (w.setCell a u) P A xs := h.same ((Same.refl _ _).setCell ha u)

theorem SR.flat_only {α : Type} {cells : α → List Value} {size : Nat} {hl : ∀ x, (cells x).length = size} {w : World} {P : Nat → Prop} {g o : Nat} {xs : List α} (h : SR (Rep.flat cells size hl) w P (some ⟨g, o, none⟩) xs) :
    SR (Rep.flat cells size hl) w (fun b => b = g ∧ P b) (some ⟨g, o, none⟩) xs := fun hn => by
  obtain ⟨b, off, hA, hb, hc⟩ := h hn
  simp only [Option.some.injEq, Addr.mk.injEq, and_true] at hA
  obtain ⟨rfl, rfl⟩ := hA
  exact ⟨g, o, rfl, ⟨rfl, hb⟩, hc⟩

set_option maxHeartbeats 1000000 in
theorem toClub_any (A : Option Addr) (c : Nat) (xs : List Member) (w : World) (hx : SR memberRep w (· < w.heap.size) A xs) (hn : xs.length ≤ 1048576) :
    Calls Try.prog 34 #[.agg #[.slice A xs.length c]] w fun e w' => (∃ g, e = .returned (.agg #[.slice (some ⟨g, 0, none⟩) xs.length xs.length]) ∧ SR memberRep w' (· < w'.heap.size) (some ⟨g, 0, none⟩) xs) ∧ Below w.heap.size w w' := by
  go_enter Try.func34, Try.ntmps34
  go_wp2_with (first | (go_at_call 74; refine (toMemberS_any A c xs _ (hx.to (by (repeat' (first | (with_reducible exact Below.refl _ _) | (with_reducible assumption) | (with_reducible refine Below.alloc ?_ ?_ _) | (with_reducible refine Below.drew ?_) | (with_reducible refine bdrewN ?_ _) | (with_reducible refine Below.setCell ?_ ?_ _) | (first | (with_reducible exact Nat.le_refl _) | (with_reducible assumption) | omega | (simp only [World.size_alloc, World.size_setCell, World.size_drew]; omega) | (simp; omega) | (simp; done)))))) hn).mono ?_; rintro e w1 ⟨⟨g, rfl, hge, hs⟩, hbw1⟩; obtain ⟨hcw1, hfw1⟩ := bcell hbw1; have hBw1 : Below w.heap.size w w1 := Below.trans (by (repeat' (first | (with_reducible exact Below.refl _ _) | (with_reducible assumption) | (with_reducible refine Below.alloc ?_ ?_ _) | (with_reducible refine Below.drew ?_) | (with_reducible refine bdrewN ?_ _) | (with_reducible refine Below.setCell ?_ ?_ _) | (first | (with_reducible exact Nat.le_refl _) | (with_reducible assumption) | omega | (simp only [World.size_alloc, World.size_setCell, World.size_drew]; omega) | (simp; omega) | (simp; done))))) (hbw1.mono (by (first | (with_reducible exact Nat.le_refl _) | (with_reducible assumption) | omega | (simp only [World.size_alloc, World.size_setCell, World.size_drew]; omega) | (simp; omega) | (simp; done)))); have hzw1 := hbw1.size; (try simp at hzw1); (try have hl0w1 : w.heap.size < w1.heap.size := by omega); (try have hl1w1 : w.heap.size + 1 < w1.heap.size := by omega); (try have hl2w1 : w.heap.size + 1 + 1 < w1.heap.size := by omega); (try have hl3w1 : w.heap.size + 1 + 1 + 1 < w1.heap.size := by omega); (try have hl4w1 : w.heap.size + 1 + 1 + 1 + 1 < w1.heap.size := by omega)))
  refine bodyPost_ret (v := .agg #[.slice (some ⟨g, 0, none⟩) xs.length xs.length]) (by simp [results, Try.results34, go_sem, hcw1]) rfl ⟨⟨g, rfl, ?_⟩, ?_⟩
  · have h1 : SR memberRep w1 (fun b => b = g ∧ b < w1.heap.size) (some ⟨g, 0, none⟩) xs := SR.flat_only hs
    refine SR.mono (SR.apart (SR.apart h1 ?_ _) ?_ _) (fun b hb => ?_)
    · simp at hge; show ¬ (w.heap.size + 1 + 1 = g ∧ _); omega
    · simp at hge; show ¬ (w.heap.size + 1 = g ∧ _); omega
    · simpa using hb.2
  · (repeat' (first | (with_reducible exact Below.refl _ _) | (with_reducible assumption) | (with_reducible refine Below.alloc ?_ ?_ _) | (with_reducible refine Below.drew ?_) | (with_reducible refine bdrewN ?_ _) | (with_reducible refine Below.setCell ?_ ?_ _) | (first | (with_reducible exact Nat.le_refl _) | (with_reducible assumption) | omega | (simp only [World.size_alloc, World.size_setCell, World.size_drew]; omega) | (simp; omega) | (simp; done))))

set_option maxHeartbeats 1000000 in
theorem szClub_any (A : Option Addr) (c : Nat) (xs : List Member) (l : Int) (w : World) (hx : SR memberRep w (· < w.heap.size) A xs) (hok : ∀ x ∈ xs, x.ok) (hlen : xs.length ≤ maxLen) (h0 : 0 ≤ l) (h1 : l ≤ 1048576) :
    Calls Try.prog 32 #[.agg #[.slice A xs.length c], .int .i64 l] w fun e w' => (∃ q : Int, e = .returned (.int .i64 q) ∧ -1 ≤ q ∧ (0 ≤ q → (xs.length : Int) + (sumB Member.bulk xs : Nat) + q = l)) ∧ Below w.heap.size w w' := by
  have HOK := Lib.hid hok
  clear hok
  go_enter Try.func32, Try.ntmps32
  go_wp2_with (first | (go_at_call 73; refine (szMemberS_any A c xs _ _ (hx.to (by (repeat' (first | (with_reducible exact Below.refl _ _) | (with_reducible assumption) | (with_reducible refine Below.alloc ?_ ?_ _) | (with_reducible refine Below.drew ?_) | (with_reducible refine bdrewN ?_ _) | (with_reducible refine Below.setCell ?_ ?_ _) | (first | (with_reducible exact Nat.le_refl _) | (with_reducible assumption) | omega | (simp only [World.size_alloc, World.size_setCell, World.size_drew]; omega) | (simp; omega) | (simp; done)))))) HOK.out hlen (by omega) (by omega)).mono ?_; rintro e w1 ⟨⟨q, rfl, hq0, hq1⟩, hbw1⟩; obtain ⟨hcw1, hfw1⟩ := bcell hbw1; have hBw1 : Below w.heap.size w w1 := Below.trans (by (repeat' (first | (with_reducible exact Below.refl _ _) | (with_reducible assumption) | (with_reducible refine Below.alloc ?_ ?_ _) | (with_reducible refine Below.drew ?_) | (with_reducible refine bdrewN ?_ _) | (with_reducible refine Below.setCell ?_ ?_ _) | (first | (with_reducible exact Nat.le_refl _) | (with_reducible assumption) | omega | (simp only [World.size_alloc, World.size_setCell, World.size_drew]; omega) | (simp; omega) | (simp; done))))) (hbw1.mono (by (first | (with_reducible exact Nat.le_refl _) | (with_reducible assumption) | omega | (simp only [World.size_alloc, World.size_setCell, World.size_drew]; omega) | (simp; omega) | (simp; done)))); have hzw1 := hbw1.size; (try simp at hzw1); (try have hl0w1 : w.heap.size < w1.heap.size := by omega); (try have hl1w1 : w.heap.size + 1 < w1.heap.size := by omega); (try have hl2w1 : w.heap.size + 1 + 1 < w1.heap.size := by omega); (try have hl3w1 : w.heap.size + 1 + 1 + 1 < w1.heap.size := by omega); (try have hl4w1 : w.heap.size + 1 + 1 + 1 + 1 < w1.heap.size := by omega)))
  all_goals (go_ret; refine ⟨⟨_, rfl, by omega, by omega⟩, ?_⟩)
  all_goals (repeat' (first | (with_reducible exact Below.refl _ _) | (with_reducible assumption) | (with_reducible refine Below.alloc ?_ ?_ _) | (with_reducible refine Below.drew ?_) | (with_reducible refine bdrewN ?_ _) | (with_reducible refine Below.setCell ?_ ?_ _) | (first | (with_reducible exact Nat.le_refl _) | (with_reducible assumption) | omega | (simp only [World.size_alloc, World.size_setCell, World.size_drew]; omega) | (simp; omega) | (simp; done))))

set_option maxHeartbeats 1000000 in
theorem eqClub_any (A A' : Option Addr) (c c' : Nat) (xs ys : List Member) (w : World) (hx : SR memberRep w (· < w.heap.size) A xs) (hy : SR memberRep w (· < w.heap.size) A' ys) (hlx : xs.length ≤ maxLen) (hly : ys.length ≤ maxLen) :
    Calls Try.prog 36 #[.agg #[.slice A xs.length c], .agg #[.slice A' ys.length c']] w fun e w' => e = .returned (.bool (decide (xs = ys))) ∧ Below w.heap.size w w' := by
  have ct : ∀ b : Bool, decide (xs = ys) = b → Calls Try.prog 36 #[.agg #[.slice A xs.length c], .agg #[.slice A' ys.length c']] w fun e w' => e = .returned (.bool b) ∧ Below w.heap.size w w' := by
    intro b hb
    have ct : ∀ W, SR memberRep W (· < W.heap.size) A xs → SR memberRep W (· < W.heap.size) A' ys → Calls Try.prog 76 _ W _ := fun W h h' => eqMemberS_any A A' c c' xs ys W h h' hlx hly
    rw [hb] at ct
    have CT := Lib.hid ct
    clear ct hb
    go_enter Try.func36, Try.ntmps36
    cases b
    all_goals
      go_wp2_with (first | (go_at_call 76; refine (CT.out _ (hx.to (by (repeat' (first | (with_reducible exact Below.refl _ _) | (with_reducible assumption) | (with_reducible refine Below.alloc ?_ ?_ _) | (with_reducible refine Below.drew ?_) | (with_reducible refine bdrewN ?_ _) | (with_reducible refine Below.setCell ?_ ?_ _) | (first | (with_reducible exact Nat.le_refl _) | (with_reducible assumption) | omega | (simp only [World.size_alloc, World.size_setCell, World.size_drew]; omega) | (simp; omega) | (simp; done)))))) (hy.to (by (repeat' (first | (with_reducible exact Below.refl _ _) | (with_reducible assumption) | (with_reducible refine Below.alloc ?_ ?_ _) | (with_reducible refine Below.drew ?_) | (with_reducible refine bdrewN ?_ _) | (with_reducible refine Below.setCell ?_ ?_ _) | (first | (with_reducible exact Nat.le_refl _) | (with_reducible assumption) | omega | (simp only [World.size_alloc, World.size_setCell, World.size_drew]; omega) | (simp; omega) | (simp; done))))))).mono ?_; rintro e w1 ⟨rfl, hbw1⟩; obtain ⟨hcw1, hfw1⟩ := bcell hbw1; have hBw1 : Below w.heap.size w w1 := Below.trans (by (repeat' (first | (with_reducible exact Below.refl _ _) | (with_reducible assumption) | (with_reducible refine Below.alloc ?_ ?_ _) | (with_reducible refine Below.drew ?_) | (with_reducible refine bdrewN ?_ _) | (with_reducible refine Below.setCell ?_ ?_ _) | (first | (with_reducible exact Nat.le_refl _) | (with_reducible assumption) | omega | (simp only [World.size_alloc, World.size_setCell, World.size_drew]; omega) | (simp; omega) | (simp; done))))) (hbw1.mono (by (first | (with_reducible exact Nat.le_refl _) | (with_reducible assumption) | omega | (simp only [World.size_alloc, World.size_setCell, World.size_drew]; omega) | (simp; omega) | (simp; done)))); have hzw1 := hbw1.size; (try simp at hzw1); (try have hl0w1 : w.heap.size < w1.heap.size := by omega); (try have hl1w1 : w.heap.size + 1 < w1.heap.size := by omega); (try have hl2w1 : w.heap.size + 1 + 1 < w1.heap.size := by omega); (try have hl3w1 : w.heap.size + 1 + 1 + 1 < w1.heap.size := by omega); (try have hl4w1 : w.heap.size + 1 + 1 + 1 + 1 < w1.heap.size := by omega)))
      go_ret
      exact ⟨rfl, by (repeat' (first | (with_reducible exact Below.refl _ _) | (with_reducible assumption) | (with_reducible refine Below.alloc ?_ ?_ _) | (with_reducible refine Below.drew ?_) | (with_reducible refine bdrewN ?_ _) | (with_reducible refine Below.setCell ?_ ?_ _) | (first | (with_reducible exact Nat.le_refl _) | (with_reducible assumption) | omega | (simp only [World.size_alloc, World.size_setCell, World.size_drew]; omega) | (simp; omega) | (simp; done))))⟩
  exact ct _ rfl

end Go.Proofs.Ytdngdgjlcfbdhaa
