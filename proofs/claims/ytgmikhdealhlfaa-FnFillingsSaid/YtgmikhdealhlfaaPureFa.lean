/- Two searches for fillings: both find the same, in the same order. -/
import Derived.Test.YtgmikhdealhlfaaPureA
namespace Go.Proofs.Ytgmikhdealhlfaa
open Go Go.RowKit
set_option linter.unusedSimpArgs false
set_option linter.unusedVariables false

section
variable {G S : Type} (sl : List S) (cand : G → S → List Str) (put : G → S → Str → G) (free : G → S → Bool)
def deadF (g : G) : Bool := sl.any fun s => (cand g s).isEmpty
/-- The reference's search: the first slot with a free square. -/
def specF : Nat → G → List G
  | 0, _ => []
  | n + 1, g => if deadF sl cand g = true then [] else match sl.find? (free g) with
    | none => [g]
    | some s => (cand g s).flatMap fun w => specF n (put g s w)
/-- The program's search: the slots in turn. -/
def progF : List S → G → List G
  | [], g => [g]
  | s :: r, g => (cand g s).flatMap fun w => if deadF sl cand (put g s w) = true then [] else progF r (put g s w)
theorem specF_dead {n : Nat} {g : G} (h : deadF sl cand g = true) : specF sl cand put free n g = [] := by
  cases n with
  | zero => rfl
  | succ n => rw [specF, if_pos h]
theorem flatMap_congr' {α β : Type} {f g : α → List β} : ∀ {l : List α}, (∀ x ∈ l, f x = g x) → l.flatMap f = l.flatMap g
  | [], _ => rfl
  | x :: l, h => by
    rw [List.flatMap_cons, List.flatMap_cons, h x List.mem_cons_self, flatMap_congr' fun y hy => h y (List.mem_cons_of_mem _ hy)]
theorem flatMap_nil' {α β : Type} {f : α → List β} : ∀ {l : List α}, (∀ x ∈ l, f x = []) → l.flatMap f = []
  | [], _ => rfl
  | x :: l, h => by
    rw [List.flatMap_cons, h x List.mem_cons_self, flatMap_nil' fun y hy => h y (List.mem_cons_of_mem _ hy)]
    rfl
structure Search (I : G → Prop) : Prop where
  keep : ∀ g s w, I g → s ∈ sl → w ∈ cand g s → I (put g s w)
  full : ∀ g s, I g → s ∈ sl → free g s = false → cand g s ≠ [] → ∃ w, cand g s = [w] ∧ put g s w = g
  filled : ∀ g s w, I g → s ∈ sl → w ∈ cand g s → free (put g s w) s = false
  stay : ∀ g s w s', I g → s ∈ sl → s' ∈ sl → w ∈ cand g s → free g s' = false → free (put g s w) s' = false
  less : ∀ g s w s', I g → s ∈ sl → s' ∈ sl → w ∈ cand g s → cand g s' = [] → cand (put g s w) s' = []
variable {sl cand put free} {I : G → Prop} (H : Search sl cand put free I)
include H
theorem search_eq : ∀ (rest pre : List S) (g : G) (n : Nat), pre ++ rest = sl → I g → (∀ s ∈ pre, free g s = false) → deadF sl cand g = false → rest.length < n → specF sl cand put free n g = progF sl cand put rest g
  | [], pre, g, 0, _, _, _, _, hn => by simp at hn
  | [], pre, g, n + 1, hp, hI, hf, hd, _ => by
    rw [specF, hd, if_neg (by decide), progF]
    have : sl.find? (free g) = none := by
      rw [List.find?_eq_none]
      intro s hs
      rw [← hp, List.append_nil] at hs
      rw [hf s hs]
      decide
    rw [this]
  | s :: rest, pre, g, 0, _, _, _, _, hn => by simp at hn
  | s :: rest, pre, g, n + 1, hp, hI, hf, hd, hn => by
    have hs : s ∈ sl := by rw [← hp]; simp
    rw [progF]
    cases hfs : free g s
    · have hne : cand g s ≠ [] := fun e => by
        have : deadF sl cand g = true := by
          unfold deadF
          rw [List.any_eq_true]
          exact ⟨s, hs, by rw [e]; rfl⟩
        rw [this] at hd
        cases hd
      obtain ⟨w, e1, e2⟩ := H.full g s hI hs hfs hne
      rw [e1, List.flatMap_cons, List.flatMap_nil, List.append_nil, e2, hd, if_neg (by decide)]
      refine search_eq rest (pre ++ [s]) g (n + 1) (by rw [List.append_assoc]; exact hp) hI (fun x hx => ?_) hd (by simp at hn; omega)
      rcases List.mem_append.1 hx with hx | hx
      · exact hf x hx
      · rw [List.mem_singleton.1 hx]; exact hfs
    · have hfind : sl.find? (free g) = some s := by
        rw [← hp, List.find?_append]
        have : pre.find? (free g) = none := by
          rw [List.find?_eq_none]
          intro x hx
          rw [hf x hx]
          decide
        rw [this, List.find?_cons, hfs]
        rfl
      rw [specF, hd, if_neg (by decide), hfind]
      refine flatMap_congr' fun w hw => ?_
      have hI' := H.keep g s w hI hs hw
      by_cases hd' : deadF sl cand (put g s w) = true
      · rw [if_pos hd', specF_dead _ _ _ _ hd']
      · rw [if_neg hd']
        refine search_eq rest (pre ++ [s]) _ n (by rw [List.append_assoc]; exact hp) hI' (fun x hx => ?_) (by simpa using hd') (by simp at hn; omega)
        rcases List.mem_append.1 hx with hx | hx
        · exact H.stay g s w x hI hs (by rw [← hp]; simp [hx]) hw (hf x hx)
        · rw [List.mem_singleton.1 hx]; exact H.filled g s w hI hs hw
theorem root_eq (g : G) (n : Nat) (hI : I g) (hn : sl.length < n) : specF sl cand put free n g = progF sl cand put sl g := by
  cases hd : deadF sl cand g
  · exact search_eq H sl [] g n rfl hI (fun s hs => by cases hs) hd hn
  · rw [specF_dead _ _ _ _ hd]
    symm
    have hd0 := hd
    unfold deadF at hd
    rw [List.any_eq_true] at hd
    obtain ⟨s', hs', he⟩ := hd
    have he : cand g s' = [] := List.isEmpty_iff.1 he
    have key : ∀ L : List S, (∀ s ∈ L, s ∈ sl) → L ≠ [] → progF sl cand put L g = [] := fun L hL hne => by
      cases L with
      | nil => exact absurd rfl hne
      | cons s r =>
        rw [progF]
        refine flatMap_nil' fun w hw => ?_
        rw [if_pos]
        unfold deadF
        rw [List.any_eq_true]
        exact ⟨s', hs', by rw [H.less g s w s' hI (hL s List.mem_cons_self) hs' hw he]; rfl⟩
    exact key sl (fun _ h => h) (fun e => by rw [e] at hs'; cases hs')
end

end Go.Proofs.Ytgmikhdealhlfaa
