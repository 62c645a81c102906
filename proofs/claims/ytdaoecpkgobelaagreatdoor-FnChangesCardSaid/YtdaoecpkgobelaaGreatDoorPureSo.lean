/- Lists of texts, sorted and made without repeats. -/
import Derived.Test.YtdaoecpkgobelaaGreatDoorPureM1
import Derived.Lib.SlicesCompact
namespace Go.Proofs.YtdaoecpkgobelaaGreatDoor
open Go Go.RowKit
set_option linter.unusedSimpArgs false
set_option linter.unusedVariables false
theorem lt_ltS : ∀ x y : Str, x < y ↔ ltS x y = true
  | [], [] => by simp [ltS_nil]
  | [], b :: y => by simp [ltS_nil_cons]
  | a :: x, [] => by simp [ltS_nil]
  | a :: x, b :: y => by
    rw [List.cons_lt_cons_iff, ltS_cons, lt_ltS x y]
    simp
theorem le_ltS (x y : Str) : decide (x ≤ y) = !ltS y x := by
  have h : x ≤ y ↔ ¬ y < x := Iff.rfl
  rw [Bool.eq_iff_iff, decide_eq_true_iff, h, lt_ltS]
  simp
def SortedE (R : List Str) : Prop := R.Pairwise fun a b => ltS b a = false
theorem leE_trans (a b c : Str) (h1 : (!ltS b a) = true) (h2 : (!ltS c b) = true) : (!ltS c a) = true := by
  rw [Bool.not_eq_true'] at h1 h2 ⊢
  cases h : ltS c a with
  | false => rfl
  | true =>
    rcases ltS_total b c with h3 | h3 | h3
    · rw [ltS_trans h3 h] at h1; cases h1
    · rw [h3, h] at h1; cases h1
    · rw [h3] at h2; cases h2
theorem leE_total (a b : Str) : ((!ltS b a) || (!ltS a b)) = true := by
  cases h : ltS b a with
  | false => rfl
  | true => rw [ltS_asymm h]; rfl
theorem sortE (L : List Str) : SortedE (L.mergeSort fun x y => decide (x ≤ y)) := by
  have e : (fun x y : Str => decide (x ≤ y)) = fun x y => !ltS y x := by funext x y; exact le_ltS x y
  rw [e]
  have := List.pairwise_mergeSort (le := fun x y : Str => !ltS y x) leE_trans leE_total L
  exact this.imp fun h => by simpa using h
theorem upto_same (d e : Array Str) : ∀ m : Nat, (∀ j, j < m → d[j]! = e[j]!) → Lib.compactUpTo d m = Lib.compactUpTo e m
  | 0, _ => rfl
  | m + 1, h => by
    have hk : Lib.keeps d m = Lib.keeps e m := by
      unfold Lib.keeps
      rw [h m (by omega)]
      rcases Nat.eq_zero_or_pos m with h0 | h0
      · simp [h0]
      · rw [h (m - 1) (by omega)]
    rw [Lib.compactUpTo_succ, Lib.compactUpTo_succ, upto_same d e m (fun j hj => h j (by omega)), hk, h m (by omega)]
theorem nil_or_snoc {α : Type} (l : List α) : l = [] ∨ ∃ l' x, l = l' ++ [x] := by
  rcases List.eq_nil_or_concat l with h | ⟨l', x, h⟩
  · exact .inl h
  · exact .inr ⟨l', x, by rw [h, List.concat_eq_append]⟩
theorem compact_snoc (l : List Str) (x : Str) : Lib.compact (l ++ [x]) = Lib.compact l ++ (if l.getLast? = some x then [] else [x]) := by
  have hg : ∀ j, j < l.length → (l ++ [x]).toArray[j]! = l.toArray[j]! := fun j hj => by
    rw [getElem!_pos _ j (by simp; omega), getElem!_pos _ j (by simpa using hj)]
    simp [List.getElem_append_left hj]
  have hx : (l ++ [x]).toArray[l.length]! = x := by
    rw [getElem!_pos _ _ (by simp)]
    simp
  unfold Lib.compact
  rw [List.length_append, List.length_singleton, Lib.compactUpTo_succ, upto_same _ _ _ hg, hx]
  congr 1
  unfold Lib.keeps
  rw [hx]
  rcases nil_or_snoc l with rfl | ⟨l', y, rfl⟩
  · rfl
  · rw [hg _ (by simp)]
    rw [getElem!_pos _ _ (by simp)]
    simp only [List.getLast?_append, List.getLast?_singleton, List.length_append, List.length_singleton]
    by_cases h : x = y
    · subst h
      simp
    · have h' : ¬ y = x := fun e => h e.symm
      simp [h, h']
theorem compact_sorted : ∀ (n : Nat) (l : List Str), l.length = n → SortedE l → SortedW (Lib.compact l) ∧ ∀ y, y ∈ Lib.compact l ↔ y ∈ l
  | 0, l, hn, _ => by
    obtain rfl := List.length_eq_zero_iff.1 hn
    exact ⟨List.Pairwise.nil, fun y => Iff.rfl⟩
  | n + 1, l, hn, hs => by
    rcases nil_or_snoc l with rfl | ⟨l', x, rfl⟩
    · cases hn
    obtain ⟨h1, h2, h3⟩ := List.pairwise_append.1 hs
    obtain ⟨g1, g2⟩ := compact_sorted n l' (by simpa using hn) h1
    rw [compact_snoc]
    by_cases hl : l'.getLast? = some x
    · rw [if_pos hl, List.append_nil]
      have hm : x ∈ l' := List.mem_of_getLast? hl
      exact ⟨g1, fun y => by rw [g2, List.mem_append, List.mem_singleton]; exact ⟨.inl, fun h => h.elim id fun e => e ▸ hm⟩⟩
    · rw [if_neg hl]
      refine ⟨List.pairwise_append.2 ⟨g1, List.pairwise_singleton _ _, fun a ha b hb => ?_⟩, fun y => by rw [List.mem_append, g2, List.mem_append]⟩
      rw [List.mem_singleton] at hb
      subst hb
      have ha' := (g2 a).1 ha
      have hle := h3 a ha' b (List.mem_singleton_self _)
      rcases ltS_total a b with h | h | h
      · exact h
      · exfalso
        subst h
        rcases nil_or_snoc l' with rfl | ⟨l'', y, rfl⟩
        · cases ha'
        · rw [List.getLast?_append, List.getLast?_singleton] at hl
          have hne : y ≠ a := fun e => hl (by rw [e]; rfl)
          have hya := h3 y (by simp) a (List.mem_singleton_self _)
          rcases List.mem_append.1 ha' with h | h
          · have hay := (List.pairwise_append.1 h1).2.2 a h y (List.mem_singleton_self _)
            rcases ltS_total a y with q | q | q
            · rw [hya] at q; cases q
            · exact hne q.symm
            · rw [hay] at q; cases q
          · exact hne (List.mem_singleton.1 h).symm
      · rw [hle] at h; cases h
theorem sortedW_ext {a b : List Str} (ha : SortedW a) (hb : SortedW b) (h : ∀ y, y ∈ a ↔ y ∈ b) : a = b := by
  have hnd : ∀ {l : List Str}, SortedW l → l.Nodup := fun hl => hl.imp fun h e => by rw [e, ltS_irrefl] at h; cases h
  have hp : a.Perm b := (List.perm_ext_iff_of_nodup (hnd ha) (hnd hb)).2 h
  refine hp.eq_of_pairwise (le := fun a b => ltS a b = true) (fun x y _ _ h1 h2 => ?_) ha hb
  rw [ltS_asymm h1] at h2; cases h2
def bothW (a b : List Str) : List Str := Lib.compact ((a ++ b).mergeSort fun x y => decide (x ≤ y))
theorem bothW_sorted (a b : List Str) : SortedW (bothW a b) := (compact_sorted _ _ rfl (sortE _)).1
theorem bothW_mem (a b : List Str) (y : Str) : y ∈ bothW a b ↔ y ∈ a ∨ y ∈ b := by
  unfold bothW
  rw [(compact_sorted _ _ rfl (sortE _)).2, List.mem_mergeSort, List.mem_append]
theorem compact_short (l : List Str) : (Lib.compact l).length ≤ l.length := by
  unfold Lib.compact Lib.compactUpTo
  rw [List.length_map]
  exact Nat.le_trans (List.length_filter_le _ _) (by rw [List.length_range]; exact Nat.le_refl _)
theorem bothW_len (a b : List Str) : (bothW a b).length ≤ a.length + b.length := by
  have := compact_short ((a ++ b).mergeSort fun x y => decide (x ≤ y))
  rw [List.length_mergeSort, List.length_append] at this
  exact this
end Go.Proofs.YtdaoecpkgobelaaGreatDoor
