/- What the laws' helpers compute. Printed by lawpure.py. -/
import Derived.Test.YtgmbcolpchckbaaPureA
namespace Go.Proofs.Ytgmbcolpchckbaa
open Go Go.RowKit
set_option linter.unusedSimpArgs false
set_option linter.unusedVariables false

def bulk_Int64S (x : (List Int)) : Nat := x.length

theorem szInt64S_eq (x : (List Int)) (h : Lies (sliceRep intRep) x) (l : Int) (h0 : 0 ≤ l) (h1 : l ≤ 1048576) : m_laws_szInt64S x l = some (szR (bulk_Int64S x) l) := by
  unfold m_laws_szInt64S
  rw [sz_end x.length l h0 h1 h.list.1]
  rfl

def sm_Int64S (x : (List Int)) : Prop := x.length ≤ 100000000

theorem sm_Int64S_of {x : (List Int)} (h : bulk_Int64S x ≤ 1048576) : sm_Int64S x := by
  unfold bulk_Int64S at h
  unfold sm_Int64S
  omega

def bulk_TileSet (x : TileSet) : Nat := x.Letters.length + bulk_Int64S x.Values + bulk_Int64S x.Counts

theorem szTileSet_eq (x : TileSet) (h : Lies TileSetRep x) (l : Int) (h0 : 0 ≤ l) (h1 : l ≤ 1048576) : m_laws_szTileSet x l = some (szR (bulk_TileSet x) l) := by
  obtain ⟨w, S, row, h⟩ := h
  obtain ⟨A1, c1, A2, c2, _, q0, q1, q2, q3⟩ := TileSetRep_open h
  unfold m_laws_szTileSet
  rw [sz_len x.Letters.length (l) (by omega) (by omega) q0]
  split
  · rw [sz_sub (bulk_Int64S x.Values) (l - (x.Letters.length : Nat)) (by omega) (szInt64S_eq x.Values ⟨w, S, _, q1⟩ (l - (x.Letters.length : Nat)) (by omega) (by omega))]
    split
    · rw [sz_sub (bulk_Int64S x.Counts) (l - (x.Letters.length : Nat) - (bulk_Int64S x.Values : Nat)) (by omega) (szInt64S_eq x.Counts ⟨w, S, _, q2⟩ (l - (x.Letters.length : Nat) - (bulk_Int64S x.Values : Nat)) (by omega) (by omega))]
      split
      · unfold szR bulk_TileSet
        rw [if_pos (by push_cast; omega)]
        try (congr 1; push_cast; omega)
      · unfold szR bulk_TileSet
        rw [if_neg (by push_cast; omega)]
    · unfold szR bulk_TileSet
      rw [if_neg (by push_cast; omega)]
  · unfold szR bulk_TileSet
    rw [if_neg (by push_cast; omega)]

def sm_TileSet (x : TileSet) : Prop := sm_Int64S x.Values ∧ sm_Int64S x.Counts

theorem sm_TileSet_of {x : TileSet} (h : bulk_TileSet x ≤ 1048576) : sm_TileSet x := by
  unfold bulk_TileSet at h
  unfold sm_TileSet
  exact ⟨sm_Int64S_of (by omega), sm_Int64S_of (by omega)⟩

theorem toInt64S_eq (x : (List Int)) (h : sm_Int64S x) : m_laws_toInt64S x = some x := by
  unfold m_laws_toInt64S
  exact toS_gen some _ x (by unfold sm_Int64S at h; have := h; omega) (fun e he => rfl)

theorem toTileSet_eq (x : TileSet) (h : sm_TileSet x) : m_laws_toTileSet x = some x := by
  unfold m_laws_toTileSet
  simp only [toInt64S_eq x.Values h.1, toInt64S_eq x.Counts h.2, Option.bind_some]

theorem eqInt64S_step (x y : (List Int)) (n : Int) : m_laws_eqInt64S_l1 x y n = eqStep (fun (a b : Int) => some (a == b)) x y n := by
  unfold m_laws_eqInt64S_l1 eqStep
  cases decide (n < (x.length : Int))
  · rfl
  · cases getL x n with
    | none => rfl
    | some e =>
      cases getL y n with
      | none => rfl
      | some e' => simp only [cond_true, Option.bind_some]; rfl

theorem eqInt64S_eq (x y : (List Int)) (h : sm_Int64S x) : m_laws_eqInt64S x y = some (decide (x = y)) := by
  unfold m_laws_eqInt64S
  rw [show (fun s : Int => m_laws_eqInt64S_l1 x y s) = fun s => eqStep (fun (a b : Int) => some (a == b)) x y s from funext fun s => eqInt64S_step x y s]
  exact eqS_gen (fun (a b : Int) => some (a == b)) x y (by unfold sm_Int64S at h; have := h; omega) (fun a b => by by_cases e : a = b <;> simp [e])

theorem eqTileSet_eq (x y : TileSet) (h : sm_TileSet x) : m_laws_eqTileSet x y = some (decide (x = y)) := by
  unfold m_laws_eqTileSet
  by_cases e_Letters : x.Letters = y.Letters
  case neg => rw [decide_eq_false (fun h => e_Letters (by rw [h]) : ¬ x = y), bne_iff_ne.2 e_Letters]; rfl
  rw [show (x.Letters != y.Letters) = false by rw [e_Letters]; exact bne_self_eq_false _, cond_false]
  rw [eqInt64S_eq x.Values y.Values h.1, Option.bind_some]
  by_cases e_Values : x.Values = y.Values
  case neg => rw [decide_eq_false e_Values, decide_eq_false (fun h => e_Values (by rw [h]) : ¬ x = y)]; rfl
  rw [decide_eq_true e_Values, Bool.not_true, cond_false]
  rw [eqInt64S_eq x.Counts y.Counts h.2, Option.bind_some]
  by_cases e_Counts : x.Counts = y.Counts
  case neg => rw [decide_eq_false e_Counts, decide_eq_false (fun h => e_Counts (by rw [h]) : ¬ x = y)]; rfl
  rw [decide_eq_true e_Counts, Bool.not_true, cond_false]
  by_cases e_Blanks : x.Blanks = y.Blanks
  case neg => rw [decide_eq_false (fun h => e_Blanks (by rw [h]) : ¬ x = y), bne_iff_ne.2 e_Blanks]; rfl
  rw [show (x.Blanks != y.Blanks) = false by rw [e_Blanks]; exact bne_self_eq_false _, cond_false]
  rw [decide_eq_true (by cases x; cases y; simp_all : x = y)]

theorem eqDrawn_eq (x y : Drawn) : m_laws_eqDrawn x y = some (decide (x = y)) := by
  unfold m_laws_eqDrawn
  by_cases e_Tiles : x.Tiles = y.Tiles
  case neg => rw [decide_eq_false (fun h => e_Tiles (by rw [h]) : ¬ x = y), bne_iff_ne.2 e_Tiles]; rfl
  rw [show (x.Tiles != y.Tiles) = false by rw [e_Tiles]; exact bne_self_eq_false _, cond_false]
  by_cases e_Ways : x.Ways = y.Ways
  case neg => rw [decide_eq_false (fun h => e_Ways (by rw [h]) : ¬ x = y), bne_iff_ne.2 e_Ways]; rfl
  rw [show (x.Ways != y.Ways) = false by rw [e_Ways]; exact bne_self_eq_false _, cond_false]
  rw [decide_eq_true (by cases x; cases y; simp_all : x = y)]

def sm_DrawnS (x : (List Drawn)) : Prop := x.length ≤ 100000000

theorem eqDrawnS_eq (x y : (List Drawn)) (h : sm_DrawnS x) : m_laws_eqDrawnS x y = some (decide (x = y)) := by
  unfold m_laws_eqDrawnS
  exact eqS_gen m_laws_eqDrawn x y (by unfold sm_DrawnS at h; have := h; omega) (fun a b => eqDrawn_eq a b)

noncomputable def mk_DrawnS (k : Int) : Drawn := (⟨mtext (k), k + 1⟩ : Drawn)

theorem markDrawnS_step (xs : List Drawn) (k : Int) (i : Nat) (hi : i < xs.length) (hi9 : i ≤ 1000000000) (h0 : 0 ≤ k) (h1 : k ≤ 10000000000 - 20) : m_laws_markDrawnS_l1 xs k i = some (.inl (xs.set i (mk_DrawnS k), k + (2 : Nat), ((i + 1 : Nat) : Int))) := by
  unfold m_laws_markDrawnS_l1
  have hs : ∀ v : Drawn, i < (xs.set i v).length := fun v => by rw [List.length_set]; exact hi
  simp only [decide_eq_true (by omega : (i : Int) < (xs.length : Int)), cond_true, getL_at hi, setL_of hi, getL_at (hs _), setL_of (hs _), List.getElem_set_self, List.set_set, Option.bind_some, remI_3, chk_in (by omega : -9000000000000000000 ≤ k + 1) (by omega), chk_in (by omega : -9000000000000000000 ≤ k + 1 + 1) (by omega), markText_m (k) (by omega), chk_succ (by omega : i ≤ 8000000000000000000)]
  refine congrArg some (congrArg Sum.inl (Prod.ext rfl (Prod.ext ?_ rfl)))
  show _ = k + (2 : Nat)
  push_cast
  omega

theorem heldDrawnS_step (ys : List Drawn) (k : Int) (i : Nat) (hy : ys[i]? = some (mk_DrawnS k)) (hi9 : i ≤ 1000000000) (h0 : 0 ≤ k) (h1 : k ≤ 10000000000 - 20) : m_laws_heldDrawnS_l1 ys k i = some (.inl (k + (2 : Nat), ((i + 1 : Nat) : Int))) := by
  have hi : i < ys.length := (List.getElem?_eq_some_iff.1 hy).1
  unfold m_laws_heldDrawnS_l1
  simp only [decide_eq_true (by omega : (i : Int) < (ys.length : Int)), cond_true, cond_false, getL_nat, hy, mk_DrawnS, bne_self_eq_false, Option.bind_some, remI_3, chk_in (by omega : -9000000000000000000 ≤ k + 1) (by omega), chk_in (by omega : -9000000000000000000 ≤ k + 1 + 1) (by omega), markText_m (k) (by omega), chk_succ (by omega : i ≤ 8000000000000000000)]
  refine congrArg some (congrArg Sum.inl (Prod.ext ?_ rfl))
  show _ = k + (2 : Nat)
  push_cast
  omega

theorem marksDrawnS (xs : List Drawn) (hl : xs.length ≤ 100000000) (k0 : Int) (h0 : 0 ≤ k0) (h1 : k0 ≤ 5000000000) : ∃ (ys : List Drawn) (k' : Int), m_laws_markDrawnS xs k0 = some (k', ys) ∧ m_laws_heldDrawnS ys k0 = some k' ∧ 0 ≤ k' ∧ k' ≤ k0 + 20 * xs.length := by
  obtain ⟨ys, k', a1, a2, a3, a4⟩ := marks_both m_laws_markDrawnS_l1 m_laws_heldDrawnS_l1 mk_DrawnS 2 (by omega) (fun xs k i a b c d => markDrawnS_step xs k i a b c d)
    (fun xs k => by unfold m_laws_markDrawnS_l1; rw [decide_eq_false (by omega)]; rfl) (fun ys k i a b c d => heldDrawnS_step ys k i a b c d) (fun ys k => by unfold m_laws_heldDrawnS_l1; rw [decide_eq_false (by omega)]; rfl) xs hl k0 h0 h1
  refine ⟨ys, k', ?_, ?_, a3, a4⟩
  · unfold m_laws_markDrawnS
    rw [a1]
    rfl
  · unfold m_laws_heldDrawnS
    rw [a2]
    rfl

end Go.Proofs.Ytgmbcolpchckbaa
