/- What the laws' helpers compute. Printed by lawpure.py. -/
import Derived.Test.YtgmikhdealhlfaaPureA
namespace Go.Proofs.Ytgmikhdealhlfaa
open Go Go.RowKit
set_option linter.unusedSimpArgs false
set_option linter.unusedVariables false

def bulk_Grid (x : Grid) : Nat := x.Cells.length

theorem szGrid_eq (x : Grid) (h : Lies GridRep x) (l : Int) (h0 : 0 ≤ l) (h1 : l ≤ 1048576) : m_laws_szGrid x l = some (szR (bulk_Grid x) l) := by
  obtain ⟨w, S, row, h⟩ := h
  obtain ⟨_, q0, q1, q2⟩ := GridRep_open h
  unfold m_laws_szGrid
  rw [sz_len x.Cells.length (l) (by omega) (by omega) q2]
  split
  · unfold szR bulk_Grid
    rw [if_pos (by push_cast; omega)]
    try (congr 1; push_cast; omega)
  · unfold szR bulk_Grid
    rw [if_neg (by push_cast; omega)]

theorem toGrid_eq (x : Grid) : m_laws_toGrid x = some x := by
  unfold m_laws_toGrid
  rfl

theorem eqSlot_eq (x y : Slot) : m_laws_eqSlot x y = some (decide (x = y)) := by
  unfold m_laws_eqSlot
  by_cases e_Row : x.Row = y.Row
  case neg => rw [decide_eq_false (fun h => e_Row (by rw [h]) : ¬ x = y), bne_iff_ne.2 e_Row]; rfl
  rw [show (x.Row != y.Row) = false by rw [e_Row]; exact bne_self_eq_false _, cond_false]
  by_cases e_Col : x.Col = y.Col
  case neg => rw [decide_eq_false (fun h => e_Col (by rw [h]) : ¬ x = y), bne_iff_ne.2 e_Col]; rfl
  rw [show (x.Col != y.Col) = false by rw [e_Col]; exact bne_self_eq_false _, cond_false]
  by_cases e_Down : x.Down = y.Down
  case neg => rw [decide_eq_false (fun h => e_Down (by rw [h]) : ¬ x = y), bne_iff_ne.2 e_Down]; rfl
  rw [show (x.Down != y.Down) = false by rw [e_Down]; exact bne_self_eq_false _, cond_false]
  by_cases e_Length : x.Length = y.Length
  case neg => rw [decide_eq_false (fun h => e_Length (by rw [h]) : ¬ x = y), bne_iff_ne.2 e_Length]; rfl
  rw [show (x.Length != y.Length) = false by rw [e_Length]; exact bne_self_eq_false _, cond_false]
  rw [decide_eq_true (by cases x; cases y; simp_all : x = y)]

def sm_SlotS (x : (List Slot)) : Prop := x.length ≤ 100000000

theorem eqSlotS_eq (x y : (List Slot)) (h : sm_SlotS x) : m_laws_eqSlotS x y = some (decide (x = y)) := by
  unfold m_laws_eqSlotS
  exact eqS_gen m_laws_eqSlot x y (by unfold sm_SlotS at h; have := h; omega) (fun a b => eqSlot_eq a b)

theorem eqGrid_eq (x y : Grid) : m_laws_eqGrid x y = some (decide (x = y)) := by
  unfold m_laws_eqGrid
  by_cases e_Rows : x.Rows = y.Rows
  case neg => rw [decide_eq_false (fun h => e_Rows (by rw [h]) : ¬ x = y), bne_iff_ne.2 e_Rows]; rfl
  rw [show (x.Rows != y.Rows) = false by rw [e_Rows]; exact bne_self_eq_false _, cond_false]
  by_cases e_Cols : x.Cols = y.Cols
  case neg => rw [decide_eq_false (fun h => e_Cols (by rw [h]) : ¬ x = y), bne_iff_ne.2 e_Cols]; rfl
  rw [show (x.Cols != y.Cols) = false by rw [e_Cols]; exact bne_self_eq_false _, cond_false]
  by_cases e_Cells : x.Cells = y.Cells
  case neg => rw [decide_eq_false (fun h => e_Cells (by rw [h]) : ¬ x = y), bne_iff_ne.2 e_Cells]; rfl
  rw [show (x.Cells != y.Cells) = false by rw [e_Cells]; exact bne_self_eq_false _, cond_false]
  rw [decide_eq_true (by cases x; cases y; simp_all : x = y)]

def bulk_StringS (x : (List Str)) : Nat := x.length + bulkS (fun e => e.length) x

theorem szStringS_step (x : List Str) (l n : Int) : m_laws_szStringS_l1 x l n = szStep (fun (e : Str) l => (chk (l - (e.length : Int))).bind fun z => bif decide (z < 0) then some (-1) else some z) x l n := by
  unfold m_laws_szStringS_l1 szStep
  cases decide (n < (x.length : Int))
  · rfl
  · cases getL x n with
    | none => rfl
    | some e =>
      simp only [cond_true, Option.bind_some]
      cases chk (l - (e.length : Int)) with
      | none => rfl
      | some z => simp only [Option.bind_some]; cases hz : decide (z < 0) <;> simp [hz]

theorem szStringS_eq (x : (List Str)) (h : Lies (sliceRep strRep) x) (l : Int) (h0 : 0 ≤ l) (h1 : l ≤ 1048576) : m_laws_szStringS x l = some (szR (bulk_StringS x) l) := by
  unfold m_laws_szStringS
  rw [show (fun s : Int × Int => m_laws_szStringS_l1 x s.1 s.2) = fun s => szStep (fun (e : Str) l => (chk (l - (e.length : Int))).bind fun z => bif decide (z < 0) then some (-1) else some z) x s.1 s.2 from funext fun s => szStringS_step x s.1 s.2]
  exact szS_gen (fun (e : Str) l => (chk (l - (e.length : Int))).bind fun z => bif decide (z < 0) then some (-1) else some z) (fun e => e.length) x l h0 h1 h.list.1 (fun e he l h0 h1 => ⟨_, sz_end e.length l h0 h1 (h.list.2 e he).str, by unfold szR; split <;> omega⟩)

def sm_StringS (x : (List Str)) : Prop := x.length ≤ 100000000

theorem sm_StringS_of {x : (List Str)} (h : bulk_StringS x ≤ 1048576) : sm_StringS x := by
  unfold bulk_StringS at h
  unfold sm_StringS
  omega

def bulk_Lexicon (x : Lexicon) : Nat := bulk_StringS x.Words

theorem szLexicon_eq (x : Lexicon) (h : Lies LexiconRep x) (l : Int) (h0 : 0 ≤ l) (h1 : l ≤ 1048576) : m_laws_szLexicon x l = some (szR (bulk_Lexicon x) l) := by
  obtain ⟨w, S, row, h⟩ := h
  obtain ⟨A0, c0, _, q0⟩ := LexiconRep_open h
  unfold m_laws_szLexicon
  rw [sz_sub (bulk_StringS x.Words) (l) (by omega) (szStringS_eq x.Words ⟨w, S, _, q0⟩ (l) (by omega) (by omega))]
  split
  · unfold szR bulk_Lexicon
    rw [if_pos (by push_cast; omega)]
    try (congr 1; push_cast; omega)
  · unfold szR bulk_Lexicon
    rw [if_neg (by push_cast; omega)]

def sm_Lexicon (x : Lexicon) : Prop := sm_StringS x.Words

theorem sm_Lexicon_of {x : Lexicon} (h : bulk_Lexicon x ≤ 1048576) : sm_Lexicon x := by
  unfold bulk_Lexicon at h
  unfold sm_Lexicon
  exact sm_StringS_of (by omega)

theorem toStringS_eq (x : (List Str)) (h : sm_StringS x) : m_laws_toStringS x = some x := by
  unfold m_laws_toStringS
  exact toS_gen some _ x (by unfold sm_StringS at h; have := h; omega) (fun e he => rfl)

theorem toLexicon_eq (x : Lexicon) (h : sm_Lexicon x) : m_laws_toLexicon x = some x := by
  unfold m_laws_toLexicon
  simp only [toStringS_eq x.Words h, Option.bind_some]

theorem eqStringS_step (x y : (List Str)) (n : Int) : m_laws_eqStringS_l1 x y n = eqStep (fun (a b : Str) => some (a == b)) x y n := by
  unfold m_laws_eqStringS_l1 eqStep
  cases decide (n < (x.length : Int))
  · rfl
  · cases getL x n with
    | none => rfl
    | some e =>
      cases getL y n with
      | none => rfl
      | some e' => simp only [cond_true, Option.bind_some]; rfl

theorem eqStringS_eq (x y : (List Str)) (h : sm_StringS x) : m_laws_eqStringS x y = some (decide (x = y)) := by
  unfold m_laws_eqStringS
  rw [show (fun s : Int => m_laws_eqStringS_l1 x y s) = fun s => eqStep (fun (a b : Str) => some (a == b)) x y s from funext fun s => eqStringS_step x y s]
  exact eqS_gen (fun (a b : Str) => some (a == b)) x y (by unfold sm_StringS at h; have := h; omega) (fun a b => by by_cases e : a = b <;> simp [e])

theorem eqLexicon_eq (x y : Lexicon) (h : sm_Lexicon x) : m_laws_eqLexicon x y = some (decide (x = y)) := by
  unfold m_laws_eqLexicon
  rw [eqStringS_eq x.Words y.Words h, Option.bind_some]
  by_cases e_Words : x.Words = y.Words
  case neg => rw [decide_eq_false e_Words, decide_eq_false (fun h => e_Words (by rw [h]) : ¬ x = y)]; rfl
  rw [decide_eq_true e_Words, Bool.not_true, cond_false]
  rw [decide_eq_true (by cases x; cases y; simp_all : x = y)]

def sm_Int64S (x : (List Int)) : Prop := x.length ≤ 100000000

theorem eqInt64S_step (x y : (List Int)) (n : Int) : m_laws_eqInt64S_l1 x y n = eqStep (fun (a b : Int) => some (a == b)) x y n := by
  unfold m_laws_eqInt64S_l1 eqStep
  cases decide (n < (x.length : Int))
  · rfl
  · cases getL x n with
    | none => rfl
    | some e =>
      cases getL y n with
      | none => rfl
      | some e' => simp only [cond_true, Option.bind_some]; rfl

theorem eqInt64S_eq (x y : (List Int)) (h : sm_Int64S x) : m_laws_eqInt64S x y = some (decide (x = y)) := by
  unfold m_laws_eqInt64S
  rw [show (fun s : Int => m_laws_eqInt64S_l1 x y s) = fun s => eqStep (fun (a b : Int) => some (a == b)) x y s from funext fun s => eqInt64S_step x y s]
  exact eqS_gen (fun (a b : Int) => some (a == b)) x y (by unfold sm_Int64S at h; have := h; omega) (fun a b => by by_cases e : a = b <;> simp [e])

noncomputable def mk_SlotS (k : Int) : Slot := (⟨k, k + 1, (k + 1 + 1).tmod 3 == 0, k + 1 + 1 + 1⟩ : Slot)

theorem markSlotS_step (xs : List Slot) (k : Int) (i : Nat) (hi : i < xs.length) (hi9 : i ≤ 1000000000) (h0 : 0 ≤ k) (h1 : k ≤ 10000000000 - 20) : m_laws_markSlotS_l1 xs k i = some (.inl (xs.set i (mk_SlotS k), k + (4 : Nat), ((i + 1 : Nat) : Int))) := by
  unfold m_laws_markSlotS_l1
  have hs : ∀ v : Slot, i < (xs.set i v).length := fun v => by rw [List.length_set]; exact hi
  simp only [decide_eq_true (by omega : (i : Int) < (xs.length : Int)), cond_true, getL_at hi, setL_of hi, getL_at (hs _), setL_of (hs _), List.getElem_set_self, List.set_set, Option.bind_some, remI_3, chk_in (by omega : -9000000000000000000 ≤ k + 1) (by omega), chk_in (by omega : -9000000000000000000 ≤ k + 1 + 1) (by omega), chk_in (by omega : -9000000000000000000 ≤ k + 1 + 1 + 1) (by omega), chk_in (by omega : -9000000000000000000 ≤ k + 1 + 1 + 1 + 1) (by omega), chk_succ (by omega : i ≤ 8000000000000000000)]
  refine congrArg some (congrArg Sum.inl (Prod.ext rfl (Prod.ext ?_ rfl)))
  show _ = k + (4 : Nat)
  push_cast
  omega

theorem heldSlotS_step (ys : List Slot) (k : Int) (i : Nat) (hy : ys[i]? = some (mk_SlotS k)) (hi9 : i ≤ 1000000000) (h0 : 0 ≤ k) (h1 : k ≤ 10000000000 - 20) : m_laws_heldSlotS_l1 ys k i = some (.inl (k + (4 : Nat), ((i + 1 : Nat) : Int))) := by
  have hi : i < ys.length := (List.getElem?_eq_some_iff.1 hy).1
  unfold m_laws_heldSlotS_l1
  simp only [decide_eq_true (by omega : (i : Int) < (ys.length : Int)), cond_true, cond_false, getL_nat, hy, mk_SlotS, bne_self_eq_false, Option.bind_some, remI_3, chk_in (by omega : -9000000000000000000 ≤ k + 1) (by omega), chk_in (by omega : -9000000000000000000 ≤ k + 1 + 1) (by omega), chk_in (by omega : -9000000000000000000 ≤ k + 1 + 1 + 1) (by omega), chk_in (by omega : -9000000000000000000 ≤ k + 1 + 1 + 1 + 1) (by omega), chk_succ (by omega : i ≤ 8000000000000000000)]
  refine congrArg some (congrArg Sum.inl (Prod.ext ?_ rfl))
  show _ = k + (4 : Nat)
  push_cast
  omega

theorem marksSlotS (xs : List Slot) (hl : xs.length ≤ 100000000) (k0 : Int) (h0 : 0 ≤ k0) (h1 : k0 ≤ 5000000000) : ∃ (ys : List Slot) (k' : Int), m_laws_markSlotS xs k0 = some (k', ys) ∧ m_laws_heldSlotS ys k0 = some k' ∧ 0 ≤ k' ∧ k' ≤ k0 + 20 * xs.length := by
  obtain ⟨ys, k', a1, a2, a3, a4⟩ := marks_both m_laws_markSlotS_l1 m_laws_heldSlotS_l1 mk_SlotS 4 (by omega) (fun xs k i a b c d => markSlotS_step xs k i a b c d)
    (fun xs k => by unfold m_laws_markSlotS_l1; rw [decide_eq_false (by omega)]; rfl) (fun ys k i a b c d => heldSlotS_step ys k i a b c d) (fun ys k => by unfold m_laws_heldSlotS_l1; rw [decide_eq_false (by omega)]; rfl) xs hl k0 h0 h1
  refine ⟨ys, k', ?_, ?_, a3, a4⟩
  · unfold m_laws_markSlotS
    rw [a1]
    rfl
  · unfold m_laws_heldSlotS
    rw [a2]
    rfl

noncomputable def mk_StringS (k : Int) : Str := (mtext (k) : Str)

theorem markStringS_step (xs : List Str) (k : Int) (i : Nat) (hi : i < xs.length) (hi9 : i ≤ 1000000000) (h0 : 0 ≤ k) (h1 : k ≤ 10000000000 - 20) : m_laws_markStringS_l1 xs k i = some (.inl (xs.set i (mk_StringS k), k + (1 : Nat), ((i + 1 : Nat) : Int))) := by
  unfold m_laws_markStringS_l1
  have hs : ∀ v : Str, i < (xs.set i v).length := fun v => by rw [List.length_set]; exact hi
  simp only [decide_eq_true (by omega : (i : Int) < (xs.length : Int)), cond_true, getL_at hi, setL_of hi, getL_at (hs _), setL_of (hs _), List.getElem_set_self, List.set_set, Option.bind_some, remI_3, chk_in (by omega : -9000000000000000000 ≤ k + 1) (by omega), markText_m (k) (by omega), chk_succ (by omega : i ≤ 8000000000000000000)]
  refine congrArg some (congrArg Sum.inl (Prod.ext rfl (Prod.ext ?_ rfl)))
  show _ = k + (1 : Nat)
  push_cast
  omega

theorem heldStringS_step (ys : List Str) (k : Int) (i : Nat) (hy : ys[i]? = some (mk_StringS k)) (hi9 : i ≤ 1000000000) (h0 : 0 ≤ k) (h1 : k ≤ 10000000000 - 20) : m_laws_heldStringS_l1 ys k i = some (.inl (k + (1 : Nat), ((i + 1 : Nat) : Int))) := by
  have hi : i < ys.length := (List.getElem?_eq_some_iff.1 hy).1
  unfold m_laws_heldStringS_l1
  simp only [decide_eq_true (by omega : (i : Int) < (ys.length : Int)), cond_true, cond_false, getL_nat, hy, mk_StringS, bne_self_eq_false, Option.bind_some, remI_3, chk_in (by omega : -9000000000000000000 ≤ k + 1) (by omega), markText_m (k) (by omega), chk_succ (by omega : i ≤ 8000000000000000000)]
  refine congrArg some (congrArg Sum.inl (Prod.ext ?_ rfl))
  show _ = k + (1 : Nat)
  push_cast
  omega

theorem marksStringS (xs : List Str) (hl : xs.length ≤ 100000000) (k0 : Int) (h0 : 0 ≤ k0) (h1 : k0 ≤ 5000000000) : ∃ (ys : List Str) (k' : Int), m_laws_markStringS xs k0 = some (k', ys) ∧ m_laws_heldStringS ys k0 = some k' ∧ 0 ≤ k' ∧ k' ≤ k0 + 20 * xs.length := by
  obtain ⟨ys, k', a1, a2, a3, a4⟩ := marks_both m_laws_markStringS_l1 m_laws_heldStringS_l1 mk_StringS 1 (by omega) (fun xs k i a b c d => markStringS_step xs k i a b c d)
    (fun xs k => by unfold m_laws_markStringS_l1; rw [decide_eq_false (by omega)]; rfl) (fun ys k i a b c d => heldStringS_step ys k i a b c d) (fun ys k => by unfold m_laws_heldStringS_l1; rw [decide_eq_false (by omega)]; rfl) xs hl k0 h0 h1
  refine ⟨ys, k', ?_, ?_, a3, a4⟩
  · unfold m_laws_markStringS
    rw [a1]
    rfl
  · unfold m_laws_heldStringS
    rw [a2]
    rfl

noncomputable def mk_Int64S (k : Int) : Int := (k : Int)

theorem markInt64S_step (xs : List Int) (k : Int) (i : Nat) (hi : i < xs.length) (hi9 : i ≤ 1000000000) (h0 : 0 ≤ k) (h1 : k ≤ 10000000000 - 20) : m_laws_markInt64S_l1 xs k i = some (.inl (xs.set i (mk_Int64S k), k + (1 : Nat), ((i + 1 : Nat) : Int))) := by
  unfold m_laws_markInt64S_l1
  have hs : ∀ v : Int, i < (xs.set i v).length := fun v => by rw [List.length_set]; exact hi
  simp only [decide_eq_true (by omega : (i : Int) < (xs.length : Int)), cond_true, getL_at hi, setL_of hi, getL_at (hs _), setL_of (hs _), List.getElem_set_self, List.set_set, Option.bind_some, remI_3, chk_in (by omega : -9000000000000000000 ≤ k + 1) (by omega), chk_succ (by omega : i ≤ 8000000000000000000)]
  refine congrArg some (congrArg Sum.inl (Prod.ext rfl (Prod.ext ?_ rfl)))
  show _ = k + (1 : Nat)
  push_cast
  omega

theorem heldInt64S_step (ys : List Int) (k : Int) (i : Nat) (hy : ys[i]? = some (mk_Int64S k)) (hi9 : i ≤ 1000000000) (h0 : 0 ≤ k) (h1 : k ≤ 10000000000 - 20) : m_laws_heldInt64S_l1 ys k i = some (.inl (k + (1 : Nat), ((i + 1 : Nat) : Int))) := by
  have hi : i < ys.length := (List.getElem?_eq_some_iff.1 hy).1
  unfold m_laws_heldInt64S_l1
  simp only [decide_eq_true (by omega : (i : Int) < (ys.length : Int)), cond_true, cond_false, getL_nat, hy, mk_Int64S, bne_self_eq_false, Option.bind_some, remI_3, chk_in (by omega : -9000000000000000000 ≤ k + 1) (by omega), chk_succ (by omega : i ≤ 8000000000000000000)]
  refine congrArg some (congrArg Sum.inl (Prod.ext ?_ rfl))
  show _ = k + (1 : Nat)
  push_cast
  omega

theorem marksInt64S (xs : List Int) (hl : xs.length ≤ 100000000) (k0 : Int) (h0 : 0 ≤ k0) (h1 : k0 ≤ 5000000000) : ∃ (ys : List Int) (k' : Int), m_laws_markInt64S xs k0 = some (k', ys) ∧ m_laws_heldInt64S ys k0 = some k' ∧ 0 ≤ k' ∧ k' ≤ k0 + 20 * xs.length := by
  obtain ⟨ys, k', a1, a2, a3, a4⟩ := marks_both m_laws_markInt64S_l1 m_laws_heldInt64S_l1 mk_Int64S 1 (by omega) (fun xs k i a b c d => markInt64S_step xs k i a b c d)
    (fun xs k => by unfold m_laws_markInt64S_l1; rw [decide_eq_false (by omega)]; rfl) (fun ys k i a b c d => heldInt64S_step ys k i a b c d) (fun ys k => by unfold m_laws_heldInt64S_l1; rw [decide_eq_false (by omega)]; rfl) xs hl k0 h0 h1
  refine ⟨ys, k', ?_, ?_, a3, a4⟩
  · unfold m_laws_markInt64S
    rw [a1]
    rfl
  · unfold m_laws_heldInt64S
    rw [a2]
    rfl

end Go.Proofs.Ytgmikhdealhlfaa
