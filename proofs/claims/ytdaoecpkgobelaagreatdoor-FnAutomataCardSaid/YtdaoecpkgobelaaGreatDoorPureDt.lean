/- The text of an automaton, written and read back. -/
import Derived.Test.YtdaoecpkgobelaaGreatDoorPureM3
import Derived.Test.YtdaoecpkgobelaaGreatDoorPureLa
import Derived.Test.YtdaoecpkgobelaaGreatDoorPureS
namespace Go.Proofs.YtdaoecpkgobelaaGreatDoor
open Go Go.RowKit
set_option linter.unusedSimpArgs false
set_option linter.unusedVariables false

theorem sm_nat {c : UInt8} : smB c = true ↔ 97 ≤ c.toNat ∧ c.toNat ≤ 122 := by
  unfold smB
  simp only [Bool.and_eq_true, decide_eq_true_eq, UInt8.le_iff_toNat_le]
  exact Iff.rfl

theorem form_nat {c : UInt8} (h : formB c = true) : 62 ≤ c.toNat ∧ c.toNat ≤ 122 ∧ (c.toNat = 62 ∨ 97 ≤ c.toNat) := by
  unfold formB at h
  rcases Bool.or_eq_true_iff.1 h with h1 | h1
  · have := sm_nat.1 h1; omega
  · have : c = 62 := by simpa using h1
    subst this
    exact ⟨by decide, by decide, .inl rfl⟩

/-- A node has at most 27 letters. -/
theorem NodeOk.few {n : Nat} {x : Node} (h : NodeOk n x) : x.Letters.length ≤ 27 := by
  have hf : ∀ i (hi : i < x.Letters.length), 62 ≤ x.Letters[i].toNat ∧ x.Letters[i].toNat ≤ 122 ∧ (x.Letters[i].toNat = 62 ∨ 97 ≤ x.Letters[i].toNat) := fun i hi => form_nat (h.form _ (List.getElem_mem hi))
  have key : ∀ i (hi : i + 1 < x.Letters.length), 97 + i ≤ x.Letters[i + 1].toNat := by
    intro i
    induction i with
    | zero =>
      intro hi
      have h1 := UInt8.lt_iff_toNat_lt.1 (h.inc 0 hi)
      have h2 := hf 0 (by omega)
      have h3 := hf 1 hi
      simp only [Nat.zero_add] at h1 ⊢
      omega
    | succ i ih =>
      intro hi
      have h1 := UInt8.lt_iff_toNat_lt.1 (h.inc (i + 1) hi)
      have h2 := ih (by omega)
      omega
  rcases Nat.lt_or_ge 27 x.Letters.length with h1 | h1
  · have h2 := key 26 (by omega)
    have h3 := hf 27 (by omega)
    simp only [Nat.reduceAdd] at h2
    omega
  · exact h1

def edgeT (e : UInt8 × Int) : Str := e.1 :: Lib.itoa e.2

def edgesL (x : Node) : List (UInt8 × Int) := x.Letters.zip x.Next

def signT (b : Bool) : Str := bif b then [43] else [45]

def lineT (x : Node) : Str := Lib.join (signT x.Final :: (edgesL x).map edgeT) [32]

def nodeT (x : Node) : Str := lineT x ++ [10]

def textD (D : List Node) : Str := (D.map nodeT).flatten

def tailE (es : List (UInt8 × Int)) : Str := (es.map fun e => 32 :: edgeT e).flatten

theorem join_flat (c : UInt8) : ∀ (ws : List Str) (p : Str), Lib.join (p :: ws) [c] = p ++ (ws.map (c :: ·)).flatten
  | [], p => by rw [Lib.join_one]; simp
  | w :: ws, p => by rw [join_cons2 _ _ _ (by simp), join_flat c ws w]; simp

theorem lineT_eq (x : Node) : lineT x = signT x.Final ++ tailE (edgesL x) := by
  unfold lineT tailE
  rw [join_flat, List.map_map]
  rfl

theorem tailE_take (es : List (UInt8 × Int)) (i : Nat) (hi : i < es.length) : tailE (es.take (i + 1)) = tailE (es.take i) ++ (32 :: edgeT es[i]) := by
  unfold tailE
  rw [List.take_add_one, List.getElem?_eq_getElem hi, List.map_append, List.flatten_append]
  simp

theorem tailE_len : ∀ (es : List (UInt8 × Int)), (∀ e ∈ es, R64 e.2) → (tailE es).length ≤ 23 * es.length
  | [], _ => by simp [tailE]
  | e :: es, h => by
    have h1 := itoa_le (h e List.mem_cons_self)
    have h2 := tailE_len es fun q hq => h q (List.mem_cons_of_mem _ hq)
    unfold tailE at h2 ⊢
    rw [List.map_cons, List.flatten_cons, List.length_append]
    unfold edgeT at h2 ⊢
    simp only [List.length_cons] at h2 ⊢
    omega

theorem edges_R {n : Nat} {x : Node} (h : NodeOk n x) (hn : n ≤ 3000) : ∀ e ∈ edgesL x, R64 e.2 ∧ 0 ≤ e.2 ∧ e.2 < 3000 ∧ formB e.1 = true := fun e he => by
  obtain ⟨q1, q2⟩ := h.next e.2 (List.of_mem_zip (show (e.1, e.2) ∈ x.Letters.zip x.Next from he)).2
  have q3 := h.form e.1 (List.of_mem_zip (show (e.1, e.2) ∈ x.Letters.zip x.Next from he)).1
  exact ⟨⟨by omega, by omega⟩, q1, by omega, q3⟩

theorem edges_len {n : Nat} {x : Node} (h : NodeOk n x) : (edgesL x).length = x.Next.length ∧ (edgesL x).length ≤ 27 := by
  have := h.few
  have h2 := h.len
  unfold edgesL
  rw [List.length_zip]
  omega

theorem signT_len (b : Bool) : (signT b).length = 1 := by cases b <;> rfl

theorem lineT_len {n : Nat} {x : Node} (h : NodeOk n x) (hn : n ≤ 3000) : (lineT x).length ≤ 622 := by
  have h1 := tailE_len (edgesL x) fun e he => (edges_R h hn e he).1
  have h2 := (edges_len h).2
  rw [lineT_eq, List.length_append, signT_len]
  omega

theorem textD_take (D : List Node) (i : Nat) (hi : i < D.length) : textD (D.take (i + 1)) = textD (D.take i) ++ nodeT D[i] := by
  unfold textD
  rw [List.take_add_one, List.getElem?_eq_getElem hi, List.map_append, List.flatten_append]
  simp

theorem textD_len (n : Nat) (hn : n ≤ 3000) : ∀ D : List Node, (∀ x ∈ D, NodeOk n x) → (textD D).length ≤ 623 * D.length
  | [], _ => by simp [textD]
  | x :: D, h => by
    have h1 := lineT_len (h x List.mem_cons_self) hn
    have h2 := textD_len n hn D fun q hq => h q (List.mem_cons_of_mem _ hq)
    unfold textD at h2 ⊢
    rw [List.map_cons, List.flatten_cons, List.length_append]
    unfold nodeT at h2 ⊢
    simp only [List.length_append, List.length_cons, List.length_nil] at h2 ⊢
    omega

theorem wrS_eq (x s : Str) (h : x.length + s.length ≤ 100000000) : m_strings_Builder_WriteString x s = some ((s.length : Int), (), x ++ s) := by
  unfold m_strings_Builder_WriteString m_strings_Builder_copyCheck
  rw [Option.bind_some, catL_of h]
  rfl

theorem wrB_eq (x : Str) (c : UInt8) (h : x.length + 1 ≤ 100000000) : m_strings_Builder_WriteByte x c = some ((), x ++ [c]) := by
  unfold m_strings_Builder_WriteByte m_strings_Builder_copyCheck
  rw [Option.bind_some, catL_of h]
  rfl

theorem text_inner {n : Nat} {x : Node} (h : NodeOk n x) (hn : n ≤ 3000) (xs : Str) (hl : xs.length ≤ 90000000) : loopM (fun s : Str × Int => m_impl_DawgText_l2 x s.1 s.2) (xs, 0) = some (xs ++ tailE (edgesL x)) := by
  have hr := edges_R h hn
  obtain ⟨e1, e2⟩ := edges_len h
  have hlen := h.len
  have hrun := loop_run (step := fun s : Str × Int => m_impl_DawgText_l2 x s.1 s.2) (fun i => (xs ++ tailE ((edgesL x).take i), (i : Int))) (edgesL x).length (xs ++ tailE (edgesL x)) (fun i hi => by
      have hi1 : i < x.Next.length := by omega
      have hi2 : i < x.Letters.length := by omega
      have ht := tailE_len ((edgesL x).take i) fun e he => (hr e (List.mem_of_mem_take he)).1
      have ht2 : ((edgesL x).take i).length ≤ 27 := by rw [List.length_take]; omega
      have hR := (hr _ (List.getElem_mem hi)).1
      have he : (edgesL x)[i] = (x.Letters[i], x.Next[i]) := List.getElem_zip
      rw [he] at hR
      have hi3 := itoa_le hR
      have hs : subL x.Letters (i : Int) (((i + 1 : Nat)) : Int) = some [x.Letters[i]] := by
        rw [subL_of (by omega) (by omega) (by omega)]
        simp only [Int.toNat_natCast]
        rw [List.drop_eq_getElem_cons hi2, show i + 1 - i = 1 by omega]
        rfl
      show m_impl_DawgText_l2 x (xs ++ tailE ((edgesL x).take i)) (i : Int) = _
      unfold m_impl_DawgText_l2
      simp only at hi3
      rw [decide_eq_true (by omega : (i : Int) < x.Next.length), cond_true, getL_at hi1, Option.bind_some, chk_succ (by omega), Option.bind_some, hs, Option.bind_some, catL_of (by simp), Option.bind_some, Decimal_eq, Option.bind_some, catL_of (by simp; omega), Option.bind_some, wrS_eq _ _ (by simp; omega), Option.bind_some, Option.bind_some, tailE_take _ i hi, he]
      simp [edgeT])
    (by
      show m_impl_DawgText_l2 x _ ((edgesL x).length : Int) = _
      unfold m_impl_DawgText_l2
      rw [decide_eq_false (by omega), cond_false, List.take_length]) 0 (Nat.zero_le _)
  have h0 : (xs ++ tailE ((edgesL x).take 0), ((0 : Nat) : Int)) = (xs, 0) := by simp [tailE]
  rw [h0] at hrun
  exact hrun

theorem DawgText_eq {D : List Node} (hG : GoodD D) (hlen : ∀ x ∈ D, x.Next.length ≤ 2000000) : m_impl_DawgText ⟨D⟩ = some (textD D) := by
  have hmax := hG.shape.max
  have hok := hG.shape.node
  unfold m_impl_DawgText
  rw [(valid_val hG hlen).1, Option.bind_some, Bool.not_true, cond_false]
  have hrun := loop_run (step := fun s : Str × Int => m_impl_DawgText_l1 ⟨D⟩ s.1 s.2) (fun i => (textD (D.take i), (i : Int))) D.length (textD D) (fun i hi => by
      have hx := hok _ (List.getElem_mem hi)
      have ht := textD_len D.length hmax (D.take i) fun q hq => hok q (List.mem_of_mem_take hq)
      have ht2 : (D.take i).length ≤ 3000 := by rw [List.length_take]; omega
      have hl := lineT_len hx hmax
      have hle : (signT D[i].Final).length + (tailE (edgesL D[i])).length ≤ 622 := by rw [lineT_eq, List.length_append] at hl; exact hl
      have hsg := signT_len D[i].Final
      show m_impl_DawgText_l1 ⟨D⟩ (textD (D.take i)) (i : Int) = _
      unfold m_impl_DawgText_l1
      show (bif decide ((i : Int) < (D.length : Int)) then (((getL D (i : Int)).bind _).bind _) else _) = _
      rw [decide_eq_true (by omega : (i : Int) < D.length), cond_true, getL_at hi, Option.bind_some]
      have hsig : (bif D[i].Final then (m_strings_Builder_WriteByte (textD (D.take i)) 43).bind fun y80 => some y80.2 else (m_strings_Builder_WriteByte (textD (D.take i)) 45).bind fun y90 => some y90.2 : Option Str) = some (textD (D.take i) ++ signT D[i].Final) := by
        rw [wrB_eq _ _ (by omega), wrB_eq _ _ (by omega)]
        cases D[i].Final <;> rfl
      rw [hsig, Option.bind_some, text_inner hx hmax _ (by simp; omega), Option.bind_some, Option.bind_some, wrB_eq _ _ (by simp; omega), Option.bind_some, Option.bind_some, chk_succ (by omega), Option.bind_some, textD_take D i hi]
      unfold nodeT
      rw [lineT_eq]
      simp)
    (by
      show m_impl_DawgText_l1 ⟨D⟩ _ (D.length : Int) = _
      unfold m_impl_DawgText_l1
      show (bif decide ((D.length : Int) < (D.length : Int)) then _ else _) = _
      rw [decide_eq_false (by omega), cond_false, List.take_length]) 0 (Nat.zero_le _)
  have h0 : (textD (D.take 0), ((0 : Nat) : Int)) = (([] : Str), 0) := rfl
  rw [h0] at hrun
  rw [hrun, Option.bind_some, Option.bind_some]
  rfl

/-! ### Reading -/

theorem lines_tail : ∀ D : List Node, [10] ++ (D.map nodeT).flatten = ((D.map lineT).map ((10 : UInt8) :: ·)).flatten ++ [10]
  | [] => rfl
  | x :: D => by
    have ih := lines_tail D
    rw [List.map_cons, List.flatten_cons, List.map_cons, List.map_cons, List.flatten_cons]
    have e : nodeT x ++ (D.map nodeT).flatten = lineT x ++ ([10] ++ (D.map nodeT).flatten) := by unfold nodeT; simp
    rw [e, ih]
    simp

theorem textD_lines {D : List Node} (h : D ≠ []) : textD D = Lib.join (D.map lineT) [10] ++ [10] := by
  obtain ⟨x, t, rfl⟩ := List.exists_cons_of_ne_nil h
  have ih := lines_tail t
  unfold textD
  rw [List.map_cons, List.map_cons, List.flatten_cons, join_flat]
  have e : nodeT x ++ (t.map nodeT).flatten = lineT x ++ ([10] ++ (t.map nodeT).flatten) := by unfold nodeT; simp
  rw [e, ih]
  simp

theorem dgB_nat {c : UInt8} (h : dgB c = true) : 48 ≤ c.toNat ∧ c.toNat ≤ 57 := dgB_iff.1 h

theorem edgeT_no {e : UInt8 × Int} (h0 : 0 ≤ e.2) (hf : formB e.1 = true) (c : UInt8) (hc : c.toNat < 48) : c ∉ edgeT e := fun hm => by
  unfold edgeT at hm
  rcases List.mem_cons.1 hm with h | h
  · have := form_nat hf
    rw [← h] at this
    omega
  · have := dgB_nat (itoa_dgs h0 c h)
    omega

theorem signT_no (b : Bool) {c : UInt8} (h : c = 10 ∨ c = 32) : c ∉ signT b := by
  rcases h with rfl | rfl <;> cases b <;> decide

theorem lineT_no10 {n : Nat} {x : Node} (h : NodeOk n x) (hn : n ≤ 3000) : (10 : UInt8) ∉ lineT x := fun hm => by
  rw [lineT_eq, List.mem_append] at hm
  rcases hm with hm | hm
  · exact signT_no _ (.inl rfl) hm
  · unfold tailE at hm
    obtain ⟨l, hl, hc⟩ := List.mem_flatten.1 hm
    obtain ⟨e, he, rfl⟩ := List.mem_map.1 hl
    obtain ⟨_, h0, _, hf⟩ := edges_R h hn e he
    rcases List.mem_cons.1 hc with h1 | h1
    · exact absurd h1 (by decide)
    · exact edgeT_no h0 hf 10 (by decide) h1

theorem line_words {n : Nat} {x : Node} (h : NodeOk n x) (hn : n ≤ 3000) : splitC 32 (lineT x) = signT x.Final :: (edgesL x).map edgeT := by
  unfold lineT
  refine splitC_join 32 _ (by simp) fun y hy => ?_
  rcases List.mem_cons.1 hy with rfl | hy
  · exact signT_no _ (.inr rfl)
  · obtain ⟨e, he, rfl⟩ := List.mem_map.1 hy
    obtain ⟨_, h0, _, hf⟩ := edges_R h hn e he
    exact edgeT_no h0 hf 32 (by decide)

theorem linesOf_text {D : List Node} (h : D ≠ []) (hT : (textD D).length ≤ 1000000) (hno : ∀ x ∈ D, (10 : UInt8) ∉ lineT x) : m_impl_linesOf (textD D) = some (D.map lineT, true) := by
  rw [textD_lines h] at hT ⊢
  have hJ : (Lib.join (D.map lineT) [10]).length ≤ 1000000 := by simp at hT; omega
  have hsp : splitC 10 (Lib.join (D.map lineT) [10]) = D.map lineT := splitC_join 10 _ (by simpa using h) fun y hy => by
    obtain ⟨x, hx, rfl⟩ := List.mem_map.1 hy
    exact hno x hx
  generalize Lib.join (D.map lineT) [10] = J at hJ hsp ⊢
  unfold m_impl_linesOf m_strings_CutSuffix m_internal_stringslite_CutSuffix m_internal_stringslite_HasSuffix
  have hne : ((J ++ [10]) == ([] : Str)) = false := by rw [beq_eq_false_iff_ne]; simp
  have hlen : (J ++ [10]).length = J.length + 1 := by simp
  have hd : (J ++ [10]).drop J.length = [10] := List.drop_left' rfl
  have ht : (J ++ [10]).take J.length = J := List.take_left' rfl
  rw [hne, cond_false, decide_eq_true (by rw [hlen]; simp; omega), cond_true, chk_to ((J.length : Nat) : Int) (by rw [hlen]; simp) (by omega) (by omega), Option.bind_some, subL_of (by omega) (by rw [hlen]; omega) (Int.le_refl _), Option.bind_some, Option.bind_some, Option.bind_some]
  simp only [Int.toNat_natCast]
  rw [hd, hlen, show J.length + 1 - J.length = 1 by omega]
  show (((bif !(([10] : Str).take 1 == ([10] : Str)) then _ else _ : Option (Str × Bool))).bind _).bind _ = _
  rw [show (([10] : Str).take 1 == ([10] : Str)) = true from rfl, Bool.not_true, cond_false, Option.bind_some, subL_of (by omega) (by omega) (by rw [hlen]; omega), Option.bind_some]
  simp only [Int.toNat_natCast, Int.toNat_zero, List.drop_zero, Nat.sub_zero, Option.bind_some]
  rw [ht, Split_eq 10 J (by omega), Option.bind_some, hsp]

theorem read_inner {n : Nat} {x : Node} (h : NodeOk n x) (hn : n ≤ 3000) : loopM (fun s : Str × (List Int) × Int => m_impl_ReadDawg_l2 ((edgesL x).map edgeT) s.1 s.2.1 s.2.2) (([] : Str), ([] : (List Int)), 0) = some (.inl (x.Letters, x.Next)) := by
  have hr := edges_R h hn
  obtain ⟨e1, e2⟩ := edges_len h
  have hlen := h.len
  have hrun := loop_run (step := fun s : Str × (List Int) × Int => m_impl_ReadDawg_l2 ((edgesL x).map edgeT) s.1 s.2.1 s.2.2) (fun i => (x.Letters.take i, x.Next.take i, (i : Int))) (edgesL x).length (.inl (x.Letters, x.Next)) (fun i hi => by
      have hi1 : i < x.Next.length := by omega
      have hi2 : i < x.Letters.length := by omega
      have hi0 : i < ((edgesL x).map edgeT).length := by rw [List.length_map]; exact hi
      obtain ⟨hR, h0, h3, hf⟩ := hr _ (List.getElem_mem hi)
      have he : (edgesL x)[i] = (x.Letters[i], x.Next[i]) := List.getElem_zip
      rw [he] at hR h0 h3 hf
      simp only at hR h0 h3 hf
      have hil := itoa_le hR
      have hw : ((edgesL x).map edgeT)[i] = x.Letters[i] :: Lib.itoa x.Next[i] := by rw [List.getElem_map, he]; rfl
      have htl : (x.Letters.take i).length = i := by rw [List.length_take]; omega
      have htn : (x.Next.take i).length = i := by rw [List.length_take]; omega
      show m_impl_ReadDawg_l2 ((edgesL x).map edgeT) (x.Letters.take i) (x.Next.take i) (i : Int) = _
      unfold m_impl_ReadDawg_l2
      rw [decide_eq_true (by omega : (i : Int) < ((edgesL x).map edgeT).length), cond_true, getL_at hi0, Option.bind_some, hw, htl]
      have hne : ((x.Letters[i] :: Lib.itoa x.Next[i]) == ([] : Str)) = false := rfl
      rw [hne, cond_false, decide_eq_false (by omega : ¬ (27 : Int) < (i : Int)), Option.bind_some, cond_false, subL_of (by omega) (by rw [List.length_cons]; omega) (Int.le_refl _), Option.bind_some, List.length_cons]
      have hd : ((x.Letters[i] :: Lib.itoa x.Next[i]).drop (1 : Int).toNat).take ((((Lib.itoa x.Next[i]).length + 1 : Nat) : Int).toNat - (1 : Int).toNat) = Lib.itoa x.Next[i] := by
        rw [List.take_of_length_le (by rw [List.length_drop, List.length_cons]; omega)]
        rfl
      rw [hd, ReadDecimal_eq _ (by omega), Option.bind_some, rdD_itoa h0 (by omega), subL_of (by omega) (by omega) (by rw [List.length_cons]; omega), Option.bind_some]
      have ht1 : ((x.Letters[i] :: Lib.itoa x.Next[i]).drop (0 : Int).toNat).take ((1 : Int).toNat - (0 : Int).toNat) = [x.Letters[i]] := rfl
      rw [ht1, catL_of (by rw [htl, List.length_singleton]; omega), Option.bind_some, catL_of (by rw [htn, List.length_singleton]; omega), Option.bind_some, chk_succ (by omega), Option.bind_some]
      rw [List.take_add_one, List.take_add_one, List.getElem?_eq_getElem hi2, List.getElem?_eq_getElem hi1]
      rfl)
    (by
      show m_impl_ReadDawg_l2 ((edgesL x).map edgeT) (x.Letters.take (edgesL x).length) (x.Next.take (edgesL x).length) ((edgesL x).length : Int) = _
      unfold m_impl_ReadDawg_l2
      rw [decide_eq_false (by rw [List.length_map]; omega), cond_false, List.take_of_length_le (by omega), List.take_of_length_le (by omega)]) 0 (Nat.zero_le _)
  exact hrun

theorem ReadDawg_text {D : List Node} (hG : GoodD D) (hlen : ∀ x ∈ D, x.Next.length ≤ 2000000) (hT : (textD D).length ≤ 1000000) : m_impl_ReadDawg (textD D) = some (⟨D⟩, true) := by
  have hmax := hG.shape.max
  have hok := hG.shape.node
  have hne : D ≠ [] := by intro e; have := hG.shape.pos; rw [e] at this; simp at this
  unfold m_impl_ReadDawg
  rw [linesOf_text hne hT fun x hx => lineT_no10 (hok x hx) hmax, Option.bind_some]
  simp only [Bool.not_true, cond_false, Option.bind_some, List.length_map]
  rw [decide_eq_false (by omega : ¬ (3000 : Int) < (D.length : Int)), cond_false]
  have hrun := loop_run (step := fun s : (List Node) × Int => m_impl_ReadDawg_l1 (D.map lineT, true) s.1 s.2) (fun i => (D.take i, (i : Int))) D.length (.inl D) (fun i hi => by
      have hx := hok _ (List.getElem_mem hi)
      have hl := lineT_len hx hmax
      have hi0 : i < (D.map lineT).length := by rw [List.length_map]; exact hi
      have hw : (D.map lineT)[i] = lineT D[i] := by rw [List.getElem_map]
      have htl : (D.take i).length = i := by rw [List.length_take]; omega
      obtain ⟨e1, e2⟩ := edges_len hx
      show m_impl_ReadDawg_l1 (D.map lineT, true) (D.take i) (i : Int) = _
      unfold m_impl_ReadDawg_l1
      dsimp only
      rw [decide_eq_true (by omega : (i : Int) < (D.map lineT).length), cond_true, getL_at hi0, Option.bind_some, hw, Split_eq 32 _ (by omega), Option.bind_some, line_words hx hmax]
      have g0 : getL (signT D[i].Final :: (edgesL D[i]).map edgeT) 0 = some (signT D[i].Final) := rfl
      have gs : subL (signT D[i].Final :: (edgesL D[i]).map edgeT) 1 ((signT D[i].Final :: (edgesL D[i]).map edgeT).length : Int) = some ((edgesL D[i]).map edgeT) := by
        rw [subL_of (by omega) (by rw [List.length_cons]; omega) (Int.le_refl _), List.take_of_length_le (by rw [List.length_drop, List.length_cons]; omega)]
        rfl
      rw [g0, Option.bind_some, gs, Option.bind_some, read_inner hx hmax, Option.bind_some, Option.bind_some]
      dsimp only
      rw [catL_of (by rw [htl, List.length_singleton]; omega), Option.bind_some, Option.bind_some]
      dsimp only
      rw [chk_succ (by omega), Option.bind_some, List.take_add_one, List.getElem?_eq_getElem hi]
      have hsg : (signT D[i].Final == ([43] : Str)) = D[i].Final := by cases D[i].Final <;> rfl
      rw [hsg]
      rfl)
    (by
      show m_impl_ReadDawg_l1 (D.map lineT, true) _ (D.length : Int) = _
      unfold m_impl_ReadDawg_l1
      show (bif decide ((D.length : Int) < ((D.map lineT).length : Int)) then _ else _) = _
      rw [decide_eq_false (by rw [List.length_map]; omega), cond_false, List.take_length]) 0 (Nat.zero_le _)
  have h0 : ((D.take 0), ((0 : Nat) : Int)) = (([] : List Node), 0) := rfl
  rw [h0] at hrun
  rw [hrun, Option.bind_some]
  simp only [Option.bind_some]
  rw [(valid_val hG hlen).1, Option.bind_some, Bool.not_true, cond_false, DawgText_eq hG hlen, Option.bind_some, bne_self_eq_false]
  rfl

end Go.Proofs.YtdaoecpkgobelaaGreatDoor
