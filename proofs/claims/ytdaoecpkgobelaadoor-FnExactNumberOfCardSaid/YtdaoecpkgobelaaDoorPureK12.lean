/- Steps of an automaton, by letters and by words: program and reference. -/
import Derived.Test.YtdaoecpkgobelaaDoorPureK11
namespace Go.Proofs.YtdaoecpkgobelaaDoor
open Go Go.RowKit
set_option linter.unusedSimpArgs false
set_option linter.unusedVariables false

/-- The node behind a letter. -/
def edgeA (nd : Nat → Bool × List (UInt8 × Nat)) (k : Nat) (c : UInt8) : Option Nat := ((nd k).2.find? fun e => e.1 == c).map (·.2)
/-- The node behind letters. -/
def afterA (nd : Nat → Bool × List (UInt8 × Nat)) : Nat → Str → Option Nat
  | k, [] => some k
  | k, c :: s => (edgeA nd k c).bind fun j => afterA nd j s
def optI (o : Option Nat) : Int := match o with | some k => (k : Int) | none => -1
/-- The first place of a letter. -/
theorem find_zip : ∀ (l : Str) (t : List Nat) (c : UInt8) (i : Nat) (h : i < l.length) (ht : i < t.length), l[i] = c → (∀ j (hj : j < l.length), j < i → l[j] ≠ c) → ((l.zip t).find? fun e => e.1 == c).map (·.2) = some t[i]
  | [], _, _, _, h, _, _, _ => by cases h
  | _ :: _, [], _, _, _, ht, _, _ => by cases ht
  | a :: l, b :: t, c, i, h, ht, he, hno => by
    rw [List.zip_cons_cons, List.find?_cons]
    cases i with
    | zero =>
      have : (a == c) = true := by simpa using he
      simp only [this]
      rfl
    | succ i =>
      have h0 : (a == c) = false := by
        rw [beq_eq_false_iff_ne]
        exact hno 0 (by simp) (by omega)
      simp only [h0]
      exact find_zip l t c i (by simpa using h) (by simpa using ht) (by simpa using he) fun j hj hji => by
        have := hno (j + 1) (by simpa using hj) (by omega)
        simpa using this
theorem find_none {l : Str} {t : List Nat} {c : UInt8} (h : ∀ j (hj : j < l.length), l[j] ≠ c) : ((l.zip t).find? fun e => e.1 == c).map (·.2) = none := by
  rw [Option.map_eq_none_iff, List.find?_eq_none]
  intro e he
  have := (List.of_mem_zip (he : (e.1, e.2) ∈ _)).1
  obtain ⟨j, hj, e1⟩ := List.mem_iff_getElem.1 this
  rw [← e1]
  simpa using h j hj

theorem step_eq (d : Dawg) (hD : ShapeOk d.Nodes) (hlen : ∀ x ∈ d.Nodes, x.Next.length ≤ 2000000) {k : Nat} (hk : k < d.Nodes.length) (c : UInt8) : m_impl_Dawg_step d (k : Int) c = some (optI (edgeA (ndD d.Nodes) k c)) := by
  have hmax := hD.max
  have hx := hD.node _ (List.getElem_mem hk)
  unfold m_impl_Dawg_step
  rw [show chk ((d.Nodes.length : Int) - 1) = some ((d.Nodes.length : Int) - 1) from chk_in (by omega) (by omega), Option.bind_some, bind_of (within_eq _ _ _), show inB (k : Int) 0 ((d.Nodes.length : Int) - 1) = true from inB_iff.2 ⟨by omega, by omega⟩, Bool.not_true, cond_false, bind_of (getL_at hk)]
  unfold edgeA
  rw [ndD_at hk]
  generalize d.Nodes[k] = x at hx
  show ((some (Lib.indexByte x.Letters c)).bind _) = _
  rw [Option.bind_some]
  rcases Int.lt_or_le (Lib.indexByte x.Letters c) 0 with hneg | hpos
  · have hm : Lib.indexByte x.Letters c = -1 := by have := Lib.indexByte_ge x.Letters c; omega
    have hno := Lib.indexByte_none hm
    rw [hm, decide_eq_false (by omega), cond_false]
    show _ = some (optI ((((x.Letters.zip (x.Next.map Int.toNat)).find? fun e => e.1 == c).map (·.2))))
    rw [find_none fun j hj e => hno j (by rw [List.getElem?_eq_getElem hj, e])]
    rfl
  · obtain ⟨o, ho⟩ : ∃ o : Nat, Lib.indexByte x.Letters c = (o : Int) := ⟨(Lib.indexByte x.Letters c).toNat, by omega⟩
    obtain ⟨h1, h2⟩ := Lib.indexByte_some ho
    obtain ⟨h3, h4⟩ := List.getElem?_eq_some_iff.1 h1
    have hol : o < x.Next.length := by rw [← hx.len]; exact h3
    rw [ho, decide_eq_true (by omega), cond_true, bind_of (getL_at hol)]
    show _ = some (optI ((((x.Letters.zip (x.Next.map Int.toNat)).find? fun e => e.1 == c).map (·.2))))
    rw [find_zip x.Letters (x.Next.map Int.toNat) c o h3 (by rw [List.length_map]; exact hol) h4 fun j hj hji e => h2 j hji (by rw [List.getElem?_eq_getElem hj, e])]
    have hn := hx.next _ (List.getElem_mem hol)
    rw [List.getElem_map]
    show some x.Next[o] = some ((x.Next[o].toNat : Nat) : Int)
    rw [Int.toNat_of_nonneg hn.1]
theorem stepS_eq (d : Dawg) (hD : ShapeOk d.Nodes) (hlen : ∀ x ∈ d.Nodes, x.Next.length ≤ 2000000) {k : Nat} (hk : k < d.Nodes.length) (c : UInt8) : m_spec_l06Step d (k : Int) c = some (optI (edgeA (ndD d.Nodes) k c)) := by
  have hx := hD.node _ (List.getElem_mem hk)
  have hxl := hlen _ (List.getElem_mem hk)
  unfold m_spec_l06Step
  rw [bind_of (getL_at hk)]
  unfold edgeA
  rw [ndD_at hk]
  generalize d.Nodes[k] = x at hx hxl
  have key : ∀ (m i : Nat), i + m = x.Letters.length → (∀ j (hj : j < x.Letters.length), j < i → x.Letters[j] ≠ c) →
      (((loopM (fun s : Int => m_spec_l06Step_l1 x c s) (i : Int)).bind fun x29 => match x29 with | .inl _ => some (.inl ()) | .inr r62 => some (.inr r62) : Option (Unit ⊕ Int)).bind fun x24 => match x24 with | .inl _ => some (-1) | .inr r65 => some r65) =
        some (optI ((((x.Letters.zip (x.Next.map Int.toNat)).find? fun e => e.1 == c).map (·.2)))) := by
    intro m
    induction m with
    | zero =>
      intro i hi hno
      have hst : m_spec_l06Step_l1 x c (i : Int) = some (.inr (.inl ())) := by
        unfold m_spec_l06Step_l1
        rw [decide_eq_false (show ¬ (i : Int) < (x.Letters.length : Int) by omega)]; rfl
      rw [loopM_done (step := fun s : Int => m_spec_l06Step_l1 x c s) hst, find_none fun j hj => hno j hj (by omega)]
      rfl
    | succ m ih =>
      intro i hi hno
      have hil : i < x.Letters.length := by omega
      have hin : i < x.Next.length := by rw [← hx.len]; exact hil
      have hst : m_spec_l06Step_l1 x c (i : Int) = some (bif x.Letters[i] == c then .inr (.inr x.Next[i]) else .inl (((i + 1 : Nat)) : Int)) := by
        unfold m_spec_l06Step_l1
        rw [chk_succ (show i ≤ 8000000000000000000 by omega), decide_eq_true (show (i : Int) < (x.Letters.length : Int) by omega), cond_true, decide_eq_true (show (i : Int) < (x.Next.length : Int) by omega), Option.bind_some, cond_true, bind_of (getL_at hil), bind_of (getL_at hin)]
        cases x.Letters[i] == c <;> rfl
      by_cases hc : x.Letters[i] = c
      · rw [show (x.Letters[i] == c) = true by simpa using hc, cond_true] at hst
        rw [loopM_done (step := fun s : Int => m_spec_l06Step_l1 x c s) hst, find_zip x.Letters (x.Next.map Int.toNat) c i hil (by rw [List.length_map]; exact hin) hc hno]
        have hn := hx.next _ (List.getElem_mem hin)
        show some x.Next[i] = _
        rw [List.getElem_map]
        show some x.Next[i] = some ((x.Next[i].toNat : Nat) : Int)
        rw [Int.toNat_of_nonneg hn.1]
      · rw [show (x.Letters[i] == c) = false by simpa using hc, cond_false] at hst
        rw [loopM_next (step := fun s : Int => m_spec_l06Step_l1 x c s) hst]
        refine ih (i + 1) (by omega) fun j hj hji => ?_
        rcases Nat.lt_or_ge j i with h' | h'
        · exact hno j hj h'
        · obtain rfl : j = i := by omega
          exact hc
  exact key x.Letters.length 0 (by omega) fun j hj h => by omega
theorem edgeA_lt {D : List Node} (hD : ShapeOk D) {k : Nat} {c : UInt8} {j : Nat} (h : edgeA (ndD D) k c = some j) : j < D.length := by
  unfold edgeA at h
  rw [Option.map_eq_some_iff] at h
  obtain ⟨e, he, rfl⟩ := h
  exact hD.edge_lt e (List.mem_of_find?_eq_some he)
theorem after_loop {step : Int → UInt8 → Option Int} {nd : Nat → Bool × List (UInt8 × Nat)} {n : Nat} (hst : ∀ k, k < n → ∀ c, step (k : Int) c = some (optI (edgeA nd k c))) (hlt : ∀ k c j, edgeA nd k c = some j → j < n)
    (s : Str) (hs : s.length ≤ 8000000000000000000) (body : Int → Int → Option ((Int × Int) ⊕ Int))
    (hb : ∀ (z : Int) (i : Nat), body z (i : Int) = if h : i < s.length then (if 0 ≤ z then ((step z s[i]).bind fun y => some (.inl (y, (((i + 1 : Nat)) : Int)))) else some (.inr z)) else some (.inr z)) :
    ∀ (m i : Nat) (k : Nat), i + m = s.length → k < n → loopM (fun q : Int × Int => body q.1 q.2) ((k : Int), (i : Int)) = some (optI (afterA nd k (s.drop i)))
  | 0, i, k, hi, hk => by
    rw [Nat.add_zero] at hi
    rw [List.drop_of_length_le (by omega)]
    refine loopM_done ?_
    show body (k : Int) (i : Int) = _
    rw [hb, dif_neg (by omega)]; rfl
  | m + 1, i, k, hi, hk => by
    have hil : i < s.length := by omega
    have hstep : body (k : Int) (i : Int) = some (.inl (optI (edgeA nd k s[i]), (((i + 1 : Nat)) : Int))) := by
      rw [hb, dif_pos hil, if_pos (by omega), hst k hk]; rfl
    rw [loopM_next (step := fun q : Int × Int => body q.1 q.2) hstep, List.drop_eq_getElem_cons hil, afterA]
    cases he : edgeA nd k s[i] with
    | some j => exact after_loop hst hlt s hs body hb m (i + 1) j (by omega) (hlt _ _ _ he)
    | none =>
      refine loopM_done ?_
      show body (-1) (((i + 1 : Nat)) : Int) = _
      rw [hb]
      split
      · rfl
      · rfl
theorem after_eq (d : Dawg) (hD : ShapeOk d.Nodes) (hlen : ∀ x ∈ d.Nodes, x.Next.length ≤ 2000000) (s : Str) (hs : s.length ≤ 8000000000000000000) : m_impl_Dawg_after d s = some (optI (afterA (ndD d.Nodes) 0 s)) := by
  have h0 : 0 < d.Nodes.length := hD.pos
  unfold m_impl_Dawg_after
  have := after_loop (step := m_impl_Dawg_step d) (fun k hk c => step_eq d hD hlen hk c) (fun k c j h => edgeA_lt hD h) s hs (fun z i => m_impl_Dawg_after_l1 s d z i) (fun z i => by
    unfold m_impl_Dawg_after_l1
    by_cases hi : i < s.length
    · rw [chk_succ (show i ≤ 8000000000000000000 by omega), decide_eq_true (show (i : Int) < (s.length : Int) by omega), cond_true, dif_pos hi]
      by_cases hz : 0 ≤ z
      · rw [decide_eq_true hz, if_pos hz, Option.bind_some, cond_true, bind_of (getL_at hi)]; rfl
      · rw [decide_eq_false hz, if_neg hz]; rfl
    · rw [decide_eq_false (show ¬ (i : Int) < (s.length : Int) by omega), dif_neg hi]; rfl) s.length 0 0 (by omega) h0
  have this' : loopM (fun q : Int × Int => m_impl_Dawg_after_l1 s d q.1 q.2) (0, 0) = some (optI (afterA (ndD d.Nodes) 0 s)) := this
  rw [this']; rfl
theorem afterS_eq (d : Dawg) (hD : ShapeOk d.Nodes) (hlen : ∀ x ∈ d.Nodes, x.Next.length ≤ 2000000) (s : Str) (hs : s.length ≤ 8000000000000000000) : m_spec_l06After d 0 s = some (optI (afterA (ndD d.Nodes) 0 s)) := by
  have h0 : 0 < d.Nodes.length := hD.pos
  unfold m_spec_l06After
  have := after_loop (step := m_spec_l06Step d) (fun k hk c => stepS_eq d hD hlen hk c) (fun k c j h => edgeA_lt hD h) s hs (fun z i => m_spec_l06After_l1 s d z i) (fun z i => by
    unfold m_spec_l06After_l1
    by_cases hi : i < s.length
    · rw [chk_succ (show i ≤ 8000000000000000000 by omega), decide_eq_true (show (i : Int) < (s.length : Int) by omega), cond_true, dif_pos hi]
      by_cases hz : 0 ≤ z
      · rw [decide_eq_true hz, if_pos hz, Option.bind_some, cond_true, bind_of (getL_at hi)]; rfl
      · rw [decide_eq_false hz, if_neg hz]; rfl
    · rw [decide_eq_false (show ¬ (i : Int) < (s.length : Int) by omega), dif_neg hi]; rfl) s.length 0 0 (by omega) h0
  have this' : loopM (fun q : Int × Int => m_spec_l06After_l1 s d q.1 q.2) (0, 0) = some (optI (afterA (ndD d.Nodes) 0 s)) := this
  rw [this']; rfl
theorem afterA_lt {D : List Node} (hD : ShapeOk D) : ∀ (s : Str) {k j : Nat}, k < D.length → afterA (ndD D) k s = some j → j < D.length
  | [], k, j, hk, h => by cases h; exact hk
  | c :: s, k, j, hk, h => by
    rw [afterA] at h
    cases he : edgeA (ndD D) k c with
    | none => rw [he] at h; cases h
    | some i => rw [he] at h; exact afterA_lt hD s (edgeA_lt hD he) h
/-- Whether a word is accepted. -/
def accA (nd : Nat → Bool × List (UInt8 × Nat)) (s : Str) : Bool := match afterA nd 0 s with | some k => (nd k).1 | none => false
theorem accepts_eq (d : Dawg) (hD : ShapeOk d.Nodes) (hlen : ∀ x ∈ d.Nodes, x.Next.length ≤ 2000000) (s : Str) (hs : s.length ≤ 8000000000000000000) : m_impl_Dawg_accepts d s = some (accA (ndD d.Nodes) s) := by
  unfold m_impl_Dawg_accepts accA
  rw [bind_of (after_eq d hD hlen s hs)]
  cases h : afterA (ndD d.Nodes) 0 s with
  | none => rfl
  | some k =>
    have hk := afterA_lt hD s hD.pos h
    show ((bif decide (0 ≤ ((k : Nat) : Int)) then (getL d.Nodes (k : Int)).bind _ else _ : Option Bool).bind _) = _
    rw [decide_eq_true (by omega), cond_true, bind_of (getL_at hk)]
    show some d.Nodes[k].Final = some ((ndD d.Nodes k).1)
    rw [ndD_at hk]; rfl
theorem acceptsS_eq (d : Dawg) (hD : ShapeOk d.Nodes) (hlen : ∀ x ∈ d.Nodes, x.Next.length ≤ 2000000) (s : Str) (hs : s.length ≤ 8000000000000000000) : m_spec_l06Accepts d s = some (accA (ndD d.Nodes) s) := by
  unfold m_spec_l06Accepts accA
  rw [bind_of (afterS_eq d hD hlen s hs)]
  cases h : afterA (ndD d.Nodes) 0 s with
  | none => rfl
  | some k =>
    have hk := afterA_lt hD s hD.pos h
    show ((bif decide (0 ≤ ((k : Nat) : Int)) then (getL d.Nodes (k : Int)).bind _ else _ : Option Bool).bind _) = _
    rw [decide_eq_true (by omega), cond_true, bind_of (getL_at hk)]
    show some d.Nodes[k].Final = some ((ndD d.Nodes k).1)
    rw [ndD_at hk]; rfl
theorem dawg_small {d : Dawg} (h : bulk_Dawg d ≤ 1048576) : ∀ x ∈ d.Nodes, x.Next.length ≤ 2000000 := fun x hx => by
  unfold bulk_Dawg bulk_NodeS at h
  have h2 : bulk_Node x ≤ bulkS (fun e => bulk_Node e) d.Nodes := bulkS_mem (fun e => bulk_Node e) hx
  have h3 : x.Next.length ≤ bulk_Node x := by unfold bulk_Node bulk_Int64S; omega
  omega

theorem AcceptsWord_eq (d : Dawg) (hlen : ∀ x ∈ d.Nodes, x.Next.length ≤ 2000000) (s : Str) (hs : s.length ≤ 8000000000000000000) : ∃ v, m_impl_AcceptsWord d s = some v ∧ m_spec_AcceptsWord d s = some v := by
  obtain ⟨r, h1, h2, h3⟩ := tests_agree d hlen
  unfold m_impl_AcceptsWord m_spec_AcceptsWord
  rw [h1, h2]
  cases r with
  | false => exact ⟨false, rfl, rfl⟩
  | true =>
    have hg := (h3.1 rfl).shape
    refine ⟨accA (ndD d.Nodes) s, ?_, ?_⟩
    · rw [Option.bind_some, cond_true, accepts_eq d hg hlen s hs]; rfl
    · rw [Option.bind_some, cond_true, acceptsS_eq d hg hlen s hs]; rfl
theorem NodeAfter_eq (d : Dawg) (hlen : ∀ x ∈ d.Nodes, x.Next.length ≤ 2000000) (s : Str) (hs : s.length ≤ 8000000000000000000) : ∃ v, m_impl_NodeAfter d s = some v ∧ m_spec_NodeAfter d s = some v := by
  obtain ⟨r, h1, h2, h3⟩ := tests_agree d hlen
  unfold m_impl_NodeAfter m_spec_NodeAfter
  rw [h1, h2]
  cases r with
  | false => exact ⟨-1, rfl, rfl⟩
  | true =>
    have hg := (h3.1 rfl).shape
    refine ⟨optI (afterA (ndD d.Nodes) 0 s), ?_, ?_⟩
    · rw [Option.bind_some, Bool.not_true, cond_false, after_eq d hg hlen s hs]; rfl
    · rw [Option.bind_some, Bool.not_true, cond_false, afterS_eq d hg hlen s hs]; rfl

end Go.Proofs.YtdaoecpkgobelaaDoor
