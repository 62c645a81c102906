/- Nodes as data of an automaton; the visit of an automaton's nodes. -/
import Derived.Test.YtdaoecpkgobelaaDoorPureK2
namespace Go.Proofs.YtdaoecpkgobelaaDoor
open Go Go.RowKit
set_option linter.unusedSimpArgs false
set_option linter.unusedVariables false

/-- A node as an automaton's. -/
def ndN (x : Node) : Bool × List (UInt8 × Nat) := (x.Final, x.Letters.zip (x.Next.map Int.toNat))
abbrev ndD (D : List Node) : Nat → Bool × List (UInt8 × Nat) := ndL (D.map ndN)
theorem ndD_at {D : List Node} {k : Nat} (h : k < D.length) : ndD D k = ndN D[k] := by
  show ((D.map ndN)[k]?).getD (false, []) = _
  rw [List.getElem?_map, List.getElem?_eq_getElem h]; rfl
theorem ndD_none {D : List Node} {k : Nat} (h : D.length ≤ k) : ndD D k = (false, []) := by
  show ((D.map ndN)[k]?).getD (false, []) = _
  rw [List.getElem?_map, List.getElem?_eq_none h]; rfl
/-- The form of a node among n. -/
structure NodeOk (n : Nat) (x : Node) : Prop where
  len : x.Letters.length = x.Next.length
  form : ∀ c ∈ x.Letters, formB c = true
  inc : ∀ i, (h : i + 1 < x.Letters.length) → x.Letters[i] < x.Letters[i + 1]
  next : ∀ t ∈ x.Next, 0 ≤ t ∧ t < (n : Int)
theorem nodeB_ok {n : Nat} {x : Node} (h : nodeB n x = true) : NodeOk n x := by
  unfold nodeB at h
  rw [Bool.and_eq_true, allI_iff, beq_iff_eq] at h
  obtain ⟨hl, h⟩ := h
  have key : ∀ i (hi : i < x.Letters.length) (hi' : i < x.Next.length), formB x.Letters[i] = true ∧ (i = 0 ∨ (x.Letters[i - 1]?).getD 0 < x.Letters[i]) ∧ 0 ≤ x.Next[i] ∧ x.Next[i] ≤ (n : Int) - 1 := by
    intro i hi hi'
    have := h i (Nat.zero_le _) (by omega)
    unfold edgeB at this
    rw [List.getElem?_eq_getElem hi, List.getElem?_eq_getElem hi', Option.getD_some, Option.getD_some, Bool.and_eq_true, Bool.and_eq_true, Bool.or_eq_true, inB_iff, beq_iff_eq, decide_eq_true_iff] at this
    exact ⟨this.1.1, this.1.2, this.2.1, this.2.2⟩
  refine ⟨hl, fun c hc => ?_, fun i hi => ?_, fun t ht => ?_⟩
  · obtain ⟨i, hi, rfl⟩ := List.mem_iff_getElem.1 hc
    exact (key i hi (by omega)).1
  · have := (key (i + 1) hi (by omega)).2.1.resolve_left (by omega)
    rw [show i + 1 - 1 = i from rfl, List.getElem?_eq_getElem (by omega), Option.getD_some] at this
    exact this
  · obtain ⟨i, hi, rfl⟩ := List.mem_iff_getElem.1 ht
    have := (key i (by omega) hi).2.2
    exact ⟨this.1, by omega⟩
theorem NodeOk.nodeB {n : Nat} {x : Node} (h : NodeOk n x) : nodeB n x = true := by
  unfold Go.Proofs.YtdaoecpkgobelaaDoor.nodeB
  rw [Bool.and_eq_true, allI_iff, beq_iff_eq]
  refine ⟨h.len, fun i _ hi => ?_⟩
  rw [Nat.zero_add] at hi
  have hi' : i < x.Letters.length := by rw [h.len]; exact hi
  unfold edgeB
  rw [List.getElem?_eq_getElem hi, List.getElem?_eq_getElem hi', Option.getD_some, Option.getD_some, Bool.and_eq_true, Bool.and_eq_true, Bool.or_eq_true, inB_iff, beq_iff_eq, decide_eq_true_iff]
  have hn := h.next _ (List.getElem_mem hi)
  refine ⟨⟨h.form _ (List.getElem_mem hi'), ?_⟩, hn.1, by omega⟩
  cases i with
  | zero => exact .inl rfl
  | succ i =>
    refine .inr ?_
    rw [show i + 1 - 1 = i from rfl, List.getElem?_eq_getElem (by omega), Option.getD_some]
    exact h.inc i hi'
structure ShapeOk (D : List Node) : Prop where
  pos : 1 ≤ D.length
  max : D.length ≤ 3000
  node : ∀ x ∈ D, NodeOk D.length x
theorem shapeB_ok {D : List Node} (h : shapeB D = true) : ShapeOk D := by
  unfold shapeB at h
  rw [Bool.and_eq_true, Bool.and_eq_true, decide_eq_true_iff, decide_eq_true_iff, List.all_eq_true] at h
  exact ⟨h.1.1, h.1.2, fun x hx => nodeB_ok (h.2 x hx)⟩
theorem ShapeOk.shapeB {D : List Node} (h : ShapeOk D) : shapeB D = true := by
  unfold Go.Proofs.YtdaoecpkgobelaaDoor.shapeB
  rw [Bool.and_eq_true, Bool.and_eq_true, decide_eq_true_iff, decide_eq_true_iff, List.all_eq_true]
  exact ⟨⟨h.pos, h.max⟩, fun x hx => (h.node x hx).nodeB⟩
theorem NodeOk.edges_len {n : Nat} {x : Node} (h : NodeOk n x) : (ndN x).2.length = x.Next.length := by
  show (x.Letters.zip (x.Next.map Int.toNat)).length = _
  rw [List.length_zip, List.length_map, h.len, Nat.min_self]
theorem NodeOk.edge {n : Nat} {x : Node} (h : NodeOk n x) {i : Nat} (hi : i < x.Next.length) : (ndN x).2[i]? = some (x.Letters[i]'(by rw [h.len]; exact hi), x.Next[i].toNat) := by
  show (x.Letters.zip (x.Next.map Int.toNat))[i]? = _
  rw [List.getElem?_zip_eq_some]
  exact ⟨List.getElem?_eq_getElem _, by rw [List.getElem?_map, List.getElem?_eq_getElem hi]; rfl⟩
theorem ndN_inj {n m : Nat} {x y : Node} (hx : NodeOk n x) (hy : NodeOk m y) (h : ndN x = ndN y) : x = y := by
  obtain ⟨f, l, t⟩ := x
  obtain ⟨g, l', t'⟩ := y
  have h1 : f = g := congrArg Prod.fst h
  have h2 : l.zip (t.map Int.toNat) = l'.zip (t'.map Int.toNat) := congrArg Prod.snd h
  have hl : l.length = t.length := hx.len
  have hl' : l'.length = t'.length := hy.len
  have e1 : l = l' := by
    have := congrArg (List.map Prod.fst) h2
    rwa [List.map_fst_zip (by rw [List.length_map]; omega), List.map_fst_zip (by rw [List.length_map]; omega)] at this
  have e2 : t = t' := by
    have := congrArg (List.map Prod.snd) h2
    rw [List.map_snd_zip (by rw [List.length_map]; omega), List.map_snd_zip (by rw [List.length_map]; omega)] at this
    have h3 := congrArg (List.map (fun k : Nat => (k : Int))) this
    rw [List.map_map, List.map_map] at h3
    have hid : ∀ (u : List Int), (∀ x ∈ u, 0 ≤ x) → u.map ((fun k : Nat => (k : Int)) ∘ Int.toNat) = u := fun u hu => by
      refine (List.map_congr_left fun x hx => ?_).trans (List.map_id _)
      simp only [Function.comp, id]
      exact Int.toNat_of_nonneg (hu x hx)
    rwa [hid t fun x hx' => (hx.next x hx').1, hid t' fun x hx' => (hy.next x hx').1] at h3
  rw [h1, e1, e2]
theorem ShapeOk.edge_lt {D : List Node} (h : ShapeOk D) {k : Nat} : ∀ e ∈ (ndD D k).2, e.2 < D.length := fun e he => by
  by_cases hk : k < D.length
  · rw [ndD_at hk] at he
    have := (List.of_mem_zip (he : (e.1, e.2) ∈ _)).2
    obtain ⟨t, ht, e1⟩ := List.mem_map.1 this
    have := (h.node _ (List.getElem_mem hk)).next t ht
    omega
  · rw [ndD_none (by omega)] at he; cases he
theorem apartG_inc {α : Type} : ∀ (G : List (UInt8 × α)), (∀ i, (h : i + 1 < G.length) → G[i].1 < G[i + 1].1) → apartG G
  | [], _ => trivial
  | [_], _ => trivial
  | (c, x) :: (d, y) :: G, h => ⟨fun e => by
      have h0 := h 0 (by simp)
      simp only [List.getElem_cons_zero, List.getElem_cons_succ, Nat.zero_add] at h0
      rw [e] at h0
      exact absurd h0 (UInt8.lt_irrefl _), apartG_inc _ fun i hi => by
      have := h (i + 1) (by simpa using hi)
      simpa using this⟩
theorem ShapeOk.apart {D : List Node} (h : ShapeOk D) (k : Nat) : apartG (ndD D k).2 := by
  by_cases hk : k < D.length
  · rw [ndD_at hk]
    have hx := h.node _ (List.getElem_mem hk)
    generalize D[k] = x at hx
    refine apartG_inc _ fun i hi => ?_
    have hi' : i + 1 < x.Next.length := by rw [hx.edges_len] at hi; exact hi
    have e1 := hx.edge (i := i) (by omega)
    have e2 := hx.edge hi'
    rw [List.getElem?_eq_getElem (by rw [hx.edges_len]; omega), Option.some.injEq] at e1
    rw [List.getElem?_eq_getElem (by rw [hx.edges_len]; omega), Option.some.injEq] at e2
    rw [e1, e2]
    exact hx.inc i (by rw [hx.len]; exact hi')
  · rw [ndD_none (by omega)]; trivial

/-! ### lists by index -/
section
variable {α : Type}
theorem getD_put {l : List α} {k j : Nat} {v d : α} (hk : k < l.length) : (l.set k v).getD j d = if j = k then v else l.getD j d := by
  rw [List.getD_eq_getElem?_getD, List.getD_eq_getElem?_getD, List.getElem?_set]
  by_cases h : k = j
  · subst h; simp [hk]
  · rw [if_neg h, if_neg (fun e => h e.symm)]
theorem getL_gd {l : List α} {k : Nat} (d : α) (hk : k < l.length) : getL l (k : Int) = some (l.getD k d) := by
  rw [getL_at hk, List.getD_eq_getElem?_getD, List.getElem?_eq_getElem hk, Option.getD_some]
end
theorem langA_len {σ : Type} (nd : σ → Bool × List (UInt8 × σ)) (n : Nat) (k : σ) : (langA nd (n + 1) k).length = (if (nd k).1 then 1 else 0) + ((nd k).2.map fun e => (langA nd n e.2).length).sum := by
  rw [langA, List.length_append, List.length_flatMap]
  congr 1
  · cases (nd k).1 <;> rfl
  · congr 1
    exact List.map_congr_left fun e _ => by rw [List.length_map]

end Go.Proofs.YtdaoecpkgobelaaDoor
