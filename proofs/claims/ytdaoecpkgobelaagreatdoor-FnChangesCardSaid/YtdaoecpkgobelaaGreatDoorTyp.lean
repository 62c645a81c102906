/- The program's structs as Lean data, and how they lie in memory. Printed by drive.py. -/
import Derived.Test.YtdaoecpkgobelaaGreatDoorEngR
namespace Go.Proofs.YtdaoecpkgobelaaGreatDoor
open Go Go.RowKit
set_option linter.unusedSimpArgs false
set_option linter.unusedVariables false
structure Lexicon where
  Words : (List Str)
  deriving DecidableEq
structure Node where
  Final : Bool
  Letters : Str
  Next : (List Int)
  deriving DecidableEq
def NodeRep : Rep Node := Rep.via (Rep.seq boolRep (Rep.seq strRep (sliceRep intRep))) (fun x => (x.Final, x.Letters, x.Next))
theorem NodeRep_open {w : World} {S : Nat → Prop} {x : Node} {row : List Value} (h : NodeRep.R w S x row) : ∃ (A0 : Option Addr) (c0 : Nat), row = [.bool x.Final, vS x.Letters, vL A0 x.Next c0] ∧ x.Letters.length ≤ maxLen ∧ (sliceRep intRep).R w S x.Next [vL A0 x.Next c0] := by
  obtain ⟨_, _, rfl, rfl, _, _, rfl, ⟨rfl, h1⟩, ⟨B2, d2, rfl, g2⟩⟩ := h
  exact ⟨B2, d2, rfl, h1, ⟨B2, d2, rfl, g2⟩⟩
theorem NodeRep_mk {w : World} {S : Nat → Prop} {x : Node} {A0 : Option Addr} {c0 : Nat} (h0 : x.Letters.length ≤ maxLen) (h1 : (sliceRep intRep).R w S x.Next [vL A0 x.Next c0]) : NodeRep.R w S x [.bool x.Final, vS x.Letters, vL A0 x.Next c0] :=
  ⟨[.bool x.Final], _, rfl, rfl, [vS x.Letters], _, rfl, ⟨rfl, h0⟩, h1⟩
structure Dawg where
  Nodes : (List Node)
  deriving DecidableEq
def DawgRep : Rep Dawg := Rep.via (sliceRep NodeRep) (fun x => x.Nodes)
theorem DawgRep_open {w : World} {S : Nat → Prop} {x : Dawg} {row : List Value} (h : DawgRep.R w S x row) : ∃ (A0 : Option Addr) (c0 : Nat), row = [vL A0 x.Nodes c0] ∧ (sliceRep NodeRep).R w S x.Nodes [vL A0 x.Nodes c0] := by
  obtain ⟨B1, d1, rfl, g1⟩ := h
  exact ⟨B1, d1, rfl, ⟨B1, d1, rfl, g1⟩⟩
theorem DawgRep_mk {w : World} {S : Nat → Prop} {x : Dawg} {A0 : Option Addr} {c0 : Nat} (h0 : (sliceRep NodeRep).R w S x.Nodes [vL A0 x.Nodes c0]) : DawgRep.R w S x [vL A0 x.Nodes c0] :=
  h0
structure inspector where
  d : Dawg
  met : Int
  open_ : (List Bool)
  strings : (List Int)
  longest : (List Int)
  deriving DecidableEq
structure minus where
  a : Dawg
  b : Dawg
  deriving DecidableEq
structure l00Src where
  code : Str
  at_ : Int
  seed : Int
  deriving DecidableEq
structure maker where
  nodes : (List Node)
  register : (List (Str × Int))
  deriving DecidableEq
def makerRep : Rep maker := Rep.via (Rep.seq (sliceRep NodeRep) (mapRep fS fI)) (fun x => (x.nodes, x.register))
theorem makerRep_open {w : World} {S : Nat → Prop} {x : maker} {row : List Value} (h : makerRep.R w S x row) : ∃ (A0 : Option Addr) (c0 : Nat), ∃ (b1 : Nat) (o1 : Nat), row = [vL A0 x.nodes c0, vM b1] ∧ (sliceRep NodeRep).R w S x.nodes [vL A0 x.nodes c0] ∧ (mapRep fS fI).R w S x.register [vM b1] := by
  obtain ⟨_, _, rfl, ⟨B1, d1, rfl, g1⟩, ⟨B2, d2, rfl, g2⟩⟩ := h
  exact ⟨B1, d1, B2, d2, rfl, ⟨B1, d1, rfl, g1⟩, ⟨B2, d2, rfl, g2⟩⟩
theorem makerRep_mk {w : World} {S : Nat → Prop} {x : maker} {A0 : Option Addr} {c0 : Nat} {b1 : Nat} (h0 : (sliceRep NodeRep).R w S x.nodes [vL A0 x.nodes c0]) (h1 : (mapRep fS fI).R w S x.register [vM b1]) : makerRep.R w S x [vL A0 x.nodes c0, vM b1] :=
  ⟨[vL A0 x.nodes c0], _, rfl, h0, h1⟩
structure l06B where
  nodes : (List Node)
  deriving DecidableEq
structure l06W where
  d : Dawg
  out : (List Str)
  full : Bool
  deriving DecidableEq
structure l06R where
  old : (List Node)
  place : (List Int)
  out : (List Node)
  deriving DecidableEq
def NodeNilRep : Rep Node where
  size := 3
  R := fun _ _ x row => x.Next = [] ∧ row = [.bool x.Final, vS x.Letters, .slice none 0 0] ∧ x.Letters.length ≤ maxLen
  len := fun h => by rw [h.2.1]; rfl
  one := fun h u hu => by
    rw [h.2.1] at hu
    simp only [List.mem_cons, List.not_mem_nil, or_false] at hu
    rcases hu with rfl | rfl | rfl <;> rfl
  same := fun h _ => h
  mono := fun h _ => h
theorem NodeNilRep_mk {w : World} {S : Nat → Prop} {x : Node} (h0 : x.Letters.length ≤ maxLen) (hn : x.Next = [] := by rfl) : NodeNilRep.R w S x [.bool x.Final, vS x.Letters, .slice none 0 0] := ⟨hn, rfl, h0⟩
structure NodeW where
  fin : Bool
  lets : Str
  A : Option Addr
  c : Nat
  next : List Int
def NodeW.to (x : NodeW) : Node := ⟨x.fin, x.lets, x.next⟩
def NodeWRep : Rep NodeW where
  size := 3
  R := fun _ _ x row => row = [.bool x.fin, vS x.lets, vL x.A x.next x.c] ∧ x.lets.length ≤ maxLen
  len := fun h => by rw [h.1]; rfl
  one := fun h u hu => by
    rw [h.1] at hu
    simp only [List.mem_cons, List.not_mem_nil, or_false] at hu
    rcases hu with rfl | rfl | rfl <;> rfl
  same := fun h _ => h
  mono := fun h _ => h/-- The nodes' lists, each a row of the call's own. -/
def nestO (E : TypeId) (ws : List NodeW) : List Own := ws.map fun x => .row intRep x.A x.c E x.next true
theorem nest_get {ws : List NodeW} {xs : List Node} (h : ws.map NodeW.to = xs) {i : Int} {z : Node} (hz : getL xs i = some z) : ∃ A c, getL ws i = some ⟨z.Final, z.Letters, A, c, z.Next⟩ := by
  subst h
  unfold getL at hz ⊢
  cases hb : decide (0 ≤ i) with
  | false => rw [hb] at hz; cases hz
  | true =>
    rw [hb] at hz
    simp only [cond_true, List.getElem?_map, Option.map_eq_some_iff] at hz ⊢
    obtain ⟨x, hx, rfl⟩ := hz
    exact ⟨x.A, x.c, hx⟩
theorem getL_lt {α : Type} {xs : List α} {i : Int} {x : α} (h : getL xs i = some x) : i.toNat < xs.length ∧ xs[i.toNat]? = some x ∧ 0 ≤ i := by
  unfold getL at h
  cases hb : decide (0 ≤ i) with
  | false => rw [hb] at h; cases h
  | true =>
    rw [hb] at h
    exact ⟨(List.getElem?_eq_some_iff.1 h).1, h, of_decide_eq_true hb⟩
theorem nest_at (E : TypeId) (pre : List Own) {ws : List NodeW} {i : Int} {x : NodeW} (h : getL ws i = some x) : (pre ++ nestO E ws)[pre.length + i.toNat]? = some (.row intRep x.A x.c E x.next true) := by
  obtain ⟨h1, h2, _⟩ := getL_lt h
  rw [List.getElem?_append_right (by omega), Nat.add_sub_cancel_left]
  unfold nestO
  rw [List.getElem?_map, h2]
  rfl
theorem nest_set (E : TypeId) (pre : List Own) {ws : List NodeW} {i : Int} (y : NodeW) : (pre ++ nestO E ws).set (pre.length + i.toNat) (.row intRep y.A y.c E y.next true) = pre ++ nestO E (ws.set i.toNat y) := by
  rw [List.set_append_right _ _ (by omega), Nat.add_sub_cancel_left]
  unfold nestO
  rw [List.map_set]
theorem setL_nest {ws : List NodeW} {i : Int} {x y : NodeW} (h : getL ws i = some x) : setL ws i y = some (ws.set i.toNat y) := by
  obtain ⟨h1, _, h0⟩ := getL_lt h
  unfold setL
  rw [decide_eq_true h0, decide_eq_true (show i < (ws.length : Int) by omega)]
  rfl
theorem nest_to {ws : List NodeW} {xs ys : List Node} (h : ws.map NodeW.to = xs) {i : Int} {z : Node} {y : NodeW} (hz : setL xs i z = some ys) (hy : y.to = z) : (ws.set i.toNat y).map NodeW.to = ys := by
  subst h
  unfold setL at hz
  rcases cond_some hz with ⟨_, hz⟩ | ⟨_, hz⟩
  · obtain rfl := Option.some.inj hz
    rw [List.map_set, hy]
  · cases hz
theorem apartN {C : Cx} {w : World} {own : List Own} {shr : List Shr} (h : Mem C w own shr) {j k b : Nat} {x y : Own} {o : Option Nat} (hj : own[j]? = some x) (hx : x.block = o) (hk : own[k]? = some y) (hb : y.block = some b) (hne : j ≠ k) : ¬ some b ∈ [o] := by
  intro hm
  rw [List.mem_singleton] at hm
  subst hm
  obtain ⟨h1, h2⟩ := List.getElem?_eq_some_iff.1 hj
  obtain ⟨h3, h4⟩ := List.getElem?_eq_some_iff.1 hk
  have hp := List.pairwise_iff_getElem.1 h.sep
  rcases Nat.lt_or_ge j k with hlt | hge
  · exact hp j k h1 h3 hlt b (by rw [h2]; exact hx) (by rw [h4]; exact hb)
  · exact hp k j h3 h1 (by omega) b (by rw [h4]; exact hb) (by rw [h2]; exact hx)
theorem apartNS {C : Cx} {w : World} {own : List Own} {shr : List Shr} (h : Mem C w own shr) {j b : Nat} {x : Own} {o : Option Nat} (hj : own[j]? = some x) (hx : x.block = o) (hs : Sh C own w b) : ¬ some b ∈ [o] := by
  intro hm
  rw [List.mem_singleton] at hm
  subst hm
  exact hs.2.2 ⟨x, List.mem_of_getElem? hj, hx⟩
theorem Mem.nest {C : Cx} {w : World} {x y : Own} {A : Option Addr} {c : Nat} {E : TypeId} {xs : List Node} {shr : List Shr} (h : Mem C w [x, y, .row NodeNilRep A c E xs true] shr) (E2 : TypeId) :
    ∃ ws : List NodeW, ws.map NodeW.to = xs ∧ Mem C w ([x, y, .row NodeWRep A c E ws true] ++ nestO E2 ws) shr := by
  obtain ⟨rows, hr, hrow⟩ := h.ownAt (k := 2) rfl
  have hnil : ∀ z ∈ xs, z.Next = [] := fun z hz => by
    obtain ⟨i, hi⟩ := List.getElem?_of_mem hz
    obtain ⟨row, _, hR⟩ := hr.2 i z hi
    exact hR.1
  refine ⟨xs.map fun z => ⟨z.Final, z.Letters, none, 0, []⟩, ?_, ?_⟩
  · rw [List.map_map]
    refine (List.map_congr_left fun z hz => ?_).trans (List.map_id _)
    obtain ⟨f, l, n⟩ := z
    have := hnil _ hz
    simp only at this
    subst this
    rfl
  · generalize hws : (xs.map fun z => (⟨z.Final, z.Letters, none, 0, []⟩ : NodeW)) = ws
    have hn : ∀ q ∈ nestO E2 ws, q.block = none := fun q hq => by
      obtain ⟨u, hu, rfl⟩ := List.mem_map.1 hq
      rw [← hws] at hu
      obtain ⟨z, _, rfl⟩ := List.mem_map.1 hu
      rfl
    have hblk : ∀ b, ownB ([x, y, .row NodeWRep A c E ws true] ++ nestO E2 ws) b → ownB [x, y, .row NodeNilRep A c E xs true] b := by
      rintro b ⟨q, hq, hb⟩
      rcases List.mem_append.1 hq with hq | hq
      · simp only [List.mem_cons, List.not_mem_nil, or_false] at hq
        rcases hq with rfl | rfl | rfl
        · exact ⟨_, by simp, hb⟩
        · exact ⟨_, by simp, hb⟩
        · exact ⟨.row NodeNilRep A c E xs true, by simp, hb⟩
      · rw [hn q hq] at hb; cases hb
    have hSh : ∀ b, Sh C [x, y, .row NodeNilRep A c E xs true] w b → Sh C ([x, y, .row NodeWRep A c E ws true] ++ nestO E2 ws) w b := fun b ⟨h1, h2, h3⟩ => ⟨h1, h2, fun hb => h3 (hblk b hb)⟩
    refine h.step w _ rfl rfl rfl (Nat.le_refl _) (fun _ _ _ => rfl) (fun b hb => .inl (hblk b hb)) ?_ ?_
    · rw [List.pairwise_append]
      refine ⟨?_, ?_, fun p hp q hq b hb => by rw [hn q hq]; simp⟩
      · have hs := h.sep
        simp only [List.pairwise_cons, List.mem_cons, List.not_mem_nil, or_false, forall_eq_or_imp, forall_eq] at hs ⊢
        exact ⟨⟨hs.1.1, hs.1.2⟩, hs.2.1, fun _ hf => hf.elim, List.Pairwise.nil⟩
      · rw [List.pairwise_iff_forall_sublist]
        intro p q hs b hb
        rw [hn p (hs.subset (by simp))] at hb
        cases hb
    · intro q hq
      rcases List.mem_append.1 hq with hq | hq
      · simp only [List.mem_cons, List.not_mem_nil, or_false] at hq
        rcases hq with rfl | rfl | rfl
        · exact Own.good_same (h.own_ q (by simp)) (fun _ _ => rfl) (fun _ _ => rfl) hSh
        · exact Own.good_same (h.own_ q (by simp)) (fun _ _ => rfl) (fun _ _ => rfl) hSh
        · refine ⟨rows, ⟨by rw [hr.1, ← hws]; simp, fun i z hz => ?_⟩, ?_⟩
          · rw [← hws, List.getElem?_map, Option.map_eq_some_iff] at hz
            obtain ⟨u, hu, rfl⟩ := hz
            obtain ⟨row, h1, h2, h3, h4⟩ := hr.2 i u hu
            exact ⟨row, h1, h3, h4⟩
          · have hl : ws.length = xs.length := by rw [← hws]; simp
            rcases hrow with ⟨h1, h2, h3⟩ | ⟨g, cur, fr, h1, h2, h3, h4, h5, h6, h7⟩
            · exact .inl ⟨h1, h2, by rw [← hws, h3]; rfl⟩
            · exact .inr ⟨g, cur, fr, h1, h2, by rw [hl]; exact h3, h4, h5, by rw [hl]; exact h6, h7⟩
      · obtain ⟨u, hu, rfl⟩ := List.mem_map.1 hq
        rw [← hws] at hu
        obtain ⟨z, _, rfl⟩ := List.mem_map.1 hu
        exact ⟨[], RowsOf.nil_, .inl ⟨rfl, rfl, rfl⟩⟩
theorem Mem.unnest {C : Cx} {w : World} {x y : Own} {A : Option Addr} {c : Nat} {E E2 : TypeId} {ws : List NodeW} {xs : List Node} {shr : List Shr} (h : Mem C w ([x, y, .row NodeWRep A c E ws true] ++ nestO E2 ws) shr) (hw : ws.map NodeW.to = xs) :
    Mem C w [] (.dat (sliceRep NodeRep) xs [vL A xs c] :: shr) := by
  subst hw
  have hm : Mem C w [] shr := h.drop (List.nil_sublist _)
  have hS : ∀ b, b < w.heap.size → ∀ q ∈ ([x, y, .row NodeWRep A c E ws true] ++ nestO E2 ws), q.block = some b → Sh C [] w b := fun b hb q hq hqb =>
    ⟨.inr (h.new q hq b hqb), hb, fun ⟨z, hz, _⟩ => by cases hz⟩
  have hSh : ∀ b, Sh C ([x, y, .row NodeWRep A c E ws true] ++ nestO E2 ws) w b → Sh C [] w b := fun b ⟨h1, h2, _⟩ => ⟨h1, h2, fun ⟨z, hz, _⟩ => by cases hz⟩
  obtain ⟨rows, hr, hrow⟩ := h.ownAt (k := 2) rfl
  have hgood : (Own.row NodeRep A c E (ws.map NodeW.to) true).good w (Sh C [] w) := by
    refine ⟨rows, ⟨by rw [hr.1]; simp, fun i z hz => ?_⟩, ?_⟩
    · rw [List.getElem?_map, Option.map_eq_some_iff] at hz
      obtain ⟨u, hu, rfl⟩ := hz
      obtain ⟨row, h1, rfl, h4⟩ := hr.2 i u hu
      refine ⟨_, h1, NodeRep_mk (x := u.to) h4 ?_⟩
      have hmem : Own.row intRep u.A u.c E2 u.next true ∈ ([x, y, .row NodeWRep A c E ws true] ++ nestO E2 ws) := List.mem_append_right _ (List.mem_map.2 ⟨u, List.mem_of_getElem? hu, rfl⟩)
      have hg := h.own_ _ hmem
      refine row_rep hg hSh fun g hA => ?_
      have hb : (Own.row intRep u.A u.c E2 u.next true).block = some g := by show u.A.map (·.block) = _; rw [hA]; rfl
      exact hS g (Own.good_lt hg g hb) _ hmem hb
    · rcases hrow with ⟨h1, h2, h3⟩ | ⟨g, cur, fr, h1, h2, h3, h4, h5, h6, h7⟩
      · exact .inl ⟨h1, h2, by rw [h3]; rfl⟩
      · exact .inr ⟨g, cur, fr, h1, h2, by simpa using h3, h4, h5, by rw [List.length_map]; exact h6, h7⟩
  refine hm.add (row_rep hgood (fun b hb => hb) fun g hA => ?_)
  have hmem : Own.row NodeWRep A c E ws true ∈ ([x, y, .row NodeWRep A c E ws true] ++ nestO E2 ws) := by simp
  have hb : (Own.row NodeWRep A c E ws true).block = some g := by show A.map (·.block) = _; rw [hA]; rfl
  exact hS g (Own.good_lt (h.own_ _ hmem) g hb) _ hmem hb
def nestW (A : Option Addr) (c : Nat) (E E2 : TypeId) (ws : List NodeW) : List Own := .row NodeWRep A c E ws true :: nestO E2 ws
noncomputable instance ownBEq : BEq Own := ⟨fun a b => @decide (a = b) (Classical.propDecidable _)⟩
instance ownLBEq : LawfulBEq Own where
  eq_of_beq := fun {a b} h => @of_decide_eq_true (a = b) (Classical.propDecidable _) h
  rfl := fun {a} => @decide_eq_true (a = a) (Classical.propDecidable _) rfl
def OFlat (out : List Own) : Prop := ∀ x ∈ out, ∀ (w : World) (S T : Nat → Prop), x.good w S → x.good w T
theorem OFlat.nil : OFlat [] := fun x hx => by cases hx
theorem OFlat.app {a b : List Own} (h : OFlat a) (h' : OFlat b) : OFlat (a ++ b) := fun x hx => (List.mem_append.1 hx).elim (h x) (h' x)
theorem row_flat {α : Type} {K : Rep α} {A : Option Addr} {c : Nat} {e : TypeId} {xs : List α} {app : Bool} (hK : K.Flat) (w : World) (S T : Nat → Prop) (h : (Own.row K A c e xs app).good w S) : (Own.row K A c e xs app).good w T := by
  obtain ⟨rows, hr, hrow⟩ := h
  exact ⟨rows, ⟨hr.1, fun i y hy => by obtain ⟨r, h1, h2⟩ := hr.2 i y hy; exact ⟨r, h1, hK h2⟩⟩, hrow⟩
theorem OFlat.row {α : Type} {K : Rep α} {A : Option Addr} {c : Nat} {e : TypeId} {xs : List α} {app : Bool} {out : List Own} (hK : K.Flat) (h : OFlat out) : OFlat (.row K A c e xs app :: out) := fun x hx => by
  rcases List.mem_cons.1 hx with rfl | hx
  · exact row_flat hK
  · exact h x hx
theorem OFlat.nest {A : Option Addr} {c : Nat} {E E2 : TypeId} {ws : List NodeW} : OFlat (nestW A c E E2 ws) := fun x hx => by
  rcases List.mem_cons.1 hx with rfl | hx
  · exact row_flat (fun h => h)
  · obtain ⟨u, _, rfl⟩ := List.mem_map.1 hx
    exact row_flat (fun h => h)
end Go.Proofs.YtdaoecpkgobelaaGreatDoor
