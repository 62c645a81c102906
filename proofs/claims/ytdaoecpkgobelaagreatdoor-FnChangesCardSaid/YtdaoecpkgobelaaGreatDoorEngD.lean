/- The engine, fourth part: memory. What a datum's cells are (Rep); what the call owns, what it only reads (Mem). -/
import Derived.Test.YtdaoecpkgobelaaGreatDoorEngC
import Derived.Test.YtdaoecpkgobelaaGreatDoorEngT
import Derived.Maps.AppendAt
import Derived.Great.BuildSlice
import Derived.Laws.MakeOwn
namespace Go.Proofs.YtdaoecpkgobelaaGreatDoor
open Go Go.RowKit
set_option linter.unusedSimpArgs false
set_option linter.unusedVariables false
def Same (S : Nat → Prop) (w w' : World) : Prop := ∀ b, S b → w'.heap[b]? = w.heap[b]?
theorem Same.cell {S : Nat → Prop} {w w' : World} (h : Same S w w') {b o : Nat} (hb : S b) : w'.cell? ⟨b, o, none⟩ = w.cell? ⟨b, o, none⟩ := World.cell?_of_block (a := ⟨b, o, none⟩) (h b hb)
theorem Same.mono {S T : Nat → Prop} {w w' : World} (h : Same S w w') (hT : ∀ b, T b → S b) : Same T w w' := fun b hb => h b (hT b hb)
structure Rep (α : Type) where
  size : Nat
  R : World → (Nat → Prop) → α → List Value → Prop
  len : ∀ {w S x row}, R w S x row → row.length = size
  one : ∀ {w S x row}, R w S x row → ∀ u ∈ row, u.oneCell' = true
  same : ∀ {w w' S x row}, R w S x row → Same S w w' → R w' S x row
  mono : ∀ {w S T x row}, R w S x row → (∀ b, S b → T b) → R w T x row
def intRep : Rep Int := ⟨1, fun _ _ x row => row = [vI x] ∧ R64 x, fun h => by rw [h.1]; rfl, fun h u hu => by rw [h.1, List.mem_singleton] at hu; subst hu; rfl, fun h _ => h, fun h _ => h⟩
def byteRep : Rep UInt8 := ⟨1, fun _ _ x row => row = [vB x], fun h => by rw [h]; rfl, fun h u hu => by rw [h, List.mem_singleton] at hu; subst hu; rfl, fun h _ => h, fun h _ => h⟩
def boolRep : Rep Bool := ⟨1, fun _ _ x row => row = [.bool x], fun h => by rw [h]; rfl, fun h u hu => by rw [h, List.mem_singleton] at hu; subst hu; rfl, fun h _ => h, fun h _ => h⟩
def strRep : Rep Str := ⟨1, fun _ _ x row => row = [vS x] ∧ x.length ≤ maxLen, fun h => by rw [h.1]; rfl, fun h u hu => by rw [h.1, List.mem_singleton] at hu; subst hu; rfl, fun h _ => h, fun h _ => h⟩
def Rep.seq {α β : Type} (K : Rep α) (J : Rep β) : Rep (α × β) where
  size := K.size + J.size
  R := fun w S x row => ∃ r s, row = r ++ s ∧ K.R w S x.1 r ∧ J.R w S x.2 s
  len := fun ⟨r, s, e, h, k⟩ => by rw [e, List.length_append, K.len h, J.len k]
  one := fun ⟨r, s, e, h, k⟩ u hu => by
    rw [e, List.mem_append] at hu
    exact hu.elim (K.one h u) (J.one k u)
  same := fun ⟨r, s, e, h, k⟩ hs => ⟨r, s, e, K.same h hs, J.same k hs⟩
  mono := fun ⟨r, s, e, h, k⟩ hs => ⟨r, s, e, K.mono h hs, J.mono k hs⟩
def Rep.via {α β : Type} (K : Rep α) (f : β → α) : Rep β := ⟨K.size, fun w S x row => K.R w S (f x) row, K.len, K.one, K.same, K.mono⟩
def SR {α : Type} (K : Rep α) (w : World) (S : Nat → Prop) (A : Option Addr) (xs : List α) : Prop :=
  0 < xs.length → ∃ b off, A = some ⟨b, off, none⟩ ∧ S b ∧ ∀ i x, xs[i]? = some x → ∃ row, K.R w S x row ∧ ∀ j u, row[j]? = some u → w.cell? ⟨b, off + i * K.size + j, none⟩ = some u
def sliceRep {α : Type} (K : Rep α) : Rep (List α) where
  size := 1
  R := fun w S xs row => ∃ A c, row = [vL A xs c] ∧ xs.length ≤ c ∧ c ≤ maxLen ∧ SR K w S A xs
  len := fun ⟨A, c, e, _⟩ => by rw [e]; rfl
  one := fun ⟨A, c, e, _⟩ u hu => by rw [e, List.mem_singleton] at hu; subst hu; rfl
  same := fun ⟨A, c, e, h1, h2, h⟩ hs => ⟨A, c, e, h1, h2, fun hn => by
    obtain ⟨b, off, rfl, hb, hc⟩ := h hn
    refine ⟨b, off, rfl, hb, fun i x hx => ?_⟩
    obtain ⟨row, hr, hcell⟩ := hc i x hx
    exact ⟨row, K.same hr hs, fun j u hu => (hs.cell hb).trans (hcell j u hu)⟩⟩
  mono := fun ⟨A, c, e, h1, h2, h⟩ hs => ⟨A, c, e, h1, h2, fun hn => by
    obtain ⟨b, off, rfl, hb, hc⟩ := h hn
    refine ⟨b, off, rfl, hs b hb, fun i x hx => ?_⟩
    obtain ⟨row, hr, hcell⟩ := hc i x hx
    exact ⟨row, K.mono hr hs, hcell⟩⟩
def ptrRep {α : Type} (K : Rep α) : Rep α where
  size := 1
  R := fun w S x row => ∃ b o r, row = [vP b o] ∧ S b ∧ K.R w S x r ∧ ∀ j u, r[j]? = some u → w.cell? ⟨b, o + j, none⟩ = some u
  len := fun ⟨b, o, r, e, _⟩ => by rw [e]; rfl
  one := fun ⟨b, o, r, e, _⟩ u hu => by rw [e, List.mem_singleton] at hu; subst hu; rfl
  same := fun ⟨b, o, r, e, h1, h2, h3⟩ hs => ⟨b, o, r, e, h1, K.same h2 hs, fun j u hu => (hs.cell h1).trans (h3 j u hu)⟩
  mono := fun ⟨b, o, r, e, h1, h2, h3⟩ hs => ⟨b, o, r, e, hs b h1, K.mono h2 hs, h3⟩
theorem nil_slice {α : Type} (K : Rep α) (w : World) (S : Nat → Prop) : (sliceRep K).R w S [] [.slice none 0 0] :=
  ⟨none, 0, rfl, Nat.le_refl _, by unfold maxLen; omega, fun h => absurd h (by simp)⟩
def RowsOf {α : Type} (K : Rep α) (w : World) (S : Nat → Prop) (xs : List α) (rows : List (List Value)) : Prop :=
  rows.length = xs.length ∧ ∀ (i : Nat) (x : α), xs[i]? = some x → ∃ row, rows[i]? = some row ∧ K.R w S x row
section
variable {α : Type} {K : Rep α} {w w' : World} {S T : Nat → Prop} {xs ys : List α} {rows rows' : List (List Value)}
theorem RowsOf.nil_ : RowsOf K w S [] [] := ⟨rfl, fun i x h => by simp at h⟩
theorem RowsOf.same (h : RowsOf K w S xs rows) (hs : Same S w w') : RowsOf K w' S xs rows := ⟨h.1, fun i x hx => by obtain ⟨r, h1, h2⟩ := h.2 i x hx; exact ⟨r, h1, K.same h2 hs⟩⟩
theorem RowsOf.mono (h : RowsOf K w S xs rows) (hs : ∀ b, S b → T b) : RowsOf K w T xs rows := ⟨h.1, fun i x hx => by obtain ⟨r, h1, h2⟩ := h.2 i x hx; exact ⟨r, h1, K.mono h2 hs⟩⟩
theorem RowsOf.cons {x : α} {row : List Value} (hx : K.R w S x row) (h : RowsOf K w S xs rows) : RowsOf K w S (x :: xs) (row :: rows) :=
  ⟨by simp [h.1], fun i y hy => by
    cases i with
    | zero => simp only [List.getElem?_cons_zero, Option.some.injEq] at hy; subst hy; exact ⟨row, rfl, hx⟩
    | succ i => exact h.2 i y (by simpa using hy)⟩
theorem RowsOf.append (h : RowsOf K w S xs rows) (h' : RowsOf K w S ys rows') : RowsOf K w S (xs ++ ys) (rows ++ rows') := by
  refine ⟨by simp [h.1, h'.1], fun i x hx => ?_⟩
  rcases Nat.lt_or_ge i xs.length with hi | hi
  · rw [List.getElem?_append_left hi] at hx
    rw [List.getElem?_append_left (by rw [h.1]; exact hi)]
    exact h.2 i x hx
  · rw [List.getElem?_append_right hi] at hx
    rw [List.getElem?_append_right (by rw [h.1]; exact hi), h.1]
    exact h'.2 _ x hx
theorem RowsOf.flat_len (h : RowsOf K w S xs rows) : rows.flatten.length = xs.length * K.size := by
  induction xs generalizing rows with
  | nil =>
    obtain rfl : rows = [] := List.eq_nil_of_length_eq_zero (by simpa using h.1)
    simp
  | cons x xs ih =>
    cases rows with
    | nil => exact absurd h.1 (by simp)
    | cons r rows =>
      obtain ⟨r0, h0, h1⟩ := h.2 0 x rfl
      simp only [List.getElem?_cons_zero, Option.some.injEq] at h0
      subst h0
      have := ih (rows := rows) ⟨by simpa using h.1, fun i y hy => by obtain ⟨q, h2, h3⟩ := h.2 (i + 1) y (by simpa using hy); exact ⟨q, by simpa using h2, h3⟩⟩
      rw [List.flatten_cons, List.length_append, this, K.len h1, List.length_cons, Nat.succ_mul]; omega
theorem RowsOf.one (h : RowsOf K w S xs rows) : ∀ u ∈ rows.flatten, u.oneCell' = true := by
  intro u hu
  rw [List.mem_flatten] at hu
  obtain ⟨r, hr, hu⟩ := hu
  obtain ⟨i, hi, rfl⟩ := List.getElem_of_mem hr
  have hi' : i < xs.length := by rw [← h.1]; exact hi
  obtain ⟨row, h1, h2⟩ := h.2 i xs[i] (List.getElem?_eq_getElem hi')
  rw [List.getElem?_eq_getElem hi, Option.some.injEq] at h1
  rw [h1] at hu
  exact K.one h2 u hu
theorem RowsOf.at_ (h : RowsOf K w S xs rows) {i : Nat} {row : List Value} (hr : rows[i]? = some row) {j : Nat} {u : Value} (hu : row[j]? = some u) : rows.flatten[i * K.size + j]? = some u := by
  induction xs generalizing rows i with
  | nil =>
    obtain rfl : rows = [] := List.eq_nil_of_length_eq_zero (by simpa using h.1)
    simp at hr
  | cons x xs ih =>
    cases rows with
    | nil => simp at hr
    | cons r rows =>
      obtain ⟨r0, h0, h1⟩ := h.2 0 x rfl
      simp only [List.getElem?_cons_zero, Option.some.injEq] at h0
      subst h0
      rw [List.flatten_cons]
      cases i with
      | zero =>
        simp only [List.getElem?_cons_zero, Option.some.injEq] at hr
        subst hr
        rw [Nat.zero_mul, Nat.zero_add, List.getElem?_append_left (List.getElem?_eq_some_iff.1 hu).1]
        exact hu
      | succ i =>
        have := ih (rows := rows) (i := i) ⟨by simpa using h.1, fun k y hy => by obtain ⟨q, h2, h3⟩ := h.2 (k + 1) y (by simpa using hy); exact ⟨q, by simpa using h2, h3⟩⟩ (by simpa using hr)
        rw [List.getElem?_append_right (by rw [K.len h1, Nat.succ_mul]; omega), K.len h1, show (i + 1) * K.size + j - K.size = i * K.size + j by rw [Nat.succ_mul]; omega]
        exact this
end
/-! ### What the call owns, and what it reads -/
inductive Own : Type 1 where
  | box (b : Nat) (cs : List Value) (T : TypeId)
  | row {α : Type} (K : Rep α) (A : Option Addr) (c : Nat) (e : TypeId) (xs : List α) (app : Bool)
  | obj (b : Nat) (o : Obj)
def Own.block : Own → Option Nat
  | .box b _ _ => some b
  | .row _ A _ _ _ _ => A.map (·.block)
  | .obj b _ => some b
def Own.good (w : World) (S : Nat → Prop) : Own → Prop
  | .box b cs T => w.heap[b]? = some (.cells cs.toArray T (0, 0))
  | .row K A c e xs app => ∃ rows, RowsOf K w S xs rows ∧ ((A = none ∧ c = 0 ∧ xs = []) ∨
      ∃ g cur fr, A = some ⟨g, 0, none⟩ ∧ w.heap[g]? = some (.cells cur e fr) ∧ xs.length ≤ c ∧ c ≤ maxLen ∧ cur.size = c * K.size ∧ cur.toList.take (xs.length * K.size) = rows.flatten ∧ (fr = (0, 0) ∨ (app = false ∧ cur.size ≤ fr.1)))
  | .obj b o => w.heap[b]? = some o
theorem Own.good_same {w w' : World} {S T : Nat → Prop} {x : Own} (h : x.good w S) (hs : Same S w w') (hb : ∀ b, x.block = some b → w'.heap[b]? = w.heap[b]?) (hT : ∀ b, S b → T b) : x.good w' T := by
  cases x with
  | obj b o => exact (hb b rfl).trans h
  | box b cs E => exact (hb b rfl).trans h
  | row K A c e xs app =>
    obtain ⟨rows, hr, h⟩ := h
    refine ⟨rows, (hr.same hs).mono hT, ?_⟩
    rcases h with h | ⟨g, cur, fr, rfl, hg, h⟩
    · exact .inl h
    · exact .inr ⟨g, cur, fr, rfl, (hb g rfl).trans hg, h⟩
theorem Own.good_lt {w : World} {S : Nat → Prop} {x : Own} (h : x.good w S) : ∀ b, x.block = some b → b < w.heap.size := by
  intro b hb
  cases x with
  | obj b' o => cases hb; exact (Array.getElem?_eq_some_iff.1 h).1
  | box b' cs E => cases hb; exact (Array.getElem?_eq_some_iff.1 h).1
  | row K A c e xs app =>
    obtain ⟨rows, hr, h⟩ := h
    rcases h with ⟨rfl, _⟩ | ⟨g, cur, fr, rfl, hg, h⟩
    · cases hb
    · cases hb; exact (Array.getElem?_eq_some_iff.1 hg).1
inductive Shr : Type 1 where
  | dat {α : Type} (K : Rep α) (x : α) (row : List Value)
  | lit (b o : Nat) (cs : List Value)
def Shr.good (w : World) (S : Nat → Prop) : Shr → Prop
  | .dat K x row => K.R w S x row
  | .lit b o cs => S b ∧ ∀ j u, cs[j]? = some u → w.cell? ⟨b, o + j, none⟩ = some u
theorem Shr.good_same {w w' : World} {S T : Nat → Prop} {x : Shr} (h : x.good w S) (hs : Same S w w') (hT : ∀ b, S b → T b) : x.good w' T := by
  cases x with
  | dat K x row => exact K.mono (K.same h hs) hT
  | lit b o cs => exact ⟨hT b h.1, fun j u hu => (hs.cell h.1).trans (h.2 j u hu)⟩
def ownB (own : List Own) (b : Nat) : Prop := ∃ x ∈ own, x.block = some b
structure Cx where
  w0 : World
  S0 : Nat → Prop
  M : Nat → Prop
  s0 : ∀ b, S0 b → b < w0.heap.size
  s1 : ∀ b, S0 b → ¬ M b
  G : Nat → Prop
  g0 : ∀ b, G b → b < w0.heap.size
  gM : ∀ b, G b → ¬ M b
  gT : Tabs G w0
structure Chg (M : Nat → Prop) (w w' : World) : Prop where
  os : w'.os = w.os
  tape : w'.tape = w.tape
  output : w'.output = w.output
  size : w.heap.size ≤ w'.heap.size
  block : ∀ b, b < w.heap.size → ¬ M b → w'.heap[b]? = w.heap[b]?
def none_ : Nat → Prop := fun _ => False
theorem Chg.refl (M : Nat → Prop) (w : World) : Chg M w w := ⟨rfl, rfl, rfl, Nat.le_refl _, fun _ _ _ => rfl⟩
theorem Chg.below {w w' : World} (h : Chg none_ w w') : Below w.heap.size w w' := ⟨h.os, h.tape, h.output, h.size, fun k hk => h.block k hk (fun h => h)⟩
theorem Ext.refl (w : World) : Ext w w := fun _ _ => rfl
theorem Ext.trans {w w' x : World} (h : Ext w w') (h' : Ext w' x) : Ext w x := fun b hb => by
  have h1 := h b hb
  rw [Array.getElem?_eq_getElem hb] at h1
  exact (h' b (Array.getElem?_eq_some_iff.1 h1).1).trans (h b hb)
theorem Ext.cell {w x : World} (h : Ext w x) {b o : Nat} {u : Value} (hc : w.cell? ⟨b, o, none⟩ = some u) : x.cell? ⟨b, o, none⟩ = some u := by
  have hlt : b < w.heap.size := World.block_lt_of_cell? w ⟨b, o, none⟩ hc
  exact (World.cell?_of_block (a := ⟨b, o, none⟩) (h b hlt)).trans hc
def Sh (C : Cx) (own : List Own) (w : World) (b : Nat) : Prop := (C.S0 b ∨ C.w0.heap.size ≤ b ∨ C.M b) ∧ b < w.heap.size ∧ ¬ ownB own b
structure Mem (C : Cx) (w : World) (own : List Own) (shr : List Shr) : Prop where
  chg : Chg C.M C.w0 w
  new : ∀ x ∈ own, ∀ b, x.block = some b → C.w0.heap.size ≤ b ∨ C.M b
  sep : own.Pairwise fun x y => ∀ b, x.block = some b → y.block ≠ some b
  own_ : ∀ x ∈ own, x.good w (Sh C own w)
  shr_ : ∀ y ∈ shr, y.good w (Sh C own w)
section
variable {C : Cx} {w w' : World} {own : List Own} {shr : List Shr}
theorem Mem.start (C : Cx) {shr : List Shr} (h : ∀ y ∈ shr, y.good C.w0 C.S0) : Mem C C.w0 [] shr :=
  ⟨Chg.refl _ _, fun x hx => by simp at hx, List.Pairwise.nil, fun x hx => by simp at hx, fun y hy => Shr.good_same (h y hy) (fun _ _ => rfl) (fun b hb => ⟨.inl hb, C.s0 b hb, fun ⟨x, hx, _⟩ => by simp at hx⟩)⟩
theorem Mem.tabs (h : Mem C w own shr) : Tabs C.G w := C.gT.same fun b hb => h.chg.block b (C.g0 b hb) (C.gM b hb)
theorem Mem.g_lt (h : Mem C w own shr) : ∀ b, C.G b → b < w.heap.size := fun b hb => Nat.lt_of_lt_of_le (C.g0 b hb) h.chg.size
theorem Mem.g_own {given rest : List Own} (h : Mem C w (given ++ rest) shr) : ∀ b, C.G b → ¬ ownB given b := fun b hb ⟨x, hx, hxb⟩ =>
  (h.new x (List.mem_append_left _ hx) b hxb).elim (fun hge => absurd (C.g0 b hb) (by omega)) (C.gM b hb)
theorem g_none {C : Cx} : ∀ b, C.G b → ¬ none_ b := fun _ _ h => h
theorem Mem.drew (h : Mem C w own shr) : Mem C w.drew own shr := by
  have hs : ∀ S, Same S w w.drew := fun S b _ => rfl
  exact ⟨⟨h.chg.os, h.chg.tape, h.chg.output, h.chg.size, h.chg.block⟩, h.new, h.sep, fun x hx => Own.good_same (h.own_ x hx) (hs _) (fun _ _ => rfl) (fun b hb => hb), fun y hy => Shr.good_same (h.shr_ y hy) (hs _) (fun b hb => hb)⟩
theorem Mem.lt (h : Mem C w own shr) {x : Own} (hx : x ∈ own) : ∀ b, x.block = some b → b < w.heap.size := Own.good_lt (h.own_ x hx)
theorem Mem.add (h : Mem C w own shr) {y : Shr} (hy : y.good w (Sh C own w)) : Mem C w own (y :: shr) :=
  ⟨h.chg, h.new, h.sep, h.own_, fun z hz => by
    rcases List.mem_cons.1 hz with rfl | hz
    · exact hy
    · exact h.shr_ z hz⟩
theorem Mem.keep (h : Mem C w own shr) {shr' : List Shr} (hs : ∀ y ∈ shr', y ∈ shr) : Mem C w own shr' := ⟨h.chg, h.new, h.sep, h.own_, fun y hy => h.shr_ y (hs y hy)⟩
theorem Mem.drop (h : Mem C w own shr) {own' : List Own} (hs : own'.Sublist own) : Mem C w own' shr := by
  have hSh : ∀ b, Sh C own w b → Sh C own' w b := fun b ⟨h1, h2, h3⟩ => ⟨h1, h2, fun ⟨x, hx, hb⟩ => h3 ⟨x, hs.subset hx, hb⟩⟩
  exact ⟨h.chg, fun x hx => h.new x (hs.subset hx), h.sep.sublist hs, fun x hx => Own.good_same (h.own_ x (hs.subset hx)) (fun _ _ => rfl) (fun _ _ => rfl) hSh, fun y hy => Shr.good_same (h.shr_ y hy) (fun _ _ => rfl) hSh⟩
theorem Mem.at_ (h : Mem C w own shr) {k : Nat} {y : Shr} (hk : shr[k]? = some y) : y.good w (Sh C own w) := h.shr_ y (List.mem_of_getElem? hk)
theorem Mem.ownAt (h : Mem C w own shr) {k : Nat} {x : Own} (hk : own[k]? = some x) : x.good w (Sh C own w) := h.own_ x (List.mem_of_getElem? hk)
theorem Mem.step (h : Mem C w own shr) (w' : World) (own' : List Own) (hos : w'.os = w.os) (htape : w'.tape = w.tape) (hout : w'.output = w.output) (hsize : w.heap.size ≤ w'.heap.size)
    (hold : ∀ b, b < w.heap.size → ¬ ownB own b → w'.heap[b]? = w.heap[b]?)
    (hblk : ∀ b, ownB own' b → ownB own b ∨ w.heap.size ≤ b)
    (hsep : own'.Pairwise fun x y => ∀ b, x.block = some b → y.block ≠ some b)
    (hgood : ∀ x ∈ own', x.good w' (Sh C own' w')) : Mem C w' own' shr := by
  have hSh : ∀ b, Sh C own w b → Sh C own' w' b := fun b ⟨h1, h2, h3⟩ => ⟨h1, Nat.lt_of_lt_of_le h2 hsize, fun hb => (hblk b hb).elim h3 (fun hge => absurd h2 (by omega))⟩
  have hs : Same (Sh C own w) w w' := fun b ⟨h1, h2, h3⟩ => hold b h2 h3
  have hnew : ∀ x ∈ own', ∀ b, x.block = some b → C.w0.heap.size ≤ b ∨ C.M b := fun x hx b hb => by
    rcases hblk b ⟨x, hx, hb⟩ with ⟨y, hy, hyb⟩ | hge
    · exact h.new y hy b hyb
    · exact .inl (Nat.le_trans h.chg.size hge)
  refine ⟨⟨hos.trans h.chg.os, htape.trans h.chg.tape, hout.trans h.chg.output, Nat.le_trans h.chg.size hsize, fun b hb hM => ?_⟩, hnew, hsep, hgood, fun y hy => Shr.good_same (h.shr_ y hy) hs hSh⟩
  rw [hold b (Nat.lt_of_lt_of_le hb h.chg.size) (fun ⟨x, hx, hxb⟩ => (h.new x hx b hxb).elim (fun hge => absurd hb (by omega)) hM)]
  exact h.chg.block b hb hM
theorem Mem.alloc (h : Mem C w own shr) (cs : List Value) (T : TypeId) : Mem C (w.alloc (.cells cs.toArray T)) (.box w.heap.size cs T :: own) shr ∧ Ext w (w.alloc (.cells cs.toArray T)) := by
  have hold : ∀ b, b < w.heap.size → (w.alloc (.cells cs.toArray T)).heap[b]? = w.heap[b]? := fun b hb => Below.heap_alloc w _ b hb
  have hblk : ∀ b, ownB (.box w.heap.size cs T :: own) b → ownB own b ∨ w.heap.size ≤ b := by
    rintro b ⟨x, hx, hb⟩
    rcases List.mem_cons.1 hx with rfl | hx
    · cases hb; exact .inr (Nat.le_refl _)
    · exact .inl ⟨x, hx, hb⟩
  refine ⟨h.step _ _ rfl rfl rfl (by simp) (fun b hb _ => hold b hb) hblk ?_ ?_, hold⟩
  · refine List.Pairwise.cons (fun y hy b hb hy' => ?_) h.sep
    cases hb
    exact absurd (h.lt hy _ hy') (by omega)
  · intro x hx
    rcases List.mem_cons.1 hx with rfl | hx
    · exact heap_alloc_new w _
    · refine Own.good_same (h.own_ x hx) (fun b hb => hold b hb.2.1) (fun b hb => hold b (h.lt hx b hb)) (fun b ⟨h1, h2, h3⟩ => ⟨h1, by simp; omega, fun hb => (hblk b hb).elim h3 (fun hge => absurd h2 (by omega))⟩)
theorem Mem.allocO (h : Mem C w own shr) (o : Obj) : Mem C (w.alloc o) (.obj w.heap.size o :: own) shr ∧ Ext w (w.alloc o) := by
  have hold : ∀ b, b < w.heap.size → (w.alloc o).heap[b]? = w.heap[b]? := fun b hb => Below.heap_alloc w _ b hb
  have hblk : ∀ b, ownB (.obj w.heap.size o :: own) b → ownB own b ∨ w.heap.size ≤ b := by
    rintro b ⟨x, hx, hb⟩
    rcases List.mem_cons.1 hx with rfl | hx
    · cases hb; exact .inr (Nat.le_refl _)
    · exact .inl ⟨x, hx, hb⟩
  refine ⟨h.step _ _ rfl rfl rfl (by simp) (fun b hb _ => hold b hb) hblk ?_ ?_, hold⟩
  · refine List.Pairwise.cons (fun y hy b hb hy' => ?_) h.sep
    cases hb
    exact absurd (h.lt hy _ hy') (by omega)
  · intro x hx
    rcases List.mem_cons.1 hx with rfl | hx
    · exact heap_alloc_new w _
    · refine Own.good_same (h.own_ x hx) (fun b hb => hold b hb.2.1) (fun b hb => hold b (h.lt hx b hb)) (fun b ⟨h1, h2, h3⟩ => ⟨h1, by simp; omega, fun hb => (hblk b hb).elim h3 (fun hge => absurd h2 (by omega))⟩)
theorem Mem.call (h : Mem C w own shr) (hc : Chg none_ w w') : Mem C w' own shr ∧ Ext w w' := by
  have hold : ∀ b, b < w.heap.size → w'.heap[b]? = w.heap[b]? := fun b hb => hc.block b hb (fun h => h)
  have hSh : ∀ b, Sh C own w b → Sh C own w' b := fun b ⟨h1, h2, h3⟩ => ⟨h1, Nat.lt_of_lt_of_le h2 hc.size, h3⟩
  exact ⟨h.step w' own hc.os hc.tape hc.output hc.size (fun b hb _ => hold b hb) (fun b hb => .inl hb) h.sep (fun x hx => Own.good_same (h.own_ x hx) (fun b hb => hold b hb.2.1) (fun b hb => hold b (h.lt hx b hb)) hSh), hold⟩
theorem ownB_append {a b : List Own} {k : Nat} : ownB (a ++ b) k ↔ ownB a k ∨ ownB b k := by
  constructor
  · rintro ⟨x, hx, h⟩
    rcases List.mem_append.1 hx with hx | hx
    · exact .inl ⟨x, hx, h⟩
    · exact .inr ⟨x, hx, h⟩
  · rintro (⟨x, hx, h⟩ | ⟨x, hx, h⟩)
    · exact ⟨x, List.mem_append_left _ hx, h⟩
    · exact ⟨x, List.mem_append_right _ hx, h⟩
theorem Mem.sub {given rest : List Own} (h : Mem C w (given ++ rest) shr) : Mem ⟨w, Sh C (given ++ rest) w, ownB given, fun b hb => hb.2.1, fun b hb hg => hb.2.2 (ownB_append.2 (.inl hg)), C.G, h.g_lt, h.g_own, h.tabs⟩ w given [] := by
  have hsep := List.pairwise_append.1 h.sep
  have hSh : ∀ b, Sh C (given ++ rest) w b → Sh ⟨w, Sh C (given ++ rest) w, ownB given, fun b hb => hb.2.1, fun b hb hg => hb.2.2 (ownB_append.2 (.inl hg)), C.G, h.g_lt, h.g_own, h.tabs⟩ given w b := fun b hb => ⟨.inl hb, hb.2.1, fun hg => hb.2.2 (ownB_append.2 (.inl hg))⟩
  exact ⟨Chg.refl _ _, fun x hx b hb => .inr ⟨x, hx, hb⟩, hsep.1, fun x hx => Own.good_same (h.own_ x (List.mem_append_left _ hx)) (fun _ _ => rfl) (fun _ _ => rfl) hSh, fun y hy => by simp at hy⟩
theorem Mem.backG {given rest out : List Own} (h : Mem C w (given ++ rest) shr) {hS : ∀ b, Sh C (given ++ rest) w b → b < w.heap.size} {hT : ∀ b, Sh C (given ++ rest) w b → ¬ ownB given b} {hg0 : ∀ b, C.G b → b < w.heap.size} {hgM : ∀ b, C.G b → ¬ ownB given b} {hgT : Tabs C.G w} {shr' : List Shr} (h' : Mem ⟨w, Sh C (given ++ rest) w, ownB given, hS, hT, C.G, hg0, hgM, hgT⟩ w' out shr') :
    Mem C w' (out ++ rest) shr ∧ ∀ {α : Type} {K : Rep α} {x : α} {row : List Value}, K.R w' (Sh ⟨w, Sh C (given ++ rest) w, ownB given, hS, hT, C.G, hg0, hgM, hgT⟩ out w') x row → K.R w' (Sh C (out ++ rest) w') x row := by
  have hc := h'.chg
  have hold : ∀ b, b < w.heap.size → ¬ ownB given b → w'.heap[b]? = w.heap[b]? := hc.block
  have hrest : ∀ x ∈ rest, ∀ b, x.block = some b → b < w.heap.size ∧ ¬ ownB given b := fun x hx b hb => ⟨h.lt (List.mem_append_right _ hx) b hb, fun ⟨y, hy, hyb⟩ => (List.pairwise_append.1 h.sep).2.2 y hy x hx b hyb hb⟩
  have hblk : ∀ b, ownB (out ++ rest) b → ownB (given ++ rest) b ∨ w.heap.size ≤ b := fun b hb => by
    rcases ownB_append.1 hb with ⟨x, hx, hxb⟩ | hb
    · rcases h'.new x hx b hxb with h1 | h1
      · exact .inr h1
      · exact .inl (ownB_append.2 (.inl h1))
    · exact .inl (ownB_append.2 (.inr hb))
  have hSh' : ∀ b, Sh ⟨w, Sh C (given ++ rest) w, ownB given, hS, hT, C.G, hg0, hgM, hgT⟩ out w' b → Sh C (out ++ rest) w' b := fun b ⟨h1, h2, h3⟩ => by
    have hrst : ¬ ownB rest b := by
      rintro ⟨x, hx, hxb⟩
      obtain ⟨q1, q2⟩ := hrest x hx b hxb
      rcases h1 with h1 | h1 | h1
      · exact h1.2.2 (ownB_append.2 (.inr ⟨x, hx, hxb⟩))
      · have h1' : w.heap.size ≤ b := h1
        omega
      · exact q2 h1
    refine ⟨?_, h2, fun hb => (ownB_append.1 hb).elim h3 hrst⟩
    rcases h1 with h1 | h1 | ⟨x, hx, hxb⟩
    · exact h1.1
    · exact .inr (.inl (Nat.le_trans h.chg.size h1))
    · exact .inr (h.new x (List.mem_append_left _ hx) b hxb)
  have hShr : ∀ b, Sh C (given ++ rest) w b → ¬ ownB (out ++ rest) b := fun b hb hn => (hblk b hn).elim hb.2.2 fun hge => absurd hb.2.1 (by omega)
  refine ⟨h.step w' _ hc.os hc.tape hc.output hc.size (fun b hb hn => hold b hb fun hg => hn (ownB_append.2 (.inl hg))) hblk ?_ ?_, fun {α K x row} hr => K.mono hr hSh'⟩
  · refine List.pairwise_append.2 ⟨h'.sep, (List.pairwise_append.1 h.sep).2.1, fun x hx y hy b hxb hyb => ?_⟩
    obtain ⟨q1, q2⟩ := hrest y hy b hyb
    rcases h'.new x hx b hxb with h1 | h1
    · have h1' : w.heap.size ≤ b := h1
      omega
    · exact q2 h1
  · intro x hx
    rcases List.mem_append.1 hx with hx | hx
    · exact Own.good_same (h'.own_ x hx) (fun _ _ => rfl) (fun _ _ => rfl) hSh'
    · refine Own.good_same (h.own_ x (List.mem_append_right _ hx)) (fun b hb => hold b hb.2.1 fun hg => hb.2.2 (ownB_append.2 (.inl hg))) (fun b hb => hold b (hrest x hx b hb).1 (hrest x hx b hb).2) fun b hb => ⟨hb.1, Nat.lt_of_lt_of_le hb.2.1 hc.size, hShr b hb⟩
theorem none_own : (none_ : Nat → Prop) = ownB [] := by
  funext b
  exact propext ⟨fun h => h.elim, fun ⟨x, hx, _⟩ => by simp at hx⟩
theorem Mem.back {out : List Own} (h : Mem C w own shr) {hS : ∀ b, Sh C own w b → b < w.heap.size} {hT : ∀ b, Sh C own w b → ¬ none_ b} {hg0 : ∀ b, C.G b → b < w.heap.size} {hgM : ∀ b, C.G b → ¬ none_ b} {hgT : Tabs C.G w} {shr' : List Shr} (h' : Mem ⟨w, Sh C own w, none_, hS, hT, C.G, hg0, hgM, hgT⟩ w' out shr') :
    Mem C w' (out ++ own) shr ∧ Ext w w' ∧ ∀ {α : Type} {K : Rep α} {x : α} {row : List Value}, K.R w' (Sh ⟨w, Sh C own w, none_, hS, hT, C.G, hg0, hgM, hgT⟩ out w') x row → K.R w' (Sh C (out ++ own) w') x row := by
  have hx : Ext w w' := fun b hb => h'.chg.block b hb (fun h => h)
  have e : (⟨w, Sh C own w, none_, hS, hT, C.G, hg0, hgM, hgT⟩ : Cx) = ⟨w, Sh C ([] ++ own) w, ownB [], hS, fun b _ ⟨x, hx, _⟩ => by simp at hx, C.G, hg0, fun b _ ⟨x, hx, _⟩ => by simp at hx, hgT⟩ := by
    congr 1
    exact none_own
  rw [e] at h' ⊢
  obtain ⟨h1, h2⟩ := Mem.backG (given := []) (rest := own) h h'
  exact ⟨h1, hx, h2⟩
theorem Mem.boxCell (h : Mem C w own shr) {k : Nat} {b : Nat} {cs : List Value} {T : TypeId} (hk : own[k]? = some (.box b cs T)) {o : Nat} {u : Value} (hu : cs[o]? = some u) : w.cell? ⟨b, o, none⟩ = some u := by
  have hg : w.heap[b]? = some (.cells cs.toArray T (0, 0)) := h.ownAt hk
  rw [cell_of_row w b o cs.toArray T (0, 0) hg]
  simpa using hu
theorem Mem.boxSub (h : Mem C w own shr) {k : Nat} {b : Nat} {cs us : List Value} {T : TypeId} (hk : own[k]? = some (.box b cs T)) {o : Nat} (hu : (cs.drop o).take us.length = us) : ∀ j u, us[j]? = some u → w.cell? ⟨b, o + j, none⟩ = some u := by
  intro j u hj
  refine h.boxCell hk ?_
  rw [← hu, List.getElem?_take] at hj
  split at hj
  · rwa [List.getElem?_drop] at hj
  · cases hj
theorem Mem.litSub (h : Mem C w own shr) {k : Nat} {b o : Nat} {cs us : List Value} (hk : shr[k]? = some (.lit b o cs)) {d p : Nat} (hp : o + d = p) (hu : (cs.drop d).take us.length = us) : ∀ j u, us[j]? = some u → w.cell? ⟨b, p + j, none⟩ = some u := by
  subst hp
  intro j u hj
  rw [Nat.add_assoc]
  refine (h.at_ hk).2 (d + j) u ?_
  rw [← hu, List.getElem?_take] at hj
  split at hj
  · rwa [List.getElem?_drop] at hj
  · cases hj
theorem Mem.litCell (h : Mem C w own shr) {k : Nat} {b o : Nat} {cs : List Value} (hk : shr[k]? = some (.lit b o cs)) {j p : Nat} {u : Value} (hp : o + j = p) (hu : cs[j]? = some u) : w.cell? ⟨b, p, none⟩ = some u := by
  subst hp; exact (h.at_ hk).2 j u hu
theorem sep_erase {own : List Own} (hs : own.Pairwise fun x y => ∀ b, x.block = some b → y.block ≠ some b) {k : Nat} {x : Own} (hk : own[k]? = some x) {b : Nat} (hb : x.block = some b) : ¬ ownB (own.eraseIdx k) b := by
  rintro ⟨y, hy, hyb⟩
  rw [List.mem_eraseIdx_iff_getElem?] at hy
  obtain ⟨j, hjk, hj⟩ := hy
  obtain ⟨hk1, hk2⟩ := List.getElem?_eq_some_iff.1 hk
  obtain ⟨hj1, hj2⟩ := List.getElem?_eq_some_iff.1 hj
  rw [List.pairwise_iff_getElem] at hs
  rcases Nat.lt_or_ge k j with hlt | hge
  · have := hs k j hk1 hj1 hlt b (by rw [hk2]; exact hb)
    rw [hj2] at this
    exact this hyb
  · have := hs j k hj1 hk1 (by omega) b (by rw [hj2]; exact hyb)
    rw [hk2] at this
    exact this hb
theorem Mem.freezeBox (h : Mem C w own shr) {k : Nat} {b : Nat} {cs : List Value} {T : TypeId} (hk : own[k]? = some (.box b cs T)) {own' : List Own} (ho : own.eraseIdx k = own') : Mem C w own' (.lit b 0 cs :: shr) := by
  subst ho
  have hm : Mem C w (own.eraseIdx k) shr := h.drop (List.eraseIdx_sublist own k)
  have hx : Own.box b cs T ∈ own := List.mem_of_getElem? hk
  exact hm.add ⟨⟨.inr (h.new _ hx b rfl), h.lt hx b rfl, sep_erase h.sep hk rfl⟩, fun j u hu => by rw [Nat.zero_add]; exact h.boxCell hk hu⟩
theorem row_rep {α : Type} {K : Rep α} {A : Option Addr} {c : Nat} {e : TypeId} {xs : List α} {app : Bool} {S T : Nat → Prop} (h : (Own.row K A c e xs app).good w S) (hT : ∀ b, S b → T b) (hA : ∀ g, A = some ⟨g, 0, none⟩ → T g) : (sliceRep K).R w T xs [vL A xs c] := by
  obtain ⟨rows, hr, h⟩ := h
  rcases h with ⟨rfl, rfl, rfl⟩ | ⟨g, cur, fr, rfl, hg, hc, hm, hs, ht, _⟩
  · exact nil_slice K w T
  · refine ⟨_, _, rfl, hc, hm, fun _ => ⟨g, 0, rfl, hA g rfl, fun i x hx => ?_⟩⟩
    obtain ⟨row, h1, h2⟩ := hr.2 i x hx
    refine ⟨row, K.mono h2 hT, fun j u hu => ?_⟩
    have hf := hr.at_ h1 hu
    rw [← ht, List.getElem?_take] at hf
    have hi : i < xs.length := (List.getElem?_eq_some_iff.1 hx).1
    have hj : j < K.size := by rw [← K.len h2]; exact (List.getElem?_eq_some_iff.1 hu).1
    have hlt : i * K.size + j < xs.length * K.size := by
      have : i * K.size + K.size ≤ xs.length * K.size := by rw [← Nat.succ_mul]; exact Nat.mul_le_mul_right _ hi
      omega
    rw [if_pos hlt] at hf
    rw [Nat.zero_add, cell_of_row w g _ cur e fr hg]
    simpa using hf
theorem Mem.freezeRow (h : Mem C w own shr) {k : Nat} {α : Type} {K : Rep α} {A : Option Addr} {c : Nat} {e : TypeId} {xs : List α} {app : Bool} (hk : own[k]? = some (.row K A c e xs app)) {own' : List Own} (ho : own.eraseIdx k = own') :
    Mem C w own' (.dat (sliceRep K) xs [vL A xs c] :: shr) := by
  subst ho
  have hm : Mem C w (own.eraseIdx k) shr := h.drop (List.eraseIdx_sublist own k)
  have hx : Own.row K A c e xs app ∈ own := List.mem_of_getElem? hk
  refine hm.add (row_rep (h.ownAt hk) (fun b ⟨h1, h2, h3⟩ => ⟨h1, h2, fun ⟨y, hy, hyb⟩ => h3 ⟨y, (List.eraseIdx_sublist own k).subset hy, hyb⟩⟩) fun g hg => ?_)
  have hb : (Own.row K A c e xs app).block = some g := by rw [hg]; rfl
  exact ⟨.inr (h.new _ hx g hb), h.lt hx g hb, sep_erase h.sep hk hb⟩
def All (C : Cx) (own : List Own) (w : World) (b : Nat) : Prop := Sh C own w b ∨ ownB own b
theorem Mem.all_lt (h : Mem C w own shr) : ∀ b, All C own w b → b < w.heap.size := fun b hb => hb.elim (fun h => h.2.1) fun ⟨x, hx, hxb⟩ => h.lt hx b hxb
theorem Mem.lendRow (h : Mem C w own shr) {k : Nat} {α : Type} {K : Rep α} {A : Option Addr} {c : Nat} {e : TypeId} {xs : List α} {app : Bool} (hk : own[k]? = some (.row K A c e xs app)) : (sliceRep K).R w (All C own w) xs [vL A xs c] :=
  row_rep (h.ownAt hk) (fun b hb => .inl hb) fun g hg => .inr ⟨_, List.mem_of_getElem? hk, by rw [hg]; rfl⟩
theorem Mem.lendDat (h : Mem C w own shr) {k : Nat} {α : Type} {K : Rep α} {x : α} {row : List Value} (hk : shr[k]? = some (.dat K x row)) : K.R w (All C own w) x row := K.mono (h.at_ hk) fun b hb => .inl hb
theorem Mem.lendBox (h : Mem C w own shr) {k b : Nat} {cs : List Value} {T : TypeId} (hk : own[k]? = some (.box b cs T)) {α : Type} {K : Rep α} {x : α} (hr : K.R w (All C own w) x cs) : (ptrRep K).R w (All C own w) x [vP b 0] :=
  ⟨b, 0, cs, rfl, .inr ⟨_, List.mem_of_getElem? hk, rfl⟩, hr, fun j u hu => by rw [Nat.zero_add]; exact h.boxCell hk hu⟩
theorem Mem.dat (h : Mem C w own shr) {k : Nat} {α : Type} {K : Rep α} {x : α} {row : List Value} (hk : shr[k]? = some (.dat K x row)) : K.R w (Sh C own w) x row := h.at_ hk
theorem Mem.sameS (h : Mem C w own shr) : Same C.S0 C.w0 w := fun b hb => h.chg.block b (C.s0 b hb) (C.s1 b hb)
theorem Mem.s0sh (h : Mem C w own shr) : ∀ b, C.S0 b → Sh C own w b := fun b hb => ⟨.inl hb, Nat.lt_of_lt_of_le (C.s0 b hb) h.chg.size, fun ⟨x, hx, hxb⟩ => (h.new x hx b hxb).elim (fun hge => absurd (C.s0 b hb) (by omega)) (C.s1 b hb)⟩
theorem Mem.sh_lt (h : Mem C w own shr) : ∀ b, Sh C own w b → b < w.heap.size := fun b hb => hb.2.1
theorem Mem.backA (h : Mem C w own shr) {hS : ∀ b, All C own w b → b < w.heap.size} {hT : ∀ b, All C own w b → ¬ none_ b} {hg0 : ∀ b, C.G b → b < w.heap.size} {hgM : ∀ b, C.G b → ¬ none_ b} {hgT : Tabs C.G w} {shr' : List Shr} (h' : Mem ⟨w, All C own w, none_, hS, hT, C.G, hg0, hgM, hgT⟩ w' [] shr') : Mem C w' own shr ∧ Ext w w' := h.call ⟨h'.chg.os, h'.chg.tape, h'.chg.output, h'.chg.size, h'.chg.block⟩
def Rep.Flat {α : Type} (K : Rep α) : Prop := ∀ {w w' : World} {S T : Nat → Prop} {x : α} {row : List Value}, K.R w S x row → K.R w' T x row
theorem Mem.backAF {α : Type} {K : Rep α} {A : Option Addr} {c : Nat} {e : TypeId} {xs : List α} {app : Bool} (h : Mem C w own shr) (hK : K.Flat) {hS : ∀ b, All C own w b → b < w.heap.size} {hT : ∀ b, All C own w b → ¬ none_ b} {hg0 : ∀ b, C.G b → b < w.heap.size} {hgM : ∀ b, C.G b → ¬ none_ b} {hgT : Tabs C.G w} {shr' : List Shr} (h' : Mem ⟨w, All C own w, none_, hS, hT, C.G, hg0, hgM, hgT⟩ w' [.row K A c e xs app] shr') :
    Mem C w' (.row K A c e xs app :: own) shr ∧ Ext w w' := by
  obtain ⟨h1, hx⟩ := h.call (w' := w') ⟨h'.chg.os, h'.chg.tape, h'.chg.output, h'.chg.size, h'.chg.block⟩
  have hg := h'.own_ (.row K A c e xs app) (by simp)
  have hnew : ∀ b, (Own.row K A c e xs app).block = some b → w.heap.size ≤ b := fun b hb => (h'.new _ (by simp) b hb).resolve_right (fun h => h)
  have hblk : ∀ b, ownB (.row K A c e xs app :: own) b → ownB own b ∨ w.heap.size ≤ b := by
    rintro b ⟨x, hx, hb⟩
    rcases List.mem_cons.1 hx with rfl | hx
    · exact .inr (hnew b hb)
    · exact .inl ⟨x, hx, hb⟩
  refine ⟨h.step w' _ h'.chg.os h'.chg.tape h'.chg.output h'.chg.size (fun b hb _ => hx b hb) hblk (List.Pairwise.cons (fun y hy b hb hyb => absurd (h.lt hy b hyb) (by have := hnew b hb; omega)) h.sep) fun x hxm => ?_, hx⟩
  rcases List.mem_cons.1 hxm with rfl | hxm
  · obtain ⟨rows, hr, hrow⟩ := hg
    exact ⟨rows, ⟨hr.1, fun i y hy => by obtain ⟨r, h1, h2⟩ := hr.2 i y hy; exact ⟨r, h1, hK h2⟩⟩, hrow⟩
  · refine Own.good_same (h.own_ x hxm) (fun b hb => hx b hb.2.1) (fun b hb => hx b (h.lt hxm b hb)) fun b hb => ⟨hb.1, Nat.lt_of_lt_of_le hb.2.1 h'.chg.size, fun hn => (hblk b hn).elim hb.2.2 fun hge => absurd hb.2.1 (by omega)⟩
theorem Mem.front (h : Mem C w own shr) {k : Nat} {x : Own} (hk : own[k]? = some x) : Mem C w (x :: own.eraseIdx k) shr := by
  have hx : x ∈ own := List.mem_of_getElem? hk
  have hB : ∀ b, ownB (x :: own.eraseIdx k) b ↔ ownB own b := by
    intro b
    constructor
    · rintro ⟨y, hy, hyb⟩
      rcases List.mem_cons.1 hy with rfl | hy
      · exact ⟨y, hx, hyb⟩
      · exact ⟨y, (List.eraseIdx_sublist own k).subset hy, hyb⟩
    · rintro ⟨y, hy, hyb⟩
      obtain ⟨i, hi, rfl⟩ := List.getElem_of_mem hy
      by_cases hik : i = k
      · subst hik
        rw [List.getElem?_eq_getElem hi, Option.some.injEq] at hk
        exact ⟨x, by simp, by rw [← hk]; exact hyb⟩
      · exact ⟨own[i], List.mem_cons_of_mem _ (List.mem_eraseIdx_iff_getElem?.2 ⟨i, hik, List.getElem?_eq_getElem hi⟩), hyb⟩
  have hSh : ∀ b, Sh C own w b → Sh C (x :: own.eraseIdx k) w b := fun b ⟨h1, h2, h3⟩ => ⟨h1, h2, fun hb => h3 ((hB b).1 hb)⟩
  have hmem : ∀ y ∈ x :: own.eraseIdx k, y ∈ own := fun y hy => (List.mem_cons.1 hy).elim (fun e => e ▸ hx) fun hy => (List.eraseIdx_sublist own k).subset hy
  refine ⟨h.chg, fun y hy => h.new y (hmem y hy), List.Pairwise.cons (fun y hy b hb hyb => ?_) (h.sep.sublist (List.eraseIdx_sublist own k)), fun y hy => Own.good_same (h.own_ y (hmem y hy)) (fun _ _ => rfl) (fun _ _ => rfl) hSh, fun y hy => Shr.good_same (h.shr_ y hy) (fun _ _ => rfl) hSh⟩
  exact sep_erase h.sep hk hb ⟨y, hy, hyb⟩
theorem Mem.elem (h : Mem C w own shr) {α : Type} {K : Rep α} {A : Option Addr} {c : Nat} {xs : List α} (hk : (sliceRep K).R w (Sh C own w) xs [vL A xs c]) {n : Nat} (hn : K.size = n) {i : Int} {x : α} (hx : getL xs i = some x) :
    ∃ b o row, A = some ⟨b, o, none⟩ ∧ 0 ≤ i ∧ i < xs.length ∧ K.R w (Sh C own w) x row ∧ Mem C w own (.lit b (o + i.toNat * n) row :: shr) := by
  subst hn
  obtain ⟨h0, hlt, hg⟩ := getL_some hx
  obtain ⟨A', c', he, hc, hm, hsr⟩ := hk
  simp only [List.cons.injEq, Value.slice.injEq, and_true] at he
  obtain ⟨rfl, _, rfl⟩ := he
  obtain ⟨b, off, rfl, hb, hcell⟩ := hsr (by omega)
  obtain ⟨row, hr, hcell⟩ := hcell _ x hg
  exact ⟨b, off, row, rfl, h0, by omega, hr, h.add ⟨hb, hcell⟩⟩
theorem Mem.deref (h : Mem C w own shr) {α : Type} {K : Rep α} {x : α} {b o : Nat} (hk : (ptrRep K).R w (Sh C own w) x [vP b o]) : ∃ row, K.R w (Sh C own w) x row ∧ Mem C w own (.lit b o row :: shr) := by
  obtain ⟨b', o', row, he, hb, hr, hc⟩ := hk
  simp only [List.cons.injEq, Value.pointer.injEq, Option.some.injEq, Addr.mk.injEq, and_true] at he
  obtain ⟨rfl, rfl⟩ := he
  exact ⟨row, hr, h.add ⟨hb, hc⟩⟩
theorem sub_rep {α : Type} {K : Rep α} {S : Nat → Prop} {A : Option Addr} {c : Nat} {xs ys : List α} {l u : Int} (hk : (sliceRep K).R w S xs [vL A xs c]) (hs : subL xs l u = some ys) :
    ∃ A', (sliceRep K).R w S ys [vL A' ys (c - l.toNat)] ∧ A' = (if c - l.toNat = 0 ∧ False then A else if c = l.toNat then A else A.map (·.add (l.toNat * K.size))) := by
  obtain ⟨h0, h1, h2, hy, hl⟩ := subL_some hs
  obtain ⟨A', c', he, hc, hm, hsr⟩ := hk
  simp only [List.cons.injEq, Value.slice.injEq, and_true] at he
  obtain ⟨rfl, _, rfl⟩ := he
  refine ⟨_, ⟨_, _, rfl, by omega, by omega, fun hn => ?_⟩, rfl⟩
  obtain ⟨b, off, rfl, hb, hcell⟩ := hsr (by omega)
  rw [if_neg (by simp), if_neg (by omega)]
  refine ⟨b, off + l.toNat * K.size, ?_, hb, fun i x hx => ?_⟩
  · simp only [Option.map_some, Addr.add]
    split
    · rename_i hz; simp [hz]
    · rfl
  · rw [hy, List.getElem?_take] at hx
    split at hx
    · rw [List.getElem?_drop] at hx
      obtain ⟨row, hr, hcell⟩ := hcell _ x hx
      refine ⟨row, hr, fun j u hu => ?_⟩
      rw [← hcell j u hu]
      congr 2
      rw [Nat.add_mul]; omega
    · cases hx
end
end Go.Proofs.YtdaoecpkgobelaaGreatDoor
