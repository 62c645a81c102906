/- Words for memory: what a slice reads as, what stays as it was; plain lemmas, no program in sight but for the names. -/
import Derived.Test.YtdngdgjlcfbdhaaRows
import Derived.WalkKit
import Derived.WalkSpells
import Derived.Deep.RegionHeld3
import Derived.Deep.DrawnRows
import Derived.Deep.QuietTactic
import Derived.Deep.AppendLies
import Derived.Maps.AppendAt
import Derived.Deep.Draws
import Derived.BigQuiet
import Derived.Lib.Hide
import Derived.Deep.Light
import Derived.Deep.DeepMust
import Derived.Deep.DeepFit
namespace Go.Proofs.Ytdngdgjlcfbdhaa
open Go.RowKit
set_option linter.unusedSimpArgs false
set_option linter.unusedVariables false

theorem ret_int {k : IntKind} {a b : Int} (h : a = b) : Ending.returned (.int k a) = .returned (.int k b) := by rw [h]
theorem ret_bool {a b : Bool} (h : a = b) : Ending.returned (.bool a) = .returned (.bool b) := by rw [h]
theorem ret_bool_iff {a b : Bool} (h : a = true ↔ b = true) : Ending.returned (.bool a) = .returned (.bool b) := by rw [Bool.eq_iff_iff.2 h]

theorem bytes_beq (a b : ByteArray) : (a.toList == b.toList) = decide (a = b) := by
  rw [Bool.eq_iff_iff, beq_iff_eq, decide_eq_true_iff, ByteArray.toList_eq, ByteArray.toList_eq]
  exact ⟨fun h => Go.WideShapes.bytes_inj h, fun h => by rw [h]⟩

/-- A call of function f through a value enters it. -/
def Ent (P : Program) (f : FuncId) : Prop := ∀ (args : Array Value) (w : World), (callFunc f args).run P w = .ok (.enter f args) w

theorem ent_of {P : Program} {f : FuncId} {fn : Func} {c : Code} (hf : P.funcs[f]? = some fn) (hname : (fn.name == "runtime.NumGoroutine") = false) (hb : fn.body = some c) : Ent P f := by
  intro args w
  have h1 : fn.name ≠ "runtime.NumGoroutine" := by simpa using hname
  simp [callFunc, hf, h1, hb, mark]

theorem bdrewN {B : Nat} {a w : World} (h : Below B a w) (n : Nat) : Below B a (w.drewN n) := ⟨h.os, h.tape, h.output, h.size, h.block⟩

/-- One call more, behind a draw or not. -/
theorem below_go {B : Nat} {w W W' w1 : World} (hB : Below B w W) (hb : Below W'.heap.size W' w1) (h : W'.os = W.os ∧ W'.tape = W.tape ∧ W'.output = W.output ∧ W'.heap = W.heap) (hle : B ≤ W.heap.size) : Below B w w1 :=
  hB.trans ⟨hb.os.trans h.1, hb.tape.trans h.2.1, hb.output.trans h.2.2.1, by rw [← h.2.2.2]; exact hb.size, fun k hk => by rw [← h.2.2.2]; exact hb.block k (by rw [h.2.2.2]; omega)⟩

/-- Blocks that satisfy P are as they were. -/
def Same (P : Nat → Prop) (w w' : World) : Prop := ∀ b, P b → w'.heap[b]? = w.heap[b]?

theorem Same.refl (P : Nat → Prop) (w : World) : Same P w w := fun _ _ => rfl
theorem Same.trans {P : Nat → Prop} {a b c : World} (h : Same P a b) (k : Same P b c) : Same P a c := fun i hi => (k i hi).trans (h i hi)
theorem Same.mono {P Q : Nat → Prop} {a b : World} (h : Same P a b) (k : ∀ i, Q i → P i) : Same Q a b := fun i hi => h i (k i hi)
theorem Same.cell {P : Nat → Prop} {w w' : World} (h : Same P w w') {a : Addr} (hp : P a.block) : w'.cell? a = w.cell? a := World.cell?_of_block (h _ hp)
theorem Same.frozen {P : Nat → Prop} {w w' : World} (h : Same P w w') {a : Addr} (hp : P a.block) : w'.frozen? a = w.frozen? a := World.frozen?_of_block (h _ hp)
theorem Same.of_below {B : Nat} {w w' : World} (h : Below B w w') : Same (· < B) w w' := fun i hi => h.block i hi
theorem Same.drew {P : Nat → Prop} {a w : World} (h : Same P a w) : Same P a w.drew := h
theorem Same.drewN {P : Nat → Prop} {a w : World} (h : Same P a w) (n : Nat) : Same P a (w.drewN n) := h
theorem Same.alloc {P : Nat → Prop} {a w : World} (h : Same P a w) (hP : ∀ i, P i → i < w.heap.size) (o : Obj) : Same P a (w.alloc o) :=
  h.trans fun i hi => Below.heap_alloc _ _ i (hP i hi)
theorem Same.setCell {P : Nat → Prop} {a w : World} (h : Same P a w) {p : Addr} (hP : ¬ P p.block) (u : Value) : Same P a (w.setCell p u) :=
  h.trans fun i hi => Below.heap_setCell _ _ _ i (fun e => hP (e ▸ hi))
theorem Same.grown {P : Nat → Prop} {a w w' : World} {row : Option Nat} (h : Same P a w) (hg : w.grownBy w' row) (hP : ∀ i, P i → i < w.heap.size ∧ some i ≠ row) : Same P a w' :=
  h.trans fun i hi => hg.block i (hP i hi).1 (hP i hi).2

/-- How a Lean datum lies in a row of cells: 'R w P x row': in the world w the cells 'row' stand for x; what they lead to lies in blocks that satisfy P. -/
structure Rep (α : Type) where
  size : Nat
  R : World → (Nat → Prop) → α → List Value → Prop
  len : ∀ {w P x row}, R w P x row → row.length = size
  same : ∀ {w w' P x row}, R w P x row → Same P w w' → R w' P x row
  mono : ∀ {w P Q x row}, R w P x row → (∀ b, P b → Q b) → R w Q x row

/-- A datum whose cells are given by a function. -/
def Rep.flat {α : Type} (cells : α → List Value) (size : Nat) (h : ∀ x, (cells x).length = size) : Rep α where
  size := size
  R := fun _ _ x row => row = cells x
  len := fun e => by rw [e]; exact h _
  same := fun e _ => e
  mono := fun e _ => e

/-- The slice of address A reads as the list xs. -/
def SR {α : Type} (K : Rep α) (w : World) (P : Nat → Prop) (A : Option Addr) (xs : List α) : Prop :=
  0 < xs.length → ∃ b off, A = some ⟨b, off, none⟩ ∧ P b ∧ ∀ i x, xs[i]? = some x → ∃ row, K.R w P x row ∧ ∀ j u, row[j]? = some u → w.cell? ⟨b, off + i * K.size + j, none⟩ = some u

section
variable {α : Type} {K : Rep α} {w w' : World} {P Q : Nat → Prop} {A : Option Addr} {xs : List α}

theorem SR.nil_ (K : Rep α) (w : World) (P : Nat → Prop) (A : Option Addr) : SR K w P A [] := fun h => absurd h (by simp)

theorem SR.same (h : SR K w P A xs) (hs : Same P w w') : SR K w' P A xs := fun hn => by
  obtain ⟨b, off, rfl, hb, hc⟩ := h hn
  refine ⟨b, off, rfl, hb, fun i x hx => ?_⟩
  obtain ⟨row, hr, hcell⟩ := hc i x hx
  exact ⟨row, K.same hr hs, fun j u hu => (hs.cell (a := ⟨b, _, none⟩) hb).trans (hcell j u hu)⟩

theorem SR.mono (h : SR K w P A xs) (hq : ∀ b, P b → Q b) : SR K w Q A xs := fun hn => by
  obtain ⟨b, off, rfl, hb, hc⟩ := h hn
  refine ⟨b, off, rfl, hq _ hb, fun i x hx => ?_⟩
  obtain ⟨row, hr, hcell⟩ := hc i x hx
  exact ⟨row, K.mono hr hq, hcell⟩

theorem SR.below {B : Nat} (h : SR K w (· < B) A xs) (hb : Below B w w') : SR K w' (· < B) A xs := h.same (Same.of_below hb)
theorem SR.more {B B' : Nat} (h : SR K w (· < B) A xs) (hB : B ≤ B') : SR K w (· < B') A xs := h.mono fun b (hb : b < B) => Nat.lt_of_lt_of_le hb hB
/-- Carried on to a later world, all of it lying below that world's end. -/
theorem SR.later {B : Nat} (h : SR K w (· < B) A xs) (hb : Below B w w') (hB : B ≤ w'.heap.size) : SR K w' (· < w'.heap.size) A xs := (h.below hb).more hB

theorem SR.at_ (h : SR K w P A xs) {k : Nat} (hk : k < xs.length) :
    ∃ b off row, A = some ⟨b, off, none⟩ ∧ P b ∧ K.R w P xs[k] row ∧ ∀ j u, row[j]? = some u → w.cell? ⟨b, off + k * K.size + j, none⟩ = some u := by
  obtain ⟨b, off, rfl, hb, hc⟩ := h (by omega)
  obtain ⟨row, hr, hcell⟩ := hc k xs[k] (List.getElem?_eq_getElem hk)
  exact ⟨b, off, row, rfl, hb, hr, hcell⟩
end

theorem bcell {W w1 : World} (hb : Below W.heap.size W w1) : (∀ b o, b < W.heap.size → w1.cell? ⟨b, o, none⟩ = W.cell? ⟨b, o, none⟩) ∧ (∀ b o, b < W.heap.size → w1.frozen? ⟨b, o, none⟩ = W.frozen? ⟨b, o, none⟩) :=
  ⟨fun b o h => hb.cell (p := ⟨b, o, none⟩) h, fun b o h => hb.frozen (p := ⟨b, o, none⟩) h⟩

/-- 'make([]T, n)' at whatever element type, the length a variable. -/
theorem run_make_rowN {P : Program} (t e : TypeId) (i : TypeInfo) (z : Value) (ht : P.underlying t = some (.slice e)) (hi : P.info? e = some i) (hz : i.zero = some z)
    (kl kc : IntKind) (n c : Nat) (hnc : n ≤ c) (hbytes : i.bytes * c ≤ 281474976710656) (h63 : c ≤ 9223372036854775807) (w : World) :
    (Instr.makeSlice t (.int kl (n : Int)) (.int kc (c : Int))).run P w = .ok (.slice (some ⟨w.heap.size, 0, none⟩) n c) (w.alloc (.cells (madeCells z.cells (c * i.size)) e)) := by
  have hb : (i.bytes : Int) * (c : Int) ≤ 281474976710656 := by
    have h : ((i.bytes * c : Nat) : Int) ≤ 281474976710656 := by omega
    rwa [Int.natCast_mul] at h
  have hr := run_make (P := P) w t e i z ht hi hz kl kc n c (by omega) (by omega) hb (by omega)
  simp only [Int.toNat_natCast] at hr
  exact hr

theorem info_parts2 {P : Program} {t : TypeId} {n : Nat} (h : (P.info? t).map (fun i => (i.zero.map (fun z => z.cells.size), i.size, decide (i.bytes ≤ 1000))) = some (some n, n, true)) :
    ∃ i z, P.info? t = some i ∧ i.zero = some z ∧ z.cells.size = n ∧ i.size = n ∧ i.bytes ≤ 1000 := by
  cases hi : P.info? t with
  | none => rw [hi] at h; cases h
  | some i =>
    rw [hi] at h
    simp only [Option.map_some, Option.some.injEq, Prod.mk.injEq, decide_eq_true_eq, Option.map_eq_some_iff] at h
    obtain ⟨⟨z, hz, hzs⟩, hs, hb⟩ := h
    exact ⟨i, z, rfl, hz, hzs, hs, hb⟩
theorem make_bytes {b n : Nat} (hb : b ≤ 1000) (hn : n ≤ 1048576) : b * n ≤ 281474976710656 :=
  Nat.le_trans (Nat.mul_le_mul hb hn) (by decide)

/-- Cells written one behind the other. -/
def setRowAt (w : World) (g off : Nat) : List Value → World
  | [] => w
  | u :: us => setRowAt (w.setCell ⟨g, off, none⟩ u) g (off + 1) us

/-- Block g, of elements of type e, holds the first k of xs; the blocks that these lead to satisfy P. -/
def Filled {α : Type} (K : Rep α) (w : World) (P : Nat → Prop) (g : Nat) (e : TypeId) (xs : List α) (k : Nat) : Prop :=
  ∃ cs, w.heap[g]? = some (.cells cs e (0, 0)) ∧ cs.size = xs.length * K.size ∧ ∀ i x, i < k → xs[i]? = some x → ∃ row, K.R w P x row ∧ ∀ j u, row[j]? = some u → cs[i * K.size + j]? = some u

theorem setRowAt_block (w : World) (g : Nat) : ∀ (row : List Value) (off : Nat) (cs : Array Value) (e : TypeId), w.heap[g]? = some (.cells cs e (0, 0)) →
    ∃ cs', (setRowAt w g off row).heap[g]? = some (.cells cs' e (0, 0)) ∧ cs'.size = cs.size ∧ (∀ j, j < off ∨ off + row.length ≤ j → cs'[j]? = cs[j]?) ∧
      (off + row.length ≤ cs.size → ∀ j u, row[j]? = some u → cs'[off + j]? = some u) ∧ (∀ b, b ≠ g → (setRowAt w g off row).heap[b]? = w.heap[b]?) ∧ (setRowAt w g off row).heap.size = w.heap.size := by
  intro row
  induction row generalizing w with
  | nil => intro off cs e h; exact ⟨cs, h, rfl, fun _ _ => rfl, fun _ j u hu => by simp at hu, fun _ _ => rfl, rfl⟩
  | cons v row ih =>
    intro off cs e h
    have h1 : (w.setCell ⟨g, off, none⟩ v).heap[g]? = some (.cells (cs.setIfInBounds off v) e (0, 0)) := by simp [World.setCell, Array.getElem?_modify, h]
    obtain ⟨cs', a, b, c, d, f, z⟩ := ih (w.setCell ⟨g, off, none⟩ v) (off + 1) _ e h1
    refine ⟨cs', a, by simpa using b, ?_, ?_, ?_, ?_⟩
    · intro j hj
      simp only [List.length_cons] at hj
      rw [c j (by omega), Array.getElem?_setIfInBounds, if_neg (by omega)]
    · intro hlen j u hu
      simp only [List.length_cons] at hlen
      cases j with
      | zero =>
        simp only [List.getElem?_cons_zero, Option.some.injEq] at hu
        subst hu
        rw [Nat.add_zero, c off (.inl (by omega)), Array.getElem?_setIfInBounds, if_pos rfl, if_pos (by omega)]
      | succ j =>
        have := d (by simpa using by omega) j u (by simpa using hu)
        rw [← this]; congr 1; omega
    · intro b hb
      rw [show setRowAt w g off (v :: row) = setRowAt (w.setCell ⟨g, off, none⟩ v) g (off + 1) row from rfl, f b hb]
      exact Below.heap_setCell _ _ _ b hb
    · rw [show setRowAt w g off (v :: row) = setRowAt (w.setCell ⟨g, off, none⟩ v) g (off + 1) row from rfl, z]
      simp [World.setCell]

section
variable {α : Type} {K : Rep α} {w w' : World} {P : Nat → Prop} {g : Nat} {e : TypeId} {xs : List α} {k : Nat}

theorem Filled.lt (h : Filled K w P g e xs k) : g < w.heap.size := by
  obtain ⟨cs, h, _⟩ := h
  rcases Nat.lt_or_ge g w.heap.size with hlt | hge
  · exact hlt
  · rw [Array.getElem?_eq_none hge] at h; cases h

theorem Filled.same (h : Filled K w P g e xs k) (hg : w'.heap[g]? = w.heap[g]?) (hs : Same P w w') : Filled K w' P g e xs k := by
  obtain ⟨cs, h1, h2, h3⟩ := h
  exact ⟨cs, hg.trans h1, h2, fun i x hi hx => by obtain ⟨row, hr, hc⟩ := h3 i x hi hx; exact ⟨row, K.same hr hs, hc⟩⟩

theorem Filled.mono {Q : Nat → Prop} (h : Filled K w P g e xs k) (hq : ∀ b, P b → Q b) : Filled K w Q g e xs k := by
  obtain ⟨cs, h1, h2, h3⟩ := h
  exact ⟨cs, h1, h2, fun i x hi hx => by obtain ⟨row, hr, hc⟩ := h3 i x hi hx; exact ⟨row, K.mono hr hq, hc⟩⟩

/-- At the start: whatever make has laid. -/
theorem Filled.made (K : Rep α) (w : World) (P : Nat → Prop) (e : TypeId) (xs : List α) (cs : Array Value) (hs : cs.size = xs.length * K.size) : Filled K (w.alloc (.cells cs e)) P w.heap.size e xs 0 :=
  ⟨cs, heap_alloc_new w _, hs, fun i x hi => absurd hi (by omega)⟩

/-- One element more is written. -/
theorem Filled.store (h : Filled K w P g e xs k) (hk : k < xs.length) {row : List Value} (hr : K.R w P xs[k] row) (hP : ∀ b, P b → b ≠ g) :
    Filled K (setRowAt w g (k * K.size) row) P g e xs (k + 1) := by
  obtain ⟨cs, h1, h2, h3⟩ := h
  have hl := K.len hr
  obtain ⟨cs', a, b, c, d, f, _⟩ := setRowAt_block w g row (k * K.size) cs e h1
  have hs : Same P w (setRowAt w g (k * K.size) row) := fun b hb => f b (hP b hb)
  have hle : k * K.size + row.length ≤ cs.size := by
    rw [h2, hl, ← Nat.succ_mul]; exact Nat.mul_le_mul_right _ hk
  refine ⟨cs', a, b.trans h2, fun i x hi hx => ?_⟩
  rcases Nat.lt_or_ge i k with hik | hik
  · obtain ⟨row', hr', hc'⟩ := h3 i x hik hx
    refine ⟨row', K.same hr' hs, fun j u hu => ?_⟩
    have hj : j < K.size := by rw [← K.len hr']; exact (List.getElem?_eq_some_iff.1 hu).1
    rw [c _ (.inl ?_), hc' j u hu]
    have : i * K.size + K.size ≤ k * K.size := by rw [← Nat.succ_mul]; exact Nat.mul_le_mul_right _ hik
    omega
  · have : i = k := by omega
    subst this
    rw [List.getElem?_eq_getElem hk] at hx
    injection hx with hx
    subst hx
    exact ⟨row, K.same hr hs, d hle⟩

theorem Filled.slot (h : Filled K w P g e xs k) {i : Nat} (hk : i < xs.length) {j : Nat} (hj : j < K.size) : (∃ v, w.cell? ⟨g, i * K.size + j, none⟩ = some v) ∧ w.frozen? ⟨g, i * K.size + j, none⟩ = false := by
  obtain ⟨cs, h1, h2, _⟩ := h
  have hlt : i * K.size + j < cs.size := by
    rw [h2]
    have : i * K.size + K.size ≤ xs.length * K.size := by rw [← Nat.succ_mul]; exact Nat.mul_le_mul_right _ hk
    omega
  exact ⟨⟨cs[i * K.size + j], by rw [cell_of_row w g _ cs e (0, 0) h1]; exact Array.getElem?_eq_getElem hlt⟩, by simp [World.frozen?, h1]⟩

/-- A round of a loop that fills a new row: a callee has run (w1), then the element's row is stored. -/
theorem Filled.next {w1 : World} (h : Filled K w (fun b => b < w.heap.size ∧ b ≠ g) g e xs k) (hb : Below w.heap.size w w1) (hk : k < xs.length) {row : List Value} (hr : K.R w1 (fun b => b < w1.heap.size ∧ b ≠ g) xs[k] row)
    {B : Nat} {w0 : World} (h0 : Below B w0 w) (hB : B ≤ g) :
    Filled K (setRowAt w1 g (k * K.size) row) (fun b => b < (setRowAt w1 g (k * K.size) row).heap.size ∧ b ≠ g) g e xs (k + 1) ∧ Below B w0 (setRowAt w1 g (k * K.size) row) := by
  have hlt := h.lt
  have h1 : Filled K w1 (fun b => b < w1.heap.size ∧ b ≠ g) g e xs k :=
    (h.same (hb.block _ hlt) ((Same.of_below hb).mono (fun b h => h.1))).mono (fun b h => ⟨Nat.lt_of_lt_of_le h.1 hb.size, h.2⟩)
  have h2 := h1.store hk hr (fun b h => h.2)
  obtain ⟨cs, hc, _⟩ := h1
  obtain ⟨_, _, _, _, _, hf, hz⟩ := setRowAt_block w1 g row (k * K.size) cs e hc
  have hw : ∀ (row : List Value) (w : World) (o : Nat), (setRowAt w g o row).os = w.os ∧ (setRowAt w g o row).tape = w.tape ∧ (setRowAt w g o row).output = w.output := by
    intro row
    induction row with
    | nil => intro w o; exact ⟨rfl, rfl, rfl⟩
    | cons u us ih => intro w o; exact ih (w.setCell ⟨g, o, none⟩ u) (o + 1)
  refine ⟨by rw [hz]; exact h2, (h0.trans (hb.mono (by omega))).trans ⟨(hw _ _ _).1, (hw _ _ _).2.1, (hw _ _ _).2.2, by rw [hz]; exact Nat.le_refl _, fun i hi => hf i (by omega)⟩⟩

theorem Filled.done (h : Filled K w P g e xs xs.length) (hP : ∀ b, P b → b < w.heap.size) : SR K w (· < w.heap.size) (some ⟨g, 0, none⟩) xs := fun _ => by
  have hlt := h.lt
  obtain ⟨cs, h1, h2, h3⟩ := h
  refine ⟨g, 0, rfl, hlt, fun i x hx => ?_⟩
  obtain ⟨row, hr, hc⟩ := h3 i x (List.getElem?_eq_some_iff.1 hx).1 hx
  refine ⟨row, K.mono hr hP, fun j u hu => ?_⟩
  rw [Nat.zero_add, cell_of_row w g _ cs e (0, 0) h1]
  exact hc j u hu
end

/-- A number that an int64 can hold. -/
def I64 (n : Int) : Prop := -9223372036854775808 ≤ n ∧ n ≤ 9223372036854775807

/-- A sum over a list. -/
def sumB {α : Type} (f : α → Nat) (xs : List α) : Nat := (xs.map f).sum
theorem sumB_nil {α : Type} (f : α → Nat) : sumB f [] = 0 := rfl
theorem sumB_take {α : Type} (f : α → Nat) (xs : List α) (k : Nat) (h : k < xs.length) : sumB f (xs.take (k + 1)) = sumB f (xs.take k) + f xs[k] := by
  rw [List.take_succ_eq_append_getElem h, sumB, List.map_append, List.sum_append]; simp [sumB]
theorem sumB_mem {α : Type} (f : α → Nat) (xs : List α) (x : α) (h : x ∈ xs) : f x ≤ sumB f xs := by
  induction xs with
  | nil => cases h
  | cons a xs ih =>
    simp only [sumB, List.map_cons, List.sum_cons]
    rcases List.mem_cons.1 h with rfl | h
    · omega
    · have := ih h
      simp only [sumB] at this
      omega

theorem take_more {α : Type} {xs ys : List α} {k : Nat} (h : xs.take k = ys.take k) (h1 : k < xs.length) (h2 : k < ys.length) (he : xs[k] = ys[k]) : xs.take (k + 1) = ys.take (k + 1) := by
  rw [List.take_succ_eq_append_getElem h1, List.take_succ_eq_append_getElem h2, h, he]
theorem list_ne_at {α : Type} {xs ys : List α} {k : Nat} (h1 : k < xs.length) (h2 : k < ys.length) (he : xs[k] ≠ ys[k]) : xs ≠ ys := by
  rintro rfl; exact he rfl
theorem list_eq_of_take {α : Type} {xs ys : List α} (hl : xs.length = ys.length) (h : xs.take xs.length = ys.take xs.length) : xs = ys := by
  rw [List.take_length] at h; rw [h, hl, List.take_length]

/-- The element kinds of one cell. -/
def intRep : Rep Int := Rep.flat (fun n => [.int .i64 n]) 1 (fun _ => rfl)
def strRep : Rep ByteArray := Rep.flat (fun s => [.string s]) 1 (fun _ => rfl)
def byteRep : Rep UInt8 := Rep.flat (fun c => [.int .u8 c.toNat]) 1 (fun _ => rfl)

end Go.Proofs.Ytdngdgjlcfbdhaa
