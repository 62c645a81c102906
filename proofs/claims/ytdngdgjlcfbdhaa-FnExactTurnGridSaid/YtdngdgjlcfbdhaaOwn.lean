/- Slices of the call's own that are appended to, as lists. -/
import Derived.Test.YtdngdgjlcfbdhaaBase
namespace Go.Proofs.Ytdngdgjlcfbdhaa
open Go.RowKit
set_option linter.unusedSimpArgs false
set_option linter.unusedVariables false

/-- The slice value v is the call's own (its row lies from block base on) and holds the list xs. -/
def OwnL {α : Type} (cells : α → List Value) (size : Nat) (w : World) (base : Nat) (e : TypeId) (v : Value) (xs : List α) : Prop :=
  w.ownsRow base e size v xs.length (xs.flatMap cells)

section
variable {α : Type} {cells : α → List Value} {size : Nat} {w w' : World} {base : Nat} {e : TypeId} {v : Value} {xs : List α}

theorem OwnL.nil_ (cells : α → List Value) (size : Nat) (w : World) (base : Nat) (e : TypeId) : OwnL cells size w base e (.slice none 0 0) [] := World.ownsRow_nil _ _ _ _
theorem OwnL.empty_ (cells : α → List Value) (size : Nat) (w : World) (base : Nat) (e : TypeId) (hb : base ≤ w.heap.size) : OwnL cells size (w.alloc (.cells #[] e)) base e (.slice (some ⟨w.heap.size, 0, none⟩) 0 0) [] :=
  World.ownsRow_lit w #[] 0 hb (by unfold maxLen; omega) (by simp)
theorem OwnL.form (h : OwnL cells size w base e v xs) : ∃ A c, v = .slice A xs.length c ∧ xs.length ≤ c ∧ c ≤ maxLen := by
  rcases h.2 with ⟨rfl, h0⟩ | ⟨g, cap, cur, rfl, _, _, hc, hm, _⟩
  · exact ⟨none, 0, by rw [h0], by omega, Nat.zero_le _⟩
  · exact ⟨_, cap, rfl, hc, hm⟩
theorem OwnL.ne_nil (h : OwnL cells size w base e v xs) (hp : 0 < xs.length) : v ≠ .slice none 0 0 := by
  rcases h.2 with ⟨rfl, h0⟩ | ⟨g, cap, cur, rfl, _⟩
  · omega
  · intro hh; cases hh
theorem OwnL.alloc (h : OwnL cells size w base e v xs) (o : Obj) : OwnL cells size (w.alloc o) base e v xs := World.ownsRow.alloc h o
theorem OwnL.kept (h : OwnL cells size w base e v xs) (hb : Below w.heap.size w w') : OwnL cells size w' base e v xs := by
  obtain ⟨h1, h2⟩ := h
  refine ⟨h1, ?_⟩
  rcases h2 with h2 | ⟨g, cap, cur, hv, hg, hh, r⟩
  · exact .inl h2
  · have hlt : g < w.heap.size := by
      rcases Nat.lt_or_ge g w.heap.size with h | h
      · exact h
      · rw [Array.getElem?_eq_none h] at hh; cases hh
    exact .inr ⟨g, cap, cur, hv, hg, (hb.block g hlt).trans hh, r⟩
theorem OwnL.drew (h : OwnL cells size w base e v xs) : OwnL cells size w.drew base e v xs := h
theorem OwnL.drewN (h : OwnL cells size w base e v xs) (n : Nat) : OwnL cells size (w.drewN n) base e v xs := h
/-- A store into a block below. -/
theorem OwnL.setCell (h : OwnL cells size w base e v xs) {a : Addr} (ha : a.block < base) (u : Value) : OwnL cells size (w.setCell a u) base e v xs := ownsRow_setCell_below h ha u

theorem flat_at (hcl : ∀ x, (cells x).length = size) : ∀ (xs : List α) (i j : Nat) (x : α), xs[i]? = some x → j < size → (xs.flatMap cells)[i * size + j]? = (cells x)[j]?
  | [], i, j, x, h, _ => by simp at h
  | y :: ys, 0, j, x, h, hj => by
    simp only [List.getElem?_cons_zero, Option.some.injEq] at h
    subst h
    rw [List.flatMap_cons, List.getElem?_append_left (by rw [hcl]; omega)]
    simp
  | y :: ys, i + 1, j, x, h, hj => by
    rw [List.flatMap_cons, List.getElem?_append_right (by rw [hcl, Nat.succ_mul]; omega), hcl, show (i + 1) * size + j - size = i * size + j by rw [Nat.succ_mul]; omega]
    exact flat_at hcl ys i j x (by simpa using h) hj

/-- What it reads as, for callers. -/
theorem OwnL.reads (h : OwnL cells size w base e v xs) (hcl : ∀ x, (cells x).length = size) : ∃ A c, v = .slice A xs.length c ∧ xs.length ≤ c ∧ c ≤ maxLen ∧ SR (Rep.flat cells size hcl) w (· < w.heap.size) A xs := by
  rcases h.2 with ⟨rfl, h0⟩ | ⟨g, cap, cur, rfl, _, hh, hc, hm, hs, ht⟩
  · have : xs = [] := List.eq_nil_of_length_eq_zero h0
    subst this
    exact ⟨none, 0, rfl, Nat.le_refl _, Nat.zero_le _, SR.nil_ _ _ _ _⟩
  · refine ⟨_, cap, rfl, hc, hm, fun _ => ⟨g, 0, rfl, ?_, fun i x hx => ⟨cells x, rfl, fun j u hu => ?_⟩⟩⟩
    · rcases Nat.lt_or_ge g w.heap.size with h | h
      · exact h
      · rw [Array.getElem?_eq_none h] at hh; cases hh
    · have hj : j < size := by rw [← hcl x]; exact (List.getElem?_eq_some_iff.1 hu).1
      have hf := flat_at hcl xs i j x hx hj
      rw [hu, ← ht, List.getElem?_take] at hf
      have hi : i < xs.length := (List.getElem?_eq_some_iff.1 hx).1
      have hlt : i * size + j < xs.length * size := by
        have : i * size + size ≤ xs.length * size := by rw [← Nat.succ_mul]; exact Nat.mul_le_mul_right _ hi
        omega
      rw [if_pos hlt] at hf
      show w.cell? ⟨g, 0 + i * size + j, none⟩ = some u
      rw [Nat.zero_add, cell_of_row w g _ cur e (0, 0) hh]
      simpa using hf
end

/-- out = append(out, y): y laid into a block of its own first. -/
theorem wpList_append_elem {P : Program} {ops : Array Oper} {rest : List Oper} {o : Oper} {a : Act} {Q : Exit → Act → World → Prop} {α : Type} {cells : α → List Value} {size : Nat} (hgd : o.guard = none) (s x : Operand) (t : TypeId)
    (ho : o.op = .call { callee := .builtin .append, args := #[s, x], argTypes := #[t, t] }) (e : TypeId) (ht : P.underlying t = some (.slice e))
    (hi : ∃ i z, P.info? e = some i ∧ i.zero = some z ∧ z.cells.size = size ∧ i.size = size ∧ i.bytes ≤ 1000) (hsz : 0 < size) (hcl : ∀ x, (cells x).length = size) (hone : ∀ x, ∀ u ∈ cells x, u.oneCell' = true)
    (wr : World) (base : Nat) (v : Value) (xs : List α) (hs : a.eval s = v) (hown : OwnL cells size wr base e v xs) (y : α) (te : TypeId) (news : Array Value) (hnews : news.toList = cells y)
    (hx : a.eval x = .slice (some ⟨wr.heap.size, 0, none⟩) 1 1) (hn : xs.length ≤ 100000000) (hbase : base ≤ wr.heap.size)
    (h : ∀ v' w', OwnL cells size w' base e v' (xs ++ [y]) → Below base wr w' → wpList P ops Q rest (a.put o.dst v') w') : wpList P ops Q (o :: rest) a (wr.alloc (.cells news te)) := by
  obtain ⟨i, z, hi, hz, hzs, his, hib⟩ := hi
  have hown' : (wr.alloc (.cells news te)).ownsRow base e size v xs.length (xs.flatMap cells) := World.ownsRow.alloc hown _
  have hb : (xs.length + 1) * i.bytes ≤ 140737488355328 := Nat.le_trans (Nat.mul_le_mul (by omega : xs.length + 1 ≤ 100000001) hib) (by decide)
  refine wpList_append_own_at (wr.alloc (.cells news te)) hgd s x t ho base e i z size i.bytes ht hi hz his rfl hzs hsz v xs.length (xs.flatMap cells) hs hown' ⟨wr.heap.size, 0, none⟩ 1 1 (cells y) hx (by rw [hcl]; omega) ?_ (hone y) (by unfold maxLen; omega) hb (by simp; omega) ?_
  · intro j u hu
    have : ((⟨wr.heap.size, 0, none⟩ : Addr).add j) = ⟨wr.heap.size, j, none⟩ := by
      unfold Addr.add; split <;> simp_all
    rw [this, cell_of_row _ _ _ news te (0, 0) (heap_alloc_new wr _)]
    rw [← hnews] at hu
    simpa using hu
  · intro v' w' ho' hg _ _
    refine h v' w' ?_ ?_
    · unfold OwnL
      rw [List.flatMap_append]
      simpa using ho'
    · refine Below.trans ((Below.refl base wr).alloc hbase _) ((Below.refl base _).grown hg (by simp; omega) ?_)
      intro k hk
      rcases hown.2 with ⟨rfl, _⟩ | ⟨g, cap, cur, rfl, hbg, _⟩
      · simp [Value.ownBlock] at hk
      · simp [Value.ownBlock] at hk
        omega

/-- Bytes. -/
def byteCells (c : UInt8) : List Value := [.int .u8 c.toNat]
theorem byteCells_len (c : UInt8) : (byteCells c).length = 1 := rfl
theorem byteCells_one (c : UInt8) : ∀ u ∈ byteCells c, u.oneCell' = true := by intro u hu; simp [byteCells] at hu; subst hu; rfl
theorem byteInfo : ∃ i z, Try.prog.info? 5 = some i ∧ i.zero = some z ∧ z.cells.size = 1 ∧ i.size = 1 ∧ i.bytes ≤ 1000 := info_parts2 (by kernel_rfl)

/-- string(b) of a row of bytes of the call's own. -/
theorem run_own_string {P : Program} {w : World} {base : Nat} {e : TypeId} {v : Value} {bs : List UInt8} (h : OwnL byteCells 1 w base e v bs) (src dst eb : TypeId) (hs : P.underlying src = some (.slice eb)) (he : P.underlying eb = some (.int .u8)) (hd : P.underlying dst = some .string)
    (hnn : v ≠ .slice none 0 0) : (convert src dst v).run P w = .ok (.string ⟨bs.toArray⟩) w := by
  rcases h.2 with ⟨rfl, _⟩ | ⟨g, cap, cur, rfl, _, hh, _, _, hsz, ht⟩
  · exact absurd rfl hnn
  · refine run_convert_bytes_back w src dst eb ⟨g, 0, none⟩ cap bs hs he hd fun j hj => ?_
    have : ((⟨g, 0, none⟩ : Addr).add j) = ⟨g, j, none⟩ := by unfold Addr.add; split <;> simp_all
    rw [this, cell_of_row w g j cur e (0, 0) hh]
    have hf := flat_at byteCells_len bs j 0 bs[j] (List.getElem?_eq_getElem hj) (by omega)
    rw [← ht, List.getElem?_take, if_pos (by omega)] at hf
    simpa [byteCells] using hf

end Go.Proofs.Ytdngdgjlcfbdhaa
