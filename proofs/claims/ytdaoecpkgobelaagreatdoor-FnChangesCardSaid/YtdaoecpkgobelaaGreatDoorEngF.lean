/- The engine, sixth part: rows of the call's own: made, appended to, written, read. -/
import Derived.Test.YtdaoecpkgobelaaGreatDoorEngE
import Derived.Laws.IdiomCopy
namespace Go.Proofs.YtdaoecpkgobelaaGreatDoor
open Go Go.RowKit
set_option linter.unusedSimpArgs false
set_option linter.unusedVariables false
def VRows {α : Type} (K : Rep α) (w : World) (S : Nat → Prop) : List α → List Value → Prop
  | [], [] => True
  | x :: xs, v :: vs => (∃ row, v.cells = row.toArray ∧ K.R w S x row) ∧ VRows K w S xs vs
  | _, _ => False
theorem VRows.cons {α : Type} {K : Rep α} {w : World} {S : Nat → Prop} {x : α} {xs : List α} {v : Value} {vs : List Value} (h : ∃ row, v.cells = row.toArray ∧ K.R w S x row) (t : VRows K w S xs vs) : VRows K w S (x :: xs) (v :: vs) := ⟨h, t⟩
theorem VRows.len {α : Type} {K : Rep α} {w : World} {S : Nat → Prop} : ∀ {xs : List α} {vs : List Value}, VRows K w S xs vs → vs.length = xs.length
  | [], [], _ => rfl
  | x :: xs, v :: vs, h => by rw [List.length_cons, List.length_cons, VRows.len h.2]
  | [], v :: vs, h => h.elim
  | x :: xs, [], h => h.elim
theorem VRows.rows {α : Type} {K : Rep α} {w : World} {S : Nat → Prop} : ∀ {xs : List α} {vs : List Value}, VRows K w S xs vs → RowsOf K w S xs (vs.map fun v => v.cells.toList) ∧ ∀ v ∈ vs, v.cells.size = K.size
  | [], [], _ => ⟨RowsOf.nil_, by simp⟩
  | x :: xs, v :: vs, h => by
    obtain ⟨⟨row, hv, hr⟩, h⟩ := h
    obtain ⟨h1, h2⟩ := VRows.rows h
    refine ⟨RowsOf.cons (by show K.R w S x v.cells.toList; rw [hv]; exact hr) h1, fun u hu => ?_⟩
    rcases List.mem_cons.1 hu with rfl | hu
    · rw [hv]; simpa using K.len hr
    · exact h2 u hu
  | [], v :: vs, h => h.elim
  | x :: xs, [], h => h.elim
theorem flatten_at {rows : List (List Value)} {n : Nat} (hn : 0 < n) (h : ∀ r ∈ rows, r.length = n) : ∀ k, k < rows.length * n → rows.flatten[k]? = (rows[k / n]?).bind fun r => r[k % n]? := by
  induction rows with
  | nil => intro k hk; simp at hk
  | cons r rows ih =>
    intro k hk
    have hr : r.length = n := h r (by simp)
    rw [List.flatten_cons]
    rcases Nat.lt_or_ge k n with hlt | hge
    · rw [List.getElem?_append_left (by omega), Nat.div_eq_of_lt hlt, Nat.mod_eq_of_lt hlt]; rfl
    · rw [List.getElem?_append_right (by omega), hr, ih (fun r hr => h r (List.mem_cons_of_mem _ hr)) (k - n) (by rw [List.length_cons, Nat.succ_mul] at hk; omega)]
      have e1 : k / n = (k - n) / n + 1 := by rw [Nat.div_eq_sub_div hn hge]
      have e2 : k % n = (k - n) % n := Nat.mod_eq_sub_mod hge
      rw [e1, e2, List.getElem?_cons_succ]
section
variable {P : Program} {N : Nat} {a : Act} {L : List (Nat × Value)} {dst : Option Tmp} {ty T U E : TypeId} {pos : String} {aft : Array Edge} {g : Option (Nat × Bool)} {X Y Z : Operand} {w : World}
variable {C : Cx} {own own' : List Own} {shr : List Shr} {Kv : Value → World → Prop}
theorem Mem.newRow (h : Mem C w own shr) {α : Type} {K : Rep α} {xs : List α} {rows : List (List Value)} (hr : RowsOf K w (Sh C own w) xs rows) (w' : World) (cur : Array Value) (fr : Nat × Nat) (c : Nat) (app : Bool) (hos : w'.os = w.os) (htape : w'.tape = w.tape) (hout : w'.output = w.output)
    (hsize : w'.heap.size = w.heap.size + 1) (hold : ∀ b, b < w.heap.size → w'.heap[b]? = w.heap[b]?) (hnew : w'.heap[w.heap.size]? = some (.cells cur E fr)) (hc : xs.length ≤ c) (hm : c ≤ maxLen) (hcur : cur.size = c * K.size) (htk : cur.toList.take (xs.length * K.size) = rows.flatten) (hfr : fr = (0, 0) ∨ (app = false ∧ cur.size ≤ fr.1)) :
    Mem C w' (.row K (some ⟨w.heap.size, 0, none⟩) c E xs app :: own) shr ∧ Ext w w' := by
  have hblk : ∀ b, ownB (.row K (some ⟨w.heap.size, 0, none⟩) c E xs app :: own) b → ownB own b ∨ w.heap.size ≤ b := by
    rintro b ⟨x, hx, hb⟩
    rcases List.mem_cons.1 hx with rfl | hx
    · cases hb; exact .inr (Nat.le_refl _)
    · exact .inl ⟨x, hx, hb⟩
  have hSh : ∀ b, Sh C own w b → Sh C (.row K (some ⟨w.heap.size, 0, none⟩) c E xs app :: own) w' b := fun b ⟨h1, h2, h3⟩ => ⟨h1, by omega, fun hb => (hblk b hb).elim h3 (fun hge => absurd h2 (by omega))⟩
  refine ⟨h.step _ _ hos htape hout (by omega) (fun b hb _ => hold b hb) hblk ?_ ?_, hold⟩
  · refine List.Pairwise.cons (fun y hy b hb hy' => ?_) h.sep
    have hb' : w.heap.size = b := Option.some.inj hb
    exact absurd (h.lt hy _ hy') (by omega)
  · intro x hx
    rcases List.mem_cons.1 hx with rfl | hx
    · exact ⟨rows, (hr.same fun b hb => hold b hb.2.1).mono hSh, .inr ⟨_, cur, fr, rfl, hnew, hc, hm, hcur, htk, hfr⟩⟩
    · exact Own.good_same (h.own_ x hx) (fun b hb => hold b hb.2.1) (fun b hb => hold b (h.lt hx b hb)) hSh
theorem Mem.nilRow (h : Mem C w own shr) {α : Type} (K : Rep α) (E : TypeId) : Mem C w (.row K none 0 E [] true :: own) shr := by
  have hblk : ∀ b, ownB (.row K none 0 E [] true :: own) b → ownB own b := by
    rintro b ⟨x, hx, hb⟩
    rcases List.mem_cons.1 hx with rfl | hx
    · cases hb
    · exact ⟨x, hx, hb⟩
  refine h.step w _ rfl rfl rfl (Nat.le_refl _) (fun _ _ _ => rfl) (fun b hb => .inl (hblk b hb)) (List.Pairwise.cons (fun y hy b hb => by cases hb) h.sep) fun x hx => ?_
  rcases List.mem_cons.1 hx with rfl | hx
  · exact ⟨[], RowsOf.nil_, .inl ⟨rfl, rfl, rfl⟩⟩
  · exact Own.good_same (h.own_ x hx) (fun _ _ => rfl) (fun _ _ => rfl) fun b ⟨h1, h2, h3⟩ => ⟨h1, h2, fun hb => h3 (hblk b hb)⟩
theorem maxLen_ge {n : Nat} (h : n ≤ 1000000000) : n ≤ maxLen := by unfold maxLen; omega
theorem w_slice0 {α : Type} {K : Rep α} {m : Nat} (hM : Mem C w own shr) (hT : P.underlying T = some (.slice E)) (hE : ElemInfo P E m) (k : ∀ b w', Ext w w' → Mem C w' (.row K (some ⟨b, 0, none⟩) 0 E [] true :: own) shr → Kv (vL (some ⟨b, 0, none⟩) ([] : List α) 0) w') :
    Wv P ⟨dst, .buildSlice T 0 #[], ty, pos, aft, g⟩ a w Kv := by
  obtain ⟨i, z, hi, hz, hzs, his, hib⟩ := hE
  obtain ⟨h1, h2⟩ := hM.newRow (K := K) (E := E) RowsOf.nil_ (w.alloc (.cells #[] E)) #[] (0, 0) 0 true rfl rfl rfl (by simp) (fun b hb => Below.heap_alloc w _ b hb) (heap_alloc_new w _) (Nat.le_refl _) (maxLen_ge (by omega)) (by simp) (by simp) (.inl rfl)
  refine Wv.of_run (w' := w.alloc (.cells #[] E)) (v := .slice (some ⟨w.heap.size, 0, none⟩) 0 0) ?_ (k _ _ h2 h1)
  simp [execOp, Instr.buildSlice, run_underlying hT, sizeOf, typeInfo, hi, Instr.fill, Go.newRow, Array.range_zero']
section
variable (hf : Has N a L)
include hf
theorem w_slice {α : Type} {K : Rep α} {xs : List α} {vs : List Value} {n : Nat} {os : List Operand} {parts : Array (Nat × Operand)} (hM : Mem C w own shr) (hT : P.underlying T = some (.slice E)) (hE : ElemInfo P E K.size) (hK : Nat.blt 0 K.size = true) (hpos : Nat.blt 0 n = true) (hsmall : Nat.ble (n * K.size) 10000 = true)
    (hparts : parts.toList = (os.zipIdx 0).map fun x => (x.2, x.1)) (hvs : evs L os = some vs) (hr : VRows K w (Sh C own w) xs vs) (hn : vs.length = n) (k : ∀ b w', Ext w w' → Mem C w' (.row K (some ⟨b, 0, none⟩) n E xs true :: own) shr → Kv (vL (some ⟨b, 0, none⟩) xs n) w') :
    Wv P ⟨dst, .buildSlice T n parts, ty, pos, aft, g⟩ a w Kv := by
  obtain ⟨i, z, hi, hz, hzs, his, hib⟩ := hE
  obtain ⟨hrows, hcells⟩ := hr.rows
  have hlen := hr.len
  have hK' : 0 < K.size := by simpa [Nat.blt_eq] using hK
  have hpos' : 0 < n := by simpa [Nat.blt_eq] using hpos
  have hsmall' : n * K.size ≤ 10000 := Nat.le_of_ble_eq_true hsmall
  have hev := hf.evs hvs
  have hp : (parts.map fun (i, x) => (i, a.eval x)).toList = (vs.zipIdx 0).map fun x => (x.2, x.1) := by
    rw [Array.toList_map, hparts, List.map_map, ← hev, List.zipIdx_map, List.map_map]
    rfl
  obtain ⟨r, hfill, hrs, hrk⟩ := Go.Great.fill_dense hK' vs 0 ((Array.range (n * K.size)).map (z.cells[· % z.cells.size]!)) hcells (by rw [hn]; simp)
  have hrsz : r.size = n * K.size := by rw [hrs]; simp
  have hflat : r.toList = (vs.map fun v => v.cells.toList).flatten := by
    apply List.ext_getElem?
    intro j
    rcases Nat.lt_or_ge j (n * K.size) with hj | hj
    · rw [flatten_at hK' (by intro r hr; obtain ⟨v, hv, rfl⟩ := List.mem_map.1 hr; simpa using hcells v hv) j (by rw [List.length_map, hn]; exact hj)]
      have := hrk j
      rw [Nat.zero_mul, Nat.zero_add, hn, if_pos ⟨Nat.zero_le _, hj⟩] at this
      rw [Array.getElem?_toList, this, List.getElem?_map]
      cases vs[j / K.size - 0]? <;> simp_all
    · rw [List.getElem?_eq_none (by simp [hrsz]; exact hj), List.getElem?_eq_none (by rw [hrows.flat_len, ← hlen, hn]; exact hj)]
  have hxl : xs.length = n := by rw [← hlen]; exact hn
  obtain ⟨h1, h2⟩ := hM.newRow (E := E) hrows (w.alloc (.cells r E)) r (0, 0) n true rfl rfl rfl (by simp) (fun b hb => Below.heap_alloc w _ b hb) (heap_alloc_new w _) (by rw [hxl]; exact Nat.le_refl _)
    (maxLen_ge (Nat.le_trans (Nat.le_mul_of_pos_right n hK') (by omega))) hrsz (by rw [hxl, ← hrsz, ← hflat, ← Array.length_toList]; exact List.take_length) (.inl rfl)
  have hrun := run_buildSlice (P := P) w T E n (parts.map fun (i, x) => (i, a.eval x)) r i z hT hi hz (by rw [his]; omega) (by rw [his]; exact Nat.ne_of_gt (Nat.mul_pos hpos' hK')) (by rw [his, hp]; exact hfill)
  refine Wv.of_run (w' := w.alloc (.cells r E)) (v := .slice (some ⟨w.heap.size, 0, none⟩) n n) ?_ ?_
  · simp only [execOp, Sem.run_bind, hrun, Result.andThen_ok, Sem.run_pure]
  · have := k _ _ h2 h1
    unfold vL at this
    rw [hxl] at this
    exact this
end
def Src {α : Type} (K : Rep α) (w : World) (S : Nat → Prop) (B : Option Addr) (ys : List α) : Prop := ∃ rows ad, B = some ad ∧ RowsOf K w S ys rows ∧ ∀ j u, rows.flatten[j]? = some u → w.cell? (ad.add j) = some u
theorem Mem.srcRow (h : Mem C w own shr) {α : Type} {K : Rep α} {b c : Nat} {E : TypeId} {ys : List α} {app : Bool} {k : Nat} (hk : own[k]? = some (.row K (some ⟨b, 0, none⟩) c E ys app)) : Src K w (Sh C own w) (some ⟨b, 0, none⟩) ys := by
  obtain ⟨rows, hr, h⟩ := h.ownAt hk
  rcases h with ⟨h, _⟩ | ⟨g, cur, fr, hA, hg, _, _, _, ht, _⟩
  · cases h
  · cases hA
    refine ⟨rows, _, rfl, hr, fun j u hu => ?_⟩
    rw [add_lit, Nat.zero_add, cell_of_row w b _ cur E fr hg]
    rw [← ht, List.getElem?_take] at hu
    split at hu
    · simpa using hu
    · cases hu
theorem Mem.srcDat (h : Mem C w own shr) {α : Type} {K : Rep α} (hK : Nat.blt 0 K.size = true) {B : Option Addr} {c : Nat} {ys : List α} (hd : (sliceRep K).R w (Sh C own w) ys [vL B ys c]) (hn : 0 < ys.length) : Src K w (Sh C own w) B ys := by
  obtain ⟨A', c', he, hc, hm, hsr⟩ := hd
  simp only [List.cons.injEq, Value.slice.injEq, and_true] at he
  obtain ⟨rfl, _, rfl⟩ := he
  obtain ⟨b, off, rfl, hb, hcell⟩ := hsr hn
  have hK' : 0 < K.size := by simpa [Nat.blt_eq] using hK
  have hex : ∃ rows : List (List Value), rows.length = ys.length ∧ ∀ (i : Nat) (x : α), ys[i]? = some x → ∃ row, rows[i]? = some row ∧ K.R w (Sh C own w) x row ∧ ∀ j u, row[j]? = some u → w.cell? ⟨b, off + i * K.size + j, none⟩ = some u := by
    have aux : ∀ (n : Nat), n ≤ ys.length → ∃ rows : List (List Value), rows.length = n ∧ ∀ (i : Nat) (x : α), i < n → ys[i]? = some x → ∃ row, rows[i]? = some row ∧ K.R w (Sh C own w) x row ∧ ∀ j u, row[j]? = some u → w.cell? ⟨b, off + i * K.size + j, none⟩ = some u := by
      intro n
      induction n with
      | zero => intro _; exact ⟨[], rfl, fun i x hi => absurd hi (by omega)⟩
      | succ n ih =>
        intro hle
        obtain ⟨rows, hl, hrows⟩ := ih (by omega)
        obtain ⟨row, hr, hcc⟩ := hcell n ys[n] (List.getElem?_eq_getElem (by omega))
        refine ⟨rows ++ [row], by simp [hl], fun i x hi hx => ?_⟩
        rcases Nat.lt_or_ge i n with h | h
        · obtain ⟨q, h1, h2⟩ := hrows i x h hx
          exact ⟨q, by rw [List.getElem?_append_left (by omega)]; exact h1, h2⟩
        · obtain rfl : i = n := by omega
          rw [List.getElem?_eq_getElem (by omega), Option.some.injEq] at hx
          subst hx
          exact ⟨row, by rw [List.getElem?_append_right (by omega), hl]; simp, hr, hcc⟩
    obtain ⟨rows, hl, h⟩ := aux ys.length (Nat.le_refl _)
    exact ⟨rows, hl, fun i x hx => h i x (List.getElem?_eq_some_iff.1 hx).1 hx⟩
  obtain ⟨rows, hl, hrows⟩ := hex
  refine ⟨rows, _, rfl, ⟨hl, fun i x hx => by obtain ⟨r, h1, h2, _⟩ := hrows i x hx; exact ⟨r, h1, h2⟩⟩, fun j u hu => ?_⟩
  have hrl : ∀ r ∈ rows, r.length = K.size := by
    intro r hr
    obtain ⟨i, hi, rfl⟩ := List.getElem_of_mem hr
    obtain ⟨q, h1, h2, _⟩ := hrows i ys[i] (List.getElem?_eq_getElem (by omega))
    rw [List.getElem?_eq_getElem hi, Option.some.injEq] at h1
    rw [h1]; exact K.len h2
  have hjl : j < rows.length * K.size := by
    have := (List.getElem?_eq_some_iff.1 hu).1
    have hfl : rows.flatten.length = rows.length * K.size := by
      rw [List.length_flatten]
      have : rows.map List.length = List.replicate rows.length K.size := List.eq_replicate_iff.2 ⟨by simp, fun n hn => by obtain ⟨r, hr, rfl⟩ := List.mem_map.1 hn; exact hrl r hr⟩
      rw [this, List.sum_replicate_nat]
    omega
  rw [flatten_at hK' hrl j hjl] at hu
  have hi : j / K.size < rows.length := (Nat.div_lt_iff_lt_mul hK').2 hjl
  rw [List.getElem?_eq_getElem hi] at hu
  obtain ⟨q, h1, h2, h3⟩ := hrows (j / K.size) ys[j / K.size] (List.getElem?_eq_getElem (by omega))
  rw [List.getElem?_eq_getElem hi, Option.some.injEq] at h1
  have := h3 (j % K.size) u (by rw [← h1]; simpa using hu)
  rw [add_lit, ← this]
  congr 2
  have := Nat.div_add_mod j K.size
  rw [Nat.mul_comm] at this
  omega
section
variable (hf : Has N a L)
include hf
theorem w_appendX {α : Type} {K : Rep α} {A B : Option Addr} {c m : Nat} {xs ys zs : List α} {k : Nat} (hM : Mem C w own shr) (hT : P.underlying T = some (.slice E)) (hE : ElemInfo P E K.size) (hK : Nat.blt 0 K.size = true) (hx : ev L X = some (vL A xs c)) (hy : ev L Y = some (vL B ys m)) (hk : own[k]? = some (.row K A c E xs true)) (hs : Src K w (Sh C own w) B ys) (hz : catL xs ys = some zs)
    (kk : ∀ A' c' w', w.heap.size ≤ w'.heap.size → (∀ b, b < w.heap.size → (Own.row K A c E xs true).block ≠ some b → w'.heap[b]? = w.heap[b]?) → Mem C w' (own.set k (.row K A' c' E zs true)) shr → Kv (vL A' zs c') w') : Wv P ⟨dst, .call ⟨.builtin .append, #[X, Y], #[T, T]⟩, ty, pos, aft, g⟩ a w Kv := by
  obtain ⟨i, z, hi, hz0, hzs, his, hib⟩ := hE
  obtain ⟨rfl, hlim⟩ := catL_some hz
  have hK' : 0 < K.size := by simpa [Nat.blt_eq] using hK
  obtain ⟨nrows, ad, rfl, hnr, hnc⟩ := hs
  obtain ⟨rows, hr, hrow⟩ := hM.ownAt hk
  have hown : w.ownsRow 0 E K.size (vL A xs c) xs.length rows.flatten := by
    refine ⟨hr.flat_len, ?_⟩
    rcases hrow with ⟨rfl, rfl, rfl⟩ | ⟨g, cur, fr, rfl, hg, hc, hm, hcs, ht, hfr⟩
    · exact .inl ⟨rfl, rfl⟩
    · rcases hfr with rfl | ⟨h, _⟩
      · exact .inr ⟨g, c, cur, rfl, Nat.zero_le _, hg, hc, hm, hcs, ht⟩
      · cases h
  unfold lim at hlim
  have hb : (xs.length + ys.length) * i.bytes ≤ 140737488355328 := Nat.le_trans (Nat.mul_le_mul hlim hib) (by decide)
  obtain ⟨v', w', hrun, ho', hgr, hnil, hat⟩ := run_append_own_at (P := P) w 0 T ty E i z K.size i.bytes hT hi hz0 his rfl hzs hK' (vL A xs c) xs.length rows.flatten hown ad ys.length m nrows.flatten hnr.flat_len hnc hnr.one (maxLen_ge (by omega)) hb (Nat.zero_le _)
  have hform : ∃ A' c', v' = .slice A' (xs.length + ys.length) c' ∧ ((A' = none ∧ c' = 0 ∧ xs.length + ys.length = 0) ∨ ∃ g cur, A' = some ⟨g, 0, none⟩ ∧ w'.heap[g]? = some (.cells cur E (0, 0)) ∧ xs.length + ys.length ≤ c' ∧ c' ≤ maxLen ∧ cur.size = c' * K.size ∧ cur.toList.take ((xs.length + ys.length) * K.size) = rows.flatten ++ nrows.flatten) := by
    rcases ho'.2 with ⟨rfl, h0⟩ | ⟨g, cap, cur, rfl, _, hg, hc, hm, hcs, ht⟩
    · exact ⟨none, 0, by rw [h0], .inl ⟨rfl, rfl, h0⟩⟩
    · exact ⟨_, cap, rfl, .inr ⟨g, cur, rfl, hg, hc, hm, hcs, ht⟩⟩
  obtain ⟨A', c', rfl, hA'⟩ := hform
  have hblock : ∀ b, (Own.row K A' c' E (xs ++ ys) true).block = some b → (Own.row K A c E xs true).block = some b ∨ w.heap.size ≤ b := by
    intro b hb
    have hvb : Value.ownBlock (.slice A' (xs.length + ys.length) c') = some b := by
      cases A' with
      | none => cases hb
      | some q => simpa [Value.ownBlock, Own.block] using hb
    rcases hat with h | h
    · rw [hvb] at h
      refine .inl ?_
      cases A with
      | none => cases h
      | some q => simpa [Value.ownBlock, Own.block] using h.symm
    · rw [hvb] at h; cases h; exact .inr (Nat.le_refl _)
  have hold : ∀ b, b < w.heap.size → (Own.row K A c E xs true).block ≠ some b → w'.heap[b]? = w.heap[b]? := by
    intro b hb hne
    refine hgr.block b hb fun e => hne ?_
    cases A with
    | none => cases e
    | some q => simpa [Value.ownBlock, Own.block] using e.symm
  refine Wv.of_run (w' := w') (v := .slice A' (xs.length + ys.length) c') ?_ ?_
  · simp only [execOp, resolve, invoke, builtin, Sem.run_bind, Sem.run_pure, Result.andThen_ok, List.map_toArray, List.map_cons, List.map_nil, hf.ev hx, hf.ev hy]
    have : (Builtin.append_ #[T, T] ty #[vL A xs c, vL (some ad) ys m]).run P w = .ok (.slice A' (xs.length + ys.length) c') w' := hrun
    rw [this]
    rfl
  · have hm' := hM.change (y := .row K A' c' E (xs ++ ys) true) hk w' hgr.os hgr.tape hgr.output hgr.size hold hblock fun S hS => ?_
    · have := kk A' c' w' hgr.size hold hm'
      unfold vL at this
      rwa [List.length_append] at this
    · have hsame : Same (Sh C own w) w w' := fun b ⟨h1, h2, h3⟩ => hold b h2 fun e => h3 ⟨_, List.mem_of_getElem? hk, e⟩
      refine ⟨rows ++ nrows, ((hr.append hnr).same hsame).mono hS, ?_⟩
      rcases hA' with ⟨rfl, rfl, h0⟩ | ⟨g, cur, rfl, hg, hc, hm, hcs, ht⟩
      · exact .inl ⟨rfl, rfl, List.eq_nil_of_length_eq_zero (by rw [List.length_append]; exact h0)⟩
      · exact .inr ⟨g, cur, (0, 0), rfl, hg, by rw [List.length_append]; exact hc, hm, hcs, by rw [List.length_append, ht, List.flatten_append], .inl rfl⟩
theorem w_append {α : Type} {K : Rep α} {A B : Option Addr} {c m : Nat} {xs ys zs : List α} {k : Nat} (hM : Mem C w own shr) (hT : P.underlying T = some (.slice E)) (hE : ElemInfo P E K.size) (hK : Nat.blt 0 K.size = true) (hx : ev L X = some (vL A xs c)) (hy : ev L Y = some (vL B ys m)) (hk : own[k]? = some (.row K A c E xs true)) (hs : Src K w (Sh C own w) B ys) (hz : catL xs ys = some zs)
    (kk : ∀ A' c' w', Mem C w' (own.set k (.row K A' c' E zs true)) shr → Kv (vL A' zs c') w') : Wv P ⟨dst, .call ⟨.builtin .append, #[X, Y], #[T, T]⟩, ty, pos, aft, g⟩ a w Kv :=
  w_appendX hf hM hT hE hK hx hy hk hs hz fun A' c' w' _ _ h => kk A' c' w' h
end
theorem w_appendD (hf : Has N a L) {α : Type} {K : Rep α} {A B : Option Addr} {c m : Nat} {xs ys zs : List α} {k : Nat} (hM : Mem C w own shr) (hT : P.underlying T = some (.slice E)) (hE : ElemInfo P E K.size) (hK : Nat.blt 0 K.size = true) (hx : ev L X = some (vL A xs c)) (hy : ev L Y = some (vL B ys m)) (hk : own[k]? = some (.row K A c E xs true)) (hs : (sliceRep K).R w (Sh C own w) ys [vL B ys m]) (hz : catL xs ys = some zs)
    (kk : ∀ A' c' w', Mem C w' (own.set k (.row K A' c' E zs true)) shr → Kv (vL A' zs c') w') : Wv P ⟨dst, .call ⟨.builtin .append, #[X, Y], #[T, T]⟩, ty, pos, aft, g⟩ a w Kv := by
  cases ys with
  | cons y ys => exact w_append hf hM hT hE hK hx hy hk (hM.srcDat hK hs (by simp)) hz kk
  | nil =>
    obtain ⟨rfl, hlim⟩ := catL_some hz
    rw [List.append_nil] at kk
    obtain ⟨i, z, hi, hz0, hzs, his, hib⟩ := hE
    have hc : xs.length ≤ c := by
      obtain ⟨rows, hr, hrow⟩ := hM.ownAt hk
      rcases hrow with ⟨_, rfl, rfl⟩ | ⟨_, _, _, _, _, h, _⟩
      · simp
      · exact h
    have hset : own.set k (.row K A c E xs true) = own := by
      apply List.ext_getElem?
      intro j
      rw [List.getElem?_set]
      split
      · rename_i h
        subst h
        split
        · exact hk.symm
        · rename_i h; rw [List.getElem?_eq_none (by omega)]
      · rfl
    have hfin := kk A c w (by rw [hset]; exact hM)
    refine Wv.of_run (w' := w) (v := vL A xs c) ?_ hfin
    simp only [execOp, resolve, invoke, builtin, Sem.run_bind, Sem.run_pure, Result.andThen_ok, List.map_toArray, List.map_cons, List.map_nil, hf.ev hx, hf.ev hy]
    have hrun : (Builtin.append_ #[T, T] ty #[vL A xs c, vL B ([] : List α) m]).run P w = .ok (vL A xs c) w := by
      cases A <;> cases B <;> simp [Builtin.append_, run_underlying hT, sizeOf, typeInfo, hi, Builtin.lenOf, hc, Builtin.firstCells, loadCells, loadCellsFrom, storeCells, vL]
    rw [hrun]
    rfl
theorem setCells_row (b : Nat) (T : TypeId) (fr : Nat × Nat) : ∀ (vs : List Value) (o : Nat) (cur : Array Value) (w : World), w.heap[b]? = some (.cells cur T fr) → o + vs.length ≤ cur.size →
    w.setCells b o vs = w.setRow b (cur.toList.take o ++ vs ++ cur.toList.drop (o + vs.length)).toArray
  | [], o, cur, w, hg, _ => by
    simp only [World.setCells, List.append_nil, List.length_nil, Nat.add_zero, List.take_append_drop, Array.toArray_toList]
    rw [setRow_self w b cur T fr hg]
  | v :: rest, o, cur, w, hg, hl => by
    have hi : o < cur.size := by simp at hl; omega
    rw [World.setCells, setCell_eq_setRow w b o cur T fr v hg, setCells_row b T fr rest (o + 1) (cur.setIfInBounds o v) _ (setRow_heap w b cur _ T fr hg) (by simp at hl ⊢; omega), setRow_setRow]
    congr 2
    have e := list_seg_step cur.toList o v rest (by simp at hl ⊢; omega)
    simpa [Array.toList_setIfInBounds, Nat.add_assoc] using e
theorem run_storeRow (w : World) (b o : Nat) (T : TypeId) (fr : Nat × Nat) (vs : List Value) (cur : Array Value) (hg : w.heap[b]? = some (.cells cur T fr)) (hfr : fr = (0, 0) ∨ cur.size ≤ fr.1) (hl : o + vs.length ≤ cur.size) (h1 : ∀ v ∈ vs, v.oneCell' = true) :
    (storeCells ⟨b, o, none⟩ vs 0).run P w = .ok () (w.setRow b (cur.toList.take o ++ vs ++ cur.toList.drop (o + vs.length)).toArray) := by
  have h := run_storeCells_cells (P := P) b o vs 0 w (fun j hj => by rw [cell_of_row w b _ cur T fr hg]; simp; omega) (fun j hj => by
    simp only [World.frozen?, hg]
    rcases hfr with rfl | hfr
    · simp
    · simp; omega) h1
  rw [h, Nat.add_zero, setCells_row b T fr vs o cur w hg hl]
theorem Mem.rowElem (h : Mem C w own shr) {α : Type} {K : Rep α} {A : Option Addr} {c : Nat} {xs : List α} {app : Bool} {k : Nat} (hk : own[k]? = some (.row K A c E xs app)) {i : Int} {x : α} (hx : getL xs i = some x) :
    ∃ b row, A = some ⟨b, 0, none⟩ ∧ 0 ≤ i ∧ i < xs.length ∧ K.R w (Sh C own w) x row ∧ ∀ j u, row[j]? = some u → w.cell? ⟨b, 0 + i.toNat * K.size + j, none⟩ = some u := by
  obtain ⟨h0, hlt, hg⟩ := getL_some hx
  obtain ⟨rows, hr, hrow⟩ := h.ownAt hk
  rcases hrow with ⟨rfl, rfl, rfl⟩ | ⟨g, cur, fr, rfl, hgg, hc, hm, hcs, ht, hfr⟩
  · simp at hlt
  · obtain ⟨row, h1, h2⟩ := hr.2 i.toNat x hg
    refine ⟨g, row, rfl, h0, by omega, h2, fun j u hu => ?_⟩
    have hf := hr.at_ h1 hu
    rw [← ht, List.getElem?_take] at hf
    split at hf
    · rw [Nat.zero_add, cell_of_row w g _ cur E fr hgg]; simpa using hf
    · cases hf
theorem put_at {α : Type} {cur row us : List α} {q d : Nat} (h1 : q + row.length ≤ cur.length) (h2 : d + us.length ≤ row.length) (hrc : ∀ j, j < row.length → cur[q + j]? = row[j]?) :
    cur.take (q + d) ++ us ++ cur.drop (q + d + us.length) = cur.take q ++ (row.take d ++ us ++ row.drop (d + us.length)) ++ cur.drop (q + row.length) := by
  have hrow : row = (cur.drop q).take row.length := by
    apply List.ext_getElem?
    intro j
    rw [List.getElem?_take]
    split
    · rename_i hj; rw [List.getElem?_drop, hrc j hj]
    · rename_i hj; exact List.getElem?_eq_none (by omega)
  generalize row.length = n at hrow h1 h2
  subst hrow
  rw [List.take_take, Nat.min_eq_left (by omega), List.drop_take, List.drop_drop, List.take_add, List.append_assoc, List.append_assoc, List.append_assoc, List.append_assoc, List.append_assoc]
  congr 3
  have e : cur.drop (q + n) = (cur.drop (q + (d + us.length))).drop (n - (d + us.length)) := by rw [List.drop_drop]; congr 1; omega
  rw [e, List.take_append_drop]
  congr 1
  omega
theorem Mem.setElem {α : Type} {K : Rep α} {A : Option Addr} {b c k : Nat} {xs ys : List α} {app : Bool} {x : α} {row : List Value} {i : Int} (hM : Mem C w own shr) (hAA : A = some ⟨b, 0, none⟩) (hk : own[k]? = some (.row K A c E xs app))
    (hr : K.R w (Sh C own w) x row) (hz : setL xs i x = some ys) : ∃ cur fr, w.heap[b]? = some (.cells cur E fr) ∧ (fr = (0, 0) ∨ cur.size ≤ fr.1) ∧ 0 + i.toNat * K.size + row.length ≤ cur.size ∧ row.length = K.size ∧
      Mem C (w.setRow b (cur.toList.take (0 + i.toNat * K.size) ++ row ++ cur.toList.drop (0 + i.toNat * K.size + row.length)).toArray) (own.set k (.row K A c E ys app)) shr := by
  subst hAA
  obtain ⟨h0, hlt, rfl⟩ := setL_some hz
  obtain ⟨o, ho⟩ : ∃ o, o = 0 + i.toNat * K.size := ⟨_, rfl⟩
  rw [← ho]
  obtain ⟨rows, hrs, hrow⟩ := hM.ownAt hk
  rcases hrow with ⟨h, _⟩ | ⟨g, cur, fr, hA, hgg, hc, hm, hcs, ht, hfr⟩
  · cases h
  · cases hA
    have hrl := K.len hr
    have hle : i.toNat * K.size + K.size ≤ xs.length * K.size := by rw [← Nat.succ_mul]; exact Nat.mul_le_mul_right _ hlt
    have hle2 : xs.length * K.size ≤ c * K.size := Nat.mul_le_mul_right _ hc
    refine ⟨cur, fr, hgg, hfr.imp id (fun h => h.2), by omega, hrl, ?_⟩
    have hold : ∀ b', b' < w.heap.size → (Own.row K (some ⟨b, 0, none⟩) c E xs app).block ≠ some b' → (w.setRow b (cur.toList.take o ++ row ++ cur.toList.drop (o + row.length)).toArray).heap[b']? = w.heap[b']? := fun b' _ hb' => setRow_other w b b' _ (fun e => hb' (by rw [e]; rfl))
    refine hM.change (y := .row K (some ⟨b, 0, none⟩) c E (xs.set i.toNat x) app) hk _ rfl rfl rfl (by simp [World.setRow]) hold (fun b' hb' => .inl hb') fun S hS => ?_
    have hsame : Same (Sh C own w) w (w.setRow b (cur.toList.take o ++ row ++ cur.toList.drop (o + row.length)).toArray) := fun b' ⟨h1, h2, h3⟩ => hold b' h2 fun e => h3 ⟨_, List.mem_of_getElem? hk, e⟩
    have hcl : (cur.toList.take o ++ row ++ cur.toList.drop (o + row.length)).length = cur.size := by simp; omega
    have hrs' : RowsOf K w (Sh C own w) (xs.set i.toNat x) (rows.set i.toNat row) := by
      refine ⟨by simp [hrs.1], fun j y hj => ?_⟩
      rw [List.getElem?_set] at hj ⊢
      split at hj
      · rename_i hij
        subst hij
        rw [if_pos rfl, if_pos (by rw [hrs.1]; exact hlt)]
        try rw [if_pos hlt] at hj
        cases hj
        exact ⟨row, rfl, hr⟩
      · rename_i hij
        rw [if_neg hij]
        exact hrs.2 j y hj
    refine ⟨rows.set i.toNat row, (hrs'.same hsame).mono hS, .inr ⟨b, _, fr, rfl, setRow_heap w b cur _ E fr hgg, by simpa using hc, hm, by rw [List.size_toArray, hcl]; exact hcs, ?_, ?_⟩⟩
    · have hK0 : 0 < K.size ∨ K.size = 0 := by omega
      apply List.ext_getElem?
      intro j
      have hfl := hrs'.flat_len
      rw [List.length_set] at hfl
      rw [List.length_set, List.getElem?_take]
      rcases Nat.lt_or_ge j (xs.length * K.size) with hj | hj
      · rw [if_pos hj]
        have hK' : 0 < K.size := by
          rcases hK0 with h | h
          · exact h
          · rw [h] at hj; simp at hj
        have hlens : ∀ r ∈ rows.set i.toNat row, r.length = K.size := by
          intro r hr'
          obtain ⟨q, hq, rfl⟩ := List.getElem_of_mem hr'
          have hq' : q < (xs.set i.toNat x).length := by rw [List.length_set] at hq ⊢; rw [← hrs.1]; exact hq
          obtain ⟨r2, h1, h2⟩ := hrs'.2 q ((xs.set i.toNat x)[q]'hq') (List.getElem?_eq_getElem hq')
          rw [List.getElem?_eq_getElem hq, Option.some.injEq] at h1
          rw [h1]; exact K.len h2
        have hlens0 : ∀ r ∈ rows, r.length = K.size := by
          intro r hr'
          obtain ⟨q, hq, rfl⟩ := List.getElem_of_mem hr'
          have hq' : q < xs.length := by rw [← hrs.1]; exact hq
          obtain ⟨r2, h1, h2⟩ := hrs.2 q (xs[q]'hq') (List.getElem?_eq_getElem hq')
          rw [List.getElem?_eq_getElem hq, Option.some.injEq] at h1
          rw [h1]; exact K.len h2
        rw [flatten_at hK' hlens j (by rw [List.length_set, hrs.1]; exact hj)]
        have hold0 := flatten_at hK' hlens0 j (by rw [hrs.1]; exact hj)
        rw [← ht, List.getElem?_take, if_pos hj] at hold0
        rw [List.getElem?_set]
        have hdm := Nat.div_add_mod j K.size
        rw [Nat.mul_comm] at hdm
        have hml := Nat.mod_lt j hK'
        split
        · rename_i hij
          rw [if_pos (by rw [hrs.1]; exact hlt)]
          rw [hij] at ho
          rw [List.append_assoc, List.getElem?_append_right (by simp; omega), List.getElem?_append_left (by simp; omega)]
          simp only [Option.bind_some, List.length_take, Array.length_toList]
          congr 1
          omega
        · rename_i hij
          rw [← hold0]
          rcases Nat.lt_or_gt_of_ne hij with h | h
          · have : (i.toNat + 1) * K.size ≤ j / K.size * K.size := Nat.mul_le_mul_right _ h
            rw [Nat.succ_mul] at this
            rw [List.getElem?_append_right (by simp; omega), List.getElem?_drop]
            congr 1
            simp; omega
          · have : (j / K.size + 1) * K.size ≤ i.toNat * K.size := Nat.mul_le_mul_right _ h
            rw [Nat.succ_mul] at this
            rw [List.append_assoc, List.getElem?_append_left (by simp; omega), List.getElem?_take, if_pos (by omega)]
      · rw [if_neg (by omega), List.getElem?_eq_none (by rw [hfl]; exact hj)]
    · rcases hfr with h | ⟨h1, h2⟩
      · exact .inl h
      · exact .inr ⟨h1, by rw [List.size_toArray, hcl]; exact h2⟩
section
variable (hf : Has N a L)
include hf
theorem w_storeElem {α : Type} {K : Rep α} {A : Option Addr} {b o c k : Nat} {xs ys : List α} {app : Bool} {x : α} {v : Value} {row : List Value} {i : Int} (hM : Mem C w own shr) (hx : ev L X = some (vP b o)) (ho : o = 0 + i.toNat * K.size) (hy : ev L Y = some v) (hAA : A = some ⟨b, 0, none⟩) (hk : own[k]? = some (.row K A c E xs app)) (hv : v.cells = row.toArray) (hs : ∀ w, (sizeOf T).run P w = .ok row.length w)
    (hr : K.R w (Sh C own w) x row) (hz : setL xs i x = some ys) (kk : ∀ w', Mem C w' (own.set k (.row K A c E ys app)) shr → Kv undef w') : Wv P ⟨dst, .store T X Y, ty, pos, aft, g⟩ a w Kv := by
  obtain ⟨cur, fr, hgg, hfr, hle, hrl, hM'⟩ := hM.setElem hAA hk hr hz
  rw [← ho] at hM' hle
  have hst := run_storeRow (P := P) w b o E fr row cur hgg hfr hle (K.one hr)
  refine Wv.of_skip (w' := w.setRow b (cur.toList.take o ++ row ++ cur.toList.drop (o + row.length)).toArray) ?_ (kk _ hM')
  simp [execOp, hf.ev hx, hf.ev hy, Instr.storeAt, Instr.sureAddr, storeVar, hs w, hv, hst]
theorem w_storePart {α : Type} {K : Rep α} {A : Option Addr} {b o c k d : Nat} {xs ys : List α} {app : Bool} {x : α} {v : Value} {us row row' : List Value} {i : Int} (hM : Mem C w own shr) (hx : ev L X = some (vP b o)) (ho : o = 0 + i.toNat * K.size + d) (hy : ev L Y = some v) (hAA : A = some ⟨b, 0, none⟩) (hk : own[k]? = some (.row K A c E xs app)) (hv : v.cells = us.toArray) (hs : ∀ w, (sizeOf T).run P w = .ok us.length w)
    (hcell : ∀ j u, row[j]? = some u → w.cell? ⟨b, 0 + i.toNat * K.size + j, none⟩ = some u) (hr : K.R w (Sh C own w) x row') (hz : setL xs i x = some ys) (hp : putCs row d us = row') (hld : Nat.ble (d + us.length) row.length = true) (kk : ∀ w', Mem C w' (own.set k (.row K A c E ys app)) shr → Kv undef w') : Wv P ⟨dst, .store T X Y, ty, pos, aft, g⟩ a w Kv := by
  obtain ⟨cur, fr, hgg, hfr, hle, hrl, hM'⟩ := hM.setElem hAA hk hr hz
  have hld' : d + us.length ≤ row.length := Nat.le_of_ble_eq_true hld
  have hpl : row'.length = row.length := by rw [← hp]; exact putCs_len hld'
  obtain ⟨q, hq⟩ : ∃ q, q = 0 + i.toNat * K.size := ⟨_, rfl⟩
  rw [← hq] at hM' hle ho hcell
  have hone : ∀ u ∈ us, u.oneCell' = true := fun u hu => K.one hr u (by rw [← hp]; unfold putCs; simp [hu])
  have hrc : ∀ j, j < row.length → cur.toList[q + j]? = row[j]? := by
    intro j hj
    have := hcell j row[j] (List.getElem?_eq_getElem hj)
    rw [cell_of_row w b _ cur E fr hgg] at this
    rw [List.getElem?_eq_getElem hj, ← this]
    simp
  have hst := run_storeRow (P := P) w b o E fr us cur hgg hfr (by omega) hone
  have heq : cur.toList.take o ++ us ++ cur.toList.drop (o + us.length) = cur.toList.take q ++ row' ++ cur.toList.drop (q + row'.length) := by
    rw [hpl]
    subst hp ho
    exact put_at (by have := Array.length_toList (xs := cur); omega) hld' hrc
  rw [← heq] at hM'
  refine Wv.of_skip (w' := w.setRow b (cur.toList.take o ++ us ++ cur.toList.drop (o + us.length)).toArray) ?_ (kk _ hM')
  simp [execOp, hf.ev hx, hf.ev hy, Instr.storeAt, Instr.sureAddr, storeVar, hs w, hv, hst]
theorem w_make {α : Type} {K : Rep α} {n : Int} {z0 : α} {z : Value} {xs : List α} (hM : Mem C w own shr) (hT : P.underlying T = some (.slice E)) (hE : ElemInfo P E K.size) (hz : ∀ w, (zeroValue E).run P w = .ok z w) (hK : Nat.blt 0 K.size = true) (hx : ev L X = some (vI n)) (hy : ev L Y = some (vI n)) (hr : K.R w (Sh C own w) z0 z.cells.toList) (hm : makeL n z0 = some xs)
    (kk : ∀ b w', Ext w w' → Mem C w' (.row K (some ⟨b, 0, none⟩) n.toNat E xs true :: own) shr → Kv (vL (some ⟨b, 0, none⟩) xs n.toNat) w') : Wv P ⟨dst, .makeSlice T X Y, ty, pos, aft, g⟩ a w Kv := by
  obtain ⟨i, z', hi, hz0, hzs, his, hib⟩ := hE
  obtain rfl : z' = z := by
    have := hz w
    simp [zeroValue, typeInfo, hi, hz0] at this
    exact this
  obtain ⟨h0, hle, rfl, hlen⟩ := makeL_some hm
  have hK' : 0 < K.size := by simpa [Nat.blt_eq] using hK
  unfold lim at hle
  have hbytes : (i.bytes : Int) * n ≤ 281474976710656 := by
    obtain ⟨m, rfl⟩ := Int.eq_ofNat_of_zero_le h0
    rw [← Int.natCast_mul]
    have : i.bytes * m ≤ 1000 * 100000000 := Nat.mul_le_mul hib (by omega)
    omega
  have hrun := run_make (P := P) w T E i z' hT hi hz0 .i64 .i64 n n h0 (Int.le_refl _) hbytes (by omega)
  have hrows : RowsOf K w (Sh C own w) (List.replicate n.toNat z0) (List.replicate n.toNat z'.cells.toList) := by
    refine ⟨by simp, fun j x hj => ?_⟩
    rw [List.getElem?_replicate] at hj ⊢
    split at hj
    · rename_i hlt
      cases hj
      exact ⟨_, by rw [if_pos hlt], hr⟩
    · cases hj
  have htk : (madeCells z'.cells (n.toNat * i.size)).toList.take ((List.replicate n.toNat z0).length * K.size) = (List.replicate n.toNat z'.cells.toList).flatten := by
    apply List.ext_getElem?
    intro j
    rw [List.length_replicate, his, List.getElem?_take]
    rcases Nat.lt_or_ge j (n.toNat * K.size) with hj | hj
    · rw [if_pos hj, flatten_at hK' (by intro r hr'; rw [List.eq_of_mem_replicate hr']; simpa using hzs) j (by simpa using hj), List.getElem?_replicate, if_pos ((Nat.div_lt_iff_lt_mul hK').2 hj)]
      have hml := Nat.mod_lt j hK'
      simp only [madeCells, Array.toList_map, Array.toList_range, List.getElem?_map, List.getElem?_range hj, Option.map_some, Option.bind_some, hzs]
      rw [List.getElem?_eq_getElem (by simpa [hzs] using hml)]
      simp [hzs, hml]
    · rw [if_neg (by omega), List.getElem?_eq_none (by rw [hrows.flat_len, List.length_replicate]; exact hj)]
  obtain ⟨h1, h2⟩ := hM.newRow (E := E) (c := n.toNat) (app := true) (fr := (0, 0)) (cur := madeCells z'.cells (n.toNat * i.size)) hrows (w.alloc (.cells (madeCells z'.cells (n.toNat * i.size)) E)) rfl rfl rfl (by simp) (fun b hb => Below.heap_alloc w _ b hb) (heap_alloc_new w _) (by simp) (maxLen_ge (by omega)) (by rw [size_madeCells, his]) htk (.inl rfl)
  refine Wv.of_run (w' := w.alloc (.cells (madeCells z'.cells (n.toNat * i.size)) E)) (v := .slice (some ⟨w.heap.size, 0, none⟩) n.toNat n.toNat) ?_ ?_
  · simp only [execOp, Sem.run_bind, hf.ev hx, hf.ev hy, hrun, Result.andThen_ok, Sem.run_pure]
  · have := kk _ _ h2 h1
    unfold vL at this
    rwa [List.length_replicate] at this
end
end
end Go.Proofs.YtdaoecpkgobelaaGreatDoor
