/- The engine, fifth part: operations on memory. -/
import Derived.Test.YtdaoecpkgobelaaGreatDoorEngD
import Derived.Great.FillDense
import Derived.Lib.FrozenHead
namespace Go.Proofs.YtdaoecpkgobelaaGreatDoor
open Go Go.RowKit
set_option linter.unusedSimpArgs false
set_option linter.unusedVariables false
def ElemInfo (P : Program) (e : TypeId) (n : Nat) : Prop := ∃ i z, P.info? e = some i ∧ i.zero = some z ∧ z.cells.size = n ∧ i.size = n ∧ i.bytes ≤ 1000
theorem elemInfo {P : Program} {t : TypeId} {n : Nat} (h : (P.info? t).map (fun i => (i.zero.map (fun z => z.cells.size), i.size, decide (i.bytes ≤ 1000))) = some (some n, n, true)) : ElemInfo P t n := by
  cases hi : P.info? t with
  | none => rw [hi] at h; cases h
  | some i =>
    rw [hi] at h
    simp only [Option.map_some, Option.some.injEq, Prod.mk.injEq, decide_eq_true_eq, Option.map_eq_some_iff] at h
    obtain ⟨⟨z, hz, hzs⟩, hs, hb⟩ := h
    exact ⟨i, z, hi, hz, hzs, hs, hb⟩
def AggInfo (P : Program) (t : TypeId) (n : Nat) : Prop := (∀ w, (isAgg t).run P w = .ok true w) ∧ ∀ w, (sizeOf t).run P w = .ok n w
def FlatInfo (P : Program) (t : TypeId) : Prop := ∀ w, (isAgg t).run P w = .ok false w
section
variable {P : Program} {N : Nat} {a : Act} {L : List (Nat × Value)} {dst : Option Tmp} {ty T U E : TypeId} {pos : String} {aft : Array Edge} {g : Option (Nat × Bool)} {X Y Z : Operand} {w : World}
section
variable (hf : Has N a L)
include hf
theorem e_load1 {b o : Nat} {u : Value} (hx : ev L X = some (vP b o)) (hT : FlatInfo P T) (hc : w.cell? ⟨b, o, none⟩ = some u) : Yd P (Ext w) a ⟨dst, .load T X, ty, pos, aft, g⟩ u := by
  intro x hS
  have := hS.cell hc
  simp [execOp, hf.ev hx, Instr.loadAt, Instr.sureAddr, loadVar, hT x, run_load, this]
omit hf in
theorem add_lit (b o j : Nat) : (⟨b, o, none⟩ : Addr).add j = ⟨b, o + j, none⟩ := by unfold Addr.add; split <;> simp_all
theorem e_loadA {b o n : Nat} {us : List Value} (hx : ev L X = some (vP b o)) (hT : AggInfo P T n) (hn : us.length = n) (hc : ∀ j u, us[j]? = some u → w.cell? ⟨b, o + j, none⟩ = some u) : Yd P (Ext w) a ⟨dst, .load T X, ty, pos, aft, g⟩ (.agg us.toArray) := by
  intro x hS
  have hl := run_loadCells_list (P := P) x ⟨b, o, none⟩ us (fun j v hv => by rw [add_lit]; exact hS.cell (hc j v hv))
  subst hn
  simp [execOp, hf.ev hx, Instr.loadAt, Instr.sureAddr, loadVar, hT.1 x, hT.2 x, hl]
theorem e_field {b o o' n k : Nat} {fs : Array Field} {fd : Field} {S : World → Prop} (hx : ev L X = some (vP b o)) (hT : P.underlying T = some (.struct fs)) (hk : fs[k]? = some fd) (hs : ∀ w, (sizeOf fd.type).run P w = .ok (n + 1) w) (ho : o + fd.offset = o') : Yd P S a ⟨dst, .fieldAddr T X k, ty, pos, aft, g⟩ (vP b o') := by
  intro x _
  subst ho
  simp [execOp, hf.ev hx, Instr.fieldAt, run_underlying hT, hk, Instr.sureAddr, fieldPlace, hs x, add_lit]
theorem e_indexAddr {α : Type} {A : Option Addr} {b o n c : Nat} {xs : List α} {i : Int} {S : World → Prop} (hA : A = some ⟨b, o, none⟩) (hx : ev L X = some (vL A xs c)) (hy : ev L Y = some (vI i)) (hT : P.underlying T = some (.slice E)) (hs : ∀ w, (sizeOf E).run P w = .ok n w) (h0 : 0 ≤ i) (h1 : i < xs.length) : Yd P S a ⟨dst, .indexAddr T X Y, ty, pos, aft, g⟩ (vP b (o + i.toNat * n)) := by
  subst hA
  intro x _
  simp [execOp, hf.ev hx, hf.ev hy, Instr.indexAt, asIntOf, run_underlying hT, h0, h1, hs x, add_lit]
theorem e_bytesStr {S : Nat → Prop} {A : Option Addr} {xs : Str} {c : Nat} (hx : ev L X = some (vL A xs c)) (hT : P.underlying T = some (.slice E)) (hE : P.underlying E = some (.int .u8)) (hU : P.underlying U = some .string) (hr : (sliceRep byteRep).R w S xs [vL A xs c]) : Yd P (Ext w) a ⟨dst, .convert T U X, ty, pos, aft, g⟩ (vS xs) := by
  intro x hS
  obtain ⟨A', c', he, hc, hm, hsr⟩ := hr
  simp only [List.cons.injEq, Value.slice.injEq, and_true] at he
  obtain ⟨rfl, _, rfl⟩ := he
  cases A with
  | none =>
    have hnil : xs = [] := by
      cases xs with
      | nil => rfl
      | cons y ys => obtain ⟨b, off, h, _⟩ := hsr (by simp); cases h
    subst hnil
    have h1 := run_convert_bytes_string (P := P) x T U E none ([] : Str).length c hT hE hU
    have h2 : (Conv.bytesToString (.slice none ([] : Str).length c)).run P x = .ok (.string .empty) x := by simp [Conv.bytesToString]
    rw [h2] at h1
    simp only [execOp, hf.ev hx, Sem.run_bind, h1, Result.andThen_ok, Sem.run_pure]
    rfl
  | some A =>
    have hcell : ∀ j (hj : j < xs.length), x.cell? (A.add j) = some (.int .u8 (xs[j].toNat : Int)) := by
      intro j hj
      obtain ⟨b, off, h, hb, hcc⟩ := hsr (by omega)
      cases h
      obtain ⟨row, hrow, hcc⟩ := hcc j xs[j] (List.getElem?_eq_getElem hj)
      have hrow' : row = [vB xs[j]] := hrow
      have := hcc 0 (vB xs[j]) (by rw [hrow']; rfl)
      rw [add_lit]
      refine hS.cell ?_
      rw [← this]
      show w.cell? ⟨b, off + j, none⟩ = w.cell? ⟨b, off + j * byteRep.size + 0, none⟩
      rw [show byteRep.size = 1 from rfl, Nat.mul_one, Nat.add_zero]
    have h1 := run_convert_bytes_back (P := P) x T U E A c xs hT hE hU hcell
    simp only [execOp, hf.ev hx, Sem.run_bind, h1, Result.andThen_ok, Sem.run_pure]
theorem e_subLl {α : Type} {A A' : Option Addr} {xs ys : List α} {c n : Nat} {l : Int} {S : World → Prop} (hx : ev L X = some (vL A xs c)) (hy : ev L Y = some (vI l)) (hT : P.underlying T = some (.slice E)) (hs : ∀ w, (sizeOf E).run P w = .ok n w) (hc : xs.length ≤ c) (hz : subL xs l xs.length = some ys)
    (hA : A' = if c - l.toNat = 0 ∧ False then A else if c = l.toNat then A else A.map (·.add (l.toNat * n))) : Yd P S a ⟨dst, .slice T X (some Y) none none, ty, pos, aft, g⟩ (vL A' ys (c - l.toNat)) := by
  intro x _
  obtain ⟨h0, h1, h2, _, hl⟩ := subL_some hz
  rw [if_neg (by simp)] at hA
  subst hA
  have hl' : ys.length = xs.length - l.toNat := by omega
  simp [execOp, hf.ev hx, hf.ev hy, Instr.sliceAt, Instr.slice, Instr.sliceBounds, Instr.sliceBound, asIntOf, run_underlying hT, h0, h1, hs x, vL, hl']
  try (intro hh; omega)
theorem e_subLh {α : Type} {A A' : Option Addr} {xs ys : List α} {c n : Nat} {h : Int} {S : World → Prop} (hx : ev L X = some (vL A xs c)) (hh : ev L Z = some (vI h)) (hT : P.underlying T = some (.slice E)) (hs : ∀ w, (sizeOf E).run P w = .ok n w) (hc : xs.length ≤ c) (hz : subL xs 0 h = some ys)
    (hA : A' = if c - (0 : Int).toNat = 0 ∧ False then A else if c = (0 : Int).toNat then A else A.map (·.add ((0 : Int).toNat * n))) : Yd P S a ⟨dst, .slice T X none (some Z) none, ty, pos, aft, g⟩ (vL A' ys (c - (0 : Int).toNat)) := by
  intro x _
  obtain ⟨h0, h1, h2, _, hl⟩ := subL_some hz
  have e1 : h ≤ (c : Int) := by omega
  rw [if_neg (by simp)] at hA
  subst hA
  simp [execOp, hf.ev hx, hf.ev hh, Instr.sliceAt, Instr.slice, Instr.sliceBounds, Instr.sliceBound, asIntOf, run_underlying hT, h1, e1, hs x, vL, hl]
/-! ### Operations that change the world -/
variable {C : Cx} {own : List Own} {shr : List Shr} {K : Value → World → Prop}
theorem w_box {v : Value} {cs : List Value} (hM : Mem C w own shr) (hx : ev L X = some v) (hcs : v.cells = cs.toArray) (k : ∀ b w', Ext w w' → Mem C w' (.box b cs E :: own) shr → K (vP b 0) w') : Wv P ⟨dst, .box E X, ty, pos, aft, g⟩ a w K := by
  obtain ⟨h1, h2⟩ := hM.alloc cs E
  refine Wv.of_run (w' := w.alloc (.cells cs.toArray E)) (v := vP w.heap.size 0) ?_ (k _ _ h2 h1)
  simp [execOp, hf.ev hx, Instr.box, newVar, newRow, hcs]
omit hf in
theorem w_alloc {z : Value} {cs : List Value} (hM : Mem C w own shr) (hz : ∀ w, (zeroValue E).run P w = .ok z w) (hcs : z.cells = cs.toArray) (k : ∀ b w', Ext w w' → Mem C w' (.box b cs E :: own) shr → K (vP b 0) w') : Wv P ⟨dst, .alloc E, ty, pos, aft, g⟩ a w K := by
  obtain ⟨h1, h2⟩ := hM.alloc cs E
  refine Wv.of_run (w' := w.alloc (.cells cs.toArray E)) (v := vP w.heap.size 0) ?_ (k _ _ h2 h1)
  simp [execOp, Instr.alloc, hz w, newVar, newRow, hcs]
end
def putCs (cs : List Value) (o : Nat) (us : List Value) : List Value := cs.take o ++ us ++ cs.drop (o + us.length)
theorem putCs_len {cs us : List Value} {o : Nat} (h : o + us.length ≤ cs.length) : (putCs cs o us).length = cs.length := by
  unfold putCs; simp; omega
variable {C : Cx} {own own' : List Own} {shr : List Shr} {K : Value → World → Prop}
theorem sep_set {k : Nat} {x y : Own} (hs : own.Pairwise fun x y => ∀ b, x.block = some b → y.block ≠ some b) (hk : own[k]? = some x) (hb : ∀ b, y.block = some b → x.block = some b ∨ ∀ z ∈ own, z.block ≠ some b) : (own.set k y).Pairwise fun x y => ∀ b, x.block = some b → y.block ≠ some b := by
  obtain ⟨hk1, hk2⟩ := List.getElem?_eq_some_iff.1 hk
  rw [List.pairwise_iff_getElem] at hs ⊢
  intro i j hi hj hij b h1 h2
  simp only [List.length_set] at hi hj
  rw [List.getElem_set] at h1 h2
  split at h1
  · rename_i hki
    rw [if_neg (by omega)] at h2
    rcases hb b h1 with h1 | h1
    · subst hki; exact hs k j hi hj hij b (by rw [hk2]; exact h1) h2
    · exact h1 _ (List.getElem_mem hj) h2
  · split at h2
    · rename_i hkj
      rcases hb b h2 with h2 | h2
      · subst hkj; exact hs i k hi hj hij b h1 (by rw [hk2]; exact h2)
      · exact h2 _ (List.getElem_mem hi) h1
    · exact hs i j hi hj hij b h1 h2
theorem Mem.change (h : Mem C w own shr) {k : Nat} {x y : Own} (hk : own[k]? = some x) (w' : World) (hos : w'.os = w.os) (htape : w'.tape = w.tape) (hout : w'.output = w.output) (hsize : w.heap.size ≤ w'.heap.size)
    (hold : ∀ b, b < w.heap.size → x.block ≠ some b → w'.heap[b]? = w.heap[b]?) (hy : ∀ b, y.block = some b → x.block = some b ∨ w.heap.size ≤ b) (hg : ∀ S, (∀ b, Sh C own w b → S b) → y.good w' S) : Mem C w' (own.set k y) shr := by
  have hx : x ∈ own := List.mem_of_getElem? hk
  have hblk : ∀ b, ownB (own.set k y) b → ownB own b ∨ w.heap.size ≤ b := by
    rintro b ⟨z, hz, hzb⟩
    rcases List.mem_or_eq_of_mem_set hz with hz | rfl
    · exact .inl ⟨z, hz, hzb⟩
    · rcases hy b hzb with h | h
      · exact .inl ⟨x, hx, h⟩
      · exact .inr h
  have hSh : ∀ b, Sh C own w b → Sh C (own.set k y) w' b := fun b ⟨h1, h2, h3⟩ => ⟨h1, Nat.lt_of_lt_of_le h2 hsize, fun hb => (hblk b hb).elim h3 (fun hge => absurd h2 (by omega))⟩
  have hs : Same (Sh C own w) w w' := fun b ⟨h1, h2, h3⟩ => hold b h2 (fun hb => h3 ⟨x, hx, hb⟩)
  refine h.step w' _ hos htape hout hsize (fun b hb hn => hold b hb (fun hxb => hn ⟨x, hx, hxb⟩)) hblk (sep_set h.sep hk fun b hb => (hy b hb).imp id fun hge z hz hzb => absurd (h.lt hz b hzb) (by omega)) fun z hz => ?_
  obtain ⟨i, hi, rfl⟩ := List.getElem_of_mem hz
  simp only [List.length_set] at hi
  rw [List.getElem_set]
  split
  · exact hg _ hSh
  · rename_i hki
    have hz' : own[i] ∈ own := List.getElem_mem hi
    refine Own.good_same (h.own_ _ hz') hs (fun b hb => hold b (h.lt hz' b hb) fun hxb => ?_) hSh
    obtain ⟨hk1, hk2⟩ := List.getElem?_eq_some_iff.1 hk
    have hsep := h.sep
    rw [List.pairwise_iff_getElem] at hsep
    rcases Nat.lt_or_gt_of_ne hki with hlt | hgt
    · exact hsep k i hk1 hi hlt b (by rw [hk2]; exact hxb) hb
    · exact hsep i k hi hk1 hgt b hb (by rw [hk2]; exact hxb)
variable (hf : Has N a L)
include hf
theorem w_store {b o k : Nat} {v : Value} {cs cs' us : List Value} {B : TypeId} (hM : Mem C w own shr) (hx : ev L X = some (vP b o)) (hy : ev L Y = some v) (hk : own[k]? = some (.box b cs B)) (hv : v.cells = us.toArray) (hs : ∀ w, (sizeOf T).run P w = .ok us.length w)
    (h1 : us.all (·.oneCell') = true) (hle : Nat.ble (o + us.length) cs.length = true) (hcs : putCs cs o us = cs') (kk : ∀ w', Mem C w' (own.set k (.box b cs' B)) shr → K undef w') : Wv P ⟨dst, .store T X Y, ty, pos, aft, g⟩ a w K := by
  have hg : w.heap[b]? = some (.cells cs.toArray B (0, 0)) := hM.ownAt hk
  have hle' : o + us.length ≤ cs.length := Nat.le_of_ble_eq_true hle
  have hst := run_storeCells_at (P := P) b o B us 0 cs.toArray w hg (by simpa using hle') (fun u hu => List.all_eq_true.1 h1 u hu)
  have hrow : (cs.take (o + 0) ++ us ++ cs.drop (o + 0 + us.length)) = cs' := by rw [← hcs]; simp [putCs]
  simp only [List.toList_toArray, hrow] at hst
  refine Wv.of_skip (w' := w.setRow b cs'.toArray) ?_ (kk _ ?_)
  · simp [execOp, hf.ev hx, hf.ev hy, Instr.storeAt, Instr.sureAddr, storeVar, hs w, hv, hst]
  · refine hM.change hk _ rfl rfl rfl (by simp [World.setRow]) (fun b' _ hb' => setRow_other w b b' _ (fun e => hb' (by rw [e]; rfl))) (fun b' hb' => .inl hb') fun S _ => ?_
    exact setRow_heap w b _ _ B _ hg
theorem w_call {f : FuncId} {xs : List Operand} {vs : List Value} {tys : Array TypeId} {R : Ending → World → Prop} (hcall : ∀ (args : Array Value) (w : World), (callFunc f args).run P w = .ok (.enter f args) w) (hxs : evs L xs = some vs) (hc : Calls P f vs.toArray w R) (k : ∀ e w', R e w' → ∃ v, e = .returned v ∧ K v w') :
    Wv P ⟨dst, .call ⟨.value (.func f), xs.toArray, tys⟩, ty, pos, aft, g⟩ a w K := by
  have hargs : (xs.toArray.map a.eval) = vs.toArray := by rw [List.map_toArray, hf.evs hxs]
  refine Wv.of_enter (f := f) (args := vs.toArray) ?_ (hc.mono k)
  have he : a.eval (.func f) = .func (.func f) #[] #[] := rfl
  simp [execOp, resolve, hargs, he, Deferred.ofValue, invoke, hcall]
end
end Go.Proofs.YtdaoecpkgobelaaGreatDoor
