/- The engine, tenth part: slots told anew, what is handed back, function values. -/
import Derived.Test.YtccoeheoifbpcaaGreatDoorEngI
import Derived.Lib.OthersKept
import Derived.Laws.RangeString
import Derived.Laws.Runes
namespace Go.Proofs.YtccoeheoifbpcaaGreatDoor
open Go Go.RowKit
set_option linter.unusedSimpArgs false
set_option linter.unusedVariables false
theorem Has.alter {N : Nat} {a : Act} {L : List (Nat × Value)} (h : Has N a L) {d : Nat} {u v : Value} (hl : look L d = some u) (e : u = v) : Has N a ((d, v) :: L) := by
  subst e
  refine ⟨h.defers, h.size, fun k x hk => ?_⟩
  simp only [look] at hk
  cases hb : Nat.beq d k with
  | true =>
    have : d = k := Nat.eq_of_beq_eq_true hb
    subst this
    rw [hb] at hk
    simp only [cond_true, Option.some.injEq] at hk
    subst hk
    exact h.at_ _ _ hl
  | false => rw [hb] at hk; exact h.at_ k x hk
theorem vL_len {α : Type} {xs ys : List α} {A : Option Addr} {c : Nat} (h : ys.length = xs.length) : vL A xs c = vL A ys c := by unfold vL; rw [h]
theorem setL_len {α : Type} {xs ys : List α} {i : Int} {x : α} (h : setL xs i x = some ys) : ys.length = xs.length := by
  obtain ⟨_, _, rfl⟩ := setL_some h
  rw [List.length_set]
section
variable {C : Cx} {w w' : World} {own own' : List Own} {shr : List Shr}
theorem Mem.outs (h : Mem C w own shr) (n : Nat) (e : own.take n = own') : Mem C w own' shr := by
  subst e
  exact h.drop (List.take_sublist n own)
theorem Mem.fin (h : Mem C w own shr) : Mem C w own [] := h.keep (by simp)
theorem Rep.to {α : Type} {K : Rep α} {S T : Nat → Prop} {x : α} {row : List Value} (h : K.R w S x row) (hs : Same S w w') (hT : ∀ b, S b → T b) : K.R w' T x row := K.mono (K.same h hs) hT
end
def FnOk (P : Program) (C : Cx) (fk : FuncId) (Q : Cx → Prop) : Prop :=
  (∀ (args : Array Value) (w : World), (callFunc fk args).run P w = .ok (.enter fk args) w) ∧ ∀ C1 : Cx, Same C.S0 C.w0 C1.w0 → (∀ b, C.S0 b → C1.S0 b) → Q C1
theorem FnOk.to {P : Program} {C C' : Cx} {fk : FuncId} {Q : Cx → Prop} (h : FnOk P C fk Q) (hs : Same C.S0 C.w0 C'.w0) (hsub : ∀ b, C.S0 b → C'.S0 b) : FnOk P C' fk Q :=
  ⟨h.1, fun C1 h1 h2 => h.2 C1 (fun b hb => (h1 b (hsub b hb)).trans (hs b hb)) fun b hb => h2 b (hsub b hb)⟩
section
variable {E : TypeId} {C : Cx} {w : World} {own : List Own} {shr : List Shr}
theorem Mem.rowElemA (h : Mem C w own shr) {α : Type} {K : Rep α} {A : Option Addr} {b c : Nat} {xs : List α} {app : Bool} {k : Nat} (hA : A = some ⟨b, 0, none⟩) (hk : own[k]? = some (.row K A c E xs app)) {n : Nat} (hn : K.size = n) {i : Int} {x : α} (hx : getL xs i = some x) :
    ∃ row, 0 ≤ i ∧ i < xs.length ∧ K.R w (Sh C own w) x row ∧ ∀ j u, row[j]? = some u → w.cell? ⟨b, 0 + i.toNat * n + j, none⟩ = some u := by
  subst hA
  exact h.rowElem' hk hn hx
theorem Mem.lendElem (h : Mem C w own shr) {α : Type} {K : Rep α} {A : Option Addr} {b c : Nat} {xs : List α} {app : Bool} {k : Nat} (hA : A = some ⟨b, 0, none⟩) (hk : own[k]? = some (.row K A c E xs app)) {n : Nat} (hn : K.size = n) {i : Int} {x : α} (hx : getL xs i = some x) :
    (ptrRep K).R w (All C own w) x [vP b (0 + i.toNat * n)] := by
  obtain ⟨row, h0, h1, hr, hc⟩ := h.rowElemA hA hk hn hx
  exact ⟨b, _, row, rfl, .inr ⟨_, List.mem_of_getElem? hk, by rw [hA]; rfl⟩, K.mono hr fun b hb => .inl hb, hc⟩
end
/-! ### Numbers of other kinds -/
def encR (x : Int) : Option Str := bif decide (0 ≤ x) && decide (x < 128) then some [UInt8.ofNat x.toNat] else none
section
variable {P : Program} {S : World → Prop} {N : Nat} {a : Act} {L : List (Nat × Value)} {dst : Option Tmp} {ty T U : TypeId} {pos : String} {aft : Array Edge} {g : Option (Nat × Bool)} {X Y Z : Operand}
variable (hf : Has N a L)
include hf
theorem e_convRS {x : Int} {z : Str} (hx : ev L X = some (vR x)) (hT : P.underlying T = some (.int .i32)) (hU : P.underlying U = some .string) (hz : encR x = some z) : Yd P S a ⟨dst, .convert T U X, ty, pos, aft, g⟩ (vS z) := by
  intro w _
  unfold encR at hz
  rcases cond_some hz with ⟨hc, hz⟩ | ⟨_, hz⟩
  case inr => cases hz
  simp only [Bool.and_eq_true, decide_eq_true_eq] at hc
  obtain rfl := (Option.some.inj hz).symm
  have e : Utf8.encode x = ⟨#[UInt8.ofNat x.toNat]⟩ := by
    have hv : Utf8.valid x = true := by simp [Utf8.valid]; omega
    simp only [Utf8.encode, hv, if_true]
    rw [if_pos (by omega)]
  simp [execOp, hf.ev hx, run_convert_int_string w T U .i32 x (by rw [hT]; rfl) hU, e]
theorem e_convBR {x : UInt8} (hx : ev L X = some (vB x)) (hT : P.underlying T = some (.int .u8)) (hU : P.underlying U = some (.int .i32)) : Yd P S a ⟨dst, .convert T U X, ty, pos, aft, g⟩ (vR (x.toNat : Int)) := by
  intro w _
  have h1 := x.toNat_lt
  have e : IntKind.i32.wrap (x.toNat : Int) = (x.toNat : Int) := by
    simp [IntKind.wrap, IntKind.bits, IntKind.signed]
    omega
  simp [execOp, hf.ev hx, convert, Conv.intToInt, run_underlying hT, run_underlying hU, e]
end
/-! ### Regions in which something is changed while others are still to come -/
def ExtM (bs : List (Option Nat)) (w x : World) : Prop := ∀ b, b < w.heap.size → ¬ some b ∈ bs → x.heap[b]? = w.heap[b]?
theorem Ext.lt {w w' : World} (h : Ext w w') {b : Nat} (hb : b < w.heap.size) : b < w'.heap.size := by
  have h1 := h b hb
  rw [Array.getElem?_eq_getElem hb] at h1
  exact (Array.getElem?_eq_some_iff.1 h1).1
theorem ExtM.refl (bs : List (Option Nat)) (w : World) : ExtM bs w w := fun _ _ _ => rfl
theorem ExtM.trans {bs : List (Option Nat)} {w w' x : World} (h : Ext w w') (h' : ExtM bs w' x) : ExtM bs w x := fun b hb hn => (h' b (h.lt hb) hn).trans (h b hb)
theorem ExtM.grow {bs : List (Option Nat)} {w w' x : World} {b0 : Nat} (h : Ext w w') (hb0 : w.heap.size ≤ b0) (h' : ExtM (some b0 :: bs) w' x) : ExtM bs w x := fun b hb hn => (h' b (h.lt hb) fun hm => by
  rcases List.mem_cons.1 hm with e | hm
  · cases e; omega
  · exact hn hm).trans (h b hb)
theorem ExtM.next {bs : List (Option Nat)} {w w' x : World} (h : ExtM bs w w') (hs : w.heap.size ≤ w'.heap.size) (h' : ExtM bs w' x) : ExtM bs w x := fun b hb hn => (h' b (by omega) hn).trans (h b hb hn)
theorem ExtM.last {bs : List (Option Nat)} {w w' x : World} (h : ExtM bs w w') (hs : w.heap.size ≤ w'.heap.size) (h' : Ext w' x) : ExtM bs w x := fun b hb hn => (h' b (by omega)).trans (h b hb hn)
theorem ExtM.cell {bs : List (Option Nat)} {w x : World} (h : ExtM bs w x) {b o : Nat} {u : Value} (hc : w.cell? ⟨b, o, none⟩ = some u) (hb : ¬ some b ∈ bs) : x.cell? ⟨b, o, none⟩ = some u := by
  have hlt : b < w.heap.size := World.block_lt_of_cell? w ⟨b, o, none⟩ hc
  exact (World.cell?_of_block (a := ⟨b, o, none⟩) (h b hlt hb)).trans hc
def InB (bs : List (Option Nat)) : List Own → Prop
  | [] => True
  | x :: xs => x.block ∈ bs ∧ InB bs xs
theorem InB.mem {bs : List (Option Nat)} : ∀ {l : List Own}, InB bs l → ∀ x ∈ l, x.block ∈ bs
  | [], _, x, h => by simp at h
  | y :: l, hi, x, h => by
    rcases List.mem_cons.1 h with rfl | h
    · exact hi.1
    · exact InB.mem hi.2 x h
theorem ExtM.ofChg {bs : List (Option Nat)} {given : List Own} {w w' : World} (h : Chg (ownB given) w w') (hin : InB bs given) : ExtM bs w w' := fun b hb hn => h.block b hb fun ⟨x, hx, hxb⟩ => hn (hxb ▸ hin.mem x hx)
theorem ExtM.ofRow {α : Type} {K : Rep α} {A : Option Addr} {c : Nat} {E : TypeId} {xs : List α} {bs : List (Option Nat)} {w w' : World} (hin : A.map (·.block) ∈ bs) (hold : ∀ b, b < w.heap.size → (Own.row K A c E xs true).block ≠ some b → w'.heap[b]? = w.heap[b]?) : ExtM bs w w' :=
  fun b hb hn => hold b hb fun e => hn (e ▸ hin)
section
variable {P : Program} {N : Nat} {a : Act} {L : List (Nat × Value)} {dst : Option Tmp} {ty T U E : TypeId} {pos : String} {aft : Array Edge} {g : Option (Nat × Bool)} {X Y Z : Operand} {w : World} {bs : List (Option Nat)}
variable {C : Cx} {own own' : List Own} {shr : List Shr} {K : Value → World → Prop}
theorem Mem.apart (h : Mem C w own shr) {js : List Nat} (hbs : js.map (fun j => (own[j]?).bind Own.block) = bs) {k : Nat} {x : Own} {b : Nat} (hk : own[k]? = some x) (hb : x.block = some b) (hkj : js.all (fun j => !Nat.beq j k) = true) : ¬ some b ∈ bs := by
  subst hbs
  intro hm
  obtain ⟨j, hj, e⟩ := List.mem_map.1 hm
  have hne : j ≠ k := fun hjk => by
    have := List.all_eq_true.1 hkj j hj
    rw [hjk] at this
    simp at this
  cases hy : own[j]? with
  | none => rw [hy] at e; cases e
  | some y =>
    rw [hy] at e
    exact sep_erase h.sep hk hb ⟨y, List.mem_eraseIdx_iff_getElem?.2 ⟨j, hne, hy⟩, e⟩
theorem Mem.apartS (h : Mem C w own shr) {js : List Nat} (hbs : js.map (fun j => (own[j]?).bind Own.block) = bs) {b : Nat} (hs : Sh C own w b) : ¬ some b ∈ bs := by
  subst hbs
  intro hm
  obtain ⟨j, hj, e⟩ := List.mem_map.1 hm
  cases hy : own[j]? with
  | none => rw [hy] at e; cases e
  | some y =>
    rw [hy] at e
    exact hs.2.2 ⟨y, List.mem_of_getElem? hy, e⟩
theorem w_allocM {z : Value} {cs : List Value} (hM : Mem C w own shr) (hz : ∀ w, (zeroValue E).run P w = .ok z w) (hcs : z.cells = cs.toArray) (k : ∀ b w', Ext w w' → w.heap.size ≤ b → Mem C w' (.box b cs E :: own) shr → K (vP b 0) w') : Wv P ⟨dst, .alloc E, ty, pos, aft, g⟩ a w K := by
  obtain ⟨h1, h2⟩ := hM.alloc cs E
  refine Wv.of_run (w' := w.alloc (.cells cs.toArray E)) (v := vP w.heap.size 0) ?_ (k _ _ h2 (Nat.le_refl _) h1)
  simp [execOp, Instr.alloc, hz w, newVar, newRow, hcs]
variable (hf : Has N a L)
include hf
theorem e_load1M {b o : Nat} {u : Value} (hx : ev L X = some (vP b o)) (hT : FlatInfo P T) (hc : w.cell? ⟨b, o, none⟩ = some u) (hb : ¬ some b ∈ bs) : Yd P (ExtM bs w) a ⟨dst, .load T X, ty, pos, aft, g⟩ u := by
  intro x hS
  have := hS.cell hc hb
  simp [execOp, hf.ev hx, Instr.loadAt, Instr.sureAddr, loadVar, hT x, run_load, this]
theorem e_loadAM {b o n : Nat} {us : List Value} (hx : ev L X = some (vP b o)) (hT : AggInfo P T n) (hn : us.length = n) (hc : ∀ j u, us[j]? = some u → w.cell? ⟨b, o + j, none⟩ = some u) (hb : ¬ some b ∈ bs) : Yd P (ExtM bs w) a ⟨dst, .load T X, ty, pos, aft, g⟩ (.agg us.toArray) := by
  intro x hS
  have hl := run_loadCells_list (P := P) x ⟨b, o, none⟩ us (fun j v hv => by rw [add_lit]; exact hS.cell (hc j v hv) hb)
  subst hn
  simp [execOp, hf.ev hx, Instr.loadAt, Instr.sureAddr, loadVar, hT.1 x, hT.2 x, hl]
theorem w_storeM {b o k : Nat} {v : Value} {cs cs' us : List Value} {B : TypeId} (hin : some b ∈ bs) (hM : Mem C w own shr) (hx : ev L X = some (vP b o)) (hy : ev L Y = some v) (hk : own[k]? = some (.box b cs B)) (hv : v.cells = us.toArray) (hs : ∀ w, (sizeOf T).run P w = .ok us.length w)
    (h1 : us.all (·.oneCell') = true) (hle : Nat.ble (o + us.length) cs.length = true) (hcs : putCs cs o us = cs') (kk : ∀ w', ExtM bs w w' → w.heap.size ≤ w'.heap.size → Mem C w' (own.set k (.box b cs' B)) shr → K undef w') : Wv P ⟨dst, .store T X Y, ty, pos, aft, g⟩ a w K := by
  have hg : w.heap[b]? = some (.cells cs.toArray B (0, 0)) := hM.ownAt hk
  have hle' : o + us.length ≤ cs.length := Nat.le_of_ble_eq_true hle
  have hst := run_storeCells_at (P := P) b o B us 0 cs.toArray w hg (by simpa using hle') (fun u hu => List.all_eq_true.1 h1 u hu)
  have hrow : (cs.take (o + 0) ++ us ++ cs.drop (o + 0 + us.length)) = cs' := by rw [← hcs]; simp [putCs]
  simp only [List.toList_toArray, hrow] at hst
  have hother : ∀ b', b' ≠ b → (w.setRow b cs'.toArray).heap[b']? = w.heap[b']? := fun b' hb' => setRow_other w b b' _ (fun e => hb' (by rw [e]))
  refine Wv.of_skip (w' := w.setRow b cs'.toArray) ?_ (kk _ (fun b' _ hn => hother b' fun e => hn (e ▸ hin)) (by simp [World.setRow]) ?_)
  · simp [execOp, hf.ev hx, hf.ev hy, Instr.storeAt, Instr.sureAddr, storeVar, hs w, hv, hst]
  · refine hM.change hk _ rfl rfl rfl (by simp [World.setRow]) (fun b' _ hb' => setRow_other w b b' _ (fun e => hb' (by rw [e]; rfl))) (fun b' hb' => .inl hb') fun S _ => ?_
    exact setRow_heap w b _ _ B _ hg
end
section
variable {P : Program} {ops : Array Oper} {md : Region.Mode} {a : Act} {w : World} {N : Nat} {L : List (Nat × Value)} {o : Oper} {i d : Nat} {v : Value} {S : World → Prop} {K' : (World → Prop) → Act → World → Prop}
theorem pi_l0 (hf : Has N a L) (ho : ops[i]? = some o) (hd : o.dst = none) (hg : o.guard = none) (hy : Wv P o a w (fun v w' => ∃ S' : World → Prop, (∀ x, S' x → S x) ∧ S' w' ∧ K' S' a w')) : loud P md ops i K' S a w := by
  refine ⟨o, ho, .inl ⟨by simp [Region.wanted, hg], hy.mono fun v w' ⟨S', h1, h2, h⟩ => ⟨S', .inr ⟨h1, h2⟩, ?_⟩⟩⟩
  rw [hd]
  exact h
end
/-! ### A range over a string -/
section
variable {P : Program} {N : Nat} {a : Act} {L : List (Nat × Value)} {dst : Option Tmp} {ty T : TypeId} {pos : String} {aft : Array Edge} {g : Option (Nat × Bool)} {X : Operand} {C : Cx} {w : World} {own : List Own} {shr : List Shr} {K : Value → World → Prop}
end
def ErrOk (v : Value) (b : Bool) : Prop := (b = false → v = .nilIface) ∧ (b = true → ∃ T q, v = .iface T q)
theorem ErrOk.nil_ : ErrOk .nilIface false := ⟨fun _ => rfl, (fun h => by cases h)⟩
end Go.Proofs.YtccoeheoifbpcaaGreatDoor
