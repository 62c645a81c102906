/- The engine, tenth part: slots told anew, what is handed back, function values. -/
import Derived.Test.YtbekokenomhgeaaGreatDoorEngI
import Derived.Lib.OthersKept
import Derived.Laws.RangeString
import Derived.Laws.Runes
namespace Go.Proofs.YtbekokenomhgeaaGreatDoor
open Go Go.RowKit
set_option linter.unusedSimpArgs false
set_option linter.unusedVariables false

theorem Has.alter {N : Nat} {a : Act} {L : List (Nat × Value)} (h : Has N a L) {d : Nat} {u v : Value} (hl : look L d = some u) (e : u = v) : Has N a ((d, v) :: L) := by
  subst e
  refine ⟨h.defers, h.size, fun k x hk => ?_⟩
  simp only [look] at hk
  cases hb : Nat.beq d k with
  | true =>
    have : d = k := Nat.eq_of_beq_eq_true hb
    subst this
    rw [hb] at hk
    simp only [cond_true, Option.some.injEq] at hk
    subst hk
    exact h.at_ _ _ hl
  | false => rw [hb] at hk; exact h.at_ k x hk
theorem vL_len {α : Type} {xs ys : List α} {A : Option Addr} {c : Nat} (h : ys.length = xs.length) : vL A xs c = vL A ys c := by unfold vL; rw [h]
theorem setL_len {α : Type} {xs ys : List α} {i : Int} {x : α} (h : setL xs i x = some ys) : ys.length = xs.length := by
  obtain ⟨_, _, rfl⟩ := setL_some h
  rw [List.length_set]

section
variable {C : Cx} {w w' : World} {own own' : List Own} {shr : List Shr}
theorem Mem.outs (h : Mem C w own shr) (n : Nat) (e : own.take n = own') : Mem C w own' shr := by
  subst e
  exact h.drop (List.take_sublist n own)
theorem Mem.fin (h : Mem C w own shr) : Mem C w own [] := h.keep (by simp)
theorem Rep.to {α : Type} {K : Rep α} {S T : Nat → Prop} {x : α} {row : List Value} (h : K.R w S x row) (hs : Same S w w') (hT : ∀ b, S b → T b) : K.R w' T x row := K.mono (K.same h hs) hT
end

/-- A function value that may be called later, too. -/
def FnOk (P : Program) (C : Cx) (fk : FuncId) (Q : Cx → Prop) : Prop :=
  (∀ (args : Array Value) (w : World), (callFunc fk args).run P w = .ok (.enter fk args) w) ∧ ∀ C1 : Cx, Same C.S0 C.w0 C1.w0 → (∀ b, C.S0 b → C1.S0 b) → Q C1
theorem FnOk.to {P : Program} {C C' : Cx} {fk : FuncId} {Q : Cx → Prop} (h : FnOk P C fk Q) (hs : Same C.S0 C.w0 C'.w0) (hsub : ∀ b, C.S0 b → C'.S0 b) : FnOk P C' fk Q :=
  ⟨h.1, fun C1 h1 h2 => h.2 C1 (fun b hb => (h1 b (hsub b hb)).trans (hs b hb)) fun b hb => h2 b (hsub b hb)⟩

section
variable {E : TypeId} {C : Cx} {w : World} {own : List Own} {shr : List Shr}
end

/-! ### Numbers of other kinds -/
def chk32 (x : Int) : Option Int := bif decide (-2147483648 ≤ x) && decide (x ≤ 2147483647) then some x else none
theorem chk32_some {x z : Int} (h : chk32 x = some z) : z = x ∧ R32 x := by
  unfold chk32 at h
  cases hr : decide (-2147483648 ≤ x) && decide (x ≤ 2147483647)
  · rw [hr] at h; cases h
  · rw [hr] at h; exact ⟨(Option.some.inj h).symm, by simpa [R32] using hr⟩
/-- The text of one sign below 128. -/
def encR (x : Int) : Option Str := bif decide (0 ≤ x) && decide (x < 128) then some [UInt8.ofNat x.toNat] else none
section
variable {P : Program} {S : World → Prop} {N : Nat} {a : Act} {L : List (Nat × Value)} {dst : Option Tmp} {ty T U : TypeId} {pos : String} {aft : Array Edge} {g : Option (Nat × Bool)} {X Y Z : Operand}
variable (hf : Has N a L)
include hf
theorem e_convIR {x z : Int} (hx : ev L X = some (vI x)) (hT : P.underlying T = some (.int .i64)) (hU : P.underlying U = some (.int .i32)) (hz : chk32 x = some z) : Yd P S a ⟨dst, .convert T U X, ty, pos, aft, g⟩ (vR z) := by
  intro w _
  obtain ⟨rfl, h1⟩ := chk32_some hz
  have e : IntKind.i32.wrap z = z := by
    unfold R32 at h1
    simp [IntKind.wrap, IntKind.bits, IntKind.signed]
    omega
  simp [execOp, hf.ev hx, convert, Conv.intToInt, run_underlying hT, run_underlying hU, e]
theorem e_convRS {x : Int} {z : Str} (hx : ev L X = some (vR x)) (hT : P.underlying T = some (.int .i32)) (hU : P.underlying U = some .string) (hz : encR x = some z) : Yd P S a ⟨dst, .convert T U X, ty, pos, aft, g⟩ (vS z) := by
  intro w _
  unfold encR at hz
  rcases cond_some hz with ⟨hc, hz⟩ | ⟨_, hz⟩
  case inr => cases hz
  simp only [Bool.and_eq_true, decide_eq_true_eq] at hc
  obtain rfl := (Option.some.inj hz).symm
  have e : Utf8.encode x = ⟨#[UInt8.ofNat x.toNat]⟩ := by
    have hv : Utf8.valid x = true := by simp [Utf8.valid]; omega
    simp only [Utf8.encode, hv, if_true]
    rw [if_pos (by omega)]
  simp [execOp, hf.ev hx, run_convert_int_string w T U .i32 x (by rw [hT]; rfl) hU, e]
end

/-! ### Regions in which something is changed while others are still to come -/
/-- Blocks outside bs are as they were. -/
def ExtM (bs : List (Option Nat)) (w x : World) : Prop := ∀ b, b < w.heap.size → ¬ some b ∈ bs → x.heap[b]? = w.heap[b]?
theorem Ext.lt {w w' : World} (h : Ext w w') {b : Nat} (hb : b < w.heap.size) : b < w'.heap.size := by
  have h1 := h b hb
  rw [Array.getElem?_eq_getElem hb] at h1
  exact (Array.getElem?_eq_some_iff.1 h1).1
theorem ExtM.refl (bs : List (Option Nat)) (w : World) : ExtM bs w w := fun _ _ _ => rfl
theorem ExtM.trans {bs : List (Option Nat)} {w w' x : World} (h : Ext w w') (h' : ExtM bs w' x) : ExtM bs w x := fun b hb hn => (h' b (h.lt hb) hn).trans (h b hb)
theorem ExtM.grow {bs : List (Option Nat)} {w w' x : World} {b0 : Nat} (h : Ext w w') (hb0 : w.heap.size ≤ b0) (h' : ExtM (some b0 :: bs) w' x) : ExtM bs w x := fun b hb hn => (h' b (h.lt hb) fun hm => by
  rcases List.mem_cons.1 hm with e | hm
  · cases e; omega
  · exact hn hm).trans (h b hb)
theorem ExtM.next {bs : List (Option Nat)} {w w' x : World} (h : ExtM bs w w') (hs : w.heap.size ≤ w'.heap.size) (h' : ExtM bs w' x) : ExtM bs w x := fun b hb hn => (h' b (by omega) hn).trans (h b hb hn)
theorem ExtM.last {bs : List (Option Nat)} {w w' x : World} (h : ExtM bs w w') (hs : w.heap.size ≤ w'.heap.size) (h' : Ext w' x) : ExtM bs w x := fun b hb hn => (h' b (by omega)).trans (h b hb hn)
theorem ExtM.cell {bs : List (Option Nat)} {w x : World} (h : ExtM bs w x) {b o : Nat} {u : Value} (hc : w.cell? ⟨b, o, none⟩ = some u) (hb : ¬ some b ∈ bs) : x.cell? ⟨b, o, none⟩ = some u := by
  have hlt : b < w.heap.size := World.block_lt_of_cell? w ⟨b, o, none⟩ hc
  exact (World.cell?_of_block (a := ⟨b, o, none⟩) (h b hlt hb)).trans hc
section
variable {P : Program} {N : Nat} {a : Act} {L : List (Nat × Value)} {dst : Option Tmp} {ty T U E : TypeId} {pos : String} {aft : Array Edge} {g : Option (Nat × Bool)} {X Y Z : Operand} {w : World} {bs : List (Option Nat)}
variable {C : Cx} {own own' : List Own} {shr : List Shr} {K : Value → World → Prop}
theorem Mem.apart (h : Mem C w own shr) {js : List Nat} (hbs : js.map (fun j => (own[j]?).bind Own.block) = bs) {k : Nat} {x : Own} {b : Nat} (hk : own[k]? = some x) (hb : x.block = some b) (hkj : js.all (fun j => !Nat.beq j k) = true) : ¬ some b ∈ bs := by
  subst hbs
  intro hm
  obtain ⟨j, hj, e⟩ := List.mem_map.1 hm
  have hne : j ≠ k := fun hjk => by
    have := List.all_eq_true.1 hkj j hj
    rw [hjk] at this
    simp at this
  cases hy : own[j]? with
  | none => rw [hy] at e; cases e
  | some y =>
    rw [hy] at e
    exact sep_erase h.sep hk hb ⟨y, List.mem_eraseIdx_iff_getElem?.2 ⟨j, hne, hy⟩, e⟩
theorem Mem.apartS (h : Mem C w own shr) {js : List Nat} (hbs : js.map (fun j => (own[j]?).bind Own.block) = bs) {b : Nat} (hs : Sh C own w b) : ¬ some b ∈ bs := by
  subst hbs
  intro hm
  obtain ⟨j, hj, e⟩ := List.mem_map.1 hm
  cases hy : own[j]? with
  | none => rw [hy] at e; cases e
  | some y =>
    rw [hy] at e
    exact hs.2.2 ⟨y, List.mem_of_getElem? hy, e⟩
variable (hf : Has N a L)
include hf
theorem e_load1M {b o : Nat} {u : Value} (hx : ev L X = some (vP b o)) (hT : FlatInfo P T) (hc : w.cell? ⟨b, o, none⟩ = some u) (hb : ¬ some b ∈ bs) : Yd P (ExtM bs w) a ⟨dst, .load T X, ty, pos, aft, g⟩ u := by
  intro x hS
  have := hS.cell hc hb
  simp [execOp, hf.ev hx, Instr.loadAt, Instr.sureAddr, loadVar, hT x, run_load, this]
theorem w_storeM {b o k : Nat} {v : Value} {cs cs' us : List Value} {B : TypeId} (hin : some b ∈ bs) (hM : Mem C w own shr) (hx : ev L X = some (vP b o)) (hy : ev L Y = some v) (hk : own[k]? = some (.box b cs B)) (hv : v.cells = us.toArray) (hs : ∀ w, (sizeOf T).run P w = .ok us.length w)
    (h1 : us.all (·.oneCell') = true) (hle : Nat.ble (o + us.length) cs.length = true) (hcs : putCs cs o us = cs') (kk : ∀ w', ExtM bs w w' → w.heap.size ≤ w'.heap.size → Mem C w' (own.set k (.box b cs' B)) shr → K undef w') : Wv P ⟨dst, .store T X Y, ty, pos, aft, g⟩ a w K := by
  have hg : w.heap[b]? = some (.cells cs.toArray B (0, 0)) := hM.ownAt hk
  have hle' : o + us.length ≤ cs.length := Nat.le_of_ble_eq_true hle
  have hst := run_storeCells_at (P := P) b o B us 0 cs.toArray w hg (by simpa using hle') (fun u hu => List.all_eq_true.1 h1 u hu)
  have hrow : (cs.take (o + 0) ++ us ++ cs.drop (o + 0 + us.length)) = cs' := by rw [← hcs]; simp [putCs]
  simp only [List.toList_toArray, hrow] at hst
  have hother : ∀ b', b' ≠ b → (w.setRow b cs'.toArray).heap[b']? = w.heap[b']? := fun b' hb' => setRow_other w b b' _ (fun e => hb' (by rw [e]))
  refine Wv.of_skip (w' := w.setRow b cs'.toArray) ?_ (kk _ (fun b' _ hn => hother b' fun e => hn (e ▸ hin)) (by simp [World.setRow]) ?_)
  · simp [execOp, hf.ev hx, hf.ev hy, Instr.storeAt, Instr.sureAddr, storeVar, hs w, hv, hst]
  · refine hM.change hk _ rfl rfl rfl (by simp [World.setRow]) (fun b' _ hb' => setRow_other w b b' _ (fun e => hb' (by rw [e]; rfl))) (fun b' hb' => .inl hb') fun S _ => ?_
    exact setRow_heap w b _ _ B _ hg
end
section
variable {P : Program} {ops : Array Oper} {md : Region.Mode} {a : Act} {w : World} {N : Nat} {L : List (Nat × Value)} {o : Oper} {i d : Nat} {v : Value} {S : World → Prop} {K' : (World → Prop) → Act → World → Prop}
theorem pi_l0 (hf : Has N a L) (ho : ops[i]? = some o) (hd : o.dst = none) (hg : o.guard = none) (hy : Wv P o a w (fun v w' => ∃ S' : World → Prop, (∀ x, S' x → S x) ∧ S' w' ∧ K' S' a w')) : loud P md ops i K' S a w := by
  refine ⟨o, ho, .inl ⟨by simp [Region.wanted, hg], hy.mono fun v w' ⟨S', h1, h2, h⟩ => ⟨S', .inr ⟨h1, h2⟩, ?_⟩⟩⟩
  rw [hd]
  exact h
end

/-! ### A range over a string -/
section
variable {P : Program} {N : Nat} {a : Act} {L : List (Nat × Value)} {dst : Option Tmp} {ty T : TypeId} {pos : String} {aft : Array Edge} {g : Option (Nat × Bool)} {X : Operand} {C : Cx} {w : World} {own : List Own} {shr : List Shr} {K : Value → World → Prop}
end
/-- An error: nil or not. -/
def ErrOk (v : Value) (b : Bool) : Prop := (b = false → v = .nilIface) ∧ (b = true → ∃ T q, v = .iface T q)
theorem ErrOk.nil_ : ErrOk .nilIface false := ⟨fun _ => rfl, (fun h => by cases h)⟩
theorem ErrOk.some_ (T : TypeId) (q : Value) : ErrOk (.iface T q) true := ⟨(fun h => by cases h), fun _ => ⟨T, q, rfl⟩⟩

end Go.Proofs.YtbekokenomhgeaaGreatDoor
