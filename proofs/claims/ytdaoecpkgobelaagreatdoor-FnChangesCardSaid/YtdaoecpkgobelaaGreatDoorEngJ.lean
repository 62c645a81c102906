/- The engine, tenth part: slots told anew, what is handed back, function values. -/
import Derived.Test.YtdaoecpkgobelaaGreatDoorEngI
import Derived.Lib.OthersKept
import Derived.Laws.RangeString
import Derived.Laws.Runes
namespace Go.Proofs.YtdaoecpkgobelaaGreatDoor
open Go Go.RowKit
set_option linter.unusedSimpArgs false
set_option linter.unusedVariables false
theorem Has.alter {N : Nat} {a : Act} {L : List (Nat × Value)} (h : Has N a L) {d : Nat} {u v : Value} (hl : look L d = some u) (e : u = v) : Has N a ((d, v) :: L) := by
  subst e
  refine ⟨h.defers, h.size, fun k x hk => ?_⟩
  simp only [look] at hk
  cases hb : Nat.beq d k with
  | true =>
    have : d = k := Nat.eq_of_beq_eq_true hb
    subst this
    rw [hb] at hk
    simp only [cond_true, Option.some.injEq] at hk
    subst hk
    exact h.at_ _ _ hl
  | false => rw [hb] at hk; exact h.at_ k x hk
theorem vL_len {α : Type} {xs ys : List α} {A : Option Addr} {c : Nat} (h : ys.length = xs.length) : vL A xs c = vL A ys c := by unfold vL; rw [h]
theorem setL_len {α : Type} {xs ys : List α} {i : Int} {x : α} (h : setL xs i x = some ys) : ys.length = xs.length := by
  obtain ⟨_, _, rfl⟩ := setL_some h
  rw [List.length_set]
section
variable {C : Cx} {w w' : World} {own own' : List Own} {shr : List Shr}
theorem Mem.outs (h : Mem C w own shr) (n : Nat) (e : own.take n = own') : Mem C w own' shr := by
  subst e
  exact h.drop (List.take_sublist n own)
theorem Mem.fin (h : Mem C w own shr) : Mem C w own [] := h.keep (by simp)
theorem Rep.to {α : Type} {K : Rep α} {S T : Nat → Prop} {x : α} {row : List Value} (h : K.R w S x row) (hs : Same S w w') (hT : ∀ b, S b → T b) : K.R w' T x row := K.mono (K.same h hs) hT
end
def FnOk (P : Program) (C : Cx) (fk : FuncId) (Q : Cx → Prop) : Prop :=
  (∀ (args : Array Value) (w : World), (callFunc fk args).run P w = .ok (.enter fk args) w) ∧ ∀ C1 : Cx, Same C.S0 C.w0 C1.w0 → (∀ b, C.S0 b → C1.S0 b) → Q C1
theorem FnOk.to {P : Program} {C C' : Cx} {fk : FuncId} {Q : Cx → Prop} (h : FnOk P C fk Q) (hs : Same C.S0 C.w0 C'.w0) (hsub : ∀ b, C.S0 b → C'.S0 b) : FnOk P C' fk Q :=
  ⟨h.1, fun C1 h1 h2 => h.2 C1 (fun b hb => (h1 b (hsub b hb)).trans (hs b hb)) fun b hb => h2 b (hsub b hb)⟩
section
variable {E : TypeId} {C : Cx} {w : World} {own : List Own} {shr : List Shr}
theorem Mem.rowElemA (h : Mem C w own shr) {α : Type} {K : Rep α} {A : Option Addr} {b c : Nat} {xs : List α} {app : Bool} {k : Nat} (hA : A = some ⟨b, 0, none⟩) (hk : own[k]? = some (.row K A c E xs app)) {n : Nat} (hn : K.size = n) {i : Int} {x : α} (hx : getL xs i = some x) :
    ∃ row, 0 ≤ i ∧ i < xs.length ∧ K.R w (Sh C own w) x row ∧ ∀ j u, row[j]? = some u → w.cell? ⟨b, 0 + i.toNat * n + j, none⟩ = some u := by
  subst hA
  exact h.rowElem' hk hn hx
theorem Mem.lendElem (h : Mem C w own shr) {α : Type} {K : Rep α} {A : Option Addr} {b c : Nat} {xs : List α} {app : Bool} {k : Nat} (hA : A = some ⟨b, 0, none⟩) (hk : own[k]? = some (.row K A c E xs app)) {n : Nat} (hn : K.size = n) {i : Int} {x : α} (hx : getL xs i = some x) :
    (ptrRep K).R w (All C own w) x [vP b (0 + i.toNat * n)] := by
  obtain ⟨row, h0, h1, hr, hc⟩ := h.rowElemA hA hk hn hx
  exact ⟨b, _, row, rfl, .inr ⟨_, List.mem_of_getElem? hk, by rw [hA]; rfl⟩, K.mono hr fun b hb => .inl hb, hc⟩
end
/-! ### Numbers of other kinds -/
theorem U64_lit {x : Int} (h : (decide (0 ≤ x) && decide (x < 18446744073709551616)) = true) : U64 x := by simpa [U64] using h
theorem U64_mod (x : Int) : U64 (x % 18446744073709551616) := ⟨by omega, by omega⟩
theorem U64_div {x n : Int} (h : U64 x) (hn : 0 < n) : U64 (x / n) := ⟨Int.ediv_nonneg h.1 (by omega), Int.lt_of_le_of_lt (Int.ediv_le_self _ h.1) h.2⟩
def encR (x : Int) : Option Str := bif decide (0 ≤ x) && decide (x < 128) then some [UInt8.ofNat x.toNat] else none
theorem wrap_u64 (x : Int) : IntKind.u64.wrap x = x % 18446744073709551616 := by simp [IntKind.wrap, IntKind.bits, IntKind.signed]
section
variable {P : Program} {S : World → Prop} {N : Nat} {a : Act} {L : List (Nat × Value)} {dst : Option Tmp} {ty T U : TypeId} {pos : String} {aft : Array Edge} {g : Option (Nat × Bool)} {X Y Z : Operand}
variable (hf : Has N a L)
include hf
theorem e_addW {x y : Int} (hx : ev L X = some (vW x)) (hy : ev L Y = some (vW y)) : Yd P S a ⟨dst, .binOp .add T X Y U, ty, pos, aft, g⟩ (vW ((x + y) % 18446744073709551616)) := by
  intro w _; simp [execOp, hf.ev hx, hf.ev hy, eqGuard, binOp, Op.intArith, wrap_u64]
theorem e_mulW {x y : Int} (hx : ev L X = some (vW x)) (hy : ev L Y = some (vW y)) : Yd P S a ⟨dst, .binOp .mul T X Y U, ty, pos, aft, g⟩ (vW ((x * y) % 18446744073709551616)) := by
  intro w _; simp [execOp, hf.ev hx, hf.ev hy, eqGuard, binOp, Op.intArith, wrap_u64]
theorem e_shrW {x y : Int} {k : Nat} {m : Int} (hx : ev L X = some (vW x)) (hy : ev L Y = some (vW y)) (hk : y = (k : Int)) (hk64 : Nat.ble k 64 = true) (hm : (2 : Int) ^ k = m) (hU : U64 x) : Yd P S a ⟨dst, .binOp .shr T X Y U, ty, pos, aft, g⟩ (vW (x / m)) := by
  intro w _
  have h1 : k ≤ 64 := Nat.le_of_ble_eq_true hk64
  have h2 : min k 64 = k := Nat.min_eq_left h1
  subst hk hm
  have h3 : ¬ ((k : Int) < 0) := by omega
  have h4 : x.fdiv (2 ^ k) = x / 2 ^ k := Int.fdiv_eq_ediv_of_nonneg _ (Int.le_of_lt (Int.pow_pos (by omega)))
  simp [execOp, hf.ev hx, hf.ev hy, eqGuard, binOp, Op.shift, h3, IntKind.bits, h2, h4]
theorem e_andW {x y : Int} {k : Nat} {m : Int} (hx : ev L X = some (vW x)) (hy : ev L Y = some (vW y)) (hk : y = ((2 ^ k - 1 : Nat) : Int)) (hk64 : Nat.ble k 63 = true) (hm : ((2 ^ k : Nat) : Int) = m) (hU : U64 x) : Yd P S a ⟨dst, .binOp .and T X Y U, ty, pos, aft, g⟩ (vW (x % m)) := by
  intro w _
  obtain ⟨n, rfl⟩ := Int.eq_ofNat_of_zero_le hU.1
  have hn : n < 18446744073709551616 := by have := hU.2; omega
  have h1 : k ≤ 63 := Nat.le_of_ble_eq_true hk64
  have hp : 2 ^ k ≤ 2 ^ 63 := Nat.pow_le_pow_right (by omega) h1
  have hp0 : 0 < 2 ^ k := Nat.pow_pos (by omega)
  subst hk hm
  have e1 : (BitVec.ofInt 64 (n : Int) &&& BitVec.ofInt 64 ((2 ^ k - 1 : Nat) : Int)).toNat = n % 2 ^ k := by
    rw [BitVec.toNat_and, BitVec.toNat_ofInt, BitVec.toNat_ofInt]
    have a1 : ((n : Int) % ((2 ^ 64 : Nat) : Int)).toNat = n := by omega
    have a2 : (((2 ^ k - 1 : Nat) : Int) % ((2 ^ 64 : Nat) : Int)).toNat = 2 ^ k - 1 := by omega
    rw [a1, a2, Nat.and_two_pow_sub_one_eq_mod]
  have hlt : n % 2 ^ k < 2 ^ k := Nat.mod_lt _ hp0
  have e2 : IntKind.u64.wrap ((n % 2 ^ k : Nat) : Int) = ((n % 2 ^ k : Nat) : Int) := by rw [wrap_u64]; omega
  have e3 : ((n % 2 ^ k : Nat) : Int) = (n : Int) % ((2 ^ k : Nat) : Int) := by omega
  have e4 : IntKind.u64.bits = 64 := rfl
  simp only [execOp, hf.ev hx, hf.ev hy, eqGuard, binOp, Sem.run_bind]
  simp only [Op.intBits, e4]
  rw [← e3, ← e2, ← e1]
  simp only [IntKind.bits, ne_eq, not_true_eq_false, if_false, Bool.not_false, if_true, Sem.run_pure, Result.andThen_ok]
  rfl
theorem e_convIW {x : Int} (hx : ev L X = some (vI x)) (hT : P.underlying T = some (.int .i64)) (hU : P.underlying U = some (.int .u64)) : Yd P S a ⟨dst, .convert T U X, ty, pos, aft, g⟩ (vW (x % 18446744073709551616)) := by
  intro w _; simp [execOp, hf.ev hx, convert, Conv.intToInt, run_underlying hT, run_underlying hU, wrap_u64]
theorem e_convWI {x z : Int} (hx : ev L X = some (vW x)) (hT : P.underlying T = some (.int .u64)) (hU : P.underlying U = some (.int .i64)) (hz : chk x = some z) : Yd P S a ⟨dst, .convert T U X, ty, pos, aft, g⟩ (vI z) := by
  intro w _
  obtain ⟨rfl, h1⟩ := chk_some hz
  have e : IntKind.i64.wrap z = z := IntWalk.i64_in _ h1
  simp [execOp, hf.ev hx, convert, Conv.intToInt, run_underlying hT, run_underlying hU, e]
theorem e_convRS {x : Int} {z : Str} (hx : ev L X = some (vR x)) (hT : P.underlying T = some (.int .i32)) (hU : P.underlying U = some .string) (hz : encR x = some z) : Yd P S a ⟨dst, .convert T U X, ty, pos, aft, g⟩ (vS z) := by
  intro w _
  unfold encR at hz
  rcases cond_some hz with ⟨hc, hz⟩ | ⟨_, hz⟩
  case inr => cases hz
  simp only [Bool.and_eq_true, decide_eq_true_eq] at hc
  obtain rfl := (Option.some.inj hz).symm
  have e : Utf8.encode x = ⟨#[UInt8.ofNat x.toNat]⟩ := by
    have hv : Utf8.valid x = true := by simp [Utf8.valid]; omega
    simp only [Utf8.encode, hv, if_true]
    rw [if_pos (by omega)]
  simp [execOp, hf.ev hx, run_convert_int_string w T U .i32 x (by rw [hT]; rfl) hU, e]
theorem e_convBR {x : UInt8} (hx : ev L X = some (vB x)) (hT : P.underlying T = some (.int .u8)) (hU : P.underlying U = some (.int .i32)) : Yd P S a ⟨dst, .convert T U X, ty, pos, aft, g⟩ (vR (x.toNat : Int)) := by
  intro w _
  have h1 := x.toNat_lt
  have e : IntKind.i32.wrap (x.toNat : Int) = (x.toNat : Int) := by
    simp [IntKind.wrap, IntKind.bits, IntKind.signed]
    omega
  simp [execOp, hf.ev hx, convert, Conv.intToInt, run_underlying hT, run_underlying hU, e]
end
/-! ### Regions in which something is changed while others are still to come -/
def ExtM (bs : List (Option Nat)) (w x : World) : Prop := ∀ b, b < w.heap.size → ¬ some b ∈ bs → x.heap[b]? = w.heap[b]?
theorem Ext.lt {w w' : World} (h : Ext w w') {b : Nat} (hb : b < w.heap.size) : b < w'.heap.size := by
  have h1 := h b hb
  rw [Array.getElem?_eq_getElem hb] at h1
  exact (Array.getElem?_eq_some_iff.1 h1).1
theorem ExtM.refl (bs : List (Option Nat)) (w : World) : ExtM bs w w := fun _ _ _ => rfl
theorem ExtM.trans {bs : List (Option Nat)} {w w' x : World} (h : Ext w w') (h' : ExtM bs w' x) : ExtM bs w x := fun b hb hn => (h' b (h.lt hb) hn).trans (h b hb)
theorem ExtM.grow {bs : List (Option Nat)} {w w' x : World} {b0 : Nat} (h : Ext w w') (hb0 : w.heap.size ≤ b0) (h' : ExtM (some b0 :: bs) w' x) : ExtM bs w x := fun b hb hn => (h' b (h.lt hb) fun hm => by
  rcases List.mem_cons.1 hm with e | hm
  · cases e; omega
  · exact hn hm).trans (h b hb)
theorem ExtM.next {bs : List (Option Nat)} {w w' x : World} (h : ExtM bs w w') (hs : w.heap.size ≤ w'.heap.size) (h' : ExtM bs w' x) : ExtM bs w x := fun b hb hn => (h' b (by omega) hn).trans (h b hb hn)
theorem ExtM.last {bs : List (Option Nat)} {w w' x : World} (h : ExtM bs w w') (hs : w.heap.size ≤ w'.heap.size) (h' : Ext w' x) : ExtM bs w x := fun b hb hn => (h' b (by omega)).trans (h b hb hn)
theorem ExtM.cell {bs : List (Option Nat)} {w x : World} (h : ExtM bs w x) {b o : Nat} {u : Value} (hc : w.cell? ⟨b, o, none⟩ = some u) (hb : ¬ some b ∈ bs) : x.cell? ⟨b, o, none⟩ = some u := by
  have hlt : b < w.heap.size := World.block_lt_of_cell? w ⟨b, o, none⟩ hc
  exact (World.cell?_of_block (a := ⟨b, o, none⟩) (h b hlt hb)).trans hc
def InB (bs : List (Option Nat)) : List Own → Prop
  | [] => True
  | x :: xs => x.block ∈ bs ∧ InB bs xs
theorem InB.mem {bs : List (Option Nat)} : ∀ {l : List Own}, InB bs l → ∀ x ∈ l, x.block ∈ bs
  | [], _, x, h => by simp at h
  | y :: l, hi, x, h => by
    rcases List.mem_cons.1 h with rfl | h
    · exact hi.1
    · exact InB.mem hi.2 x h
theorem ExtM.ofChg {bs : List (Option Nat)} {given : List Own} {w w' : World} (h : Chg (ownB given) w w') (hin : InB bs given) : ExtM bs w w' := fun b hb hn => h.block b hb fun ⟨x, hx, hxb⟩ => hn (hxb ▸ hin.mem x hx)
theorem ExtM.ofRow {α : Type} {K : Rep α} {A : Option Addr} {c : Nat} {E : TypeId} {xs : List α} {bs : List (Option Nat)} {w w' : World} (hin : A.map (·.block) ∈ bs) (hold : ∀ b, b < w.heap.size → (Own.row K A c E xs true).block ≠ some b → w'.heap[b]? = w.heap[b]?) : ExtM bs w w' :=
  fun b hb hn => hold b hb fun e => hn (e ▸ hin)
section
variable {P : Program} {N : Nat} {a : Act} {L : List (Nat × Value)} {dst : Option Tmp} {ty T U E : TypeId} {pos : String} {aft : Array Edge} {g : Option (Nat × Bool)} {X Y Z : Operand} {w : World} {bs : List (Option Nat)}
variable {C : Cx} {own own' : List Own} {shr : List Shr} {K : Value → World → Prop}
theorem Mem.apart (h : Mem C w own shr) {js : List Nat} (hbs : js.map (fun j => (own[j]?).bind Own.block) = bs) {k : Nat} {x : Own} {b : Nat} (hk : own[k]? = some x) (hb : x.block = some b) (hkj : js.all (fun j => !Nat.beq j k) = true) : ¬ some b ∈ bs := by
  subst hbs
  intro hm
  obtain ⟨j, hj, e⟩ := List.mem_map.1 hm
  have hne : j ≠ k := fun hjk => by
    have := List.all_eq_true.1 hkj j hj
    rw [hjk] at this
    simp at this
  cases hy : own[j]? with
  | none => rw [hy] at e; cases e
  | some y =>
    rw [hy] at e
    exact sep_erase h.sep hk hb ⟨y, List.mem_eraseIdx_iff_getElem?.2 ⟨j, hne, hy⟩, e⟩
theorem Mem.apartS (h : Mem C w own shr) {js : List Nat} (hbs : js.map (fun j => (own[j]?).bind Own.block) = bs) {b : Nat} (hs : Sh C own w b) : ¬ some b ∈ bs := by
  subst hbs
  intro hm
  obtain ⟨j, hj, e⟩ := List.mem_map.1 hm
  cases hy : own[j]? with
  | none => rw [hy] at e; cases e
  | some y =>
    rw [hy] at e
    exact hs.2.2 ⟨y, List.mem_of_getElem? hy, e⟩
variable (hf : Has N a L)
include hf
theorem e_load1M {b o : Nat} {u : Value} (hx : ev L X = some (vP b o)) (hT : FlatInfo P T) (hc : w.cell? ⟨b, o, none⟩ = some u) (hb : ¬ some b ∈ bs) : Yd P (ExtM bs w) a ⟨dst, .load T X, ty, pos, aft, g⟩ u := by
  intro x hS
  have := hS.cell hc hb
  simp [execOp, hf.ev hx, Instr.loadAt, Instr.sureAddr, loadVar, hT x, run_load, this]
theorem e_loadAM {b o n : Nat} {us : List Value} (hx : ev L X = some (vP b o)) (hT : AggInfo P T n) (hn : us.length = n) (hc : ∀ j u, us[j]? = some u → w.cell? ⟨b, o + j, none⟩ = some u) (hb : ¬ some b ∈ bs) : Yd P (ExtM bs w) a ⟨dst, .load T X, ty, pos, aft, g⟩ (.agg us.toArray) := by
  intro x hS
  have hl := run_loadCells_list (P := P) x ⟨b, o, none⟩ us (fun j v hv => by rw [add_lit]; exact hS.cell (hc j v hv) hb)
  subst hn
  simp [execOp, hf.ev hx, Instr.loadAt, Instr.sureAddr, loadVar, hT.1 x, hT.2 x, hl]
end
section
variable {P : Program} {ops : Array Oper} {md : Region.Mode} {a : Act} {w : World} {N : Nat} {L : List (Nat × Value)} {o : Oper} {i d : Nat} {v : Value} {S : World → Prop} {K' : (World → Prop) → Act → World → Prop}
end
/-! ### A range over a string -/
section
variable {P : Program} {N : Nat} {a : Act} {L : List (Nat × Value)} {dst : Option Tmp} {ty T : TypeId} {pos : String} {aft : Array Edge} {g : Option (Nat × Bool)} {X : Operand} {C : Cx} {w : World} {own : List Own} {shr : List Shr} {K : Value → World → Prop}
end
def ErrOk (v : Value) (b : Bool) : Prop := (b = false → v = .nilIface) ∧ (b = true → ∃ T q, v = .iface T q)
theorem ErrOk.nil_ : ErrOk .nilIface false := ⟨fun _ => rfl, (fun h => by cases h)⟩
theorem ErrOk.some_ (T : TypeId) (q : Value) : ErrOk (.iface T q) true := ⟨(fun h => by cases h), fun _ => ⟨T, q, rfl⟩⟩
end Go.Proofs.YtdaoecpkgobelaaGreatDoor
