/- The engine, third part: operations that leave the world alone. -/
import Derived.Test.YtdaoecpkgobelaaGreatDoorEngB
import Derived.IntWalk
import Derived.Laws.Cover1
namespace Go.Proofs.YtdaoecpkgobelaaGreatDoor
open Go Go.RowKit
set_option linter.unusedSimpArgs false
set_option linter.unusedVariables false
abbrev Str := List UInt8
abbrev vI (x : Int) : Value := .int .i64 x
abbrev vW (x : Int) : Value := .int .u64 x
abbrev vR (x : Int) : Value := .int .i32 x
abbrev vB (c : UInt8) : Value := .int .u8 (c.toNat : Int)
abbrev vS (l : Str) : Value := .string ⟨l.toArray⟩
abbrev vL {α : Type} (A : Option Addr) (xs : List α) (c : Nat) : Value := .slice A xs.length c
abbrev vP (b o : Nat) : Value := .pointer (some ⟨b, o, none⟩)
/-! ### The models' own words -/
def r64 (x : Int) : Bool := decide (-9223372036854775808 ≤ x) && decide (x ≤ 9223372036854775807)
def R64 (x : Int) : Prop := -9223372036854775808 ≤ x ∧ x ≤ 9223372036854775807
def U64 (x : Int) : Prop := 0 ≤ x ∧ x < 18446744073709551616
theorem r64_iff {x : Int} : r64 x = true ↔ R64 x := by simp [r64, R64]
def chk (x : Int) : Option Int := bif r64 x then some x else none
theorem chk_some {x z : Int} (h : chk x = some z) : z = x ∧ R64 x := by
  unfold chk at h
  cases hr : r64 x
  · rw [hr] at h; cases h
  · rw [hr] at h; exact ⟨(Option.some.inj h).symm, r64_iff.1 hr⟩
theorem chk_of {x : Int} (h : R64 x) : chk x = some x := by unfold chk; rw [r64_iff.2 h]; rfl
theorem chk_R {x z : Int} (h : chk x = some z) : R64 z := by obtain ⟨rfl, h⟩ := chk_some h; exact h
def remI (x y : Int) : Option Int := bif y == 0 then none else some (x.tmod y)
def getL {α : Type} (xs : List α) (i : Int) : Option α := bif decide (0 ≤ i) then xs[i.toNat]? else none
def subL {α : Type} (xs : List α) (lo hi : Int) : Option (List α) := bif decide (0 ≤ lo) && decide (lo ≤ hi) && decide (hi ≤ xs.length) then some ((xs.drop lo.toNat).take (hi.toNat - lo.toNat)) else none
def lim : Nat := 100000000
def catL {α : Type} (xs ys : List α) : Option (List α) := bif decide (xs.length + ys.length ≤ lim) then some (xs ++ ys) else none
def setL {α : Type} (xs : List α) (i : Int) (x : α) : Option (List α) := bif decide (0 ≤ i) && decide (i < xs.length) then some (xs.set i.toNat x) else none
def makeL {α : Type} (n : Int) (z : α) : Option (List α) := bif decide (0 ≤ n) && decide (n ≤ lim) then some (List.replicate n.toNat z) else none
def ltS (a b : Str) : Bool := Op.bytesLess a b
theorem getL_some {α : Type} {xs : List α} {i : Int} {x : α} (h : getL xs i = some x) : 0 ≤ i ∧ i.toNat < xs.length ∧ xs[i.toNat]? = some x := by
  unfold getL at h
  cases hi : decide (0 ≤ i)
  · rw [hi] at h; cases h
  · rw [hi] at h
    have h' : xs[i.toNat]? = some x := h
    exact ⟨by simpa using hi, (List.getElem?_eq_some_iff.1 h').1, h'⟩
theorem subL_some {α : Type} {xs ys : List α} {lo hi : Int} (h : subL xs lo hi = some ys) : 0 ≤ lo ∧ lo ≤ hi ∧ hi ≤ xs.length ∧ ys = (xs.drop lo.toNat).take (hi.toNat - lo.toNat) ∧ ys.length = hi.toNat - lo.toNat := by
  unfold subL at h
  cases hc : decide (0 ≤ lo) && decide (lo ≤ hi) && decide (hi ≤ xs.length)
  · rw [hc] at h; cases h
  · rw [hc] at h
    simp only [Bool.and_eq_true, decide_eq_true_eq] at hc
    have h' := (Option.some.inj h).symm
    refine ⟨hc.1.1, hc.1.2, hc.2, h', ?_⟩
    rw [h', List.length_take, List.length_drop]
    omega
theorem catL_some {α : Type} {xs ys zs : List α} (h : catL xs ys = some zs) : zs = xs ++ ys ∧ xs.length + ys.length ≤ lim := by
  unfold catL at h
  cases hc : decide (xs.length + ys.length ≤ lim)
  · rw [hc] at h; cases h
  · rw [hc] at h; exact ⟨(Option.some.inj h).symm, by simpa using hc⟩
theorem setL_some {α : Type} {xs ys : List α} {i : Int} {x : α} (h : setL xs i x = some ys) : 0 ≤ i ∧ i.toNat < xs.length ∧ ys = xs.set i.toNat x := by
  unfold setL at h
  cases hc : decide (0 ≤ i) && decide (i < xs.length)
  · rw [hc] at h; cases h
  · rw [hc] at h
    simp only [Bool.and_eq_true, decide_eq_true_eq] at hc
    exact ⟨hc.1, by omega, (Option.some.inj h).symm⟩
theorem makeL_some {α : Type} {n : Int} {z : α} {xs : List α} (h : makeL n z = some xs) : 0 ≤ n ∧ n ≤ lim ∧ xs = List.replicate n.toNat z ∧ xs.length = n.toNat := by
  unfold makeL at h
  cases hc : decide (0 ≤ n) && decide (n ≤ lim)
  · rw [hc] at h; cases h
  · rw [hc] at h
    simp only [Bool.and_eq_true, decide_eq_true_eq] at hc
    have h' := (Option.some.inj h).symm
    exact ⟨hc.1, hc.2, h', by rw [h', List.length_replicate]⟩
theorem toList_mk (l : Str) : (⟨l.toArray⟩ : ByteArray).toList = l := by rw [ByteArray.toList_eq]
theorem size_mk (l : Str) : (⟨l.toArray⟩ : ByteArray).size = l.length := by simp [ByteArray.size]
/-! ### Operations -/
section
variable {P : Program} {S : World → Prop} {N : Nat} {a : Act} {L : List (Nat × Value)} {dst : Option Tmp} {ty T U : TypeId} {pos : String} {aft : Array Edge} {g : Option (Nat × Bool)} {X Y Z : Operand}
section
variable (hf : Has N a L)
include hf
theorem e_move {v : Value} (hx : ev L X = some v) : Yd P S a ⟨dst, .move X, ty, pos, aft, g⟩ v := by
  intro w _; simp [execOp, hf.ev hx]
theorem e_assign {v : Value} (hx : ev L X = some v) : Yd P S a ⟨dst, .assign X, ty, pos, aft, g⟩ v := by
  intro w _; simp [execOp, hf.ev hx]
theorem e_pick_t {v : Value} {c : Bool} (hc : ev L Z = some (.bool c)) (h : c = true) (hx : ev L X = some v) : Yd P S a ⟨dst, .pick Z X Y, ty, pos, aft, g⟩ v := by
  intro w _; subst h; simp [execOp, hf.ev hc, hf.ev hx, asBool]
theorem e_pick_f {v : Value} {c : Bool} (hc : ev L Z = some (.bool c)) (h : c = false) (hx : ev L Y = some v) : Yd P S a ⟨dst, .pick Z X Y, ty, pos, aft, g⟩ v := by
  intro w _; subst h; simp [execOp, hf.ev hc, hf.ev hx, asBool]
theorem e_not {c : Bool} (hx : ev L X = some (.bool c)) : Yd P S a ⟨dst, .unOp .not T X, ty, pos, aft, g⟩ (.bool !c) := by
  intro w _; simp [execOp, hf.ev hx, Op.unary]
theorem e_nil {b o : Nat} (hx : ev L X = some (vP b o)) : Yd P S a ⟨dst, .nilCheck X, ty, pos, aft, g⟩ (vP b o) := by
  intro w _; simp [execOp, hf.ev hx]
theorem e_add {x y z : Int} (hx : ev L X = some (vI x)) (hy : ev L Y = some (vI y)) (hz : chk (x + y) = some z) : Yd P S a ⟨dst, .binOp .add T X Y U, ty, pos, aft, g⟩ (vI z) := by
  intro w _; obtain ⟨rfl, h1⟩ := chk_some hz
  simp [execOp, hf.ev hx, hf.ev hy, eqGuard, binOp, Op.intArith, IntWalk.i64_in _ h1]
theorem e_sub {x y z : Int} (hx : ev L X = some (vI x)) (hy : ev L Y = some (vI y)) (hz : chk (x - y) = some z) : Yd P S a ⟨dst, .binOp .sub T X Y U, ty, pos, aft, g⟩ (vI z) := by
  intro w _; obtain ⟨rfl, h1⟩ := chk_some hz
  simp [execOp, hf.ev hx, hf.ev hy, eqGuard, binOp, Op.intArith, IntWalk.i64_in _ h1]
theorem e_mul {x y z : Int} (hx : ev L X = some (vI x)) (hy : ev L Y = some (vI y)) (hz : chk (x * y) = some z) : Yd P S a ⟨dst, .binOp .mul T X Y U, ty, pos, aft, g⟩ (vI z) := by
  intro w _; obtain ⟨rfl, h1⟩ := chk_some hz
  simp [execOp, hf.ev hx, hf.ev hy, eqGuard, binOp, Op.intArith, IntWalk.i64_in _ h1]
theorem e_rem {x y z : Int} (hx : ev L X = some (vI x)) (hy : ev L Y = some (vI y)) (hz : remI x y = some z) : Yd P S a ⟨dst, .binOp .rem T X Y U, ty, pos, aft, g⟩ (vI z) := by
  intro w _
  unfold remI at hz
  rcases cond_some hz with ⟨_, hz⟩ | ⟨h0, hz⟩
  · cases hz
  · have h0' : ¬ y = 0 := by simpa using h0
    obtain rfl := Option.some.inj hz
    simp [execOp, hf.ev hx, hf.ev hy, eqGuard, binOp, Op.intDiv, h0']
theorem e_lt {k : IntKind} {x y : Int} (hx : ev L X = some (.int k x)) (hy : ev L Y = some (.int k y)) : Yd P S a ⟨dst, .binOp .lss T X Y U, ty, pos, aft, g⟩ (.bool (decide (x < y))) := by
  intro w _; simp [execOp, hf.ev hx, hf.ev hy, eqGuard, binOp, Op.intCmp]
theorem e_le {k : IntKind} {x y : Int} (hx : ev L X = some (.int k x)) (hy : ev L Y = some (.int k y)) : Yd P S a ⟨dst, .binOp .leq T X Y U, ty, pos, aft, g⟩ (.bool (decide (x ≤ y))) := by
  intro w _; simp [execOp, hf.ev hx, hf.ev hy, eqGuard, binOp, Op.intCmp]
theorem e_gt {k : IntKind} {x y : Int} (hx : ev L X = some (.int k x)) (hy : ev L Y = some (.int k y)) : Yd P S a ⟨dst, .binOp .gtr T X Y U, ty, pos, aft, g⟩ (.bool (decide (y < x))) := by
  intro w _; simp [execOp, hf.ev hx, hf.ev hy, eqGuard, binOp, Op.intCmp]
theorem e_ge {k : IntKind} {x y : Int} (hx : ev L X = some (.int k x)) (hy : ev L Y = some (.int k y)) : Yd P S a ⟨dst, .binOp .geq T X Y U, ty, pos, aft, g⟩ (.bool (decide (y ≤ x))) := by
  intro w _; simp [execOp, hf.ev hx, hf.ev hy, eqGuard, binOp, Op.intCmp]
theorem e_eq {k : IntKind} {x y : Int} (hx : ev L X = some (.int k x)) (hy : ev L Y = some (.int k y)) : Yd P S a ⟨dst, .binOp .eql T X Y U, ty, pos, aft, g⟩ (.bool (x == y)) := by
  intro w _; simp [execOp, hf.ev hx, hf.ev hy, eqGuard, binOp, Op.intCmp]
theorem e_ne {k : IntKind} {x y : Int} (hx : ev L X = some (.int k x)) (hy : ev L Y = some (.int k y)) : Yd P S a ⟨dst, .binOp .neq T X Y U, ty, pos, aft, g⟩ (.bool (x != y)) := by
  intro w _; simp [execOp, hf.ev hx, hf.ev hy, eqGuard, binOp, Op.intCmp]
theorem e_leB {x y : UInt8} (hx : ev L X = some (vB x)) (hy : ev L Y = some (vB y)) : Yd P S a ⟨dst, .binOp .leq T X Y U, ty, pos, aft, g⟩ (.bool (decide (x ≤ y))) := by
  intro w _; simp [execOp, hf.ev hx, hf.ev hy, eqGuard, binOp, Op.intCmp, UInt8.le_iff_toNat_le]
theorem e_geB {x y : UInt8} (hx : ev L X = some (vB x)) (hy : ev L Y = some (vB y)) : Yd P S a ⟨dst, .binOp .geq T X Y U, ty, pos, aft, g⟩ (.bool (decide (y ≤ x))) := by
  intro w _; simp [execOp, hf.ev hx, hf.ev hy, eqGuard, binOp, Op.intCmp, UInt8.le_iff_toNat_le]
omit hf in
theorem beqB (x y : UInt8) : ((x.toNat : Int) == (y.toNat : Int)) = (x == y) := by
  rw [Bool.eq_iff_iff, beq_iff_eq, beq_iff_eq]
  constructor
  · intro h; exact UInt8.toNat_inj.1 (by omega)
  · rintro rfl; rfl
theorem e_eqB {x y : UInt8} (hx : ev L X = some (vB x)) (hy : ev L Y = some (vB y)) : Yd P S a ⟨dst, .binOp .eql T X Y U, ty, pos, aft, g⟩ (.bool (x == y)) := by
  intro w _
  have := beqB x y
  simp only [execOp, hf.ev hx, hf.ev hy, eqGuard, binOp, Op.intCmp, ← this]
  simp
theorem e_neB {x y : UInt8} (hx : ev L X = some (vB x)) (hy : ev L Y = some (vB y)) : Yd P S a ⟨dst, .binOp .neq T X Y U, ty, pos, aft, g⟩ (.bool (x != y)) := by
  intro w _
  have := beqB x y
  have h2 : (x != y) = !(x == y) := rfl
  rw [h2, ← this]
  simp [execOp, hf.ev hx, hf.ev hy, eqGuard, binOp, Op.intCmp]
  rfl
theorem e_eqT {x y : Bool} (hx : ev L X = some (.bool x)) (hy : ev L Y = some (.bool y)) (hT : P.underlying T = some .bool) : Yd P S a ⟨dst, .binOp .eql T X Y U, ty, pos, aft, g⟩ (.bool (x == y)) := by
  intro w _
  have h := run_eql_bool w T x y hT
  simp only [execOp, hf.ev hx, hf.ev hy, eqGuard, Sem.run_bind, Sem.run_pure, h, Result.andThen_ok, Bool.not_true, Bool.false_eq_true, if_false]
theorem e_cat {x y z : Str} (hx : ev L X = some (vS x)) (hy : ev L Y = some (vS y)) (hz : catL x y = some z) : Yd P S a ⟨dst, .binOp .add T X Y U, ty, pos, aft, g⟩ (vS z) := by
  intro w _
  obtain ⟨rfl, hl⟩ := catL_some hz
  have h1 : ¬ (IntKind.i64.max < (((⟨x.toArray⟩ : ByteArray).size + (⟨y.toArray⟩ : ByteArray).size : Nat) : Int)) := by
    rw [size_mk, size_mk]
    unfold lim at hl
    have : IntKind.i64.max = 9223372036854775807 := by decide
    omega
  have h2 : (⟨x.toArray⟩ : ByteArray) ++ ⟨y.toArray⟩ = ⟨(x ++ y).toArray⟩ := by
    apply ByteArray.ext
    simp [ByteArray.data_append]
  have h3 : (((⟨x.toArray⟩ : ByteArray).size : Int) + ((⟨y.toArray⟩ : ByteArray).size : Int)) ≤ 9223372036854775807 := by
    rw [size_mk, size_mk]; unfold lim at hl; omega
  simp [execOp, hf.ev hx, hf.ev hy, eqGuard, binOp, Op.stringOp, h2]
  first | exact h3 | (intro h; omega)
theorem e_eqS {x y : Str} (hx : ev L X = some (vS x)) (hy : ev L Y = some (vS y)) : Yd P S a ⟨dst, .binOp .eql T X Y U, ty, pos, aft, g⟩ (.bool (x == y)) := by
  intro w _; simp [execOp, hf.ev hx, hf.ev hy, eqGuard, binOp, Op.stringOp, toList_mk]
theorem e_neS {x y : Str} (hx : ev L X = some (vS x)) (hy : ev L Y = some (vS y)) : Yd P S a ⟨dst, .binOp .neq T X Y U, ty, pos, aft, g⟩ (.bool (x != y)) := by
  intro w _
  have h2 : (x != y) = !(x == y) := rfl
  rw [h2]
  simp [execOp, hf.ev hx, hf.ev hy, eqGuard, binOp, Op.stringOp, toList_mk]
theorem e_ltS {x y : Str} (hx : ev L X = some (vS x)) (hy : ev L Y = some (vS y)) : Yd P S a ⟨dst, .binOp .lss T X Y U, ty, pos, aft, g⟩ (.bool (ltS x y)) := by
  intro w _; simp [execOp, hf.ev hx, hf.ev hy, eqGuard, binOp, Op.stringOp, toList_mk, ltS]
theorem e_gtS {x y : Str} (hx : ev L X = some (vS x)) (hy : ev L Y = some (vS y)) : Yd P S a ⟨dst, .binOp .gtr T X Y U, ty, pos, aft, g⟩ (.bool (!(ltS x y || x == y))) := by
  intro w _; simp [execOp, hf.ev hx, hf.ev hy, eqGuard, binOp, Op.stringOp, toList_mk, ltS]
theorem e_lenS {x : Str} (hx : ev L X = some (vS x)) (hT : P.underlying T = some .string) : Yd P S a ⟨dst, .call ⟨.builtin .len, #[X], #[T]⟩, ty, pos, aft, g⟩ (vI x.length) := by
  intro w _; simp [execOp, resolve, invoke, builtin, hf.ev hx, Builtin.len_, run_underlying hT, goInt, size_mk]
theorem e_lenL {α : Type} {A : Option Addr} {x : List α} {c : Nat} {E : TypeId} (hx : ev L X = some (vL A x c)) (hT : P.underlying T = some (.slice E)) : Yd P S a ⟨dst, .call ⟨.builtin .len, #[X], #[T]⟩, ty, pos, aft, g⟩ (vI x.length) := by
  intro w _; simp [execOp, resolve, invoke, builtin, hf.ev hx, Builtin.len_, run_underlying hT, goInt]
theorem e_min {x y : Int} {tys : Array TypeId} (hx : ev L X = some (vI x)) (hy : ev L Y = some (vI y)) : Yd P S a ⟨dst, .call ⟨.builtin .min, #[X, Y], tys⟩, ty, pos, aft, g⟩ (vI (min x y)) := by
  intro w _
  have e : min x y = if y < x then y else x := by split <;> omega
  rw [e]
  simp [execOp, resolve, invoke, builtin, hf.ev hx, hf.ev hy, Builtin.min_, Builtin.min2, List.foldlM]
theorem e_max {x y : Int} {tys : Array TypeId} (hx : ev L X = some (vI x)) (hy : ev L Y = some (vI y)) : Yd P S a ⟨dst, .call ⟨.builtin .max, #[X, Y], tys⟩, ty, pos, aft, g⟩ (vI (max x y)) := by
  intro w _
  have e : max x y = if x < y then y else x := by split <;> omega
  rw [e]
  simp [execOp, resolve, invoke, builtin, hf.ev hx, hf.ev hy, Builtin.max_, Builtin.max2, List.foldlM]
theorem e_indexS {x : Str} {i : Int} {c : UInt8} (hx : ev L X = some (vS x)) (hy : ev L Y = some (vI i)) (hT : P.underlying T = some .string) (hz : getL x i = some c) : Yd P S a ⟨dst, .index T X Y, ty, pos, aft, g⟩ (vB c) := by
  intro w _
  obtain ⟨h0, hlt, hg⟩ := getL_some hz
  have e : (⟨x.toArray⟩ : ByteArray)[i.toNat]? = some c := by
    have hs : i.toNat < (⟨x.toArray⟩ : ByteArray).size := by rw [size_mk]; exact hlt
    rw [getElem?_pos (⟨x.toArray⟩ : ByteArray) i.toNat hs]
    rw [List.getElem?_eq_getElem hlt] at hg
    rw [← hg]
    rfl
  simp [execOp, hf.ev hx, hf.ev hy, Instr.index, asIntOf, run_underlying hT, h0, e]
theorem e_extract {vs : Array Value} {k : Nat} {v : Value} (hx : ev L X = some (.tuple vs)) (hk : vs[k]? = some v) : Yd P S a ⟨dst, .extract X k, ty, pos, aft, g⟩ v := by
  intro w _; simp [execOp, hf.ev hx, Instr.extract, hk]
theorem e_convBI {x : UInt8} (hx : ev L X = some (vB x)) (hT : P.underlying T = some (.int .u8)) (hU : P.underlying U = some (.int .i64)) : Yd P S a ⟨dst, .convert T U X, ty, pos, aft, g⟩ (vI x.toNat) := by
  intro w _
  have := x.toNat_lt
  simp [execOp, hf.ev hx, convert, run_underlying hT, run_underlying hU, Conv.intToInt, IntWalk.i64_in (x.toNat : Int) ⟨by omega, by omega⟩]
theorem e_subS {x z : Str} {l h : Int} (hx : ev L X = some (vS x)) (hy : ev L Y = some (vI l)) (hh : ev L Z = some (vI h)) (hT : P.underlying T = some .string) (hz : subL x l h = some z) : Yd P S a ⟨dst, .slice T X (some Y) (some Z) none, ty, pos, aft, g⟩ (vS z) := by
  intro w _
  obtain ⟨h0, h1, h2, rfl, _⟩ := subL_some hz
  have e : (⟨x.toArray⟩ : ByteArray).extract l.toNat h.toNat = ⟨((x.drop l.toNat).take (h.toNat - l.toNat)).toArray⟩ := by
    apply ByteArray.ext
    simp [ByteArray.data_extract, List.extract_toArray, List.extract_eq_take_drop]
  have h3 : h ≤ ((⟨x.toArray⟩ : ByteArray).size : Int) := by rw [size_mk]; exact h2
  have h4 : 0 ≤ h := by omega
  have h5 : l ≤ (h.toNat : Int) := by omega
  simp [execOp, hf.ev hx, hf.ev hy, hf.ev hh, Instr.sliceAt, Instr.slice, Instr.sliceBounds, Instr.sliceBound, asIntOf, run_underlying hT, h0, h3, h4, h5, e]
  intro hh; omega
theorem e_subSh {x z : Str} {h : Int} (hx : ev L X = some (vS x)) (hh : ev L Z = some (vI h)) (hT : P.underlying T = some .string) (hz : subL x 0 h = some z) : Yd P S a ⟨dst, .slice T X none (some Z) none, ty, pos, aft, g⟩ (vS z) := by
  intro w _
  obtain ⟨h0, h1, h2, rfl, _⟩ := subL_some hz
  have e : (⟨x.toArray⟩ : ByteArray).extract 0 h.toNat = ⟨((x.drop (0 : Int).toNat).take (h.toNat - (0 : Int).toNat)).toArray⟩ := by
    apply ByteArray.ext
    simp [ByteArray.data_extract, List.extract_toArray, List.extract_eq_take_drop]
  have h3 : h ≤ ((⟨x.toArray⟩ : ByteArray).size : Int) := by rw [size_mk]; exact h2
  simp [execOp, hf.ev hx, hf.ev hh, Instr.sliceAt, Instr.slice, Instr.sliceBounds, Instr.sliceBound, asIntOf, run_underlying hT, h1, h3]
  rw [e]; simp
theorem e_subSl {x z : Str} {l : Int} (hx : ev L X = some (vS x)) (hy : ev L Y = some (vI l)) (hT : P.underlying T = some .string) (hz : subL x l x.length = some z) : Yd P S a ⟨dst, .slice T X (some Y) none none, ty, pos, aft, g⟩ (vS z) := by
  intro w _
  obtain ⟨h0, h1, h2, rfl, _⟩ := subL_some hz
  have e : (⟨x.toArray⟩ : ByteArray).extract l.toNat x.length = ⟨((x.drop l.toNat).take (x.length - l.toNat)).toArray⟩ := by
    apply ByteArray.ext
    simp [ByteArray.data_extract, List.extract_toArray, List.extract_eq_take_drop]
  have h3 : l ≤ ((⟨x.toArray⟩ : ByteArray).size : Int) := by rw [size_mk]; exact h1
  simp [execOp, hf.ev hx, hf.ev hy, Instr.sliceAt, Instr.slice, Instr.sliceBounds, Instr.sliceBound, asIntOf, run_underlying hT, h0, h3, size_mk]
  first | done | (rw [if_pos h1]; done) | (rw [e]; done) | (rw [if_pos h1, e]; done) | (intro hh; omega)
end
end
end Go.Proofs.YtdaoecpkgobelaaGreatDoor
