/- The engine, part O: arrays of numbers. -/
import Derived.Test.YtdaoecpkgobelaaDoorEngN
namespace Go.Proofs.YtdaoecpkgobelaaDoor
open Go Go.RowKit
set_option linter.unusedSimpArgs false
set_option linter.unusedVariables false

def capL (n : Int) : Option Unit := bif decide (0 ≤ n) && decide (n ≤ lim) then some () else none
def arrV (xs : List Int) : List Value := xs.map vI
/-- n numbers, each in range. -/
def ArrOk (n : Nat) (xs : List Int) : Prop := xs.length = n ∧ ∀ x ∈ xs, R64 x
theorem arr_len {n : Nat} {xs : List Int} (h : ArrOk n xs) : (arrV xs).length = n := by unfold arrV; rw [List.length_map]; exact h.1
theorem arr_zero (n : Nat) : ArrOk n (List.replicate n 0) := ⟨List.length_replicate, fun x hx => by rw [(List.mem_replicate.1 hx).2]; exact R64_lit rfl⟩
theorem arr_all (xs : List Int) : ((arrV xs).drop 0).take (arrV xs).length = arrV xs := by simp
theorem arr_at {xs : List Int} {i z : Int} (hz : getL xs i = some z) : (arrV xs)[i.toNat]? = some (vI z) := by
  obtain ⟨_, _, hg⟩ := getL_some hz
  unfold arrV
  rw [List.getElem?_map, hg]
  rfl
theorem arr_R {n : Nat} {xs : List Int} {i z : Int} (h : ArrOk n xs) (hz : getL xs i = some z) : R64 z := by
  obtain ⟨_, hlt, hg⟩ := getL_some hz
  exact h.2 z (List.mem_of_getElem? hg)
theorem arr_in {n : Nat} {xs : List Int} {i z : Int} (h : ArrOk n xs) (hz : getL xs i = some z) : 0 ≤ i ∧ i < (n : Int) := by
  obtain ⟨h0, hlt, _⟩ := getL_some hz
  have := h.1
  exact ⟨h0, by omega⟩
theorem arr_set {n : Nat} {xs ys : List Int} {i y : Int} (h : ArrOk n xs) (hy : R64 y) (hs : setL xs i y = some ys) : ArrOk n ys := by
  unfold setL at hs
  rcases cond_some hs with ⟨hc, hs⟩ | ⟨hc, hs⟩
  · cases hs
    refine ⟨by rw [List.length_set]; exact h.1, fun x hx => ?_⟩
    rcases List.mem_or_eq_of_mem_set hx with hx | rfl
    · exact h.2 x hx
    · exact hy
  · cases hs
theorem arr_put {xs ys : List Int} {i y : Int} (hs : setL xs i y = some ys) : 0 ≤ i ∧ i.toNat < xs.length ∧ putCs (arrV xs) i.toNat [vI y] = arrV ys := by
  unfold setL at hs
  rcases cond_some hs with ⟨hc, hs⟩ | ⟨hc, hs⟩
  · obtain ⟨h1, h2⟩ := Bool.and_eq_true_iff.1 hc
    have h1 := of_decide_eq_true h1
    have h2 := of_decide_eq_true h2
    cases hs
    have hlt : i.toNat < xs.length := by omega
    refine ⟨h1, hlt, ?_⟩
    unfold putCs arrV
    rw [List.map_set, List.set_eq_take_append_cons_drop]
    rw [if_pos (by rw [List.length_map]; exact hlt)]
    simp
  · cases hs
theorem arr_one (xs : List Int) : (arrV xs).all (·.oneCell') = true := by
  unfold arrV
  rw [List.all_map]
  exact List.all_eq_true.2 fun x _ => rfl
section
variable {P : Program} {S : World → Prop} {N : Nat} {a : Act} {L : List (Nat × Value)} {dst : Option Tmp} {ty T U E : TypeId} {pos : String} {aft : Array Edge} {g : Option (Nat × Bool)} {X Y Z : Operand} {C : Cx} {w : World} {own : List Own} {shr : List Shr} {Kv : Value → World → Prop}
theorem e_indexArr (hf : Has N a L) {xs : List Int} {i z : Int} {n : Nat} (h : ArrOk n xs) (hx : ev L X = some (.agg (arrV xs).toArray)) (hy : ev L Y = some (vI i)) (hT : P.underlying T = some (.array n E)) (hE : FlatInfo P E) (hs : ∀ w, (sizeOf E).run P w = .ok 1 w) (hz : getL xs i = some z) : Yd P S a ⟨dst, .index T X Y, ty, pos, aft, g⟩ (vI z) := by
  intro w _
  obtain ⟨h0, hlt, hg⟩ := getL_some hz
  have h1 : i < (n : Int) := by have := h.1; omega
  have hat := arr_at hz
  have hp : (part E (arrV xs).toArray i.toNat).run P w = .ok (vI z) w := by
    simp [part, hE w, hat]
  simp [execOp, hf.ev hx, hf.ev hy, Instr.index, asIntOf, run_underlying hT, h0, h1, hs w, hp]
theorem e_indexAddrArr (hf : Has N a L) {b n : Nat} {i : Int} (hx : ev L X = some (vP b 0)) (hy : ev L Y = some (vI i)) (hT : P.underlying T = some (.array n E)) (hs : ∀ w, (sizeOf E).run P w = .ok 1 w) (h0 : 0 ≤ i) (h1 : i < (n : Int)) : Yd P S a ⟨dst, .indexAddr T X Y, ty, pos, aft, g⟩ (vP b i.toNat) := by
  intro w _
  simp [execOp, hf.ev hx, hf.ev hy, Instr.indexAt, asIntOf, run_underlying hT, h0, h1, hs w, Instr.sureAddr, add_lit]
theorem e_buildArr (hf : Has N a L) {z : Value} {n : Nat} {cs : List Value} (hz : ∀ w, (zeroValue T).run P w = .ok z w) (hT : P.underlying T = some (.array n E)) (hs : ∀ w, (sizeOf E).run P w = .ok 1 w) (hc : z.cells = cs.toArray) : Yd P S a ⟨dst, .build T #[], ty, pos, aft, g⟩ (.agg cs.toArray) := by
  intro w _
  simp [execOp, Instr.build, hz w, run_underlying hT, hs w, Instr.fill, hc]
theorem w_storeArr (hf : Has N a L) {b k n : Nat} {xs ys : List Int} {B : TypeId} (hM : Mem C w own shr) (hx : ev L X = some (vP b 0)) (hy : ev L Y = some (.agg (arrV ys).toArray)) (hk : own[k]? = some (.box b (arrV xs) B)) (h1 : ArrOk n xs) (h2 : ArrOk n ys) (hs : ∀ w, (sizeOf T).run P w = .ok n w)
    (kk : ∀ w', Mem C w' (own.set k (.box b (arrV ys) B)) shr → Kv undef w') : Wv P ⟨dst, .store T X Y, ty, pos, aft, g⟩ a w Kv :=
  w_store hf hM (us := arrV ys) (cs' := arrV ys) hx hy hk rfl (by rw [arr_len h2]; exact hs) (arr_one ys) (by rw [arr_len h1, arr_len h2]; simp) (by unfold putCs; rw [arr_len h2, ← arr_len h1]; simp) kk
theorem w_storeAt (hf : Has N a L) {b k : Nat} {xs ys : List Int} {i y : Int} {B : TypeId} (hM : Mem C w own shr) (hx : ev L X = some (vP b i.toNat)) (hy : ev L Y = some (vI y)) (hk : own[k]? = some (.box b (arrV xs) B)) (hs : ∀ w, (sizeOf T).run P w = .ok 1 w) (hz : setL xs i y = some ys)
    (kk : ∀ w', Mem C w' (own.set k (.box b (arrV ys) B)) shr → Kv undef w') : Wv P ⟨dst, .store T X Y, ty, pos, aft, g⟩ a w Kv := by
  obtain ⟨h0, hlt, hp⟩ := arr_put hz
  refine w_store hf hM (us := [vI y]) (cs' := arrV ys) hx hy hk rfl hs rfl ?_ hp kk
  have : (arrV xs).length = xs.length := by unfold arrV; rw [List.length_map]
  rw [this]
  exact Nat.ble_eq_true_of_le (by simp; omega)
theorem w_makeCap (hf : Has N a L) {α : Type} {K : Rep α} {n : Int} {z : Value} (hM : Mem C w own shr) (hT : P.underlying T = some (.slice E)) (hE : ElemInfo P E K.size) (hz : ∀ w, (zeroValue E).run P w = .ok z w) (hx : ev L X = some (vI 0)) (hy : ev L Y = some (vI n)) (hm : capL n = some ())
    (kk : ∀ b w', Ext w w' → Mem C w' (.row K (some ⟨b, 0, none⟩) n.toNat E [] true :: own) shr → Kv (vL (some ⟨b, 0, none⟩) ([] : List α) n.toNat) w') : Wv P ⟨dst, .makeSlice T X Y, ty, pos, aft, g⟩ a w Kv := by
  obtain ⟨i, z', hi, hz0, hzs, his, hib⟩ := hE
  obtain rfl : z' = z := by
    have := hz w
    simp [zeroValue, typeInfo, hi, hz0] at this
    exact this
  unfold capL at hm
  rcases cond_some hm with ⟨hc, _⟩ | ⟨_, hm⟩
  case inr => cases hm
  obtain ⟨h0, hle⟩ := Bool.and_eq_true_iff.1 hc
  have h0 := of_decide_eq_true h0
  have hle := of_decide_eq_true hle
  unfold lim at hle
  have hbytes : (i.bytes : Int) * n ≤ 281474976710656 := by
    obtain ⟨m, rfl⟩ := Int.eq_ofNat_of_zero_le h0
    rw [← Int.natCast_mul]
    have : i.bytes * m ≤ 1000 * 100000000 := Nat.mul_le_mul hib (by omega)
    omega
  have hrun := run_make (P := P) w T E i z' hT hi hz0 .i64 .i64 0 n (Int.le_refl _) h0 hbytes (by omega)
  have hrows : RowsOf K w (Sh C own w) ([] : List α) [] := ⟨rfl, fun j x hj => by simp at hj⟩
  obtain ⟨h1, h2⟩ := hM.newRow (E := E) (c := n.toNat) (app := true) (fr := (0, 0)) (cur := madeCells z'.cells (n.toNat * i.size)) hrows (w.alloc (.cells (madeCells z'.cells (n.toNat * i.size)) E)) rfl rfl rfl (by simp) (fun b hb => Below.heap_alloc w _ b hb) (heap_alloc_new w _) (by simp) (maxLen_ge (by omega)) (by rw [size_madeCells, his]) (by simp) (.inl rfl)
  refine Wv.of_run (w' := w.alloc (.cells (madeCells z'.cells (n.toNat * i.size)) E)) (v := .slice (some ⟨w.heap.size, 0, none⟩) 0 n.toNat) ?_ (kk _ _ h2 h1)
  simp only [execOp, Sem.run_bind, hf.ev hx, hf.ev hy]
  rw [show (vI 0) = Value.int .i64 0 from rfl, show (vI n) = Value.int .i64 n from rfl]
  rw [hrun]
  rfl
end

end Go.Proofs.YtdaoecpkgobelaaDoor
