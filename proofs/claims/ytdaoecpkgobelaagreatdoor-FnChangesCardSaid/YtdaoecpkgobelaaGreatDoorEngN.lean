/- The engine, part N: what a strings.Builder needs. -/
import Derived.Test.YtdaoecpkgobelaaGreatDoorEngJ
import Derived.Lib.Builder
import Derived.Lib.UnsafeStr
import Derived.Lib.AppendStr
import Derived.Laws.Externs
namespace Go.Proofs.YtdaoecpkgobelaaGreatDoor
open Go Go.RowKit
set_option linter.unusedSimpArgs false
set_option linter.unusedVariables false
def AddrOk (b : Nat) (p : Value) : Prop := p = .pointer none ∨ p = vP b 0
theorem AddrOk.nil (b : Nat) : AddrOk b (.pointer none) := .inl rfl
theorem AddrOk.self (b : Nat) : AddrOk b (vP b 0) := .inr rfl
section
variable {P : Program} {S : World → Prop} {N : Nat} {a : Act} {L : List (Nat × Value)} {dst : Option Tmp} {ty T U E : TypeId} {pos : String} {aft : Array Edge} {g : Option (Nat × Bool)} {X Y Z : Operand} {C : Cx} {w : World} {own : List Own} {shr : List Shr} {Kv : Value → World → Prop}
section
variable (hf : Has N a L)
include hf
theorem e_eqPN (hx : ev L X = some (.pointer none)) (hy : ev L Y = some (.pointer none)) (hT : P.underlying T = some (.pointer E)) : Yd P S a ⟨dst, .binOp .eql T X Y U, ty, pos, aft, g⟩ (.bool true) := by
  intro w _
  have h : ∀ d : Nat, (Op.equalIn (d + 1) T (.pointer none) (.pointer none)).run P w = .ok true w := fun d => by
    simp [Op.equalIn, run_underlying hT]
  have h2 : (binOp .eql T (.pointer none) (.pointer none)).run P w = .ok (.bool true) w := by
    simp only [binOp]
    simp [Op.equal, Op.maxDepth, h 9999]
  simp [execOp, hf.ev hx, hf.ev hy, eqGuard, h2]
theorem e_eqPS {b o : Nat} (hx : ev L X = some (vP b o)) (hy : ev L Y = some (.pointer none)) (hT : P.underlying T = some (.pointer E)) : Yd P S a ⟨dst, .binOp .eql T X Y U, ty, pos, aft, g⟩ (.bool false) := by
  intro w _
  have h : ∀ d : Nat, (Op.equalIn (d + 1) T (vP b o) (.pointer none)).run P w = .ok false w := fun d => by
    simp [Op.equalIn, run_underlying hT]
  have h2 : (binOp .eql T (vP b o) (.pointer none)).run P w = .ok (.bool false) w := by
    simp only [binOp]
    simp [Op.equal, Op.maxDepth, h 9999]
  simp [execOp, hf.ev hx, hf.ev hy, eqGuard, h2]
theorem e_nePS {b o : Nat} {n : Nat} (hx : ev L X = some (vP b o)) (hy : ev L Y = some (vP b o)) (hT : P.underlying T = some (.pointer E)) (hE : (P.info? E).map (·.size) = some n) : Yd P S a ⟨dst, .binOp .neq T X Y U, ty, pos, aft, g⟩ (.bool false) := by
  intro w _
  obtain ⟨j, hj, _⟩ := Option.map_eq_some_iff.1 hE
  have := Lib.run_neq_ptr_same w ⟨b, o, none⟩ hT hj
  simp [execOp, hf.ev hx, hf.ev hy, eqGuard, this]
theorem e_toUnsafe {b n : Nat} {cs : List Value} {k : Nat} (hM : Mem C w own shr) (hk : own[k]? = some (.box b cs E)) (hx : ev L X = some (vP b 0)) (hT : P.underlying T = some (.pointer E)) (hU : P.underlying U = some .unsafePointer) (hE : (P.info? E).map (·.size) = some n) (hn : Nat.blt 0 n = true) (hcs : Nat.blt 0 cs.length = true) : Yd P (Ext w) a ⟨dst, .convert T U X, ty, pos, aft, g⟩ (vP b 0) := by
  intro x hxt
  obtain ⟨j, hj, hjs⟩ := Option.map_eq_some_iff.1 hE
  have hn' : 0 < n := by simpa [Nat.blt_eq] using hn
  have hc' : 0 < cs.length := by simpa [Nat.blt_eq] using hcs
  have hg : w.heap[b]? = some (.cells cs.toArray E (0, 0)) := hM.ownAt hk
  have hg' : x.heap[b]? = some (.cells cs.toArray E (0, 0)) := (hxt b (Array.getElem?_eq_some_iff.1 hg).1).trans hg
  have hsh : x.shape? b = some (E, cs.length) := by simp [World.shape?, hg']
  have := Lib.run_to_unsafe (P := P) x ⟨b, 0, none⟩ hT hU hj (by omega) hsh hc'
  simp [execOp, hf.ev hx, this]
theorem e_fromUnsafe {b : Nat} {cs : List Value} {k n : Nat} (hM : Mem C w own shr) (hk : own[k]? = some (.box b cs E)) (hx : ev L X = some (vP b 0)) (hT : P.underlying T = some .unsafePointer) (hU : P.underlying U = some (.pointer E)) (hE : (P.info? E).map (·.size) = some n) (hlies : liesAt P P.depth E (cs.length / P.cellsOf E) 0 E 1 = true) : Yd P (Ext w) a ⟨dst, .convert T U X, ty, pos, aft, g⟩ (vP b 0) := by
  intro x hxt
  obtain ⟨j, hj, hjs⟩ := Option.map_eq_some_iff.1 hE
  have hg : w.heap[b]? = some (.cells cs.toArray E (0, 0)) := hM.ownAt hk
  have hg' : x.heap[b]? = some (.cells cs.toArray E (0, 0)) := (hxt b (Array.getElem?_eq_some_iff.1 hg).1).trans hg
  have hsh : x.shape? b = some (E, cs.length) := by simp [World.shape?, hg']
  have := Lib.run_from_unsafe (P := P) x ⟨b, 0, none⟩ hT hU hj hsh hlies
  simp [execOp, hf.ev hx, this]
theorem e_noEscape {f : FuncId} {fn : Func} {v : Value} {tys : Array TypeId} (hx : ev L X = some v) (hfn : P.funcs[f]? = some fn) (hname : (fn.name == "runtime.NumGoroutine") = false) (hb : fn.body.isNone = true) (hn : Extern.findNext fn = none) (he : Extern.find fn = some Extern.AbiNoEscape.same) : Yd P S a ⟨dst, .call ⟨.value (.func f), #[X], tys⟩, ty, pos, aft, g⟩ v := by
  intro w _
  have h1 := run_callFunc_extern (P := P) hfn hname hb hn he #[v] w
  rw [Lib.run_noEscape] at h1
  simp only [Result.andThen] at h1
  have he' : a.eval (.func f) = .func (.func f) #[] #[] := rfl
  simp [execOp, resolve, hf.ev hx, he', Deferred.ofValue, invoke, h1]
end
theorem rows_bytes (w : World) (Sx : Nat → Prop) (ys : Str) : RowsOf byteRep w Sx ys (ys.map fun y => [vB y]) := by
  refine ⟨by simp, fun i x hx => ?_⟩
  rw [List.getElem?_map, hx]
  exact ⟨[vB x], rfl, rfl⟩
theorem flat_bytes (ys : Str) : (ys.map fun y => [vB y]).flatten = Lib.strCells ⟨ys.toArray⟩ := by
  unfold Lib.strCells
  induction ys with
  | nil => rfl
  | cons y ys ih =>
    simp only [List.map_cons, List.flatten_cons, List.singleton_append]
    rw [ih]
    try simp
theorem w_appendS (hf : Has N a L) {A : Option Addr} {c : Nat} {xs ys zs : Str} {k : Nat} (hM : Mem C w own shr) (hT : P.underlying T = some (.slice E)) (hU : P.underlying U = some .string) (hE : (P.info? E).map (fun i => (i.zero, i.size, i.bytes)) = some (some (.int .u8 0), 1, 1)) (hx : ev L X = some (vL A xs c)) (hy : ev L Y = some (vS ys)) (hk : own[k]? = some (.row byteRep A c E xs true)) (hz : catL xs ys = some zs)
    (kk : ∀ A' c' w', Mem C w' (own.set k (.row byteRep A' c' E zs true)) shr → Kv (vL A' zs c') w') : Wv P ⟨dst, .call ⟨.builtin .append, #[X, Y], #[T, U]⟩, ty, pos, aft, g⟩ a w Kv := by
  obtain ⟨i, hi, hfacts⟩ := Option.map_eq_some_iff.1 hE
  simp only [Prod.mk.injEq] at hfacts
  obtain ⟨hz0, his, hib⟩ := hfacts
  obtain ⟨rfl, hlim⟩ := catL_some hz
  unfold lim at hlim
  obtain ⟨rows, hr, hrow⟩ := hM.ownAt hk
  have hK1 : byteRep.size = 1 := rfl
  have hown : w.ownsRow 0 E 1 (vL A xs c) xs.length rows.flatten := by
    refine ⟨hr.flat_len, ?_⟩
    rcases hrow with ⟨rfl, rfl, rfl⟩ | ⟨g, cur, fr, rfl, hg, hc, hm, hcs, ht, hfr⟩
    · exact .inl ⟨rfl, rfl⟩
    · rcases hfr with rfl | ⟨h, _⟩
      · exact .inr ⟨g, c, cur, rfl, Nat.zero_le _, hg, hc, hm, hcs, ht⟩
      · cases h
  have hsz : (⟨ys.toArray⟩ : ByteArray).size = ys.length := size_mk ys
  obtain ⟨v', w', hrun, ho', hgr, hnil⟩ := Lib.run_append_own_string (P := P) w 0 T U ty E i hT hU hi hz0 his hib (vL A xs c) xs.length rows.flatten hown ⟨ys.toArray⟩ (maxLen_ge (by omega)) (by omega) (Nat.zero_le _)
  rw [hsz] at ho'
  -- where it lies
  have hat : v'.ownBlock = (vL A xs c).ownBlock ∨ v'.ownBlock = some w.heap.size := by
    rcases hown.2 with ⟨hv, h0⟩ | ⟨g, cap, cur, hv, _, hg, hnc, hcm, hcs, htake⟩
    · by_cases hm : ys.length = 0
      · left
        rw [hnil.2 ⟨hv, by rw [hsz]; exact hm⟩, hv]
      · right
        have hr2 := run_append_nil_string (P := P) w T U ty E i (.int .u8 0) hT hU hi hz0 ⟨ys.toArray⟩ (by rw [hsz]; omega) (by rw [hsz]; omega) (by rw [hib, hsz]; omega)
        rw [hv] at hrun
        rw [hrun] at hr2
        injection hr2 with e1 e2
        rw [e1]
        rfl
    · rw [hv] at hrun ⊢
      by_cases hroom : xs.length + ys.length ≤ cap
      · left
        have hr2 := Lib.run_append_room_string (P := P) w T U ty E i hT hU hi his g xs.length cap cur hg ⟨ys.toArray⟩ (by rw [hsz]; exact hroom) (by omega)
        rw [hrun] at hr2
        injection hr2 with e1 e2
        rw [e1]
        rfl
      · right
        have holds : ∀ j u, rows.flatten[j]? = some u → w.cell? ((⟨g, 0, none⟩ : Addr).add j) = some u := by
          have := hown
          rw [hv] at this
          exact this.cells (g := g) rfl
        have hr2 := Lib.run_append_grow_string (P := P) w T U ty E i (.int .u8 0) hT hU hi hz0 ⟨g, 0, none⟩ xs.length cap rows.flatten (by rw [his]; simpa [hK1] using hr.flat_len) holds ⟨ys.toArray⟩ (by rw [hsz]; omega) (by rw [hsz]; omega) (by rw [hib, hsz]; exact growslice_fits (by omega) (by omega))
        rw [hrun] at hr2
        injection hr2 with e1 e2
        rw [e1]
        rfl
  have hform : ∃ A' c', v' = .slice A' (xs.length + ys.length) c' ∧ ((A' = none ∧ c' = 0 ∧ xs.length + ys.length = 0) ∨ ∃ g cur, A' = some ⟨g, 0, none⟩ ∧ w'.heap[g]? = some (.cells cur E (0, 0)) ∧ xs.length + ys.length ≤ c' ∧ c' ≤ maxLen ∧ cur.size = c' * 1 ∧ cur.toList.take ((xs.length + ys.length) * 1) = rows.flatten ++ Lib.strCells ⟨ys.toArray⟩) := by
    rcases ho'.2 with ⟨rfl, h0⟩ | ⟨g, cap, cur, rfl, _, hg, hc, hm, hcs, ht⟩
    · exact ⟨none, 0, by rw [h0], .inl ⟨rfl, rfl, h0⟩⟩
    · exact ⟨_, cap, rfl, .inr ⟨g, cur, rfl, hg, hc, hm, hcs, ht⟩⟩
  obtain ⟨A', c', rfl, hA'⟩ := hform
  have hblock : ∀ b, (Own.row byteRep A' c' E (xs ++ ys) true).block = some b → (Own.row byteRep A c E xs true).block = some b ∨ w.heap.size ≤ b := by
    intro b hb
    have hvb : Value.ownBlock (.slice A' (xs.length + ys.length) c') = some b := by
      cases A' with
      | none => cases hb
      | some q => simpa [Value.ownBlock, Own.block] using hb
    rcases hat with h | h
    · rw [hvb] at h
      refine .inl ?_
      cases A with
      | none => cases h
      | some q => simpa [Value.ownBlock, Own.block] using h.symm
    · rw [hvb] at h; cases h; exact .inr (Nat.le_refl _)
  have hold : ∀ b, b < w.heap.size → (Own.row byteRep A c E xs true).block ≠ some b → w'.heap[b]? = w.heap[b]? := by
    intro b hb hne
    refine hgr.block b hb fun e => hne ?_
    cases A with
    | none => cases e
    | some q => simpa [Value.ownBlock, Own.block] using e.symm
  refine Wv.of_run (w' := w') (v := .slice A' (xs.length + ys.length) c') ?_ ?_
  · simp only [execOp, resolve, invoke, builtin, Sem.run_bind, Sem.run_pure, Result.andThen_ok, List.map_toArray, List.map_cons, List.map_nil, hf.ev hx, hf.ev hy]
    have : (Builtin.append_ #[T, U] ty #[vL A xs c, vS ys]).run P w = .ok (.slice A' (xs.length + ys.length) c') w' := hrun
    rw [this]
    rfl
  · have hm' := hM.change (y := .row byteRep A' c' E (xs ++ ys) true) hk w' hgr.os hgr.tape hgr.output hgr.size hold hblock fun S' hS => ?_
    · have := kk A' c' w' hm'
      unfold vL at this
      rwa [List.length_append] at this
    · have hsame : Same (Sh C own w) w w' := fun b ⟨h1, h2, h3⟩ => hold b h2 fun e => h3 ⟨_, List.mem_of_getElem? hk, e⟩
      refine ⟨rows ++ ys.map (fun y => [vB y]), ((hr.append (rows_bytes w _ ys)).same hsame).mono hS, ?_⟩
      rcases hA' with ⟨rfl, rfl, h0⟩ | ⟨g, cur, rfl, hg, hc, hm, hcs, ht⟩
      · exact .inl ⟨rfl, rfl, List.eq_nil_of_length_eq_zero (by rw [List.length_append]; exact h0)⟩
      · exact .inr ⟨g, cur, (0, 0), rfl, hg, by rw [List.length_append]; exact hc, hm, hcs, by rw [List.length_append, List.flatten_append, flat_bytes]; exact ht, .inl rfl⟩
end
/-! ### What a builder hands back -/
section
variable {P : Program} {S : World → Prop} {N : Nat} {a : Act} {L : List (Nat × Value)} {dst : Option Tmp} {ty T U E : TypeId} {pos : String} {aft : Array Edge} {g : Option (Nat × Bool)} {X Y Z : Operand} {C : Cx} {w : World} {own : List Own} {shr : List Shr} {Kv : Value → World → Prop}
theorem w_sliceData (hf : Has N a L) {k c : Nat} {A : Option Addr} {xs : Str} {app : Bool} (hM : Mem C w own shr) (hk : own[k]? = some (.row byteRep A c E xs app)) (hx : ev L X = some (vL A xs c)) (hT : P.underlying ty = some (.pointer E))
    (kk : ∀ q w', Ext w w' → Mem C w' own shr → (xs ≠ [] → q = A) → Kv (.pointer q) w') : Wv P ⟨dst, .call ⟨.builtin .unsafeSliceData, #[X], #[T]⟩, ty, pos, aft, g⟩ a w Kv := by
  obtain ⟨rows, hr, hrow⟩ := hM.ownAt hk
  have hex : ∃ q w', (Builtin.unsafeSliceData_ #[T] ty #[vL A xs c]).run P w = .ok (.pointer q) w' ∧ Ext w w' ∧ Mem C w' own shr ∧ (xs ≠ [] → q = A) := by
    rcases hrow with ⟨rfl, rfl, rfl⟩ | ⟨g, cur, fr, rfl, hg, hle, hcm, hcs, ht, _⟩
    · exact ⟨none, w, Lib.run_unsafeSliceData_nil _ _ _ _ _, Ext.refl w, hM, fun h => absurd rfl h⟩
    · by_cases hc : c = 0
      · subst hc
        have h0 : xs = [] := List.eq_nil_of_length_eq_zero (by omega)
        have hsh : w.shape? g = some (E, cur.size) := by simp [World.shape?, hg]
        obtain ⟨h1, h2⟩ := hM.allocO (.view ⟨g, 0, none⟩ E)
        exact ⟨_, _, Lib.run_unsafeSliceData_zero w #[T] ty E hT ⟨g, 0, none⟩ xs.length _ hsh, h2, h1.drop (.cons _ (List.Sublist.refl _)), fun h => absurd h0 h⟩
      · exact ⟨_, w, Lib.run_unsafeSliceData_row w #[T] ty ⟨g, 0, none⟩ xs.length c hc, Ext.refl w, hM, fun _ => rfl⟩
  obtain ⟨q, w', hrun, hE, hM', hq⟩ := hex
  refine Wv.of_run (w' := w') (v := .pointer q) ?_ (kk q w' hE hM' hq)
  simp only [execOp, resolve, invoke, builtin, Sem.run_bind, Sem.run_pure, Result.andThen_ok, List.map_toArray, List.map_cons, List.map_nil, hf.ev hx]
  rw [hrun]
  rfl
theorem erase_of_set {own : List Own} {k : Nat} {y : Own} : List.Sublist (own.eraseIdx k) (own.set k y) := by
  have e : (own.set k y).eraseIdx k = own.eraseIdx k := by
    apply List.ext_getElem?
    intro i
    rw [List.getElem?_eraseIdx, List.getElem?_eraseIdx]
    split
    · rw [List.getElem?_set_ne (by omega)]
    · rw [List.getElem?_set_ne (by omega)]
  rw [← e]
  exact List.eraseIdx_sublist _ _
theorem w_unsafeString (hf : Has N a L) {k c : Nat} {A q : Option Addr} {xs : Str} {app : Bool} {I : TypeId} (hM : Mem C w own shr) (hk : own[k]? = some (.row byteRep A c E xs app)) (hq : xs ≠ [] → q = A) (hx : ev L X = some (.pointer q)) (hy : ev L Y = some (vI xs.length)) (hT : P.underlying T = some (.pointer E)) (hE : P.cellsOf E = 1)
    (kk : ∀ w', Mem C w' (own.eraseIdx k) shr → Kv (vS xs) w') : Wv P ⟨dst, .call ⟨.builtin .unsafeString, #[X, Y], #[T, I]⟩, ty, pos, aft, g⟩ a w Kv := by
  by_cases hne : xs = []
  · subst hne
    refine Wv.of_run (w' := w) (v := vS []) ?_ (kk _ (hM.drop (List.eraseIdx_sublist _ _)))
    simp only [execOp, resolve, invoke, builtin, Sem.run_bind, Sem.run_pure, Result.andThen_ok, List.map_toArray, List.map_cons, List.map_nil, hf.ev hx, hf.ev hy]
    have : (Builtin.unsafeString_ #[T, I] ty #[.pointer q, vI (([] : Str).length : Int)]).run P w = .ok (.string .empty) w := Lib.run_unsafeString_none w T I ty q
    rw [this]
    rfl
  obtain rfl := hq hne
  obtain ⟨rows, hr, hrow⟩ := hM.ownAt hk
  rcases hrow with ⟨_, _, h0⟩ | ⟨b, cur, fr, rfl, hg, hle, hcm, hcs, ht, _⟩
  · exact absurd h0 hne
  have hcs' : cur.size = c := by simpa [byteRep] using hcs
  have hsh : w.shape? b = some (E, cur.size) := by simp [World.shape?, hg]
  have hcell : ∀ j x, xs[j]? = some x → w.cell? ((⟨b, 0, none⟩ : Addr).add j) = some (.int .u8 x.toNat) := by
    intro j x hx
    obtain ⟨row, hrw, hR⟩ := hr.2 j x hx
    obtain rfl : row = [vB x] := hR
    have hat := hr.at_ hrw (j := 0) (u := vB x) rfl
    have hj : j < xs.length := (List.getElem?_eq_some_iff.1 hx).1
    have h1 : cur.toList[j]? = some (vB x) := by
      rw [← ht] at hat
      rw [List.getElem?_take] at hat
      have : byteRep.size = 1 := rfl
      rw [this] at hat
      rw [if_pos (by omega)] at hat
      simpa using hat
    have : w.cell? ⟨b, j, none⟩ = some (vB x) := by
      simp only [World.cell?, hg]
      simpa using h1
    cases j with
    | zero => simpa [Addr.add] using this
    | succ n => simpa [Addr.add] using this
  have hrun := Lib.run_unsafeString_row (P := P) w T I ty E hT hE b cur.size hsh xs hne (by omega) (by unfold maxLen at hcm; omega) hcell
  obtain ⟨o', ho', hoth⟩ : ∃ o', (w.freeze ⟨b, 0, none⟩ xs.length).heap[b]? = some o' ∧ ∀ b', b' ≠ b → (w.freeze ⟨b, 0, none⟩ xs.length).heap[b']? = w.heap[b']? := by
    have hl : xs.length ≠ 0 := by simpa using hne
    have hlt := (Array.getElem?_eq_some_iff.1 hg).1
    unfold World.freeze
    rw [if_neg hl]
    refine ⟨_, by simp [Array.getElem?_modify, hg]; rfl, fun b' hb' => by simp [Array.getElem?_modify, Ne.symm hb']⟩
  have hsize : (w.freeze ⟨b, 0, none⟩ xs.length).heap.size = w.heap.size := by
    unfold World.freeze
    split <;> simp
  have hos : (w.freeze ⟨b, 0, none⟩ xs.length).os = w.os ∧ (w.freeze ⟨b, 0, none⟩ xs.length).tape = w.tape ∧ (w.freeze ⟨b, 0, none⟩ xs.length).output = w.output := by
    unfold World.freeze
    split <;> exact ⟨rfl, rfl, rfl⟩
  have hm := hM.change (y := .obj b o') hk (w.freeze ⟨b, 0, none⟩ xs.length) hos.1 hos.2.1 hos.2.2 (by rw [hsize]; exact Nat.le_refl _) (fun b' _ hb' => hoth b' (fun e => hb' (by rw [e]; rfl))) (fun b' hb' => .inl (by cases hb'; rfl)) (fun _ _ => ho')
  refine Wv.of_run (w' := w.freeze ⟨b, 0, none⟩ xs.length) (v := vS xs) ?_ (kk _ (hm.drop ?_))
  · simp only [execOp, resolve, invoke, builtin, Sem.run_bind, Sem.run_pure, Result.andThen_ok, List.map_toArray, List.map_cons, List.map_nil, hf.ev hx, hf.ev hy]
    rw [hrun]
    rfl
  · exact erase_of_set
end
end Go.Proofs.YtdaoecpkgobelaaGreatDoor
