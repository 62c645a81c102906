/- The engine, part Y: a range over a function: rounds, calls of yield. -/
import Derived.Test.YtdaoecpkgobelaaDoorEngO
import Derived.RangeFuncRecord
import Derived.RangeFuncCalls
import Derived.RangeFuncBound
namespace Go.Proofs.YtdaoecpkgobelaaDoor
open Go Go.RowKit
set_option linter.unusedSimpArgs false
set_option linter.unusedVariables false

/-! ### Regions, for a fence that lets all in -/
structure FAll (F : Fence) : Prop where
  fn : ∀ f, F.fn f
  depth : F.depth = none
theorem fall_wide : FAll Fence.wide := ⟨fun _ => trivial, rfl⟩
theorem fall_round (l : Nat) : FAll (Fence.wide.inRound l) := ⟨fun _ => trivial, rfl⟩
def notDefer : Op → Bool
  | .defer _ => false
  | _ => true
section
variable {F : Fence} {P : Program} {ops : Array Oper} {o : Oper} {a : Act} {w w' : World} {v : Value} {K : Value → World → Prop} {S : World → Prop}
theorem semAt_of (hnd : notDefer o.op = true) (r : Option Nat) (ρ : Operand → Value) : o.semAt r ρ = execOp ρ o := Oper.semAt_eq _ _ _ fun c e => by rw [e] at hnd; cases hnd
def WvI (F : Fence) (P : Program) (o : Oper) (a : Act) (w : World) (K : Value → World → Prop) : Prop := ∀ (Q : Exit → Act → World → Prop) (K' : Act → World → Prop), (∀ v w', K v w' → K' (a.put o.dst v) w') → o.wpIn F 0 P a w K' Q
theorem WvI.of_run (hF : FAll F) (hnd : notDefer o.op = true) (h : (execOp a.eval o).run P w = .ok (.value v) w') (hk : K v w') : WvI F P o a w K := by
  intro Q K' hK
  refine ⟨fun f _ => hF.fn f, ?_⟩
  rw [semAt_of hnd, h]
  exact hK v w' hk
theorem WvI.of_skip (hF : FAll F) (hnd : notDefer o.op = true) (h : (execOp a.eval o).run P w = .ok .skip w') (hk : K undef w') : WvI F P o a w K := by
  intro Q K' hK
  refine ⟨fun f _ => hF.fn f, ?_⟩
  rw [semAt_of hnd, h]
  exact hK _ w' hk
def wpPlI (F : Fence) (P : Program) (ops : Array Oper) (K : Act → World → Prop) : List Oper → Act → World → Prop
  | [], a, w => K a w
  | o :: rest, a, w => if Region.wanted o (yielded ops a.tmps) then WvI F P o a w (fun v w' => wpPlI F P ops K rest (a.put o.dst v) w') else wpPlI F P ops K rest (a.put o.dst undef) w
theorem wpListIn_of_plI (hF : FAll F) {Q : Exit → Act → World → Prop} : ∀ (l : List Oper) (a : Act) (w : World), wpPlI F P ops (Q .normal) l a w → wpListIn F 0 P ops Q l a w
  | [], a, w, h => h
  | o :: rest, a, w, h => by
    unfold wpPlI at h
    unfold wpListIn
    split
    · rename_i hw
      rw [if_pos hw] at h
      exact h Q _ fun v w' h' => wpListIn_of_plI hF rest _ _ h'
    · rename_i hw
      rw [if_neg hw] at h
      exact ⟨fun f _ => hF.fn f, wpListIn_of_plI hF rest _ _ h⟩
theorem region_plI (hF : FAll F) {id : Nat} {Q : Exit → Act → World → Prop} {l : List Oper} (h : wpPlI F P l.toArray (Q .normal) l a w) : (Code.region id l.toArray false).wpIn F 0 P Q a w := wpIn_region_lit (wpListIn_of_plI hF l a w h)
end

/-- As Has, whatever the frame's deferred calls are. -/
def HasD (N : Nat) (a : Act) (L : List (Nat × Value)) (ds : List Deferred) : Prop := Has N { a with defers := [] } L ∧ a.defers = ds
theorem Has.toD {N : Nat} {a : Act} {L : List (Nat × Value)} (h : Has N a L) : HasD N a L [] := by
  obtain ⟨tm, df⟩ := a
  obtain ⟨h1, h2, h3⟩ := h
  exact ⟨⟨rfl, h2, h3⟩, h1⟩
theorem Has.toDs {N : Nat} {a : Act} {L : List (Nat × Value)} (h : Has N a L) (d : Deferred) : HasD N { a with defers := d :: a.defers } L [d] := ⟨h.toD.1, by show d :: a.defers = [d]; rw [h.defers]⟩
theorem HasD.has {N : Nat} {a : Act} {L : List (Nat × Value)} (h : HasD N a L []) : Has N a L := by
  obtain ⟨h1, h2⟩ := h
  exact ⟨h2, h1.size, h1.at_⟩
section
variable {F : Fence} {P : Program} {ops : Array Oper} {o : Oper} {a : Act} {w w' : World} {v : Value} {K : Act → World → Prop} {S : World → Prop} {N d : Nat} {L : List (Nat × Value)} {ds : List Deferred} {rest : List Oper}
theorem HasD.put (h : HasD N a L ds) (hd : Nat.blt d N = true) (v : Value) : HasD N (a.put (some d) v) ((d, v) :: L) ds := by
  obtain ⟨h1, h2⟩ := h
  refine ⟨?_, by simpa [Act.put] using h2⟩
  have := h1.put hd v
  simpa [Act.put] using this
theorem pD_nil (h : K a w) : wpPlI F P ops K [] a w := h
theorem pD_q (hF : FAll F) (hf : HasD N a L ds) (hd : o.dst = some d) (hdN : Nat.blt d N = true) (hg : o.guard = none) (hnd : notDefer o.op = true) (hS : S w) (hy : Yd P S { a with defers := [] } o v) (h : ∀ a, HasD N a ((d, v) :: L) ds → wpPlI F P ops K rest a w) : wpPlI F P ops K (o :: rest) a w := by
  unfold wpPlI
  rw [if_pos (by simp [Region.wanted, hg])]
  refine WvI.of_run hF hnd (show (execOp a.eval o).run P w = .ok (.value v) w from hy w hS) ?_
  rw [hd]
  exact h _ (hf.put hdN v)
theorem pD_l (hF : FAll F) (hf : HasD N a L ds) (hd : o.dst = some d) (hdN : Nat.blt d N = true) (hg : o.guard = none) (hy : WvI F P o a w (fun v w' => ∀ a, HasD N a ((d, v) :: L) ds → wpPlI F P ops K rest a w')) : wpPlI F P ops K (o :: rest) a w := by
  unfold wpPlI
  rw [if_pos (by simp [Region.wanted, hg])]
  intro Q K' hK
  refine hy Q K' fun v w' h => hK v w' ?_
  rw [hd]
  exact h _ (hf.put hdN v)
theorem pD_0 (hf : HasD N a L ds) (hd : o.dst = none) (hg : o.guard = none) (hy : WvI F P o a w (fun _ w' => ∀ a, HasD N a L ds → wpPlI F P ops K rest a w')) : wpPlI F P ops K (o :: rest) a w := by
  unfold wpPlI
  rw [if_pos (by simp [Region.wanted, hg])]
  intro Q K' hK
  refine hy Q K' fun v w' h => hK v w' ?_
  rw [hd]
  exact h _ hf
end
section
variable {F : Fence} {P : Program} {N : Nat} {a : Act} {L : List (Nat × Value)} {ds : List Deferred} {dst : Option Tmp} {ty T U E : TypeId} {pos : String} {aft : Array Edge} {g : Option (Nat × Bool)} {X Y Z : Operand} {w : World}
variable {C : Cx} {own own' : List Own} {shr : List Shr} {K : Value → World → Prop}
theorem HasD.ev (h : HasD N a L ds) {x : Operand} {v : Value} (hx : ev L x = some v) : a.eval x = v := h.1.ev hx
theorem HasD.evs (h : HasD N a L ds) {xs : List Operand} {vs : List Value} (hx : evs L xs = some vs) : xs.map a.eval = vs := h.1.evs hx
theorem i_alloc (hF : FAll F) {z : Value} {cs : List Value} (hM : Mem C w own shr) (hz : ∀ w, (zeroValue E).run P w = .ok z w) (hcs : z.cells = cs.toArray) (k : ∀ b w', Mem C w' (.box b cs E :: own) shr → K (vP b 0) w') : WvI F P ⟨dst, .alloc E, ty, pos, aft, g⟩ a w K := by
  obtain ⟨h1, h2⟩ := hM.alloc cs E
  refine WvI.of_run hF rfl (w' := w.alloc (.cells cs.toArray E)) (v := vP w.heap.size 0) ?_ (k _ _ h1)
  simp [execOp, Instr.alloc, hz w, newVar, newRow, hcs]
theorem i_store (hF : FAll F) (hf : HasD N a L ds) {b o k : Nat} {v : Value} {cs cs' us : List Value} {B : TypeId} (hM : Mem C w own shr) (hx : YtdaoecpkgobelaaDoor.ev L X = some (vP b o)) (hy : YtdaoecpkgobelaaDoor.ev L Y = some v) (hk : own[k]? = some (.box b cs B)) (hv : v.cells = us.toArray) (hs : ∀ w, (sizeOf T).run P w = .ok us.length w)
    (h1 : us.all (·.oneCell') = true) (hle : Nat.ble (o + us.length) cs.length = true) (hcs : putCs cs o us = cs') (kk : ∀ w', Mem C w' (own.set k (.box b cs' B)) shr → K undef w') : WvI F P ⟨dst, .store T X Y, ty, pos, aft, g⟩ a w K := by
  have hg : w.heap[b]? = some (.cells cs.toArray B (0, 0)) := hM.ownAt hk
  have hle' : o + us.length ≤ cs.length := Nat.le_of_ble_eq_true hle
  have hst := run_storeCells_at (P := P) b o B us 0 cs.toArray w hg (by simpa using hle') (fun u hu => List.all_eq_true.1 h1 u hu)
  have hrow : (cs.take (o + 0) ++ us ++ cs.drop (o + 0 + us.length)) = cs' := by rw [← hcs]; simp [putCs]
  simp only [List.toList_toArray, hrow] at hst
  refine WvI.of_skip hF rfl (w' := w.setRow b cs'.toArray) ?_ (kk _ ?_)
  · simp [execOp, hf.ev hx, hf.ev hy, Instr.storeAt, Instr.sureAddr, storeVar, hs w, hv, hst]
  · refine hM.change hk _ rfl rfl rfl (by simp [World.setRow]) (fun b' _ hb' => setRow_other w b b' _ (fun e => hb' (by rw [e]; rfl))) (fun b' hb' => .inl hb') fun S _ => ?_
    exact setRow_heap w b _ _ B _ hg
/-- A call of yield. -/
theorem i_yield {l : Nat} {xs : List Operand} {vs : List Value} {tys : Array TypeId} {R : Ending → World → Prop} (hf : HasD N a L ds) (hv : YtdaoecpkgobelaaDoor.ev L X = some (.func (.yield l) #[] #[])) (hxs : YtdaoecpkgobelaaDoor.evs L xs = some vs) (hY : YieldAt Fence.wide 0 P l vs.toArray w R) (k : ∀ e w', R e w' → ∃ v, e = .returned v ∧ K v w') :
    WvI Fence.wide P ⟨dst, .call ⟨.value X, xs.toArray, tys⟩, ty, pos, aft, g⟩ a w K := by
  intro Q K' hK
  refine ⟨fun f _ => trivial, ?_⟩
  have hargs : (xs.toArray.map a.eval) = vs.toArray := by rw [List.map_toArray, hf.evs hxs]
  obtain ⟨fn, tmps, assign, body, hy, hR⟩ := hY
  rw [semAt_of rfl]
  have hrun : (execOp a.eval ⟨dst, .call ⟨.value X, xs.toArray, tys⟩, ty, pos, aft, g⟩).run P w = .ok (.round l fn tmps assign body) w := by
    simp [execOp, resolve, hargs, hf.ev hv, Deferred.ofValue, invoke, hy]
  rw [hrun]
  refine ⟨fun h => by simp [Fence.wide] at h, hR.mono fun e w' h => ?_⟩
  obtain ⟨v, rfl, hk⟩ := k e w' h
  exact hK v w' hk
end

/-! ### Interface values -/
section
variable {P : Program} {S : World → Prop} {N : Nat} {a : Act} {L : List (Nat × Value)} {dst : Option Tmp} {ty T : TypeId} {pos : String} {aft : Array Edge} {g : Option (Nat × Bool)} {X : Operand} {w : World} {K : Value → World → Prop}
theorem e_makeIface (hf : Has N a L) {v : Value} (hx : ev L X = some v) (hT : P.concrete T = true) : Yd P S a ⟨dst, .makeInterface T X, ty, pos, aft, g⟩ (.iface T v) := by
  intro w _
  have := run_makeInterface (P := P) (w := w) T v hT
  simp [execOp, hf.ev hx, this]
/-- A call of a method of an interface value whose type is known. -/
theorem w_invoke (hf : Has N a L) {v v' : Value} {name : String} {f : FuncId} {xs : List Operand} {vs : List Value} {tys : Array TypeId} {R : Ending → World → Prop} (hv : ev L X = some (.iface T v)) (hm : ∀ w, (method (P.types.size + Made.depth) T v name).run P w = .ok (f, v') w)
    (hcall : ∀ (args : Array Value) (w : World), (callFunc f args).run P w = .ok (.enter f args) w) (hxs : evs L xs = some vs) (hc : Calls P f (v' :: vs).toArray w R) (k : ∀ e w', R e w' → ∃ v, e = .returned v ∧ K v w') :
    Wv P ⟨dst, .call ⟨.invoke X name, xs.toArray, tys⟩, ty, pos, aft, g⟩ a w K := by
  have hargs : (xs.toArray.map a.eval) = vs.toArray := by rw [List.map_toArray, hf.evs hxs]
  refine Wv.of_enter (f := f) (args := (v' :: vs).toArray) ?_ (hc.mono k)
  have hm' := hm w
  have e1 : (#[Value.iface T v] ++ vs.toArray).extract 1 (#[Value.iface T v] ++ vs.toArray).size = vs.toArray := by
    apply Array.ext'
    simp
  simp only [execOp, resolve, hargs, hf.ev hv, Sem.run_bind, Sem.run_pure, Result.andThen_ok, invoke]
  have e2 : (#[Value.iface T v] ++ vs.toArray)[0]? = some (.iface T v) := by simp
  rw [e2]
  simp only [callMethod, Sem.run_bind, run_program, Result.andThen_ok, hm', e1, hcall]
  simp [hcall]
end

/-! ### Objects -/
section
variable {C : Cx} {w : World} {own : List Own} {shr : List Shr}
theorem Mem.toObj (h : Mem C w own shr) {k b : Nat} {cs : List Value} {T : TypeId} (hk : own[k]? = some (.box b cs T)) : Mem C w (own.set k (.obj b (.cells cs.toArray T (0, 0)))) shr :=
  h.change hk w rfl rfl rfl (Nat.le_refl _) (fun _ _ _ => rfl) (fun b hb => .inl hb) fun S _ => h.ownAt hk
theorem Mem.toBox (h : Mem C w own shr) {k b : Nat} {cs : List Value} {T : TypeId} (hk : own[k]? = some (.obj b (.cells cs.toArray T (0, 0)))) : Mem C w (own.set k (.box b cs T)) shr :=
  h.change hk w rfl rfl rfl (Nat.le_refl _) (fun _ _ _ => rfl) (fun b hb => .inl hb) fun S _ => h.ownAt hk
theorem Mem.putObj (h : Mem C w own shr) {k b : Nat} {o : Obj} (hk : own[k]? = some (.obj b o)) (o' : Obj) : Mem C (w.putObj b o') (own.set k (.obj b o')) shr :=
  h.change hk _ rfl rfl rfl (by simp) (fun b' _ hb => World.putObj_heap_other fun e => hb (by rw [e]; rfl)) (fun b hb => .inl hb) fun S _ => World.putObj_heap_same (Array.getElem?_eq_some_iff.1 (show w.heap[b]? = some o from h.ownAt hk)).1
end

/-! ### The statement -/
theorem range_enter {P : Program} {C : Cx} {w : World} {own : List Own} {shr : List Shr} {a : Act} {g : Operand} {ps : Array Tmp} {assign body : Code} {Q : Exit → Act → World → Prop} {gf : Nat} {lb : Array Value}
    (hM : Mem C w own shr) (hg : a.eval g = .func (.func gf) #[] lb) (eg : ∀ args w, (callFunc gf args).run P w = .ok (.enter gf args) w)
    (h : ∀ (fn : FuncId) (w2 : World) (rec : Loop), rec = { state := .ready, pending := none, fn, tmps := a.tmps, params := ps, assign, body, defers := w.heap.size } → Mem C w2 (.obj (w.heap.size + 1) (.loop rec) :: .obj w.heap.size (.deferred (some [])) :: own) shr →
      Calls P gf (#[.func (.yield (w.heap.size + 1)) #[] #[]] ++ lb) w2 (rangePost Fence.wide 0 P (w.heap.size + 1) Q { a with defers := { target := .collected w.heap.size, args := #[] } :: a.defers })) :
    (Code.rangeFunc g ps assign body).wpIn Fence.wide 0 P Q a w := by
  refine wpIn_rangeFunc ?_
  intro fn _
  obtain ⟨rec, hrec⟩ : ∃ rec : Loop, rec = { state := .ready, pending := none, fn, tmps := a.tmps, params := ps, assign, body, defers := w.heap.size } := ⟨_, rfl⟩
  have hen := run_enterLoop_outer (P := P) (w := w) fn a.tmps ps assign body
  rw [← hrec] at hen
  obtain ⟨h1, _⟩ := hM.allocO (.deferred (some []))
  obtain ⟨h2, _⟩ := h1.allocO (.loop rec)
  rw [World.size_alloc] at h2
  generalize (w.alloc (.deferred (some []))).alloc (.loop rec) = W1 at hen h2
  clear h1
  refine ⟨w.heap.size + 1, [{ target := .collected w.heap.size, args := #[] }], W1, { target := .fn (.func gf) lb, args := #[.func (.yield (w.heap.size + 1)) #[] #[]] }, W1, gf, #[.func (.yield (w.heap.size + 1)) #[] #[]] ++ lb, W1, hen, ?_, ?_, ?_, ?_, ?_⟩
  · simp only [resolve, hg]
    simp [go_sem]
  · intro f' _
    trivial
  · simp [invoke, go_sem, eg]
  · intro hd
    simp [Fence.wide] at hd
  · exact callsIn_wide.2 (h fn W1 rec hrec h2)

/-! ### A function that holds such a statement -/
theorem enterM {P : Program} {f : FuncId} {fn : Func} {c : Code} {vs : List Value} {w : World} {R : Ending → World → Prop} {N : Nat} (hf : P.funcs[f]? = some fn) (hb : fn.body = some c) (hN : fn.ntmps = N) (hle : Nat.ble vs.length N = true)
    (h : ∀ a, Has N a (slotsFrom 0 vs) → c.wpIn Fence.wide 0 P (bodyPostM Fence.wide 0 P fn R) a w) : Calls P f vs.toArray w R := by
  have hle' : vs.length ≤ N := Nat.le_of_ble_eq_true hle
  refine callsIn_wide.1 (callsIn_of_wp_marks hf hb trivial (h _ ⟨rfl, ?_, fun k v hk => ?_⟩))
  · simp [hN]; omega
  · obtain ⟨_, h2⟩ := look_slots vs 0 k v hk
    simp only [Nat.sub_zero] at h2
    have hlt : k < vs.length := (List.getElem?_eq_some_iff.1 h2).1
    show (vs.toArray ++ Array.replicate (fn.ntmps - vs.toArray.size) undef)[k]? = some v
    rw [Array.getElem?_append_left (by simpa using hlt)]
    simpa using h2
theorem leaveM {P : Program} {fn : Func} {R : Ending → World → Prop} {a : Act} {w : World} {D : Nat} {v : Value} (hD : a.defers = [{ target := .collected D, args := #[] }]) (hK : w.heap[D]? = some (.deferred (some [])))
    (hr : (results fn a.tmps).run P (w.putObj D (.deferred none)) = .ok v (w.putObj D (.deferred none))) (h : R (.returned v) (w.putObj D (.deferred none))) : bodyPostM Fence.wide 0 P fn R .ret a w := by
  show LeavesInM Fence.wide 0 P fn a.tmps R a.defers .returning w
  rw [hD]
  refine ⟨by simp, .inl ⟨_, _, rfl, run_takeDeferred hK, ?_⟩⟩
  exact ⟨_, hr, h⟩
theorem leaveM0 {P : Program} {fn : Func} {R : Ending → World → Prop} {a : Act} {w : World} {v : Value} (hD : a.defers = [])
    (hr : (results fn a.tmps).run P w = .ok v w) (h : R (.returned v) w) : bodyPostM Fence.wide 0 P fn R .ret a w := by
  show LeavesInM Fence.wide 0 P fn a.tmps R a.defers .returning w
  rw [hD]
  exact ⟨_, hr, h⟩
/-- The frame of a round. -/
theorem round_has {N : Nat} {a : Act} {L : List (Nat × Value)} (hf : Has N a L) {t : Tmp} (ht : Nat.blt t N = true) (v : Value) : HasD N { tmps := (#[t].zip #[v]).foldl (fun tmps (p, x) => tmps.setIfInBounds p x) a.tmps, defers := [] } ((t, v) :: L) [] := by
  have h := hf.toD.put ht v
  obtain ⟨h1, h2⟩ := h
  have e : ({ tmps := (#[t].zip #[v]).foldl (fun tmps (p, x) => tmps.setIfInBounds p x) a.tmps, defers := [] } : Act) = { a.put (some t) v with defers := [] } := by
    simp [Act.put]
  exact ⟨by rw [e]; exact h1, rfl⟩

end Go.Proofs.YtdaoecpkgobelaaDoor
