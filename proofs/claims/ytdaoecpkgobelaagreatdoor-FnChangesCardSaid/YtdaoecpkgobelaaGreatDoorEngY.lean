/- The engine, part Y: a range over a function: rounds, calls of yield. -/
import Derived.Test.YtdaoecpkgobelaaGreatDoorEngO
import Derived.RangeFuncRecord
import Derived.RangeFuncCalls
import Derived.RangeFuncBound
namespace Go.Proofs.YtdaoecpkgobelaaGreatDoor
open Go Go.RowKit
set_option linter.unusedSimpArgs false
set_option linter.unusedVariables false
/-! ### Regions, for a fence that lets all in -/
structure FAll (F : Fence) : Prop where
  fn : ∀ f, F.fn f
  depth : F.depth = none
def notDefer : Op → Bool
  | .defer _ => false
  | _ => true
section
variable {F : Fence} {P : Program} {ops : Array Oper} {o : Oper} {a : Act} {w w' : World} {v : Value} {K : Value → World → Prop} {S : World → Prop}
theorem semAt_of (hnd : notDefer o.op = true) (r : Option Nat) (ρ : Operand → Value) : o.semAt r ρ = execOp ρ o := Oper.semAt_eq _ _ _ fun c e => by rw [e] at hnd; cases hnd
def WvI (F : Fence) (P : Program) (o : Oper) (a : Act) (w : World) (K : Value → World → Prop) : Prop := ∀ (Q : Exit → Act → World → Prop) (K' : Act → World → Prop), (∀ v w', K v w' → K' (a.put o.dst v) w') → o.wpIn F 0 P a w K' Q
theorem WvI.of_run (hF : FAll F) (hnd : notDefer o.op = true) (h : (execOp a.eval o).run P w = .ok (.value v) w') (hk : K v w') : WvI F P o a w K := by
  intro Q K' hK
  refine ⟨fun f _ => hF.fn f, ?_⟩
  rw [semAt_of hnd, h]
  exact hK v w' hk
theorem WvI.of_skip (hF : FAll F) (hnd : notDefer o.op = true) (h : (execOp a.eval o).run P w = .ok .skip w') (hk : K undef w') : WvI F P o a w K := by
  intro Q K' hK
  refine ⟨fun f _ => hF.fn f, ?_⟩
  rw [semAt_of hnd, h]
  exact hK _ w' hk
end
def HasD (N : Nat) (a : Act) (L : List (Nat × Value)) (ds : List Deferred) : Prop := Has N { a with defers := [] } L ∧ a.defers = ds
theorem HasD.has {N : Nat} {a : Act} {L : List (Nat × Value)} (h : HasD N a L []) : Has N a L := by
  obtain ⟨h1, h2⟩ := h
  exact ⟨h2, h1.size, h1.at_⟩
section
variable {F : Fence} {P : Program} {ops : Array Oper} {o : Oper} {a : Act} {w w' : World} {v : Value} {K : Act → World → Prop} {S : World → Prop} {N d : Nat} {L : List (Nat × Value)} {ds : List Deferred} {rest : List Oper}
theorem HasD.put (h : HasD N a L ds) (hd : Nat.blt d N = true) (v : Value) : HasD N (a.put (some d) v) ((d, v) :: L) ds := by
  obtain ⟨h1, h2⟩ := h
  refine ⟨?_, by simpa [Act.put] using h2⟩
  have := h1.put hd v
  simpa [Act.put] using this
end
section
variable {F : Fence} {P : Program} {N : Nat} {a : Act} {L : List (Nat × Value)} {ds : List Deferred} {dst : Option Tmp} {ty T U E : TypeId} {pos : String} {aft : Array Edge} {g : Option (Nat × Bool)} {X Y Z : Operand} {w : World}
variable {C : Cx} {own own' : List Own} {shr : List Shr} {K : Value → World → Prop}
theorem HasD.ev (h : HasD N a L ds) {x : Operand} {v : Value} (hx : ev L x = some v) : a.eval x = v := h.1.ev hx
theorem HasD.evs (h : HasD N a L ds) {xs : List Operand} {vs : List Value} (hx : evs L xs = some vs) : xs.map a.eval = vs := h.1.evs hx
end
/-! ### Interface values -/
section
variable {P : Program} {S : World → Prop} {N : Nat} {a : Act} {L : List (Nat × Value)} {dst : Option Tmp} {ty T : TypeId} {pos : String} {aft : Array Edge} {g : Option (Nat × Bool)} {X : Operand} {w : World} {K : Value → World → Prop}
theorem e_makeIface (hf : Has N a L) {v : Value} (hx : ev L X = some v) (hT : P.concrete T = true) : Yd P S a ⟨dst, .makeInterface T X, ty, pos, aft, g⟩ (.iface T v) := by
  intro w _
  have := run_makeInterface (P := P) (w := w) T v hT
  simp [execOp, hf.ev hx, this]
def CallsAs (P : Program) (V : Value) (fk : FuncId) (fa fc : List Value) : Prop := ∀ (args : List Value) (w : World), (do let d ← Deferred.ofValue V args.toArray; invoke d.target d.args : Sem Next).run P w = .ok (.enter fk ((fa ++ args) ++ fc).toArray) w
theorem callsAs_method {P : Program} {T : TypeId} {v v' : Value} {name : String} {fk : FuncId} (hm : ∀ w, (method (P.types.size + Made.depth) T v name).run P w = .ok (fk, v') w) (hcall : ∀ (args : Array Value) (w : World), (callFunc fk args).run P w = .ok (.enter fk args) w) : CallsAs P (.func (.method name) #[.iface T v] #[]) fk [v'] [] := by
  intro args w
  have hm' := hm w
  have e1 : (#[Value.iface T v] ++ args.toArray).extract 1 (#[Value.iface T v] ++ args.toArray).size = args.toArray := by
    apply Array.ext'
    simp
  have e2 : (#[Value.iface T v] ++ args.toArray)[0]? = some (.iface T v) := by simp
  simp only [Deferred.ofValue, Sem.run_bind, Sem.run_pure, Result.andThen_ok, invoke, e2, e1, callMethod, run_program, hm', hcall]
  simp
theorem w_callF (hf : Has N a L) {V : Value} {fk : FuncId} {fa fc : List Value} {xs : List Operand} {vs : List Value} {tys : Array TypeId} {R : Ending → World → Prop} (hV : CallsAs P V fk fa fc) (hv : ev L X = some V) (hxs : evs L xs = some vs) (hc : Calls P fk ((fa ++ vs) ++ fc).toArray w R) (k : ∀ e w', R e w' → ∃ v, e = .returned v ∧ K v w') :
    Wv P ⟨dst, .call ⟨.value X, xs.toArray, tys⟩, ty, pos, aft, g⟩ a w K := by
  have hargs : (xs.toArray.map a.eval) = vs.toArray := by rw [List.map_toArray, hf.evs hxs]
  refine Wv.of_enter (f := fk) (args := ((fa ++ vs) ++ fc).toArray) ?_ (hc.mono k)
  have h := hV vs w
  simp only [execOp, resolve, hargs, hf.ev hv]
  exact h
theorem e_methodVal (hf : Has N a L) {v : Value} {name : String} (hx : ev L X = some v) : Yd P S a ⟨dst, .makeFunc (.method name) #[X] #[], ty, pos, aft, g⟩ (.func (.method name) #[v] #[]) := by
  intro w _
  simp [execOp, Instr.makeFunc, hf.ev hx]
theorem e_nilI (hf : Has N a L) {V : Value} (hx : ev L X = some V) (hI : ∃ T v, V = .iface T v) : Yd P S a ⟨dst, .nilCheck X, ty, pos, aft, g⟩ V := by
  obtain ⟨T, v, rfl⟩ := hI
  intro w _
  simp [execOp, hf.ev hx]
end
/-! ### Objects -/
section
variable {C : Cx} {w : World} {own : List Own} {shr : List Shr}
end
/-! ### The statement -/
/-! ### A function that holds such a statement -/
end Go.Proofs.YtdaoecpkgobelaaGreatDoor
