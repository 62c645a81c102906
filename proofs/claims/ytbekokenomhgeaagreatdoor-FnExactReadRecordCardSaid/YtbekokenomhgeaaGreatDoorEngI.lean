/- The engine, ninth part: flat data, rows cut short, calls of values, other kinds of numbers. -/
import Derived.Test.YtbekokenomhgeaaGreatDoorEngH
namespace Go.Proofs.YtbekokenomhgeaaGreatDoor
open Go Go.RowKit
set_option linter.unusedSimpArgs false
set_option linter.unusedVariables false

theorem none_not {S : Nat → Prop} : ∀ b, S b → ¬ none_ b := fun _ _ h => h
section
variable {P : Program} {S : World → Prop} {N : Nat} {a : Act} {L : List (Nat × Value)} {dst : Option Tmp} {ty T U E : TypeId} {pos : String} {aft : Array Edge} {g : Option (Nat × Bool)} {X Y Z : Operand} {w : World}
variable {C : Cx} {own own' : List Own} {shr : List Shr} {Kv : Value → World → Prop}

section
variable (hf : Has N a L)
include hf
/-- A call of a value that is a function. -/
theorem w_callV {fk : FuncId} {fc : List Value} {xs : List Operand} {vs : List Value} {tys : Array TypeId} {R : Ending → World → Prop} (hv : ev L X = some (.func (.func fk) #[] fc.toArray)) (hcall : ∀ (args : Array Value) (w : World), (callFunc fk args).run P w = .ok (.enter fk args) w) (hxs : evs L xs = some vs) (hc : Calls P fk (vs ++ fc).toArray w R) (k : ∀ e w', R e w' → ∃ v, e = .returned v ∧ Kv v w') :
    Wv P ⟨dst, .call ⟨.value X, xs.toArray, tys⟩, ty, pos, aft, g⟩ a w Kv := by
  have hargs : (xs.toArray.map a.eval) = vs.toArray := by rw [List.map_toArray, hf.evs hxs]
  refine Wv.of_enter (f := fk) (args := (vs ++ fc).toArray) ?_ (hc.mono k)
  simp [execOp, resolve, hargs, hf.ev hv, Deferred.ofValue, invoke, hcall]
/-- A function with what it captures. -/
theorem w_makeFunc {fk : FuncId} {xs : List Operand} {vs : List Value} (hxs : evs L xs = some vs) : Yd P S a ⟨dst, .makeFunc (.func fk) #[] xs.toArray, ty, pos, aft, g⟩ (.func (.func fk) #[] vs.toArray) := by
  intro w _
  have hargs : (xs.toArray.map a.eval) = vs.toArray := by rw [List.map_toArray, hf.evs hxs]
  simp [execOp, Instr.makeFunc, hargs]
end
end

end Go.Proofs.YtbekokenomhgeaaGreatDoor
