/- The engine, ninth part: flat data, rows cut short, calls of values, other kinds of numbers. -/
import Derived.Test.YtbekokenomhgeaaGreatDoorEngH
namespace Go.Proofs.YtbekokenomhgeaaGreatDoor
open Go Go.RowKit
set_option linter.unusedSimpArgs false
set_option linter.unusedVariables false

theorem none_not {S : Nat → Prop} : ∀ b, S b → ¬ none_ b := fun _ _ h => h
section
variable {P : Program} {S : World → Prop} {N : Nat} {a : Act} {L : List (Nat × Value)} {dst : Option Tmp} {ty T U E : TypeId} {pos : String} {aft : Array Edge} {g : Option (Nat × Bool)} {X Y Z : Operand} {w : World}
variable {C : Cx} {own own' : List Own} {shr : List Shr} {Kv : Value → World → Prop}

section
variable (hf : Has N a L)
include hf
end
end

end Go.Proofs.YtbekokenomhgeaaGreatDoor
