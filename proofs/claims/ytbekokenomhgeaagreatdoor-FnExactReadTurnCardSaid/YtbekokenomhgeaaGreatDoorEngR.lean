/- The engine, part R: maps that the call makes, as lists of entries. -/
import Derived.Test.YtbekokenomhgeaaGreatDoorEngO
import Derived.MapKept
import Derived.ChangeMaps4
import Derived.Carry
import Derived.Scope
namespace Go.Proofs.YtbekokenomhgeaaGreatDoor
open Go Go.RowKit
set_option linter.unusedSimpArgs false
set_option linter.unusedVariables false

section
variable {α β : Type} [DecidableEq α]
def putM : List (α × β) → α → β → List (α × β)
  | [], k, v => [(k, v)]
  | e :: M, k, v => bif k == e.1 then (e.1, v) :: M else e :: putM M k v
end

section
variable {α β : Type} [DecidableEq α] {fk : α → Value} {fv : β → Value}
variable {P : Program} {w : World} {t kt et : TypeId} {b : Nat} {M : List (α × β)}
end

section
variable {α β : Type} [DecidableEq α] {fk : α → Value} {fv : β → Value} {P : Program} {S : World → Prop} {N : Nat} {a : Act} {L : List (Nat × Value)} {dst : Option Tmp} {ty T U E kt et : TypeId} {pos : String} {aft : Array Edge} {g : Option (Nat × Bool)} {X Y Z : Operand} {C : Cx} {w : World} {own : List Own} {shr : List Shr} {Kv : Value → World → Prop} {b : Nat} {M : List (α × β)}
end

/-! ### A map that is only read -/
/-- The numbers of a map are in range. -/
def MapR {α : Type} (M : List (α × Int)) : Prop := ∀ e ∈ M, R64 e.2
theorem MapR.nil {α : Type} : MapR ([] : List (α × Int)) := fun e h => by cases h
theorem MapR.put {α : Type} [DecidableEq α] : ∀ {M : List (α × Int)} {k : α} {v : Int}, MapR M → R64 v → MapR (putM M k v)
  | [], k, v, _, hv => fun e he => by rw [putM, List.mem_singleton] at he; subst he; exact hv
  | x :: M, k, v, h, hv => fun e he => by
    rw [putM] at he
    cases hb : k == x.1 with
    | true =>
      rw [hb] at he
      rcases List.mem_cons.1 he with rfl | he
      · exact hv
      · exact h e (List.mem_cons_of_mem _ he)
    | false =>
      rw [hb] at he
      rcases List.mem_cons.1 he with rfl | he
      · exact h _ List.mem_cons_self
      · exact MapR.put (fun e he => h e (List.mem_cons_of_mem _ he)) hv e he
/-! ### scopes that nobody jumps in -/
section
variable {Q : Exit → Act → World → Prop} {a : Act} {w : World}
end

end Go.Proofs.YtbekokenomhgeaaGreatDoor
