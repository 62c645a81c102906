/- The engine, part N: what a strings.Builder needs. -/
import Derived.Test.YtbekokenomhgeaaGreatDoorEngJ
import Derived.Lib.Builder
import Derived.Lib.UnsafeStr
import Derived.Lib.AppendStr
import Derived.Laws.Externs
namespace Go.Proofs.YtbekokenomhgeaaGreatDoor
open Go Go.RowKit
set_option linter.unusedSimpArgs false
set_option linter.unusedVariables false

/-- What a builder's first cell may hold: nothing, or the builder's own address. -/
def AddrOk (b : Nat) (p : Value) : Prop := p = .pointer none ∨ p = vP b 0
theorem AddrOk.nil (b : Nat) : AddrOk b (.pointer none) := .inl rfl
section
variable {P : Program} {S : World → Prop} {N : Nat} {a : Act} {L : List (Nat × Value)} {dst : Option Tmp} {ty T U E : TypeId} {pos : String} {aft : Array Edge} {g : Option (Nat × Bool)} {X Y Z : Operand} {C : Cx} {w : World} {own : List Own} {shr : List Shr} {Kv : Value → World → Prop}
section
variable (hf : Has N a L)
include hf
theorem e_neqErr {v : Value} {b : Bool} {ms : Array (String × TypeId)} (hx : ev L X = some v) (hy : Y = .const .nilIface) (hT : P.underlying T = some (.interface ms)) (hv : ErrOk v b) : Yd P S a ⟨dst, .binOp .neq T X Y U, ty, pos, aft, g⟩ (.bool b) := by
  intro w _
  subst hy
  have hy : ev L (.const .nilIface) = some .nilIface := rfl
  cases b with
  | false =>
    obtain rfl := hv.1 rfl
    have h : ∀ d : Nat, (Op.equalIn (d + 1) T .nilIface .nilIface).run P w = .ok true w := fun d => by
      simp [Op.equalIn, run_underlying hT]
    have h2 : (binOp .neq T .nilIface .nilIface).run P w = .ok (.bool false) w := by
      simp only [binOp]
      simp [Op.equal, Op.maxDepth, h 9999]
    simp [execOp, hf.ev hx, hf.ev hy, eqGuard, h2]
  | true =>
    obtain ⟨t, q, rfl⟩ := hv.2 rfl
    have h : ∀ d : Nat, (Op.equalIn (d + 1) T (.iface t q) .nilIface).run P w = .ok false w := fun d => by
      simp [Op.equalIn, run_underlying hT]
    have h2 : (binOp .neq T (.iface t q) .nilIface).run P w = .ok (.bool true) w := by
      simp only [binOp]
      simp [Op.equal, Op.maxDepth, h 9999]
    simp [execOp, hf.ev hx, hf.ev hy, eqGuard, h2]
end
end

/-! ### What a builder hands back -/
section
variable {P : Program} {S : World → Prop} {N : Nat} {a : Act} {L : List (Nat × Value)} {dst : Option Tmp} {ty T U E : TypeId} {pos : String} {aft : Array Edge} {g : Option (Nat × Bool)} {X Y Z : Operand} {C : Cx} {w : World} {own : List Own} {shr : List Shr} {Kv : Value → World → Prop}
end

end Go.Proofs.YtbekokenomhgeaaGreatDoor
