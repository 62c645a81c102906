/- The engine, tenth part: slots told anew, what is handed back, function values. -/
import Derived.Test.YtdngdgjlcfbdhaaEngI
namespace Go.Proofs.Ytdngdgjlcfbdhaa
open Go Go.RowKit
set_option linter.unusedSimpArgs false
set_option linter.unusedVariables false

theorem Has.alter {N : Nat} {a : Act} {L : List (Nat × Value)} (h : Has N a L) {d : Nat} {u v : Value} (hl : look L d = some u) (e : u = v) : Has N a ((d, v) :: L) := by
  subst e
  refine ⟨h.defers, h.size, fun k x hk => ?_⟩
  simp only [look] at hk
  cases hb : Nat.beq d k with
  | true =>
    have : d = k := Nat.eq_of_beq_eq_true hb
    subst this
    rw [hb] at hk
    simp only [cond_true, Option.some.injEq] at hk
    subst hk
    exact h.at_ _ _ hl
  | false => rw [hb] at hk; exact h.at_ k x hk
theorem vL_len {α : Type} {xs ys : List α} {A : Option Addr} {c : Nat} (h : ys.length = xs.length) : vL A xs c = vL A ys c := by unfold vL; rw [h]
theorem setL_len {α : Type} {xs ys : List α} {i : Int} {x : α} (h : setL xs i x = some ys) : ys.length = xs.length := by
  obtain ⟨_, _, rfl⟩ := setL_some h
  rw [List.length_set]

section
variable {C : Cx} {w w' : World} {own own' : List Own} {shr : List Shr}
theorem Mem.outs (h : Mem C w own shr) (n : Nat) (e : own.take n = own') : Mem C w own' shr := by
  subst e
  exact h.drop (List.take_sublist n own)
theorem Mem.fin (h : Mem C w own shr) : Mem C w own [] := h.keep (by simp)
theorem Rep.to {α : Type} {K : Rep α} {S T : Nat → Prop} {x : α} {row : List Value} (h : K.R w S x row) (hs : Same S w w') (hT : ∀ b, S b → T b) : K.R w' T x row := K.mono (K.same h hs) hT
end

/-- A function value that may be called later, too. -/
def FnOk (P : Program) (C : Cx) (fk : FuncId) (Q : Cx → Prop) : Prop :=
  (∀ (args : Array Value) (w : World), (callFunc fk args).run P w = .ok (.enter fk args) w) ∧ ∀ C1 : Cx, Same C.S0 C.w0 C1.w0 → (∀ b, C.S0 b → C1.S0 b) → Q C1
theorem FnOk.to {P : Program} {C C' : Cx} {fk : FuncId} {Q : Cx → Prop} (h : FnOk P C fk Q) (hs : Same C.S0 C.w0 C'.w0) (hsub : ∀ b, C.S0 b → C'.S0 b) : FnOk P C' fk Q :=
  ⟨h.1, fun C1 h1 h2 => h.2 C1 (fun b hb => (h1 b (hsub b hb)).trans (hs b hb)) fun b hb => h2 b (hsub b hb)⟩

end Go.Proofs.Ytdngdgjlcfbdhaa
