/- The engine, ninth part: flat data, rows cut short, calls of values, other kinds of numbers. -/
import Derived.Test.YtdaoecpkgobelaaGreatDoorEngH
namespace Go.Proofs.YtdaoecpkgobelaaGreatDoor
open Go Go.RowKit
set_option linter.unusedSimpArgs false
set_option linter.unusedVariables false
def fuelN : Nat := 100000
theorem none_not {S : Nat → Prop} : ∀ b, S b → ¬ none_ b := fun _ _ h => h
theorem strRep_flat : strRep.Flat := fun h => h
section
variable {P : Program} {S : World → Prop} {N : Nat} {a : Act} {L : List (Nat × Value)} {dst : Option Tmp} {ty T U E : TypeId} {pos : String} {aft : Array Edge} {g : Option (Nat × Bool)} {X Y Z : Operand} {w : World}
variable {C : Cx} {own own' : List Own} {shr : List Shr} {Kv : Value → World → Prop}
theorem Mem.truncRow (h : Mem C w own shr) {α : Type} {K : Rep α} {A : Option Addr} {c : Nat} {e : TypeId} {xs ys : List α} {app : Bool} {k : Nat} (hk : own[k]? = some (.row K A c e xs app)) {u : Int} (hs : subL xs 0 u = some ys) : Mem C w (own.set k (.row K A c e ys app)) shr := by
  obtain ⟨h0, h1, h2, hy, hl⟩ := subL_some hs
  simp only [Int.toNat_zero, List.drop_zero, Nat.sub_zero] at hy hl
  refine h.change hk w rfl rfl rfl (Nat.le_refl _) (fun _ _ _ => rfl) (fun b hb => .inl hb) fun S hS => ?_
  obtain ⟨rows, hr, hrow⟩ := h.ownAt hk
  have hle : u.toNat ≤ xs.length := by omega
  refine ⟨rows.take u.toNat, RowsOf.mono ⟨by rw [List.length_take, hr.1, hl]; omega, fun i x hx => ?_⟩ hS, ?_⟩
  · rw [hy, List.getElem?_take] at hx
    rw [List.getElem?_take]
    split at hx
    · rename_i hlt
      rw [if_pos hlt]
      exact hr.2 i x hx
    · cases hx
  · rcases hrow with ⟨rfl, rfl, rfl⟩ | ⟨g, cur, fr, rfl, hg, hc, hm, hcs, ht, hfr⟩
    · left
      refine ⟨rfl, rfl, ?_⟩
      rw [hy]; simp
    · refine .inr ⟨g, cur, fr, rfl, hg, by omega, hm, hcs, ?_, hfr⟩
      have hfl : (rows.take u.toNat).flatten = rows.flatten.take (u.toNat * K.size) := by
        have aux : ∀ (rows : List (List Value)) (n : Nat), (∀ r ∈ rows, r.length = K.size) → (rows.take n).flatten = rows.flatten.take (n * K.size) := by
          intro rows
          induction rows with
          | nil => intro n _; simp
          | cons r rows ih =>
            intro n hr
            cases n with
            | zero => simp
            | succ n =>
              rw [List.take_succ_cons, List.flatten_cons, List.flatten_cons, ih n (fun r hr' => hr r (List.mem_cons_of_mem _ hr')), List.take_append, hr r (by simp), Nat.succ_mul]
              rw [List.take_of_length_le (l := r) (by rw [hr r (by simp)]; omega), show n * K.size + K.size - K.size = n * K.size by omega]
        refine aux rows u.toNat fun r hr' => ?_
        obtain ⟨q, hq, rfl⟩ := List.getElem_of_mem hr'
        have hq' : q < xs.length := by rw [← hr.1]; exact hq
        obtain ⟨r2, h1, h2⟩ := hr.2 q (xs[q]'hq') (List.getElem?_eq_getElem hq')
        rw [List.getElem?_eq_getElem hq, Option.some.injEq] at h1
        rw [h1]; exact K.len h2
      rw [hfl, ← ht, List.take_take, hl]
      congr 1
      exact (Nat.min_eq_left (Nat.mul_le_mul_right _ hle)).symm
theorem Mem.rowForm (h : Mem C w own shr) {α : Type} {K : Rep α} {A : Option Addr} {c : Nat} {e : TypeId} {xs : List α} {app : Bool} {k : Nat} (hk : own[k]? = some (.row K A c e xs app)) : xs.length ≤ c ∧ (A = none ∨ ∃ b, A = some ⟨b, 0, none⟩) := by
  obtain ⟨rows, hr, hrow⟩ := h.ownAt hk
  rcases hrow with ⟨rfl, rfl, rfl⟩ | ⟨g, cur, fr, rfl, hg, hc, _⟩
  · exact ⟨Nat.le_refl _, .inl rfl⟩
  · exact ⟨hc, .inr ⟨g, rfl⟩⟩
section
variable (hf : Has N a L)
include hf
theorem e_trunc {α : Type} {A : Option Addr} {xs ys : List α} {c n : Nat} {h : Int} (hx : ev L X = some (vL A xs c)) (hh : ev L Z = some (vI h)) (hT : P.underlying T = some (.slice E)) (hs : ∀ w, (sizeOf E).run P w = .ok n w) (hc : xs.length ≤ c ∧ (A = none ∨ ∃ b, A = some ⟨b, 0, none⟩)) (hz : subL xs 0 h = some ys) :
    Yd P S a ⟨dst, .slice T X none (some Z) none, ty, pos, aft, g⟩ (vL A ys c) := by
  have := e_subLh (P := P) (S := S) hf (dst := dst) (ty := ty) (pos := pos) (aft := aft) (g := g) hx hh hT hs hc.1 hz rfl
  have e : (if c - (0 : Int).toNat = 0 ∧ False then A else if c = (0 : Int).toNat then A else A.map (·.add ((0 : Int).toNat * n))) = A := by
    rw [if_neg (by simp)]
    split
    · rfl
    · rcases hc.2 with rfl | ⟨b, rfl⟩ <;> simp [Addr.add]
  rw [e] at this
  simpa using this
theorem w_callV {fk : FuncId} {fc : List Value} {xs : List Operand} {vs : List Value} {tys : Array TypeId} {R : Ending → World → Prop} (hv : ev L X = some (.func (.func fk) #[] fc.toArray)) (hcall : ∀ (args : Array Value) (w : World), (callFunc fk args).run P w = .ok (.enter fk args) w) (hxs : evs L xs = some vs) (hc : Calls P fk (vs ++ fc).toArray w R) (k : ∀ e w', R e w' → ∃ v, e = .returned v ∧ Kv v w') :
    Wv P ⟨dst, .call ⟨.value X, xs.toArray, tys⟩, ty, pos, aft, g⟩ a w Kv := by
  have hargs : (xs.toArray.map a.eval) = vs.toArray := by rw [List.map_toArray, hf.evs hxs]
  refine Wv.of_enter (f := fk) (args := (vs ++ fc).toArray) ?_ (hc.mono k)
  simp [execOp, resolve, hargs, hf.ev hv, Deferred.ofValue, invoke, hcall]
theorem w_makeFunc {fk : FuncId} {xs : List Operand} {vs : List Value} (hxs : evs L xs = some vs) : Yd P S a ⟨dst, .makeFunc (.func fk) #[] xs.toArray, ty, pos, aft, g⟩ (.func (.func fk) #[] vs.toArray) := by
  intro w _
  have hargs : (xs.toArray.map a.eval) = vs.toArray := by rw [List.map_toArray, hf.evs hxs]
  simp [execOp, Instr.makeFunc, hargs]
end
end
end Go.Proofs.YtdaoecpkgobelaaGreatDoor
