/- The engine, eighth part: results, pointers handed on, bytes, struct literals. -/
import Derived.Test.YtdaoecpkgobelaaGreatDoorEngG
namespace Go.Proofs.YtdaoecpkgobelaaGreatDoor
open Go Go.RowKit
set_option linter.unusedSimpArgs false
set_option linter.unusedVariables false
section
variable {P : Program} {N : Nat} {a : Act} {L : List (Nat × Value)} {w : World}
def resGo (tmps : Array Value) : ResultVar → Sem Value
  | .tmp t => pure (tmps.getD t undef)
  | .cell a t => do loadVar t (← asAddr (tmps.getD a undef))
def RG (P : Program) (tmps : Array Value) (w : World) (r : ResultVar) (v : Value) : Prop := (resGo tmps r).run P w = .ok v w
theorem res_tmp {t : Nat} {v : Value} (hf : Has N a L) (hv : look L t = some v) : RG P a.tmps w (.tmp t) v := by
  simp [RG, resGo, hf.at_ t v hv]
theorem res_agg {t b o n : Nat} {T : TypeId} {us : List Value} (hf : Has N a L) (hv : look L t = some (vP b o)) (hT : AggInfo P T n) (hn : us.length = n) (hc : ∀ j u, us[j]? = some u → w.cell? ⟨b, o + j, none⟩ = some u) : RG P a.tmps w (.cell t T) (.agg us.toArray) := by
  have hl := run_loadCells_list (P := P) w ⟨b, o, none⟩ us (fun j v hv => by rw [add_lit]; exact hc j v hv)
  subst hn
  simp [RG, resGo, hf.at_ t _ hv, asAddr, loadVar, hT.1 w, hT.2 w, hl]
theorem results_eq (fn : Func) (tmps : Array Value) : results fn tmps = (do let vs ← fn.results.mapM (resGo tmps); pure (if h : vs.size = 1 then vs[0] else .tuple vs)) := by
  unfold results
  first | rfl | (congr 1; first | rfl | (congr 1; first | rfl | (funext r; cases r <;> rfl)))
theorem leaveV1 {fn : Func} {r : ResultVar} {v : Value} (hr : fn.results = #[r]) (h : RG P a.tmps w r v) : (results fn a.tmps).run P w = .ok v w := by
  unfold RG at h
  rw [results_eq, hr]
  simp [h]
theorem leaveV2 {fn : Func} {r s : ResultVar} {v u : Value} (hr : fn.results = #[r, s]) (h : RG P a.tmps w r v) (k : RG P a.tmps w s u) : (results fn a.tmps).run P w = .ok (.tuple #[v, u]) w := by
  unfold RG at h k
  rw [results_eq, hr]
  simp [h, k]
theorem leaveV3 {fn : Func} {r s t : ResultVar} {v u x : Value} (hr : fn.results = #[r, s, t]) (h : RG P a.tmps w r v) (k : RG P a.tmps w s u) (l : RG P a.tmps w t x) : (results fn a.tmps).run P w = .ok (.tuple #[v, u, x]) w := by
  unfold RG at h k l
  rw [results_eq, hr]
  simp [h, k, l]
end
section
variable {P : Program} {S : World → Prop} {N : Nat} {a : Act} {L : List (Nat × Value)} {dst : Option Tmp} {ty T U E : TypeId} {pos : String} {aft : Array Edge} {g : Option (Nat × Bool)} {X Y Z : Operand} {w : World}
variable {C : Cx} {own own' : List Own} {shr : List Shr} {Kv : Value → World → Prop}
theorem Mem.litPtr (h : Mem C w own shr) {k d p b o : Nat} {cs us : List Value} (hk : shr[k]? = some (.lit b o cs)) (hp : o + d = p) (hu : (cs.drop d).take us.length = us) {α : Type} {K : Rep α} {x : α} (hr : K.R w (Sh C own w) x us) : (ptrRep K).R w (Sh C own w) x [vP b p] :=
  ⟨b, p, us, rfl, (h.at_ hk).1, hr, h.litSub hk hp hu⟩
theorem Mem.rowElemN (h : Mem C w own shr) {α : Type} {K : Rep α} {A : Option Addr} {c : Nat} {xs : List α} {app : Bool} {k : Nat} (hk : own[k]? = some (.row K A c E xs app)) {n : Nat} (hn : K.size = n) {i : Int} {x : α} (hx : getL xs i = some x) :
    ∃ b row, A = some ⟨b, 0, none⟩ ∧ 0 ≤ i ∧ i < xs.length ∧ K.R w (Sh C own w) x row ∧ ∀ j u, row[j]? = some u → w.cell? ⟨b, 0 + i.toNat * n + j, none⟩ = some u := by
  subst hn; exact h.rowElem hk hx
theorem Mem.rowElem' (h : Mem C w own shr) {α : Type} {K : Rep α} {b c : Nat} {xs : List α} {app : Bool} {k : Nat} (hk : own[k]? = some (.row K (some ⟨b, 0, none⟩) c E xs app)) {n : Nat} (hn : K.size = n) {i : Int} {x : α} (hx : getL xs i = some x) :
    ∃ row, 0 ≤ i ∧ i < xs.length ∧ K.R w (Sh C own w) x row ∧ ∀ j u, row[j]? = some u → w.cell? ⟨b, 0 + i.toNat * n + j, none⟩ = some u := by
  obtain ⟨b', row, he, h0, h1, h2, h3⟩ := h.rowElemN hk hn hx
  cases he
  exact ⟨row, h0, h1, h2, h3⟩
section
variable (hf : Has N a L)
include hf
theorem e_build {z : Value} {fs : Array Field} {places : Array (Nat × Nat)} {parts : Array (Nat × Operand)} {vs : List Value} {cs : Array Value} (hz : ∀ w, (zeroValue T).run P w = .ok z w) (hT : P.underlying T = some (.struct fs)) (hp : ∀ w, (fs.mapM fun (f : Field) => do pure (f.offset, ← sizeOf f.type)).run P w = .ok places w)
    (hvs : evs L (parts.toList.map (·.2)) = some vs) (hfill : Instr.fill (places[·]?) z.cells ((parts.toList.map (·.1)).zip vs) = some cs) : Yd P S a ⟨dst, .build T parts, ty, pos, aft, g⟩ (.agg cs) := by
  intro w _
  have he := hf.evs hvs
  have hl : (parts.map fun (i, x) => (i, a.eval x)).toList = (parts.toList.map (·.1)).zip vs := by
    rw [Array.toList_map, ← he]
    induction parts.toList with
    | nil => rfl
    | cons p ps ih => simp only [List.map_cons, List.zip_cons_cons, ih]
  simp only [execOp, Instr.build, Sem.run_bind, hz w, Result.andThen_ok, run_underlying hT, hp w, hl, hfill, Sem.run_pure]
end
end
end Go.Proofs.YtdaoecpkgobelaaGreatDoor
