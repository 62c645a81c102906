/- The engine, eighth part: results, pointers handed on, bytes, struct literals. -/
import Derived.Test.YtccoeheoifbpcaaGreatDoorEngG
namespace Go.Proofs.YtccoeheoifbpcaaGreatDoor
open Go Go.RowKit
set_option linter.unusedSimpArgs false
set_option linter.unusedVariables false
section
variable {P : Program} {N : Nat} {a : Act} {L : List (Nat × Value)} {w : World}
def resGo (tmps : Array Value) : ResultVar → Sem Value
  | .tmp t => pure (tmps.getD t undef)
  | .cell a t => do loadVar t (← asAddr (tmps.getD a undef))
def RG (P : Program) (tmps : Array Value) (w : World) (r : ResultVar) (v : Value) : Prop := (resGo tmps r).run P w = .ok v w
theorem res_tmp {t : Nat} {v : Value} (hf : Has N a L) (hv : look L t = some v) : RG P a.tmps w (.tmp t) v := by
  simp [RG, resGo, hf.at_ t v hv]
theorem res_agg {t b o n : Nat} {T : TypeId} {us : List Value} (hf : Has N a L) (hv : look L t = some (vP b o)) (hT : AggInfo P T n) (hn : us.length = n) (hc : ∀ j u, us[j]? = some u → w.cell? ⟨b, o + j, none⟩ = some u) : RG P a.tmps w (.cell t T) (.agg us.toArray) := by
  have hl := run_loadCells_list (P := P) w ⟨b, o, none⟩ us (fun j v hv => by rw [add_lit]; exact hc j v hv)
  subst hn
  simp [RG, resGo, hf.at_ t _ hv, asAddr, loadVar, hT.1 w, hT.2 w, hl]
theorem results_eq (fn : Func) (tmps : Array Value) : results fn tmps = (do let vs ← fn.results.mapM (resGo tmps); pure (if h : vs.size = 1 then vs[0] else .tuple vs)) := by
  unfold results
  first | rfl | (congr 1; first | rfl | (congr 1; first | rfl | (funext r; cases r <;> rfl)))
theorem leaveV1 {fn : Func} {r : ResultVar} {v : Value} (hr : fn.results = #[r]) (h : RG P a.tmps w r v) : (results fn a.tmps).run P w = .ok v w := by
  unfold RG at h
  rw [results_eq, hr]
  simp [h]
theorem leaveV2 {fn : Func} {r s : ResultVar} {v u : Value} (hr : fn.results = #[r, s]) (h : RG P a.tmps w r v) (k : RG P a.tmps w s u) : (results fn a.tmps).run P w = .ok (.tuple #[v, u]) w := by
  unfold RG at h k
  rw [results_eq, hr]
  simp [h, k]
end
section
variable {P : Program} {S : World → Prop} {N : Nat} {a : Act} {L : List (Nat × Value)} {dst : Option Tmp} {ty T U E : TypeId} {pos : String} {aft : Array Edge} {g : Option (Nat × Bool)} {X Y Z : Operand} {w : World}
variable {C : Cx} {own own' : List Own} {shr : List Shr} {Kv : Value → World → Prop}
theorem Mem.litPtr (h : Mem C w own shr) {k d p b o : Nat} {cs us : List Value} (hk : shr[k]? = some (.lit b o cs)) (hp : o + d = p) (hu : (cs.drop d).take us.length = us) {α : Type} {K : Rep α} {x : α} (hr : K.R w (Sh C own w) x us) : (ptrRep K).R w (Sh C own w) x [vP b p] :=
  ⟨b, p, us, rfl, (h.at_ hk).1, hr, h.litSub hk hp hu⟩
theorem Mem.rowElemN (h : Mem C w own shr) {α : Type} {K : Rep α} {A : Option Addr} {c : Nat} {xs : List α} {app : Bool} {k : Nat} (hk : own[k]? = some (.row K A c E xs app)) {n : Nat} (hn : K.size = n) {i : Int} {x : α} (hx : getL xs i = some x) :
    ∃ b row, A = some ⟨b, 0, none⟩ ∧ 0 ≤ i ∧ i < xs.length ∧ K.R w (Sh C own w) x row ∧ ∀ j u, row[j]? = some u → w.cell? ⟨b, 0 + i.toNat * n + j, none⟩ = some u := by
  subst hn; exact h.rowElem hk hx
theorem Mem.rowElem' (h : Mem C w own shr) {α : Type} {K : Rep α} {b c : Nat} {xs : List α} {app : Bool} {k : Nat} (hk : own[k]? = some (.row K (some ⟨b, 0, none⟩) c E xs app)) {n : Nat} (hn : K.size = n) {i : Int} {x : α} (hx : getL xs i = some x) :
    ∃ row, 0 ≤ i ∧ i < xs.length ∧ K.R w (Sh C own w) x row ∧ ∀ j u, row[j]? = some u → w.cell? ⟨b, 0 + i.toNat * n + j, none⟩ = some u := by
  obtain ⟨b', row, he, h0, h1, h2, h3⟩ := h.rowElemN hk hn hx
  cases he
  exact ⟨row, h0, h1, h2, h3⟩
section
variable (hf : Has N a L)
include hf
theorem e_build {z : Value} {fs : Array Field} {places : Array (Nat × Nat)} {parts : Array (Nat × Operand)} {vs : List Value} {cs : Array Value} (hz : ∀ w, (zeroValue T).run P w = .ok z w) (hT : P.underlying T = some (.struct fs)) (hp : ∀ w, (fs.mapM fun (f : Field) => do pure (f.offset, ← sizeOf f.type)).run P w = .ok places w)
    (hvs : evs L (parts.toList.map (·.2)) = some vs) (hfill : Instr.fill (places[·]?) z.cells ((parts.toList.map (·.1)).zip vs) = some cs) : Yd P S a ⟨dst, .build T parts, ty, pos, aft, g⟩ (.agg cs) := by
  intro w _
  have he := hf.evs hvs
  have hl : (parts.map fun (i, x) => (i, a.eval x)).toList = (parts.toList.map (·.1)).zip vs := by
    rw [Array.toList_map, ← he]
    induction parts.toList with
    | nil => rfl
    | cons p ps ih => simp only [List.map_cons, List.zip_cons_cons, ih]
  simp only [execOp, Instr.build, Sem.run_bind, hz w, Result.andThen_ok, run_underlying hT, hp w, hl, hfill, Sem.run_pure]
theorem w_bytes {x : Str} (hM : Mem C w own shr) (hx : ev L X = some (vS x)) (hT : P.underlying T = some .string) (hU : P.underlying U = some (.slice E)) (hE : P.underlying E = some (.int .u8)) (hl : x.length ≤ maxLen)
    (kk : ∀ A c w', Ext w w' → Mem C w' (.row byteRep A c E x false :: own) shr → Kv (vL A x c) w') : Wv P ⟨dst, .convert T U X, ty, pos, aft, g⟩ a w Kv := by
  have hcap := grownCap_ge w x.length 0 E
  have hcm : grownCap w x.length 0 E ≤ maxLen := grownCap_le_maxLen w x.length 0 E hl
  have hrun := run_bytes_of_string (P := P) w T U E ⟨x.toArray⟩ hT hU hE
  rw [size_mk] at hrun
  generalize grownCap w x.length 0 E = c at hcap hcm hrun
  have hcs : (bytesRow ⟨x.toArray⟩ c).size = c := by simp [bytesRow, size_mk]; omega
  rw [hcs] at hrun
  have htl : (bytesRow ⟨x.toArray⟩ c).toList = (x.map fun b => Value.int .u8 (b.toNat : Int)) ++ List.replicate (c - x.length) (.int .u8 0) := by simp [bytesRow, size_mk]
  generalize bytesRow ⟨x.toArray⟩ c = cells at hcs htl hrun
  have hrows : RowsOf byteRep w (Sh C own w) x (x.map fun b => [vB b]) := ⟨by simp, fun i y hy => ⟨[vB y], by simp [hy], rfl⟩⟩
  have hflat : ∀ x : Str, (x.map fun b => [vB b]).flatten = x.map fun b => Value.int .u8 (b.toNat : Int) := by
    intro x
    induction x with
    | nil => rfl
    | cons y ys ih => simp only [List.map_cons, List.flatten_cons, ih]; rfl
  obtain ⟨h1, h2⟩ := hM.newRow (E := E) (K := byteRep) (cur := cells) (fr := (c, c + 1)) (c := c) (app := false) hrows (w.drew.alloc (.cells cells E (c, c + 1))) rfl rfl rfl (by simp) (fun b hb => Below.heap_alloc w.drew _ b hb) (heap_alloc_new w.drew _) hcap hcm (by rw [hcs]; exact (Nat.mul_one c).symm)
    (by rw [hflat, show byteRep.size = 1 from rfl, Nat.mul_one, htl]; simp) (.inr ⟨rfl, by rw [hcs]; exact Nat.le_refl _⟩)
  refine Wv.of_run (w' := w.drew.alloc (.cells cells E (c, c + 1))) (v := .slice (some ⟨w.heap.size, 0, none⟩) x.length c) ?_ (kk _ _ _ h2 h1)
  simp only [execOp, Sem.run_bind, hf.ev hx, hrun, Result.andThen_ok, Sem.run_pure]
end
end
end Go.Proofs.YtccoeheoifbpcaaGreatDoor
