/- errors.Is at this seat's sentinels: lines of the kit's worked proof SentryIs, turned to this seat (numbers of r4.ZD). -/
import Derived.Test.YtdaoecpkgobelaaGreatDoorEngY
import Derived.Test.YtdaoecpkgobelaaGreatDoorEngM
import Derived.WalkKit
import Derived.LaidEql
import Derived.Stop.Asserts
import Derived.RowKitTokens
namespace Go.Proofs.YtdaoecpkgobelaaGreatDoor
open Go Go.RowKit Go.Extern.Stop Go.Stop Go.Extern
set_option maxRecDepth 100000
/-! ### CLOSED FACTS: what 'reflectlite.TypeOf(target).Comparable()' gives at such a target -/
theorem eI_isTypeOf (v : Value) (w : World) : (Extern.ReflectliteType.typeOf #[.iface 236 v]).run Tryz.prog w = .ok (.iface 195 (.agg #[.pointer (some ⟨11, 236, none⟩)])) w := by kernel_rfl
def eI_comp : Array Value → Sem Value := Extern.ReflectliteType.method fun t => do Extern.Rtype.noPackHeld "Comparable" t; pure (.bool (← typeInfo t).comparable)
theorem eI_isComparable (w : World) : (eI_comp #[.agg #[.pointer (some ⟨11, 236, none⟩)]]).run Tryz.prog w = .ok (.bool true) w := by kernel_rfl
theorem eI_isMethodComparable (v : Value) (w : World) : (Go.method 371 195 v "Comparable").run Tryz.prog w = .ok (197, v) w := by kernel_rfl
theorem eI_isComp : (Tryz.prog.info? 236).map (·.comparable) = some true := by kernel_rfl
theorem eI_isSize : (Tryz.prog.info? 238).map (·.size) = some 1 := by kernel_rfl
/-! ### CLOSED FACTS ON THE METHOD SETS: what errors.is's assertions find -/
theorem eI_noIsE (v : Value) (xT : TypeId) (w : World) : (Instr.typeAssert (.iface 236 v) xT 197 true).run Tryz.prog w = .ok (.tuple #[.nilIface, .bool false]) w := run_typeAssert_lacksB Tryz.underlying197 (by kernel_rfl) (by kernel_rfl) v xT w
theorem eI_noUnwrapE (v : Value) (xT : TypeId) (w : World) : (Instr.typeAssert (.iface 236 v) xT 200 true).run Tryz.prog w = .ok (.tuple #[.nilIface, .bool false]) w := run_typeAssert_lacksB Tryz.underlying200 (by kernel_rfl) (by kernel_rfl) v xT w
theorem eI_noUnwrapsE (v : Value) (xT : TypeId) (w : World) : (Instr.typeAssert (.iface 236 v) xT 202 true).run Tryz.prog w = .ok (.tuple #[.nilIface, .bool false]) w := run_typeAssert_lacksB Tryz.underlying202 (by kernel_rfl) (by kernel_rfl) v xT w
theorem is_same (a : Addr) (w : World) :
    Calls Tryz.prog 86 #[.iface 236 (.pointer (some a)), .iface 236 (.pointer (some a))] w fun e w' => e = .returned (.bool true) ∧ w' = w := by
  obtain ⟨i, hi, hcmp⟩ := Option.map_eq_some_iff.1 eI_isComp
  obtain ⟨j, hj, hjs⟩ := Option.map_eq_some_iff.1 eI_isSize
  have h8 := @run_callFunc_extern Tryz.prog 115 _ Extern.ReflectliteType.typeOf Tryz.func115 (by kernel_rfl) (by kernel_rfl) (by kernel_rfl) (by kernel_rfl)
  have h32 := @run_callFunc_extern Tryz.prog 197 _ eI_comp Tryz.func197 (by kernel_rfl) (by kernel_rfl) (by kernel_rfl) (by kernel_rfl)
  have tT := eI_isTypeOf
  have cT := eI_isComparable
  have mR := eI_isMethodComparable
  have heq := run_eql_iface_ptr_same (P := Tryz.prog) w a Tryz.underlying71 Tryz.underlying236 hi hcmp hj
  go_enter Tryz.func86, Tryz.ntmps86
  go_wp2
  refine wp_loop_rounds 1 ?_
  rw [rounds_succ]
  go_wp2
  go_ret
  exact ⟨rfl, rfl⟩
theorem is_other (a b : Addr) (ca cb : Array Value) (ta tb : TypeId) (w : World) (hne : a ≠ b) (ha : w.heap[a.block]? = some (.cells ca ta (0, 0))) (hb : w.heap[b.block]? = some (.cells cb tb (0, 0))) :
    Calls Tryz.prog 86 #[.iface 236 (.pointer (some a)), .iface 236 (.pointer (some b))] w fun e w' => e = .returned (.bool false) ∧ w' = w := by
  obtain ⟨i, hi, hcmp⟩ := Option.map_eq_some_iff.1 eI_isComp
  obtain ⟨j, hj, hjs⟩ := Option.map_eq_some_iff.1 eI_isSize
  have h8 := @run_callFunc_extern Tryz.prog 115 _ Extern.ReflectliteType.typeOf Tryz.func115 (by kernel_rfl) (by kernel_rfl) (by kernel_rfl) (by kernel_rfl)
  have h32 := @run_callFunc_extern Tryz.prog 197 _ eI_comp Tryz.func197 (by kernel_rfl) (by kernel_rfl) (by kernel_rfl) (by kernel_rfl)
  have tT := eI_isTypeOf
  have cT := eI_isComparable
  have mR := eI_isMethodComparable
  have nE := eI_noIsE
  have uE := eI_noUnwrapE
  have vE := eI_noUnwrapsE
  have heq := run_eql_iface_ptr_other (P := Tryz.prog) w Tryz.underlying71 Tryz.underlying236 hi hcmp hj (by rw [hjs]; decide) hne ha hb
  go_enter Tryz.func86, Tryz.ntmps86
  go_wp2
  refine wp_loop_rounds 1 ?_
  rw [rounds_succ]
  go_wp2
  go_ret
  exact ⟨rfl, rfl⟩
/-! ### The program's errors by their codes: 0 none, 7 no form, 4 accepted, 3 missing -/
theorem varV_cell {P : Program} {n : String} {g : Nat} {v : Value} {w : World} (hg : P.globalNamed n = some g) (h : w.var? P n = some #[v]) : w.cell? ⟨g, 0, none⟩ = some v := by
  unfold World.var? at h
  rw [hg, Option.bind_some] at h
  cases hb : w.heap[g]? with
  | none => rw [hb] at h; cases h
  | some x =>
    rw [hb] at h
    cases x with
    | cells cs t fr =>
      have e : cs = #[v] := Option.some.inj h
      rw [cell_of_row w g 0 cs t fr hb, e]
      rfl
    | _ => cases h
theorem gOf {P : Program} {G : Nat → Prop} {w : World} {n : String} {g : Nat} (hg : P.globalNamed n = some g) (h : ∀ w' : World, (∀ b, G b → w'.heap[b]? = w.heap[b]?) → ∃ v, w'.var? P n = some #[v]) : G g := by
  refine Classical.byContradiction fun hn => ?_
  obtain ⟨v, hv⟩ := h { w with heap := w.heap.setIfInBounds g (.cells #[] 0 (0, 0)) } (fun b hb => by
    have hne : g ≠ b := fun e => hn (e ▸ hb)
    show (w.heap.setIfInBounds g _)[b]? = _
    rw [Array.getElem?_setIfInBounds_ne hne])
  unfold World.var? at hv
  rw [hg, Option.bind_some] at hv
  by_cases hlt : g < w.heap.size
  · simp [hlt] at hv
  · simp [hlt] at hv
theorem Tabs.gErr {G : Nat → Prop} {w : World} (h : Tabs G w) : G 1 ∧ G 2 ∧ G 0 :=
  ⟨gOf gErr0 fun w' hs => by obtain ⟨_, _, _, _, _, _, _, _, _, v0, v1, v2, _⟩ := (h.same hs).errs; exact ⟨_, v0⟩,
   gOf gErr1 fun w' hs => by obtain ⟨_, _, _, _, _, _, _, _, _, v0, v1, v2, _⟩ := (h.same hs).errs; exact ⟨_, v1⟩,
   gOf gErr2 fun w' hs => by obtain ⟨_, _, _, _, _, _, _, _, _, v0, v1, v2, _⟩ := (h.same hs).errs; exact ⟨_, v2⟩⟩
def ErrC (w : World) (p : Value) (n : Int) : Prop := (n = 0 ∧ p = .nilIface) ∨ (n = 7 ∧ w.cell? ⟨1, 0, none⟩ = some p) ∨ (n = 4 ∧ w.cell? ⟨2, 0, none⟩ = some p) ∨ (n = 3 ∧ w.cell? ⟨0, 0, none⟩ = some p)
theorem ErrC.nil_ {w : World} : ErrC w .nilIface 0 := .inl ⟨rfl, rfl⟩
theorem ErrC.keep {w w' : World} {p : Value} {n : Int} (h : ErrC w p n) (h1 : w'.heap[1]? = w.heap[1]?) (h2 : w'.heap[2]? = w.heap[2]?) (h0 : w'.heap[0]? = w.heap[0]?) : ErrC w' p n := by
  rcases h with h | ⟨e, h⟩ | ⟨e, h⟩ | ⟨e, h⟩
  · exact .inl h
  · exact .inr (.inl ⟨e, (World.cell?_of_block (a := ⟨1, 0, none⟩) h1).trans h⟩)
  · exact .inr (.inr (.inl ⟨e, (World.cell?_of_block (a := ⟨2, 0, none⟩) h2).trans h⟩))
  · exact .inr (.inr (.inr ⟨e, (World.cell?_of_block (a := ⟨0, 0, none⟩) h0).trans h⟩))
section
variable {C : Cx} {w : World} {own : List Own} {shr : List Shr} {p : Value} {n : Int}
theorem Mem.gSame (hM : Mem C w own shr) : w.heap[1]? = C.w0.heap[1]? ∧ w.heap[2]? = C.w0.heap[2]? ∧ w.heap[0]? = C.w0.heap[0]? := by
  obtain ⟨h1, h2, h0⟩ := C.gT.gErr
  exact ⟨hM.chg.block 1 (C.g0 _ h1) (C.gM _ h1), hM.chg.block 2 (C.g0 _ h2) (C.gM _ h2), hM.chg.block 0 (C.g0 _ h0) (C.gM _ h0)⟩
theorem Mem.errIn (hM : Mem C w own shr) (h : ErrC C.w0 p n) : ErrC w p n := h.keep hM.gSame.1 hM.gSame.2.1 hM.gSame.2.2
theorem Mem.errOut (hM : Mem C w own shr) (h : ErrC w p n) : ErrC C.w0 p n := h.keep hM.gSame.1.symm hM.gSame.2.1.symm hM.gSame.2.2.symm
theorem Mem.err7 (hM : Mem C w own shr) : ∃ p, ErrC C.w0 p 7 ∧ w.cell? ⟨1, 0, none⟩ = some p := by
  obtain ⟨a0, a1, a2, c0, c1, c2, t0, t1, t2, v0, v1, v2, _⟩ := hM.tabs.errs
  have h := varV_cell gErr0 v0
  exact ⟨_, hM.errOut (.inr (.inl ⟨rfl, h⟩)), h⟩
theorem Mem.err4 (hM : Mem C w own shr) : ∃ p, ErrC C.w0 p 4 ∧ w.cell? ⟨2, 0, none⟩ = some p := by
  obtain ⟨a0, a1, a2, c0, c1, c2, t0, t1, t2, v0, v1, v2, _⟩ := hM.tabs.errs
  have h := varV_cell gErr1 v1
  exact ⟨_, hM.errOut (.inr (.inr (.inl ⟨rfl, h⟩))), h⟩
theorem Mem.err3 (hM : Mem C w own shr) : ∃ p, ErrC C.w0 p 3 ∧ w.cell? ⟨0, 0, none⟩ = some p := by
  obtain ⟨a0, a1, a2, c0, c1, c2, t0, t1, t2, v0, v1, v2, _⟩ := hM.tabs.errs
  have h := varV_cell gErr2 v2
  exact ⟨_, hM.errOut (.inr (.inr (.inr ⟨rfl, h⟩))), h⟩
theorem ErrC.ok (hT : Tabs C.G C.w0) (h : ErrC C.w0 p n) : ErrOk p (n != 0) := by
  obtain ⟨a0, a1, a2, c0, c1, c2, t0, t1, t2, v0, v1, v2, _⟩ := hT.errs
  have k0 := varV_cell gErr0 v0
  have k1 := varV_cell gErr1 v1
  have k2 := varV_cell gErr2 v2
  rcases h with ⟨rfl, rfl⟩ | ⟨rfl, h⟩ | ⟨rfl, h⟩ | ⟨rfl, h⟩
  · exact ErrOk.nil_
  · obtain rfl := Option.some.inj (k0.symm.trans h)
    exact ErrOk.some_ _ _
  · obtain rfl := Option.some.inj (k1.symm.trans h)
    exact ErrOk.some_ _ _
  · obtain rfl := Option.some.inj (k2.symm.trans h)
    exact ErrOk.some_ _ _
end
section
variable {P : Program} {S : World → Prop} {N : Nat} {a : Act} {L : List (Nat × Value)} {dst : Option Tmp} {ty T U E : TypeId} {pos : String} {aft : Array Edge} {g : Option (Nat × Bool)} {X Y Z : Operand}
theorem e_eqErr (hf : Has N a L) {v : Value} {b : Bool} {ms : Array (String × TypeId)} (hx : ev L X = some v) (hy : Y = .const .nilIface) (hT : P.underlying T = some (.interface ms)) (hv : ErrOk v b) : Yd P S a ⟨dst, .binOp .eql T X Y U, ty, pos, aft, g⟩ (.bool (!b)) := by
  intro w _
  subst hy
  have hy : ev L (.const .nilIface) = some .nilIface := rfl
  cases b with
  | false =>
    obtain rfl := hv.1 rfl
    have h : ∀ d : Nat, (Op.equalIn (d + 1) T .nilIface .nilIface).run P w = .ok true w := fun d => by
      simp [Op.equalIn, run_underlying hT]
    have h2 : (binOp .eql T .nilIface .nilIface).run P w = .ok (.bool true) w := by
      simp only [binOp]
      simp [Op.equal, Op.maxDepth, h 9999]
    simp [execOp, hf.ev hx, hf.ev hy, eqGuard, h2]
  | true =>
    obtain ⟨T0, q, rfl⟩ := hv.2 rfl
    have h : ∀ d : Nat, (Op.equalIn (d + 1) T (.iface T0 q) .nilIface).run P w = .ok false w := fun d => by
      simp [Op.equalIn, run_underlying hT]
    have h2 : (binOp .eql T (.iface T0 q) .nilIface).run P w = .ok (.bool false) w := by
      simp only [binOp]
      simp [Op.equal, Op.maxDepth, h 9999]
    simp [execOp, hf.ev hx, hf.ev hy, eqGuard, h2]
end
theorem r_errors_Is (C : Cx) (e1 : Int) (p1 : Value) (h1 : ErrC C.w0 p1 e1) (e2 : Int) (p2 : Value) (h2 : ErrC C.w0 p2 e2) (r : Bool) (h : m_errors_Is e1 e2 = some r) :
    Calls Tryz.prog 86 #[p1, p2] C.w0 fun e w => e = .returned (.bool (r)) ∧ Mem C w [] [] := by
  obtain ⟨a0, a1, a2, c0, c1, c2, t0, t1, t2, v0, v1, v2, b0, b1, b2, n1, n2, n3⟩ := C.gT.errs
  have k0 := varV_cell gErr0 v0
  have k1 := varV_cell gErr1 v1
  have k2 := varV_cell gErr2 v2
  have hM : Mem C C.w0 [] [] := Mem.start C (fun y hy => by simp at hy)
  have same : ∀ a : Addr, Calls Tryz.prog 86 #[.iface 236 (.pointer (some a)), .iface 236 (.pointer (some a))] C.w0 fun e w => e = .returned (.bool true) ∧ Mem C w [] [] := fun a => (is_same a C.w0).mono fun e w ⟨q1, q2⟩ => ⟨q1, by rw [q2]; exact hM⟩
  have other : ∀ (a b : Addr) (ca cb : Array Value) (ta tb : TypeId), a ≠ b → C.w0.heap[a.block]? = some (.cells ca ta (0, 0)) → C.w0.heap[b.block]? = some (.cells cb tb (0, 0)) → Calls Tryz.prog 86 #[.iface 236 (.pointer (some a)), .iface 236 (.pointer (some b))] C.w0 fun e w => e = .returned (.bool false) ∧ Mem C w [] [] := fun a b ca cb ta tb hne ha hb => (is_other a b ca cb ta tb C.w0 hne ha hb).mono fun e w ⟨q1, q2⟩ => ⟨q1, by rw [q2]; exact hM⟩
  have nil1 : ∀ b, m_errors_Is 0 b = none := fun b => rfl
  rcases h1 with ⟨rfl, rfl⟩ | ⟨rfl, h1⟩ | ⟨rfl, h1⟩ | ⟨rfl, h1⟩
  · rw [nil1] at h; cases h
  · obtain rfl := Option.some.inj (k0.symm.trans h1)
    rcases h2 with ⟨rfl, rfl⟩ | ⟨rfl, h2⟩ | ⟨rfl, h2⟩ | ⟨rfl, h2⟩
    · rw [show m_errors_Is 7 0 = none from rfl] at h; cases h
    · obtain rfl := Option.some.inj (k0.symm.trans h2)
      obtain rfl : r = true := Option.some.inj (h.symm.trans (show m_errors_Is 7 7 = some true from rfl))
      exact same a0
    · obtain rfl := Option.some.inj (k1.symm.trans h2)
      obtain rfl : r = false := Option.some.inj (h.symm.trans (show m_errors_Is 7 4 = some false from rfl))
      exact other a0 a1 _ _ _ _ n1 b0 b1
    · obtain rfl := Option.some.inj (k2.symm.trans h2)
      obtain rfl : r = false := Option.some.inj (h.symm.trans (show m_errors_Is 7 3 = some false from rfl))
      exact other a0 a2 _ _ _ _ n3 b0 b2
  · obtain rfl := Option.some.inj (k1.symm.trans h1)
    rcases h2 with ⟨rfl, rfl⟩ | ⟨rfl, h2⟩ | ⟨rfl, h2⟩ | ⟨rfl, h2⟩
    · rw [show m_errors_Is 4 0 = none from rfl] at h; cases h
    · obtain rfl := Option.some.inj (k0.symm.trans h2)
      obtain rfl : r = false := Option.some.inj (h.symm.trans (show m_errors_Is 4 7 = some false from rfl))
      exact other a1 a0 _ _ _ _ n1.symm b1 b0
    · obtain rfl := Option.some.inj (k1.symm.trans h2)
      obtain rfl : r = true := Option.some.inj (h.symm.trans (show m_errors_Is 4 4 = some true from rfl))
      exact same a1
    · obtain rfl := Option.some.inj (k2.symm.trans h2)
      obtain rfl : r = false := Option.some.inj (h.symm.trans (show m_errors_Is 4 3 = some false from rfl))
      exact other a1 a2 _ _ _ _ n2 b1 b2
  · obtain rfl := Option.some.inj (k2.symm.trans h1)
    rcases h2 with ⟨rfl, rfl⟩ | ⟨rfl, h2⟩ | ⟨rfl, h2⟩ | ⟨rfl, h2⟩
    · rw [show m_errors_Is 3 0 = none from rfl] at h; cases h
    · obtain rfl := Option.some.inj (k0.symm.trans h2)
      obtain rfl : r = false := Option.some.inj (h.symm.trans (show m_errors_Is 3 7 = some false from rfl))
      exact other a2 a0 _ _ _ _ n3.symm b2 b0
    · obtain rfl := Option.some.inj (k1.symm.trans h2)
      obtain rfl : r = false := Option.some.inj (h.symm.trans (show m_errors_Is 3 4 = some false from rfl))
      exact other a2 a1 _ _ _ _ n2.symm b2 b1
    · obtain rfl := Option.some.inj (k2.symm.trans h2)
      obtain rfl : r = true := Option.some.inj (h.symm.trans (show m_errors_Is 3 3 = some true from rfl))
      exact same a2
end Go.Proofs.YtdaoecpkgobelaaGreatDoor
