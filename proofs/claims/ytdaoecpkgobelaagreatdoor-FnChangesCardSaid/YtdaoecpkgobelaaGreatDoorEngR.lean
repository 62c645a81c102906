/- The engine, part R: maps that the call makes, as lists of entries. -/
import Derived.Test.YtdaoecpkgobelaaGreatDoorEngO
import Derived.MapKept
import Derived.ChangeMaps4
import Derived.Carry
import Derived.Scope
namespace Go.Proofs.YtdaoecpkgobelaaGreatDoor
open Go Go.RowKit
set_option linter.unusedSimpArgs false
set_option linter.unusedVariables false
section
variable {α β : Type} [DecidableEq α]
def getM : List (α × β) → α → Option β
  | [], _ => none
  | e :: M, k => bif k == e.1 then some e.2 else getM M k
def putM : List (α × β) → α → β → List (α × β)
  | [], k, v => [(k, v)]
  | e :: M, k, v => bif k == e.1 then (e.1, v) :: M else e :: putM M k v
def posM : List (α × β) → α → Nat
  | [], _ => 0
  | e :: M, k => bif k == e.1 then 0 else posM M k + 1
theorem putM_new : ∀ {M : List (α × β)} {k : α} {v : β}, getM M k = none → putM M k v = M ++ [(k, v)]
  | [], _, _, _ => rfl
  | e :: M, k, v, h => by
    rw [getM] at h
    rw [putM]
    cases hb : k == e.1 with
    | true => rw [hb] at h; cases h
    | false => rw [hb] at h; show e :: putM M k v = _; rw [putM_new h]; rfl
theorem putM_len : ∀ {M : List (α × β)} {k : α} {v u : β}, getM M k = some u → (putM M k v).length = M.length
  | [], _, _, _, h => by cases h
  | e :: M, k, v, u, h => by
    rw [getM] at h
    rw [putM]
    cases hb : k == e.1 with
    | true => rfl
    | false => rw [hb] at h; show (putM M k v).length + 1 = _; rw [putM_len h]; rfl
end
def entsO {α β : Type} (fk : α → Value) (fv : β → Value) : Nat → List (α × β) → List MapEntry
  | _, [] => []
  | i, e :: M => ⟨fk e.1, fv e.2, i⟩ :: entsO fk fv (i + 1) M
def mapO {α β : Type} (fk : α → Value) (fv : β → Value) (M : List (α × β)) : Obj := .map (entsO fk fv 0 M).toArray M.length
abbrev vM (b : Nat) : Value := .map (some b)
abbrev fS (s : Str) : Value := vS s
abbrev fI (x : Int) : Value := vI x
abbrev fT (x : Bool) : Value := .bool x
def KeyOk {α : Type} (P : Program) (kt : TypeId) (fk : α → Value) : Prop := ∃ d, P.underlying kt = some d ∧ (∀ x, MapKept.IsKey d (fk x)) ∧ (∀ x y, fk x = fk y → x = y) ∧ ∀ x, Instr.sameBits 10000 (fk x) (fk x) = true
theorem keyS {P : Program} {kt : TypeId} (h : P.underlying kt = some .string) : KeyOk P kt fS := by
  refine ⟨_, h, fun _ => trivial, fun x y e => ?_, fun x => ?_⟩
  · have e1 := congrArg (fun v => match v with | Value.string s => s.data.toList | _ => []) e
    simpa using e1
  · simp only [Instr.sameBits]
    exact (MapKept.bytes_beq _ _).2 rfl
theorem keyI {P : Program} {kt : TypeId} (h : P.underlying kt = some (.int .i64)) : KeyOk P kt fI := by
  refine ⟨_, h, fun _ => rfl, fun x y e => ?_, fun x => ?_⟩
  · have e1 := congrArg (fun v => match v with | Value.int _ s => s | _ => 0) e
    simpa using e1
  · simp [Instr.sameBits]
section
variable {α β : Type} [DecidableEq α] {fk : α → Value} {fv : β → Value}
omit [DecidableEq α] in
theorem entsO_append : ∀ (M M' : List (α × β)) (i : Nat), entsO fk fv i (M ++ M') = entsO fk fv i M ++ entsO fk fv (i + M.length) M'
  | [], _, _ => rfl
  | e :: M, M', i => by
    show (⟨fk e.1, fv e.2, i⟩ : MapEntry) :: entsO fk fv (i + 1) (M ++ M') = _
    rw [entsO_append M M' (i + 1)]
    have : i + 1 + M.length = i + (e :: M).length := by simp only [List.length_cons]; omega
    rw [this]; rfl
theorem find_ents {d : TypeDesc} (hk : ∀ x, MapKept.IsKey d (fk x)) (hi : ∀ x y, fk x = fk y → x = y) (k : α) : ∀ (M : List (α × β)) (i j : Nat),
    Instr.findNow d (fk k) (entsO fk fv i M) j = some ((getM M k).map fun v => (j + posM M k, fv v))
  | [], _, _ => rfl
  | e :: M, i, j => by
    obtain ⟨r, hr, hiff⟩ := MapKept.sameNow_of_keys (hk k) (hk e.1)
    have hb : (k == e.1) = r := by
      rw [Bool.eq_iff_iff, beq_iff_eq, hiff]
      exact ⟨fun h => by rw [h], fun h => hi _ _ h⟩
    have ih := find_ents hk hi k M (i + 1) (j + 1)
    simp only [entsO, Instr.findNow, hr, getM, posM, hb]
    cases r with
    | true => simp
    | false =>
      simp only [cond_false]
      rw [ih]
      cases getM M k with
      | none => rfl
      | some v => simp; omega
theorem ents_put : ∀ {M : List (α × β)} {k : α} {v u : β} {i : Nat}, getM M k = some u →
    (entsO fk fv i M).modify (posM M k) (fun e => { e with key := fk k, val := fv v }) = entsO fk fv i (putM M k v)
  | [], _, _, _, _, h => by cases h
  | e :: M, k, v, u, i, h => by
    rw [getM] at h
    simp only [posM, putM, entsO]
    cases hb : k == e.1 with
    | true =>
      have : k = e.1 := by simpa using hb
      subst this
      simp [entsO]
    | false =>
      rw [hb] at h
      simp only [cond_false, entsO, List.modify_succ_cons]
      rw [ents_put h]
theorem ents_key : ∀ {M : List (α × β)} {k : α} {u : β} {i : Nat}, getM M k = some u → ((entsO fk fv i M)[posM M k]?).map (·.key) = some (fk k)
  | [], _, _, _, h => by cases h
  | e :: M, k, u, i, h => by
    rw [getM] at h
    rw [posM]
    cases hb : k == e.1 with
    | true =>
      have : k = e.1 := by simpa using hb
      subst this
      rfl
    | false =>
      rw [hb] at h
      simp only [cond_false, entsO, List.getElem?_cons_succ]
      exact ents_key h
variable {P : Program} {w : World} {t kt et : TypeId} {b : Nat} {M : List (α × β)}
theorem run_lookupM (K : KeyOk P kt fk) (ht : P.underlying t = some (.map kt et)) (hb : w.heap[b]? = some (mapO fk fv M)) (k : α) {z : β} (hz : ∀ w, (zeroValue et).run P w = .ok (fv z) w) (ok : Bool) :
    (Instr.lookup t (vM b) (fk k) ok).run P w = .ok (if ok then .tuple #[fv ((getM M k).getD z), .bool (getM M k).isSome] else fv ((getM M k).getD z)) w := by
  obtain ⟨d, hd, hk, hi, _⟩ := K
  have h1 := MapKept.run_getObj_map (P := P) hb
  have h2 := MapKept.run_findKey (P := P) (w := w) hd (find_ents (fv := fv) hk hi k M 0 0)
  have h3 : ∀ e, (Instr.checkKey e 10000 kt (fk k)).run P w = .ok () w := fun e => MapKept.run_checkKey hd (hk k) e 9999
  unfold Instr.lookup
  simp only [Sem.run_bind, run_underlying ht, Result.andThen, Sem.run_pure, h1, h3]
  rw [h2]
  cases hg : getM M k with
  | none => simp [hz w, Result.andThen]
  | some v => simp [Result.andThen]
theorem run_updateM (K : KeyOk P kt fk) (ht : P.underlying t = some (.map kt et)) (hb : w.heap[b]? = some (mapO fk fv M)) (k : α) (v : β) :
    (Instr.mapUpdate t (vM b) (fk k) (fv v)).run P w = .ok () { w with heap := w.heap.setIfInBounds b (mapO fk fv (putM M k v)) } := by
  obtain ⟨d, hd, hk, hi, hs⟩ := K
  have h1 := MapKept.run_getObj_map (P := P) hb
  have h2 := MapKept.run_findKey (P := P) (w := w) hd (find_ents (fv := fv) hk hi k M 0 0)
  have h3 : ∀ e, (Instr.checkKey e 10000 kt (fk k)).run P w = .ok () w := fun e => MapKept.run_checkKey hd (hk k) e 9999
  unfold Instr.mapUpdate
  simp only [Sem.run_bind, run_underlying ht, Result.andThen, Sem.run_pure, h1, h3]
  rw [h2]
  cases hg : getM M k with
  | none =>
    simp only [Option.map_none, Result.andThen]
    have := MapKept.run_setObj_map (P := P) (.map ((entsO fk fv 0 M).toArray.push ⟨fk k, fv v, M.length⟩) (M.length + 1)) hb
    rw [this, putM_new hg]
    simp only [mapO, entsO_append, Nat.zero_add, entsO, List.length_append, List.length_cons, List.length_nil]
    congr 4
    simp
  | some u =>
    simp only [Option.map_some, Result.andThen, Nat.zero_add, Instr.keyThatStays]
    have e1 := ents_key (fk := fk) (fv := fv) (i := 0) hg
    have e2 : (((entsO fk fv 0 M).toArray[posM M k]?).map (·.key)).getD (fk k) = fk k := by
      rw [List.getElem?_toArray, e1]; rfl
    rw [e2, hs k]
    simp only [if_true, Sem.run_bind, Sem.run_pure, Result.andThen]
    have := MapKept.run_setObj_map (P := P) (.map ((entsO fk fv 0 M).toArray.modify (posM M k) fun e => { e with key := fk k, val := fv v }) M.length) hb
    rw [this]
    have e3 : (entsO fk fv 0 M).toArray.modify (posM M k) (fun e => { e with key := fk k, val := fv v }) = (entsO fk fv 0 (putM M k v)).toArray := by
      rw [List.modify_toArray, ents_put hg]
    rw [e3, mapO, putM_len hg]
end
section
variable {α β : Type} [DecidableEq α] {fk : α → Value} {fv : β → Value} {P : Program} {S : World → Prop} {N : Nat} {a : Act} {L : List (Nat × Value)} {dst : Option Tmp} {ty T U E kt et : TypeId} {pos : String} {aft : Array Edge} {g : Option (Nat × Bool)} {X Y Z : Operand} {C : Cx} {w : World} {own : List Own} {shr : List Shr} {Kv : Value → World → Prop} {b : Nat} {M : List (α × β)}
omit [DecidableEq α] in
theorem w_makeMap (fk : α → Value) (fv : β → Value) (hM : Mem C w own shr)
    (kk : ∀ b w', Ext w w' → Mem C w' (.obj b (mapO fk fv []) :: own) shr → Kv (vM b) w') : Wv P ⟨dst, .makeMap T none, ty, pos, aft, g⟩ a w Kv := by
  obtain ⟨h1, h2⟩ := hM.allocO (mapO fk fv [])
  refine Wv.of_run (w' := w.alloc (mapO fk fv [])) (v := vM w.heap.size) ?_ (kk _ _ h2 h1)
  have := run_makeMap (P := P) T w
  simp only [execOp, Option.map_none, Sem.run_bind, this, Result.andThen, Sem.run_pure]
  rfl
theorem e_lookupOk (hf : Has N a L) (K : KeyOk P kt fk) (hT : P.underlying T = some (.map kt et)) {k : α} {z : β} (hx : ev L X = some (vM b)) (hy : ev L Y = some (fk k)) (hz : ∀ w, (zeroValue et).run P w = .ok (fv z) w) (hb : w.heap[b]? = some (mapO fk fv M)) :
    Yd P (Ext w) a ⟨dst, .lookup T X Y true, ty, pos, aft, g⟩ (.tuple #[fv ((getM M k).getD z), .bool (getM M k).isSome]) := by
  intro x hS
  have := run_lookupM (P := P) (w := x) K hT ((hS b (Array.getElem?_eq_some_iff.1 hb).1).trans hb) k hz true
  simp only [execOp, hf.ev hx, hf.ev hy, Sem.run_bind, this, Result.andThen, Sem.run_pure]
  rfl
theorem e_lookup (hf : Has N a L) (K : KeyOk P kt fk) (hT : P.underlying T = some (.map kt et)) {k : α} {z : β} (hx : ev L X = some (vM b)) (hy : ev L Y = some (fk k)) (hz : ∀ w, (zeroValue et).run P w = .ok (fv z) w) (hb : w.heap[b]? = some (mapO fk fv M)) :
    Yd P (Ext w) a ⟨dst, .lookup T X Y false, ty, pos, aft, g⟩ (fv ((getM M k).getD z)) := by
  intro x hS
  have := run_lookupM (P := P) (w := x) K hT ((hS b (Array.getElem?_eq_some_iff.1 hb).1).trans hb) k hz false
  simp only [execOp, hf.ev hx, hf.ev hy, Sem.run_bind, this, Result.andThen, Sem.run_pure]
  rfl
theorem w_mapUpdate (hf : Has N a L) (hM : Mem C w own shr) (K : KeyOk P kt fk) (hT : P.underlying T = some (.map kt et)) {k : α} {v : β} (hx : ev L X = some (vM b)) (hy : ev L Y = some (fk k)) (hv : ev L Z = some (fv v)) {n : Nat} (hb : own[n]? = some (.obj b (mapO fk fv M)))
    (kk : ∀ w', Mem C w' (own.set n (.obj b (mapO fk fv (putM M k v)))) shr → Kv undef w') : Wv P ⟨dst, .mapUpdate T X Y Z, ty, pos, aft, g⟩ a w Kv := by
  have hg : w.heap[b]? = some (mapO fk fv M) := hM.ownAt hb
  have hr := run_updateM (P := P) K hT hg k v
  have hlt : b < w.heap.size := (Array.getElem?_eq_some_iff.1 hg).1
  refine Wv.of_skip (w' := { w with heap := w.heap.setIfInBounds b (mapO fk fv (putM M k v)) }) ?_ (kk _ ?_)
  · simp only [execOp, hf.ev hx, hf.ev hy, hf.ev hv, Sem.run_bind, hr, Result.andThen, Sem.run_pure]
  · refine hM.change hb _ rfl rfl rfl (by simp) (fun b' _ hb' => (MapKept.heap_set hg).2 b' fun e => hb' (by rw [e]; rfl)) (fun b' hb' => .inl hb') fun S _ => ?_
    exact (MapKept.heap_set hg).1
end
/-! ### A map that is only read -/
def mapRep {α β : Type} (fk : α → Value) (fv : β → Value) : Rep (List (α × β)) where
  size := 1
  R := fun w S M row => ∃ b _o : Nat, row = [vM b] ∧ S b ∧ w.heap[b]? = some (mapO fk fv M)
  len := fun ⟨_, _, h, _⟩ => by rw [h]; rfl
  one := fun ⟨_, _, h, _⟩ u hu => by rw [h, List.mem_singleton] at hu; subst hu; rfl
  same := fun ⟨b, o, h, hb, hg⟩ hs => ⟨b, o, h, hb, (hs b hb).trans hg⟩
  mono := fun ⟨b, o, h, hb, hg⟩ hT => ⟨b, o, h, hT b hb, hg⟩
theorem ptr_form {α : Type} {K : Rep α} {w : World} {S : Nat → Prop} {x : α} {row : List Value} (h : (ptrRep K).R w S x row) : ∃ b o, row = [vP b o] ∧ (ptrRep K).R w S x [vP b o] := by
  obtain ⟨b, o, r, rfl, h⟩ := h
  exact ⟨b, o, rfl, b, o, r, rfl, h⟩
def MapR {α : Type} (M : List (α × Int)) : Prop := ∀ e ∈ M, R64 e.2
theorem MapR.nil {α : Type} : MapR ([] : List (α × Int)) := fun e h => by cases h
theorem MapR.put {α : Type} [DecidableEq α] : ∀ {M : List (α × Int)} {k : α} {v : Int}, MapR M → R64 v → MapR (putM M k v)
  | [], k, v, _, hv => fun e he => by rw [putM, List.mem_singleton] at he; subst he; exact hv
  | x :: M, k, v, h, hv => fun e he => by
    rw [putM] at he
    cases hb : k == x.1 with
    | true =>
      rw [hb] at he
      rcases List.mem_cons.1 he with rfl | he
      · exact hv
      · exact h e (List.mem_cons_of_mem _ he)
    | false =>
      rw [hb] at he
      rcases List.mem_cons.1 he with rfl | he
      · exact h _ List.mem_cons_self
      · exact MapR.put (fun e he => h e (List.mem_cons_of_mem _ he)) hv e he
theorem MapR.get {α : Type} [DecidableEq α] : ∀ {M : List (α × Int)} (_ : MapR M) (k : α), R64 ((getM M k).getD 0)
  | [], _, _ => ⟨by show (-9223372036854775808 : Int) ≤ 0; omega, by show (0 : Int) ≤ 9223372036854775807; omega⟩
  | x :: M, h, k => by
    rw [getM]
    cases hb : k == x.1 with
    | true => exact h _ List.mem_cons_self
    | false => exact MapR.get (fun e he => h e (List.mem_cons_of_mem _ he)) k
theorem Mem.freezeMap {C : Cx} {w : World} {own : List Own} {shr : List Shr} {α β : Type} {fk : α → Value} {fv : β → Value} {b : Nat} {M : List (α × β)} (h : Mem C w own shr) {k : Nat} (hk : own[k]? = some (.obj b (mapO fk fv M))) : Mem C w (own.eraseIdx k) (.dat (mapRep fk fv) M [vM b] :: shr) := by
  have h' := h.drop (List.eraseIdx_sublist own k)
  refine h'.add ⟨b, 0, rfl, ?_, h.ownAt hk⟩
  have hlt : k < own.length := (List.getElem?_eq_some_iff.1 hk).1
  have hnew := h.new _ (List.mem_of_getElem? hk) b rfl
  refine ⟨hnew.elim (fun h => .inr (.inl h)) (fun h => .inr (.inr h)), (Array.getElem?_eq_some_iff.1 (h.ownAt hk : w.heap[b]? = _)).1, ?_⟩
  rintro ⟨x, hx, hxb⟩
  obtain ⟨j, hj⟩ := List.getElem?_of_mem hx
  rw [List.getElem?_eraseIdx] at hj
  have hp := List.pairwise_iff_getElem.1 h.sep
  have hkk := (List.getElem?_eq_some_iff.1 hk).2
  split at hj
  · rename_i hlt'
    obtain ⟨h1, h2⟩ := List.getElem?_eq_some_iff.1 hj
    exact hp j k h1 hlt hlt' b (by rw [h2]; exact hxb) (by rw [hkk]; rfl)
  · obtain ⟨h1, h2⟩ := List.getElem?_eq_some_iff.1 hj
    exact hp k (j + 1) hlt h1 (by omega) b (by rw [hkk]; rfl) (by rw [h2]; exact hxb)
/-! ### scopes that nobody jumps in -/
section
variable {Q : Exit → Act → World → Prop} {a : Act} {w : World}
end
end Go.Proofs.YtdaoecpkgobelaaGreatDoor
