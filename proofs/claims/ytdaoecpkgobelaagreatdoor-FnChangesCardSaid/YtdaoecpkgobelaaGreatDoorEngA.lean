/- The engine, first part: a frame by what its slots hold; a region in one order; loops by a partial function. -/
import Derived.Test.YtdaoecpkgobelaaGreatDoorRows
import Derived.WalkKit
import Derived.OrdersHeld
import Derived.Deep.Draws
namespace Go.Proofs.YtdaoecpkgobelaaGreatDoor
open Go Go.RowKit
set_option linter.unusedSimpArgs false
set_option linter.unusedVariables false
/-! ### Frames -/
def look : List (Nat × Value) → Nat → Option Value
  | [], _ => none
  | (d, v) :: L, k => bif Nat.beq d k then some v else look L k
structure Has (N : Nat) (a : Act) (L : List (Nat × Value)) : Prop where
  defers : a.defers = []
  size : a.tmps.size = N
  at_ : ∀ k v, look L k = some v → a.tmps[k]? = some v
def ev (L : List (Nat × Value)) : Operand → Option Value
  | .tmp k => look L k
  | .const v => some v
  | .global g => some (.pointer (some ⟨g, 0, none⟩))
  | .func f => some (.func (.func f) #[] #[])
theorem Has.ev {N : Nat} {a : Act} {L : List (Nat × Value)} (h : Has N a L) {x : Operand} {v : Value} (hx : ev L x = some v) : a.eval x = v := by
  cases x with
  | tmp k =>
    have := h.at_ k v hx
    simp [Act.eval, this]
  | const u => simpa [YtdaoecpkgobelaaGreatDoor.ev, Act.eval] using hx
  | global g => simpa [YtdaoecpkgobelaaGreatDoor.ev, Act.eval] using hx
  | func f => simpa [YtdaoecpkgobelaaGreatDoor.ev, Act.eval] using hx
def evs (L : List (Nat × Value)) : List Operand → Option (List Value)
  | [] => some []
  | x :: xs => match ev L x, evs L xs with
    | some v, some vs => some (v :: vs)
    | _, _ => none
theorem Has.evs {N : Nat} {a : Act} {L : List (Nat × Value)} (h : Has N a L) : ∀ {xs : List Operand} {vs : List Value}, evs L xs = some vs → xs.map a.eval = vs
  | [], vs, hx => by simp only [YtdaoecpkgobelaaGreatDoor.evs, Option.some.injEq] at hx; subst hx; rfl
  | x :: xs, vs, hx => by
    simp only [YtdaoecpkgobelaaGreatDoor.evs] at hx
    cases h1 : YtdaoecpkgobelaaGreatDoor.ev L x with
    | none => rw [h1] at hx; cases hx
    | some v =>
      cases h2 : YtdaoecpkgobelaaGreatDoor.evs L xs with
      | none => rw [h1, h2] at hx; cases hx
      | some us =>
        rw [h1, h2] at hx
        simp only [Option.some.injEq] at hx
        subst hx
        rw [List.map_cons, h.ev h1, h.evs h2]
theorem Has.put {N : Nat} {a : Act} {L : List (Nat × Value)} (h : Has N a L) {d : Nat} (hd : Nat.blt d N = true) (v : Value) : Has N (a.put (some d) v) ((d, v) :: L) := by
  have hd' : d < a.tmps.size := by rw [h.size]; simpa [Nat.blt_eq] using hd
  refine ⟨h.defers, by simp [Act.put, h.size], fun k u hk => ?_⟩
  simp only [look] at hk
  cases hb : Nat.beq d k with
  | true =>
    have : d = k := Nat.eq_of_beq_eq_true hb
    subst this
    rw [hb] at hk
    simp only [cond_true, Option.some.injEq] at hk
    subst hk
    simp [Act.put, hd']
  | false =>
    rw [hb] at hk
    have hne : d ≠ k := Nat.ne_of_beq_eq_false hb
    simp only [Act.put]
    rw [Array.getElem?_setIfInBounds_ne hne]
    exact h.at_ k u hk
def AllIn (L : List (Nat × Value)) : List (Nat × Value) → Prop
  | [] => True
  | (k, v) :: T => look L k = some v ∧ AllIn L T
theorem AllIn.look {L : List (Nat × Value)} : ∀ {T : List (Nat × Value)}, AllIn L T → ∀ k v, look T k = some v → look L k = some v
  | [], _, k, v, h => by cases h
  | (d, u) :: T, hA, k, v, h => by
    simp only [YtdaoecpkgobelaaGreatDoor.look] at h
    cases hb : Nat.beq d k with
    | true =>
      have : d = k := Nat.eq_of_beq_eq_true hb
      subst this
      rw [hb] at h
      simp only [cond_true, Option.some.injEq] at h
      subst h
      exact hA.1
    | false => rw [hb] at h; exact AllIn.look hA.2 k v h
theorem Has.keep {N : Nat} {a : Act} {L T : List (Nat × Value)} (h : Has N a L) (hT : AllIn L T) : Has N a T := ⟨h.defers, h.size, fun k v hk => h.at_ k v (hT.look k v hk)⟩
def slotsFrom : Nat → List Value → List (Nat × Value)
  | _, [] => []
  | k, v :: vs => (k, v) :: slotsFrom (k + 1) vs
theorem look_slots : ∀ (vs : List Value) (k j : Nat) (v : Value), look (slotsFrom k vs) j = some v → k ≤ j ∧ vs[j - k]? = some v
  | [], k, j, v, h => by cases h
  | u :: vs, k, j, v, h => by
    simp only [slotsFrom, look] at h
    cases hb : Nat.beq k j with
    | true =>
      have : k = j := Nat.eq_of_beq_eq_true hb
      subst this
      rw [hb] at h
      simpa using h
    | false =>
      rw [hb] at h
      have hne : k ≠ j := Nat.ne_of_beq_eq_false hb
      obtain ⟨h1, h2⟩ := look_slots vs (k + 1) j v h
      refine ⟨by omega, ?_⟩
      rw [show j - k = (j - (k + 1)) + 1 by omega]
      simpa using h2
/-! ### Entering a function, and leaving it -/
theorem enter {P : Program} {f : FuncId} {fn : Func} {c : Code} {vs : List Value} {w : World} {R : Ending → World → Prop} {N : Nat} (hf : P.funcs[f]? = some fn) (hb : fn.body = some c) (hN : fn.ntmps = N) (hle : Nat.ble vs.length N = true)
    (h : ∀ a, Has N a (slotsFrom 0 vs) → c.wp P (bodyPost P fn R) a w) : Calls P f vs.toArray w R := by
  have hle' : vs.length ≤ N := Nat.le_of_ble_eq_true hle
  refine calls_of_wp hf hb (h _ ⟨rfl, ?_, fun k v hk => ?_⟩)
  · simp [hN]; omega
  · obtain ⟨_, h2⟩ := look_slots vs 0 k v hk
    simp only [Nat.sub_zero] at h2
    have hlt : k < vs.length := (List.getElem?_eq_some_iff.1 h2).1
    show (vs.toArray ++ Array.replicate (fn.ntmps - vs.toArray.size) undef)[k]? = some v
    rw [Array.getElem?_append_left (by simpa using hlt)]
    simpa using h2
theorem leave1 {P : Program} {fn : Func} {R : Ending → World → Prop} {a : Act} {w : World} {N t : Nat} {L : List (Nat × Value)} {v : Value} (hf : Has N a L) (hr : fn.results = #[.tmp t]) (hv : look L t = some v) (h : R (.returned v) w) : bodyPost P fn R .ret a w :=
  bodyPost_ret (by rw [results_tmp hr]; simp [hf.at_ t v hv]) hf.defers h
theorem leave2 {P : Program} {fn : Func} {R : Ending → World → Prop} {a : Act} {w : World} {N t u : Nat} {L : List (Nat × Value)} {v x : Value} (hf : Has N a L) (hr : fn.results = #[.tmp t, .tmp u]) (hv : look L t = some v) (hx : look L u = some x) (h : R (.returned (.tuple #[v, x])) w) : bodyPost P fn R .ret a w :=
  bodyPost_ret (by rw [results_tmp2 hr]; simp [hf.at_ t v hv, hf.at_ u x hx]) hf.defers h
theorem leave0 {P : Program} {fn : Func} {R : Ending → World → Prop} {a : Act} {w : World} {N : Nat} {L : List (Nat × Value)} (hf : Has N a L) (hr : fn.results = #[]) (h : R (.returned (.tuple #[])) w) : bodyPost P fn R .ret a w :=
  bodyPost_ret (by rw [results_none hr]) hf.defers h
theorem leave0n {P : Program} {fn : Func} {R : Ending → World → Prop} {a : Act} {w : World} {N : Nat} {L : List (Nat × Value)} (hf : Has N a L) (hr : fn.results = #[]) (h : R (.returned (.tuple #[])) w) : bodyPost P fn R .normal a w :=
  bodyPost_end (by rw [results_none hr]) hf.defers h
/-! ### Code -/
section
variable {P : Program} {Q : Exit → Act → World → Prop} {a : Act} {w : World} {N : Nat} {L : List (Nat × Value)}
theorem seq_join {x y : Code} (J : Act → World → Prop) (hx : x.wp P (Exit.then J Q) a w) (hy : ∀ a w, J a w → y.wp P Q a w) : (Code.seq x y).wp P Q a w :=
  wp_seq (wp_mono hx fun e a w h => by cases e <;> first | exact hy a w h | exact h)
theorem cond_t {c : Operand} {x y : Code} {b : Bool} (hf : Has N a L) (hc : ev L c = some (.bool b)) (hb : b = true) (h : x.wp P Q a w) : (Code.cond c x y).wp P Q a w :=
  wp_cond_true (by rw [hf.ev hc, hb]) h
theorem cond_f {c : Operand} {x y : Code} {b : Bool} (hf : Has N a L) (hc : ev L c = some (.bool b)) (hb : b = false) (h : y.wp P Q a w) : (Code.cond c x y).wp P Q a w :=
  wp_cond_false (by rw [hf.ev hc, hb]) h
theorem exit_hit {id : Nat} (h : Q .normal a w) : Exit.inBlock id Q (.exit id) a w := by simpa [Exit.inBlock] using h
end
/-! ### A loop by a partial function -/
section
variable {σ ρ : Type}
def loopN (step : σ → Option (σ ⊕ ρ)) : Nat → σ → Option ρ
  | 0, _ => none
  | n + 1, s => match step s with
    | none => none
    | some (.inl s') => loopN step n s'
    | some (.inr r) => some r
theorem loopN_more (step : σ → Option (σ ⊕ ρ)) : ∀ (n m : Nat) (s : σ) (r : ρ), n ≤ m → loopN step n s = some r → loopN step m s = some r
  | 0, _, _, _, _, h => by cases h
  | n + 1, 0, _, _, hle, _ => absurd hle (by omega)
  | n + 1, m + 1, s, r, hle, h => by
    simp only [loopN] at h ⊢
    cases hs : step s with
    | none => rw [hs] at h; cases h
    | some o =>
      rw [hs] at h
      cases o with
      | inl s' => exact loopN_more step n m s' r (by omega) h
      | inr r' => exact h
open Classical in
noncomputable def loopM (step : σ → Option (σ ⊕ ρ)) (s : σ) : Option ρ := if h : ∃ r n, loopN step n s = some r then some h.choose else none
theorem loopM_iff (step : σ → Option (σ ⊕ ρ)) (s : σ) (r : ρ) : loopM step s = some r ↔ ∃ n, loopN step n s = some r := by
  unfold loopM
  constructor
  · intro h
    split at h
    · rename_i hx
      have := hx.choose_spec
      rw [Option.some.inj h] at this
      exact this
    · cases h
  · rintro ⟨n, hn⟩
    have hx : ∃ r n, loopN step n s = some r := ⟨r, n, hn⟩
    rw [dif_pos hx]
    obtain ⟨m, hm⟩ := hx.choose_spec
    have h1 := loopN_more step n (max n m) s r (by omega) hn
    have h2 := loopN_more step m (max n m) s _ (by omega) hm
    rw [h1] at h2
    exact h2.symm
theorem loopM_next {step : σ → Option (σ ⊕ ρ)} {s s' : σ} (h : step s = some (.inl s')) : loopM step s = loopM step s' := by
  apply Option.ext
  intro r
  rw [loopM_iff, loopM_iff]
  constructor
  · rintro ⟨n, hn⟩
    cases n with
    | zero => cases hn
    | succ n => rw [loopN, h] at hn; exact ⟨n, hn⟩
  · rintro ⟨n, hn⟩
    exact ⟨n + 1, by rw [loopN, h]; exact hn⟩
theorem loopM_done {step : σ → Option (σ ⊕ ρ)} {s : σ} {r : ρ} (h : step s = some (.inr r)) : loopM step s = some r :=
  (loopM_iff step s r).2 ⟨1, by rw [loopN, h]⟩
theorem loopM_inv {step : σ → Option (σ ⊕ ρ)} (I : σ → Prop) (μ : σ → Nat) (post : ρ → Prop) (h : ∀ s, I s → (∃ s', step s = some (.inl s') ∧ I s' ∧ μ s' < μ s) ∨ (∃ r, step s = some (.inr r) ∧ post r)) :
    ∀ s, I s → ∃ r, loopM step s = some r ∧ post r := by
  intro s
  induction hm : μ s using Nat.strongRecOn generalizing s with
  | _ m ih =>
    intro hI
    rcases h s hI with ⟨s', h1, h2, h3⟩ | ⟨r, h1, h2⟩
    · obtain ⟨r, hr, hp⟩ := ih (μ s') (hm ▸ h3) s' rfl h2
      exact ⟨r, by rw [loopM_next h1]; exact hr, hp⟩
    · exact ⟨r, loopM_done h1, h2⟩
theorem wp_loopM {P : Program} {Q : Exit → Act → World → Prop} {body : Code} {step : σ → Option (σ ⊕ ρ)} {s0 : σ} {r : ρ} {a : Act} {w : World} (h : loopM step s0 = some r) (I : σ → Act → World → Prop) (h0 : I s0 a w)
    (round : ∀ s o a w, I s a w → step s = some o → (∀ r', o = .inr r' → r' = r) → body.wp P (Exit.then (fun a' w' => ∃ s', o = .inl s' ∧ I s' a' w') Q) a w) : (Code.loop body).wp P Q a w := by
  obtain ⟨n, hn⟩ := (loopM_iff step s0 r).1 h
  intro b k cs
  have key : ∀ n s a w, loopN step n s = some r → I s a w →
      ∃ e a' w', Q e a' w' ∧ Arrives P (lone (b.at a (.code body :: .inLoop body :: k)) cs w) b k cs e a' w' := by
    intro n
    induction n with
    | zero => intro s a w hn; cases hn
    | succ n ih =>
      intro s a w hn hI
      rw [loopN] at hn
      cases hs : step s with
      | none => rw [hs] at hn; cases hn
      | some o =>
        rw [hs] at hn
        obtain ⟨e, a₁, w₁, hq, harr⟩ := round s o a w hI hs (fun r' hr' => by subst hr'; exact Option.some.inj hn) b (.inLoop body :: k) cs
        cases e with
        | normal =>
          obtain ⟨s', hs', hI₁⟩ := hq
          subst hs'
          obtain ⟨e₂, a₂, w₂, hq₂, harr₂⟩ := ih s' a₁ w₁ hn hI₁
          exact ⟨e₂, a₂, w₂, hq₂, .of_steps (Steps.trans harr (.one step_inLoop)) harr₂⟩
        | exit id => exact ⟨_, a₁, w₁, hq, .pass (x := .inLoop body) rfl (fun _ _ => .inl (by simp)) harr⟩
        | goto l => exact ⟨_, a₁, w₁, hq, .pass (x := .inLoop body) rfl (fun _ _ => .inl (by simp)) harr⟩
        | ret => exact ⟨_, a₁, w₁, hq, .pass (x := .inLoop body) rfl (fun _ _ => .inl (by simp)) harr⟩
        | panic ch => exact ⟨_, a₁, w₁, hq, .pass (x := .inLoop body) rfl (fun _ _ => .inl (by simp)) harr⟩
        | outgrown => exact ⟨_, a₁, w₁, hq, .pass (x := .inLoop body) rfl (fun _ _ => .inl (by simp)) harr⟩
  obtain ⟨e, a', w', hq, harr⟩ := key n s0 a w hn h0
  exact ⟨e, a', w', hq, .of_steps (.one step_loop) harr⟩
end
/-! ### What a model's equation says -/
section
variable {α β : Type}
theorem bind_some {m : Option α} {f : α → Option β} {r : β} (h : m.bind f = some r) : ∃ x, m = some x ∧ f x = some r := by
  cases m with
  | none => cases h
  | some x => exact ⟨x, rfl, h⟩
theorem cond_some {c : Bool} {x y : Option β} {r : β} (h : (bif c then x else y) = some r) : (c = true ∧ x = some r) ∨ (c = false ∧ y = some r) := by
  cases c
  · exact .inr ⟨rfl, h⟩
  · exact .inl ⟨rfl, h⟩
end
/-! ### Regions -/
section
variable {P : Program} {ops : Array Oper} {md : Region.Mode}
def Nq (K : Act → World → Prop) : Exit → Act → World → Prop := fun e a w => e = .normal ∧ K a w
def Yd (P : Program) (S : World → Prop) (a : Act) (o : Oper) (v : Value) : Prop := ∀ w, S w → (execOp a.eval o).run P w = .ok (.value v) w
def Wv (P : Program) (o : Oper) (a : Act) (w : World) (K : Value → World → Prop) : Prop := ∀ (Q : Exit → Act → World → Prop) (K' : Act → World → Prop), (∀ v w', K v w' → K' (a.put o.dst v) w') → o.wp P a w K' Q
theorem Wv.of_run {o : Oper} {a : Act} {w w' : World} {v : Value} {K : Value → World → Prop} (h : (execOp a.eval o).run P w = .ok (.value v) w') (hk : K v w') : Wv P o a w K := by
  intro Q K' hK
  unfold Oper.wp
  rw [h]
  exact hK v w' hk
theorem Wv.of_skip {o : Oper} {a : Act} {w w' : World} {K : Value → World → Prop} (h : (execOp a.eval o).run P w = .ok .skip w') (hk : K undef w') : Wv P o a w K := by
  intro Q K' hK
  unfold Oper.wp
  rw [h]
  exact hK _ w' hk
theorem Wv.of_enter {o : Oper} {a : Act} {w : World} {f : FuncId} {args : Array Value} {K : Value → World → Prop} (h : (execOp a.eval o).run P w = .ok (.enter f args) w) (hc : Calls P f args w fun e w' => ∃ v, e = .returned v ∧ K v w') : Wv P o a w K := by
  intro Q K' hK
  unfold Oper.wp
  rw [h]
  show Calls P f args w _
  refine hc.mono ?_
  rintro e w' ⟨v, rfl, hk⟩
  exact hK v w' hk
theorem Wv.mono {o : Oper} {a : Act} {w : World} {K K' : Value → World → Prop} (h : Wv P o a w K) (hk : ∀ v w', K v w' → K' v w') : Wv P o a w K' :=
  fun Q K'' hK => h Q K'' fun v w' h => hK v w' (hk v w' h)
def wpPl (P : Program) (ops : Array Oper) (K : Act → World → Prop) : List Oper → Act → World → Prop
  | [], a, w => K a w
  | o :: rest, a, w => if Region.wanted o (yielded ops a.tmps) then Wv P o a w (fun v w' => wpPl P ops K rest (a.put o.dst v) w') else wpPl P ops K rest (a.put o.dst undef) w
theorem wpList_of_pl {Q : Exit → Act → World → Prop} : ∀ (l : List Oper) (a : Act) (w : World), wpPl P ops (Q .normal) l a w → wpList P ops Q l a w
  | [], a, w, h => h
  | o :: rest, a, w, h => by
    unfold wpPl at h
    unfold wpList
    split
    · rename_i hw
      rw [if_pos hw] at h
      exact .inl (h Q _ fun v w' h' => wpList_of_pl rest _ _ h')
    · rename_i hw
      rw [if_neg hw] at h
      exact wpList_of_pl rest _ _ h
theorem region_pl {id : Nat} {Q : Exit → Act → World → Prop} {a : Act} {w : World} {l : List Oper} (h : wpPl P l.toArray (Q .normal) l a w) : (Code.region id l.toArray false).wp P Q a w :=
  wp_region_lit (wpList_of_pl l a w h)
section
variable {K : Act → World → Prop} {a : Act} {w : World} {N : Nat} {L : List (Nat × Value)} {o : Oper} {rest : List Oper} {d : Nat} {v : Value} {S : World → Prop}
theorem pl_nil (h : K a w) : wpPl P ops K [] a w := h
theorem pl_q (hf : Has N a L) (hd : o.dst = some d) (hdN : Nat.blt d N = true) (hg : o.guard = none) (hS : S w) (hy : Yd P S a o v) (h : ∀ a, Has N a ((d, v) :: L) → wpPl P ops K rest a w) : wpPl P ops K (o :: rest) a w := by
  unfold wpPl
  rw [if_pos (by simp [Region.wanted, hg])]
  refine Wv.of_run (hy w hS) ?_
  rw [hd]
  exact h _ (hf.put hdN v)
theorem pl_l (hf : Has N a L) (hd : o.dst = some d) (hdN : Nat.blt d N = true) (hg : o.guard = none) (hy : Wv P o a w (fun v w' => ∀ a, Has N a ((d, v) :: L) → wpPl P ops K rest a w')) : wpPl P ops K (o :: rest) a w := by
  unfold wpPl
  rw [if_pos (by simp [Region.wanted, hg])]
  refine hy.mono fun v w' h => ?_
  rw [hd]
  exact h _ (hf.put hdN v)
theorem pl_0 (hf : Has N a L) (hd : o.dst = none) (hg : o.guard = none) (hy : Wv P o a w (fun _ w' => wpPl P ops K rest a w')) : wpPl P ops K (o :: rest) a w := by
  unfold wpPl
  rw [if_pos (by simp [Region.wanted, hg])]
  refine hy.mono fun v w' h => ?_
  rw [hd]
  exact h
theorem wanted_t {j : Nat} {want b : Bool} {oj : Oper} {dj : Nat} (hf : Has N a L) (hg : o.guard = some (j, want)) (hj : ops[j]? = some oj) (hdj : oj.dst = some dj) (hl : look L dj = some (.bool b)) (hb : b = want) : Region.wanted o (yielded ops a.tmps) = true := by
  have := hf.at_ dj _ hl
  simp [Region.wanted, hg, yielded, hj, hdj, this, hb]
theorem wanted_f {j : Nat} {want b : Bool} {oj : Oper} {dj : Nat} (hf : Has N a L) (hg : o.guard = some (j, want)) (hj : ops[j]? = some oj) (hdj : oj.dst = some dj) (hl : look L dj = some (.bool b)) (hb : b = !want) : Region.wanted o (yielded ops a.tmps) = false := by
  have := hf.at_ dj _ hl
  subst hb
  cases want <;> simp [Region.wanted, hg, yielded, hj, hdj, this]
theorem wanted_u {j : Nat} {want : Bool} {oj : Oper} {dj : Nat} (hf : Has N a L) (hg : o.guard = some (j, want)) (hj : ops[j]? = some oj) (hdj : oj.dst = some dj) (hl : look L dj = some undef) : Region.wanted o (yielded ops a.tmps) = false := by
  have := hf.at_ dj _ hl
  simp [Region.wanted, hg, yielded, hj, hdj, this, undef]
theorem pl_gq (hw : Region.wanted o (yielded ops a.tmps) = true) (hf : Has N a L) (hd : o.dst = some d) (hdN : Nat.blt d N = true) (hS : S w) (hy : Yd P S a o v) (h : ∀ a, Has N a ((d, v) :: L) → wpPl P ops K rest a w) : wpPl P ops K (o :: rest) a w := by
  unfold wpPl
  rw [if_pos hw]
  refine Wv.of_run (hy w hS) ?_
  rw [hd]
  exact h _ (hf.put hdN v)
theorem pl_gl (hw : Region.wanted o (yielded ops a.tmps) = true) (hf : Has N a L) (hd : o.dst = some d) (hdN : Nat.blt d N = true) (hy : Wv P o a w (fun v w' => ∀ a, Has N a ((d, v) :: L) → wpPl P ops K rest a w')) : wpPl P ops K (o :: rest) a w := by
  unfold wpPl
  rw [if_pos hw]
  refine hy.mono fun v w' h => ?_
  rw [hd]
  exact h _ (hf.put hdN v)
theorem pl_gs (hw : Region.wanted o (yielded ops a.tmps) = false) (hf : Has N a L) (hd : o.dst = some d) (hdN : Nat.blt d N = true) (h : ∀ a, Has N a ((d, undef) :: L) → wpPl P ops K rest a w) : wpPl P ops K (o :: rest) a w := by
  unfold wpPl
  rw [if_neg (by rw [hw]; simp), hd]
  exact h _ (hf.put hdN _)
end
end
end Go.Proofs.YtdaoecpkgobelaaGreatDoor
