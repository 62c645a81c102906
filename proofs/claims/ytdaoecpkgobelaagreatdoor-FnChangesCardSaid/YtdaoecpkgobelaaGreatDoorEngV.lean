/- From a walk to the statement where the specification names variables that hold interface values. -/
import Derived.Test.YtdaoecpkgobelaaGreatDoorEngL
import Derived.RowKitTokens
namespace Go.Proofs.YtdaoecpkgobelaaGreatDoor
open Go.ChangeShapes Go.WideShapes Go.ChangeAt Go.RowKit
set_option linter.unusedSimpArgs false
set_option linter.unusedVariables false
theorem varV_old {P : Program} {n : String} {v : Array Value} {w w' : World} (hs : ∀ b, b < w.heap.size → w'.heap[b]? = w.heap[b]?) (h : w.var? P n = some v) : w'.var? P n = some v := by
  unfold World.var? at *
  cases hg : P.globalNamed n with
  | none => rw [hg] at h; cases h
  | some g =>
    rw [hg] at h
    simp only [Option.bind_some] at *
    have hlt : g < w.heap.size := by
      cases hb : w.heap[g]? with
      | none => rw [hb] at h; cases h
      | some x => exact (Array.getElem?_eq_some_iff.1 hb).1
    rw [hs _ hlt]
    exact h
theorem trodVars_again {H : Type} {enc : TypeId × Value → H} {P : Program} {W W' : World} {sp sp' : Nat → Bool} (hs : ∀ b, b < W.heap.size → W'.heap[b]? = W.heap[b]?) : ∀ (ns : List String) (ds : List (DataW H)) (ps : List MemPlace),
    (∀ n ∈ ns, ∀ g t, P.globalNamed n = some g → (P.globals[g]?).map (·.type) = some t → ∃ ms, P.underlying t = some (.interface ms)) → DataW.TrodVars enc P W sp ns ds ps → DataW.TrodVars enc P W' sp' ns ds ps
  | [], [], ps, _, h => h
  | [], _ :: _, ps, _, h => h
  | _ :: _, [], ps, _, h => h
  | n :: ns, d :: ds, ps, hall, h => by
    obtain ⟨g, t, cs, fuel, p, q, h1, h2, h3, h4, h5, h6⟩ := h
    obtain ⟨ms, ht⟩ := hall n List.mem_cons_self g t h1 h2
    obtain ⟨v, hcs, hv, hy⟩ := held_of_trod_list ht h4
    cases hy
    refine ⟨g, t, cs, 1, [], q, h1, h2, varV_old hs h3, ?_, trodVars_again hs ns ds q (fun m hm => hall m (List.mem_cons_of_mem _ hm)) h5, h6⟩
    rw [hcs]
    exact trod_held ht hv 0
/-! The same, where the specification names variables that hold interface values. -/
set_option maxRecDepth 100000 in
theorem law_liftV {X : World → Prop} (hX : ∀ w w' : World, w.heap = w'.heap → X w → X w') {os : Os} (started : os.Started) {H : Type} {enc : TypeId × Value → H} {k : FuncId} {f : Func} {s : ChangeSpec} (hf : Tryz.prog.funcs[k]? = some f) (noInit : Tryz.prog.inits.idxOf? k = none)
    (hread : f.params.toList.all (fun t => Tryz.prog.readableRec t && decide (t < Tryz.prog.types.size)) = true) (hres : f.resultTypes = #[4]) (hvars : ∀ n ∈ s.vars, ∀ g t, Tryz.prog.globalNamed n = some g → (Tryz.prog.globals[g]?).map (·.type) = some t → ∃ ms, Tryz.prog.underlying t = some (.interface ms))
    (hfn : ∀ ds gs : List (DataW H), ds.length = f.params.size → gs.length = s.vars.length → (s.fn H (ds ++ gs)).results = [.lit (.bool true)] ∧ (s.fn H (ds ++ gs)).args = ds ∧ (s.fn H (ds ++ gs)).vars = gs)
    (witness : ∃ (w : World) (tape : Tape) (i : Input), w.os = os ∧ (w.forCall tape i).Shaped Tryz.prog ∧ i.vars = [] ∧ Input.okWide Tryz.prog (w.forCall tape i) .any w.heap.size k i ∧
      ((s.pre enc Tryz.prog f [] false (w.forCall tape i).memory i.args ∧ X (w.forCall tape i).memory) ∧ sizedMet enc Tryz.prog f (OpenSpec.ofChange s) false (w.forCall tape i).memory i.args) ∧ Assume.holds {} Tryz.prog (lone (Frame.enter Tryz.prog k i.args .normal) [] (w.forCall tape i)))
    (walk : ∀ (W : World) (args : Array Value), X W → W.ShapedOpen Tryz.prog → Given enc Tryz.prog W f.params.toList args.toList → Calls Tryz.prog k args W fun e W' => e = .returned (.bool true) ∧ Below W.heap.size W W') :
    ReturnsInHanded {} Tryz.checked os k .any (fun w args => (s.pre enc Tryz.prog f [] false w args ∧ X w) ∧ sizedMet enc Tryz.prog f (OpenSpec.ofChange s) false w args) (s.post enc Tryz.prog f false true false false) := by
  refine returns_shaped (C := Tryz.checked) (X := fun w _ => X w) (fun w w' _ hh h => hX w w' hh h) own started noInit hf witness ?_
  intro W base args ds gs before hval0 hW hcnd _ hXW hSW _
  have hval : ∀ (j : Nat) t v, f.params[j]? = some t → args[j]? = some v → Value.okWide Tryz.prog W .any base t v := hval0
  have hW' := hW
  have hlt : ∀ p ∈ before, p.block < W.heap.size := fun p hp => hW.lt p hp
  obtain ⟨p, q, hA0, hV, rfl, hfz, hnd⟩ := hW
  have hA : DataW.TrodAll enc Tryz.prog W 0 (fun _ => true) true f.params.toList args.toList ds p := hA0
  refine (walk W args hXW hSW ⟨ds, p, base, hA, fun x hx => hlt x (List.mem_append_left _ hx), fun j t v ht hv => hval j t v (by simpa using ht) (by simpa using hv)⟩).mono fun e W' ⟨he, hg⟩ => ?_
  subst he
  have hlen : ds.length = f.params.size := by
    have aux : ∀ (ts : List TypeId) (vs : List Value) (ds : List (DataW H)) (ps : List MemPlace), DataW.TrodAll enc Tryz.prog W 0 (fun _ => true) true ts vs ds ps → ds.length = ts.length := by
      intro ts
      induction ts with
      | nil => intro vs ds ps h; obtain ⟨_, rfl, _⟩ := trodAll_nil h; rfl
      | cons t ts ih =>
        intro vs ds ps h
        obtain ⟨v, vs', d, ds', p, q, rfl, rfl, rfl, h0, h1⟩ := trodAll_cons h
        simp [ih _ _ _ h1]
    simpa using aux _ _ _ _ hA
  have hlenV : gs.length = s.vars.length := by
    have aux : ∀ (ns : List String) (gs : List (DataW H)) (ps : List MemPlace), DataW.TrodVars enc Tryz.prog W (fun _ => true) ns gs ps → gs.length = ns.length := by
      intro ns
      induction ns with
      | nil => intro gs ps h; cases gs with
        | nil => rfl
        | cons _ _ => exact h.elim
      | cons n ns ih => intro gs ps h; cases gs with
        | nil => exact h.elim
        | cons d gs =>
          obtain ⟨_, _, _, _, _, q, _, _, _, _, h5, _⟩ := h
          rw [List.length_cons, List.length_cons, ih _ _ h5]
    exact aux _ _ _ hV
  obtain ⟨e1, e2, e3⟩ := hfn ds gs hlen hlenV
  have hr : ∀ t ∈ f.params.toList, Tryz.prog.readableRec t = true ∧ t < Tryz.prog.types.size := fun t ht => by
    have := List.all_eq_true.1 hread t ht
    simpa using this
  refine ⟨_, rfl, post_of_below (pa := p) (pv := q) hW' ?_ ?_ ?_ rfl hg ?_⟩
  · intro b sp hd
    rw [e1, hres]
    exact trodAll_cons_mk (shut_bool Tryz.underlying4 _) trodAll_mk0
  · intro sp hsp
    rw [e2]
    exact TrodAll_below laid hg _ _ _ _ hr hA (fun x hx => hlt x (List.mem_append_left _ hx)) (fun x hx => hsp x (List.mem_append_left _ hx))
  · intro sp hsp
    rw [e3]
    exact trodVars_again (fun b hb => hg.block b hb) _ _ _ hvars hV
  · exact ok_one hres rfl (okWide_bool_mk Tryz.underlying4 _)
end Go.Proofs.YtdaoecpkgobelaaGreatDoor
