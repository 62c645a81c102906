/- The engine, eleventh part: from a walk to the statement; the arguments of a law as data. -/
import Derived.Test.YtbekokenomhgeaaGreatDoorEngJ
import Derived.ProofKit
import Derived.OpenShut
import Derived.Deep.Slices
namespace Go.Proofs.YtbekokenomhgeaaGreatDoor
open Go.ChangeShapes Go.WideShapes Go.ChangeAt Go.RowKit Go.Deep
set_option linter.unusedSimpArgs false
set_option linter.unusedVariables false

section
variable {H : Type} {enc : TypeId × Value → H} {P : Program}

theorem TrodAll_below (hl : laidOutB P = true) {W W' : World} (hb : Below W.heap.size W W') {sp : Nat → Bool} : ∀ (ts : List TypeId) (vs : List Value) (ds : List (DataW H)) (ps : List MemPlace),
    (∀ t ∈ ts, P.readableRec t = true ∧ t < P.types.size) → DataW.TrodAll enc P W 0 (fun _ => true) true ts vs ds ps → (∀ x ∈ ps, x.block < W.heap.size) → (∀ x ∈ ps, sp x.block = true) →
    DataW.TrodAll enc P W' 0 sp true ts vs ds ps
  | [], vs, ds, ps, _, h, _, _ => by
    cases vs <;> cases ds <;> simp [DataW.TrodAll] at h ⊢
    exact h
  | t :: ts, vs, ds, ps, ht, h, hlt, hsp => by
    obtain ⟨v, vs', d, ds', p, q, rfl, rfl, rfl, h0, h1⟩ := trodAll_cons h
    refine ⟨p, q, ?_, TrodAll_below hl hb ts vs' ds' q (fun t h => ht t (List.mem_cons_of_mem _ h)) h1 (fun x hx => hlt x (List.mem_append_right _ hx)) (fun x hx => hsp x (List.mem_append_right _ hx)), rfl⟩
    exact WideElems.Trod_stays hl (ht t (by simp)).1 (ht t (by simp)).2 h0 (fun x hx => hb.same (hlt x (List.mem_append_left _ hx))) (fun x hx => hsp x (List.mem_append_left _ hx))

theorem post_of_below {f : Func} {s : ChangeSpec} {apart fresh handsOn again : Bool} {W W' : World} {args : Array Value} {v : Value} {ds gs : List (DataW H)} {before pa pv : List MemPlace}
    (hW : DataW.Whole enc P f.params.toList s.vars apart W args.toList ds gs before)
    (hres : ∀ (b : Nat) (sp : Nat → Bool) (hd : Bool), DataW.TrodAll enc P W' b sp hd f.resultTypes.toList (v.resultList f.resultTypes.size) (s.fn H (ds ++ gs)).results [])
    (hargs : ∀ sp : Nat → Bool, (∀ p ∈ before, sp p.block = true) → DataW.TrodAll enc P W' 0 sp true f.params.toList args.toList (s.fn H (ds ++ gs)).args pa)
    (hvars : ∀ sp : Nat → Bool, (∀ p ∈ before, sp p.block = true) → DataW.TrodVars enc P W' sp s.vars (s.fn H (ds ++ gs)).vars pv)
    (hps : before = pa ++ pv) (hb : Below W.heap.size W W')
    (hok : ∀ (j : Nat) (t : TypeId) (r : Value), f.resultTypes[j]? = some t → (v.resultList f.resultTypes.size)[j]? = some r → Value.okWide P W' .any 0 t r) :
    s.post enc P f apart fresh handsOn again W args v W' := by
  have hlt : ∀ p ∈ before, p.block < W.heap.size := fun p hp => hW.lt p hp
  have hold : ∀ p ∈ before, (fun b => decide (b < W.heap.size)) p.block = true := fun p hp => by simpa using hlt p hp
  refine ⟨ds, gs, before, [], pa, pv, hW, hres _ _ _, hargs _ hold, hvars _ hold, World.keptBut_mono (fun p hp => ⟨hp, ?_⟩) (hb.frame (· ∈ before)), fun _ => ?_⟩
  · rw [hps, List.mem_append] at hp
    exact Or.inr hp
  · obtain ⟨_, _, _, _, _, hz, hn⟩ := hW
    refine ⟨hok, _, _, ([] ++ pa) ++ pv, ⟨[] ++ pa, pv, trodAll_append (hargs _ (fun _ _ => rfl)) (hres _ _ _), hvars _ (fun _ _ => rfl), rfl, ?_, ?_⟩, ?_⟩
    · intro b off hp
      have hin : MemPlace.cell b off ∈ before := by rw [hps]; simpa using hp
      rw [hb.frozen (hlt _ hin)]
      exact hz b off hin
    · intro ha
      have := hn ha
      rw [hps] at this
      simpa using this
    · intro p hp _
      rw [hps]
      simpa using hp
end

/-- Each argument can be read as data, in the world in which the call begins. -/
def Given {H : Type} (enc : TypeId × Value → H) (P : Program) (W : World) (ts : List TypeId) (vs : List Value) : Prop :=
  ∃ (ds : List (DataW H)) (ps : List MemPlace) (base : Nat), DataW.TrodAll enc P W 0 (fun _ => true) true ts vs ds ps ∧ (∀ p ∈ ps, p.block < W.heap.size) ∧ ∀ (j : Nat) t v, ts[j]? = some t → vs[j]? = some v → Value.okWide P W .any base t v

/-- One cell that can be read. -/
def Cell {H : Type} (enc : TypeId × Value → H) (P : Program) (W : World) (t : TypeId) (v : Value) : Prop :=
  ∃ (fuel : Nat) (d : DataW H) (ps : List MemPlace), DataW.trod enc P W 0 (fun _ => true) true fuel t [v] = some (d, ps) ∧ ∀ p ∈ ps, p.block < W.heap.size

def Row {H : Type} (enc : TypeId × Value → H) (P : Program) (W : World) (ts : List TypeId) (cs : List Value) : Prop :=
  cs.length = ts.length ∧ ∀ (j : Nat) t v, ts[j]? = some t → cs[j]? = some v → Cell enc P W t v

section
variable {H : Type} {enc : TypeId × Value → H} {P : Program} {W : World}

theorem Row.append {ts ts' : List TypeId} {cs cs' : List Value} (h : Row enc P W ts cs) (h' : Row enc P W ts' cs') : Row enc P W (ts ++ ts') (cs ++ cs') := by
  refine ⟨by simp [h.1, h'.1], fun j t v ht hv => ?_⟩
  rcases Nat.lt_or_ge j ts.length with hj | hj
  · rw [List.getElem?_append_left hj] at ht
    rw [List.getElem?_append_left (by rw [h.1]; exact hj)] at hv
    exact h.2 j t v ht hv
  · rw [List.getElem?_append_right hj] at ht
    rw [List.getElem?_append_right (by rw [h.1]; exact hj), h.1] at hv
    exact h'.2 _ t v ht hv

/-! ### One cell by its kind -/
theorem cell_string {t : TypeId} {v : Value} (hu : P.underlying t = some .string) (h : Cell enc P W t v) : ∃ s, v = .string s ∧ s.size ≤ maxLen := by
  obtain ⟨fuel, d, ps, h, _⟩ := h
  cases fuel with
  | zero => simp [DataW.trod] at h
  | succ n =>
    unfold DataW.trod at h
    rw [hu] at h
    cases v <;> simp at h
    exact ⟨_, rfl, h.1⟩
/-! ### An argument -/
def Arg (enc : TypeId × Value → H) (P : Program) (W : World) (t : TypeId) (v : Value) : Prop :=
  ∃ (d : DataW H) (ps : List MemPlace) (base : Nat), DataW.Trod enc P W 0 (fun _ => true) true t v d ps ∧ (∀ p ∈ ps, p.block < W.heap.size) ∧ Value.okWide P W .any base t v

theorem given_nil {vs : List Value} (h : Given enc P W [] vs) : vs = [] := by
  obtain ⟨ds, ps, _, h, _⟩ := h
  exact (trodAll_nil h).1
theorem given_cons {t : TypeId} {ts : List TypeId} {vs : List Value} (h : Given enc P W (t :: ts) vs) : ∃ v vs', vs = v :: vs' ∧ Arg enc P W t v ∧ Given enc P W ts vs' := by
  obtain ⟨ds, ps, base, h, hlt, hok⟩ := h
  obtain ⟨v, vs', d, ds', p, q, rfl, rfl, rfl, h0, h1⟩ := trodAll_cons h
  exact ⟨v, vs', rfl, ⟨d, p, base, h0, fun x hx => hlt x (List.mem_append_left _ hx), hok 0 t v rfl rfl⟩, ds', q, base, h1, fun x hx => hlt x (List.mem_append_right _ hx), fun j t v ht hv => hok (j + 1) t v ht hv⟩

theorem arg_cell {t : TypeId} {v : Value} (hv : v.cells = #[v]) (h : Arg enc P W t v) : Cell enc P W t v := by
  obtain ⟨d, ps, _, ⟨fuel, h⟩, hlt, _⟩ := h
  rw [hv] at h
  exact ⟨fuel, d, ps, h, hlt⟩
theorem arg_string {t : TypeId} {v : Value} (hu : P.underlying t = some .string) (h : Arg enc P W t v) : ∃ s, v = .string s ∧ s.size ≤ maxLen := by
  obtain ⟨n, rfl⟩ := okWide_string hu h.choose_spec.choose_spec.choose_spec.2.2
  exact cell_string hu (arg_cell rfl h)
end

/-- Some memory in which the datum lies. -/
def Lies {α : Type} (K : Rep α) (x : α) : Prop := ∃ w S row, K.R w S x row
theorem Lies.int {x : Int} (h : Lies intRep x) : R64 x := by obtain ⟨w, S, row, h⟩ := h; exact h.2
theorem Lies.list {α : Type} {K : Rep α} {xs : List α} (h : Lies (sliceRep K) xs) : xs.length ≤ maxLen ∧ ∀ x ∈ xs, Lies K x := by
  obtain ⟨w, S, row, A, c, rfl, h1, h2, h3⟩ := h
  refine ⟨Nat.le_trans h1 h2, fun x hx => ?_⟩
  obtain ⟨i, hi, rfl⟩ := List.getElem_of_mem hx
  obtain ⟨b, off, _, _, hc⟩ := h3 (by omega)
  obtain ⟨row, hr, _⟩ := hc i xs[i] (List.getElem?_eq_getElem hi)
  exact ⟨w, S, row, hr⟩
theorem bytes_form (s : ByteArray) : (.string s : Value) = vS s.toList := by
  show Value.string s = .string ⟨s.toList.toArray⟩
  rw [ByteArray.toList_eq]

section
variable {H : Type} {enc : TypeId × Value → H} {P : Program} {W : World} {t : TypeId} {v : Value} {row : List Value}
theorem arg_s (hu : P.underlying t = some .string) (h : Arg enc P W t v) : ∃ x : Str, v = vS x ∧ x.length ≤ maxLen := by
  obtain ⟨x, rfl, hx⟩ := arg_string hu h
  exact ⟨x.toList, bytes_form x, by rw [ByteArray.toList_eq, Array.length_toList]; exact hx⟩
end

/-- Where a law's call begins. -/
def Cx.law (W : World) (G : Nat → Prop) (h : ∀ b, G b → b < W.heap.size) (hT : Tabs G W) : Cx := ⟨W, (· < W.heap.size), none_, fun _ h => h, none_not, G, h, fun _ _ h => h, hT⟩

end Go.Proofs.YtbekokenomhgeaaGreatDoor
