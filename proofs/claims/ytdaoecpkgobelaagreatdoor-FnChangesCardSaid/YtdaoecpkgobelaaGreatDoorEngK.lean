/- The engine, eleventh part: from a walk to the statement; the arguments of a law as data. -/
import Derived.Test.YtdaoecpkgobelaaGreatDoorEngJ
import Derived.ProofKit
import Derived.OpenShut
import Derived.Deep.Slices
namespace Go.Proofs.YtdaoecpkgobelaaGreatDoor
open Go.ChangeShapes Go.WideShapes Go.ChangeAt Go.RowKit Go.Deep
set_option linter.unusedSimpArgs false
set_option linter.unusedVariables false
section
variable {H : Type} {enc : TypeId × Value → H} {P : Program}
theorem TrodAll_below (hl : laidOutB P = true) {W W' : World} (hb : Below W.heap.size W W') {sp : Nat → Bool} : ∀ (ts : List TypeId) (vs : List Value) (ds : List (DataW H)) (ps : List MemPlace),
    (∀ t ∈ ts, P.readableRec t = true ∧ t < P.types.size) → DataW.TrodAll enc P W 0 (fun _ => true) true ts vs ds ps → (∀ x ∈ ps, x.block < W.heap.size) → (∀ x ∈ ps, sp x.block = true) →
    DataW.TrodAll enc P W' 0 sp true ts vs ds ps
  | [], vs, ds, ps, _, h, _, _ => by
    cases vs <;> cases ds <;> simp [DataW.TrodAll] at h ⊢
    exact h
  | t :: ts, vs, ds, ps, ht, h, hlt, hsp => by
    obtain ⟨v, vs', d, ds', p, q, rfl, rfl, rfl, h0, h1⟩ := trodAll_cons h
    refine ⟨p, q, ?_, TrodAll_below hl hb ts vs' ds' q (fun t h => ht t (List.mem_cons_of_mem _ h)) h1 (fun x hx => hlt x (List.mem_append_right _ hx)) (fun x hx => hsp x (List.mem_append_right _ hx)), rfl⟩
    exact WideElems.Trod_stays hl (ht t (by simp)).1 (ht t (by simp)).2 h0 (fun x hx => hb.same (hlt x (List.mem_append_left _ hx))) (fun x hx => hsp x (List.mem_append_left _ hx))
theorem post_of_below {f : Func} {s : ChangeSpec} {apart fresh handsOn again : Bool} {W W' : World} {args : Array Value} {v : Value} {ds gs : List (DataW H)} {before pa pv : List MemPlace}
    (hW : DataW.Whole enc P f.params.toList s.vars apart W args.toList ds gs before)
    (hres : ∀ (b : Nat) (sp : Nat → Bool) (hd : Bool), DataW.TrodAll enc P W' b sp hd f.resultTypes.toList (v.resultList f.resultTypes.size) (s.fn H (ds ++ gs)).results [])
    (hargs : ∀ sp : Nat → Bool, (∀ p ∈ before, sp p.block = true) → DataW.TrodAll enc P W' 0 sp true f.params.toList args.toList (s.fn H (ds ++ gs)).args pa)
    (hvars : ∀ sp : Nat → Bool, (∀ p ∈ before, sp p.block = true) → DataW.TrodVars enc P W' sp s.vars (s.fn H (ds ++ gs)).vars pv)
    (hps : before = pa ++ pv) (hb : Below W.heap.size W W')
    (hok : ∀ (j : Nat) (t : TypeId) (r : Value), f.resultTypes[j]? = some t → (v.resultList f.resultTypes.size)[j]? = some r → Value.okWide P W' .any 0 t r) :
    s.post enc P f apart fresh handsOn again W args v W' := by
  have hlt : ∀ p ∈ before, p.block < W.heap.size := fun p hp => hW.lt p hp
  have hold : ∀ p ∈ before, (fun b => decide (b < W.heap.size)) p.block = true := fun p hp => by simpa using hlt p hp
  refine ⟨ds, gs, before, [], pa, pv, hW, hres _ _ _, hargs _ hold, hvars _ hold, World.keptBut_mono (fun p hp => ⟨hp, ?_⟩) (hb.frame (· ∈ before)), fun _ => ?_⟩
  · rw [hps, List.mem_append] at hp
    exact Or.inr hp
  · obtain ⟨_, _, _, _, _, hz, hn⟩ := hW
    refine ⟨hok, _, _, ([] ++ pa) ++ pv, ⟨[] ++ pa, pv, trodAll_append (hargs _ (fun _ _ => rfl)) (hres _ _ _), hvars _ (fun _ _ => rfl), rfl, ?_, ?_⟩, ?_⟩
    · intro b off hp
      have hin : MemPlace.cell b off ∈ before := by rw [hps]; simpa using hp
      rw [hb.frozen (hlt _ hin)]
      exact hz b off hin
    · intro ha
      have := hn ha
      rw [hps] at this
      simpa using this
    · intro p hp _
      rw [hps]
      simpa using hp
end
def Given {H : Type} (enc : TypeId × Value → H) (P : Program) (W : World) (ts : List TypeId) (vs : List Value) : Prop :=
  ∃ (ds : List (DataW H)) (ps : List MemPlace) (base : Nat), DataW.TrodAll enc P W 0 (fun _ => true) true ts vs ds ps ∧ (∀ p ∈ ps, p.block < W.heap.size) ∧ ∀ (j : Nat) t v, ts[j]? = some t → vs[j]? = some v → Value.okWide P W .any base t v
def joinT : List (Option (List TypeId) × Nat × Nat) → Nat → Option (List TypeId)
  | [], _ => some []
  | (some l, off, c) :: rest, acc => if off = acc ∧ c = l.length then (joinT rest (acc + c)).map (l ++ ·) else none
  | _ :: _, _ => none
def leafT (P : Program) : Nat → TypeId → Option (List TypeId)
  | 0, _ => none
  | n + 1, t =>
    match P.underlying t with
    | some (.struct fs) => joinT (fs.toList.map fun f => (leafT P n f.type, f.offset, P.cellsOf f.type)) 0
    | some .bool | some (.int _) | some .string | some (.slice _) => some [t]
    | _ => none
def Cell {H : Type} (enc : TypeId × Value → H) (P : Program) (W : World) (t : TypeId) (v : Value) : Prop :=
  ∃ (fuel : Nat) (d : DataW H) (ps : List MemPlace), DataW.trod enc P W 0 (fun _ => true) true fuel t [v] = some (d, ps) ∧ ∀ p ∈ ps, p.block < W.heap.size
def Row {H : Type} (enc : TypeId × Value → H) (P : Program) (W : World) (ts : List TypeId) (cs : List Value) : Prop :=
  cs.length = ts.length ∧ ∀ (j : Nat) t v, ts[j]? = some t → cs[j]? = some v → Cell enc P W t v
section
variable {H : Type} {enc : TypeId × Value → H} {P : Program} {W : World}
theorem Row.append {ts ts' : List TypeId} {cs cs' : List Value} (h : Row enc P W ts cs) (h' : Row enc P W ts' cs') : Row enc P W (ts ++ ts') (cs ++ cs') := by
  refine ⟨by simp [h.1, h'.1], fun j t v ht hv => ?_⟩
  rcases Nat.lt_or_ge j ts.length with hj | hj
  · rw [List.getElem?_append_left hj] at ht
    rw [List.getElem?_append_left (by rw [h.1]; exact hj)] at hv
    exact h.2 j t v ht hv
  · rw [List.getElem?_append_right hj] at ht
    rw [List.getElem?_append_right (by rw [h.1]; exact hj), h.1] at hv
    exact h'.2 _ t v ht hv
theorem leaf_one {fuel : Nat} {t : TypeId} {cs : List Value} {x : DataW H × List MemPlace} {u : TypeDesc} (hu : P.underlying t = some u) (hk : u = .bool ∨ (∃ k, u = .int k) ∨ u = .string ∨ ∃ e, u = .slice e)
    (h : DataW.trod enc P W 0 (fun _ => true) true fuel t cs = some x) : ∃ v, cs = [v] := by
  cases fuel with
  | zero => simp [DataW.trod] at h
  | succ n =>
    rcases hk with rfl | ⟨k, rfl⟩ | rfl | ⟨e, rfl⟩ <;> unfold DataW.trod at h <;> rw [hu] at h <;> (match cs, h with | [v], _ => exact ⟨v, rfl⟩ | [], h => simp at h | _ :: _ :: _, h => simp at h)
theorem leaf_row {fuel : Nat} {t : TypeId} {ts : List TypeId} {cs : List Value} {d : DataW H} {ps : List MemPlace} {u : TypeDesc} (hu : P.underlying t = some u) (hk : u = .bool ∨ (∃ k, u = .int k) ∨ u = .string ∨ ∃ e, u = .slice e)
    (hl : some [t] = some ts) (h : DataW.trod enc P W 0 (fun _ => true) true fuel t cs = some (d, ps)) (hp : ∀ p ∈ ps, p.block < W.heap.size) : Row enc P W ts cs := by
  injection hl with hl
  subst hl
  obtain ⟨v, rfl⟩ := leaf_one hu hk h
  refine ⟨rfl, fun j t' v' ht hv => ?_⟩
  match j, ht, hv with
  | 0, ht, hv =>
    simp only [List.getElem?_cons_zero, Option.some.injEq] at ht hv
    subst ht hv
    exact ⟨fuel, d, ps, h, hp⟩
theorem flatMap_mem {α β : Type} {l : List α} {f : α → List β} {i : Nat} {x : α} (h : l[i]? = some x) {p : β} (hp : p ∈ f x) : p ∈ l.flatMap f :=
  List.mem_flatMap.2 ⟨x, List.mem_of_getElem? h, hp⟩
theorem row_of_trod : ∀ (n : Nat) (t : TypeId) (ts : List TypeId) (fuel : Nat) (cs : List Value) (d : DataW H) (ps : List MemPlace), leafT P n t = some ts →
    DataW.trod enc P W 0 (fun _ => true) true fuel t cs = some (d, ps) → (∀ p ∈ ps, p.block < W.heap.size) → cs.length = ts.length → Row enc P W ts cs := by
  intro n
  induction n with
  | zero => intro t ts fuel cs d ps h; cases h
  | succ n ih =>
    intro t ts fuel cs d ps hl h hp hlen
    unfold leafT at hl
    split at hl
    · rename_i fs hu
      obtain ⟨xs, m, _, hx, hcl, hxl, hf⟩ := DataW.trod_struct hu h
      simp only [Prod.mk.injEq] at hx
      have key : ∀ (l : List Field) (k : Nat) (acc : Nat) (ts : List TypeId), (∀ i f, l[i]? = some f → fs[k + i]? = some f) → joinT (l.map fun f => (leafT P n f.type, f.offset, P.cellsOf f.type)) acc = some ts →
          acc + ts.length ≤ cs.length → Row enc P W ts ((cs.drop acc).take ts.length) := by
        intro l
        induction l with
        | nil =>
          intro k acc ts _ hj _
          simp only [List.map_nil, joinT, Option.some.injEq] at hj
          subst hj
          exact ⟨by simp, fun j t v ht => by simp at ht⟩
        | cons f l ihl =>
          intro k acc ts hk hj hle
          simp only [List.map_cons] at hj
          cases hlf : leafT P n f.type with
          | none => rw [hlf] at hj; simp [joinT] at hj
          | some tf =>
            rw [hlf] at hj
            simp only [joinT] at hj
            split at hj
            · rename_i hc
              obtain ⟨ho, hcf⟩ := hc
              rw [Option.map_eq_some_iff] at hj
              obtain ⟨tr, hj, rfl⟩ := hj
              simp only [List.length_append] at hle ⊢
              rw [List.take_add]
              have h1 := hf k f (hk 0 f rfl)
              rw [ho, hcf] at h1
              have hkl : k < xs.length := by
                have := hk 0 f rfl
                rw [Nat.add_zero] at this
                rw [hxl]
                exact (Array.getElem?_eq_some_iff.1 this).1
              rw [List.getElem?_eq_getElem hkl] at h1
              have hmem : ∀ p ∈ xs[k].2, p.block < W.heap.size := fun p hpx => hp p (by rw [hx.2]; exact flatMap_mem (List.getElem?_eq_getElem hkl) hpx)
              refine Row.append (ih f.type tf m _ xs[k].1 xs[k].2 hlf h1 hmem (by simp; omega)) ?_
              rw [List.drop_drop]
              rw [hcf] at hj
              exact ihl (k + 1) (acc + tf.length) tr (fun i f h => by have := hk (i + 1) f (by simpa using h); rwa [show k + 1 + i = k + (i + 1) by omega]) hj (by omega)
            · cases hj
      have := key fs.toList 0 0 ts (fun i f h => by simpa using h) hl (by omega)
      rw [List.drop_zero, ← hlen, List.take_length] at this
      exact this
    · rename_i hu; exact leaf_row hu (.inl rfl) hl h hp
    · rename_i k hu; exact leaf_row hu (.inr (.inl ⟨k, rfl⟩)) hl h hp
    · rename_i hu; exact leaf_row hu (.inr (.inr (.inl rfl))) hl h hp
    · rename_i e hu; exact leaf_row hu (.inr (.inr (.inr ⟨e, rfl⟩))) hl h hp
    · cases hl
/-! ### One cell by its kind -/
theorem cell_int {t : TypeId} {v : Value} {k : IntKind} (hu : P.underlying t = some (.int k)) (h : Cell enc P W t v) : ∃ n, v = .int k n ∧ (Lit.int k n).wf = true := by
  obtain ⟨fuel, d, ps, h, _⟩ := h
  cases fuel with
  | zero => simp [DataW.trod] at h
  | succ n =>
    unfold DataW.trod at h
    rw [hu] at h
    cases v <;> simp at h
    obtain ⟨⟨rfl, hw⟩, _⟩ := h
    exact ⟨_, rfl, hw⟩
theorem cell_slice {t e : TypeId} {v : Value} {n : Nat} {ts : List TypeId} (hu : P.underlying t = some (.slice e)) (hl : leafT P n e = some ts) (hc : P.cellsOf e = ts.length) (hpos : 0 < ts.length) (h : Cell enc P W t v) :
    ∃ A len cap, v = .slice A len cap ∧ len ≤ cap ∧ cap ≤ maxLen ∧
      (0 < len → ∃ b off, A = some ⟨b, off, none⟩ ∧ b < W.heap.size ∧ ∀ i, i < len → ∃ row, Row enc P W ts row ∧ ∀ j u, row[j]? = some u → W.cell? ⟨b, off + i * ts.length + j, none⟩ = some u) := by
  obtain ⟨fuel, d, ps, h, hp⟩ := h
  rcases open_slice hu h with ⟨h0, _⟩ | ⟨a, len, cap, m, n', D, Pl, hcs, hb, hlc, hm, hmm, hx, hi⟩
  · injection h0 with h0
    subst h0
    exact ⟨none, 0, 0, rfl, Nat.le_refl _, Nat.zero_le _, fun h => absurd h (by omega)⟩
  · injection hcs with hcs
    subst hcs
    refine ⟨some a, len, cap, rfl, hlc, hm, fun hpos' => ?_⟩
    have hmm' : m = cap := by simpa using hmm
    subst hmm'
    simp only [Prod.mk.injEq] at hx
    obtain ⟨cs0, hc0, _⟩ := hi 0 (by omega)
    obtain ⟨_, hcl0, hat0⟩ := World.cells?_some hc0
    have hcell : W.cell? a = cs0[0]? := by
      have := hat0 0 (by rw [hc]; exact hpos)
      simpa [Addr.add] using this
    have hcl1 : 0 < cs0.length := by rw [hcl0, hc]; exact hpos
    rw [List.getElem?_eq_getElem hcl1] at hcell
    have hspot : a.spot = none ∧ a.block < W.heap.size := by
      unfold World.cell? at hcell
      cases hh : W.heap[a.block]? with
      | none => rw [hh] at hcell; cases hcell
      | some o =>
        refine ⟨?_, (Array.getElem?_eq_some_iff.1 hh).1⟩
        rw [hh] at hcell
        cases o <;> simp at hcell
        exact hcell.1
    obtain ⟨b, off, spot⟩ := a
    obtain ⟨rfl, hbb⟩ := hspot
    refine ⟨b, off, rfl, hbb, fun i hil => ?_⟩
    obtain ⟨cs', hci, hti⟩ := hi i (by omega)
    obtain ⟨_, hcl, hat⟩ := World.cells?_some hci
    refine ⟨cs', row_of_trod n e ts n' cs' _ _ hl hti (fun p hpp => hp p ?_) (by rw [hcl, hc]), fun j u hu => ?_⟩
    · rw [hx.2]
      exact List.mem_append_right _ (List.mem_flatMap.2 ⟨i, List.mem_range.2 (by omega), hpp⟩)
    · have hj : j < P.cellsOf e := by rw [← hcl]; exact (List.getElem?_eq_some_iff.1 hu).1
      have hadd : ∀ (x k : Nat), (⟨b, x, none⟩ : Addr).add k = ⟨b, x + k, none⟩ := by
        intro x k
        unfold Addr.add
        split
        · rename_i h0; subst h0; rfl
        · rfl
      have := hat j hj
      rw [hadd, hadd, hc, hu] at this
      exact this
theorem cell_list {α : Type} (K : Rep α) {t e : TypeId} {v : Value} {n : Nat} {ts : List TypeId} (hu : P.underlying t = some (.slice e)) (hl : leafT P n e = some ts) (hc : P.cellsOf e = ts.length) (hpos : 0 < ts.length)
    (hK : K.size = ts.length) (hrow : ∀ row, Row enc P W ts row → ∃ x, K.R W (· < W.heap.size) x row) (h : Cell enc P W t v) : ∃ xs, (sliceRep K).R W (· < W.heap.size) xs [v] := by
  obtain ⟨A, len, cap, rfl, h1, h2, h3⟩ := cell_slice hu hl hc hpos h
  rcases Nat.eq_zero_or_pos len with h0 | h0
  · subst h0
    exact ⟨[], A, cap, rfl, h1, h2, fun h => absurd h (by simp)⟩
  · obtain ⟨b, off, rfl, hb, hi⟩ := h3 h0
    have ex : ∀ i, ∃ x, i < len → ∃ row, K.R W (· < W.heap.size) x row ∧ ∀ j u, row[j]? = some u → W.cell? ⟨b, off + i * ts.length + j, none⟩ = some u := by
      intro i
      rcases Nat.lt_or_ge i len with hil | hil
      · obtain ⟨row, hr, hcell⟩ := hi i hil
        obtain ⟨x, hx⟩ := hrow row hr
        exact ⟨x, fun _ => ⟨row, hx, hcell⟩⟩
      · obtain ⟨row, hr, _⟩ := hi 0 h0
        obtain ⟨x, _⟩ := hrow row hr
        exact ⟨x, fun h => absurd h (by omega)⟩
    obtain ⟨f, hf⟩ := Classical.axiomOfChoice ex
    refine ⟨(List.range len).map f, some ⟨b, off, none⟩, cap, by simp [vL], by simpa using h1, h2, fun _ => ⟨b, off, rfl, hb, fun i x hx => ?_⟩⟩
    rw [List.getElem?_map] at hx
    have hil : i < len := by
      rcases Nat.lt_or_ge i len with h | h
      · exact h
      · rw [List.getElem?_eq_none (by simpa using h)] at hx; cases hx
    rw [List.getElem?_range hil] at hx
    simp at hx
    subst hx
    obtain ⟨row, hr, hcell⟩ := hf i hil
    exact ⟨row, hr, by rw [hK]; exact hcell⟩
/-! ### An argument -/
def Arg (enc : TypeId × Value → H) (P : Program) (W : World) (t : TypeId) (v : Value) : Prop :=
  ∃ (d : DataW H) (ps : List MemPlace) (base : Nat), DataW.Trod enc P W 0 (fun _ => true) true t v d ps ∧ (∀ p ∈ ps, p.block < W.heap.size) ∧ Value.okWide P W .any base t v
theorem given_nil {vs : List Value} (h : Given enc P W [] vs) : vs = [] := by
  obtain ⟨ds, ps, _, h, _⟩ := h
  exact (trodAll_nil h).1
theorem given_cons {t : TypeId} {ts : List TypeId} {vs : List Value} (h : Given enc P W (t :: ts) vs) : ∃ v vs', vs = v :: vs' ∧ Arg enc P W t v ∧ Given enc P W ts vs' := by
  obtain ⟨ds, ps, base, h, hlt, hok⟩ := h
  obtain ⟨v, vs', d, ds', p, q, rfl, rfl, rfl, h0, h1⟩ := trodAll_cons h
  exact ⟨v, vs', rfl, ⟨d, p, base, h0, fun x hx => hlt x (List.mem_append_left _ hx), hok 0 t v rfl rfl⟩, ds', q, base, h1, fun x hx => hlt x (List.mem_append_right _ hx), fun j t v ht hv => hok (j + 1) t v ht hv⟩
theorem arg_cell {t : TypeId} {v : Value} (hv : v.cells = #[v]) (h : Arg enc P W t v) : Cell enc P W t v := by
  obtain ⟨d, ps, _, ⟨fuel, h⟩, hlt, _⟩ := h
  rw [hv] at h
  exact ⟨fuel, d, ps, h, hlt⟩
theorem arg_slice {t e : TypeId} {v : Value} (hu : P.underlying t = some (.slice e)) (h : Arg enc P W t v) : Cell enc P W t v := by
  obtain ⟨a, l, c, rfl⟩ := okWide_slice hu h.choose_spec.choose_spec.choose_spec.2.2
  exact arg_cell rfl h
end
def Lies {α : Type} (K : Rep α) (x : α) : Prop := ∃ w S row, K.R w S x row
theorem Lies.int {x : Int} (h : Lies intRep x) : R64 x := by obtain ⟨w, S, row, h⟩ := h; exact h.2
theorem Lies.list {α : Type} {K : Rep α} {xs : List α} (h : Lies (sliceRep K) xs) : xs.length ≤ maxLen ∧ ∀ x ∈ xs, Lies K x := by
  obtain ⟨w, S, row, A, c, rfl, h1, h2, h3⟩ := h
  refine ⟨Nat.le_trans h1 h2, fun x hx => ?_⟩
  obtain ⟨i, hi, rfl⟩ := List.getElem_of_mem hx
  obtain ⟨b, off, _, _, hc⟩ := h3 (by omega)
  obtain ⟨row, hr, _⟩ := hc i xs[i] (List.getElem?_eq_getElem hi)
  exact ⟨w, S, row, hr⟩
section
variable {H : Type} {enc : TypeId × Value → H} {P : Program} {W : World} {t : TypeId} {v : Value} {row : List Value}
theorem cell_c (hu : P.underlying t = some (.int .u8)) (h : Cell enc P W t v) : ∃ x, v = vB x := by
  obtain ⟨x, rfl, hx⟩ := cell_int hu h
  simp [Lit.wf, IntKind.min, IntKind.max, IntKind.signed, IntKind.bits] at hx
  refine ⟨UInt8.ofNat x.toNat, ?_⟩
  have : ((UInt8.ofNat x.toNat).toNat : Int) = x := by rw [UInt8.toNat_ofNat']; omega
  rw [vB, this]
theorem row_one (h : Row enc P W [t] row) : ∃ v, row = [v] ∧ Cell enc P W t v := by
  match row, h.1 with
  | [v], _ => exact ⟨v, rfl, h.2 0 _ _ rfl rfl⟩
theorem row_c {S : Nat → Prop} (hu : P.underlying t = some (.int .u8)) (h : Row enc P W [t] row) : ∃ x, byteRep.R W S x row := by
  obtain ⟨v, rfl, hc⟩ := row_one h
  obtain ⟨x, rfl⟩ := cell_c hu hc
  exact ⟨x, rfl⟩
end
def Cx.law (W : World) (G : Nat → Prop) (h : ∀ b, G b → b < W.heap.size) (hT : Tabs G W) : Cx := ⟨W, (· < W.heap.size), none_, fun _ h => h, none_not, G, h, fun _ _ h => h, hT⟩
end Go.Proofs.YtdaoecpkgobelaaGreatDoor
