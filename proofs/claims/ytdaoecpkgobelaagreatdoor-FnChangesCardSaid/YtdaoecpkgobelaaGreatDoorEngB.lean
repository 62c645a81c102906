/- The engine, second part: a region that draws its order, walked in one order. -/
import Derived.Test.YtdaoecpkgobelaaGreatDoorEngA
namespace Go.Proofs.YtdaoecpkgobelaaGreatDoor
open Go Go.RowKit
set_option linter.unusedSimpArgs false
set_option linter.unusedVariables false
section
variable {P : Program} {ops : Array Oper} {md : Region.Mode} {K : Act → World → Prop}
def Ext (w x : World) : Prop := ∀ b, b < w.heap.size → x.heap[b]? = w.heap[b]?
def Closed (md : Region.Mode) (ops : Array Oper) (listed : Array Bool) : Prop := ∀ (i : Nat) (o : Oper), ops[i]? = some o → listed.getD i false = true → ∀ e ∈ o.after, Region.binds md e = true → listed.getD e.on false = true
theorem Closed.start : Closed md ops (Array.replicate ops.size false) := fun i o ho h => by
  rcases Nat.lt_or_ge i ops.size with hi | hi <;> simp [Array.getD, hi] at h
theorem Closed.set {listed : Array Bool} (h : Closed md ops listed) {j : Nat} (hj : j ∈ Region.ready md ops listed) : Closed md ops (listed.setIfInBounds j true) := by
  intro i o ho hl e he hb
  obtain ⟨_, oj, hoj, hall⟩ := mem_ready.1 hj
  have up : ∀ k, listed.getD k false = true → (listed.setIfInBounds j true).getD k false = true := by
    intro k hk
    by_cases hjk : j = k
    · subst hjk
      rcases Nat.lt_or_ge j listed.size with h' | h'
      · simp [h']
      · simp [Array.getElem?_eq_none h'] at hk
    · rw [getD_set_ne false hjk]; exact hk
  by_cases hji : j = i
  · subst hji
    rw [hoj] at ho
    cases ho
    exact up _ (hall e he hb)
  · rw [getD_set_ne false hji] at hl
    exact up _ (h i o ho hl e he hb)
def clo (md : Region.Mode) : List Oper → List (List Nat) → List (List Nat)
  | [], acc => acc
  | o :: os, acc => clo md os (acc ++ [((o.after.toList.filter (Region.binds md)).flatMap fun e => e.on :: acc.getD e.on []).eraseDups])
def GoodClo (md : Region.Mode) (ops : Array Oper) (acc : List (List Nat)) : Prop :=
  ∀ (k : Nat) (l : List Nat) (o : Oper), acc[k]? = some l → ops[k]? = some o → ∀ listed, Closed md ops listed → (∀ e ∈ o.after, Region.binds md e = true → listed.getD e.on false = true) → ∀ i ∈ l, listed.getD i false = true
theorem clo_good (hl : ∀ (k : Nat) (o : Oper), ops[k]? = some o → True) : ∀ (os : List Oper) (acc : List (List Nat)), (∀ j, os[j]? = ops[acc.length + j]?) → GoodClo md ops acc → GoodClo md ops (clo md os acc)
  | [], acc, _, h => h
  | o :: os, acc, hs, h => by
    refine clo_good hl os _ (fun j => by rw [List.length_append]; have := hs (j + 1); simp only [List.getElem?_cons_succ] at this; rw [this]; congr 1; simp; omega) ?_
    intro k l o' hk ho' listed hcl hall i hi
    rcases Nat.lt_or_ge k acc.length with hlt | hge
    · rw [List.getElem?_append_left hlt] at hk
      exact h k l o' hk ho' listed hcl hall i hi
    · rw [List.getElem?_append_right hge] at hk
      have hk0 : k - acc.length = 0 := by
        have := (List.getElem?_eq_some_iff.1 hk).1
        simp at this; omega
      have hke : k = acc.length := by omega
      subst hke
      simp only [Nat.sub_self, List.getElem?_cons_zero, Option.some.injEq] at hk
      have h0 := hs 0
      simp only [List.getElem?_cons_zero, Nat.add_zero] at h0
      rw [← h0, Option.some.injEq] at ho'
      subst ho'
      rw [← hk, List.mem_eraseDups, List.mem_flatMap] at hi
      obtain ⟨e, he, hi⟩ := hi
      rw [List.mem_filter] at he
      have hle := hall e (by simpa using he.1) he.2
      rcases List.mem_cons.1 hi with rfl | hi
      · exact hle
      · rw [List.getD_eq_getElem?_getD] at hi
        cases hacc : acc[e.on]? with
        | none => rw [hacc] at hi; simp at hi
        | some l' =>
          rw [hacc] at hi
          cases hoe : ops[e.on]? with
          | none =>
            exfalso
            have := h0
            have hlt : e.on < acc.length := (List.getElem?_eq_some_iff.1 hacc).1
            have : ops.size ≤ e.on := by
              rcases Nat.lt_or_ge e.on ops.size with h' | h'
              · rw [Array.getElem?_eq_getElem h'] at hoe; cases hoe
              · exact h'
            have h2 : acc.length < ops.size := (Array.getElem?_eq_some_iff.1 h0.symm).1
            omega
          | some oe => exact h e.on l' oe hacc hoe listed hcl (hcl e.on oe hoe hle) i hi
def loneB (md : Region.Mode) (ops : Array Oper) (j : Nat) : Bool :=
  let c := clo md ops.toList []
  (List.range ops.size).all fun i => Nat.beq i j || (c.getD j []).contains i || (c.getD i []).contains j
theorem loneB_spec {j i : Nat} {oj oi : Oper} {listed : Array Bool} (h : loneB md ops j = true) (hj : ops[j]? = some oj) (hi : ops[i]? = some oi) (hne : i ≠ j) (hcl : Closed md ops listed) (hrj : j ∈ Region.ready md ops listed) (hri : i ∈ Region.ready md ops listed) : False := by
  have hg : GoodClo md ops (clo md ops.toList []) := clo_good (fun _ _ _ => trivial) ops.toList [] (by simp) (fun k l o hk => by simp at hk)
  unfold loneB at h
  have h1 := List.all_eq_true.1 h i (List.mem_range.2 (Array.getElem?_eq_some_iff.1 hi).1)
  have hb : Nat.beq i j = false := by rw [← Bool.not_eq_true]; exact fun hb => hne (Nat.eq_of_beq_eq_true hb)
  rw [hb] at h1
  simp only [Bool.false_or, Bool.or_eq_true, List.contains_iff_mem] at h1
  have key : ∀ (x y : Nat) (ox : Oper), ops[x]? = some ox → x ∈ Region.ready md ops listed → y ∈ Region.ready md ops listed → y ∈ (clo md ops.toList []).getD x [] → False := by
    intro x y ox hox hrx hry hy
    rw [List.getD_eq_getElem?_getD] at hy
    cases hc : (clo md ops.toList [])[x]? with
    | none => rw [hc] at hy; simp at hy
    | some l =>
      rw [hc] at hy
      obtain ⟨_, ox', hox', hall⟩ := mem_ready.1 hrx
      rw [hox] at hox'
      cases hox'
      have := hg x l ox hc hox listed hcl hall y hy
      have hu := (mem_ready.1 hry).1
      rcases Nat.lt_or_ge y listed.size with h' | h'
      · simp [h'] at hu this; rw [hu] at this; cases this
      · simp [Array.getElem?_eq_none h'] at this
  rcases h1 with h1 | h1
  · exact key j i oj hj hrj hri h1
  · exact key i j oi hi hri hrj h1
def wpAnyS (P : Program) (md : Region.Mode) (ops : Array Oper) (K : Act → World → Prop) : Nat → (World → Prop) → Array Bool → Act → World → Prop
  | 0, _, listed, a, w => Region.ready md ops listed = [] ∧ K a w
  | fuel + 1, S, listed, a, w => (Region.ready md ops listed = [] → K a w) ∧
    ∀ i ∈ Region.ready md ops listed, wpOp P ops (Nq K) i (fun a' w' => ∃ S' : World → Prop, (loneB md ops i = true ∨ ((∀ x, S' x → S x) ∧ S' w')) ∧ wpAnyS P md ops K fuel S' (listed.setIfInBounds i true) a' w') a w
theorem wpAny_of_S : ∀ (fuel : Nat) (S : World → Prop) (listed : Array Bool) (a : Act) (w : World), wpAnyS P md ops K fuel S listed a w → wpAny P md ops (Nq K) fuel listed a w
  | 0, _, _, _, _, h => ⟨h.1, rfl, h.2⟩
  | fuel + 1, _, _, _, _, h => ⟨fun hr => ⟨rfl, h.1 hr⟩, fun i hi => wpOp_mono (fun a' w' ⟨S', _, h'⟩ => wpAny_of_S fuel S' _ a' w' h') (h.2 i hi)⟩
theorem wpAnyS_first {i : Nat} {oi : Oper} {v : Value} (hi : ops[i]? = some oi) (hsel : ∀ (j : Nat) (o : Oper) cs b, ops[j]? = some o → o.op ≠ .select cs b) :
    ∀ (fuel : Nat) (S : World → Prop) (listed : Array Bool) (a : Act) (w : World), Closed md ops listed →
      (∀ j oj, ops[j]? = some oj → j ≠ i → listed.getD j true = false → (∀ e ∈ oj.after, Region.binds md e = true → e.on ≠ i) → oi.apart ops oj = true) →
      i ∈ Region.ready md ops listed → YieldsIf P ops S oi v a → S w →
      wpAnyS P md ops K fuel S (listed.setIfInBounds i true) (a.put oi.dst v) w → wpAnyS P md ops K (fuel + 1) S listed a w := by
  intro fuel
  induction fuel with
  | zero =>
    intro S listed a w hcl _ hr hy hS H
    refine ⟨fun h => (by rw [h] at hr; cases hr), fun j hj => ?_⟩
    by_cases hji : j = i
    · subst hji; exact hy.wpOp hi hS ⟨S, .inr ⟨fun _ h => h, hS⟩, H⟩
    · have := ready_mono hj hji
      rw [H.1] at this
      cases this
  | succ fuel ih =>
    intro S listed a w hcl hfree hr hy hS H
    refine ⟨fun h => (by rw [h] at hr; cases hr), fun j hj => ?_⟩
    by_cases hji : j = i
    · subst hji; exact hy.wpOp hi hS ⟨S, .inr ⟨fun _ h => h, hS⟩, H⟩
    · have h1 := H.2 j (ready_mono hj hji)
      obtain ⟨hjun, oj, hoj, hall⟩ := mem_ready.1 hj
      have hiun := (mem_ready.1 hr).1
      have hilt : i < listed.size := by
        rcases Nat.lt_or_ge i listed.size with h' | h'
        · exact h'
        · simp [Array.getElem?_eq_none h'] at hiun
      have hnot : ∀ e ∈ oj.after, Region.binds md e = true → e.on ≠ i := fun e he hb heq => by
        have h1 := hall e he hb
        rw [heq] at h1
        simp [hilt] at hiun h1; rw [hiun] at h1; cases h1
      have hnl : loneB md ops j ≠ true := fun hl => loneB_spec hl hoj hi (Ne.symm hji) hcl hj hr
      have h2 := wpOp_putIf hoj (hfree j oj hoj hji hjun hnot) (fun cs b => hsel i oi cs b hi) (fun cs b => hsel j oj cs b hoj) (fun c a w h => by cases h.1) hy h1
      have hfree' : ∀ k ok, ops[k]? = some ok → k ≠ i → (listed.setIfInBounds j true).getD k true = false →
          (∀ e ∈ ok.after, Region.binds md e = true → e.on ≠ i) → oi.apart ops ok = true := fun k ok hk hki hun hno => by
        refine hfree k ok hk hki ?_ hno
        by_cases hjk : j = k
        · subst hjk; exact hjun
        · rw [getD_set_ne true hjk] at hun; exact hun
      refine wpOp_mono (fun a' w' h3 => ?_) h2
      obtain ⟨hy', S', hor, hw⟩ := h3
      rcases hor with hl | ⟨hSS, hSw⟩
      · exact absurd hl hnl
      · refine ⟨S', .inr ⟨hSS, hSw⟩, ih S' (listed.setIfInBounds j true) a' w' (hcl.set hj) hfree' (ready_mono hr (Ne.symm hji)) (hy'.imp (fun ⟨h1, h2⟩ => ⟨h1, fun x hx => h2 x (hSS x hx)⟩) id) hSw ?_⟩
        rw [Array.setIfInBounds_comm _ _ hji]
        exact hw
inductive Pi where
  | nil
  | q (i : Nat) (t : Pi)
  | l (i : Nat) (t : Pi)
  | b (i j : Nat) (t u : Pi)
  | c (i j k : Nat) (t u v : Pi)
def Pi.len : Pi → Nat
  | .nil => 0
  | .q _ t | .l _ t => t.len + 1
  | .b _ _ t _ => t.len + 1
  | .c _ _ _ t _ _ => t.len + 1
def piB (md : Region.Mode) (ops : Array Oper) : Pi → Array Bool → Bool
  | .nil, listed => (Region.ready md ops listed).isEmpty
  | .q i t, listed => (Region.ready md ops listed).contains i && Region.free md ops listed i && piB md ops t (listed.setIfInBounds i true)
  | .l i t, listed => Region.ready md ops listed == [i] && piB md ops t (listed.setIfInBounds i true)
  | .b i j t u, listed => Region.ready md ops listed == [i, j] && Nat.beq t.len u.len && piB md ops t (listed.setIfInBounds i true) && piB md ops u (listed.setIfInBounds j true)
  | .c i j k t u v, listed => Region.ready md ops listed == [i, j, k] && Nat.beq t.len u.len && Nat.beq t.len v.len && piB md ops t (listed.setIfInBounds i true) && piB md ops u (listed.setIfInBounds j true) && piB md ops v (listed.setIfInBounds k true)
def loud (P : Program) (md : Region.Mode) (ops : Array Oper) (i : Nat) (K : (World → Prop) → Act → World → Prop) (S : World → Prop) (a : Act) (w : World) : Prop :=
  ∃ o, ops[i]? = some o ∧ ((Region.wanted o (yielded ops a.tmps) = true ∧ Wv P o a w (fun v w' => ∃ S' : World → Prop, (loneB md ops i = true ∨ ((∀ x, S' x → S x) ∧ S' w')) ∧ K S' (a.put o.dst v) w')) ∨
      (Region.wanted o (yielded ops a.tmps) = false ∧ S w ∧ K S (a.put o.dst undef) w))
def wpPi (P : Program) (md : Region.Mode) (ops : Array Oper) (K : Act → World → Prop) : Pi → (World → Prop) → Act → World → Prop
  | .nil, _, a, w => K a w
  | .q i t, S, a, w => ∃ o, ops[i]? = some o ∧ S w ∧ ((Region.wanted o (yielded ops a.tmps) = true ∧ ∃ v, Yd P S a o v ∧ wpPi P md ops K t S (a.put o.dst v) w) ∨ (Region.wanted o (yielded ops a.tmps) = false ∧ wpPi P md ops K t S (a.put o.dst undef) w))
  | .l i t, S, a, w => loud P md ops i (wpPi P md ops K t) S a w
  | .b i j t u, S, a, w => loud P md ops i (wpPi P md ops K t) S a w ∧ loud P md ops j (wpPi P md ops K u) S a w
  | .c i j k t u v, S, a, w => loud P md ops i (wpPi P md ops K t) S a w ∧ loud P md ops j (wpPi P md ops K u) S a w ∧ loud P md ops k (wpPi P md ops K v) S a w
theorem loud_op {i : Nat} {K' K'' : (World → Prop) → Act → World → Prop} {S : World → Prop} {a : Act} {w : World} (h : loud P md ops i K' S a w) (hk : ∀ S a w, K' S a w → K'' S a w) :
    wpOp P ops (Nq K) i (fun a' w' => ∃ S' : World → Prop, (loneB md ops i = true ∨ ((∀ x, S' x → S x) ∧ S' w')) ∧ K'' S' a' w') a w := by
  obtain ⟨o, ho, h⟩ := h
  unfold wpOp
  simp only [ho]
  rcases h with ⟨hw, h⟩ | ⟨hw, hS, h⟩
  · rw [if_pos hw]
    exact .inl (h _ _ fun v w' ⟨S', h1, h2⟩ => ⟨S', h1, hk _ _ _ h2⟩)
  · rw [if_neg (by rw [hw]; simp)]
    exact ⟨S, .inr ⟨fun _ h => h, hS⟩, hk _ _ _ h⟩
theorem wpAnyS_of_pi (hs : Region.noSelect ops = true) : ∀ (π : Pi) (S : World → Prop) (listed : Array Bool) (a : Act) (w : World), Closed md ops listed → piB md ops π listed = true → wpPi P md ops K π S a w → wpAnyS P md ops K π.len S listed a w
  | .nil, S, listed, a, w, hcl, hB, h => ⟨by simpa [piB] using hB, h⟩
  | .q i t, S, listed, a, w, hcl, hB, h => by
    simp only [piB, Bool.and_eq_true] at hB
    obtain ⟨⟨hr, hf⟩, hB'⟩ := hB
    obtain ⟨o, ho, hS, h⟩ := h
    have hr' : i ∈ Region.ready md ops listed := by simpa using hr
    rcases h with ⟨hw, v, hy, h⟩ | ⟨hw, h⟩
    · exact wpAnyS_first ho (Region.noSelect_spec hs) t.len S listed a w hcl (Region.free_spec ho hf) hr' (.inl ⟨hw, hy⟩) hS (wpAnyS_of_pi hs t S _ _ _ (hcl.set hr') hB' h)
    · exact wpAnyS_first ho (Region.noSelect_spec hs) t.len S listed a w hcl (Region.free_spec ho hf) hr' (.inr ⟨hw, rfl⟩) hS (wpAnyS_of_pi hs t S _ _ _ (hcl.set hr') hB' h)
  | .l i t, S, listed, a, w, hcl, hB, h => by
    simp only [piB, Bool.and_eq_true] at hB
    obtain ⟨hone, hB'⟩ := hB
    have hone' : Region.ready md ops listed = [i] := by simpa using hone
    refine ⟨fun h0 => (by rw [hone'] at h0; cases h0), fun j hj => ?_⟩
    rw [hone', List.mem_singleton] at hj
    subst hj
    exact loud_op h fun S a w h => wpAnyS_of_pi hs t S _ a w (hcl.set (by rw [hone']; simp)) hB' h
  | .b i j t u, S, listed, a, w, hcl, hB, h => by
    simp only [piB, Bool.and_eq_true] at hB
    obtain ⟨⟨⟨hone, hlen⟩, hB1⟩, hB2⟩ := hB
    have hone' : Region.ready md ops listed = [i, j] := by simpa using hone
    have hlen' : t.len = u.len := Nat.eq_of_beq_eq_true hlen
    refine ⟨fun h0 => (by rw [hone'] at h0; cases h0), fun k hk => ?_⟩
    rw [hone', List.mem_cons, List.mem_singleton] at hk
    rcases hk with rfl | rfl
    · exact loud_op h.1 fun S a w h => wpAnyS_of_pi hs t S _ a w (hcl.set (by rw [hone']; simp)) hB1 h
    · exact loud_op h.2 fun S a w h => (by
        have := wpAnyS_of_pi hs u S _ a w (hcl.set (by rw [hone']; simp)) hB2 h
        rw [← hlen'] at this
        exact this)
  | .c i j l t u v, S, listed, a, w, hcl, hB, h => by
    simp only [piB, Bool.and_eq_true] at hB
    obtain ⟨⟨⟨⟨⟨hone, hlen⟩, hlen2⟩, hB1⟩, hB2⟩, hB3⟩ := hB
    have hone' : Region.ready md ops listed = [i, j, l] := by simpa using hone
    have hlen' : t.len = u.len := Nat.eq_of_beq_eq_true hlen
    have hlen2' : t.len = v.len := Nat.eq_of_beq_eq_true hlen2
    refine ⟨fun h0 => (by rw [hone'] at h0; cases h0), fun k hk => ?_⟩
    rw [hone', List.mem_cons, List.mem_cons, List.mem_singleton] at hk
    rcases hk with rfl | rfl | rfl
    · exact loud_op h.1 fun S a w h => wpAnyS_of_pi hs t S _ a w (hcl.set (by rw [hone']; simp)) hB1 h
    · exact loud_op h.2.1 fun S a w h => (by
        have := wpAnyS_of_pi hs u S _ a w (hcl.set (by rw [hone']; simp)) hB2 h
        rw [← hlen'] at this
        exact this)
    · exact loud_op h.2.2 fun S a w h => (by
        have := wpAnyS_of_pi hs v S _ a w (hcl.set (by rw [hone']; simp)) hB3 h
        rw [← hlen2'] at this
        exact this)
theorem region_pi {id : Nat} {Q : Exit → Act → World → Prop} {a : Act} {w : World} (π : Pi) (S : World → Prop) (hm : P.follows .mixedOrders = true) (hB : (Region.noSelect ops && Nat.beq π.len ops.size && piB .any ops π (Array.replicate ops.size false)) = true)
    (h : wpPi P .any ops (Q .normal) π S a w.drew) : (Code.region id ops true).wp P Q a w := by
  simp only [Bool.and_eq_true] at hB
  obtain ⟨⟨hs, hl⟩, hB⟩ := hB
  have hl' : π.len = ops.size := Nat.eq_of_beq_eq_true hl
  have h1 := wpAnyS_of_pi hs π S _ _ _ Closed.start hB h
  rw [hl'] at h1
  have h2 := wpAny_of_S _ _ _ _ _ h1
  refine wp_mono (wp_region_any hm (Q := Nq (Q .normal)) h2) fun e a w he => ?_
  obtain ⟨rfl, h⟩ := he
  exact h
section
variable {a : Act} {w : World} {N : Nat} {L : List (Nat × Value)} {o : Oper} {π ρ : Pi} {i j d : Nat} {v : Value} {S : World → Prop} {K' : (World → Prop) → Act → World → Prop}
theorem pi_nil (h : K a w) : wpPi P md ops K .nil S a w := h
theorem pi_q (hf : Has N a L) (ho : ops[i]? = some o) (hd : o.dst = some d) (hdN : Nat.blt d N = true) (hg : o.guard = none) (hS : S w) (hy : Yd P S a o v) (h : ∀ a, Has N a ((d, v) :: L) → wpPi P md ops K π S a w) : wpPi P md ops K (.q i π) S a w := by
  refine ⟨o, ho, hS, .inl ⟨by simp [Region.wanted, hg], v, hy, ?_⟩⟩
  rw [hd]
  exact h _ (hf.put hdN v)
theorem pi_gq (hf : Has N a L) (ho : ops[i]? = some o) (hw : Region.wanted o (yielded ops a.tmps) = true) (hd : o.dst = some d) (hdN : Nat.blt d N = true) (hS : S w) (hy : Yd P S a o v) (h : ∀ a, Has N a ((d, v) :: L) → wpPi P md ops K π S a w) : wpPi P md ops K (.q i π) S a w := by
  refine ⟨o, ho, hS, .inl ⟨hw, v, hy, ?_⟩⟩
  rw [hd]
  exact h _ (hf.put hdN v)
theorem pi_gs (hf : Has N a L) (ho : ops[i]? = some o) (hw : Region.wanted o (yielded ops a.tmps) = false) (hd : o.dst = some d) (hdN : Nat.blt d N = true) (hS : S w) (h : ∀ a, Has N a ((d, undef) :: L) → wpPi P md ops K π S a w) : wpPi P md ops K (.q i π) S a w := by
  refine ⟨o, ho, hS, .inr ⟨hw, ?_⟩⟩
  rw [hd]
  exact h _ (hf.put hdN _)
theorem pi_one (h : loud P md ops i (wpPi P md ops K π) S a w) : wpPi P md ops K (.l i π) S a w := h
theorem pi_three {k : Nat} {τ : Pi} (h : loud P md ops i (wpPi P md ops K π) S a w) (h2 : loud P md ops j (wpPi P md ops K ρ) S a w) (h3 : loud P md ops k (wpPi P md ops K τ) S a w) : wpPi P md ops K (.c i j k π ρ τ) S a w := ⟨h, h2, h3⟩
theorem pi_two (h : loud P md ops i (wpPi P md ops K π) S a w) (k : loud P md ops j (wpPi P md ops K ρ) S a w) : wpPi P md ops K (.b i j π ρ) S a w := ⟨h, k⟩
theorem pi_l (hf : Has N a L) (ho : ops[i]? = some o) (hd : o.dst = some d) (hdN : Nat.blt d N = true) (hg : o.guard = none) (hy : Wv P o a w (fun v w' => ∃ S' : World → Prop, (∀ x, S' x → S x) ∧ S' w' ∧ ∀ a, Has N a ((d, v) :: L) → K' S' a w')) : loud P md ops i K' S a w := by
  refine ⟨o, ho, .inl ⟨by simp [Region.wanted, hg], hy.mono fun v w' ⟨S', h1, h2, h⟩ => ⟨S', .inr ⟨h1, h2⟩, ?_⟩⟩⟩
  rw [hd]
  exact h _ (hf.put hdN v)
theorem pi_z (hf : Has N a L) (ho : ops[i]? = some o) (hd : o.dst = some d) (hdN : Nat.blt d N = true) (hg : o.guard = none) (hl : loneB md ops i = true) (hy : Wv P o a w (fun v w' => ∀ a, Has N a ((d, v) :: L) → K' (Ext w') a w')) : loud P md ops i K' S a w := by
  refine ⟨o, ho, .inl ⟨by simp [Region.wanted, hg], hy.mono fun v w' h => ⟨Ext w', .inl hl, ?_⟩⟩⟩
  rw [hd]
  exact h _ (hf.put hdN v)
theorem pi_z0 (hf : Has N a L) (ho : ops[i]? = some o) (hd : o.dst = none) (hg : o.guard = none) (hl : loneB md ops i = true) (hy : Wv P o a w (fun v w' => K' (Ext w') a w')) : loud P md ops i K' S a w := by
  refine ⟨o, ho, .inl ⟨by simp [Region.wanted, hg], hy.mono fun v w' h => ⟨Ext w', .inl hl, ?_⟩⟩⟩
  rw [hd]
  exact h
theorem pi_gl (hf : Has N a L) (ho : ops[i]? = some o) (hw : Region.wanted o (yielded ops a.tmps) = true) (hd : o.dst = some d) (hdN : Nat.blt d N = true) (hy : Wv P o a w (fun v w' => ∃ S' : World → Prop, (∀ x, S' x → S x) ∧ S' w' ∧ ∀ a, Has N a ((d, v) :: L) → K' S' a w')) : loud P md ops i K' S a w := by
  refine ⟨o, ho, .inl ⟨hw, hy.mono fun v w' ⟨S', h1, h2, h⟩ => ⟨S', .inr ⟨h1, h2⟩, ?_⟩⟩⟩
  rw [hd]
  exact h _ (hf.put hdN v)
theorem pi_ls (hf : Has N a L) (ho : ops[i]? = some o) (hw : Region.wanted o (yielded ops a.tmps) = false) (hd : o.dst = some d) (hdN : Nat.blt d N = true) (hS : S w) (h : ∀ a, Has N a ((d, undef) :: L) → K' S a w) : loud P md ops i K' S a w := by
  refine ⟨o, ho, .inr ⟨hw, hS, ?_⟩⟩
  rw [hd]
  exact h _ (hf.put hdN _)
end
end
end Go.Proofs.YtdaoecpkgobelaaGreatDoor
