/- Keys of nodes: different for different nodes; the program's test of an automaton. -/
import Derived.Test.YtdaoecpkgobelaaDoorPureK4
import Derived.Test.YtdaoecpkgobelaaDoorPureN
namespace Go.Proofs.YtdaoecpkgobelaaDoor
open Go Go.RowKit
set_option linter.unusedSimpArgs false
set_option linter.unusedVariables false

theorem dec_digit : ∀ (u : Nat), ∀ c ∈ Lib.decDigits u, c ≠ 32
  | u => fun c hc => by
    rw [Lib.decDigits] at hc
    split at hc
    · rename_i h
      rw [List.mem_singleton] at hc
      subst hc
      intro e
      have := congrArg UInt8.toNat e
      rw [UInt8.toNat_ofNat'] at this
      rw [Nat.mod_eq_of_lt (by omega)] at this
      have h32 : (32 : UInt8).toNat = 32 := rfl
      omega
    · rename_i h
      rcases List.mem_append.1 hc with hc | hc
      · exact dec_digit (u / 10) c hc
      · rw [List.mem_singleton] at hc
        subst hc
        intro e
        have := congrArg UInt8.toNat e
        rw [UInt8.toNat_ofNat', Nat.mod_eq_of_lt (by omega)] at this
        have h32 : (32 : UInt8).toNat = 32 := rfl
        omega
  termination_by u => u
theorem dec_pos (u : Nat) : 1 ≤ (Lib.decDigits u).length := by
  rw [Lib.decDigits]
  split <;> simp
theorem dec_byte {a b : Nat} (ha : a < 10) (hb : b < 10) (h : UInt8.ofNat (48 + a) = UInt8.ofNat (48 + b)) : a = b := by
  have := congrArg UInt8.toNat h
  rw [UInt8.toNat_ofNat', UInt8.toNat_ofNat', Nat.mod_eq_of_lt (by omega), Nat.mod_eq_of_lt (by omega)] at this
  omega
theorem dec_inj : ∀ (u v : Nat), Lib.decDigits u = Lib.decDigits v → u = v
  | u, v => fun h => by
    rw [Lib.decDigits] at h
    split at h
    · rename_i hu
      rw [Lib.decDigits] at h
      split at h
      · rename_i hv
        exact dec_byte hu hv (List.cons.inj h).1
      · have := congrArg List.length h
        have h1 := dec_pos (v / 10)
        simp only [List.length_cons, List.length_nil, List.length_append] at this
        omega
    · rename_i hu
      rw [Lib.decDigits.eq_def v] at h
      split at h
      · have := congrArg List.length h
        have h1 := dec_pos (u / 10)
        simp only [List.length_cons, List.length_nil, List.length_append] at this
        omega
      · rename_i hv
        obtain ⟨h1, h2⟩ := List.append_inj' h rfl
        have e1 := dec_inj (u / 10) (v / 10) h1
        have e2 := dec_byte (Nat.mod_lt _ (by decide)) (Nat.mod_lt _ (by decide)) (List.cons.inj h2).1
        omega
  termination_by u => u
theorem sep_inj {z : UInt8} : ∀ {a b r s : Str}, z ∉ a → z ∉ b → a ++ z :: r = b ++ z :: s → a = b ∧ r = s
  | [], [], r, s, _, _, h => ⟨rfl, (List.cons.inj h).2⟩
  | [], y :: b, r, s, _, hb, h => absurd (List.cons.inj h).1 (fun e => hb (e ▸ List.mem_cons_self))
  | x :: a, [], r, s, ha, _, h => absurd (List.cons.inj h).1 (fun e => ha (e ▸ List.mem_cons_self))
  | x :: a, y :: b, r, s, ha, hb, h => by
    obtain ⟨h1, h2⟩ := List.cons.inj h
    obtain ⟨h3, h4⟩ := sep_inj (fun m => ha (List.mem_cons_of_mem _ m)) (fun m => hb (List.mem_cons_of_mem _ m)) h2
    exact ⟨by rw [h1, h3], h4⟩

def pieceA (e : UInt8 × Nat) : Str := e.1 :: (Lib.decDigits e.2 ++ [32])
/-- The text of a node. -/
def keyA (x : Bool × List (UInt8 × Nat)) : Str := (if x.1 then [43] else []) ++ x.2.flatMap pieceA
theorem pieces_inj : ∀ {es es' : List (UInt8 × Nat)}, es.flatMap pieceA = es'.flatMap pieceA → es = es'
  | [], [], _ => rfl
  | [], e :: es, h => by rw [List.flatMap_nil, List.flatMap_cons] at h; cases h
  | e :: es, [], h => by rw [List.flatMap_nil, List.flatMap_cons] at h; cases h
  | (c, t) :: es, (d, u) :: es', h => by
    rw [List.flatMap_cons, List.flatMap_cons] at h
    unfold pieceA at h
    rw [List.cons_append, List.cons_append, List.append_assoc, List.append_assoc] at h
    obtain ⟨h1, h2⟩ := List.cons.inj h
    obtain ⟨h3, h4⟩ := sep_inj (z := 32) (fun m => dec_digit t 32 m rfl) (fun m => dec_digit u 32 m rfl) h2
    simp only at h1
    rw [h1, dec_inj t u h3, pieces_inj h4]
theorem keyA_inj {x y : Bool × List (UInt8 × Nat)} (hx : ∀ e ∈ x.2, formB e.1 = true) (hy : ∀ e ∈ y.2, formB e.1 = true) (h : keyA x = keyA y) : x = y := by
  obtain ⟨f, es⟩ := x
  obtain ⟨g, es'⟩ := y
  have h43 : formB 43 = false := by decide
  have key : ∀ (es es' : List (UInt8 × Nat)), (∀ e ∈ es', formB e.1 = true) → keyA (true, es) ≠ keyA (false, es') := by
    intro es es' hf h
    unfold keyA at h
    simp only [if_true, Bool.false_eq_true, if_false, List.nil_append] at h
    cases es' with
    | nil => cases h
    | cons e es' =>
      rw [List.flatMap_cons] at h
      have h1 := (List.cons.inj h).1
      have := hf e List.mem_cons_self
      rw [← h1, h43] at this
      cases this
  cases f <;> cases g
  · exact Prod.ext rfl (pieces_inj h)
  · exact absurd h.symm (key es' es hx)
  · exact absurd h (key es es' hy)
  · exact Prod.ext rfl (pieces_inj (List.append_cancel_left h))
theorem piece_len (e : UInt8 × Nat) (h : e.2 ≤ 3000) : (pieceA e).length ≤ 23 := by
  unfold pieceA
  have h1 := Lib.itoa_length_le (e.2 : Int) (by omega) (by omega)
  unfold Lib.itoa at h1
  rw [if_neg (by omega), Int.toNat_natCast] at h1
  simp only [List.length_cons, List.length_append, List.length_nil]
  omega
theorem pieces_len : ∀ (es : List (UInt8 × Nat)), (∀ e ∈ es, e.2 ≤ 3000) → (es.flatMap pieceA).length ≤ 23 * es.length
  | [], _ => Nat.le_refl _
  | e :: es, h => by
    rw [List.flatMap_cons, List.length_append, List.length_cons]
    have := piece_len e (h e List.mem_cons_self)
    have := pieces_len es fun x hx => h x (List.mem_cons_of_mem _ hx)
    omega

theorem keyOf_eq {n : Nat} {x : Node} (hn : n ≤ 3000) (hx : NodeOk n x) (hl : x.Next.length ≤ 2000000) : m_impl_keyOf x = some (keyA (ndN x)) := by
  have hel := hx.edges_len
  have hto : ∀ e ∈ (ndN x).2, e.2 ≤ 3000 := fun e he => by
    have := (List.of_mem_zip (he : (e.1, e.2) ∈ _)).2
    obtain ⟨t, ht, e1⟩ := List.mem_map.1 this
    have := hx.next t ht
    omega
  have hhead : (bif x.Final then (m_strings_Builder_WriteByte ([] : Str) 43).bind fun y22 => some y22.2 else some ([] : Str) : Option Str) = some (if x.Final then [43] else []) := by
    cases x.Final <;> rfl
  unfold m_impl_keyOf
  rw [hhead, Option.bind_some]
  have hpre : (if x.Final = true then ([43] : Str) else []).length ≤ 1 := by split <;> simp
  generalize hp : (if x.Final = true then ([43] : Str) else []) = pre at hpre
  have hloop : loopM (fun s : Str × Int => m_impl_keyOf_l1 x s.1 s.2) (pre, 0) = some (pre ++ (ndN x).2.flatMap pieceA) := by
    have htk : (ndN x).2 = (ndN x).2.take x.Next.length := (List.take_of_length_le (by omega)).symm
    rw [htk]
    have h0 : (pre, (0 : Int)) = (pre ++ ((ndN x).2.take 0).flatMap pieceA, ((0 : Nat) : Int)) := by simp
    rw [h0]
    refine loop_run (fun i => (pre ++ ((ndN x).2.take i).flatMap pieceA, ((i : Nat) : Int))) x.Next.length _ (fun i hi => ?_) ?_ 0 (Nat.zero_le _)
    · have he := hx.edge hi
      have hli : i < x.Letters.length := by rw [hx.len]; exact hi
      have hlen : (((ndN x).2.take i).flatMap pieceA).length ≤ 23 * x.Next.length := by
        have := pieces_len ((ndN x).2.take i) fun e he => hto e (List.mem_of_mem_take he)
        rw [List.length_take] at this
        omega
      have hnn := (hx.next _ (List.getElem_mem hi))
      obtain ⟨t, ht⟩ : ∃ t : Nat, x.Next[i] = (t : Int) := ⟨x.Next[i].toNat, by omega⟩
      have hit : Lib.itoa x.Next[i] = Lib.decDigits t := by rw [ht]; unfold Lib.itoa; rw [if_neg (by omega), Int.toNat_natCast]
      have hpl := piece_len (x.Letters[i], t) (by show t ≤ 3000; omega)
      unfold pieceA at hpl
      simp only [List.length_cons, List.length_append, List.length_nil] at hpl
      show m_impl_keyOf_l1 x _ ((i : Nat) : Int) = _
      unfold m_impl_keyOf_l1
      rw [chk_succ (show i ≤ 8000000000000000000 by omega), decide_eq_true (show (i : Int) < (x.Next.length : Int) by omega), cond_true, bind_of (getL_at hi), Option.bind_some]
      have hsub : subL x.Letters (i : Int) ((i + 1 : Nat) : Int) = some [x.Letters[i]] := by
        rw [subL_of (by omega) (by omega) (by omega), Int.toNat_natCast, Int.toNat_natCast, Nat.add_sub_cancel_left, List.drop_eq_getElem_cons hli]
        rfl
      rw [bind_of hsub, bind_of (Decimal_eq _), hit, catL_of (by simp; omega), Option.bind_some, catL_of (by simp; omega), Option.bind_some]
      have hw : ∀ (a b : Str), a.length + b.length ≤ 100000000 → m_strings_Builder_WriteString a b = some ((b.length : Int), (), a ++ b) := fun a b h => by
        unfold m_strings_Builder_WriteString
        show (catL a b).bind _ = _
        rw [catL_of h]; rfl
      rw [bind_of (hw _ _ (by simp only [List.length_append, List.length_cons, List.length_nil]; omega)), Option.bind_some]
      have : (ndN x).2.take (i + 1) = (ndN x).2.take i ++ [(x.Letters[i], t)] := by
        rw [List.take_add_one, he, ht, Int.toNat_natCast]; rfl
      rw [this, List.flatMap_append, List.append_assoc]
      simp [pieceA]
    · show m_impl_keyOf_l1 x _ ((x.Next.length : Nat) : Int) = _
      unfold m_impl_keyOf_l1
      rw [decide_eq_false (by omega)]; rfl
  rw [bind_of (bind_of hloop ▸ rfl : ((loopM (fun s : Str × Int => m_impl_keyOf_l1 x s.1 s.2) (pre, 0)).bind fun xs52 => some xs52) = some (pre ++ (ndN x).2.flatMap pieceA))]
  unfold keyA
  rw [← hp]
  rfl

end Go.Proofs.YtdaoecpkgobelaaDoor
