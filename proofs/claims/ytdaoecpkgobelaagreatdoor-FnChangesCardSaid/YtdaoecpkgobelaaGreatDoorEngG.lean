/- The engine, seventh part: small words for the printed proofs. -/
import Derived.Test.YtdaoecpkgobelaaGreatDoorEngF
namespace Go.Proofs.YtdaoecpkgobelaaGreatDoor
open Go Go.RowKit
set_option linter.unusedSimpArgs false
set_option linter.unusedVariables false
section
variable {P : Program} {Q : Exit → Act → World → Prop} {J : Act → World → Prop} {a : Act} {w : World}
theorem then_n (h : J a w) : Exit.then J Q .normal a w := h
theorem then_x {id : Nat} (h : Q (.exit id) a w) : Exit.then J Q (.exit id) a w := h
theorem then_r (h : Q .ret a w) : Exit.then J Q .ret a w := h
theorem blk_n {id : Nat} (h : Q .normal a w) : Exit.inBlock id Q .normal a w := h
theorem blk_r {id : Nat} (h : Q .ret a w) : Exit.inBlock id Q .ret a w := h
end
section
variable {P : Program} {ops : Array Oper} {K : Act → World → Prop} {a : Act} {w : World} {N : Nat} {L : List (Nat × Value)} {o : Oper} {rest : List Oper} {d : Nat} {v : Value}
theorem q_ (hf : Has N a L) (hd : o.dst = some d) (hdN : Nat.blt d N = true) (hg : o.guard = none) (hy : Yd P (Ext w) a o v) (h : ∀ a, Has N a ((d, v) :: L) → wpPl P ops K rest a w) : wpPl P ops K (o :: rest) a w := pl_q hf hd hdN hg (Ext.refl w) hy h
theorem gq (hw : Region.wanted o (yielded ops a.tmps) = true) (hf : Has N a L) (hd : o.dst = some d) (hdN : Nat.blt d N = true) (hy : Yd P (Ext w) a o v) (h : ∀ a, Has N a ((d, v) :: L) → wpPl P ops K rest a w) : wpPl P ops K (o :: rest) a w := pl_gq hw hf hd hdN (Ext.refl w) hy h
end
def Goods (w : World) (S : Nat → Prop) : List Shr → Prop
  | [] => True
  | y :: ys => y.good w S ∧ Goods w S ys
theorem Goods.all {w : World} {S : Nat → Prop} : ∀ {ys : List Shr}, Goods w S ys → ∀ y ∈ ys, y.good w S
  | [], _, y, h => by simp at h
  | z :: ys, hg, y, h => by
    rcases List.mem_cons.1 h with rfl | h
    · exact hg.1
    · exact Goods.all hg.2 y h
theorem Mem.begin (C : Cx) (shr : List Shr) (h : Goods C.w0 C.S0 shr) : Mem C C.w0 [] shr := Mem.start C h.all
section
variable {w w' : World} {C : Cx} {own : List Own} {shr shr' : List Shr}
theorem Mem.addIn (h : Mem C C.w0 own shr) (hd : ∀ b, C.S0 b → ¬ ownB own b) {y : Shr} (hy : y.good C.w0 C.S0) : Mem C C.w0 own (y :: shr) :=
  h.add (Shr.good_same hy (fun _ _ => rfl) fun b hb => ⟨.inl hb, C.s0 b hb, hd b hb⟩)
theorem sub_dis {given rest : List Own} : ∀ b, Sh C (given ++ rest) w b → ¬ ownB given b := fun b hb hg => hb.2.2 (ownB_append.2 (.inl hg))
def pickS (shr : List Shr) (ks : List Nat) : Option (List Shr) := ks.mapM fun k => shr[k]?
theorem pickS_mem {shr : List Shr} : ∀ {ks : List Nat} {shr' : List Shr}, pickS shr ks = some shr' → ∀ y ∈ shr', y ∈ shr
  | [], shr', h, y, hy => by simp [pickS] at h; subst h; simp at hy
  | k :: ks, shr', h, y, hy => by
    simp only [pickS, List.mapM_cons] at h
    cases hk : shr[k]? with
    | none => rw [hk] at h; cases h
    | some z =>
      rw [hk] at h
      cases hr : ks.mapM (fun k => shr[k]?) with
      | none => rw [hr] at h; cases h
      | some ys =>
        rw [hr] at h
        cases h
        rcases List.mem_cons.1 hy with rfl | hy
        · exact List.mem_of_getElem? hk
        · exact pickS_mem (ks := ks) hr y hy
theorem Mem.pick (hM : Mem C w own shr) (ks : List Nat) (h : pickS shr ks = some shr') : Mem C w own shr' := hM.keep (pickS_mem h)
end
theorem R64_lit {x : Int} (h : r64 x = true) : R64 x := r64_iff.1 h
theorem R64_len {α : Type} {xs : List α} (h : xs.length ≤ maxLen) : R64 xs.length := by unfold maxLen at h; exact ⟨by omega, by omega⟩
theorem R64_byte (c : UInt8) : R64 c.toNat := by have := c.toNat_lt; exact ⟨by omega, by omega⟩
theorem R64_min {x y : Int} (hx : R64 x) (hy : R64 y) : R64 (min x y) := by
  rcases Int.le_total x y with h | h
  · rw [Int.min_eq_left h]; exact hx
  · rw [Int.min_eq_right h]; exact hy
theorem R64_max {x y : Int} (hx : R64 x) (hy : R64 y) : R64 (max x y) := by
  rcases Int.le_total x y with h | h
  · rw [Int.max_eq_right h]; exact hy
  · rw [Int.max_eq_left h]; exact hx
theorem remI_R {x y z : Int} (h : remI x y = some z) (hx : R64 x) : R64 z := by
  unfold remI at h
  rcases cond_some h with ⟨_, h⟩ | ⟨h0, h⟩
  · cases h
  · cases h
    obtain ⟨h1, h2⟩ := hx
    have h3 : (x.tmod y).natAbs ≤ x.natAbs := by rw [Int.natAbs_tmod]; exact Nat.mod_le _ _
    rcases Int.le_total 0 x with h | h
    · have := Int.tmod_nonneg y h
      exact ⟨by omega, by omega⟩
    · have := Int.tmod_nonneg y (show 0 ≤ -x by omega)
      rw [Int.neg_tmod] at this
      exact ⟨by omega, by omega⟩
theorem len_lim {α : Type} {xs : List α} (h : xs.length ≤ lim) : xs.length ≤ maxLen := by unfold lim at h; unfold maxLen; omega
theorem cat_len {α : Type} {xs ys zs : List α} (h : catL xs ys = some zs) : zs.length ≤ maxLen := by
  obtain ⟨rfl, h1⟩ := catL_some h
  exact len_lim (by rw [List.length_append]; exact h1)
theorem sub_len {α : Type} {xs ys : List α} {l u : Int} (h : subL xs l u = some ys) (hx : xs.length ≤ maxLen) : ys.length ≤ maxLen := by
  obtain ⟨_, _, _, _, h⟩ := subL_some h
  omega
theorem lit_len {α : Type} {xs : List α} (h : Nat.ble xs.length 1000000 = true) : xs.length ≤ maxLen := by
  have := Nat.le_of_ble_eq_true h; unfold maxLen; omega
theorem slice_len {α : Type} {K : Rep α} {w : World} {S : Nat → Prop} {xs : List α} {v : Value} (h : (sliceRep K).R w S xs [v]) : xs.length ≤ maxLen := by
  obtain ⟨A, c, _, h1, h2, _⟩ := h; omega
theorem slice_cap {α : Type} {K : Rep α} {w : World} {S : Nat → Prop} {xs : List α} {A : Option Addr} {c : Nat} (h : (sliceRep K).R w S xs [vL A xs c]) : xs.length ≤ c := by
  obtain ⟨A', c', he, h1, h2, _⟩ := h
  simp only [List.cons.injEq, Value.slice.injEq, and_true] at he
  obtain ⟨_, _, rfl⟩ := he
  exact h1
theorem slice_form {α : Type} {K : Rep α} {w : World} {S : Nat → Prop} {xs : List α} {row : List Value} (h : (sliceRep K).R w S xs row) : ∃ A c, row = [vL A xs c] ∧ (sliceRep K).R w S xs [vL A xs c] := by
  obtain ⟨A, c, rfl, h⟩ := h
  exact ⟨A, c, rfl, A, c, rfl, h⟩
theorem row_len {α : Type} {K : Rep α} {w : World} {S : Nat → Prop} {A : Option Addr} {c : Nat} {e : TypeId} {xs : List α} {app : Bool} (h : (Own.row K A c e xs app).good w S) : xs.length ≤ maxLen := by
  obtain ⟨rows, hr, h⟩ := h
  rcases h with ⟨rfl, rfl, rfl⟩ | ⟨g, cur, fr, rfl, _, h1, h2, _⟩
  · unfold maxLen; simp
  · omega
theorem some_inj {α : Type} {x y : α} (h : some x = some y) : x = y := Option.some.inj h
end Go.Proofs.YtdaoecpkgobelaaGreatDoor
