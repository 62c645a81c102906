/- The program's structs as Lean data, and how they lie in memory. Printed by drive.py. -/
import Derived.Test.YtdaoecpkgobelaaGreatDoorEngR
namespace Go.Proofs.YtdaoecpkgobelaaGreatDoor
open Go Go.RowKit
set_option linter.unusedSimpArgs false
set_option linter.unusedVariables false

structure Lexicon where
  Words : (List Str)
  deriving DecidableEq

def LexiconRep : Rep Lexicon := Rep.via (sliceRep strRep) (fun x => x.Words)

theorem LexiconRep_open {w : World} {S : Nat → Prop} {x : Lexicon} {row : List Value} (h : LexiconRep.R w S x row) : ∃ (A0 : Option Addr) (c0 : Nat), row = [vL A0 x.Words c0] ∧ (sliceRep strRep).R w S x.Words [vL A0 x.Words c0] := by
  obtain ⟨B1, d1, rfl, g1⟩ := h
  exact ⟨B1, d1, rfl, ⟨B1, d1, rfl, g1⟩⟩

theorem LexiconRep_mk {w : World} {S : Nat → Prop} {x : Lexicon} {A0 : Option Addr} {c0 : Nat} (h0 : (sliceRep strRep).R w S x.Words [vL A0 x.Words c0]) : LexiconRep.R w S x [vL A0 x.Words c0] :=
  h0

structure Node where
  Final : Bool
  Letters : Str
  Next : (List Int)
  deriving DecidableEq

def NodeRep : Rep Node := Rep.via (Rep.seq boolRep (Rep.seq strRep (sliceRep intRep))) (fun x => (x.Final, x.Letters, x.Next))

theorem NodeRep_open {w : World} {S : Nat → Prop} {x : Node} {row : List Value} (h : NodeRep.R w S x row) : ∃ (A0 : Option Addr) (c0 : Nat), row = [.bool x.Final, vS x.Letters, vL A0 x.Next c0] ∧ x.Letters.length ≤ maxLen ∧ (sliceRep intRep).R w S x.Next [vL A0 x.Next c0] := by
  obtain ⟨_, _, rfl, rfl, _, _, rfl, ⟨rfl, h1⟩, ⟨B2, d2, rfl, g2⟩⟩ := h
  exact ⟨B2, d2, rfl, h1, ⟨B2, d2, rfl, g2⟩⟩

theorem NodeRep_mk {w : World} {S : Nat → Prop} {x : Node} {A0 : Option Addr} {c0 : Nat} (h0 : x.Letters.length ≤ maxLen) (h1 : (sliceRep intRep).R w S x.Next [vL A0 x.Next c0]) : NodeRep.R w S x [.bool x.Final, vS x.Letters, vL A0 x.Next c0] :=
  ⟨[.bool x.Final], _, rfl, rfl, [vS x.Letters], _, rfl, ⟨rfl, h0⟩, h1⟩

structure Dawg where
  Nodes : (List Node)
  deriving DecidableEq

def DawgRep : Rep Dawg := Rep.via (sliceRep NodeRep) (fun x => x.Nodes)

theorem DawgRep_open {w : World} {S : Nat → Prop} {x : Dawg} {row : List Value} (h : DawgRep.R w S x row) : ∃ (A0 : Option Addr) (c0 : Nat), row = [vL A0 x.Nodes c0] ∧ (sliceRep NodeRep).R w S x.Nodes [vL A0 x.Nodes c0] := by
  obtain ⟨B1, d1, rfl, g1⟩ := h
  exact ⟨B1, d1, rfl, ⟨B1, d1, rfl, g1⟩⟩

theorem DawgRep_mk {w : World} {S : Nat → Prop} {x : Dawg} {A0 : Option Addr} {c0 : Nat} (h0 : (sliceRep NodeRep).R w S x.Nodes [vL A0 x.Nodes c0]) : DawgRep.R w S x [vL A0 x.Nodes c0] :=
  h0

structure inspector where
  d : Dawg
  met : Int
  open_ : (List Bool)
  strings : (List Int)
  longest : (List Int)
  deriving DecidableEq

structure minus where
  a : Dawg
  b : Dawg
  deriving DecidableEq

structure l00Src where
  code : Str
  at_ : Int
  seed : Int
  deriving DecidableEq

structure maker where
  nodes : (List Node)
  register : (List (Str × Int))
  deriving DecidableEq

def makerRep : Rep maker := Rep.via (Rep.seq (sliceRep NodeRep) (mapRep fS fI)) (fun x => (x.nodes, x.register))

theorem makerRep_open {w : World} {S : Nat → Prop} {x : maker} {row : List Value} (h : makerRep.R w S x row) : ∃ (A0 : Option Addr) (c0 : Nat), ∃ (b1 : Nat) (o1 : Nat), row = [vL A0 x.nodes c0, vM b1] ∧ (sliceRep NodeRep).R w S x.nodes [vL A0 x.nodes c0] ∧ (mapRep fS fI).R w S x.register [vM b1] := by
  obtain ⟨_, _, rfl, ⟨B1, d1, rfl, g1⟩, ⟨B2, d2, rfl, g2⟩⟩ := h
  exact ⟨B1, d1, B2, d2, rfl, ⟨B1, d1, rfl, g1⟩, ⟨B2, d2, rfl, g2⟩⟩

theorem makerRep_mk {w : World} {S : Nat → Prop} {x : maker} {A0 : Option Addr} {c0 : Nat} {b1 : Nat} (h0 : (sliceRep NodeRep).R w S x.nodes [vL A0 x.nodes c0]) (h1 : (mapRep fS fI).R w S x.register [vM b1]) : makerRep.R w S x [vL A0 x.nodes c0, vM b1] :=
  ⟨[vL A0 x.nodes c0], _, rfl, h0, h1⟩

structure l06B where
  nodes : (List Node)
  deriving DecidableEq

structure l06W where
  d : Dawg
  out : (List Str)
  full : Bool
  deriving DecidableEq

structure l06R where
  old : (List Node)
  place : (List Int)
  out : (List Node)
  deriving DecidableEq

/-- A node with its successors' place. -/
structure NodeW where
  fin : Bool
  lets : Str
  A : Option Addr
  c : Nat
  next : List Int
def NodeW.to (x : NodeW) : Node := ⟨x.fin, x.lets, x.next⟩
noncomputable instance ownBEq : BEq Own := ⟨fun a b => @decide (a = b) (Classical.propDecidable _)⟩
instance ownLBEq : LawfulBEq Own where
  eq_of_beq := fun {a b} h => @of_decide_eq_true (a = b) (Classical.propDecidable _) h
  rfl := fun {a} => @decide_eq_true (a = a) (Classical.propDecidable _) rfl
/-- What is owned and leads nowhere. -/
def OFlat (out : List Own) : Prop := ∀ x ∈ out, ∀ (w : World) (S T : Nat → Prop), x.good w S → x.good w T
theorem OFlat.nil : OFlat [] := fun x hx => by cases hx
theorem OFlat.app {a b : List Own} (h : OFlat a) (h' : OFlat b) : OFlat (a ++ b) := fun x hx => (List.mem_append.1 hx).elim (h x) (h' x)
theorem row_flat {α : Type} {K : Rep α} {A : Option Addr} {c : Nat} {e : TypeId} {xs : List α} {app : Bool} (hK : K.Flat) (w : World) (S T : Nat → Prop) (h : (Own.row K A c e xs app).good w S) : (Own.row K A c e xs app).good w T := by
  obtain ⟨rows, hr, hrow⟩ := h
  exact ⟨rows, ⟨hr.1, fun i y hy => by obtain ⟨r, h1, h2⟩ := hr.2 i y hy; exact ⟨r, h1, hK h2⟩⟩, hrow⟩
theorem OFlat.row {α : Type} {K : Rep α} {A : Option Addr} {c : Nat} {e : TypeId} {xs : List α} {app : Bool} {out : List Own} (hK : K.Flat) (h : OFlat out) : OFlat (.row K A c e xs app :: out) := fun x hx => by
  rcases List.mem_cons.1 hx with rfl | hx
  · exact row_flat hK
  · exact h x hx
end Go.Proofs.YtdaoecpkgobelaaGreatDoor
