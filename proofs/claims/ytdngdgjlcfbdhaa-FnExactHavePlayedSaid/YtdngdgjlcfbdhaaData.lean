/- The program's flat structs as Lean structures, and the contracts of the laws' helpers over them. Printed by gen_data.py. -/
import Derived.Test.YtdngdgjlcfbdhaaBase
namespace Go.Proofs.Ytdngdgjlcfbdhaa
open Go.RowKit Go.WideShapes
set_option linter.unusedSimpArgs false
set_option linter.unusedVariables false
attribute [local go_sem ↓] Go.wp_at_zero Go.wp_at_succ

structure Grid where
  rows : Int
  cols : Int
  cells_ : ByteArray
  deriving DecidableEq

def Grid.cells (x : Grid) : List Value := [.int .i64 x.rows, .int .i64 x.cols, .string x.cells_]
def gridRep : Rep Grid := Rep.flat Grid.cells 3 (fun _ => rfl)
def Grid.bulk (x : Grid) : Nat := x.cells_.size
def Grid.eqB (x y : Grid) : Bool := decide (x = y)
def Grid.ok (x : Grid) : Prop := I64 x.rows ∧ I64 x.cols ∧ x.cells_.size ≤ maxLen
theorem Grid.agg (x : Grid) : Value.agg x.cells.toArray = .agg #[.int .i64 x.rows, .int .i64 x.cols, .string x.cells_] := rfl

set_option maxRecDepth 100000 in
theorem toGrid_any (x0 : Int) (x1 : Int) (x2 : ByteArray) (w : World) :
    Calls Try.prog 19 #[.agg #[.int .i64 x0, .int .i64 x1, .string x2]] w fun e w' => e = .returned (.agg #[.int .i64 x0, .int .i64 x1, .string x2]) ∧ Below w.heap.size w w' := by
  go_enter Try.func19, Try.ntmps19
  go_wp2
  refine bodyPost_ret (v := .agg #[.int .i64 x0, .int .i64 x1, .string x2]) (by simp [results, Try.results19, go_sem]) rfl ⟨rfl, ?_⟩
  (repeat' (first | (with_reducible exact Below.refl _ _) | (with_reducible assumption) | (with_reducible refine Below.alloc ?_ ?_ _) | (with_reducible refine Below.drew ?_) | (with_reducible refine bdrewN ?_ _) | (with_reducible refine Below.setCell ?_ ?_ _) | (first | (with_reducible exact Nat.le_refl _) | (with_reducible assumption) | omega | (simp only [World.size_alloc, World.size_setCell, World.size_drew]; omega) | (simp; omega) | (simp; done))))

set_option maxRecDepth 100000 in
theorem szGrid_any (x0 : Int) (x1 : Int) (x2 : ByteArray) (l : Int) (w : World) (hx2 : x2.size ≤ maxLen) (h0 : 0 ≤ l) (h1 : l ≤ 1048576) :
    Calls Try.prog 17 #[.agg #[.int .i64 x0, .int .i64 x1, .string x2], .int .i64 l] w fun e w' => (∃ q : Int, e = .returned (.int .i64 q) ∧ -1 ≤ q ∧ (0 ≤ q → (x2.size : Int) + q = l)) ∧ Below w.heap.size w w' := by
  unfold maxLen at *
  go_enter Try.func17, Try.ntmps17
  go_wp2
  all_goals (go_ret; refine ⟨⟨_, rfl, by omega, by omega⟩, ?_⟩)
  all_goals (repeat' (first | (with_reducible exact Below.refl _ _) | (with_reducible assumption) | (with_reducible refine Below.alloc ?_ ?_ _) | (with_reducible refine Below.drew ?_) | (with_reducible refine bdrewN ?_ _) | (with_reducible refine Below.setCell ?_ ?_ _) | (first | (with_reducible exact Nat.le_refl _) | (with_reducible assumption) | omega | (simp only [World.size_alloc, World.size_setCell, World.size_drew]; omega) | (simp; omega) | (simp; done))))

set_option maxRecDepth 100000 in
theorem eqGrid_any (x0 : Int) (x1 : Int) (x2 : ByteArray) (y0 : Int) (y1 : Int) (y2 : ByteArray) (w : World) :
    Calls Try.prog 31 #[.agg #[.int .i64 x0, .int .i64 x1, .string x2], .agg #[.int .i64 y0, .int .i64 y1, .string y2]] w fun e w' => e = .returned (.bool (Grid.eqB { rows := x0, cols := x1, cells_ := x2 } { rows := y0, cols := y1, cells_ := y2 })) ∧ Below w.heap.size w w' := by
  go_enter Try.func31, Try.ntmps31
  go_wp2
  all_goals (go_ret; refine ⟨ret_bool ?_, ?_⟩)
  all_goals go_light
  all_goals (try clear hbw1 hcw1 hfw1)
  all_goals first | ((repeat' (first | (with_reducible exact Below.refl _ _) | (with_reducible assumption) | (with_reducible refine Below.alloc ?_ ?_ _) | (with_reducible refine Below.drew ?_) | (with_reducible refine bdrewN ?_ _) | (with_reducible refine Below.setCell ?_ ?_ _) | (first | (with_reducible exact Nat.le_refl _) | (with_reducible assumption) | omega | (simp only [World.size_alloc, World.size_setCell, World.size_drew]; omega) | (simp; omega) | (simp; done)))); done) | (simp_all [bytes_beq, Grid.eqB]; done) | (simp_all [bytes_beq, Grid.eqB]; grind)

structure Slot where
  row : Int
  col : Int
  down : Bool
  length : Int
  deriving DecidableEq

def Slot.cells (x : Slot) : List Value := [.int .i64 x.row, .int .i64 x.col, .bool x.down, .int .i64 x.length]
def slotRep : Rep Slot := Rep.flat Slot.cells 4 (fun _ => rfl)
def Slot.bulk (x : Slot) : Nat := 0
def Slot.eqB (x y : Slot) : Bool := decide (x = y)
def Slot.ok (x : Slot) : Prop := I64 x.row ∧ I64 x.col ∧ I64 x.length
theorem Slot.agg (x : Slot) : Value.agg x.cells.toArray = .agg #[.int .i64 x.row, .int .i64 x.col, .bool x.down, .int .i64 x.length] := rfl

structure Member where
  name : ByteArray
  rating : Int
  deriving DecidableEq

def Member.cells (x : Member) : List Value := [.string x.name, .int .i64 x.rating]
def memberRep : Rep Member := Rep.flat Member.cells 2 (fun _ => rfl)
def Member.bulk (x : Member) : Nat := x.name.size
def Member.eqB (x y : Member) : Bool := decide (x = y)
def Member.ok (x : Member) : Prop := x.name.size ≤ maxLen ∧ I64 x.rating
theorem Member.agg (x : Member) : Value.agg x.cells.toArray = .agg #[.string x.name, .int .i64 x.rating] := rfl

set_option maxRecDepth 100000 in
theorem toMember_any (x0 : ByteArray) (x1 : Int) (w : World) :
    Calls Try.prog 106 #[.agg #[.string x0, .int .i64 x1]] w fun e w' => e = .returned (.agg #[.string x0, .int .i64 x1]) ∧ Below w.heap.size w w' := by
  go_enter Try.func106, Try.ntmps106
  go_wp2
  refine bodyPost_ret (v := .agg #[.string x0, .int .i64 x1]) (by simp [results, Try.results106, go_sem]) rfl ⟨rfl, ?_⟩
  (repeat' (first | (with_reducible exact Below.refl _ _) | (with_reducible assumption) | (with_reducible refine Below.alloc ?_ ?_ _) | (with_reducible refine Below.drew ?_) | (with_reducible refine bdrewN ?_ _) | (with_reducible refine Below.setCell ?_ ?_ _) | (first | (with_reducible exact Nat.le_refl _) | (with_reducible assumption) | omega | (simp only [World.size_alloc, World.size_setCell, World.size_drew]; omega) | (simp; omega) | (simp; done))))

set_option maxRecDepth 100000 in
theorem szMember_any (x0 : ByteArray) (x1 : Int) (l : Int) (w : World) (hx0 : x0.size ≤ maxLen) (h0 : 0 ≤ l) (h1 : l ≤ 1048576) :
    Calls Try.prog 105 #[.agg #[.string x0, .int .i64 x1], .int .i64 l] w fun e w' => (∃ q : Int, e = .returned (.int .i64 q) ∧ -1 ≤ q ∧ (0 ≤ q → (x0.size : Int) + q = l)) ∧ Below w.heap.size w w' := by
  unfold maxLen at *
  go_enter Try.func105, Try.ntmps105
  go_wp2
  all_goals (go_ret; refine ⟨⟨_, rfl, by omega, by omega⟩, ?_⟩)
  all_goals (repeat' (first | (with_reducible exact Below.refl _ _) | (with_reducible assumption) | (with_reducible refine Below.alloc ?_ ?_ _) | (with_reducible refine Below.drew ?_) | (with_reducible refine bdrewN ?_ _) | (with_reducible refine Below.setCell ?_ ?_ _) | (first | (with_reducible exact Nat.le_refl _) | (with_reducible assumption) | omega | (simp only [World.size_alloc, World.size_setCell, World.size_drew]; omega) | (simp; omega) | (simp; done))))

set_option maxRecDepth 100000 in
theorem eqMember_any (x0 : ByteArray) (x1 : Int) (y0 : ByteArray) (y1 : Int) (w : World) :
    Calls Try.prog 107 #[.agg #[.string x0, .int .i64 x1], .agg #[.string y0, .int .i64 y1]] w fun e w' => e = .returned (.bool (Member.eqB { name := x0, rating := x1 } { name := y0, rating := y1 })) ∧ Below w.heap.size w w' := by
  go_enter Try.func107, Try.ntmps107
  go_wp2
  all_goals (go_ret; refine ⟨ret_bool ?_, ?_⟩)
  all_goals go_light
  all_goals (try clear hbw1 hcw1 hfw1)
  all_goals first | ((repeat' (first | (with_reducible exact Below.refl _ _) | (with_reducible assumption) | (with_reducible refine Below.alloc ?_ ?_ _) | (with_reducible refine Below.drew ?_) | (with_reducible refine bdrewN ?_ _) | (with_reducible refine Below.setCell ?_ ?_ _) | (first | (with_reducible exact Nat.le_refl _) | (with_reducible assumption) | omega | (simp only [World.size_alloc, World.size_setCell, World.size_drew]; omega) | (simp; omega) | (simp; done)))); done) | (simp_all [bytes_beq, Member.eqB]; done) | (simp_all [bytes_beq, Member.eqB]; grind)

structure Result where
  a : ByteArray
  b : ByteArray
  scoreA : Int
  scoreB : Int
  deriving DecidableEq

def Result.cells (x : Result) : List Value := [.string x.a, .string x.b, .int .i64 x.scoreA, .int .i64 x.scoreB]
def resultRep : Rep Result := Rep.flat Result.cells 4 (fun _ => rfl)
def Result.bulk (x : Result) : Nat := x.a.size + x.b.size
def Result.eqB (x y : Result) : Bool := decide (x = y)
def Result.ok (x : Result) : Prop := x.a.size ≤ maxLen ∧ x.b.size ≤ maxLen ∧ I64 x.scoreA ∧ I64 x.scoreB
theorem Result.agg (x : Result) : Value.agg x.cells.toArray = .agg #[.string x.a, .string x.b, .int .i64 x.scoreA, .int .i64 x.scoreB] := rfl

set_option maxRecDepth 100000 in
theorem toResult_any (x0 : ByteArray) (x1 : ByteArray) (x2 : Int) (x3 : Int) (w : World) :
    Calls Try.prog 67 #[.agg #[.string x0, .string x1, .int .i64 x2, .int .i64 x3]] w fun e w' => e = .returned (.agg #[.string x0, .string x1, .int .i64 x2, .int .i64 x3]) ∧ Below w.heap.size w w' := by
  go_enter Try.func67, Try.ntmps67
  go_wp2
  refine bodyPost_ret (v := .agg #[.string x0, .string x1, .int .i64 x2, .int .i64 x3]) (by simp [results, Try.results67, go_sem]) rfl ⟨rfl, ?_⟩
  (repeat' (first | (with_reducible exact Below.refl _ _) | (with_reducible assumption) | (with_reducible refine Below.alloc ?_ ?_ _) | (with_reducible refine Below.drew ?_) | (with_reducible refine bdrewN ?_ _) | (with_reducible refine Below.setCell ?_ ?_ _) | (first | (with_reducible exact Nat.le_refl _) | (with_reducible assumption) | omega | (simp only [World.size_alloc, World.size_setCell, World.size_drew]; omega) | (simp; omega) | (simp; done))))

set_option maxRecDepth 100000 in
theorem szResult_any (x0 : ByteArray) (x1 : ByteArray) (x2 : Int) (x3 : Int) (l : Int) (w : World) (hx0 : x0.size ≤ maxLen) (hx1 : x1.size ≤ maxLen) (h0 : 0 ≤ l) (h1 : l ≤ 1048576) :
    Calls Try.prog 65 #[.agg #[.string x0, .string x1, .int .i64 x2, .int .i64 x3], .int .i64 l] w fun e w' => (∃ q : Int, e = .returned (.int .i64 q) ∧ -1 ≤ q ∧ (0 ≤ q → (x0.size : Int) + (x1.size : Int) + q = l)) ∧ Below w.heap.size w w' := by
  unfold maxLen at *
  go_enter Try.func65, Try.ntmps65
  go_wp2
  all_goals (go_ret; refine ⟨⟨_, rfl, by omega, by omega⟩, ?_⟩)
  all_goals (repeat' (first | (with_reducible exact Below.refl _ _) | (with_reducible assumption) | (with_reducible refine Below.alloc ?_ ?_ _) | (with_reducible refine Below.drew ?_) | (with_reducible refine bdrewN ?_ _) | (with_reducible refine Below.setCell ?_ ?_ _) | (first | (with_reducible exact Nat.le_refl _) | (with_reducible assumption) | omega | (simp only [World.size_alloc, World.size_setCell, World.size_drew]; omega) | (simp; omega) | (simp; done))))

set_option maxRecDepth 100000 in
theorem eqResult_any (x0 : ByteArray) (x1 : ByteArray) (x2 : Int) (x3 : Int) (y0 : ByteArray) (y1 : ByteArray) (y2 : Int) (y3 : Int) (w : World) :
    Calls Try.prog 70 #[.agg #[.string x0, .string x1, .int .i64 x2, .int .i64 x3], .agg #[.string y0, .string y1, .int .i64 y2, .int .i64 y3]] w fun e w' => e = .returned (.bool (Result.eqB { a := x0, b := x1, scoreA := x2, scoreB := x3 } { a := y0, b := y1, scoreA := y2, scoreB := y3 })) ∧ Below w.heap.size w w' := by
  go_enter Try.func70, Try.ntmps70
  go_wp2
  all_goals (go_ret; refine ⟨ret_bool ?_, ?_⟩)
  all_goals go_light
  all_goals (try clear hbw1 hcw1 hfw1)
  all_goals first | ((repeat' (first | (with_reducible exact Below.refl _ _) | (with_reducible assumption) | (with_reducible refine Below.alloc ?_ ?_ _) | (with_reducible refine Below.drew ?_) | (with_reducible refine bdrewN ?_ _) | (with_reducible refine Below.setCell ?_ ?_ _) | (first | (with_reducible exact Nat.le_refl _) | (with_reducible assumption) | omega | (simp only [World.size_alloc, World.size_setCell, World.size_drew]; omega) | (simp; omega) | (simp; done)))); done) | (simp_all [bytes_beq, Result.eqB]; done) | (simp_all [bytes_beq, Result.eqB]; grind)

structure Play where
  row : Int
  col : Int
  down : Bool
  word : ByteArray
  deriving DecidableEq

def Play.cells (x : Play) : List Value := [.int .i64 x.row, .int .i64 x.col, .bool x.down, .string x.word]
def playRep : Rep Play := Rep.flat Play.cells 4 (fun _ => rfl)
def Play.bulk (x : Play) : Nat := x.word.size
def Play.eqB (x y : Play) : Bool := decide (x = y)
def Play.ok (x : Play) : Prop := I64 x.row ∧ I64 x.col ∧ x.word.size ≤ maxLen
theorem Play.agg (x : Play) : Value.agg x.cells.toArray = .agg #[.int .i64 x.row, .int .i64 x.col, .bool x.down, .string x.word] := rfl

set_option maxRecDepth 100000 in
theorem toPlay_any (x0 : Int) (x1 : Int) (x2 : Bool) (x3 : ByteArray) (w : World) :
    Calls Try.prog 128 #[.agg #[.int .i64 x0, .int .i64 x1, .bool x2, .string x3]] w fun e w' => e = .returned (.agg #[.int .i64 x0, .int .i64 x1, .bool x2, .string x3]) ∧ Below w.heap.size w w' := by
  go_enter Try.func128, Try.ntmps128
  go_wp2
  refine bodyPost_ret (v := .agg #[.int .i64 x0, .int .i64 x1, .bool x2, .string x3]) (by simp [results, Try.results128, go_sem]) rfl ⟨rfl, ?_⟩
  (repeat' (first | (with_reducible exact Below.refl _ _) | (with_reducible assumption) | (with_reducible refine Below.alloc ?_ ?_ _) | (with_reducible refine Below.drew ?_) | (with_reducible refine bdrewN ?_ _) | (with_reducible refine Below.setCell ?_ ?_ _) | (first | (with_reducible exact Nat.le_refl _) | (with_reducible assumption) | omega | (simp only [World.size_alloc, World.size_setCell, World.size_drew]; omega) | (simp; omega) | (simp; done))))

set_option maxRecDepth 100000 in
theorem szPlay_any (x0 : Int) (x1 : Int) (x2 : Bool) (x3 : ByteArray) (l : Int) (w : World) (hx3 : x3.size ≤ maxLen) (h0 : 0 ≤ l) (h1 : l ≤ 1048576) :
    Calls Try.prog 127 #[.agg #[.int .i64 x0, .int .i64 x1, .bool x2, .string x3], .int .i64 l] w fun e w' => (∃ q : Int, e = .returned (.int .i64 q) ∧ -1 ≤ q ∧ (0 ≤ q → (x3.size : Int) + q = l)) ∧ Below w.heap.size w w' := by
  unfold maxLen at *
  go_enter Try.func127, Try.ntmps127
  go_wp2
  all_goals (go_ret; refine ⟨⟨_, rfl, by omega, by omega⟩, ?_⟩)
  all_goals (repeat' (first | (with_reducible exact Below.refl _ _) | (with_reducible assumption) | (with_reducible refine Below.alloc ?_ ?_ _) | (with_reducible refine Below.drew ?_) | (with_reducible refine bdrewN ?_ _) | (with_reducible refine Below.setCell ?_ ?_ _) | (first | (with_reducible exact Nat.le_refl _) | (with_reducible assumption) | omega | (simp only [World.size_alloc, World.size_setCell, World.size_drew]; omega) | (simp; omega) | (simp; done))))

set_option maxRecDepth 100000 in
theorem eqPlay_any (x0 : Int) (x1 : Int) (x2 : Bool) (x3 : ByteArray) (y0 : Int) (y1 : Int) (y2 : Bool) (y3 : ByteArray) (w : World) :
    Calls Try.prog 129 #[.agg #[.int .i64 x0, .int .i64 x1, .bool x2, .string x3], .agg #[.int .i64 y0, .int .i64 y1, .bool y2, .string y3]] w fun e w' => e = .returned (.bool (Play.eqB { row := x0, col := x1, down := x2, word := x3 } { row := y0, col := y1, down := y2, word := y3 })) ∧ Below w.heap.size w w' := by
  go_enter Try.func129, Try.ntmps129
  go_wp2
  all_goals (go_ret; refine ⟨ret_bool ?_, ?_⟩)
  all_goals go_light
  all_goals (try clear hbw1 hcw1 hfw1)
  all_goals first | ((repeat' (first | (with_reducible exact Below.refl _ _) | (with_reducible assumption) | (with_reducible refine Below.alloc ?_ ?_ _) | (with_reducible refine Below.drew ?_) | (with_reducible refine bdrewN ?_ _) | (with_reducible refine Below.setCell ?_ ?_ _) | (first | (with_reducible exact Nat.le_refl _) | (with_reducible assumption) | omega | (simp only [World.size_alloc, World.size_setCell, World.size_drew]; omega) | (simp; omega) | (simp; done)))); done) | (simp_all [bytes_beq, Play.eqB]; done) | (simp_all [bytes_beq, Play.eqB]; grind)

structure Move where
  play : Play
  score : Int
  deriving DecidableEq

def Move.cells (x : Move) : List Value := [.int .i64 x.play.row, .int .i64 x.play.col, .bool x.play.down, .string x.play.word, .int .i64 x.score]
def moveRep : Rep Move := Rep.flat Move.cells 5 (fun _ => rfl)
def Move.bulk (x : Move) : Nat := x.play.word.size
def Move.eqB (x y : Move) : Bool := decide (x = y)
def Move.ok (x : Move) : Prop := I64 x.play.row ∧ I64 x.play.col ∧ x.play.word.size ≤ maxLen ∧ I64 x.score
theorem Move.agg (x : Move) : Value.agg x.cells.toArray = .agg #[.int .i64 x.play.row, .int .i64 x.play.col, .bool x.play.down, .string x.play.word, .int .i64 x.score] := rfl

set_option maxRecDepth 100000 in
theorem toMove_any (x0 : Int) (x1 : Int) (x2 : Bool) (x3 : ByteArray) (x4 : Int) (w : World) :
    Calls Try.prog 113 #[.agg #[.int .i64 x0, .int .i64 x1, .bool x2, .string x3, .int .i64 x4]] w fun e w' => e = .returned (.agg #[.int .i64 x0, .int .i64 x1, .bool x2, .string x3, .int .i64 x4]) ∧ Below w.heap.size w w' := by
  go_enter Try.func113, Try.ntmps113
  go_wp2_with (first | (go_at_call 128; refine (toPlay_any _ _ _ _ _).mono ?_; rintro e w1 ⟨rfl, hbw1⟩; obtain ⟨hcw1, hfw1⟩ := bcell hbw1; have hBw1 : Below w.heap.size w w1 := Below.trans (by (repeat' (first | (with_reducible exact Below.refl _ _) | (with_reducible assumption) | (with_reducible refine Below.alloc ?_ ?_ _) | (with_reducible refine Below.drew ?_) | (with_reducible refine bdrewN ?_ _) | (with_reducible refine Below.setCell ?_ ?_ _) | (first | (with_reducible exact Nat.le_refl _) | (with_reducible assumption) | omega | (simp only [World.size_alloc, World.size_setCell, World.size_drew]; omega) | (simp; omega) | (simp; done))))) (hbw1.mono (by (first | (with_reducible exact Nat.le_refl _) | (with_reducible assumption) | omega | (simp only [World.size_alloc, World.size_setCell, World.size_drew]; omega) | (simp; omega) | (simp; done)))); have hzw1 := hbw1.size; (try simp at hzw1); (try have hl0w1 : w.heap.size < w1.heap.size := by omega); (try have hl1w1 : w.heap.size + 1 < w1.heap.size := by omega); (try have hl2w1 : w.heap.size + 1 + 1 < w1.heap.size := by omega); (try have hl3w1 : w.heap.size + 1 + 1 + 1 < w1.heap.size := by omega); (try have hl4w1 : w.heap.size + 1 + 1 + 1 + 1 < w1.heap.size := by omega)))
  refine bodyPost_ret (v := .agg #[.int .i64 x0, .int .i64 x1, .bool x2, .string x3, .int .i64 x4]) (by simp [results, Try.results113, go_sem, hcw1]) rfl ⟨rfl, ?_⟩
  (repeat' (first | (with_reducible exact Below.refl _ _) | (with_reducible assumption) | (with_reducible refine Below.alloc ?_ ?_ _) | (with_reducible refine Below.drew ?_) | (with_reducible refine bdrewN ?_ _) | (with_reducible refine Below.setCell ?_ ?_ _) | (first | (with_reducible exact Nat.le_refl _) | (with_reducible assumption) | omega | (simp only [World.size_alloc, World.size_setCell, World.size_drew]; omega) | (simp; omega) | (simp; done))))

set_option maxRecDepth 100000 in
theorem szMove_any (x0 : Int) (x1 : Int) (x2 : Bool) (x3 : ByteArray) (x4 : Int) (l : Int) (w : World) (hx3 : x3.size ≤ maxLen) (h0 : 0 ≤ l) (h1 : l ≤ 1048576) :
    Calls Try.prog 112 #[.agg #[.int .i64 x0, .int .i64 x1, .bool x2, .string x3, .int .i64 x4], .int .i64 l] w fun e w' => (∃ q : Int, e = .returned (.int .i64 q) ∧ -1 ≤ q ∧ (0 ≤ q → (x3.size : Int) + q = l)) ∧ Below w.heap.size w w' := by
  unfold maxLen at *
  go_enter Try.func112, Try.ntmps112
  go_wp2_with (first | (go_at_call 127; refine (szPlay_any _ _ _ _ _ _ hx3 (by omega) (by omega)).mono ?_; rintro e w1 ⟨⟨q, rfl, hq0, hq1⟩, hbw1⟩; obtain ⟨hcw1, hfw1⟩ := bcell hbw1; have hBw1 : Below w.heap.size w w1 := Below.trans (by (repeat' (first | (with_reducible exact Below.refl _ _) | (with_reducible assumption) | (with_reducible refine Below.alloc ?_ ?_ _) | (with_reducible refine Below.drew ?_) | (with_reducible refine bdrewN ?_ _) | (with_reducible refine Below.setCell ?_ ?_ _) | (first | (with_reducible exact Nat.le_refl _) | (with_reducible assumption) | omega | (simp only [World.size_alloc, World.size_setCell, World.size_drew]; omega) | (simp; omega) | (simp; done))))) (hbw1.mono (by (first | (with_reducible exact Nat.le_refl _) | (with_reducible assumption) | omega | (simp only [World.size_alloc, World.size_setCell, World.size_drew]; omega) | (simp; omega) | (simp; done)))); have hzw1 := hbw1.size; (try simp at hzw1); (try have hl0w1 : w.heap.size < w1.heap.size := by omega); (try have hl1w1 : w.heap.size + 1 < w1.heap.size := by omega); (try have hl2w1 : w.heap.size + 1 + 1 < w1.heap.size := by omega); (try have hl3w1 : w.heap.size + 1 + 1 + 1 < w1.heap.size := by omega); (try have hl4w1 : w.heap.size + 1 + 1 + 1 + 1 < w1.heap.size := by omega)))
  all_goals (go_ret; refine ⟨⟨_, rfl, by omega, by omega⟩, ?_⟩)
  all_goals (repeat' (first | (with_reducible exact Below.refl _ _) | (with_reducible assumption) | (with_reducible refine Below.alloc ?_ ?_ _) | (with_reducible refine Below.drew ?_) | (with_reducible refine bdrewN ?_ _) | (with_reducible refine Below.setCell ?_ ?_ _) | (first | (with_reducible exact Nat.le_refl _) | (with_reducible assumption) | omega | (simp only [World.size_alloc, World.size_setCell, World.size_drew]; omega) | (simp; omega) | (simp; done))))

set_option maxRecDepth 100000 in
theorem eqMove_any (x0 : Int) (x1 : Int) (x2 : Bool) (x3 : ByteArray) (x4 : Int) (y0 : Int) (y1 : Int) (y2 : Bool) (y3 : ByteArray) (y4 : Int) (w : World) :
    Calls Try.prog 114 #[.agg #[.int .i64 x0, .int .i64 x1, .bool x2, .string x3, .int .i64 x4], .agg #[.int .i64 y0, .int .i64 y1, .bool y2, .string y3, .int .i64 y4]] w fun e w' => e = .returned (.bool (Move.eqB { play := { row := x0, col := x1, down := x2, word := x3 }, score := x4 } { play := { row := y0, col := y1, down := y2, word := y3 }, score := y4 })) ∧ Below w.heap.size w w' := by
  go_enter Try.func114, Try.ntmps114
  go_wp2_with (first | (go_at_call 129; refine (eqPlay_any _ _ _ _ _ _ _ _ _).mono ?_; rintro e w1 ⟨rfl, hbw1⟩; obtain ⟨hcw1, hfw1⟩ := bcell hbw1; have hBw1 : Below w.heap.size w w1 := Below.trans (by (repeat' (first | (with_reducible exact Below.refl _ _) | (with_reducible assumption) | (with_reducible refine Below.alloc ?_ ?_ _) | (with_reducible refine Below.drew ?_) | (with_reducible refine bdrewN ?_ _) | (with_reducible refine Below.setCell ?_ ?_ _) | (first | (with_reducible exact Nat.le_refl _) | (with_reducible assumption) | omega | (simp only [World.size_alloc, World.size_setCell, World.size_drew]; omega) | (simp; omega) | (simp; done))))) (hbw1.mono (by (first | (with_reducible exact Nat.le_refl _) | (with_reducible assumption) | omega | (simp only [World.size_alloc, World.size_setCell, World.size_drew]; omega) | (simp; omega) | (simp; done)))); have hzw1 := hbw1.size; (try simp at hzw1); (try have hl0w1 : w.heap.size < w1.heap.size := by omega); (try have hl1w1 : w.heap.size + 1 < w1.heap.size := by omega); (try have hl2w1 : w.heap.size + 1 + 1 < w1.heap.size := by omega); (try have hl3w1 : w.heap.size + 1 + 1 + 1 < w1.heap.size := by omega); (try have hl4w1 : w.heap.size + 1 + 1 + 1 + 1 < w1.heap.size := by omega)))
  all_goals (go_ret; refine ⟨ret_bool ?_, ?_⟩)
  all_goals go_light
  all_goals (try clear hbw1 hcw1 hfw1)
  all_goals first | ((repeat' (first | (with_reducible exact Below.refl _ _) | (with_reducible assumption) | (with_reducible refine Below.alloc ?_ ?_ _) | (with_reducible refine Below.drew ?_) | (with_reducible refine bdrewN ?_ _) | (with_reducible refine Below.setCell ?_ ?_ _) | (first | (with_reducible exact Nat.le_refl _) | (with_reducible assumption) | omega | (simp only [World.size_alloc, World.size_setCell, World.size_drew]; omega) | (simp; omega) | (simp; done)))); done) | (simp_all [bytes_beq, Move.eqB, Play.eqB]; done) | (simp_all [bytes_beq, Move.eqB, Play.eqB]; grind)

structure Note where
  score : Int
  best : Move
  loss : Int
  rank : Int
  deriving DecidableEq

def Note.cells (x : Note) : List Value := [.int .i64 x.score, .int .i64 x.best.play.row, .int .i64 x.best.play.col, .bool x.best.play.down, .string x.best.play.word, .int .i64 x.best.score, .int .i64 x.loss, .int .i64 x.rank]
def noteRep : Rep Note := Rep.flat Note.cells 8 (fun _ => rfl)
def Note.bulk (x : Note) : Nat := x.best.play.word.size
def Note.eqB (x y : Note) : Bool := decide (x = y)
def Note.ok (x : Note) : Prop := I64 x.score ∧ I64 x.best.play.row ∧ I64 x.best.play.col ∧ x.best.play.word.size ≤ maxLen ∧ I64 x.best.score ∧ I64 x.loss ∧ I64 x.rank
theorem Note.agg (x : Note) : Value.agg x.cells.toArray = .agg #[.int .i64 x.score, .int .i64 x.best.play.row, .int .i64 x.best.play.col, .bool x.best.play.down, .string x.best.play.word, .int .i64 x.best.score, .int .i64 x.loss, .int .i64 x.rank] := rfl

set_option maxRecDepth 100000 in
theorem toNote_any (x0 : Int) (x1 : Int) (x2 : Int) (x3 : Bool) (x4 : ByteArray) (x5 : Int) (x6 : Int) (x7 : Int) (w : World) :
    Calls Try.prog 84 #[.agg #[.int .i64 x0, .int .i64 x1, .int .i64 x2, .bool x3, .string x4, .int .i64 x5, .int .i64 x6, .int .i64 x7]] w fun e w' => e = .returned (.agg #[.int .i64 x0, .int .i64 x1, .int .i64 x2, .bool x3, .string x4, .int .i64 x5, .int .i64 x6, .int .i64 x7]) ∧ Below w.heap.size w w' := by
  go_enter Try.func84, Try.ntmps84
  go_wp2_with (first | (go_at_call 113; refine (toMove_any _ _ _ _ _ _).mono ?_; rintro e w1 ⟨rfl, hbw1⟩; obtain ⟨hcw1, hfw1⟩ := bcell hbw1; have hBw1 : Below w.heap.size w w1 := Below.trans (by (repeat' (first | (with_reducible exact Below.refl _ _) | (with_reducible assumption) | (with_reducible refine Below.alloc ?_ ?_ _) | (with_reducible refine Below.drew ?_) | (with_reducible refine bdrewN ?_ _) | (with_reducible refine Below.setCell ?_ ?_ _) | (first | (with_reducible exact Nat.le_refl _) | (with_reducible assumption) | omega | (simp only [World.size_alloc, World.size_setCell, World.size_drew]; omega) | (simp; omega) | (simp; done))))) (hbw1.mono (by (first | (with_reducible exact Nat.le_refl _) | (with_reducible assumption) | omega | (simp only [World.size_alloc, World.size_setCell, World.size_drew]; omega) | (simp; omega) | (simp; done)))); have hzw1 := hbw1.size; (try simp at hzw1); (try have hl0w1 : w.heap.size < w1.heap.size := by omega); (try have hl1w1 : w.heap.size + 1 < w1.heap.size := by omega); (try have hl2w1 : w.heap.size + 1 + 1 < w1.heap.size := by omega); (try have hl3w1 : w.heap.size + 1 + 1 + 1 < w1.heap.size := by omega); (try have hl4w1 : w.heap.size + 1 + 1 + 1 + 1 < w1.heap.size := by omega)))
  refine bodyPost_ret (v := .agg #[.int .i64 x0, .int .i64 x1, .int .i64 x2, .bool x3, .string x4, .int .i64 x5, .int .i64 x6, .int .i64 x7]) (by simp [results, Try.results84, go_sem, hcw1]) rfl ⟨rfl, ?_⟩
  (repeat' (first | (with_reducible exact Below.refl _ _) | (with_reducible assumption) | (with_reducible refine Below.alloc ?_ ?_ _) | (with_reducible refine Below.drew ?_) | (with_reducible refine bdrewN ?_ _) | (with_reducible refine Below.setCell ?_ ?_ _) | (first | (with_reducible exact Nat.le_refl _) | (with_reducible assumption) | omega | (simp only [World.size_alloc, World.size_setCell, World.size_drew]; omega) | (simp; omega) | (simp; done))))

set_option maxRecDepth 100000 in
theorem szNote_any (x0 : Int) (x1 : Int) (x2 : Int) (x3 : Bool) (x4 : ByteArray) (x5 : Int) (x6 : Int) (x7 : Int) (l : Int) (w : World) (hx4 : x4.size ≤ maxLen) (h0 : 0 ≤ l) (h1 : l ≤ 1048576) :
    Calls Try.prog 83 #[.agg #[.int .i64 x0, .int .i64 x1, .int .i64 x2, .bool x3, .string x4, .int .i64 x5, .int .i64 x6, .int .i64 x7], .int .i64 l] w fun e w' => (∃ q : Int, e = .returned (.int .i64 q) ∧ -1 ≤ q ∧ (0 ≤ q → (x4.size : Int) + q = l)) ∧ Below w.heap.size w w' := by
  unfold maxLen at *
  go_enter Try.func83, Try.ntmps83
  go_wp2_with (first | (go_at_call 112; refine (szMove_any _ _ _ _ _ _ _ hx4 (by omega) (by omega)).mono ?_; rintro e w1 ⟨⟨q, rfl, hq0, hq1⟩, hbw1⟩; obtain ⟨hcw1, hfw1⟩ := bcell hbw1; have hBw1 : Below w.heap.size w w1 := Below.trans (by (repeat' (first | (with_reducible exact Below.refl _ _) | (with_reducible assumption) | (with_reducible refine Below.alloc ?_ ?_ _) | (with_reducible refine Below.drew ?_) | (with_reducible refine bdrewN ?_ _) | (with_reducible refine Below.setCell ?_ ?_ _) | (first | (with_reducible exact Nat.le_refl _) | (with_reducible assumption) | omega | (simp only [World.size_alloc, World.size_setCell, World.size_drew]; omega) | (simp; omega) | (simp; done))))) (hbw1.mono (by (first | (with_reducible exact Nat.le_refl _) | (with_reducible assumption) | omega | (simp only [World.size_alloc, World.size_setCell, World.size_drew]; omega) | (simp; omega) | (simp; done)))); have hzw1 := hbw1.size; (try simp at hzw1); (try have hl0w1 : w.heap.size < w1.heap.size := by omega); (try have hl1w1 : w.heap.size + 1 < w1.heap.size := by omega); (try have hl2w1 : w.heap.size + 1 + 1 < w1.heap.size := by omega); (try have hl3w1 : w.heap.size + 1 + 1 + 1 < w1.heap.size := by omega); (try have hl4w1 : w.heap.size + 1 + 1 + 1 + 1 < w1.heap.size := by omega)))
  all_goals (go_ret; refine ⟨⟨_, rfl, by omega, by omega⟩, ?_⟩)
  all_goals (repeat' (first | (with_reducible exact Below.refl _ _) | (with_reducible assumption) | (with_reducible refine Below.alloc ?_ ?_ _) | (with_reducible refine Below.drew ?_) | (with_reducible refine bdrewN ?_ _) | (with_reducible refine Below.setCell ?_ ?_ _) | (first | (with_reducible exact Nat.le_refl _) | (with_reducible assumption) | omega | (simp only [World.size_alloc, World.size_setCell, World.size_drew]; omega) | (simp; omega) | (simp; done))))

set_option maxRecDepth 100000 in
theorem eqNote_any (x0 : Int) (x1 : Int) (x2 : Int) (x3 : Bool) (x4 : ByteArray) (x5 : Int) (x6 : Int) (x7 : Int) (y0 : Int) (y1 : Int) (y2 : Int) (y3 : Bool) (y4 : ByteArray) (y5 : Int) (y6 : Int) (y7 : Int) (w : World) :
    Calls Try.prog 87 #[.agg #[.int .i64 x0, .int .i64 x1, .int .i64 x2, .bool x3, .string x4, .int .i64 x5, .int .i64 x6, .int .i64 x7], .agg #[.int .i64 y0, .int .i64 y1, .int .i64 y2, .bool y3, .string y4, .int .i64 y5, .int .i64 y6, .int .i64 y7]] w fun e w' => e = .returned (.bool (Note.eqB { score := x0, best := { play := { row := x1, col := x2, down := x3, word := x4 }, score := x5 }, loss := x6, rank := x7 } { score := y0, best := { play := { row := y1, col := y2, down := y3, word := y4 }, score := y5 }, loss := y6, rank := y7 })) ∧ Below w.heap.size w w' := by
  go_enter Try.func87, Try.ntmps87
  go_wp2_with (first | (go_at_call 114; refine (eqMove_any _ _ _ _ _ _ _ _ _ _ _).mono ?_; rintro e w1 ⟨rfl, hbw1⟩; obtain ⟨hcw1, hfw1⟩ := bcell hbw1; have hBw1 : Below w.heap.size w w1 := Below.trans (by (repeat' (first | (with_reducible exact Below.refl _ _) | (with_reducible assumption) | (with_reducible refine Below.alloc ?_ ?_ _) | (with_reducible refine Below.drew ?_) | (with_reducible refine bdrewN ?_ _) | (with_reducible refine Below.setCell ?_ ?_ _) | (first | (with_reducible exact Nat.le_refl _) | (with_reducible assumption) | omega | (simp only [World.size_alloc, World.size_setCell, World.size_drew]; omega) | (simp; omega) | (simp; done))))) (hbw1.mono (by (first | (with_reducible exact Nat.le_refl _) | (with_reducible assumption) | omega | (simp only [World.size_alloc, World.size_setCell, World.size_drew]; omega) | (simp; omega) | (simp; done)))); have hzw1 := hbw1.size; (try simp at hzw1); (try have hl0w1 : w.heap.size < w1.heap.size := by omega); (try have hl1w1 : w.heap.size + 1 < w1.heap.size := by omega); (try have hl2w1 : w.heap.size + 1 + 1 < w1.heap.size := by omega); (try have hl3w1 : w.heap.size + 1 + 1 + 1 < w1.heap.size := by omega); (try have hl4w1 : w.heap.size + 1 + 1 + 1 + 1 < w1.heap.size := by omega)))
  all_goals (go_ret; refine ⟨ret_bool ?_, ?_⟩)
  all_goals go_light
  all_goals (try clear hbw1 hcw1 hfw1)
  all_goals first | ((repeat' (first | (with_reducible exact Below.refl _ _) | (with_reducible assumption) | (with_reducible refine Below.alloc ?_ ?_ _) | (with_reducible refine Below.drew ?_) | (with_reducible refine bdrewN ?_ _) | (with_reducible refine Below.setCell ?_ ?_ _) | (first | (with_reducible exact Nat.le_refl _) | (with_reducible assumption) | omega | (simp only [World.size_alloc, World.size_setCell, World.size_drew]; omega) | (simp; omega) | (simp; done)))); done) | (simp_all [bytes_beq, Note.eqB, Move.eqB, Play.eqB]; done) | (simp_all [bytes_beq, Note.eqB, Move.eqB, Play.eqB]; grind)

structure Board where
  size : Int
  premium : ByteArray
  cells_ : ByteArray
  deriving DecidableEq

def Board.cells (x : Board) : List Value := [.int .i64 x.size, .string x.premium, .string x.cells_]
def boardRep : Rep Board := Rep.flat Board.cells 3 (fun _ => rfl)
def Board.bulk (x : Board) : Nat := x.premium.size + x.cells_.size
def Board.eqB (x y : Board) : Bool := decide (x = y)
def Board.ok (x : Board) : Prop := I64 x.size ∧ x.premium.size ≤ maxLen ∧ x.cells_.size ≤ maxLen
theorem Board.agg (x : Board) : Value.agg x.cells.toArray = .agg #[.int .i64 x.size, .string x.premium, .string x.cells_] := rfl

set_option maxRecDepth 100000 in
theorem toBoard_any (x0 : Int) (x1 : ByteArray) (x2 : ByteArray) (w : World) :
    Calls Try.prog 90 #[.agg #[.int .i64 x0, .string x1, .string x2]] w fun e w' => e = .returned (.agg #[.int .i64 x0, .string x1, .string x2]) ∧ Below w.heap.size w w' := by
  go_enter Try.func90, Try.ntmps90
  go_wp2
  refine bodyPost_ret (v := .agg #[.int .i64 x0, .string x1, .string x2]) (by simp [results, Try.results90, go_sem]) rfl ⟨rfl, ?_⟩
  (repeat' (first | (with_reducible exact Below.refl _ _) | (with_reducible assumption) | (with_reducible refine Below.alloc ?_ ?_ _) | (with_reducible refine Below.drew ?_) | (with_reducible refine bdrewN ?_ _) | (with_reducible refine Below.setCell ?_ ?_ _) | (first | (with_reducible exact Nat.le_refl _) | (with_reducible assumption) | omega | (simp only [World.size_alloc, World.size_setCell, World.size_drew]; omega) | (simp; omega) | (simp; done))))

set_option maxRecDepth 100000 in
theorem szBoard_any (x0 : Int) (x1 : ByteArray) (x2 : ByteArray) (l : Int) (w : World) (hx1 : x1.size ≤ maxLen) (hx2 : x2.size ≤ maxLen) (h0 : 0 ≤ l) (h1 : l ≤ 1048576) :
    Calls Try.prog 88 #[.agg #[.int .i64 x0, .string x1, .string x2], .int .i64 l] w fun e w' => (∃ q : Int, e = .returned (.int .i64 q) ∧ -1 ≤ q ∧ (0 ≤ q → (x1.size : Int) + (x2.size : Int) + q = l)) ∧ Below w.heap.size w w' := by
  unfold maxLen at *
  go_enter Try.func88, Try.ntmps88
  go_wp2
  all_goals (go_ret; refine ⟨⟨_, rfl, by omega, by omega⟩, ?_⟩)
  all_goals (repeat' (first | (with_reducible exact Below.refl _ _) | (with_reducible assumption) | (with_reducible refine Below.alloc ?_ ?_ _) | (with_reducible refine Below.drew ?_) | (with_reducible refine bdrewN ?_ _) | (with_reducible refine Below.setCell ?_ ?_ _) | (first | (with_reducible exact Nat.le_refl _) | (with_reducible assumption) | omega | (simp only [World.size_alloc, World.size_setCell, World.size_drew]; omega) | (simp; omega) | (simp; done))))

structure End where
  board : Board
  mine : ByteArray
  theirs : ByteArray
  passed : Bool
  deriving DecidableEq

def End.cells (x : End) : List Value := [.int .i64 x.board.size, .string x.board.premium, .string x.board.cells_, .string x.mine, .string x.theirs, .bool x.passed]
def endRep : Rep End := Rep.flat End.cells 6 (fun _ => rfl)
def End.bulk (x : End) : Nat := x.board.premium.size + x.board.cells_.size + x.mine.size + x.theirs.size
def End.eqB (x y : End) : Bool := decide (x = y)
def End.ok (x : End) : Prop := I64 x.board.size ∧ x.board.premium.size ≤ maxLen ∧ x.board.cells_.size ≤ maxLen ∧ x.mine.size ≤ maxLen ∧ x.theirs.size ≤ maxLen
theorem End.agg (x : End) : Value.agg x.cells.toArray = .agg #[.int .i64 x.board.size, .string x.board.premium, .string x.board.cells_, .string x.mine, .string x.theirs, .bool x.passed] := rfl

set_option maxRecDepth 100000 in
theorem toEnd_any (x0 : Int) (x1 : ByteArray) (x2 : ByteArray) (x3 : ByteArray) (x4 : ByteArray) (x5 : Bool) (w : World) :
    Calls Try.prog 48 #[.agg #[.int .i64 x0, .string x1, .string x2, .string x3, .string x4, .bool x5]] w fun e w' => e = .returned (.agg #[.int .i64 x0, .string x1, .string x2, .string x3, .string x4, .bool x5]) ∧ Below w.heap.size w w' := by
  go_enter Try.func48, Try.ntmps48
  go_wp2_with (first | (go_at_call 90; refine (toBoard_any _ _ _ _).mono ?_; rintro e w1 ⟨rfl, hbw1⟩; obtain ⟨hcw1, hfw1⟩ := bcell hbw1; have hBw1 : Below w.heap.size w w1 := Below.trans (by (repeat' (first | (with_reducible exact Below.refl _ _) | (with_reducible assumption) | (with_reducible refine Below.alloc ?_ ?_ _) | (with_reducible refine Below.drew ?_) | (with_reducible refine bdrewN ?_ _) | (with_reducible refine Below.setCell ?_ ?_ _) | (first | (with_reducible exact Nat.le_refl _) | (with_reducible assumption) | omega | (simp only [World.size_alloc, World.size_setCell, World.size_drew]; omega) | (simp; omega) | (simp; done))))) (hbw1.mono (by (first | (with_reducible exact Nat.le_refl _) | (with_reducible assumption) | omega | (simp only [World.size_alloc, World.size_setCell, World.size_drew]; omega) | (simp; omega) | (simp; done)))); have hzw1 := hbw1.size; (try simp at hzw1); (try have hl0w1 : w.heap.size < w1.heap.size := by omega); (try have hl1w1 : w.heap.size + 1 < w1.heap.size := by omega); (try have hl2w1 : w.heap.size + 1 + 1 < w1.heap.size := by omega); (try have hl3w1 : w.heap.size + 1 + 1 + 1 < w1.heap.size := by omega); (try have hl4w1 : w.heap.size + 1 + 1 + 1 + 1 < w1.heap.size := by omega)))
  refine bodyPost_ret (v := .agg #[.int .i64 x0, .string x1, .string x2, .string x3, .string x4, .bool x5]) (by simp [results, Try.results48, go_sem, hcw1]) rfl ⟨rfl, ?_⟩
  (repeat' (first | (with_reducible exact Below.refl _ _) | (with_reducible assumption) | (with_reducible refine Below.alloc ?_ ?_ _) | (with_reducible refine Below.drew ?_) | (with_reducible refine bdrewN ?_ _) | (with_reducible refine Below.setCell ?_ ?_ _) | (first | (with_reducible exact Nat.le_refl _) | (with_reducible assumption) | omega | (simp only [World.size_alloc, World.size_setCell, World.size_drew]; omega) | (simp; omega) | (simp; done))))

set_option maxRecDepth 100000 in
theorem szEnd_any (x0 : Int) (x1 : ByteArray) (x2 : ByteArray) (x3 : ByteArray) (x4 : ByteArray) (x5 : Bool) (l : Int) (w : World) (hx1 : x1.size ≤ maxLen) (hx2 : x2.size ≤ maxLen) (hx3 : x3.size ≤ maxLen) (hx4 : x4.size ≤ maxLen) (h0 : 0 ≤ l) (h1 : l ≤ 1048576) :
    Calls Try.prog 46 #[.agg #[.int .i64 x0, .string x1, .string x2, .string x3, .string x4, .bool x5], .int .i64 l] w fun e w' => (∃ q : Int, e = .returned (.int .i64 q) ∧ -1 ≤ q ∧ (0 ≤ q → (x1.size : Int) + (x2.size : Int) + (x3.size : Int) + (x4.size : Int) + q = l)) ∧ Below w.heap.size w w' := by
  unfold maxLen at *
  go_enter Try.func46, Try.ntmps46
  go_wp2_with (first | (go_at_call 88; refine (szBoard_any _ _ _ _ _ hx1 hx2 (by omega) (by omega)).mono ?_; rintro e w1 ⟨⟨q, rfl, hq0, hq1⟩, hbw1⟩; obtain ⟨hcw1, hfw1⟩ := bcell hbw1; have hBw1 : Below w.heap.size w w1 := Below.trans (by (repeat' (first | (with_reducible exact Below.refl _ _) | (with_reducible assumption) | (with_reducible refine Below.alloc ?_ ?_ _) | (with_reducible refine Below.drew ?_) | (with_reducible refine bdrewN ?_ _) | (with_reducible refine Below.setCell ?_ ?_ _) | (first | (with_reducible exact Nat.le_refl _) | (with_reducible assumption) | omega | (simp only [World.size_alloc, World.size_setCell, World.size_drew]; omega) | (simp; omega) | (simp; done))))) (hbw1.mono (by (first | (with_reducible exact Nat.le_refl _) | (with_reducible assumption) | omega | (simp only [World.size_alloc, World.size_setCell, World.size_drew]; omega) | (simp; omega) | (simp; done)))); have hzw1 := hbw1.size; (try simp at hzw1); (try have hl0w1 : w.heap.size < w1.heap.size := by omega); (try have hl1w1 : w.heap.size + 1 < w1.heap.size := by omega); (try have hl2w1 : w.heap.size + 1 + 1 < w1.heap.size := by omega); (try have hl3w1 : w.heap.size + 1 + 1 + 1 < w1.heap.size := by omega); (try have hl4w1 : w.heap.size + 1 + 1 + 1 + 1 < w1.heap.size := by omega)))
  all_goals (go_ret; refine ⟨⟨_, rfl, by omega, by omega⟩, ?_⟩)
  all_goals (repeat' (first | (with_reducible exact Below.refl _ _) | (with_reducible assumption) | (with_reducible refine Below.alloc ?_ ?_ _) | (with_reducible refine Below.drew ?_) | (with_reducible refine bdrewN ?_ _) | (with_reducible refine Below.setCell ?_ ?_ _) | (first | (with_reducible exact Nat.le_refl _) | (with_reducible assumption) | omega | (simp only [World.size_alloc, World.size_setCell, World.size_drew]; omega) | (simp; omega) | (simp; done))))

structure Expect where
  sum : Int
  ways : Int
  deriving DecidableEq

def Expect.cells (x : Expect) : List Value := [.int .i64 x.sum, .int .i64 x.ways]
def expectRep : Rep Expect := Rep.flat Expect.cells 2 (fun _ => rfl)
def Expect.bulk (x : Expect) : Nat := 0
def Expect.eqB (x y : Expect) : Bool := decide (x = y)
def Expect.ok (x : Expect) : Prop := I64 x.sum ∧ I64 x.ways
theorem Expect.agg (x : Expect) : Value.agg x.cells.toArray = .agg #[.int .i64 x.sum, .int .i64 x.ways] := rfl

set_option maxRecDepth 100000 in
theorem toExpect_any (x0 : Int) (x1 : Int) (w : World) :
    Calls Try.prog 22 #[.agg #[.int .i64 x0, .int .i64 x1]] w fun e w' => e = .returned (.agg #[.int .i64 x0, .int .i64 x1]) ∧ Below w.heap.size w w' := by
  go_enter Try.func22, Try.ntmps22
  go_wp2
  refine bodyPost_ret (v := .agg #[.int .i64 x0, .int .i64 x1]) (by simp [results, Try.results22, go_sem]) rfl ⟨rfl, ?_⟩
  (repeat' (first | (with_reducible exact Below.refl _ _) | (with_reducible assumption) | (with_reducible refine Below.alloc ?_ ?_ _) | (with_reducible refine Below.drew ?_) | (with_reducible refine bdrewN ?_ _) | (with_reducible refine Below.setCell ?_ ?_ _) | (first | (with_reducible exact Nat.le_refl _) | (with_reducible assumption) | omega | (simp only [World.size_alloc, World.size_setCell, World.size_drew]; omega) | (simp; omega) | (simp; done))))

structure Drawn where
  tiles : ByteArray
  ways : Int
  deriving DecidableEq

def Drawn.cells (x : Drawn) : List Value := [.string x.tiles, .int .i64 x.ways]
def drawnRep : Rep Drawn := Rep.flat Drawn.cells 2 (fun _ => rfl)
def Drawn.bulk (x : Drawn) : Nat := x.tiles.size
def Drawn.eqB (x y : Drawn) : Bool := decide (x = y)
def Drawn.ok (x : Drawn) : Prop := x.tiles.size ≤ maxLen ∧ I64 x.ways
theorem Drawn.agg (x : Drawn) : Value.agg x.cells.toArray = .agg #[.string x.tiles, .int .i64 x.ways] := rfl

structure Case where
  tile : ByteArray
  ways : Int
  value : Int
  deriving DecidableEq

def Case.cells (x : Case) : List Value := [.string x.tile, .int .i64 x.ways, .int .i64 x.value]
def caseRep : Rep Case := Rep.flat Case.cells 3 (fun _ => rfl)
def Case.bulk (x : Case) : Nat := x.tile.size
def Case.eqB (x y : Case) : Bool := decide (x = y)
def Case.ok (x : Case) : Prop := x.tile.size ≤ maxLen ∧ I64 x.ways ∧ I64 x.value
theorem Case.agg (x : Case) : Value.agg x.cells.toArray = .agg #[.string x.tile, .int .i64 x.ways, .int .i64 x.value] := rfl

structure Choice where
  pass : Bool
  move : Move
  value : Int
  deriving DecidableEq

def Choice.cells (x : Choice) : List Value := [.bool x.pass, .int .i64 x.move.play.row, .int .i64 x.move.play.col, .bool x.move.play.down, .string x.move.play.word, .int .i64 x.move.score, .int .i64 x.value]
def choiceRep : Rep Choice := Rep.flat Choice.cells 7 (fun _ => rfl)
def Choice.bulk (x : Choice) : Nat := x.move.play.word.size
def Choice.eqB (x y : Choice) : Bool := decide (x = y)
def Choice.ok (x : Choice) : Prop := I64 x.move.play.row ∧ I64 x.move.play.col ∧ x.move.play.word.size ≤ maxLen ∧ I64 x.move.score ∧ I64 x.value
theorem Choice.agg (x : Choice) : Value.agg x.cells.toArray = .agg #[.bool x.pass, .int .i64 x.move.play.row, .int .i64 x.move.play.col, .bool x.move.play.down, .string x.move.play.word, .int .i64 x.move.score, .int .i64 x.value] := rfl

structure Turn where
  rack : ByteArray
  pass : Bool
  play : Play
  deriving DecidableEq

def Turn.cells (x : Turn) : List Value := [.string x.rack, .bool x.pass, .int .i64 x.play.row, .int .i64 x.play.col, .bool x.play.down, .string x.play.word]
def turnRep : Rep Turn := Rep.flat Turn.cells 6 (fun _ => rfl)
def Turn.bulk (x : Turn) : Nat := x.rack.size + x.play.word.size
def Turn.eqB (x y : Turn) : Bool := decide (x = y)
def Turn.ok (x : Turn) : Prop := x.rack.size ≤ maxLen ∧ I64 x.play.row ∧ I64 x.play.col ∧ x.play.word.size ≤ maxLen
theorem Turn.agg (x : Turn) : Value.agg x.cells.toArray = .agg #[.string x.rack, .bool x.pass, .int .i64 x.play.row, .int .i64 x.play.col, .bool x.play.down, .string x.play.word] := rfl

structure Action where
  kind : Int
  play : Play
  tiles : ByteArray
  seconds : Int
  deriving DecidableEq

def Action.cells (x : Action) : List Value := [.int .i64 x.kind, .int .i64 x.play.row, .int .i64 x.play.col, .bool x.play.down, .string x.play.word, .string x.tiles, .int .i64 x.seconds]
def actionRep : Rep Action := Rep.flat Action.cells 7 (fun _ => rfl)
def Action.bulk (x : Action) : Nat := x.play.word.size + x.tiles.size
def Action.eqB (x y : Action) : Bool := decide (x = y)
def Action.ok (x : Action) : Prop := I64 x.kind ∧ I64 x.play.row ∧ I64 x.play.col ∧ x.play.word.size ≤ maxLen ∧ x.tiles.size ≤ maxLen ∧ I64 x.seconds
theorem Action.agg (x : Action) : Value.agg x.cells.toArray = .agg #[.int .i64 x.kind, .int .i64 x.play.row, .int .i64 x.play.col, .bool x.play.down, .string x.play.word, .string x.tiles, .int .i64 x.seconds] := rfl

end Go.Proofs.Ytdngdgjlcfbdhaa

