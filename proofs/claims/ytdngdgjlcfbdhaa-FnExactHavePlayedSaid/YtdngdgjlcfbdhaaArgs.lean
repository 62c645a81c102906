/- The laws' arguments as Lean data, type by type. Printed by gen_args.py. -/
import Derived.Test.YtdngdgjlcfbdhaaData
import Derived.Test.YtdngdgjlcfbdhaaOpen
namespace Go.Proofs.Ytdngdgjlcfbdhaa
open Go.ChangeShapes Go.WideShapes Go.RowKit
set_option linter.unusedSimpArgs false
set_option linter.unusedVariables false

theorem Grid.leaf : leafT Try.prog 6 26 = some [2, 2, 9] := by kernel_rfl
theorem Grid.cellsOf : Try.prog.cellsOf 26 = 3 := by kernel_rfl
theorem Grid.of_row {H : Type} {enc : TypeId × Value → H} {W : World} {row : List Value} (h : Row enc Try.prog W [2, 2, 9] row) : ∃ x : Grid, row = x.cells ∧ x.ok := by
  match row, h.1 with
  | [v0, v1, v2], _ =>
    obtain ⟨x0, rfl, w0⟩ := cell_int Try.underlying2 (h.2 0 _ _ rfl rfl)
    obtain ⟨x1, rfl, w1⟩ := cell_int Try.underlying2 (h.2 1 _ _ rfl rfl)
    obtain ⟨x2, rfl, w2⟩ := cell_string Try.underlying9 (h.2 2 _ _ rfl rfl)
    exact ⟨⟨x0, x1, x2⟩, rfl, ⟨wf_i64 w0, wf_i64 w1, w2⟩⟩
theorem arg_Grid {H : Type} {enc : TypeId × Value → H} {W : World} {v : Value} (h : Arg enc Try.prog W 26 v) : ∃ x : Grid, v = .agg x.cells.toArray ∧ x.ok := by
  obtain ⟨cs, rfl, hr⟩ := arg_struct Try.underlying26 Grid.leaf Grid.cellsOf h
  obtain ⟨x, rfl, hx⟩ := Grid.of_row hr
  exact ⟨x, rfl, hx⟩

theorem Member.leaf : leafT Try.prog 6 140 = some [9, 2] := by kernel_rfl
theorem Member.cellsOf : Try.prog.cellsOf 140 = 2 := by kernel_rfl
theorem Member.of_row {H : Type} {enc : TypeId × Value → H} {W : World} {row : List Value} (h : Row enc Try.prog W [9, 2] row) : ∃ x : Member, row = x.cells ∧ x.ok := by
  match row, h.1 with
  | [v0, v1], _ =>
    obtain ⟨x0, rfl, w0⟩ := cell_string Try.underlying9 (h.2 0 _ _ rfl rfl)
    obtain ⟨x1, rfl, w1⟩ := cell_int Try.underlying2 (h.2 1 _ _ rfl rfl)
    exact ⟨⟨x0, x1⟩, rfl, ⟨w0, wf_i64 w1⟩⟩
theorem arg_Member {H : Type} {enc : TypeId × Value → H} {W : World} {v : Value} (h : Arg enc Try.prog W 140 v) : ∃ x : Member, v = .agg x.cells.toArray ∧ x.ok := by
  obtain ⟨cs, rfl, hr⟩ := arg_struct Try.underlying140 Member.leaf Member.cellsOf h
  obtain ⟨x, rfl, hx⟩ := Member.of_row hr
  exact ⟨x, rfl, hx⟩

theorem Result.leaf : leafT Try.prog 6 93 = some [9, 9, 2, 2] := by kernel_rfl
theorem Result.cellsOf : Try.prog.cellsOf 93 = 4 := by kernel_rfl
theorem Result.of_row {H : Type} {enc : TypeId × Value → H} {W : World} {row : List Value} (h : Row enc Try.prog W [9, 9, 2, 2] row) : ∃ x : Result, row = x.cells ∧ x.ok := by
  match row, h.1 with
  | [v0, v1, v2, v3], _ =>
    obtain ⟨x0, rfl, w0⟩ := cell_string Try.underlying9 (h.2 0 _ _ rfl rfl)
    obtain ⟨x1, rfl, w1⟩ := cell_string Try.underlying9 (h.2 1 _ _ rfl rfl)
    obtain ⟨x2, rfl, w2⟩ := cell_int Try.underlying2 (h.2 2 _ _ rfl rfl)
    obtain ⟨x3, rfl, w3⟩ := cell_int Try.underlying2 (h.2 3 _ _ rfl rfl)
    exact ⟨⟨x0, x1, x2, x3⟩, rfl, ⟨w0, w1, wf_i64 w2, wf_i64 w3⟩⟩
theorem arg_Result {H : Type} {enc : TypeId × Value → H} {W : World} {v : Value} (h : Arg enc Try.prog W 93 v) : ∃ x : Result, v = .agg x.cells.toArray ∧ x.ok := by
  obtain ⟨cs, rfl, hr⟩ := arg_struct Try.underlying93 Result.leaf Result.cellsOf h
  obtain ⟨x, rfl, hx⟩ := Result.of_row hr
  exact ⟨x, rfl, hx⟩

theorem Play.leaf : leafT Try.prog 6 112 = some [2, 2, 4, 9] := by kernel_rfl
theorem Play.cellsOf : Try.prog.cellsOf 112 = 4 := by kernel_rfl
theorem Play.of_row {H : Type} {enc : TypeId × Value → H} {W : World} {row : List Value} (h : Row enc Try.prog W [2, 2, 4, 9] row) : ∃ x : Play, row = x.cells ∧ x.ok := by
  match row, h.1 with
  | [v0, v1, v2, v3], _ =>
    obtain ⟨x0, rfl, w0⟩ := cell_int Try.underlying2 (h.2 0 _ _ rfl rfl)
    obtain ⟨x1, rfl, w1⟩ := cell_int Try.underlying2 (h.2 1 _ _ rfl rfl)
    obtain ⟨x2, rfl⟩ := cell_bool Try.underlying4 (h.2 2 _ _ rfl rfl)
    obtain ⟨x3, rfl, w3⟩ := cell_string Try.underlying9 (h.2 3 _ _ rfl rfl)
    exact ⟨⟨x0, x1, x2, x3⟩, rfl, ⟨wf_i64 w0, wf_i64 w1, w3⟩⟩
theorem arg_Play {H : Type} {enc : TypeId × Value → H} {W : World} {v : Value} (h : Arg enc Try.prog W 112 v) : ∃ x : Play, v = .agg x.cells.toArray ∧ x.ok := by
  obtain ⟨cs, rfl, hr⟩ := arg_struct Try.underlying112 Play.leaf Play.cellsOf h
  obtain ⟨x, rfl, hx⟩ := Play.of_row hr
  exact ⟨x, rfl, hx⟩

theorem Move.leaf : leafT Try.prog 6 114 = some [2, 2, 4, 9, 2] := by kernel_rfl
theorem Move.cellsOf : Try.prog.cellsOf 114 = 5 := by kernel_rfl
theorem Move.of_row {H : Type} {enc : TypeId × Value → H} {W : World} {row : List Value} (h : Row enc Try.prog W [2, 2, 4, 9, 2] row) : ∃ x : Move, row = x.cells ∧ x.ok := by
  match row, h.1 with
  | [v0, v1, v2, v3, v4], _ =>
    obtain ⟨x0, rfl, w0⟩ := cell_int Try.underlying2 (h.2 0 _ _ rfl rfl)
    obtain ⟨x1, rfl, w1⟩ := cell_int Try.underlying2 (h.2 1 _ _ rfl rfl)
    obtain ⟨x2, rfl⟩ := cell_bool Try.underlying4 (h.2 2 _ _ rfl rfl)
    obtain ⟨x3, rfl, w3⟩ := cell_string Try.underlying9 (h.2 3 _ _ rfl rfl)
    obtain ⟨x4, rfl, w4⟩ := cell_int Try.underlying2 (h.2 4 _ _ rfl rfl)
    exact ⟨⟨⟨x0, x1, x2, x3⟩, x4⟩, rfl, ⟨wf_i64 w0, wf_i64 w1, w3, wf_i64 w4⟩⟩
theorem arg_Move {H : Type} {enc : TypeId × Value → H} {W : World} {v : Value} (h : Arg enc Try.prog W 114 v) : ∃ x : Move, v = .agg x.cells.toArray ∧ x.ok := by
  obtain ⟨cs, rfl, hr⟩ := arg_struct Try.underlying114 Move.leaf Move.cellsOf h
  obtain ⟨x, rfl, hx⟩ := Move.of_row hr
  exact ⟨x, rfl, hx⟩

theorem Note.leaf : leafT Try.prog 6 116 = some [2, 2, 2, 4, 9, 2, 2, 2] := by kernel_rfl
theorem Note.cellsOf : Try.prog.cellsOf 116 = 8 := by kernel_rfl
theorem Note.of_row {H : Type} {enc : TypeId × Value → H} {W : World} {row : List Value} (h : Row enc Try.prog W [2, 2, 2, 4, 9, 2, 2, 2] row) : ∃ x : Note, row = x.cells ∧ x.ok := by
  match row, h.1 with
  | [v0, v1, v2, v3, v4, v5, v6, v7], _ =>
    obtain ⟨x0, rfl, w0⟩ := cell_int Try.underlying2 (h.2 0 _ _ rfl rfl)
    obtain ⟨x1, rfl, w1⟩ := cell_int Try.underlying2 (h.2 1 _ _ rfl rfl)
    obtain ⟨x2, rfl, w2⟩ := cell_int Try.underlying2 (h.2 2 _ _ rfl rfl)
    obtain ⟨x3, rfl⟩ := cell_bool Try.underlying4 (h.2 3 _ _ rfl rfl)
    obtain ⟨x4, rfl, w4⟩ := cell_string Try.underlying9 (h.2 4 _ _ rfl rfl)
    obtain ⟨x5, rfl, w5⟩ := cell_int Try.underlying2 (h.2 5 _ _ rfl rfl)
    obtain ⟨x6, rfl, w6⟩ := cell_int Try.underlying2 (h.2 6 _ _ rfl rfl)
    obtain ⟨x7, rfl, w7⟩ := cell_int Try.underlying2 (h.2 7 _ _ rfl rfl)
    exact ⟨⟨x0, ⟨⟨x1, x2, x3, x4⟩, x5⟩, x6, x7⟩, rfl, ⟨wf_i64 w0, wf_i64 w1, wf_i64 w2, w4, wf_i64 w5, wf_i64 w6, wf_i64 w7⟩⟩
theorem arg_Note {H : Type} {enc : TypeId × Value → H} {W : World} {v : Value} (h : Arg enc Try.prog W 116 v) : ∃ x : Note, v = .agg x.cells.toArray ∧ x.ok := by
  obtain ⟨cs, rfl, hr⟩ := arg_struct Try.underlying116 Note.leaf Note.cellsOf h
  obtain ⟨x, rfl, hx⟩ := Note.of_row hr
  exact ⟨x, rfl, hx⟩

theorem Board.leaf : leafT Try.prog 6 70 = some [2, 9, 9] := by kernel_rfl
theorem Board.cellsOf : Try.prog.cellsOf 70 = 3 := by kernel_rfl
theorem Board.of_row {H : Type} {enc : TypeId × Value → H} {W : World} {row : List Value} (h : Row enc Try.prog W [2, 9, 9] row) : ∃ x : Board, row = x.cells ∧ x.ok := by
  match row, h.1 with
  | [v0, v1, v2], _ =>
    obtain ⟨x0, rfl, w0⟩ := cell_int Try.underlying2 (h.2 0 _ _ rfl rfl)
    obtain ⟨x1, rfl, w1⟩ := cell_string Try.underlying9 (h.2 1 _ _ rfl rfl)
    obtain ⟨x2, rfl, w2⟩ := cell_string Try.underlying9 (h.2 2 _ _ rfl rfl)
    exact ⟨⟨x0, x1, x2⟩, rfl, ⟨wf_i64 w0, w1, w2⟩⟩
theorem arg_Board {H : Type} {enc : TypeId × Value → H} {W : World} {v : Value} (h : Arg enc Try.prog W 70 v) : ∃ x : Board, v = .agg x.cells.toArray ∧ x.ok := by
  obtain ⟨cs, rfl, hr⟩ := arg_struct Try.underlying70 Board.leaf Board.cellsOf h
  obtain ⟨x, rfl, hx⟩ := Board.of_row hr
  exact ⟨x, rfl, hx⟩

theorem End.leaf : leafT Try.prog 6 72 = some [2, 9, 9, 9, 9, 4] := by kernel_rfl
theorem End.cellsOf : Try.prog.cellsOf 72 = 6 := by kernel_rfl
theorem End.of_row {H : Type} {enc : TypeId × Value → H} {W : World} {row : List Value} (h : Row enc Try.prog W [2, 9, 9, 9, 9, 4] row) : ∃ x : End, row = x.cells ∧ x.ok := by
  match row, h.1 with
  | [v0, v1, v2, v3, v4, v5], _ =>
    obtain ⟨x0, rfl, w0⟩ := cell_int Try.underlying2 (h.2 0 _ _ rfl rfl)
    obtain ⟨x1, rfl, w1⟩ := cell_string Try.underlying9 (h.2 1 _ _ rfl rfl)
    obtain ⟨x2, rfl, w2⟩ := cell_string Try.underlying9 (h.2 2 _ _ rfl rfl)
    obtain ⟨x3, rfl, w3⟩ := cell_string Try.underlying9 (h.2 3 _ _ rfl rfl)
    obtain ⟨x4, rfl, w4⟩ := cell_string Try.underlying9 (h.2 4 _ _ rfl rfl)
    obtain ⟨x5, rfl⟩ := cell_bool Try.underlying4 (h.2 5 _ _ rfl rfl)
    exact ⟨⟨⟨x0, x1, x2⟩, x3, x4, x5⟩, rfl, ⟨wf_i64 w0, w1, w2, w3, w4⟩⟩
theorem arg_End {H : Type} {enc : TypeId × Value → H} {W : World} {v : Value} (h : Arg enc Try.prog W 72 v) : ∃ x : End, v = .agg x.cells.toArray ∧ x.ok := by
  obtain ⟨cs, rfl, hr⟩ := arg_struct Try.underlying72 End.leaf End.cellsOf h
  obtain ⟨x, rfl, hx⟩ := End.of_row hr
  exact ⟨x, rfl, hx⟩

theorem Expect.leaf : leafT Try.prog 6 33 = some [2, 2] := by kernel_rfl
theorem Expect.cellsOf : Try.prog.cellsOf 33 = 2 := by kernel_rfl
theorem Expect.of_row {H : Type} {enc : TypeId × Value → H} {W : World} {row : List Value} (h : Row enc Try.prog W [2, 2] row) : ∃ x : Expect, row = x.cells ∧ x.ok := by
  match row, h.1 with
  | [v0, v1], _ =>
    obtain ⟨x0, rfl, w0⟩ := cell_int Try.underlying2 (h.2 0 _ _ rfl rfl)
    obtain ⟨x1, rfl, w1⟩ := cell_int Try.underlying2 (h.2 1 _ _ rfl rfl)
    exact ⟨⟨x0, x1⟩, rfl, ⟨wf_i64 w0, wf_i64 w1⟩⟩
theorem arg_Expect {H : Type} {enc : TypeId × Value → H} {W : World} {v : Value} (h : Arg enc Try.prog W 33 v) : ∃ x : Expect, v = .agg x.cells.toArray ∧ x.ok := by
  obtain ⟨cs, rfl, hr⟩ := arg_struct Try.underlying33 Expect.leaf Expect.cellsOf h
  obtain ⟨x, rfl, hx⟩ := Expect.of_row hr
  exact ⟨x, rfl, hx⟩

theorem cell_MemberS {H : Type} {enc : TypeId × Value → H} {W : World} {v : Value} (h : Cell enc Try.prog W 48 v) :
    ∃ A c xs, v = .slice A xs.length c ∧ xs.length ≤ c ∧ c ≤ maxLen ∧ SR memberRep W (· < W.heap.size) A xs ∧ ∀ x ∈ xs, Member.ok x :=
  cell_list memberRep Member.ok Try.underlying48 Member.leaf Member.cellsOf (by decide) rfl (fun row h => Member.of_row h) h

theorem cell_ResultS {H : Type} {enc : TypeId × Value → H} {W : World} {v : Value} (h : Cell enc Try.prog W 38 v) :
    ∃ A c xs, v = .slice A xs.length c ∧ xs.length ≤ c ∧ c ≤ maxLen ∧ SR resultRep W (· < W.heap.size) A xs ∧ ∀ x ∈ xs, Result.ok x :=
  cell_list resultRep Result.ok Try.underlying38 Result.leaf Result.cellsOf (by decide) rfl (fun row h => Result.of_row h) h

theorem cell_NoteS {H : Type} {enc : TypeId × Value → H} {W : World} {v : Value} (h : Cell enc Try.prog W 62 v) :
    ∃ A c xs, v = .slice A xs.length c ∧ xs.length ≤ c ∧ c ≤ maxLen ∧ SR noteRep W (· < W.heap.size) A xs ∧ ∀ x ∈ xs, Note.ok x :=
  cell_list noteRep Note.ok Try.underlying62 Note.leaf Note.cellsOf (by decide) rfl (fun row h => Note.of_row h) h

theorem int_leaf : leafT Try.prog 6 2 = some [2] := by kernel_rfl
theorem int_cellsOf : Try.prog.cellsOf 2 = 1 := by kernel_rfl

theorem str_leaf : leafT Try.prog 6 9 = some [9] := by kernel_rfl
theorem str_cellsOf : Try.prog.cellsOf 9 = 1 := by kernel_rfl

theorem cell_strS {H : Type} {enc : TypeId × Value → H} {W : World} {v : Value} (h : Cell enc Try.prog W 133 v) :
    ∃ A c xs, v = .slice A xs.length c ∧ xs.length ≤ c ∧ c ≤ maxLen ∧ SR strRep W (· < W.heap.size) A xs ∧ ∀ x ∈ xs, (fun s => s.size ≤ maxLen) x :=
  cell_list strRep (fun s => s.size ≤ maxLen) Try.underlying133 str_leaf str_cellsOf (by decide) rfl (fun row h => by
    match row, h.1 with
    | [v0], _ =>
      obtain ⟨x0, rfl, w0⟩ := cell_string Try.underlying9 (h.2 0 _ _ rfl rfl)
      exact ⟨x0, rfl, w0⟩) h

end Go.Proofs.Ytdngdgjlcfbdhaa
