/- The models of the program's functions. Printed by gen.py. -/
import Derived.Test.YtgmikhdealhlfaaDoorTyp
import Derived.Test.YtgmikhdealhlfaaDoorEngM
import Derived.Test.YtgmikhdealhlfaaDoorEngN
namespace Go.Proofs.YtgmikhdealhlfaaDoor
open Go Go.RowKit
set_option linter.unusedSimpArgs false
set_option linter.unusedVariables false

noncomputable def m_spec_l01Split_l1 (s1 : Str) (by_3 : UInt8) (xs14 : (List Str)) (n17 : Int) (n19 : Int) : Option (((List Str) × Int × Int) ⊕ ((List Str) × Int)) :=
  bif decide (n19 < (s1.length : Int)) then
    (
        (getL s1 n19).bind fun c40 =>
        bif c40 == by_3 then
          (subL s1 n17 n19).bind fun s43 =>
          (catL xs14 ([s43] : (List Str))).bind fun xs48 =>
          (chk (n19 + 1)).bind fun z55 =>
          some (xs48, z55)
        else
          some (xs14, n17) : Option ((List Str) × Int)).bind fun x38 =>
    match x38 with
    | (xs33, n36) =>
      (chk (n19 + 1)).bind fun z60 =>
      some (.inl (xs33, n36, z60))
  else
    some (.inr (xs14, n17))

noncomputable def m_spec_l01Split (s1 : Str) (by_3 : UInt8) : Option (List Str) :=
  (
      (loopM (fun s : (List Str) × Int × Int => m_spec_l01Split_l1 s1 by_3 s.1 s.2.1 s.2.2) (([] : (List Str)), 0, 0)).bind fun x27 =>
      match x27 with
      | (xs22, n25) =>
        some (xs22, n25) : Option ((List Str) × Int)).bind fun x12 =>
  match x12 with
  | (xs7, n10) =>
    (subL s1 n10 (s1.length : Int)).bind fun s68 =>
    (catL xs7 ([s68] : (List Str))).bind fun xs73 =>
    some xs73

noncomputable def m_spec_l00In (n1 : Int) (low3 : Int) (high5 : Int) : Option Bool :=
  (
      bif decide (low3 ≤ n1) then
        some (decide (n1 ≤ high5))
      else
        some false : Option Bool).bind fun t7 =>
  some t7

noncomputable def m_spec_l01Small (c1 : UInt8) : Option Bool :=
  (
      bif decide (97 ≤ c1) then
        some (decide (c1 ≤ 122))
      else
        some false : Option Bool).bind fun t2 =>
  some t2

noncomputable def m_spec_l25Ok_l1 (g1 : Grid) (n35 : Int) : Option (Int ⊕ (Unit ⊕ Bool)) :=
  bif decide (n35 < (g1.Cells.length : Int)) then
    (
        (getL g1.Cells n35).bind fun c52 =>
        bif c52 != 35 then
          (getL g1.Cells n35).bind fun c55 =>
          bif c55 != 46 then
            (getL g1.Cells n35).bind fun c58 =>
            (m_spec_l01Small c58).bind fun y60 =>
            some (!y60)
          else
            some false
        else
          some false : Option Bool).bind fun t48 =>
    bif t48 then
      some (.inr (.inr false))
    else
      (chk (n35 + 1)).bind fun z70 =>
      some (.inl z70)
  else
    some (.inr (.inl ()))

noncomputable def m_spec_l25Ok (g1 : Grid) : Option Bool :=
  (
      (m_spec_l00In g1.Rows 1 5).bind fun y14 =>
      bif !y14 then
        some true
      else
        (m_spec_l00In g1.Cols 1 5).bind fun y21 =>
        bif !y21 then
          some true
        else
          (chk (g1.Rows * g1.Cols)).bind fun z28 =>
          some ((g1.Cells.length : Int) != z28) : Option Bool).bind fun t5 =>
  bif t5 then
    some false
  else
    (
        (loopM (fun s : Int => m_spec_l25Ok_l1 g1 s) 0).bind fun x38 =>
        match x38 with
        | .inl _ =>
          some (.inl ())
        | .inr r76 =>
          some (.inr r76) : Option (Unit ⊕ Bool)).bind fun x33 =>
    match x33 with
    | .inl _ =>
      some true
    | .inr r79 =>
      some r79

noncomputable def m_spec_ReadGrid_l1 (y7 : (List Str)) (s35 : Str) (n37 : Int) : Option ((Str × Int) ⊕ (Str ⊕ (Grid × Bool))) :=
  bif decide (n37 < (y7.length : Int)) then
    (getL y7 n37).bind fun e50 =>
    (getL y7 0).bind fun e59 =>
    bif (e50.length : Int) != (e59.length : Int) then
      some (.inr (.inr ((⟨0, 0, ([] : Str)⟩ : Grid), false)))
    else
      (getL y7 n37).bind fun e76 =>
      (catL s35 e76).bind fun s85 =>
      (chk (n37 + 1)).bind fun z90 =>
      some (.inl (s85, z90))
  else
    some (.inr (.inl s35))

noncomputable def m_spec_ReadGrid (s1 : Str) : Option (Grid × Bool) :=
  (m_spec_l01Split s1 47).bind fun y7 =>
  (getL y7 0).bind fun e15 =>
  (
      (loopM (fun s : Str × Int => m_spec_ReadGrid_l1 y7 s.1 s.2) (([] : Str), 0)).bind fun x42 =>
      match x42 with
      | .inl s40 =>
        some (.inl s40)
      | .inr r96 =>
        some (.inr r96) : Option (Str ⊕ (Grid × Bool))).bind fun x33 =>
  match x33 with
  | .inl s31 =>
    (m_spec_l25Ok (⟨(y7.length : Int), (e15.length : Int), s31⟩ : Grid)).bind fun y99 =>
    bif !y99 then
      some ((⟨0, 0, ([] : Str)⟩ : Grid), false)
    else
      some ((⟨(y7.length : Int), (e15.length : Int), s31⟩ : Grid), true)
  | .inr r113 =>
    some r113

noncomputable def m_impl_within (x1 : Int) (low3 : Int) (high5 : Int) : Option Bool :=
  (
      bif decide (low3 ≤ x1) then
        some (decide (x1 ≤ high5))
      else
        some false : Option Bool).bind fun t7 =>
  some t7

noncomputable def m_impl_allBytes_l1 (s1 : Str) (is3 : (UInt8 → Option Bool)) (n9 : Int) : Option (Int ⊕ (Unit ⊕ Bool)) :=
  bif decide (n9 < (s1.length : Int)) then
    (getL s1 n9).bind fun c18 =>
    (is3 c18).bind fun y20 =>
    bif !y20 then
      some (.inr (.inr false))
    else
      (chk (n9 + 1)).bind fun z26 =>
      some (.inl z26)
  else
    some (.inr (.inl ()))

noncomputable def m_impl_allBytes (s1 : Str) (is3 : (UInt8 → Option Bool)) : Option Bool :=
  (
      (loopM (fun s : Int => m_impl_allBytes_l1 s1 is3 s) 0).bind fun x12 =>
      match x12 with
      | .inl _ =>
        some (.inl ())
      | .inr r32 =>
        some (.inr r32) : Option (Unit ⊕ Bool)).bind fun x7 =>
  match x7 with
  | .inl _ =>
    some true
  | .inr r35 =>
    some r35

noncomputable def m_impl_small (c1 : UInt8) : Option Bool :=
  (
      bif decide (97 ≤ c1) then
        some (decide (c1 ≤ 122))
      else
        some false : Option Bool).bind fun t2 =>
  some t2

noncomputable def m_impl_gridByte (c1 : UInt8) : Option Bool :=
  (
      bif c1 == 35 then
        some true
      else
        bif c1 == 46 then
          some true
        else
          (m_impl_small c1).bind fun y10 =>
          some y10 : Option Bool).bind fun t2 =>
  some t2

noncomputable def m_impl_ValidGrid (g1 : Grid) : Option Bool :=
  (
      (m_impl_within g1.Rows 1 5).bind fun y13 =>
      bif y13 then
        (m_impl_within g1.Cols 1 5).bind fun y19 =>
        bif y19 then
          (chk (g1.Rows * g1.Cols)).bind fun z25 =>
          bif (g1.Cells.length : Int) == z25 then
            (m_impl_allBytes g1.Cells m_impl_gridByte).bind fun y28 =>
            some y28
          else
            some false
        else
          some false
      else
        some false : Option Bool).bind fun t9 =>
  some t9

noncomputable def m_impl_GridText_l1 (g1 : Grid) (xs23 : (List Str)) (n26 : Int) : Option (((List Str) × Int) ⊕ (List Str)) :=
  bif decide (n26 < g1.Rows) then
    (chk (n26 * g1.Cols)).bind fun z38 =>
    (chk (n26 + 1)).bind fun z40 =>
    (chk (z40 * g1.Cols)).bind fun z42 =>
    (subL g1.Cells z38 z42).bind fun s44 =>
    (catL xs23 ([s44] : (List Str))).bind fun xs49 =>
    (chk (n26 + 1)).bind fun z56 =>
    some (.inl (xs49, z56))
  else
    some (.inr xs23)

noncomputable def m_impl_GridText (g1 : Grid) : Option Str :=
  (m_impl_ValidGrid g1).bind fun y9 =>
  bif !y9 then
    some ([] : Str)
  else
    (
        (loopM (fun s : (List Str) × Int => m_impl_GridText_l1 g1 s.1 s.2) (([] : (List Str)), 0)).bind fun xs29 =>
        some xs29 : Option (List Str)).bind fun xs18 =>
    (m_strings_Join xs18 ([47] : Str)).bind fun y64 =>
    some y64

noncomputable def m_impl_ReadGrid (s1 : Str) : Option (Grid × Bool) :=
  (m_strings_Split s1 ([47] : Str)).bind fun y7 =>
  (getL y7 0).bind fun e17 =>
  (m_strings_Join y7 ([] : Str)).bind fun y26 =>
  (
      (m_impl_ValidGrid (⟨(y7.length : Int), (e17.length : Int), y26⟩ : Grid)).bind fun y51 =>
      bif !y51 then
        some true
      else
        (m_impl_GridText (⟨(y7.length : Int), (e17.length : Int), y26⟩ : Grid)).bind fun y58 =>
        some (y58 != s1) : Option Bool).bind fun t47 =>
  bif t47 then
    some ((⟨0, 0, ([] : Str)⟩ : Grid), false)
  else
    some ((⟨(y7.length : Int), (e17.length : Int), y26⟩ : Grid), true)

noncomputable def m_laws_eqGrid (a1 : Grid) (b5 : Grid) : Option Bool :=
  bif a1.Rows != b5.Rows then
    some false
  else
    bif a1.Cols != b5.Cols then
      some false
    else
      bif a1.Cells != b5.Cells then
        some false
      else
        some true

noncomputable def m_laws_FnExactReadGrid (aS1 : Str) : Option Bool :=
  bif decide (1048576 < (aS1.length : Int)) then
    some true
  else
    (m_spec_ReadGrid aS1).bind fun y4 =>
    (m_impl_ReadGrid aS1).bind fun y19 =>
    (
        (m_laws_eqGrid y19.1 y4.1).bind fun y38 =>
        bif !y38 then
          some true
        else
          some (y19.2 != y4.2) : Option Bool).bind fun t34 =>
    bif t34 then
      some false
    else
      some true

noncomputable def m_unicode_utf8_RuneCountInString_l1 (s1 : Str) (pos10 : Nat) (n11 : Int) : Option ((Nat × Int) ⊕ (Nat × Int)) :=
  bif decide (pos10 < s1.length) then
    (chk (n11 + 1)).bind fun z25 =>
    some (.inl (pos10 + runeW s1 pos10, z25))
  else
    some (.inr (pos10, n11))

noncomputable def m_unicode_utf8_RuneCountInString (s1 : Str) : Option Int :=
  (
      (loopM (fun s : Nat × Int => m_unicode_utf8_RuneCountInString_l1 s1 s.1 s.2) (0, 0)).bind fun x17 =>
      match x17 with
      | (pos14, n15) =>
        some n15 : Option Int).bind fun n3 =>
  some n3

noncomputable def m_internal_bytealg_Cutover (n1 : Int) : Option Int :=
  (chk (n1 + 16)).bind fun z3 =>
  (quoI z3 8).bind fun z5 =>
  some z5

noncomputable def m_strings_Builder_copyCheck (b1 : Str) : Option Str :=
  some b1

noncomputable def m_strings_Builder_WriteString (b1 : Str) (s7 : Str) : Option (Int × Unit × Str) :=
  (m_strings_Builder_copyCheck b1).bind fun y9 =>
  (catL y9 s7).bind fun xs18 =>
  some ((s7.length : Int), (), xs18)

noncomputable def m_strings_Builder_String (b1 : Str) : Option Str :=
  some b1

end Go.Proofs.YtgmikhdealhlfaaDoor
