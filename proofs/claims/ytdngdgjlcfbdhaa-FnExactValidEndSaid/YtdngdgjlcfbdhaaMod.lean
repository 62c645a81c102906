/- The models of the program's functions. Printed by gen.py. -/
import Derived.Test.YtdngdgjlcfbdhaaTyp
import Derived.Test.YtdngdgjlcfbdhaaEngM
namespace Go.Proofs.Ytdngdgjlcfbdhaa
open Go Go.RowKit
set_option linter.unusedSimpArgs false
set_option linter.unusedVariables false

noncomputable def m_spec_l00In (n1 : Int) (low3 : Int) (high5 : Int) : Option Bool :=
  (
      bif decide (low3 ≤ n1) then
        some (decide (n1 ≤ high5))
      else
        some false : Option Bool).bind fun t7 =>
  some t7

noncomputable def m_spec_l26Rating (n1 : Int) : Option Bool :=
  (m_spec_l00In n1 0 4000).bind fun y3 =>
  some y3

noncomputable def m_spec_l00Min (a1 : Int) (b3 : Int) : Option Int :=
  bif decide (a1 < b3) then
    some a1
  else
    some b3

noncomputable def m_spec_l00Max (a1 : Int) (b3 : Int) : Option Int :=
  bif decide (b3 < a1) then
    some a1
  else
    some b3

noncomputable def m_spec_l26Expected (a1 : Int) (b3 : Int) : Option Int :=
  (chk (a1 - b3)).bind fun z5 =>
  (m_spec_l00Min 400 z5).bind fun y7 =>
  (m_spec_l00Max (-400) y7).bind fun y13 =>
  (chk (5 * y13)).bind fun z19 =>
  (chk (2000 + z19)).bind fun z21 =>
  some z21

noncomputable def m_spec_ExpectedOf (a1 : Int) (b3 : Int) : Option (Int × Int) :=
  (
      (m_spec_l26Rating a1).bind fun y9 =>
      bif !y9 then
        some true
      else
        (m_spec_l26Rating b3).bind fun y16 =>
        some (!y16) : Option Bool).bind fun t5 =>
  bif t5 then
    some (0, 2)
  else
    (m_spec_l26Expected a1 b3).bind fun y24 =>
    some (y24, 0)

noncomputable def m_impl_within (x1 : Int) (low3 : Int) (high5 : Int) : Option Bool :=
  (
      bif decide (low3 ≤ x1) then
        some (decide (x1 ≤ high5))
      else
        some false : Option Bool).bind fun t7 =>
  some t7

noncomputable def m_impl_clamp_int64 (x1 : Int) (low3 : Int) (high5 : Int) : Option Int :=
  some (max low3 (min x1 high5))

noncomputable def m_impl_expected (a1 : Int) (b3 : Int) : Option Int :=
  (chk (a1 - b3)).bind fun z5 =>
  (m_impl_clamp_int64 z5 (-400) 400).bind fun y7 =>
  (chk (5 * y7)).bind fun z13 =>
  (chk (2000 + z13)).bind fun z15 =>
  some z15

noncomputable def m_impl_ExpectedOf (a1 : Int) (b3 : Int) : Option (Int × Int) :=
  (
      (m_impl_within a1 0 4000).bind fun y9 =>
      bif !y9 then
        some true
      else
        (m_impl_within b3 0 4000).bind fun y16 =>
        some (!y16) : Option Bool).bind fun t5 =>
  bif t5 then
    some (0, 2)
  else
    (m_impl_expected a1 b3).bind fun y24 =>
    some (y24, 0)

noncomputable def m_laws_FnExactExpectedOf (aA1 : Int) (aB3 : Int) : Option Bool :=
  (m_spec_ExpectedOf aA1 aB3).bind fun y5 =>
  (m_impl_ExpectedOf aA1 aB3).bind fun y12 =>
  (
      bif y12.1 != y5.1 then
        some true
      else
        some (y12.2 != y5.2) : Option Bool).bind fun t19 =>
  bif t19 then
    some false
  else
    some true

noncomputable def m_laws_szGrid (a1 : Grid) (left5 : Int) : Option Int :=
  (chk (left5 - (a1.Cells.length : Int))).bind fun z11 =>
  bif decide (z11 < 0) then
    some (-1)
  else
    some z11

noncomputable def m_laws_toGrid (a1 : Grid) : Option Grid :=
  some a1

noncomputable def m_spec_l01Small (c1 : UInt8) : Option Bool :=
  (
      bif decide (97 ≤ c1) then
        some (decide (c1 ≤ 122))
      else
        some false : Option Bool).bind fun t2 =>
  some t2

noncomputable def m_spec_l25Ok_l1 (g1 : Grid) (n35 : Int) : Option (Int ⊕ (Unit ⊕ Bool)) :=
  bif decide (n35 < (g1.Cells.length : Int)) then
    (
        (getL g1.Cells n35).bind fun c52 =>
        bif c52 != 35 then
          (getL g1.Cells n35).bind fun c55 =>
          bif c55 != 46 then
            (getL g1.Cells n35).bind fun c58 =>
            (m_spec_l01Small c58).bind fun y60 =>
            some (!y60)
          else
            some false
        else
          some false : Option Bool).bind fun t48 =>
    bif t48 then
      some (.inr (.inr false))
    else
      (chk (n35 + 1)).bind fun z70 =>
      some (.inl z70)
  else
    some (.inr (.inl ()))

noncomputable def m_spec_l25Ok (g1 : Grid) : Option Bool :=
  (
      (m_spec_l00In g1.Rows 1 5).bind fun y14 =>
      bif !y14 then
        some true
      else
        (m_spec_l00In g1.Cols 1 5).bind fun y21 =>
        bif !y21 then
          some true
        else
          (chk (g1.Rows * g1.Cols)).bind fun z28 =>
          some ((g1.Cells.length : Int) != z28) : Option Bool).bind fun t5 =>
  bif t5 then
    some false
  else
    (
        (loopM (fun s : Int => m_spec_l25Ok_l1 g1 s) 0).bind fun x38 =>
        match x38 with
        | .inl _ =>
          some (.inl ())
        | .inr r76 =>
          some (.inr r76) : Option (Unit ⊕ Bool)).bind fun x33 =>
    match x33 with
    | .inl _ =>
      some true
    | .inr r79 =>
      some r79

noncomputable def m_spec_ValidGrid (g1 : Grid) : Option Bool :=
  (m_spec_l25Ok g1).bind fun y9 =>
  some y9

noncomputable def m_impl_allBytes_l1 (s1 : Str) (is3 : (UInt8 → Option Bool)) (n9 : Int) : Option (Int ⊕ (Unit ⊕ Bool)) :=
  bif decide (n9 < (s1.length : Int)) then
    (getL s1 n9).bind fun c18 =>
    (is3 c18).bind fun y20 =>
    bif !y20 then
      some (.inr (.inr false))
    else
      (chk (n9 + 1)).bind fun z26 =>
      some (.inl z26)
  else
    some (.inr (.inl ()))

noncomputable def m_impl_allBytes (s1 : Str) (is3 : (UInt8 → Option Bool)) : Option Bool :=
  (
      (loopM (fun s : Int => m_impl_allBytes_l1 s1 is3 s) 0).bind fun x12 =>
      match x12 with
      | .inl _ =>
        some (.inl ())
      | .inr r32 =>
        some (.inr r32) : Option (Unit ⊕ Bool)).bind fun x7 =>
  match x7 with
  | .inl _ =>
    some true
  | .inr r35 =>
    some r35

noncomputable def m_impl_small (c1 : UInt8) : Option Bool :=
  (
      bif decide (97 ≤ c1) then
        some (decide (c1 ≤ 122))
      else
        some false : Option Bool).bind fun t2 =>
  some t2

noncomputable def m_impl_gridByte (c1 : UInt8) : Option Bool :=
  (
      bif c1 == 35 then
        some true
      else
        bif c1 == 46 then
          some true
        else
          (m_impl_small c1).bind fun y10 =>
          some y10 : Option Bool).bind fun t2 =>
  some t2

noncomputable def m_impl_ValidGrid (g1 : Grid) : Option Bool :=
  (
      (m_impl_within g1.Rows 1 5).bind fun y13 =>
      bif y13 then
        (m_impl_within g1.Cols 1 5).bind fun y19 =>
        bif y19 then
          (chk (g1.Rows * g1.Cols)).bind fun z25 =>
          bif (g1.Cells.length : Int) == z25 then
            (m_impl_allBytes g1.Cells m_impl_gridByte).bind fun y28 =>
            some y28
          else
            some false
        else
          some false
      else
        some false : Option Bool).bind fun t9 =>
  some t9

noncomputable def m_laws_FnExactValidGrid (aG1 : Grid) : Option Bool :=
  (m_laws_szGrid aG1 1048576).bind fun y9 =>
  bif decide (y9 < 0) then
    some true
  else
    (m_laws_toGrid aG1).bind fun y16 =>
    (m_spec_ValidGrid y16).bind fun y24 =>
    (m_laws_toGrid aG1).bind fun y29 =>
    (m_impl_ValidGrid y29).bind fun y37 =>
    bif y37 != y24 then
      some false
    else
      some true

noncomputable def m_laws_toExpect (a1 : Expect) : Option Expect :=
  some a1

noncomputable def m_spec_l21Ok (e1 : Expect) : Option Bool :=
  (
      (m_spec_l00In e1.Ways 1 1000000).bind fun y12 =>
      bif y12 then
        (m_spec_l00In e1.Sum (-1000000000) 1000000000).bind fun y18 =>
        some y18
      else
        some false : Option Bool).bind fun t8 =>
  some t8

noncomputable def m_spec_l12Sign (a1 : Int) (b3 : Int) : Option Int :=
  bif decide (a1 < b3) then
    some (-1)
  else
    bif decide (b3 < a1) then
      some 1
    else
      some 0

noncomputable def m_spec_l21Compare (a1 : Expect) (b4 : Expect) : Option Int :=
  (chk (a1.Sum * b4.Ways)).bind fun z15 =>
  (chk (b4.Sum * a1.Ways)).bind fun z17 =>
  (m_spec_l12Sign z15 z17).bind fun y19 =>
  some y19

noncomputable def m_spec_CompareExpect (a1 : Expect) (b4 : Expect) : Option Int :=
  (
      (m_spec_l21Ok a1).bind fun y19 =>
      bif !y19 then
        some true
      else
        (m_spec_l21Ok b4).bind fun y26 =>
        some (!y26) : Option Bool).bind fun t15 =>
  bif t15 then
    some 0
  else
    (m_spec_l21Compare a1 b4).bind fun y34 =>
    some y34

noncomputable def m_impl_validExpect (e1 : Expect) : Option Bool :=
  (
      (m_impl_within e1.Ways 1 1000000).bind fun y12 =>
      bif y12 then
        (m_impl_within e1.Sum (-1000000000) 1000000000).bind fun y18 =>
        some y18
      else
        some false : Option Bool).bind fun t8 =>
  some t8

noncomputable def m_cmp_isNaN_int64 (x1 : Int) : Option Bool :=
  some (x1 != x1)

noncomputable def m_cmp_Compare_int64 (x1 : Int) (y3 : Int) : Option Int :=
  (m_cmp_isNaN_int64 x1).bind fun y5 =>
  (m_cmp_isNaN_int64 y3).bind fun y10 =>
  bif y5 then
    bif y10 then
      some 0
    else
      some (-1)
  else
    bif y10 then
      some 1
    else
      bif decide (x1 < y3) then
        some (-1)
      else
        bif decide (y3 < x1) then
          some 1
        else
          some 0

noncomputable def m_impl_CompareExpect (a1 : Expect) (b4 : Expect) : Option Int :=
  (
      (m_impl_validExpect a1).bind fun y19 =>
      bif !y19 then
        some true
      else
        (m_impl_validExpect b4).bind fun y26 =>
        some (!y26) : Option Bool).bind fun t15 =>
  bif t15 then
    some 0
  else
    (chk (a1.Sum * b4.Ways)).bind fun z34 =>
    (chk (b4.Sum * a1.Ways)).bind fun z36 =>
    (m_cmp_Compare_int64 z34 z36).bind fun y38 =>
    some y38

noncomputable def m_laws_FnExactCompareExpect (aA1 : Expect) (aB4 : Expect) : Option Bool :=
  (m_laws_toExpect aA1).bind fun y16 =>
  (m_laws_toExpect aB4).bind fun y23 =>
  (m_spec_CompareExpect y16 y23).bind fun y30 =>
  (m_laws_toExpect aA1).bind fun y37 =>
  (m_laws_toExpect aB4).bind fun y44 =>
  (m_impl_CompareExpect y37 y44).bind fun y51 =>
  bif y51 != y30 then
    some false
  else
    some true

noncomputable def m_laws_szResult (a1 : Result) (left6 : Int) : Option Int :=
  (chk (left6 - (a1.A.length : Int))).bind fun z12 =>
  bif decide (z12 < 0) then
    some (-1)
  else
    (chk (z12 - (a1.B.length : Int))).bind fun z15 =>
    bif decide (z15 < 0) then
      some (-1)
    else
      some z15

noncomputable def m_laws_szResultS_l1 (a1 : (List Result)) (left15 : Int) (n17 : Int) : Option ((Int × Int) ⊕ (Int ⊕ Int)) :=
  bif decide (n17 < (a1.length : Int)) then
    (getL a1 n17).bind fun e29 =>
    (m_laws_szResult e29 left15).bind fun y41 =>
    bif decide (y41 < 0) then
      some (.inr (.inr (-1)))
    else
      (chk (n17 + 1)).bind fun z48 =>
      some (.inl (y41, z48))
  else
    some (.inr (.inl left15))

noncomputable def m_laws_szResultS (a1 : (List Result)) (left5 : Int) : Option Int :=
  (chk (left5 - (a1.length : Int))).bind fun z8 =>
  bif decide (z8 < 0) then
    some (-1)
  else
    (
        (loopM (fun s : Int × Int => m_laws_szResultS_l1 a1 s.1 s.2) (z8, 0)).bind fun x22 =>
        match x22 with
        | .inl left20 =>
          some (.inl left20)
        | .inr r54 =>
          some (.inr r54) : Option (Int ⊕ Int)).bind fun x13 =>
    match x13 with
    | .inl left11 =>
      some left11
    | .inr r57 =>
      some r57

noncomputable def m_laws_toResult (a1 : Result) : Option Result :=
  some a1

noncomputable def m_laws_toResultS_l1 (a1 : (List Result)) (xs14 : (List Result)) (n15 : Int) : Option (((List Result) × Int) ⊕ (List Result)) :=
  bif decide (n15 < (a1.length : Int)) then
    (getL a1 n15).bind fun e26 =>
    (m_laws_toResult e26).bind fun y38 =>
    (getL xs14 n15).bind fun e47 =>
    (setL xs14 n15 y38).bind fun xs58 =>
    (chk (n15 + 1)).bind fun z60 =>
    some (.inl (xs58, z60))
  else
    some (.inr xs14)

noncomputable def m_laws_toResultS (a1 : (List Result)) : Option (List Result) :=
  (makeL (a1.length : Int) (⟨([] : Str), ([] : Str), 0, 0⟩ : Result)).bind fun xs6 =>
  (
      (loopM (fun s : (List Result) × Int => m_laws_toResultS_l1 a1 s.1 s.2) (xs6, 0)).bind fun xs18 =>
      some xs18 : Option (List Result)).bind fun xs11 =>
  some xs11

noncomputable def m_spec_l26Played_l1 (list1 : (List Result)) (a5 : Str) (b7 : Str) (n11 : Int) : Option (Int ⊕ (Unit ⊕ Bool)) :=
  bif decide (n11 < (list1.length : Int)) then
    (
        (getL list1 n11).bind fun e25 =>
        bif e25.A == a5 then
          (getL list1 n11).bind fun e38 =>
          bif e38.B == b7 then
            some true
          else
            (getL list1 n11).bind fun e52 =>
            bif e52.A == b7 then
              (getL list1 n11).bind fun e65 =>
              some (e65.B == a5)
            else
              some false
        else
          (getL list1 n11).bind fun e79 =>
          bif e79.A == b7 then
            (getL list1 n11).bind fun e92 =>
            some (e92.B == a5)
          else
            some false : Option Bool).bind fun t21 =>
    bif t21 then
      some (.inr (.inr true))
    else
      (chk (n11 + 1)).bind fun z108 =>
      some (.inl z108)
  else
    some (.inr (.inl ()))

noncomputable def m_spec_l26Played (list1 : (List Result)) (a5 : Str) (b7 : Str) : Option Bool :=
  (
      (loopM (fun s : Int => m_spec_l26Played_l1 list1 a5 b7 s) 0).bind fun x14 =>
      match x14 with
      | .inl _ =>
        some (.inl ())
      | .inr r114 =>
        some (.inr r114) : Option (Unit ⊕ Bool)).bind fun x9 =>
  match x9 with
  | .inl _ =>
    some false
  | .inr r117 =>
    some r117

noncomputable def m_spec_HavePlayed (list1 : (List Result)) (a5 : Str) (b7 : Str) : Option Bool :=
  (m_spec_l26Played list1 a5 b7).bind fun y9 =>
  some y9

noncomputable def m_impl_HavePlayed_1 (r1 : Result) (p6 : Str) (p10 : Str) : Option Bool :=
  (
      bif r1.A == p6 then
        bif r1.B == p10 then
          some true
        else
          bif r1.A == p10 then
            some (r1.B == p6)
          else
            some false
      else
        bif r1.A == p10 then
          some (r1.B == p6)
        else
          some false : Option Bool).bind fun t18 =>
  some t18

noncomputable def m_slices_IndexFunc_impl_Result_impl_Result_l1 (s1 : (List Result)) (f5 : (Result → Option Bool)) (n12 : Int) : Option (Int ⊕ (Unit ⊕ Int)) :=
  bif decide (n12 < (s1.length : Int)) then
    (getL s1 n12).bind fun e21 =>
    (f5 e21).bind fun y33 =>
    bif y33 then
      some (.inr (.inr n12))
    else
      (chk (n12 + 1)).bind fun z39 =>
      some (.inl z39)
  else
    some (.inr (.inl ()))

noncomputable def m_slices_IndexFunc_impl_Result_impl_Result (s1 : (List Result)) (f5 : (Result → Option Bool)) : Option Int :=
  (
      (loopM (fun s : Int => m_slices_IndexFunc_impl_Result_impl_Result_l1 s1 f5 s) 0).bind fun x15 =>
      match x15 with
      | .inl _ =>
        some (.inl ())
      | .inr r45 =>
        some (.inr r45) : Option (Unit ⊕ Int)).bind fun x9 =>
  match x9 with
  | .inl _ =>
    some (-1)
  | .inr r48 =>
    some r48

noncomputable def m_slices_ContainsFunc_impl_Result_impl_Result (s1 : (List Result)) (f5 : (Result → Option Bool)) : Option Bool :=
  (m_slices_IndexFunc_impl_Result_impl_Result s1 f5).bind fun y9 =>
  some (decide (0 ≤ y9))

noncomputable def m_impl_HavePlayed (list1 : (List Result)) (a5 : Str) (b7 : Str) : Option Bool :=
  (m_slices_ContainsFunc_impl_Result_impl_Result list1 (fun u17 => m_impl_HavePlayed_1 u17 a5 b7)).bind fun y22 =>
  some y22

noncomputable def m_laws_eqResult (a1 : Result) (b6 : Result) : Option Bool :=
  bif a1.A != b6.A then
    some false
  else
    bif a1.B != b6.B then
      some false
    else
      bif a1.ScoreA != b6.ScoreA then
        some false
      else
        bif a1.ScoreB != b6.ScoreB then
          some false
        else
          some true

noncomputable def m_laws_eqResultS_l1 (a1 : (List Result)) (b5 : (List Result)) (n14 : Int) : Option (Int ⊕ (Unit ⊕ Bool)) :=
  bif decide (n14 < (a1.length : Int)) then
    (getL a1 n14).bind fun e25 =>
    (getL b5 n14).bind fun e37 =>
    (m_laws_eqResult e25 e37).bind fun y49 =>
    bif !y49 then
      some (.inr (.inr false))
    else
      (chk (n14 + 1)).bind fun z55 =>
      some (.inl z55)
  else
    some (.inr (.inl ()))

noncomputable def m_laws_eqResultS (a1 : (List Result)) (b5 : (List Result)) : Option Bool :=
  bif (a1.length : Int) != (b5.length : Int) then
    some false
  else
    (
        (loopM (fun s : Int => m_laws_eqResultS_l1 a1 b5 s) 0).bind fun x17 =>
        match x17 with
        | .inl _ =>
          some (.inl ())
        | .inr r61 =>
          some (.inr r61) : Option (Unit ⊕ Bool)).bind fun x12 =>
    match x12 with
    | .inl _ =>
      some true
    | .inr r64 =>
      some r64

noncomputable def m_laws_FnExactHavePlayed (aList1 : (List Result)) (aA5 : Str) (aB7 : Str) : Option Bool :=
  bif decide (1048576 < (aA5.length : Int)) then
    some true
  else
    bif decide (1048576 < (aB7.length : Int)) then
      some true
    else
      (m_laws_szResultS aList1 1048576).bind fun y11 =>
      bif decide (y11 < 0) then
        some true
      else
        (m_laws_toResultS aList1).bind fun y18 =>
        (m_spec_HavePlayed y18 aA5 aB7).bind fun y25 =>
        (m_laws_toResultS aList1).bind fun y30 =>
        (m_impl_HavePlayed y30 aA5 aB7).bind fun y37 =>
        bif y37 != y25 then
          some false
        else
          (m_laws_toResultS aList1).bind fun y43 =>
          (m_laws_eqResultS y30 y43).bind fun y50 =>
          bif !y50 then
            some false
          else
            some true

noncomputable def m_spec_l25At (g1 : Grid) (row5 : Int) (col7 : Int) : Option UInt8 :=
  (
      (chk (g1.Rows - 1)).bind fun z17 =>
      (m_spec_l00In row5 0 z17).bind fun y19 =>
      bif !y19 then
        some true
      else
        (chk (g1.Cols - 1)).bind fun z26 =>
        (m_spec_l00In col7 0 z26).bind fun y28 =>
        some (!y28) : Option Bool).bind fun t9 =>
  bif t9 then
    some 35
  else
    (chk (row5 * g1.Cols)).bind fun z41 =>
    (chk (z41 + col7)).bind fun z43 =>
    (getL g1.Cells z43).bind fun c45 =>
    some c45

noncomputable def m_spec_l25Turn_l2 (g1 : Grid) (r20 : Int) (xs41 : Str) (n44 : Int) : Option ((Str × Int) ⊕ Str) :=
  bif decide (n44 < g1.Rows) then
    (m_spec_l25At g1 n44 r20).bind fun y56 =>
    (catL xs41 ([y56] : Str)).bind fun xs64 =>
    (chk (n44 + 1)).bind fun z71 =>
    some (.inl (xs64, z71))
  else
    some (.inr xs41)

noncomputable def m_spec_l25Turn_l1 (g1 : Grid) (xs17 : Str) (r20 : Int) : Option ((Str × Int) ⊕ Str) :=
  bif decide (r20 < g1.Cols) then
    (
        (loopM (fun s : Str × Int => m_spec_l25Turn_l2 g1 r20 s.1 s.2) (xs17, 0)).bind fun xs47 =>
        some xs47 : Option Str).bind fun xs36 =>
    (chk (r20 + 1)).bind fun z79 =>
    some (.inl (xs36, z79))
  else
    some (.inr xs17)

noncomputable def m_spec_l25Turn (g1 : Grid) : Option Grid :=
  (
      (loopM (fun s : Str × Int => m_spec_l25Turn_l1 g1 s.1 s.2) (([] : Str), 0)).bind fun xs23 =>
      some xs23 : Option Str).bind fun xs12 =>
  some (⟨g1.Cols, g1.Rows, xs12⟩ : Grid)

noncomputable def m_spec_TurnGrid (g1 : Grid) : Option (Grid × Int) :=
  (m_spec_l25Ok g1).bind fun y13 =>
  bif !y13 then
    some ((⟨0, 0, ([] : Str)⟩ : Grid), 1)
  else
    (m_spec_l25Turn g1).bind fun y23 =>
    some (y23, 0)

noncomputable def m_impl_Grid_turned_l2 (g1 : Grid) (row24 : Int) (xs41 : Str) (n44 : Int) : Option ((Str × Int) ⊕ Str) :=
  bif decide (n44 < g1.Rows) then
    (chk (n44 * g1.Cols)).bind fun z56 =>
    (chk (z56 + row24)).bind fun z58 =>
    (getL g1.Cells z58).bind fun c60 =>
    (catL xs41 ([c60] : Str)).bind fun xs65 =>
    (chk (n44 + 1)).bind fun z72 =>
    some (.inl (xs65, z72))
  else
    some (.inr xs41)

noncomputable def m_impl_Grid_turned_l1 (g1 : Grid) (xs21 : Str) (row24 : Int) : Option ((Str × Int) ⊕ Str) :=
  bif decide (row24 < g1.Cols) then
    (
        (loopM (fun s : Str × Int => m_impl_Grid_turned_l2 g1 row24 s.1 s.2) (xs21, 0)).bind fun xs47 =>
        some xs47 : Option Str).bind fun xs36 =>
    (chk (row24 + 1)).bind fun z80 =>
    some (.inl (xs36, z80))
  else
    some (.inr xs21)

noncomputable def m_impl_Grid_turned (g1 : Grid) : Option Grid :=
  (
      (loopM (fun s : Str × Int => m_impl_Grid_turned_l1 g1 s.1 s.2) (([] : Str), 0)).bind fun xs27 =>
      some xs27 : Option Str).bind fun xs16 =>
  some (⟨g1.Cols, g1.Rows, xs16⟩ : Grid)

noncomputable def m_impl_TurnGrid (g1 : Grid) : Option (Grid × Int) :=
  (m_impl_ValidGrid g1).bind fun y13 =>
  bif !y13 then
    some ((⟨0, 0, ([] : Str)⟩ : Grid), 1)
  else
    (m_impl_Grid_turned g1).bind fun y23 =>
    some (y23, 0)

noncomputable def m_laws_eqGrid (a1 : Grid) (b5 : Grid) : Option Bool :=
  bif a1.Rows != b5.Rows then
    some false
  else
    bif a1.Cols != b5.Cols then
      some false
    else
      bif a1.Cells != b5.Cells then
        some false
      else
        some true

noncomputable def m_laws_FnExactTurnGrid (aG1 : Grid) : Option Bool :=
  (m_laws_szGrid aG1 1048576).bind fun y9 =>
  bif decide (y9 < 0) then
    some true
  else
    (m_laws_toGrid aG1).bind fun y16 =>
    (m_spec_TurnGrid y16).bind fun y24 =>
    (m_laws_toGrid aG1).bind fun y40 =>
    (m_impl_TurnGrid y40).bind fun y48 =>
    (
        (m_laws_eqGrid y48.1 y24.1).bind fun y68 =>
        bif !y68 then
          some true
        else
          some (y48.2 != y24.2) : Option Bool).bind fun t64 =>
    bif t64 then
      some false
    else
      some true

noncomputable def m_laws_szMember (a1 : Member) (left4 : Int) : Option Int :=
  (chk (left4 - (a1.Name.length : Int))).bind fun z10 =>
  bif decide (z10 < 0) then
    some (-1)
  else
    some z10

noncomputable def m_laws_szMemberS_l1 (a1 : (List Member)) (left15 : Int) (n17 : Int) : Option ((Int × Int) ⊕ (Int ⊕ Int)) :=
  bif decide (n17 < (a1.length : Int)) then
    (getL a1 n17).bind fun e29 =>
    (m_laws_szMember e29 left15).bind fun y39 =>
    bif decide (y39 < 0) then
      some (.inr (.inr (-1)))
    else
      (chk (n17 + 1)).bind fun z46 =>
      some (.inl (y39, z46))
  else
    some (.inr (.inl left15))

noncomputable def m_laws_szMemberS (a1 : (List Member)) (left5 : Int) : Option Int :=
  (chk (left5 - (a1.length : Int))).bind fun z8 =>
  bif decide (z8 < 0) then
    some (-1)
  else
    (
        (loopM (fun s : Int × Int => m_laws_szMemberS_l1 a1 s.1 s.2) (z8, 0)).bind fun x22 =>
        match x22 with
        | .inl left20 =>
          some (.inl left20)
        | .inr r52 =>
          some (.inr r52) : Option (Int ⊕ Int)).bind fun x13 =>
    match x13 with
    | .inl left11 =>
      some left11
    | .inr r55 =>
      some r55

noncomputable def m_laws_szClub (a1 : Club) (left5 : Int) : Option Int :=
  (m_laws_szMemberS a1.Members left5).bind fun y11 =>
  bif decide (y11 < 0) then
    some (-1)
  else
    some y11

noncomputable def m_laws_toMember (a1 : Member) : Option Member :=
  some a1

noncomputable def m_laws_toMemberS_l1 (a1 : (List Member)) (xs14 : (List Member)) (n15 : Int) : Option (((List Member) × Int) ⊕ (List Member)) :=
  bif decide (n15 < (a1.length : Int)) then
    (getL a1 n15).bind fun e26 =>
    (m_laws_toMember e26).bind fun y36 =>
    (getL xs14 n15).bind fun e43 =>
    (setL xs14 n15 y36).bind fun xs52 =>
    (chk (n15 + 1)).bind fun z54 =>
    some (.inl (xs52, z54))
  else
    some (.inr xs14)

noncomputable def m_laws_toMemberS (a1 : (List Member)) : Option (List Member) :=
  (makeL (a1.length : Int) (⟨([] : Str), 0⟩ : Member)).bind fun xs6 =>
  (
      (loopM (fun s : (List Member) × Int => m_laws_toMemberS_l1 a1 s.1 s.2) (xs6, 0)).bind fun xs18 =>
      some xs18 : Option (List Member)).bind fun xs11 =>
  some xs11

noncomputable def m_laws_toClub (a1 : Club) : Option Club :=
  (m_laws_toMemberS a1.Members).bind fun y17 =>
  some (⟨y17⟩ : Club)

noncomputable def m_spec_SameClub_l1 (a1 : Club) (b5 : Club) (n22 : Int) : Option (Int ⊕ (Unit ⊕ Bool)) :=
  bif decide (n22 < (a1.Members.length : Int)) then
    (getL a1.Members n22).bind fun e33 =>
    (getL b5.Members n22).bind fun e43 =>
    bif e33 != e43 then
      some (.inr (.inr false))
    else
      (chk (n22 + 1)).bind fun z54 =>
      some (.inl z54)
  else
    some (.inr (.inl ()))

noncomputable def m_spec_SameClub (a1 : Club) (b5 : Club) : Option Bool :=
  bif (a1.Members.length : Int) != (b5.Members.length : Int) then
    some false
  else
    (
        (loopM (fun s : Int => m_spec_SameClub_l1 a1 b5 s) 0).bind fun x25 =>
        match x25 with
        | .inl _ =>
          some (.inl ())
        | .inr r60 =>
          some (.inr r60) : Option (Unit ⊕ Bool)).bind fun x20 =>
    match x20 with
    | .inl _ =>
      some true
    | .inr r63 =>
      some r63

noncomputable def m_slices_Equal_impl_Member_impl_Member_l1 (s11 : (List Member)) (s25 : (List Member)) (n15 : Int) : Option (Int ⊕ (Unit ⊕ Bool)) :=
  bif decide (n15 < (s11.length : Int)) then
    (getL s11 n15).bind fun e25 =>
    (getL s25 n15).bind fun e35 =>
    bif e25 != e35 then
      some (.inr (.inr false))
    else
      (chk (n15 + 1)).bind fun z46 =>
      some (.inl z46)
  else
    some (.inr (.inl ()))

noncomputable def m_slices_Equal_impl_Member_impl_Member (s11 : (List Member)) (s25 : (List Member)) : Option Bool :=
  bif (s11.length : Int) != (s25.length : Int) then
    some false
  else
    (
        (loopM (fun s : Int => m_slices_Equal_impl_Member_impl_Member_l1 s11 s25 s) 0).bind fun x18 =>
        match x18 with
        | .inl _ =>
          some (.inl ())
        | .inr r52 =>
          some (.inr r52) : Option (Unit ⊕ Bool)).bind fun x12 =>
    match x12 with
    | .inl _ =>
      some true
    | .inr r55 =>
      some r55

noncomputable def m_impl_SameClub (a1 : Club) (b5 : Club) : Option Bool :=
  (m_slices_Equal_impl_Member_impl_Member a1.Members b5.Members).bind fun y17 =>
  some y17

noncomputable def m_laws_eqMember (a1 : Member) (b4 : Member) : Option Bool :=
  bif a1.Name != b4.Name then
    some false
  else
    bif a1.Rating != b4.Rating then
      some false
    else
      some true

noncomputable def m_laws_eqMemberS_l1 (a1 : (List Member)) (b5 : (List Member)) (n14 : Int) : Option (Int ⊕ (Unit ⊕ Bool)) :=
  bif decide (n14 < (a1.length : Int)) then
    (getL a1 n14).bind fun e25 =>
    (getL b5 n14).bind fun e35 =>
    (m_laws_eqMember e25 e35).bind fun y45 =>
    bif !y45 then
      some (.inr (.inr false))
    else
      (chk (n14 + 1)).bind fun z51 =>
      some (.inl z51)
  else
    some (.inr (.inl ()))

noncomputable def m_laws_eqMemberS (a1 : (List Member)) (b5 : (List Member)) : Option Bool :=
  bif (a1.length : Int) != (b5.length : Int) then
    some false
  else
    (
        (loopM (fun s : Int => m_laws_eqMemberS_l1 a1 b5 s) 0).bind fun x17 =>
        match x17 with
        | .inl _ =>
          some (.inl ())
        | .inr r57 =>
          some (.inr r57) : Option (Unit ⊕ Bool)).bind fun x12 =>
    match x12 with
    | .inl _ =>
      some true
    | .inr r60 =>
      some r60

noncomputable def m_laws_eqClub (a1 : Club) (b5 : Club) : Option Bool :=
  (m_laws_eqMemberS a1.Members b5.Members).bind fun y17 =>
  bif !y17 then
    some false
  else
    some true

noncomputable def m_laws_FnExactSameClub (aA1 : Club) (aB5 : Club) : Option Bool :=
  (m_laws_szClub aA1 1048576).bind fun y17 =>
  bif decide (y17 < 0) then
    some true
  else
    (m_laws_szClub aB5 y17).bind fun y24 =>
    bif decide (y24 < 0) then
      some true
    else
      (m_laws_toClub aA1).bind fun y32 =>
      (m_laws_toClub aB5).bind fun y39 =>
      (m_spec_SameClub y32 y39).bind fun y46 =>
      (m_laws_toClub aA1).bind fun y51 =>
      (m_laws_toClub aB5).bind fun y65 =>
      (m_impl_SameClub y51 y65).bind fun y79 =>
      bif y79 != y46 then
        some false
      else
        (m_laws_toClub aA1).bind fun y86 =>
        (m_laws_eqClub y51 y86).bind fun y93 =>
        bif !y93 then
          some false
        else
          (m_laws_toClub aB5).bind fun y100 =>
          (m_laws_eqClub y65 y100).bind fun y107 =>
          bif !y107 then
            some false
          else
            some true

noncomputable def m_spec_l03Tile (c1 : UInt8) : Option Bool :=
  (
      bif c1 == 63 then
        some true
      else
        (m_spec_l01Small c1).bind fun y8 =>
        some y8 : Option Bool).bind fun t2 =>
  some t2

noncomputable def m_spec_l03Pile_l1 (s1 : Str) (n5 : Int) : Option (Int ⊕ (Unit ⊕ Bool)) :=
  bif decide (n5 < (s1.length : Int)) then
    (
        (getL s1 n5).bind fun c19 =>
        (m_spec_l03Tile c19).bind fun y21 =>
        bif !y21 then
          some true
        else
          bif decide (0 < n5) then
            (getL s1 n5).bind fun c29 =>
            (chk (n5 - 1)).bind fun z31 =>
            (getL s1 z31).bind fun c33 =>
            some (decide (c29 < c33))
          else
            some false : Option Bool).bind fun t14 =>
    bif t14 then
      some (.inr (.inr false))
    else
      (chk (n5 + 1)).bind fun z39 =>
      some (.inl z39)
  else
    some (.inr (.inl ()))

noncomputable def m_spec_l03Pile (s1 : Str) : Option Bool :=
  (
      (loopM (fun s : Int => m_spec_l03Pile_l1 s1 s) 0).bind fun x8 =>
      match x8 with
      | .inl _ =>
        some (.inl ())
      | .inr r45 =>
        some (.inr r45) : Option (Unit ⊕ Bool)).bind fun x3 =>
  match x3 with
  | .inl _ =>
    some (decide ((s1.length : Int) ≤ 120))
  | .inr r48 =>
    some r48

noncomputable def m_spec_l21Pool (s1 : Str) : Option Bool :=
  (
      (m_spec_l03Pile s1).bind fun y7 =>
      bif y7 then
        some (decide ((s1.length : Int) ≤ 12))
      else
        some false : Option Bool).bind fun t3 =>
  some t3

noncomputable def m_spec_l21Code (pile1 : Str) (n3 : Int) : Option Int :=
  (m_spec_l21Pool pile1).bind fun y5 =>
  bif !y5 then
    some 1
  else
    (m_spec_l00Min 7 (pile1.length : Int)).bind fun y11 =>
    (m_spec_l00In n3 0 y11).bind fun y17 =>
    bif !y17 then
      some 2
    else
      some 0

noncomputable def m_spec_l21Choose_l1 (k3 : Int) (n1 : Int) (n15 : Int) (n17 : Int) : Option ((Int × Int) ⊕ Int) :=
  bif decide (n17 ≤ k3) then
    (chk (n1 - k3)).bind fun z28 =>
    (chk (z28 + n17)).bind fun z30 =>
    (chk (n15 * z30)).bind fun z32 =>
    (quoI z32 n17).bind fun z34 =>
    (chk (n17 + 1)).bind fun z36 =>
    some (.inl (z34, z36))
  else
    some (.inr n15)

noncomputable def m_spec_l21Choose (n1 : Int) (k3 : Int) : Option Int :=
  (m_spec_l00In k3 0 n1).bind fun y5 =>
  bif !y5 then
    some 0
  else
    (
        (loopM (fun s : Int × Int => m_spec_l21Choose_l1 k3 n1 s.1 s.2) (1, 1)).bind fun n20 =>
        some n20 : Option Int).bind fun n11 =>
    some n11

noncomputable def m_spec_DrawWays (pile1 : Str) (n3 : Int) : Option (Int × Int) :=
  (m_spec_l21Code pile1 n3).bind fun y5 =>
  bif y5 != 0 then
    some (0, y5)
  else
    (m_spec_l21Choose (pile1.length : Int) n3).bind fun y12 =>
    some (y12, 0)

noncomputable def m_impl_place (tile1 : UInt8) : Option Int :=
  bif tile1 == 63 then
    some 0
  else
    (m_impl_small tile1).bind fun y3 =>
    bif y3 then
      (chk (((tile1 - 97).toNat : Int) + 1)).bind fun z9 =>
      some z9
    else
      some (-1)

noncomputable def m_impl_onlyTiles_l1 (s1 : Str) (n5 : Int) : Option (Int ⊕ (Unit ⊕ Bool)) :=
  bif decide (n5 < (s1.length : Int)) then
    (getL s1 n5).bind fun c14 =>
    (m_impl_place c14).bind fun y16 =>
    bif decide (y16 < 0) then
      some (.inr (.inr false))
    else
      (chk (n5 + 1)).bind fun z23 =>
      some (.inl z23)
  else
    some (.inr (.inl ()))

noncomputable def m_impl_onlyTiles (s1 : Str) : Option Bool :=
  (
      (loopM (fun s : Int => m_impl_onlyTiles_l1 s1 s) 0).bind fun x8 =>
      match x8 with
      | .inl _ =>
        some (.inl ())
      | .inr r29 =>
        some (.inr r29) : Option (Unit ⊕ Bool)).bind fun x3 =>
  match x3 with
  | .inl _ =>
    some true
  | .inr r32 =>
    some r32

noncomputable def m_impl_ValidPile_l1 (s1 : Str) (n19 : Int) : Option (Int ⊕ (Unit ⊕ Bool)) :=
  bif decide (n19 < (s1.length : Int)) then
    (chk (n19 - 1)).bind fun z29 =>
    (getL s1 z29).bind fun c31 =>
    (getL s1 n19).bind fun c33 =>
    bif decide (c33 < c31) then
      some (.inr (.inr false))
    else
      (chk (n19 + 1)).bind fun z36 =>
      some (.inl z36)
  else
    some (.inr (.inl ()))

noncomputable def m_impl_ValidPile (s1 : Str) : Option Bool :=
  (
      bif decide (120 < (s1.length : Int)) then
        some true
      else
        (m_impl_onlyTiles s1).bind fun y9 =>
        some (!y9) : Option Bool).bind fun t3 =>
  bif t3 then
    some false
  else
    (
        (loopM (fun s : Int => m_impl_ValidPile_l1 s1 s) 1).bind fun x22 =>
        match x22 with
        | .inl _ =>
          some (.inl ())
        | .inr r42 =>
          some (.inr r42) : Option (Unit ⊕ Bool)).bind fun x17 =>
    match x17 with
    | .inl _ =>
      some true
    | .inr r45 =>
      some r45

noncomputable def m_impl_isPool (s1 : Str) : Option Bool :=
  (
      bif decide ((s1.length : Int) ≤ 12) then
        (m_impl_ValidPile s1).bind fun y8 =>
        some y8
      else
        some false : Option Bool).bind fun t3 =>
  some t3

noncomputable def m_impl_drawCode (pile1 : Str) (n3 : Int) : Option Int :=
  (m_impl_isPool pile1).bind fun y5 =>
  bif !y5 then
    some 1
  else
    (
        (m_impl_within n3 0 7).bind fun y15 =>
        bif !y15 then
          some true
        else
          some (decide ((pile1.length : Int) < n3)) : Option Bool).bind fun t11 =>
    bif t11 then
      some 2
    else
      some 0

noncomputable def m_impl_choose_l1 (k3 : Int) (n1 : Int) (n10 : Int) (n12 : Int) : Option ((Int × Int) ⊕ Int) :=
  bif decide (n12 ≤ k3) then
    (chk (n1 - k3)).bind fun z23 =>
    (chk (z23 + n12)).bind fun z25 =>
    (chk (n10 * z25)).bind fun z27 =>
    (quoI z27 n12).bind fun z29 =>
    (chk (n12 + 1)).bind fun z31 =>
    some (.inl (z29, z31))
  else
    some (.inr n10)

noncomputable def m_impl_choose (n1 : Int) (k3 : Int) : Option Int :=
  bif decide (n1 < k3) then
    some 0
  else
    (
        (loopM (fun s : Int × Int => m_impl_choose_l1 k3 n1 s.1 s.2) (1, 1)).bind fun n15 =>
        some n15 : Option Int).bind fun n6 =>
    some n6

noncomputable def m_impl_DrawWays (pile1 : Str) (n3 : Int) : Option (Int × Int) :=
  (m_impl_drawCode pile1 n3).bind fun y5 =>
  bif y5 != 0 then
    some (0, y5)
  else
    (m_impl_choose (pile1.length : Int) n3).bind fun y12 =>
    some (y12, 0)

noncomputable def m_laws_FnExactDrawWays (aPile1 : Str) (aN3 : Int) : Option Bool :=
  bif decide (1048576 < (aPile1.length : Int)) then
    some true
  else
    (m_spec_DrawWays aPile1 aN3).bind fun y6 =>
    (m_impl_DrawWays aPile1 aN3).bind fun y13 =>
    (
        bif y13.1 != y6.1 then
          some true
        else
          some (y13.2 != y6.2) : Option Bool).bind fun t20 =>
    bif t20 then
      some false
    else
      some true

noncomputable def m_spec_l01Digit (c1 : UInt8) : Option Bool :=
  (
      bif decide (48 ≤ c1) then
        some (decide (c1 ≤ 57))
      else
        some false : Option Bool).bind fun t2 =>
  some t2

noncomputable def m_spec_IsName_l1 (s1 : Str) (n23 : Int) : Option (Int ⊕ (Unit ⊕ Bool)) :=
  bif decide (n23 < (s1.length : Int)) then
    (
        (getL s1 n23).bind fun c36 =>
        (m_spec_l01Small c36).bind fun y38 =>
        bif !y38 then
          (getL s1 n23).bind fun c44 =>
          (m_spec_l01Digit c44).bind fun y46 =>
          bif !y46 then
            (getL s1 n23).bind fun c52 =>
            some (c52 != 45)
          else
            some false
        else
          some false : Option Bool).bind fun t32 =>
    bif t32 then
      some (.inr (.inr false))
    else
      (chk (n23 + 1)).bind fun z59 =>
      some (.inl z59)
  else
    some (.inr (.inl ()))

noncomputable def m_spec_IsName (s1 : Str) : Option Bool :=
  (
      bif s1 == ([] : Str) then
        some true
      else
        bif decide (12 < (s1.length : Int)) then
          some true
        else
          (getL s1 0).bind fun c11 =>
          (m_spec_l01Small c11).bind fun y13 =>
          some (!y13) : Option Bool).bind fun t3 =>
  bif t3 then
    some false
  else
    (
        (loopM (fun s : Int => m_spec_IsName_l1 s1 s) 0).bind fun x26 =>
        match x26 with
        | .inl _ =>
          some (.inl ())
        | .inr r65 =>
          some (.inr r65) : Option (Unit ⊕ Bool)).bind fun x21 =>
    match x21 with
    | .inl _ =>
      some true
    | .inr r68 =>
      some r68

noncomputable def m_spec_l26Member (m1 : Member) : Option Bool :=
  (
      (m_spec_IsName m1.Name).bind fun y12 =>
      bif y12 then
        (m_spec_l26Rating m1.Rating).bind fun y18 =>
        some y18
      else
        some false : Option Bool).bind fun t5 =>
  some t5

noncomputable def m_spec_l26Ok_l1 (c1 : Club) (n7 : Int) : Option (Int ⊕ (Unit ⊕ Bool)) :=
  bif decide (n7 < (c1.Members.length : Int)) then
    (
        (getL c1.Members n7).bind fun e26 =>
        (m_spec_l26Member e26).bind fun y36 =>
        bif !y36 then
          some true
        else
          bif decide (0 < n7) then
            (chk (n7 - 1)).bind fun z44 =>
            (getL c1.Members z44).bind fun e46 =>
            (getL c1.Members n7).bind fun e56 =>
            some (!ltS e46.Name e56.Name)
          else
            some false : Option Bool).bind fun t21 =>
    bif t21 then
      some (.inr (.inr false))
    else
      (chk (n7 + 1)).bind fun z70 =>
      some (.inl z70)
  else
    some (.inr (.inl ()))

noncomputable def m_spec_l26Ok (c1 : Club) : Option Bool :=
  (
      (loopM (fun s : Int => m_spec_l26Ok_l1 c1 s) 0).bind fun x10 =>
      match x10 with
      | .inl _ =>
        some (.inl ())
      | .inr r76 =>
        some (.inr r76) : Option (Unit ⊕ Bool)).bind fun x5 =>
  match x5 with
  | .inl _ =>
    some (decide ((c1.Members.length : Int) ≤ 12))
  | .inr r84 =>
    some r84

noncomputable def m_spec_ValidClub (c1 : Club) : Option Bool :=
  (m_spec_l26Ok c1).bind fun y9 =>
  some y9

noncomputable def m_impl_digit (c1 : UInt8) : Option Bool :=
  (
      bif decide (48 ≤ c1) then
        some (decide (c1 ≤ 57))
      else
        some false : Option Bool).bind fun t2 =>
  some t2

noncomputable def m_impl_IsName_l1 (s1 : Str) (n23 : Int) : Option (Int ⊕ (Unit ⊕ Bool)) :=
  bif decide (n23 < (s1.length : Int)) then
    (
        (getL s1 n23).bind fun c36 =>
        (m_impl_small c36).bind fun y38 =>
        bif !y38 then
          (getL s1 n23).bind fun c44 =>
          (m_impl_digit c44).bind fun y46 =>
          bif !y46 then
            (getL s1 n23).bind fun c52 =>
            some (c52 != 45)
          else
            some false
        else
          some false : Option Bool).bind fun t32 =>
    bif t32 then
      some (.inr (.inr false))
    else
      (chk (n23 + 1)).bind fun z59 =>
      some (.inl z59)
  else
    some (.inr (.inl ()))

noncomputable def m_impl_IsName (s1 : Str) : Option Bool :=
  (
      bif decide ((s1.length : Int) < 1) then
        some true
      else
        bif decide (12 < (s1.length : Int)) then
          some true
        else
          (getL s1 0).bind fun c11 =>
          (m_impl_small c11).bind fun y13 =>
          some (!y13) : Option Bool).bind fun t3 =>
  bif t3 then
    some false
  else
    (
        (loopM (fun s : Int => m_impl_IsName_l1 s1 s) 0).bind fun x26 =>
        match x26 with
        | .inl _ =>
          some (.inl ())
        | .inr r65 =>
          some (.inr r65) : Option (Unit ⊕ Bool)).bind fun x21 =>
    match x21 with
    | .inl _ =>
      some true
    | .inr r68 =>
      some r68

noncomputable def m_impl_validMember (m1 : Member) : Option Bool :=
  (
      (m_impl_IsName m1.Name).bind fun y12 =>
      bif y12 then
        (m_impl_within m1.Rating 0 4000).bind fun y18 =>
        some y18
      else
        some false : Option Bool).bind fun t8 =>
  some t8

noncomputable def m_impl_ValidClub_l1 (c1 : Club) (n14 : Int) : Option (Int ⊕ (Unit ⊕ Bool)) :=
  bif decide (n14 < (c1.Members.length : Int)) then
    (getL c1.Members n14).bind fun e23 =>
    (
        (m_impl_validMember e23).bind fun y45 =>
        bif !y45 then
          some true
        else
          bif decide (0 < n14) then
            (chk (n14 - 1)).bind fun z53 =>
            (getL c1.Members z53).bind fun e55 =>
            some (!ltS e55.Name e23.Name)
          else
            some false : Option Bool).bind fun t40 =>
    bif t40 then
      some (.inr (.inr false))
    else
      (chk (n14 + 1)).bind fun z69 =>
      some (.inl z69)
  else
    some (.inr (.inl ()))

noncomputable def m_impl_ValidClub (c1 : Club) : Option Bool :=
  bif decide (12 < (c1.Members.length : Int)) then
    some false
  else
    (
        (loopM (fun s : Int => m_impl_ValidClub_l1 c1 s) 0).bind fun x17 =>
        match x17 with
        | .inl _ =>
          some (.inl ())
        | .inr r75 =>
          some (.inr r75) : Option (Unit ⊕ Bool)).bind fun x11 =>
    match x11 with
    | .inl _ =>
      some true
    | .inr r78 =>
      some r78

noncomputable def m_laws_FnExactValidClub (aC1 : Club) : Option Bool :=
  (m_laws_szClub aC1 1048576).bind fun y9 =>
  bif decide (y9 < 0) then
    some true
  else
    (m_laws_toClub aC1).bind fun y16 =>
    (m_spec_ValidClub y16).bind fun y23 =>
    (m_laws_toClub aC1).bind fun y28 =>
    (m_impl_ValidClub y28).bind fun y42 =>
    bif y42 != y23 then
      some false
    else
      (m_laws_toClub aC1).bind fun y49 =>
      (m_laws_eqClub y28 y49).bind fun y56 =>
      bif !y56 then
        some false
      else
        some true

noncomputable def m_laws_szPlay (a1 : Play) (left5 : Int) : Option Int :=
  (chk (left5 - (a1.Word.length : Int))).bind fun z11 =>
  bif decide (z11 < 0) then
    some (-1)
  else
    some z11

noncomputable def m_laws_szMove (a1 : Move) (left6 : Int) : Option Int :=
  (m_laws_szPlay a1.Play left6).bind fun y12 =>
  bif decide (y12 < 0) then
    some (-1)
  else
    some y12

noncomputable def m_laws_szNote (a1 : Note) (left9 : Int) : Option Int :=
  (m_laws_szMove a1.Best left9).bind fun y15 =>
  bif decide (y15 < 0) then
    some (-1)
  else
    some y15

noncomputable def m_laws_szNoteS_l1 (a1 : (List Note)) (left15 : Int) (n17 : Int) : Option ((Int × Int) ⊕ (Int ⊕ Int)) :=
  bif decide (n17 < (a1.length : Int)) then
    (getL a1 n17).bind fun e29 =>
    (m_laws_szNote e29 left15).bind fun y44 =>
    bif decide (y44 < 0) then
      some (.inr (.inr (-1)))
    else
      (chk (n17 + 1)).bind fun z51 =>
      some (.inl (y44, z51))
  else
    some (.inr (.inl left15))

noncomputable def m_laws_szNoteS (a1 : (List Note)) (left5 : Int) : Option Int :=
  (chk (left5 - (a1.length : Int))).bind fun z8 =>
  bif decide (z8 < 0) then
    some (-1)
  else
    (
        (loopM (fun s : Int × Int => m_laws_szNoteS_l1 a1 s.1 s.2) (z8, 0)).bind fun x22 =>
        match x22 with
        | .inl left20 =>
          some (.inl left20)
        | .inr r57 =>
          some (.inr r57) : Option (Int ⊕ Int)).bind fun x13 =>
    match x13 with
    | .inl left11 =>
      some left11
    | .inr r60 =>
      some r60

noncomputable def m_laws_toPlay (a1 : Play) : Option Play :=
  some a1

noncomputable def m_laws_toMove (a1 : Move) : Option Move :=
  (m_laws_toPlay a1.Play).bind fun y18 =>
  some (⟨⟨y18.Row, y18.Col, y18.Down, y18.Word⟩, a1.Score⟩ : Move)

noncomputable def m_laws_toNote (a1 : Note) : Option Note :=
  (m_laws_toMove a1.Best).bind fun y24 =>
  some (⟨a1.Score, ⟨⟨y24.Play.Row, y24.Play.Col, y24.Play.Down, y24.Play.Word⟩, y24.Score⟩, a1.Loss, a1.Rank⟩ : Note)

noncomputable def m_laws_toNoteS_l1 (a1 : (List Note)) (xs14 : (List Note)) (n15 : Int) : Option (((List Note) × Int) ⊕ (List Note)) :=
  bif decide (n15 < (a1.length : Int)) then
    (getL a1 n15).bind fun e26 =>
    (m_laws_toNote e26).bind fun y41 =>
    (getL xs14 n15).bind fun e53 =>
    (setL xs14 n15 y41).bind fun xs67 =>
    (chk (n15 + 1)).bind fun z69 =>
    some (.inl (xs67, z69))
  else
    some (.inr xs14)

noncomputable def m_laws_toNoteS (a1 : (List Note)) : Option (List Note) :=
  (makeL (a1.length : Int) (⟨0, ⟨⟨0, 0, false, ([] : Str)⟩, 0⟩, 0, 0⟩ : Note)).bind fun xs6 =>
  (
      (loopM (fun s : (List Note) × Int => m_laws_toNoteS_l1 a1 s.1 s.2) (xs6, 0)).bind fun xs18 =>
      some xs18 : Option (List Note)).bind fun xs11 =>
  some xs11

noncomputable def m_spec_TotalLoss_l1 (list1 : (List Note)) (i9 : Int) (n11 : Int) : Option ((Int × Int) ⊕ Int) :=
  bif decide (n11 < (list1.length : Int)) then
    (getL list1 n11).bind fun e23 =>
    (chk (i9 + e23.Loss)).bind fun z38 =>
    (chk (n11 + 1)).bind fun z40 =>
    some (.inl (z38, z40))
  else
    some (.inr i9)

noncomputable def m_spec_TotalLoss (list1 : (List Note)) : Option Int :=
  (
      (loopM (fun s : Int × Int => m_spec_TotalLoss_l1 list1 s.1 s.2) (0, 0)).bind fun i14 =>
      some i14 : Option Int).bind fun i5 =>
  some i5

noncomputable def m_impl_fold_impl_Note_int64_l1 (list1 : (List Note)) (step7 : (Int → Note → Option Int)) (value16 : Int) (n18 : Int) : Option ((Int × Int) ⊕ Int) :=
  bif decide (n18 < (list1.length : Int)) then
    (getL list1 n18).bind fun e29 =>
    (step7 value16 e29).bind fun y51 =>
    (chk (n18 + 1)).bind fun z57 =>
    some (.inl (y51, z57))
  else
    some (.inr value16)

noncomputable def m_impl_fold_impl_Note_int64 (list1 : (List Note)) (value5 : Int) (step7 : (Int → Note → Option Int)) : Option Int :=
  (
      (loopM (fun s : Int × Int => m_impl_fold_impl_Note_int64_l1 list1 step7 s.1 s.2) (value5, 0)).bind fun value21 =>
      some value21 : Option Int).bind fun value11 =>
  some value11

noncomputable def m_impl_TotalLoss_1 (sum1 : Int) (n3 : Note) : Option Int :=
  (chk (sum1 + n3.Loss)).bind fun z15 =>
  some z15

noncomputable def m_impl_TotalLoss (list1 : (List Note)) : Option Int :=
  (m_impl_fold_impl_Note_int64 list1 0 m_impl_TotalLoss_1).bind fun y5 =>
  some y5

noncomputable def m_laws_eqPlay (a1 : Play) (b5 : Play) : Option Bool :=
  bif a1.Row != b5.Row then
    some false
  else
    bif a1.Col != b5.Col then
      some false
    else
      bif a1.Down != b5.Down then
        some false
      else
        bif a1.Word != b5.Word then
          some false
        else
          some true

noncomputable def m_laws_eqMove (a1 : Move) (b6 : Move) : Option Bool :=
  (m_laws_eqPlay a1.Play b6.Play).bind fun y19 =>
  bif !y19 then
    some false
  else
    bif a1.Score != b6.Score then
      some false
    else
      some true

noncomputable def m_laws_eqNote (a1 : Note) (b9 : Note) : Option Bool :=
  bif a1.Score != b9.Score then
    some false
  else
    (m_laws_eqMove a1.Best b9.Best).bind fun y26 =>
    bif !y26 then
      some false
    else
      bif a1.Loss != b9.Loss then
        some false
      else
        bif a1.Rank != b9.Rank then
          some false
        else
          some true

noncomputable def m_laws_eqNoteS_l1 (a1 : (List Note)) (b5 : (List Note)) (n14 : Int) : Option (Int ⊕ (Unit ⊕ Bool)) :=
  bif decide (n14 < (a1.length : Int)) then
    (getL a1 n14).bind fun e25 =>
    (getL b5 n14).bind fun e40 =>
    (m_laws_eqNote e25 e40).bind fun y55 =>
    bif !y55 then
      some (.inr (.inr false))
    else
      (chk (n14 + 1)).bind fun z61 =>
      some (.inl z61)
  else
    some (.inr (.inl ()))

noncomputable def m_laws_eqNoteS (a1 : (List Note)) (b5 : (List Note)) : Option Bool :=
  bif (a1.length : Int) != (b5.length : Int) then
    some false
  else
    (
        (loopM (fun s : Int => m_laws_eqNoteS_l1 a1 b5 s) 0).bind fun x17 =>
        match x17 with
        | .inl _ =>
          some (.inl ())
        | .inr r67 =>
          some (.inr r67) : Option (Unit ⊕ Bool)).bind fun x12 =>
    match x12 with
    | .inl _ =>
      some true
    | .inr r70 =>
      some r70

noncomputable def m_laws_FnExactTotalLoss (aList1 : (List Note)) : Option Bool :=
  (m_laws_szNoteS aList1 1048576).bind fun y5 =>
  bif decide (y5 < 0) then
    some true
  else
    (m_laws_toNoteS aList1).bind fun y12 =>
    (m_spec_TotalLoss y12).bind fun y19 =>
    (m_laws_toNoteS aList1).bind fun y25 =>
    (m_impl_TotalLoss y25).bind fun y32 =>
    bif y32 != y19 then
      some false
    else
      (m_laws_toNoteS aList1).bind fun y39 =>
      (m_laws_eqNoteS y25 y39).bind fun y46 =>
      bif !y46 then
        some false
      else
        some true

noncomputable def m_laws_szBoard (a1 : Board) (left5 : Int) : Option Int :=
  (chk (left5 - (a1.Premium.length : Int))).bind fun z11 =>
  bif decide (z11 < 0) then
    some (-1)
  else
    (chk (z11 - (a1.Cells.length : Int))).bind fun z14 =>
    bif decide (z14 < 0) then
      some (-1)
    else
      some z14

noncomputable def m_laws_szEnd (a1 : End) (left7 : Int) : Option Int :=
  (m_laws_szBoard a1.Board left7).bind fun y13 =>
  bif decide (y13 < 0) then
    some (-1)
  else
    (chk (y13 - (a1.Mine.length : Int))).bind fun z20 =>
    bif decide (z20 < 0) then
      some (-1)
    else
      (chk (z20 - (a1.Theirs.length : Int))).bind fun z23 =>
      bif decide (z23 < 0) then
        some (-1)
      else
        some z23

noncomputable def m_laws_toBoard (a1 : Board) : Option Board :=
  some a1

noncomputable def m_laws_toEnd (a1 : End) : Option End :=
  (m_laws_toBoard a1.Board).bind fun y19 =>
  some (⟨⟨y19.Size, y19.Premium, y19.Cells⟩, a1.Mine, a1.Theirs, a1.Passed⟩ : End)

noncomputable def m_spec_l11Size (size1 : Int) : Option Bool :=
  (m_spec_l00In size1 5 15).bind fun y3 =>
  some y3

noncomputable def m_spec_l03Capital (c1 : UInt8) : Option Bool :=
  (
      bif decide (65 ≤ c1) then
        some (decide (c1 ≤ 90))
      else
        some false : Option Bool).bind fun t2 =>
  some t2

noncomputable def m_spec_l11Cell (c1 : UInt8) : Option Bool :=
  (
      bif c1 == 46 then
        some true
      else
        (m_spec_l01Small c1).bind fun y8 =>
        bif y8 then
          some true
        else
          (m_spec_l03Capital c1).bind fun y15 =>
          some y15 : Option Bool).bind fun t2 =>
  some t2

noncomputable def m_spec_l11Premium (c1 : UInt8) : Option Bool :=
  (
      bif c1 == 46 then
        some true
      else
        bif c1 == 50 then
          some true
        else
          bif c1 == 51 then
            some true
          else
            bif c1 == 100 then
              some true
            else
              some (c1 == 116) : Option Bool).bind fun t2 =>
  some t2

noncomputable def m_spec_l11Ok_l1 (b1 : Board) (n32 : Int) : Option (Int ⊕ (Unit ⊕ Bool)) :=
  bif decide (n32 < (b1.Cells.length : Int)) then
    (
        (getL b1.Cells n32).bind fun c49 =>
        (m_spec_l11Cell c49).bind fun y51 =>
        bif !y51 then
          some true
        else
          (getL b1.Premium n32).bind fun c58 =>
          (m_spec_l11Premium c58).bind fun y60 =>
          some (!y60) : Option Bool).bind fun t45 =>
    bif t45 then
      some (.inr (.inr false))
    else
      (chk (n32 + 1)).bind fun z68 =>
      some (.inl z68)
  else
    some (.inr (.inl ()))

noncomputable def m_spec_l11Ok (b1 : Board) : Option Bool :=
  (
      (m_spec_l11Size b1.Size).bind fun y14 =>
      bif !y14 then
        some true
      else
        (chk (b1.Size * b1.Size)).bind fun z21 =>
        bif (b1.Premium.length : Int) != z21 then
          some true
        else
          (chk (b1.Size * b1.Size)).bind fun z25 =>
          some ((b1.Cells.length : Int) != z25) : Option Bool).bind fun t5 =>
  bif t5 then
    some false
  else
    (
        (loopM (fun s : Int => m_spec_l11Ok_l1 b1 s) 0).bind fun x35 =>
        match x35 with
        | .inl _ =>
          some (.inl ())
        | .inr r74 =>
          some (.inr r74) : Option (Unit ⊕ Bool)).bind fun x30 =>
    match x30 with
    | .inl _ =>
      some true
    | .inr r77 =>
      some r77

noncomputable def m_spec_l03Rack (s1 : Str) : Option Bool :=
  (
      (m_spec_l03Pile s1).bind fun y7 =>
      bif y7 then
        some (decide ((s1.length : Int) ≤ 7))
      else
        some false : Option Bool).bind fun t3 =>
  some t3

noncomputable def m_spec_l22Ok (e1 : End) : Option Bool :=
  (
      (m_spec_l11Ok e1.Board).bind fun y15 =>
      bif y15 then
        (m_spec_l03Rack e1.Mine).bind fun y21 =>
        bif y21 then
          (m_spec_l03Rack e1.Theirs).bind fun y27 =>
          bif y27 then
            bif e1.Mine != ([] : Str) then
              some (e1.Theirs != ([] : Str))
            else
              some false
          else
            some false
        else
          some false
      else
        some false : Option Bool).bind fun t5 =>
  some t5

noncomputable def m_spec_ValidEnd (e1 : End) : Option Bool :=
  (m_spec_l22Ok e1).bind fun y11 =>
  some y11

noncomputable def m_impl_sizeOk (size1 : Int) : Option Bool :=
  (m_impl_within size1 5 15).bind fun y3 =>
  some y3

noncomputable def m_impl_premiumOk (c1 : UInt8) : Option Bool :=
  (m_strings_IndexByte ([50, 51, 100, 116, 46] : Str) c1).bind fun y2 =>
  some (decide (0 ≤ y2))

noncomputable def m_impl_capital (c1 : UInt8) : Option Bool :=
  (
      bif decide (65 ≤ c1) then
        some (decide (c1 ≤ 90))
      else
        some false : Option Bool).bind fun t2 =>
  some t2

noncomputable def m_impl_cellOk (c1 : UInt8) : Option Bool :=
  (
      bif c1 == 46 then
        some true
      else
        (m_impl_small c1).bind fun y8 =>
        bif y8 then
          some true
        else
          (m_impl_capital c1).bind fun y15 =>
          some y15 : Option Bool).bind fun t2 =>
  some t2

noncomputable def m_impl_ValidBoard (b1 : Board) : Option Bool :=
  (
      (m_impl_sizeOk b1.Size).bind fun y13 =>
      bif !y13 then
        some true
      else
        (chk (b1.Size * b1.Size)).bind fun z20 =>
        bif (b1.Premium.length : Int) != z20 then
          some true
        else
          some ((b1.Cells.length : Int) != (b1.Premium.length : Int)) : Option Bool).bind fun t9 =>
  bif t9 then
    some false
  else
    (
        (m_impl_allBytes b1.Premium m_impl_premiumOk).bind fun y31 =>
        bif y31 then
          (m_impl_allBytes b1.Cells m_impl_cellOk).bind fun y37 =>
          some y37
        else
          some false : Option Bool).bind fun t27 =>
    some t27

noncomputable def m_impl_ValidRack (s1 : Str) : Option Bool :=
  (
      bif decide ((s1.length : Int) ≤ 7) then
        (m_impl_ValidPile s1).bind fun y8 =>
        some y8
      else
        some false : Option Bool).bind fun t3 =>
  some t3

noncomputable def m_impl_ValidEnd (e1 : End) : Option Bool :=
  (
      (m_impl_ValidBoard e1.Board).bind fun y15 =>
      bif y15 then
        (m_impl_ValidRack e1.Mine).bind fun y21 =>
        bif y21 then
          (m_impl_ValidRack e1.Theirs).bind fun y27 =>
          bif y27 then
            bif e1.Mine != ([] : Str) then
              some (e1.Theirs != ([] : Str))
            else
              some false
          else
            some false
        else
          some false
      else
        some false : Option Bool).bind fun t11 =>
  some t11

noncomputable def m_laws_FnExactValidEnd (aE1 : End) : Option Bool :=
  (m_laws_szEnd aE1 1048576).bind fun y11 =>
  bif decide (y11 < 0) then
    some true
  else
    (m_laws_toEnd aE1).bind fun y18 =>
    (m_spec_ValidEnd y18).bind fun y28 =>
    (m_laws_toEnd aE1).bind fun y33 =>
    (m_impl_ValidEnd y33).bind fun y43 =>
    bif y43 != y28 then
      some false
    else
      some true

noncomputable def m_spec_l25Text_l1 (g1 : Grid) (r9 : Str) (n11 : Int) : Option ((Str × Int) ⊕ Str) :=
  bif decide (n11 < g1.Rows) then
    (
        bif decide (0 < n11) then
          (catL r9 ([47] : Str)).bind fun s31 =>
          some s31
        else
          some r9 : Option Str).bind fun r26 =>
    (chk (n11 * g1.Cols)).bind fun z37 =>
    (chk (n11 + 1)).bind fun z39 =>
    (chk (z39 * g1.Cols)).bind fun z41 =>
    (subL g1.Cells z37 z41).bind fun s43 =>
    (catL r26 s43).bind fun s45 =>
    (chk (n11 + 1)).bind fun z47 =>
    some (.inl (s45, z47))
  else
    some (.inr r9)

noncomputable def m_spec_l25Text (g1 : Grid) : Option Str :=
  (
      (loopM (fun s : Str × Int => m_spec_l25Text_l1 g1 s.1 s.2) (([] : Str), 0)).bind fun r14 =>
      some r14 : Option Str).bind fun r5 =>
  some r5

noncomputable def m_spec_GridText (g1 : Grid) : Option Str :=
  (m_spec_l25Ok g1).bind fun y9 =>
  bif !y9 then
    some ([] : Str)
  else
    (m_spec_l25Text g1).bind fun y15 =>
    some y15

noncomputable def m_impl_GridText_l1 (g1 : Grid) (xs23 : (List Str)) (n26 : Int) : Option (((List Str) × Int) ⊕ (List Str)) :=
  bif decide (n26 < g1.Rows) then
    (chk (n26 * g1.Cols)).bind fun z38 =>
    (chk (n26 + 1)).bind fun z40 =>
    (chk (z40 * g1.Cols)).bind fun z42 =>
    (subL g1.Cells z38 z42).bind fun s44 =>
    (catL xs23 ([s44] : (List Str))).bind fun xs49 =>
    (chk (n26 + 1)).bind fun z56 =>
    some (.inl (xs49, z56))
  else
    some (.inr xs23)

noncomputable def m_impl_GridText (g1 : Grid) : Option Str :=
  (m_impl_ValidGrid g1).bind fun y9 =>
  bif !y9 then
    some ([] : Str)
  else
    (
        (loopM (fun s : (List Str) × Int => m_impl_GridText_l1 g1 s.1 s.2) (([] : (List Str)), 0)).bind fun xs29 =>
        some xs29 : Option (List Str)).bind fun xs18 =>
    (m_strings_Join xs18 ([47] : Str)).bind fun y64 =>
    some y64

noncomputable def m_laws_FnExactGridText (aG1 : Grid) : Option Bool :=
  (m_laws_szGrid aG1 1048576).bind fun y9 =>
  bif decide (y9 < 0) then
    some true
  else
    (m_laws_toGrid aG1).bind fun y16 =>
    (m_spec_GridText y16).bind fun y24 =>
    (m_laws_toGrid aG1).bind fun y30 =>
    (m_impl_GridText y30).bind fun y38 =>
    bif y38 != y24 then
      some false
    else
      some true

noncomputable def m_spec_WorstNote_l1 (list1 : (List Note)) (i11 : Int) (n13 : Int) : Option ((Int × Int) ⊕ Int) :=
  bif decide (n13 < (list1.length : Int)) then
    (
        (getL list1 n13).bind fun e30 =>
        (getL list1 i11).bind fun e45 =>
        bif decide (e45.Loss < e30.Loss) then
          some n13
        else
          some i11 : Option Int).bind fun i25 =>
    (chk (n13 + 1)).bind fun z64 =>
    some (.inl (i25, z64))
  else
    some (.inr i11)

noncomputable def m_spec_WorstNote (list1 : (List Note)) : Option (Int × Int) :=
  bif (list1.length : Int) == 0 then
    some (0, 3)
  else
    (
        (loopM (fun s : Int × Int => m_spec_WorstNote_l1 list1 s.1 s.2) (0, 1)).bind fun i16 =>
        some i16 : Option Int).bind fun i7 =>
    some (i7, 0)

noncomputable def m_impl_WorstNote_l1 (list1 : (List Note)) (n12 : Int) (i14 : Int) : Option ((Int × Int) ⊕ Int) :=
  bif decide (n12 < (list1.length : Int)) then
    (
        (getL list1 n12).bind fun e29 =>
        (getL list1 i14).bind fun e52 =>
        bif decide (e52.Loss < e29.Loss) then
          some n12
        else
          some i14 : Option Int).bind fun i25 =>
    (chk (n12 + 1)).bind fun z71 =>
    some (.inl (z71, i25))
  else
    some (.inr i14)

noncomputable def m_impl_WorstNote (list1 : (List Note)) : Option (Int × Int) :=
  bif (list1.length : Int) == 0 then
    some (0, 3)
  else
    (
        (loopM (fun s : Int × Int => m_impl_WorstNote_l1 list1 s.1 s.2) (0, 0)).bind fun i17 =>
        some i17 : Option Int).bind fun i7 =>
    some (i7, 0)

noncomputable def m_laws_FnExactWorstNote (aList1 : (List Note)) : Option Bool :=
  (m_laws_szNoteS aList1 1048576).bind fun y5 =>
  bif decide (y5 < 0) then
    some true
  else
    (m_laws_toNoteS aList1).bind fun y12 =>
    (m_spec_WorstNote y12).bind fun y19 =>
    (m_laws_toNoteS aList1).bind fun y26 =>
    (m_impl_WorstNote y26).bind fun y33 =>
    (
        bif y33.1 != y19.1 then
          some true
        else
          some (y33.2 != y19.2) : Option Bool).bind fun t40 =>
    bif t40 then
      some false
    else
      (m_laws_toNoteS aList1).bind fun y49 =>
      (m_laws_eqNoteS y26 y49).bind fun y56 =>
      bif !y56 then
        some false
      else
        some true

end Go.Proofs.Ytdngdgjlcfbdhaa
