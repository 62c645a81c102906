/- The models of the program's functions. Printed by gen.py. -/
import Derived.Test.YtbekokenomhgeaaGreatDoorTyp
import Derived.Test.YtbekokenomhgeaaGreatDoorEngM
import Derived.Test.YtbekokenomhgeaaGreatDoorEngY
namespace Go.Proofs.YtbekokenomhgeaaGreatDoor
open Go Go.RowKit
set_option linter.unusedSimpArgs false
set_option linter.unusedVariables false

noncomputable def m_laws_szBoard (a1 : Board) (left5 : Int) : Option Int :=
  (chk (left5 - (a1.Premium.length : Int))).bind fun z11 =>
  bif decide (z11 < 0) then
    some (-1)
  else
    (chk (z11 - (a1.Cells.length : Int))).bind fun z14 =>
    bif decide (z14 < 0) then
      some (-1)
    else
      some z14

noncomputable def m_laws_szPlay (a1 : Play) (left5 : Int) : Option Int :=
  (chk (left5 - (a1.Word.length : Int))).bind fun z11 =>
  bif decide (z11 < 0) then
    some (-1)
  else
    some z11

noncomputable def m_laws_szTurn (a1 : Turn) (left6 : Int) : Option Int :=
  (chk (left6 - (a1.Rack.length : Int))).bind fun z12 =>
  bif decide (z12 < 0) then
    some (-1)
  else
    (m_laws_szPlay a1.Play z12).bind fun y15 =>
    bif decide (y15 < 0) then
      some (-1)
    else
      some y15

noncomputable def m_laws_szTurnS_l1 (a1 : (List Turn)) (left15 : Int) (n17 : Int) : Option ((Int × Int) ⊕ (Int ⊕ Int)) :=
  bif decide (n17 < (a1.length : Int)) then
    (getL a1 n17).bind fun e29 =>
    (m_laws_szTurn e29 left15).bind fun y41 =>
    bif decide (y41 < 0) then
      some (.inr (.inr (-1)))
    else
      (chk (n17 + 1)).bind fun z48 =>
      some (.inl (y41, z48))
  else
    some (.inr (.inl left15))

noncomputable def m_laws_szTurnS (a1 : (List Turn)) (left5 : Int) : Option Int :=
  (chk (left5 - (a1.length : Int))).bind fun z8 =>
  bif decide (z8 < 0) then
    some (-1)
  else
    (
        (loopM (fun s : Int × Int => m_laws_szTurnS_l1 a1 s.1 s.2) (z8, 0)).bind fun x22 =>
        match x22 with
        | .inl left20 =>
          some (.inl left20)
        | .inr r54 =>
          some (.inr r54) : Option (Int ⊕ Int)).bind fun x13 =>
    match x13 with
    | .inl left11 =>
      some left11
    | .inr r57 =>
      some r57

noncomputable def m_laws_toBoard (a1 : Board) : Option Board :=
  some a1

noncomputable def m_laws_toPlay (a1 : Play) : Option Play :=
  some a1

noncomputable def m_laws_toTurn (a1 : Turn) : Option Turn :=
  (m_laws_toPlay a1.Play).bind fun y24 =>
  some (⟨a1.Rack, a1.Pass, ⟨y24.Row, y24.Col, y24.Down, y24.Word⟩⟩ : Turn)

noncomputable def m_laws_toTurnS_l1 (a1 : (List Turn)) (xs14 : (List Turn)) (n15 : Int) : Option (((List Turn) × Int) ⊕ (List Turn)) :=
  bif decide (n15 < (a1.length : Int)) then
    (getL a1 n15).bind fun e26 =>
    (m_laws_toTurn e26).bind fun y38 =>
    (getL xs14 n15).bind fun e47 =>
    (setL xs14 n15 y38).bind fun xs58 =>
    (chk (n15 + 1)).bind fun z60 =>
    some (.inl (xs58, z60))
  else
    some (.inr xs14)

noncomputable def m_laws_toTurnS (a1 : (List Turn)) : Option (List Turn) :=
  (makeL (a1.length : Int) (⟨([] : Str), false, ⟨0, 0, false, ([] : Str)⟩⟩ : Turn)).bind fun xs6 =>
  (
      (loopM (fun s : (List Turn) × Int => m_laws_toTurnS_l1 a1 s.1 s.2) (xs6, 0)).bind fun xs18 =>
      some xs18 : Option (List Turn)).bind fun xs11 =>
  some xs11

noncomputable def m_spec_l00In (n1 : Int) (low3 : Int) (high5 : Int) : Option Bool :=
  (
      bif decide (low3 ≤ n1) then
        some (decide (n1 ≤ high5))
      else
        some false : Option Bool).bind fun t7 =>
  some t7

noncomputable def m_spec_l11Size (size1 : Int) : Option Bool :=
  (m_spec_l00In size1 5 15).bind fun y3 =>
  some y3

noncomputable def m_spec_l01Small (c1 : UInt8) : Option Bool :=
  (
      bif decide (97 ≤ c1) then
        some (decide (c1 ≤ 122))
      else
        some false : Option Bool).bind fun t2 =>
  some t2

noncomputable def m_spec_l03Capital (c1 : UInt8) : Option Bool :=
  (
      bif decide (65 ≤ c1) then
        some (decide (c1 ≤ 90))
      else
        some false : Option Bool).bind fun t2 =>
  some t2

noncomputable def m_spec_l11Cell (c1 : UInt8) : Option Bool :=
  (
      bif c1 == 46 then
        some true
      else
        (m_spec_l01Small c1).bind fun y8 =>
        bif y8 then
          some true
        else
          (m_spec_l03Capital c1).bind fun y15 =>
          some y15 : Option Bool).bind fun t2 =>
  some t2

noncomputable def m_spec_l11Premium (c1 : UInt8) : Option Bool :=
  (
      bif c1 == 46 then
        some true
      else
        bif c1 == 50 then
          some true
        else
          bif c1 == 51 then
            some true
          else
            bif c1 == 100 then
              some true
            else
              some (c1 == 116) : Option Bool).bind fun t2 =>
  some t2

noncomputable def m_spec_l11Ok_l1 (b1 : Board) (n32 : Int) : Option (Int ⊕ (Unit ⊕ Bool)) :=
  bif decide (n32 < (b1.Cells.length : Int)) then
    (
        (getL b1.Cells n32).bind fun c49 =>
        (m_spec_l11Cell c49).bind fun y51 =>
        bif !y51 then
          some true
        else
          (getL b1.Premium n32).bind fun c58 =>
          (m_spec_l11Premium c58).bind fun y60 =>
          some (!y60) : Option Bool).bind fun t45 =>
    bif t45 then
      some (.inr (.inr false))
    else
      (chk (n32 + 1)).bind fun z68 =>
      some (.inl z68)
  else
    some (.inr (.inl ()))

noncomputable def m_spec_l11Ok (b1 : Board) : Option Bool :=
  (
      (m_spec_l11Size b1.Size).bind fun y14 =>
      bif !y14 then
        some true
      else
        (chk (b1.Size * b1.Size)).bind fun z21 =>
        bif (b1.Premium.length : Int) != z21 then
          some true
        else
          (chk (b1.Size * b1.Size)).bind fun z25 =>
          some ((b1.Cells.length : Int) != z25) : Option Bool).bind fun t5 =>
  bif t5 then
    some false
  else
    (
        (loopM (fun s : Int => m_spec_l11Ok_l1 b1 s) 0).bind fun x35 =>
        match x35 with
        | .inl _ =>
          some (.inl ())
        | .inr r74 =>
          some (.inr r74) : Option (Unit ⊕ Bool)).bind fun x30 =>
    match x30 with
    | .inl _ =>
      some true
    | .inr r77 =>
      some r77

noncomputable def m_spec_l03Tile (c1 : UInt8) : Option Bool :=
  (
      bif c1 == 63 then
        some true
      else
        (m_spec_l01Small c1).bind fun y8 =>
        some y8 : Option Bool).bind fun t2 =>
  some t2

noncomputable def m_spec_l03Pile_l1 (s1 : Str) (n5 : Int) : Option (Int ⊕ (Unit ⊕ Bool)) :=
  bif decide (n5 < (s1.length : Int)) then
    (
        (getL s1 n5).bind fun c19 =>
        (m_spec_l03Tile c19).bind fun y21 =>
        bif !y21 then
          some true
        else
          bif decide (0 < n5) then
            (getL s1 n5).bind fun c29 =>
            (chk (n5 - 1)).bind fun z31 =>
            (getL s1 z31).bind fun c33 =>
            some (decide (c29 < c33))
          else
            some false : Option Bool).bind fun t14 =>
    bif t14 then
      some (.inr (.inr false))
    else
      (chk (n5 + 1)).bind fun z39 =>
      some (.inl z39)
  else
    some (.inr (.inl ()))

noncomputable def m_spec_l03Pile (s1 : Str) : Option Bool :=
  (
      (loopM (fun s : Int => m_spec_l03Pile_l1 s1 s) 0).bind fun x8 =>
      match x8 with
      | .inl _ =>
        some (.inl ())
      | .inr r45 =>
        some (.inr r45) : Option (Unit ⊕ Bool)).bind fun x3 =>
  match x3 with
  | .inl _ =>
    some (decide ((s1.length : Int) ≤ 120))
  | .inr r48 =>
    some r48

noncomputable def m_spec_l03Rack (s1 : Str) : Option Bool :=
  (
      (m_spec_l03Pile s1).bind fun y7 =>
      bif y7 then
        some (decide ((s1.length : Int) ≤ 7))
      else
        some false : Option Bool).bind fun t3 =>
  some t3

noncomputable def m_spec_l03Placed_l1 (word1 : Str) (n5 : Int) : Option (Int ⊕ (Unit ⊕ Bool)) :=
  bif decide (n5 < (word1.length : Int)) then
    (
        (getL word1 n5).bind fun c18 =>
        (m_spec_l01Small c18).bind fun y20 =>
        bif !y20 then
          (getL word1 n5).bind fun c26 =>
          (m_spec_l03Capital c26).bind fun y28 =>
          some (!y28)
        else
          some false : Option Bool).bind fun t14 =>
    bif t14 then
      some (.inr (.inr false))
    else
      (chk (n5 + 1)).bind fun z37 =>
      some (.inl z37)
  else
    some (.inr (.inl ()))

noncomputable def m_spec_l03Placed (word1 : Str) : Option Bool :=
  (
      (loopM (fun s : Int => m_spec_l03Placed_l1 word1 s) 0).bind fun x8 =>
      match x8 with
      | .inl _ =>
        some (.inl ())
      | .inr r43 =>
        some (.inr r43) : Option (Unit ⊕ Bool)).bind fun x3 =>
  match x3 with
  | .inl _ =>
    (m_spec_l00In (word1.length : Int) 1 12).bind fun y46 =>
    some y46
  | .inr r51 =>
    some r51

noncomputable def m_spec_l12Word (word1 : Str) : Option Bool :=
  (
      bif decide (1 < (word1.length : Int)) then
        (m_spec_l03Placed word1).bind fun y8 =>
        some y8
      else
        some false : Option Bool).bind fun t3 =>
  some t3

noncomputable def m_spec_l11Turn_l2 (size1 : Int) (n16 : Int) (s3 : Str) (xs33 : Str) (n36 : Int) : Option ((Str × Int) ⊕ Str) :=
  bif decide (n36 < size1) then
    (chk (n36 * size1)).bind fun z48 =>
    (chk (z48 + n16)).bind fun z50 =>
    (getL s3 z50).bind fun c52 =>
    (catL xs33 ([c52] : Str)).bind fun xs57 =>
    (chk (n36 + 1)).bind fun z64 =>
    some (.inl (xs57, z64))
  else
    some (.inr xs33)

noncomputable def m_spec_l11Turn_l1 (size1 : Int) (s3 : Str) (xs13 : Str) (n16 : Int) : Option ((Str × Int) ⊕ Str) :=
  bif decide (n16 < size1) then
    (
        (loopM (fun s : Str × Int => m_spec_l11Turn_l2 size1 n16 s3 s.1 s.2) (xs13, 0)).bind fun xs39 =>
        some xs39 : Option Str).bind fun xs28 =>
    (chk (n16 + 1)).bind fun z72 =>
    some (.inl (xs28, z72))
  else
    some (.inr xs13)

noncomputable def m_spec_l11Turn (size1 : Int) (s3 : Str) : Option Str :=
  (
      (loopM (fun s : Str × Int => m_spec_l11Turn_l1 size1 s3 s.1 s.2) (([] : Str), 0)).bind fun xs19 =>
      some xs19 : Option Str).bind fun xs8 =>
  some xs8

noncomputable def m_spec_l11Transpose (b1 : Board) : Option Board :=
  (m_spec_l11Turn b1.Size b1.Premium).bind fun y14 =>
  (m_spec_l11Turn b1.Size b1.Cells).bind fun y20 =>
  some (⟨b1.Size, y14, y20⟩ : Board)

noncomputable def m_spec_l12Turn (p1 : Play) : Option Play :=
  some (⟨p1.Col, p1.Row, !p1.Down, p1.Word⟩ : Play)

noncomputable def m_spec_l12Flat (b1 : Board) (p5 : Play) : Option (Board × Play) :=
  bif p5.Down then
    (m_spec_l11Transpose b1).bind fun y23 =>
    (m_spec_l12Turn p5).bind fun y31 =>
    some (y23, y31)
  else
    some (b1, p5)

noncomputable def m_spec_l11In (b1 : Board) (row5 : Int) (col7 : Int) : Option Bool :=
  (
      (chk (b1.Size - 1)).bind fun z17 =>
      (m_spec_l00In row5 0 z17).bind fun y19 =>
      bif y19 then
        (chk (b1.Size - 1)).bind fun z25 =>
        (m_spec_l00In col7 0 z25).bind fun y27 =>
        some y27
      else
        some false : Option Bool).bind fun t9 =>
  some t9

noncomputable def m_spec_l11At (b1 : Board) (row5 : Int) (col7 : Int) : Option UInt8 :=
  (chk (row5 * b1.Size)).bind fun z14 =>
  (chk (z14 + col7)).bind fun z16 =>
  (getL b1.Cells z16).bind fun c18 =>
  some c18

noncomputable def m_spec_l11Full (b1 : Board) (row5 : Int) (col7 : Int) : Option Bool :=
  (
      (m_spec_l11In b1 row5 col7).bind fun y13 =>
      bif y13 then
        (m_spec_l11At b1 row5 col7).bind fun y19 =>
        some (y19 != 46)
      else
        some false : Option Bool).bind fun t9 =>
  some t9

noncomputable def m_spec_l12Fits_l1 (p5 : Play) (b1 : Board) (c56 : Bool) (n58 : Int) : Option ((Bool × Int) ⊕ (Bool ⊕ Bool)) :=
  bif decide (n58 < (p5.Word.length : Int)) then
    (
        (chk (p5.Col + n58)).bind fun z73 =>
        (m_spec_l11At b1 p5.Row z73).bind fun y75 =>
        bif y75 == 46 then
          some (.inl true)
        else
          (getL p5.Word n58).bind fun c82 =>
          bif y75 != c82 then
            some (.inr false)
          else
            some (.inl c56) : Option (Bool ⊕ Bool)).bind fun x71 =>
    match x71 with
    | .inl c69 =>
      (chk (n58 + 1)).bind fun z87 =>
      some (.inl (c69, z87))
    | .inr r90 =>
      some (.inr (.inr r90))
  else
    some (.inr (.inl c56))

noncomputable def m_spec_l12Fits (b1 : Board) (p5 : Play) : Option Bool :=
  (
      (m_spec_l11In b1 p5.Row p5.Col).bind fun y18 =>
      bif !y18 then
        some true
      else
        (chk (p5.Col + (p5.Word.length : Int))).bind fun z25 =>
        bif decide (b1.Size < z25) then
          some true
        else
          (chk (p5.Col - 1)).bind fun z33 =>
          (m_spec_l11Full b1 p5.Row z33).bind fun y35 =>
          bif y35 then
            some true
          else
            (chk (p5.Col + (p5.Word.length : Int))).bind fun z42 =>
            (m_spec_l11Full b1 p5.Row z42).bind fun y44 =>
            some y44 : Option Bool).bind fun t13 =>
  bif t13 then
    some false
  else
    (
        (loopM (fun s : Bool × Int => m_spec_l12Fits_l1 p5 b1 s.1 s.2) (false, 0)).bind fun x63 =>
        match x63 with
        | .inl c61 =>
          some (.inl c61)
        | .inr r94 =>
          some (.inr r94) : Option (Bool ⊕ Bool)).bind fun x54 =>
    match x54 with
    | .inl c52 =>
      some c52
    | .inr r97 =>
      some r97

noncomputable def m_spec_l12Ok (b1 : Board) (p5 : Play) : Option Bool :=
  (
      (m_spec_l11Ok b1).bind fun y17 =>
      bif !y17 then
        some true
      else
        (m_spec_l12Word p5.Word).bind fun y24 =>
        some (!y24) : Option Bool).bind fun t13 =>
  bif t13 then
    some false
  else
    (m_spec_l12Flat b1 p5).bind fun y32 =>
    (m_spec_l12Fits y32.1 y32.2).bind fun y57 =>
    some y57

noncomputable def m_spec_l12Fresh_l1 (p5 : Play) (b1 : Board) (xs21 : (List Int)) (n24 : Int) : Option (((List Int) × Int) ⊕ (List Int)) :=
  bif decide (n24 < (p5.Word.length : Int)) then
    (
        (chk (p5.Col + n24)).bind fun z41 =>
        (m_spec_l11At b1 p5.Row z41).bind fun y43 =>
        bif y43 == 46 then
          (catL xs21 ([n24] : (List Int))).bind fun xs52 =>
          some xs52
        else
          some xs21 : Option (List Int)).bind fun xs36 =>
    (chk (n24 + 1)).bind fun z62 =>
    some (.inl (xs36, z62))
  else
    some (.inr xs21)

noncomputable def m_spec_l12Fresh (b1 : Board) (p5 : Play) : Option (List Int) :=
  (
      (loopM (fun s : (List Int) × Int => m_spec_l12Fresh_l1 p5 b1 s.1 s.2) (([] : (List Int)), 0)).bind fun xs27 =>
      some xs27 : Option (List Int)).bind fun xs16 =>
  some xs16

noncomputable def m_spec_l12Placed_l1 (y13 : (List Int)) (p5 : Play) (xs28 : Str) (n31 : Int) : Option ((Str × Int) ⊕ Str) :=
  bif decide (n31 < (y13.length : Int)) then
    (getL y13 n31).bind fun e45 =>
    (getL p5.Word e45).bind fun c54 =>
    (catL xs28 ([c54] : Str)).bind fun xs59 =>
    (chk (n31 + 1)).bind fun z66 =>
    some (.inl (xs59, z66))
  else
    some (.inr xs28)

noncomputable def m_spec_l12Placed (b1 : Board) (p5 : Play) : Option Str :=
  (m_spec_l12Fresh b1 p5).bind fun y13 =>
  (
      (loopM (fun s : Str × Int => m_spec_l12Placed_l1 y13 p5 s.1 s.2) (([] : Str), 0)).bind fun xs34 =>
      some xs34 : Option Str).bind fun xs23 =>
  some xs23

noncomputable def m_spec_l03Sort_l2 (s1 : Str) (k14 : Int) (xs49 : Str) (n50 : Int) : Option ((Str × Int) ⊕ (Str × Int)) :=
  (
      bif decide (0 < n50) then
        (chk (n50 - 1)).bind fun z67 =>
        (getL xs49 z67).bind fun e69 =>
        (getL s1 k14).bind fun c77 =>
        some (decide (c77 < e69))
      else
        some false : Option Bool).bind fun t61 =>
  bif t61 then
    (chk (n50 - 1)).bind fun z83 =>
    (getL xs49 z83).bind fun e85 =>
    (getL xs49 n50).bind fun e93 =>
    (setL xs49 n50 e85).bind fun xs102 =>
    (chk (n50 - 1)).bind fun z104 =>
    some (.inl (xs102, z104))
  else
    some (.inr (xs49, n50))

noncomputable def m_spec_l03Sort_l1 (s1 : Str) (xs11 : Str) (k14 : Int) : Option ((Str × Int) ⊕ Str) :=
  bif decide (k14 < (s1.length : Int)) then
    (
        (getL s1 k14).bind fun c32 =>
        (catL xs11 ([c32] : Str)).bind fun xs37 =>
        (
            (loopM (fun s : Str × Int => m_spec_l03Sort_l2 s1 k14 s.1 s.2) (xs37, (xs11.length : Int))).bind fun x56 =>
            match x56 with
            | (xs53, n54) =>
              some (xs53, n54) : Option (Str × Int)).bind fun x47 =>
        match x47 with
        | (xs44, n45) =>
          (getL s1 k14).bind fun c112 =>
          (getL xs44 n45).bind fun e114 =>
          (setL xs44 n45 c112).bind fun xs123 =>
          some xs123 : Option Str).bind fun xs26 =>
    (chk (k14 + 1)).bind fun z127 =>
    some (.inl (xs26, z127))
  else
    some (.inr xs11)

noncomputable def m_spec_l03Sort (s1 : Str) : Option Str :=
  (
      (loopM (fun s : Str × Int => m_spec_l03Sort_l1 s1 s.1 s.2) (([] : Str), 0)).bind fun xs17 =>
      some xs17 : Option Str).bind fun xs6 =>
  some xs6

noncomputable def m_spec_l03Tiles_l1 (xs10 : Str) (n11 : Int) : Option ((Str × Int) ⊕ Str) :=
  bif decide (n11 < (xs10.length : Int)) then
    (
        (getL xs10 n11).bind fun e25 =>
        (m_spec_l03Capital e25).bind fun y33 =>
        bif y33 then
          (getL xs10 n11).bind fun e39 =>
          (setL xs10 n11 63).bind fun xs48 =>
          some xs48
        else
          some xs10 : Option Str).bind fun xs22 =>
    (chk (n11 + 1)).bind fun z53 =>
    some (.inl (xs22, z53))
  else
    some (.inr xs10)

noncomputable def m_spec_l03Tiles (word1 : Str) : Option Str :=
  (
      (loopM (fun s : Str × Int => m_spec_l03Tiles_l1 s.1 s.2) (word1, 0)).bind fun xs14 =>
      some xs14 : Option Str).bind fun xs7 =>
  (m_spec_l03Sort xs7).bind fun y62 =>
  some y62

noncomputable def m_spec_l03Take_l1 (a1 : Str) (b3 : Str) (xs15 : Str) (n18 : Int) (n20 : Int) : Option ((Str × Int × Int) ⊕ (Str × Int)) :=
  bif decide (n20 < (a1.length : Int)) then
    (
        (
            bif decide (n18 < (b3.length : Int)) then
              (getL b3 n18).bind fun c47 =>
              (getL a1 n20).bind fun c49 =>
              some (c47 == c49)
            else
              some false : Option Bool).bind fun t41 =>
        bif t41 then
          (chk (n18 + 1)).bind fun z55 =>
          some (xs15, z55)
        else
          (getL a1 n20).bind fun c58 =>
          (catL xs15 ([c58] : Str)).bind fun xs63 =>
          some (xs63, n18) : Option (Str × Int)).bind fun x39 =>
    match x39 with
    | (xs34, n37) =>
      (chk (n20 + 1)).bind fun z72 =>
      some (.inl (xs34, n37, z72))
  else
    some (.inr (xs15, n18))

noncomputable def m_spec_l03Take (a1 : Str) (b3 : Str) : Option (Str × Bool) :=
  (
      (loopM (fun s : Str × Int × Int => m_spec_l03Take_l1 a1 b3 s.1 s.2.1 s.2.2) (([] : Str), 0, 0)).bind fun x28 =>
      match x28 with
      | (xs23, n26) =>
        some (xs23, n26) : Option (Str × Int)).bind fun x13 =>
  match x13 with
  | (xs8, n11) =>
    some (xs8, n11 == (b3.length : Int))

noncomputable def m_spec_l15Rest (b1 : Board) (rack5 : Str) (p7 : Play) : Option (Str × Bool) :=
  (m_spec_l12Flat b1 p7).bind fun y15 =>
  (m_spec_l12Placed y15.1 y15.2).bind fun y40 =>
  (m_spec_l03Tiles y40).bind fun y46 =>
  (m_spec_l03Take rack5 y46).bind fun y52 =>
  some (y52.1, y52.2)

noncomputable def m_spec_l24Possible (b1 : Board) (x5 : Turn) : Option Bool :=
  (m_spec_l03Rack x5.Rack).bind fun y14 =>
  bif !y14 then
    some false
  else
    bif x5.Pass then
      some (x5.Play == (⟨0, 0, false, ([] : Str)⟩ : Play))
    else
      (m_spec_l12Ok b1 x5.Play).bind fun y29 =>
      bif !y29 then
        some false
      else
        (m_spec_l15Rest b1 x5.Rack x5.Play).bind fun y36 =>
        some y36.2

noncomputable def m_spec_l12Make_l1 (y17 : (Board × Play)) (xs49 : Str) (n50 : Int) : Option ((Str × Int) ⊕ Str) :=
  bif decide (n50 < (y17.2.Word.length : Int)) then
    (chk (y17.2.Row * y17.1.Size)).bind fun z61 =>
    (chk (z61 + y17.2.Col)).bind fun z63 =>
    (chk (z63 + n50)).bind fun z65 =>
    (getL y17.2.Word n50).bind fun c67 =>
    (getL xs49 z65).bind fun e69 =>
    (setL xs49 z65 c67).bind fun xs78 =>
    (chk (n50 + 1)).bind fun z80 =>
    some (.inl (xs78, z80))
  else
    some (.inr xs49)

noncomputable def m_spec_l12Make (b1 : Board) (p5 : Play) : Option Board :=
  (m_spec_l12Flat b1 p5).bind fun y17 =>
  (
      (loopM (fun s : Str × Int => m_spec_l12Make_l1 y17 s.1 s.2) (y17.1.Cells, 0)).bind fun xs53 =>
      some xs53 : Option Str).bind fun xs46 =>
  bif p5.Down then
    (m_spec_l11Transpose (⟨y17.1.Size, y17.1.Premium, xs46⟩ : Board)).bind fun y97 =>
    some y97
  else
    some (⟨y17.1.Size, y17.1.Premium, xs46⟩ : Board)

noncomputable def m_spec_l24After (b1 : Board) (x5 : Turn) : Option Board :=
  bif x5.Pass then
    some b1
  else
    (m_spec_l12Make b1 x5.Play).bind fun y27 =>
    some y27

noncomputable def m_spec_l24Replay_l1 (list5 : (List Turn)) (n51 : Int) (s53 : Str) (s55 : Str) (n57 : Int) : Option ((Int × Str × Str × Int) ⊕ ((Int × Str × Str) ⊕ (Board × Bool))) :=
  bif decide (n57 < (list5.length : Int)) then
    (getL list5 n57).bind fun e73 =>
    (m_spec_l24Possible (⟨n51, s53, s55⟩ : Board) e73).bind fun y85 =>
    bif !y85 then
      some (.inr (.inr ((⟨0, ([] : Str), ([] : Str)⟩ : Board), false)))
    else
      (getL list5 n57).bind fun e97 =>
      (m_spec_l24After (⟨n51, s53, s55⟩ : Board) e97).bind fun y109 =>
      (chk (n57 + 1)).bind fun z120 =>
      some (.inl (y109.Size, y109.Premium, y109.Cells, z120))
  else
    some (.inr (.inl (n51, s53, s55)))

noncomputable def m_spec_l24Replay (b1 : Board) (list5 : (List Turn)) : Option (Board × Bool) :=
  (
      (m_spec_l11Ok b1).bind fun y17 =>
      bif !y17 then
        some true
      else
        some (decide (30 < (list5.length : Int))) : Option Bool).bind fun t13 =>
  bif t13 then
    some ((⟨0, ([] : Str), ([] : Str)⟩ : Board), false)
  else
    (
        (loopM (fun s : Int × Str × Str × Int => m_spec_l24Replay_l1 list5 s.1 s.2.1 s.2.2.1 s.2.2.2) (b1.Size, b1.Premium, b1.Cells, 0)).bind fun x66 =>
        match x66 with
        | .inl (n60, s62, s64) =>
          some (.inl (n60, s62, s64))
        | .inr r126 =>
          some (.inr r126) : Option ((Int × Str × Str) ⊕ (Board × Bool))).bind fun x49 =>
    match x49 with
    | .inl (n43, s45, s47) =>
      some ((⟨n43, s45, s47⟩ : Board), true)
    | .inr r133 =>
      some r133

noncomputable def m_spec_ValidTurns (b1 : Board) (list5 : (List Turn)) : Option Bool :=
  (m_spec_l24Replay b1 list5).bind fun y13 =>
  some y13.2

noncomputable def m_impl_within (x1 : Int) (low3 : Int) (high5 : Int) : Option Bool :=
  (
      bif decide (low3 ≤ x1) then
        some (decide (x1 ≤ high5))
      else
        some false : Option Bool).bind fun t7 =>
  some t7

noncomputable def m_impl_sizeOk (size1 : Int) : Option Bool :=
  (m_impl_within size1 5 15).bind fun y3 =>
  some y3

noncomputable def m_impl_allBytes_l1 (s1 : Str) (is3 : (UInt8 → Option Bool)) (n9 : Int) : Option (Int ⊕ (Unit ⊕ Bool)) :=
  bif decide (n9 < (s1.length : Int)) then
    (getL s1 n9).bind fun c18 =>
    (is3 c18).bind fun y20 =>
    bif !y20 then
      some (.inr (.inr false))
    else
      (chk (n9 + 1)).bind fun z26 =>
      some (.inl z26)
  else
    some (.inr (.inl ()))

noncomputable def m_impl_allBytes (s1 : Str) (is3 : (UInt8 → Option Bool)) : Option Bool :=
  (
      (loopM (fun s : Int => m_impl_allBytes_l1 s1 is3 s) 0).bind fun x12 =>
      match x12 with
      | .inl _ =>
        some (.inl ())
      | .inr r32 =>
        some (.inr r32) : Option (Unit ⊕ Bool)).bind fun x7 =>
  match x7 with
  | .inl _ =>
    some true
  | .inr r35 =>
    some r35

noncomputable def m_impl_premiumOk (c1 : UInt8) : Option Bool :=
  (m_strings_IndexByte ([50, 51, 100, 116, 46] : Str) c1).bind fun y2 =>
  some (decide (0 ≤ y2))

noncomputable def m_impl_small (c1 : UInt8) : Option Bool :=
  (
      bif decide (97 ≤ c1) then
        some (decide (c1 ≤ 122))
      else
        some false : Option Bool).bind fun t2 =>
  some t2

noncomputable def m_impl_capital (c1 : UInt8) : Option Bool :=
  (
      bif decide (65 ≤ c1) then
        some (decide (c1 ≤ 90))
      else
        some false : Option Bool).bind fun t2 =>
  some t2

noncomputable def m_impl_cellOk (c1 : UInt8) : Option Bool :=
  (
      bif c1 == 46 then
        some true
      else
        (m_impl_small c1).bind fun y8 =>
        bif y8 then
          some true
        else
          (m_impl_capital c1).bind fun y15 =>
          some y15 : Option Bool).bind fun t2 =>
  some t2

noncomputable def m_impl_ValidBoard (b1 : Board) : Option Bool :=
  (
      (m_impl_sizeOk b1.Size).bind fun y13 =>
      bif !y13 then
        some true
      else
        (chk (b1.Size * b1.Size)).bind fun z20 =>
        bif (b1.Premium.length : Int) != z20 then
          some true
        else
          some ((b1.Cells.length : Int) != (b1.Premium.length : Int)) : Option Bool).bind fun t9 =>
  bif t9 then
    some false
  else
    (
        (m_impl_allBytes b1.Premium m_impl_premiumOk).bind fun y31 =>
        bif y31 then
          (m_impl_allBytes b1.Cells m_impl_cellOk).bind fun y37 =>
          some y37
        else
          some false : Option Bool).bind fun t27 =>
    some t27

noncomputable def m_impl_place (tile1 : UInt8) : Option Int :=
  bif tile1 == 63 then
    some 0
  else
    (m_impl_small tile1).bind fun y3 =>
    bif y3 then
      (chk (((tile1 - 97).toNat : Int) + 1)).bind fun z9 =>
      some z9
    else
      some (-1)

noncomputable def m_impl_onlyTiles_l1 (s1 : Str) (n5 : Int) : Option (Int ⊕ (Unit ⊕ Bool)) :=
  bif decide (n5 < (s1.length : Int)) then
    (getL s1 n5).bind fun c14 =>
    (m_impl_place c14).bind fun y16 =>
    bif decide (y16 < 0) then
      some (.inr (.inr false))
    else
      (chk (n5 + 1)).bind fun z23 =>
      some (.inl z23)
  else
    some (.inr (.inl ()))

noncomputable def m_impl_onlyTiles (s1 : Str) : Option Bool :=
  (
      (loopM (fun s : Int => m_impl_onlyTiles_l1 s1 s) 0).bind fun x8 =>
      match x8 with
      | .inl _ =>
        some (.inl ())
      | .inr r29 =>
        some (.inr r29) : Option (Unit ⊕ Bool)).bind fun x3 =>
  match x3 with
  | .inl _ =>
    some true
  | .inr r32 =>
    some r32

noncomputable def m_impl_ValidPile_l1 (s1 : Str) (n19 : Int) : Option (Int ⊕ (Unit ⊕ Bool)) :=
  bif decide (n19 < (s1.length : Int)) then
    (chk (n19 - 1)).bind fun z29 =>
    (getL s1 z29).bind fun c31 =>
    (getL s1 n19).bind fun c33 =>
    bif decide (c33 < c31) then
      some (.inr (.inr false))
    else
      (chk (n19 + 1)).bind fun z36 =>
      some (.inl z36)
  else
    some (.inr (.inl ()))

noncomputable def m_impl_ValidPile (s1 : Str) : Option Bool :=
  (
      bif decide (120 < (s1.length : Int)) then
        some true
      else
        (m_impl_onlyTiles s1).bind fun y9 =>
        some (!y9) : Option Bool).bind fun t3 =>
  bif t3 then
    some false
  else
    (
        (loopM (fun s : Int => m_impl_ValidPile_l1 s1 s) 1).bind fun x22 =>
        match x22 with
        | .inl _ =>
          some (.inl ())
        | .inr r42 =>
          some (.inr r42) : Option (Unit ⊕ Bool)).bind fun x17 =>
    match x17 with
    | .inl _ =>
      some true
    | .inr r45 =>
      some r45

noncomputable def m_impl_ValidRack (s1 : Str) : Option Bool :=
  (
      bif decide ((s1.length : Int) ≤ 7) then
        (m_impl_ValidPile s1).bind fun y8 =>
        some y8
      else
        some false : Option Bool).bind fun t3 =>
  some t3

noncomputable def m_impl_onlySmall_l1 (s1 : Str) (n10 : Int) : Option (Int ⊕ (Unit ⊕ Bool)) :=
  bif decide (n10 < (s1.length : Int)) then
    (getL s1 n10).bind fun e19 =>
    (m_impl_small e19).bind fun y27 =>
    bif !y27 then
      some (.inr (.inr false))
    else
      (chk (n10 + 1)).bind fun z33 =>
      some (.inl z33)
  else
    some (.inr (.inl ()))

noncomputable def m_impl_onlySmall (s1 : Str) : Option Bool :=
  (
      (loopM (fun s : Int => m_impl_onlySmall_l1 s1 s) 0).bind fun x13 =>
      match x13 with
      | .inl _ =>
        some (.inl ())
      | .inr r39 =>
        some (.inr r39) : Option (Unit ⊕ Bool)).bind fun x3 =>
  match x3 with
  | .inl _ =>
    some true
  | .inr r42 =>
    some r42

noncomputable def m_impl_IsWord (s1 : Str) : Option Bool :=
  (
      bif decide (1 ≤ (s1.length : Int)) then
        bif decide ((s1.length : Int) ≤ 12) then
          (m_impl_onlySmall s1).bind fun y9 =>
          some y9
        else
          some false
      else
        some false : Option Bool).bind fun t3 =>
  some t3

noncomputable def m_impl_isPlaced (s1 : Str) : Option Bool :=
  (
      (m_strings_ToLower s1).bind fun y7 =>
      (m_impl_IsWord y7).bind fun y13 =>
      bif y13 then
        (m_strings_ToLower s1).bind fun y19 =>
        some ((s1.length : Int) == (y19.length : Int))
      else
        some false : Option Bool).bind fun t3 =>
  some t3

noncomputable def m_impl_isMain (s1 : Str) : Option Bool :=
  (
      bif decide (2 ≤ (s1.length : Int)) then
        (m_impl_isPlaced s1).bind fun y8 =>
        some y8
      else
        some false : Option Bool).bind fun t3 =>
  some t3

noncomputable def m_impl_Board_inside (b1 : Board) (row5 : Int) (col7 : Int) : Option Bool :=
  (
      (chk (b1.Size - 1)).bind fun z17 =>
      (m_impl_within row5 0 z17).bind fun y19 =>
      bif y19 then
        (chk (b1.Size - 1)).bind fun z25 =>
        (m_impl_within col7 0 z25).bind fun y27 =>
        some y27
      else
        some false : Option Bool).bind fun t13 =>
  some t13

noncomputable def m_impl_directionOf (down1 : Bool) : Option Bool :=
  bif down1 then
    some true
  else
    some false

noncomputable def m_impl_right_at (p1 : Unit) (row2 : Int) (col4 : Int) (n6 : Int) : Option Square :=
  (chk (col4 + n6)).bind fun z16 =>
  some (⟨row2, z16⟩ : Square)

noncomputable def m_impl_downwards_at (p1 : Unit) (row2 : Int) (col4 : Int) (n6 : Int) : Option Square :=
  (chk (row2 + n6)).bind fun z16 =>
  some (⟨z16, col4⟩ : Square)

noncomputable def m_impl_Play_square (p1 : Play) (n5 : Int) : Option Square :=
  (m_impl_directionOf p1.Down).bind fun y16 =>
  bif y16 then
    (m_impl_downwards_at (⟨⟩ : Unit) p1.Row p1.Col n5).bind fun y22 =>
    some y22
  else
    (m_impl_right_at (⟨⟩ : Unit) p1.Row p1.Col n5).bind fun y33 =>
    some y33

noncomputable def m_impl_Board_cell (b1 : Board) (row5 : Int) (col7 : Int) : Option UInt8 :=
  (m_impl_Board_inside b1 row5 col7).bind fun y13 =>
  bif !y13 then
    some 0
  else
    (chk (row5 * b1.Size)).bind fun z19 =>
    (chk (z19 + col7)).bind fun z21 =>
    (getL b1.Cells z21).bind fun c23 =>
    some c23

noncomputable def m_impl_Board_letter (b1 : Board) (row5 : Int) (col7 : Int) : Option Bool :=
  (m_impl_Board_cell b1 row5 col7).bind fun y13 =>
  (
      bif y13 != 0 then
        some (y13 != 46)
      else
        some false : Option Bool).bind fun t18 =>
  some t18

noncomputable def m_impl_Board_on (b1 : Board) (s5 : Square) : Option Bool :=
  (m_impl_Board_letter b1 s5.Row s5.Col).bind fun y16 =>
  some y16

noncomputable def m_impl_Play_validOn_l1 (p1 : Play) (b5 : Board) (s97 : Bool) (c99 : Int) : Option ((Bool × Int) ⊕ (Bool ⊕ Bool)) :=
  bif decide (c99 < (p1.Word.length : Int)) then
    (
        (m_impl_Play_square p1 c99).bind fun y114 =>
        (m_impl_Board_cell b5 y114.Row y114.Col).bind fun y128 =>
        bif y128 == 46 then
          some (.inl true)
        else
          (getL p1.Word c99).bind fun c135 =>
          bif y128 != c135 then
            some (.inr false)
          else
            some (.inl s97) : Option (Bool ⊕ Bool)).bind fun x112 =>
    match x112 with
    | .inl s110 =>
      (chk (c99 + 1)).bind fun z140 =>
      some (.inl (s110, z140))
    | .inr r143 =>
      some (.inr (.inr r143))
  else
    some (.inr (.inl s97))

noncomputable def m_impl_Play_validOn (p1 : Play) (b5 : Board) : Option Bool :=
  (
      (m_impl_isMain p1.Word).bind fun y21 =>
      bif !y21 then
        some true
      else
        (m_impl_Board_inside b5 p1.Row p1.Col).bind fun y28 =>
        some (!y28) : Option Bool).bind fun t17 =>
  bif t17 then
    some false
  else
    (chk ((p1.Word.length : Int) - 1)).bind fun z36 =>
    (m_impl_Play_square p1 z36).bind fun y38 =>
    (
        (m_impl_Board_inside b5 y38.Row y38.Col).bind fun y57 =>
        bif !y57 then
          some true
        else
          (m_impl_Play_square p1 (-1)).bind fun y64 =>
          (m_impl_Board_on b5 y64).bind fun y71 =>
          bif y71 then
            some true
          else
            (m_impl_Play_square p1 (p1.Word.length : Int)).bind fun y78 =>
            (m_impl_Board_on b5 y78).bind fun y85 =>
            some y85 : Option Bool).bind fun t52 =>
    bif t52 then
      some false
    else
      (
          (loopM (fun s : Bool × Int => m_impl_Play_validOn_l1 p1 b5 s.1 s.2) (false, 0)).bind fun x104 =>
          match x104 with
          | .inl s102 =>
            some (.inl s102)
          | .inr r147 =>
            some (.inr r147) : Option (Bool ⊕ Bool)).bind fun x95 =>
      match x95 with
      | .inl s93 =>
        some s93
      | .inr r150 =>
        some r150

noncomputable def m_impl_newSquares_l1 (p5 : Play) (b1 : Board) (pos34 : Nat) (xs35 : (List Square)) (xs38 : (List Int)) : Option ((Nat × (List Square) × (List Int)) ⊕ (Nat × (List Square) × (List Int))) :=
  bif decide (pos34 < p5.Word.length) then
    (m_impl_Play_square p5 (pos34 : Int)).bind fun y57 =>
    (m_impl_Board_on b1 y57).bind fun y71 =>
    bif !y71 then
      (catL xs35 ([y57] : (List Square))).bind fun xs80 =>
      (catL xs38 ([(pos34 : Int)] : (List Int))).bind fun xs90 =>
      some (.inl (pos34 + runeW p5.Word pos34, xs80, xs90))
    else
      some (.inl (pos34 + runeW p5.Word pos34, xs35, xs38))
  else
    some (.inr (pos34, xs35, xs38))

noncomputable def m_impl_newSquares (b1 : Board) (p5 : Play) : Option ((List Square) × (List Int)) :=
  (
      (loopM (fun s : Nat × (List Square) × (List Int) => m_impl_newSquares_l1 p5 b1 s.1 s.2.1 s.2.2) (0, ([] : (List Square)), ([] : (List Int)))).bind fun x49 =>
      match x49 with
      | (pos42, xs43, xs46) =>
        some (xs43, xs46) : Option ((List Square) × (List Int))).bind fun x29 =>
  match x29 with
  | (xs23, xs26) =>
    some (xs23, xs26)

noncomputable def m_impl_tileAt (k1 : Int) : Option UInt8 :=
  bif k1 == 0 then
    some 63
  else
    (chk (97 + k1)).bind fun z4 =>
    (chk (z4 - 1)).bind fun z6 =>
    some (UInt8.ofNat (z6 % 256).toNat)

noncomputable def m_strings_Builder_copyCheck (b1 : Str) : Option Str :=
  some b1

noncomputable def m_strings_Builder_WriteByte (b1 : Str) (c7 : UInt8) : Option (Unit × Str) :=
  (m_strings_Builder_copyCheck b1).bind fun y8 =>
  (catL y8 ([c7] : Str)).bind fun xs20 =>
  some ((), xs20)

noncomputable def m_strings_Builder_String (b1 : Str) : Option Str :=
  some b1

noncomputable def m_impl_counts_pile_l2 (n23 : Int) (xs48 : Str) (n51 : Int) : Option ((Str × Int) ⊕ Str) :=
  bif decide (0 < n51) then
    (m_impl_tileAt n23).bind fun y65 =>
    (m_strings_Builder_WriteByte xs48 y65).bind fun y70 =>
    (chk (n51 - 1)).bind fun z79 =>
    some (.inl (y70.2, z79))
  else
    some (.inr xs48)

noncomputable def m_impl_counts_pile_l1 (c1 : (List Int)) (xs20 : Str) (n23 : Int) : Option ((Str × Int) ⊕ Str) :=
  bif decide (n23 < 27) then
    (
        (getL c1 n23).bind fun n44 =>
        (loopM (fun s : Str × Int => m_impl_counts_pile_l2 n23 s.1 s.2) (xs20, n44)).bind fun xs56 =>
        some xs56 : Option Str).bind fun xs39 =>
    (chk (n23 + 1)).bind fun z87 =>
    some (.inl (xs39, z87))
  else
    some (.inr xs20)

noncomputable def m_impl_counts_pile (c1 : (List Int)) : Option Str :=
  (
      (loopM (fun s : Str × Int => m_impl_counts_pile_l1 c1 s.1 s.2) (([] : Str), 0)).bind fun xs28 =>
      some xs28 : Option Str).bind fun xs13 =>
  (m_strings_Builder_String xs13).bind fun y95 =>
  some y95

noncomputable def m_impl_tilesOf_l1 (letters1 : Str) (xs11 : (List Int)) (n13 : Int) : Option (((List Int) × Int) ⊕ (List Int)) :=
  bif decide (n13 < (letters1.length : Int)) then
    (
        (getL letters1 n13).bind fun c28 =>
        (m_impl_capital c28).bind fun y30 =>
        bif y30 then
          (getL xs11 0).bind fun n36 =>
          (chk (n36 + 1)).bind fun z38 =>
          (getL xs11 0).bind fun n40 =>
          (setL xs11 0 z38).bind fun xs43 =>
          some xs43
        else
          (getL letters1 n13).bind fun c46 =>
          (m_impl_place c46).bind fun y48 =>
          (getL xs11 y48).bind fun n54 =>
          (chk (n54 + 1)).bind fun z56 =>
          (getL xs11 y48).bind fun n58 =>
          (setL xs11 y48 z56).bind fun xs61 =>
          some xs61 : Option (List Int)).bind fun xs24 =>
    (chk (n13 + 1)).bind fun z65 =>
    some (.inl (xs24, z65))
  else
    some (.inr xs11)

noncomputable def m_impl_tilesOf (letters1 : Str) : Option Str :=
  (
      (loopM (fun s : (List Int) × Int => m_impl_tilesOf_l1 letters1 s.1 s.2) ((List.replicate 27 (0 : Int)), 0)).bind fun xs16 =>
      some xs16 : Option (List Int)).bind fun xs7 =>
  (m_impl_counts_pile xs7).bind fun y73 =>
  some y73

noncomputable def m_impl_placedTiles_l1 (y17 : ((List Square) × (List Int))) (p5 : Play) (xs35 : Str) (n38 : Int) : Option ((Str × Int) ⊕ Str) :=
  bif decide (n38 < (y17.2.length : Int)) then
    (getL y17.2 n38).bind fun e50 =>
    (getL p5.Word e50).bind fun c59 =>
    (catL xs35 ([c59] : Str)).bind fun xs64 =>
    (chk (n38 + 1)).bind fun z71 =>
    some (.inl (xs64, z71))
  else
    some (.inr xs35)

noncomputable def m_impl_placedTiles (b1 : Board) (p5 : Play) : Option Str :=
  (m_impl_newSquares b1 p5).bind fun y17 =>
  (
      (loopM (fun s : Str × Int => m_impl_placedTiles_l1 y17 p5 s.1 s.2) (([] : Str), 0)).bind fun xs41 =>
      some xs41 : Option Str).bind fun xs29 =>
  (m_impl_tilesOf xs29).bind fun y80 =>
  some y80

noncomputable def m_impl_countsOf_l1 (s1 : Str) (xs15 : (List Int)) (n17 : Int) : Option (((List Int) × Int) ⊕ (List Int)) :=
  bif decide (n17 < (s1.length : Int)) then
    (getL s1 n17).bind fun c28 =>
    (m_impl_place c28).bind fun y30 =>
    (getL xs15 y30).bind fun n36 =>
    (chk (n36 + 1)).bind fun z38 =>
    (getL xs15 y30).bind fun n40 =>
    (setL xs15 y30 z38).bind fun xs43 =>
    (chk (n17 + 1)).bind fun z45 =>
    some (.inl (xs43, z45))
  else
    some (.inr xs15)

noncomputable def m_impl_countsOf (s1 : Str) : Option (List Int) :=
  (
      (loopM (fun s : (List Int) × Int => m_impl_countsOf_l1 s1 s.1 s.2) ((List.replicate 27 (0 : Int)), 0)).bind fun xs20 =>
      some xs20 : Option (List Int)).bind fun xs11 =>
  some xs11

noncomputable def m_impl_counts_less_l1 (d3 : (List Int)) (xs21 : (List Int)) (n23 : Int) : Option (((List Int) × Int) ⊕ ((List Int) ⊕ ((List Int) × Bool))) :=
  bif decide (n23 < 27) then
    (getL d3 n23).bind fun n34 =>
    (getL xs21 n23).bind fun n36 =>
    (chk (n36 - n34)).bind fun z38 =>
    (getL xs21 n23).bind fun n40 =>
    (setL xs21 n23 z38).bind fun xs43 =>
    (getL xs43 n23).bind fun n45 =>
    bif decide (n45 < 0) then
      some (.inr (.inr ((List.replicate 27 (0 : Int)), false)))
    else
      (chk (n23 + 1)).bind fun z52 =>
      some (.inl (xs43, z52))
  else
    some (.inr (.inl xs21))

noncomputable def m_impl_counts_less (c1 : (List Int)) (d3 : (List Int)) : Option ((List Int) × Bool) :=
  (
      (loopM (fun s : (List Int) × Int => m_impl_counts_less_l1 d3 s.1 s.2) (c1, 0)).bind fun x28 =>
      match x28 with
      | .inl xs26 =>
        some (.inl xs26)
      | .inr r58 =>
        some (.inr r58) : Option ((List Int) ⊕ ((List Int) × Bool))).bind fun x19 =>
  match x19 with
  | .inl xs17 =>
    some (xs17, true)
  | .inr r63 =>
    some r63

noncomputable def m_impl_without (a1 : Str) (b3 : Str) : Option (Str × Bool) :=
  (m_impl_countsOf a1).bind fun y5 =>
  (m_impl_countsOf b3).bind fun y11 =>
  (m_impl_counts_less y5 y11).bind fun y17 =>
  (m_impl_counts_pile y17.1).bind fun y28 =>
  some (y28, y17.2)

noncomputable def m_impl_Turn_possible (x1 : Turn) (b6 : Board) : Option Bool :=
  (m_impl_ValidRack x1.Rack).bind fun y18 =>
  bif !y18 then
    some false
  else
    bif x1.Pass then
      some (x1.Play == (⟨0, 0, false, ([] : Str)⟩ : Play))
    else
      (m_impl_Play_validOn x1.Play b6).bind fun y25 =>
      bif !y25 then
        some false
      else
        (m_impl_placedTiles b6 x1.Play).bind fun y32 =>
        (m_impl_without x1.Rack y32).bind fun y38 =>
        some y38.2

noncomputable def m_impl_made_l1 (p5 : Play) (b1 : Board) (pos31 : Nat) (xs32 : Str) : Option ((Nat × Str) ⊕ (Nat × Str)) :=
  bif decide (pos31 < p5.Word.length) then
    (m_impl_Play_square p5 (pos31 : Int)).bind fun y44 =>
    (chk (y44.Row * b1.Size)).bind fun z59 =>
    (chk (z59 + y44.Col)).bind fun z61 =>
    (getL p5.Word (pos31 : Int)).bind fun c63 =>
    (getL xs32 z61).bind fun e65 =>
    (setL xs32 z61 c63).bind fun xs74 =>
    some (.inl (pos31 + runeW p5.Word pos31, xs74))
  else
    some (.inr (pos31, xs32))

noncomputable def m_impl_made (b1 : Board) (p5 : Play) : Option Board :=
  (
      (loopM (fun s : Nat × Str => m_impl_made_l1 p5 b1 s.1 s.2) (0, b1.Cells)).bind fun x36 =>
      match x36 with
      | (pos34, xs35) =>
        some xs35 : Option Str).bind fun xs25 =>
  some (⟨b1.Size, b1.Premium, xs25⟩ : Board)

noncomputable def m_impl_Turn_after (x1 : Turn) (b6 : Board) : Option Board :=
  bif x1.Pass then
    some b6
  else
    (m_impl_made b6 x1.Play).bind fun y27 =>
    some y27

noncomputable def m_impl_replayTurns_l1 (list5 : (List Turn)) (n45 : Int) (s47 : Str) (s49 : Str) (n51 : Int) : Option ((Int × Str × Str × Int) ⊕ ((Int × Str × Str) ⊕ (Board × Bool))) :=
  bif decide (n51 < (list5.length : Int)) then
    (getL list5 n51).bind fun e66 =>
    (m_impl_Turn_possible e66 (⟨n45, s47, s49⟩ : Board)).bind fun y85 =>
    bif !y85 then
      some (.inr (.inr ((⟨0, ([] : Str), ([] : Str)⟩ : Board), false)))
    else
      (m_impl_Turn_after e66 (⟨n45, s47, s49⟩ : Board)).bind fun y97 =>
      (chk (n51 + 1)).bind fun z108 =>
      some (.inl (y97.Size, y97.Premium, y97.Cells, z108))
  else
    some (.inr (.inl (n45, s47, s49)))

noncomputable def m_impl_replayTurns (b1 : Board) (list5 : (List Turn)) : Option (Board × Bool) :=
  (
      (m_impl_ValidBoard b1).bind fun y21 =>
      bif !y21 then
        some true
      else
        some (decide (30 < (list5.length : Int))) : Option Bool).bind fun t17 =>
  bif t17 then
    some ((⟨0, ([] : Str), ([] : Str)⟩ : Board), false)
  else
    (
        (loopM (fun s : Int × Str × Str × Int => m_impl_replayTurns_l1 list5 s.1 s.2.1 s.2.2.1 s.2.2.2) (b1.Size, b1.Premium, b1.Cells, 0)).bind fun x60 =>
        match x60 with
        | .inl (n54, s56, s58) =>
          some (.inl (n54, s56, s58))
        | .inr r114 =>
          some (.inr r114) : Option ((Int × Str × Str) ⊕ (Board × Bool))).bind fun x42 =>
    match x42 with
    | .inl (n36, s38, s40) =>
      some ((⟨n36, s38, s40⟩ : Board), true)
    | .inr r121 =>
      some r121

noncomputable def m_impl_ValidTurns (b1 : Board) (list5 : (List Turn)) : Option Bool :=
  (m_impl_replayTurns b1 list5).bind fun y13 =>
  some y13.2

noncomputable def m_laws_eqPlay (a1 : Play) (b5 : Play) : Option Bool :=
  bif a1.Row != b5.Row then
    some false
  else
    bif a1.Col != b5.Col then
      some false
    else
      bif a1.Down != b5.Down then
        some false
      else
        bif a1.Word != b5.Word then
          some false
        else
          some true

noncomputable def m_laws_eqTurn (a1 : Turn) (b6 : Turn) : Option Bool :=
  bif a1.Rack != b6.Rack then
    some false
  else
    bif a1.Pass != b6.Pass then
      some false
    else
      (m_laws_eqPlay a1.Play b6.Play).bind fun y21 =>
      bif !y21 then
        some false
      else
        some true

noncomputable def m_laws_eqTurnS_l1 (a1 : (List Turn)) (b5 : (List Turn)) (n14 : Int) : Option (Int ⊕ (Unit ⊕ Bool)) :=
  bif decide (n14 < (a1.length : Int)) then
    (getL a1 n14).bind fun e25 =>
    (getL b5 n14).bind fun e37 =>
    (m_laws_eqTurn e25 e37).bind fun y49 =>
    bif !y49 then
      some (.inr (.inr false))
    else
      (chk (n14 + 1)).bind fun z55 =>
      some (.inl z55)
  else
    some (.inr (.inl ()))

noncomputable def m_laws_eqTurnS (a1 : (List Turn)) (b5 : (List Turn)) : Option Bool :=
  bif (a1.length : Int) != (b5.length : Int) then
    some false
  else
    (
        (loopM (fun s : Int => m_laws_eqTurnS_l1 a1 b5 s) 0).bind fun x17 =>
        match x17 with
        | .inl _ =>
          some (.inl ())
        | .inr r61 =>
          some (.inr r61) : Option (Unit ⊕ Bool)).bind fun x12 =>
    match x12 with
    | .inl _ =>
      some true
    | .inr r64 =>
      some r64

noncomputable def m_laws_FnExactValidTurns (aB1 : Board) (aList5 : (List Turn)) : Option Bool :=
  (m_laws_szBoard aB1 1048576).bind fun y13 =>
  bif decide (y13 < 0) then
    some true
  else
    (m_laws_szTurnS aList5 y13).bind fun y20 =>
    bif decide (y20 < 0) then
      some true
    else
      (m_laws_toBoard aB1).bind fun y27 =>
      (m_laws_toTurnS aList5).bind fun y35 =>
      (m_spec_ValidTurns y27 y35).bind fun y42 =>
      (m_laws_toTurnS aList5).bind fun y47 =>
      (m_laws_toBoard aB1).bind fun y54 =>
      (m_impl_ValidTurns y54 y47).bind fun y62 =>
      bif y62 != y42 then
        some false
      else
        (m_laws_toTurnS aList5).bind fun y68 =>
        (m_laws_eqTurnS y47 y68).bind fun y75 =>
        bif !y75 then
          some false
        else
          some true

noncomputable def m_spec_l23Unseen (s1 : Str) : Option Bool :=
  (
      (m_spec_l03Pile s1).bind fun y7 =>
      bif y7 then
        (m_spec_l00In (s1.length : Int) 2 8).bind fun y13 =>
        some y13
      else
        some false : Option Bool).bind fun t3 =>
  some t3

noncomputable def m_spec_l23End (b1 : Board) (mine5 : Str) (unseen7 : Str) (p9 : Play) (tile13 : Str) : Option (End × Bool) :=
  (m_spec_l15Rest b1 mine5 p9).bind fun y23 =>
  (m_spec_l03Take unseen7 tile13).bind fun y29 =>
  (
      bif !y23.2 then
        some true
      else
        bif !y29.2 then
          some true
        else
          some ((tile13.length : Int) != 1) : Option Bool).bind fun t35 =>
  bif t35 then
    some ((⟨⟨0, ([] : Str), ([] : Str)⟩, ([] : Str), ([] : Str), false⟩ : End), false)
  else
    (m_spec_l12Make b1 p9).bind fun y50 =>
    (catL y23.1 tile13).bind fun s58 =>
    (m_spec_l03Sort s58).bind fun y60 =>
    some ((⟨⟨y50.Size, y50.Premium, y50.Cells⟩, y29.1, y60, false⟩ : End), true)

noncomputable def m_spec_EndAfter (b1 : Board) (mine5 : Str) (unseen7 : Str) (p9 : Play) (tile13 : Str) : Option (End × Int) :=
  (
      (m_spec_l11Ok b1).bind fun y31 =>
      bif !y31 then
        some true
      else
        (m_spec_l03Rack mine5).bind fun y38 =>
        bif !y38 then
          some true
        else
          (m_spec_l23Unseen unseen7).bind fun y45 =>
          some (!y45) : Option Bool).bind fun t27 =>
  bif t27 then
    some ((⟨⟨0, ([] : Str), ([] : Str)⟩, ([] : Str), ([] : Str), false⟩ : End), 1)
  else
    (m_spec_l12Ok b1 p9).bind fun y57 =>
    bif !y57 then
      some ((⟨⟨0, ([] : Str), ([] : Str)⟩, ([] : Str), ([] : Str), false⟩ : End), 2)
    else
      (m_spec_l23End b1 mine5 unseen7 p9 tile13).bind fun y67 =>
      bif !y67.2 then
        some ((⟨⟨0, ([] : Str), ([] : Str)⟩, ([] : Str), ([] : Str), false⟩ : End), 3)
      else
        some (y67.1, 0)

noncomputable def m_impl_isUnseen (s1 : Str) : Option Bool :=
  (
      bif decide (2 ≤ (s1.length : Int)) then
        bif decide ((s1.length : Int) ≤ 8) then
          (m_impl_ValidPile s1).bind fun y9 =>
          some y9
        else
          some false
      else
        some false : Option Bool).bind fun t3 =>
  some t3

noncomputable def m_impl_sorted (s1 : Str) : Option Str :=
  (m_impl_countsOf s1).bind fun y3 =>
  (m_impl_counts_pile y3).bind fun y9 =>
  some y9

noncomputable def m_impl_endAfter (b1 : Board) (mine5 : Str) (unseen7 : Str) (p9 : Play) (tile13 : Str) : Option End :=
  (m_impl_placedTiles b1 p9).bind fun y27 =>
  (m_impl_without mine5 y27).bind fun y33 =>
  (m_impl_without unseen7 tile13).bind fun y39 =>
  (m_impl_made b1 p9).bind fun y45 =>
  (catL y33.1 tile13).bind fun s53 =>
  (m_impl_sorted s53).bind fun y55 =>
  some (⟨⟨y45.Size, y45.Premium, y45.Cells⟩, y39.1, y55, false⟩ : End)

noncomputable def m_impl_EndAfter (b1 : Board) (mine5 : Str) (unseen7 : Str) (p9 : Play) (tile13 : Str) : Option (End × Int) :=
  (
      (m_impl_ValidBoard b1).bind fun y31 =>
      bif !y31 then
        some true
      else
        (m_impl_ValidRack mine5).bind fun y38 =>
        bif !y38 then
          some true
        else
          (m_impl_isUnseen unseen7).bind fun y45 =>
          some (!y45) : Option Bool).bind fun t27 =>
  bif t27 then
    some ((⟨⟨0, ([] : Str), ([] : Str)⟩, ([] : Str), ([] : Str), false⟩ : End), 1)
  else
    (m_impl_Play_validOn p9 b1).bind fun y57 =>
    bif !y57 then
      some ((⟨⟨0, ([] : Str), ([] : Str)⟩, ([] : Str), ([] : Str), false⟩ : End), 2)
    else
      (m_impl_placedTiles b1 p9).bind fun y67 =>
      (m_impl_without mine5 y67).bind fun y73 =>
      (
          bif !y73.2 then
            some true
          else
            bif (tile13.length : Int) != 1 then
              some true
            else
              (m_strings_Contains unseen7 tile13).bind fun y87 =>
              some (!y87) : Option Bool).bind fun t79 =>
      bif t79 then
        some ((⟨⟨0, ([] : Str), ([] : Str)⟩, ([] : Str), ([] : Str), false⟩ : End), 3)
      else
        (m_impl_endAfter b1 mine5 unseen7 p9 tile13).bind fun y99 =>
        some (y99, 0)

noncomputable def m_laws_eqBoard (a1 : Board) (b5 : Board) : Option Bool :=
  bif a1.Size != b5.Size then
    some false
  else
    bif a1.Premium != b5.Premium then
      some false
    else
      bif a1.Cells != b5.Cells then
        some false
      else
        some true

noncomputable def m_laws_eqEnd (a1 : End) (b7 : End) : Option Bool :=
  (m_laws_eqBoard a1.Board b7.Board).bind fun y21 =>
  bif !y21 then
    some false
  else
    bif a1.Mine != b7.Mine then
      some false
    else
      bif a1.Theirs != b7.Theirs then
        some false
      else
        bif a1.Passed != b7.Passed then
          some false
        else
          some true

noncomputable def m_laws_FnExactEndAfter (aB1 : Board) (aMine5 : Str) (aUnseen7 : Str) (aP9 : Play) (aTile13 : Str) : Option Bool :=
  bif decide (1048576 < (aMine5.length : Int)) then
    some true
  else
    bif decide (1048576 < (aUnseen7.length : Int)) then
      some true
    else
      bif decide (1048576 < (aTile13.length : Int)) then
        some true
      else
        (m_laws_szBoard aB1 1048576).bind fun y26 =>
        bif decide (y26 < 0) then
          some true
        else
          (m_laws_szPlay aP9 y26).bind fun y33 =>
          bif decide (y33 < 0) then
            some true
          else
            (m_laws_toBoard aB1).bind fun y41 =>
            (m_laws_toPlay aP9).bind fun y59 =>
            (m_spec_EndAfter y41 aMine5 aUnseen7 y59 aTile13).bind fun y73 =>
            (m_laws_toBoard aB1).bind fun y101 =>
            (m_laws_toPlay aP9).bind fun y119 =>
            (m_impl_EndAfter y101 aMine5 aUnseen7 y119 aTile13).bind fun y133 =>
            (
                (m_laws_eqEnd y133.1 y73.1).bind fun y164 =>
                bif !y164 then
                  some true
                else
                  some (y133.2 != y73.2) : Option Bool).bind fun t160 =>
            bif t160 then
              some false
            else
              some true

noncomputable def m_spec_ReplayTurns (b1 : Board) (list5 : (List Turn)) : Option (Board × Int) :=
  (m_spec_l24Replay b1 list5).bind fun y17 =>
  bif !y17.2 then
    some ((⟨0, ([] : Str), ([] : Str)⟩ : Board), 1)
  else
    some (y17.1, 0)

noncomputable def m_impl_ReplayTurns (b1 : Board) (list5 : (List Turn)) : Option (Board × Int) :=
  (m_impl_replayTurns b1 list5).bind fun y17 =>
  bif !y17.2 then
    some ((⟨0, ([] : Str), ([] : Str)⟩ : Board), 1)
  else
    some (y17.1, 0)

noncomputable def m_laws_FnExactReplayTurns (aB1 : Board) (aList5 : (List Turn)) : Option Bool :=
  (m_laws_szBoard aB1 1048576).bind fun y13 =>
  bif decide (y13 < 0) then
    some true
  else
    (m_laws_szTurnS aList5 y13).bind fun y20 =>
    bif decide (y20 < 0) then
      some true
    else
      (m_laws_toBoard aB1).bind fun y27 =>
      (m_laws_toTurnS aList5).bind fun y35 =>
      (m_spec_ReplayTurns y27 y35).bind fun y42 =>
      (m_laws_toTurnS aList5).bind fun y58 =>
      (m_laws_toBoard aB1).bind fun y65 =>
      (m_impl_ReplayTurns y65 y58).bind fun y73 =>
      (
          (m_laws_eqBoard y73.1 y42.1).bind fun y93 =>
          bif !y93 then
            some true
          else
            some (y73.2 != y42.2) : Option Bool).bind fun t89 =>
      bif t89 then
        some false
      else
        (m_laws_toTurnS aList5).bind fun y103 =>
        (m_laws_eqTurnS y58 y103).bind fun y110 =>
        bif !y110 then
          some false
        else
          some true

noncomputable def m_spec_l01Split_l1 (s1 : Str) (by_3 : UInt8) (xs14 : (List Str)) (n17 : Int) (n19 : Int) : Option (((List Str) × Int × Int) ⊕ ((List Str) × Int)) :=
  bif decide (n19 < (s1.length : Int)) then
    (
        (getL s1 n19).bind fun c40 =>
        bif c40 == by_3 then
          (subL s1 n17 n19).bind fun s43 =>
          (catL xs14 ([s43] : (List Str))).bind fun xs48 =>
          (chk (n19 + 1)).bind fun z55 =>
          some (xs48, z55)
        else
          some (xs14, n17) : Option ((List Str) × Int)).bind fun x38 =>
    match x38 with
    | (xs33, n36) =>
      (chk (n19 + 1)).bind fun z60 =>
      some (.inl (xs33, n36, z60))
  else
    some (.inr (xs14, n17))

noncomputable def m_spec_l01Split (s1 : Str) (by_3 : UInt8) : Option (List Str) :=
  (
      (loopM (fun s : (List Str) × Int × Int => m_spec_l01Split_l1 s1 by_3 s.1 s.2.1 s.2.2) (([] : (List Str)), 0, 0)).bind fun x27 =>
      match x27 with
      | (xs22, n25) =>
        some (xs22, n25) : Option ((List Str) × Int)).bind fun x12 =>
  match x12 with
  | (xs7, n10) =>
    (subL s1 n10 (s1.length : Int)).bind fun s68 =>
    (catL xs7 ([s68] : (List Str))).bind fun xs73 =>
    some xs73

noncomputable def m_spec_l12Plain (p1 : Play) : Option Bool :=
  (
      (m_spec_l00In p1.Row 0 14).bind fun y13 =>
      bif y13 then
        (m_spec_l00In p1.Col 0 14).bind fun y19 =>
        bif y19 then
          (m_spec_l12Word p1.Word).bind fun y25 =>
          some y25
        else
          some false
      else
        some false : Option Bool).bind fun t9 =>
  some t9

noncomputable def m_spec_l24Plain (x1 : Turn) : Option Bool :=
  bif x1.Pass then
    (
        (m_spec_l03Rack x1.Rack).bind fun y23 =>
        bif y23 then
          some (x1.Play == (⟨0, 0, false, ([] : Str)⟩ : Play))
        else
          some false : Option Bool).bind fun zero18 =>
    some zero18
  else
    (
        (m_spec_l03Rack x1.Rack).bind fun y36 =>
        bif y36 then
          (m_spec_l12Plain x1.Play).bind fun y42 =>
          some y42
        else
          some false : Option Bool).bind fun zero32 =>
    some zero32

noncomputable def m_spec_l01Digit (c1 : UInt8) : Option Bool :=
  (
      bif decide (48 ≤ c1) then
        some (decide (c1 ≤ 57))
      else
        some false : Option Bool).bind fun t2 =>
  some t2

noncomputable def m_spec_l01Dec_l1 (xs11 : Str) (d14 : Int) : Option ((Str × Int) ⊕ Str) :=
  bif d14 != 0 then
    (remI d14 10).bind fun z26 =>
    (
        bif decide (z26 < 0) then
          (chk (-z26)).bind fun z33 =>
          some z33
        else
          some z26 : Option Int).bind fun n28 =>
    (chk (48 + n28)).bind fun z38 =>
    (catL ([UInt8.ofNat (z38 % 256).toNat] : Str) xs11).bind fun xs43 =>
    (quoI d14 10).bind fun z50 =>
    some (.inl (xs43, z50))
  else
    some (.inr xs11)

noncomputable def m_spec_l01Dec (n1 : Int) : Option Str :=
  (
      (loopM (fun s : Str × Int => m_spec_l01Dec_l1 s.1 s.2) (([] : Str), n1)).bind fun xs17 =>
      some xs17 : Option Str).bind fun xs6 =>
  bif (xs6.length : Int) == 0 then
    some ([48] : Str)
  else
    bif decide (n1 < 0) then
      (catL ([45] : Str) xs6).bind fun s62 =>
      some s62
    else
      some xs6

noncomputable def m_spec_l01Number_l1 (n3 : Str) (i36 : Int) (n38 : Int) : Option ((Int × Int) ⊕ (Int ⊕ (Int × Bool))) :=
  bif decide (n38 < (n3.length : Int)) then
    (getL n3 n38).bind fun c49 =>
    (m_spec_l01Digit c49).bind fun y51 =>
    bif !y51 then
      some (.inr (.inr (0, false)))
    else
      (chk (10 * i36)).bind fun z57 =>
      (getL n3 n38).bind fun c59 =>
      (chk (z57 + ((c59 - 48).toNat : Int))).bind fun z61 =>
      (chk (n38 + 1)).bind fun z63 =>
      some (.inl (z61, z63))
  else
    some (.inr (.inl i36))

noncomputable def m_spec_l01Number (s1 : Str) : Option (Int × Bool) :=
  (
      (
          bif s1 != ([] : Str) then
            (getL s1 0).bind fun c12 =>
            some (c12 == 45)
          else
            some false : Option Bool).bind fun t7 =>
      bif t7 then
        (subL s1 1 (s1.length : Int)).bind fun s18 =>
        some s18
      else
        some s1 : Option Str).bind fun n3 =>
  (
      bif decide ((n3.length : Int) < 1) then
        some true
      else
        some (decide (18 < (n3.length : Int))) : Option Bool).bind fun t23 =>
  bif t23 then
    some (0, false)
  else
    (
        (loopM (fun s : Int × Int => m_spec_l01Number_l1 n3 s.1 s.2) (0, 0)).bind fun x43 =>
        match x43 with
        | .inl i41 =>
          some (.inl i41)
        | .inr r69 =>
          some (.inr r69) : Option (Int ⊕ (Int × Bool))).bind fun x34 =>
    match x34 with
    | .inl i32 =>
      (
          bif decide ((n3.length : Int) < (s1.length : Int)) then
            (chk (-i32)).bind fun z77 =>
            some z77
          else
            some i32 : Option Int).bind fun i72 =>
      (m_spec_l01Dec i72).bind fun y82 =>
      bif y82 != s1 then
        some (0, false)
      else
        some (i72, true)
    | .inr r89 =>
      some r89

noncomputable def m_spec_l12Read (s1 : Str) : Option (Play × Bool) :=
  (m_spec_l01Split s1 32).bind fun y7 =>
  (
      bif (y7.length : Int) != 2 then
        some true
      else
        (getL y7 0).bind fun e21 =>
        some (decide ((e21.length : Int) < 2)) : Option Bool).bind fun t14 =>
  bif t14 then
    some ((⟨0, 0, false, ([] : Str)⟩ : Play), false)
  else
    (getL y7 0).bind fun e37 =>
    (getL y7 1).bind fun e47 =>
    (getL e37 0).bind fun c56 =>
    (m_spec_l01Small c56).bind fun y58 =>
    (chk ((e37.length : Int) - 1)).bind fun z77 =>
    (getL e37 z77).bind fun c79 =>
    (chk ((e37.length : Int) - 1)).bind fun z81 =>
    (subL e37 0 z81).bind fun s83 =>
    (
        bif y58 then
          (getL e37 0).bind fun c92 =>
          (subL e37 1 (e37.length : Int)).bind fun s94 =>
          some (c92, s94)
        else
          some (c79, s83) : Option (UInt8 × Str)).bind fun x89 =>
    match x89 with
    | (digits85, row87) =>
      (m_spec_l01Number row87).bind fun y99 =>
      (chk (y99.1 - 1)).bind fun z105 =>
      (chk ((digits85.toNat : Int) - 97)).bind fun z110 =>
      (
          bif !y99.2 then
            some true
          else
            (m_spec_l12Plain (⟨z105, z110, y58, e47⟩ : Play)).bind fun y121 =>
            some (!y121) : Option Bool).bind fun t115 =>
      bif t115 then
        some ((⟨0, 0, false, ([] : Str)⟩ : Play), false)
      else
        some ((⟨z105, z110, y58, e47⟩ : Play), true)

noncomputable def m_spec_l24Read (s1 : Str) : Option (Turn × Bool) :=
  (m_spec_l01Split s1 32).bind fun y7 =>
  (getL y7 0).bind fun e14 =>
  (
      (getL y7 0).bind fun e34 =>
      bif e34 == ([45] : Str) then
        some ([] : Str)
      else
        some e14 : Option Str).bind fun s30 =>
  (getL y7 0).bind fun e50 =>
  bif e50 == ([] : Str) then
    some ((⟨([] : Str), false, ⟨0, 0, false, ([] : Str)⟩⟩ : Turn), false)
  else
    (
        bif (y7.length : Int) == 2 then
          (getL y7 1).bind fun e70 =>
          some (e70 == ([112, 97, 115, 115] : Str))
        else
          some false : Option Bool).bind fun t64 =>
    bif t64 then
      (m_spec_l24Plain (⟨s30, true, ⟨0, 0, false, ([] : Str)⟩⟩ : Turn)).bind fun y87 =>
      some ((⟨s30, true, ⟨0, 0, false, ([] : Str)⟩⟩ : Turn), y87)
    else
      bif (y7.length : Int) != 3 then
        some ((⟨([] : Str), false, ⟨0, 0, false, ([] : Str)⟩⟩ : Turn), false)
      else
        (getL y7 1).bind fun e103 =>
        (catL e103 ([32] : Str)).bind fun s112 =>
        (getL y7 2).bind fun e114 =>
        (catL s112 e114).bind fun s123 =>
        (m_spec_l12Read s123).bind fun y125 =>
        (
            bif y125.2 then
              (m_spec_l24Plain (⟨s30, false, ⟨y125.1.Row, y125.1.Col, y125.1.Down, y125.1.Word⟩⟩ : Turn)).bind fun y169 =>
              some (s30, y125.1.Row, y125.1.Col, y125.1.Down, y125.1.Word, y169)
            else
              some (s30, y125.1.Row, y125.1.Col, y125.1.Down, y125.1.Word, false) : Option (Str × Int × Int × Bool × Str × Bool)).bind fun x165 =>
        match x165 with
        | (s153, n155, n157, t159, s161, w163) =>
          some ((⟨s153, false, ⟨n155, n157, t159, s161⟩⟩ : Turn), w163)

noncomputable def m_spec_ReadTurn (s1 : Str) : Option (Turn × Bool) :=
  (m_spec_l24Read s1).bind fun y7 =>
  bif !y7.2 then
    some ((⟨([] : Str), false, ⟨0, 0, false, ([] : Str)⟩⟩ : Turn), false)
  else
    some (y7.1, true)

noncomputable def m_internal_bytealg_Cutover (n1 : Int) : Option Int :=
  (chk (n1 + 16)).bind fun z3 =>
  (quoI z3 8).bind fun z5 =>
  some z5

noncomputable def m_impl_undashed (s1 : Str) : Option Str :=
  bif s1 == ([45] : Str) then
    some ([] : Str)
  else
    some s1

noncomputable def m_internal_stringslite_HasPrefix (s1 : Str) (prefix_3 : Str) : Option Bool :=
  (
      bif decide ((prefix_3.length : Int) ≤ (s1.length : Int)) then
        (subL s1 0 (prefix_3.length : Int)).bind fun s10 =>
        some (s10 == prefix_3)
      else
        some false : Option Bool).bind fun t5 =>
  some t5

noncomputable def m_internal_stringslite_TrimPrefix (s1 : Str) (prefix_3 : Str) : Option Str :=
  (m_internal_stringslite_HasPrefix s1 prefix_3).bind fun y5 =>
  bif y5 then
    (subL s1 (prefix_3.length : Int) (s1.length : Int)).bind fun s11 =>
    some s11
  else
    some s1

noncomputable def m_strings_TrimPrefix (s1 : Str) (prefix_3 : Str) : Option Str :=
  (m_internal_stringslite_TrimPrefix s1 prefix_3).bind fun y5 =>
  some y5

noncomputable def m_internal_strconv_small (i1 : Int) : Option Str :=
  bif decide (i1 < 10) then
    (chk (i1 + 1)).bind fun z4 =>
    (subL ([48, 49, 50, 51, 52, 53, 54, 55, 56, 57, 97, 98, 99, 100, 101, 102, 103, 104, 105, 106, 107, 108, 109, 110, 111, 112, 113, 114, 115, 116, 117, 118, 119, 120, 121, 122] : Str) i1 z4).bind fun s6 =>
    some s6
  else
    (chk (i1 * 2)).bind fun z8 =>
    (chk (i1 * 2)).bind fun z10 =>
    (chk (z10 + 2)).bind fun z12 =>
    (subL ((48 :: 48 :: 48 :: 49 :: 48 :: 50 :: 48 :: 51 :: 48 :: 52 :: 48 :: 53 :: 48 :: 54 :: 48 :: 55 :: 48 :: 56 :: 48 :: 57 :: 49 :: 48 :: 49 :: 49 :: 49 :: 50 :: 49 :: 51 :: 49 :: 52 :: 49 :: 53 :: 49 :: 54 :: 49 :: 55 :: 49 :: 56 :: 49 :: 57 :: 50 :: 48 :: 50 :: 49 :: 50 :: 50 :: 50 :: 51 :: 50 :: 52 :: 50 :: 53 :: 50 :: 54 :: 50 :: 55 :: 50 :: 56 :: 50 :: 57 :: 51 :: 48 :: 51 :: 49 :: 51 :: 50 :: 51 :: 51 :: 51 :: 52 :: 51 :: 53 :: 51 :: 54 :: 51 :: 55 :: 51 :: 56 :: 51 :: 57 :: 52 :: 48 :: 52 :: 49 :: 52 :: 50 :: 52 :: 51 :: 52 :: 52 :: 52 :: 53 :: 52 :: 54 :: 52 :: 55 :: 52 :: 56 :: 52 :: 57 :: 53 :: 48 :: 53 :: 49 :: 53 :: 50 :: 53 :: 51 :: 53 :: 52 :: 53 :: 53 :: 53 :: 54 :: 53 :: 55 :: 53 :: 56 :: 53 :: 57 :: 54 :: 48 :: 54 :: 49 :: 54 :: 50 :: 54 :: 51 :: 54 :: 52 :: 54 :: 53 :: 54 :: 54 :: 54 :: 55 :: 54 :: 56 :: 54 :: 57 :: 55 :: 48 :: 55 :: 49 :: 55 :: 50 :: 55 :: 51 :: 55 :: 52 :: 55 :: 53 :: 55 :: 54 :: 55 :: 55 :: 55 :: 56 :: 55 :: 57 :: 56 :: 48 :: 56 :: 49 :: 56 :: 50 :: 56 :: 51 :: 56 :: 52 :: 56 :: 53 :: 56 :: 54 :: 56 :: 55 :: 56 :: 56 :: 56 :: 57 :: 57 :: 48 :: 57 :: 49 :: 57 :: 50 :: 57 :: 51 :: 57 :: 52 :: 57 :: 53 :: 57 :: 54 :: 57 :: 55 :: 57 :: 56 :: 57 :: 57 :: []) : Str) z8 z12).bind fun s14 =>
    some s14

noncomputable def m_internal_strconv_bool2_int (b1 : Bool) : Option Int :=
  bif b1 then
    some 1
  else
    some 0

noncomputable def m_impl_dashed (s1 : Str) : Option Str :=
  bif s1 == ([] : Str) then
    some ([45] : Str)
  else
    some s1

noncomputable def m_strings_Builder_WriteString (b1 : Str) (s7 : Str) : Option (Int × Unit × Str) :=
  (m_strings_Builder_copyCheck b1).bind fun y9 =>
  (catL y9 s7).bind fun xs18 =>
  some ((s7.length : Int), (), xs18)

noncomputable def m_spec_l20Action (a1 : Action) : Option Bool :=
  (m_spec_l00In a1.Seconds 0 36000).bind fun y12 =>
  bif !y12 then
    some false
  else
    bif a1.Kind == 1 then
      (
          (m_spec_l12Plain a1.Play).bind fun y30 =>
          bif y30 then
            some (a1.Tiles == ([] : Str))
          else
            some false : Option Bool).bind fun none26 =>
      some none26
    else
      bif a1.Kind == 2 then
        (
            bif a1.Play == (⟨0, 0, false, ([] : Str)⟩ : Play) then
              bif a1.Tiles != ([] : Str) then
                (m_spec_l03Rack a1.Tiles).bind fun y47 =>
                some y47
              else
                some false
            else
              some false : Option Bool).bind fun none40 =>
        some none40
      else
        (
            bif a1.Kind == 3 then
              some (a1.Kind == 3)
            else
              some (a1.Kind == 4) : Option Bool).bind fun t56 =>
        bif t56 then
          (
              bif a1.Play == (⟨0, 0, false, ([] : Str)⟩ : Play) then
                some (a1.Tiles == ([] : Str))
              else
                some false : Option Bool).bind fun none65 =>
          some none65
        else
          some false

noncomputable def m_spec_l20Read (s1 : Str) : Option (Action × Bool) :=
  (m_spec_l01Split s1 32).bind fun y7 =>
  (
      (
          (getL y7 0).bind fun e41 =>
          bif e41 == ([112, 108, 97, 121] : Str) then
            some ((y7.length : Int) == 4)
          else
            some false : Option Bool).bind fun t37 =>
      bif t37 then
        (getL y7 1).bind fun e60 =>
        (catL e60 ([32] : Str)).bind fun s69 =>
        (getL y7 2).bind fun e71 =>
        (catL s69 e71).bind fun s80 =>
        (m_spec_l12Read s80).bind fun y82 =>
        some (1, y82.1.Row, y82.1.Col, y82.1.Down, y82.1.Word, ([] : Str), y82.2)
      else
        (
            (getL y7 0).bind fun e98 =>
            bif e98 == ([101, 120, 99, 104, 97, 110, 103, 101] : Str) then
              some ((y7.length : Int) == 3)
            else
              some false : Option Bool).bind fun t94 =>
        bif t94 then
          (getL y7 1).bind fun e113 =>
          some (2, 0, 0, false, ([] : Str), e113, true)
        else
          (
              (getL y7 0).bind fun e130 =>
              bif e130 == ([112, 97, 115, 115] : Str) then
                some ((y7.length : Int) == 2)
              else
                some false : Option Bool).bind fun t126 =>
          bif t126 then
            some (3, 0, 0, false, ([] : Str), ([] : Str), true)
          else
            (
                (getL y7 0).bind fun e153 =>
                bif e153 == ([99, 104, 97, 108, 108, 101, 110, 103, 101] : Str) then
                  some ((y7.length : Int) == 2)
                else
                  some false : Option Bool).bind fun t149 =>
            bif t149 then
              some (4, 0, 0, false, ([] : Str), ([] : Str), true)
            else
              some (0, 0, 0, false, ([] : Str), ([] : Str), false) : Option (Int × Int × Int × Bool × Str × Str × Bool)).bind fun x35 =>
  match x35 with
  | (n21, n23, n25, t27, s29, s31, n33) =>
    (chk ((y7.length : Int) - 1)).bind fun z175 =>
    (getL y7 z175).bind fun e177 =>
    (m_spec_l01Number e177).bind fun y186 =>
    (
        bif !n33 then
          some true
        else
          bif !y186.2 then
            some true
          else
            (m_spec_l20Action (⟨n21, ⟨n23, n25, t27, s29⟩, s31, y186.1⟩ : Action)).bind fun y203 =>
            some (!y203) : Option Bool).bind fun t195 =>
    bif t195 then
      some ((⟨0, ⟨0, 0, false, ([] : Str)⟩, ([] : Str), 0⟩ : Action), false)
    else
      some ((⟨n21, ⟨n23, n25, t27, s29⟩, s31, y186.1⟩ : Action), true)

noncomputable def m_spec_ReadAction (s1 : Str) : Option (Action × Bool) :=
  (m_spec_l20Read s1).bind fun y7 =>
  some (y7.1, y7.2)

noncomputable def m_impl_joined (words1 : (List Str)) : Option Str :=
  (m_strings_Join words1 ([32] : Str)).bind fun y5 =>
  some y5

noncomputable def m_impl_ReadAction_2 (p1 : Action) (p9 : (List Str)) : Option Action :=
  bif (p9.length : Int) == 3 then
    (getL p9 1).bind fun e22 =>
    some (⟨2, ⟨p1.Play.Row, p1.Play.Col, p1.Play.Down, p1.Play.Word⟩, e22, p1.Seconds⟩ : Action)
  else
    some (⟨2, ⟨p1.Play.Row, p1.Play.Col, p1.Play.Down, p1.Play.Word⟩, p1.Tiles, p1.Seconds⟩ : Action)

noncomputable def m_impl_ReadAction_3 (p1 : Action) : Option Action :=
  some (⟨3, ⟨p1.Play.Row, p1.Play.Col, p1.Play.Down, p1.Play.Word⟩, p1.Tiles, p1.Seconds⟩ : Action)

noncomputable def m_impl_ReadAction_4 (p1 : Action) : Option Action :=
  some (⟨4, ⟨p1.Play.Row, p1.Play.Col, p1.Play.Down, p1.Play.Word⟩, p1.Tiles, p1.Seconds⟩ : Action)

noncomputable def m_laws_eqAction (a1 : Action) (b8 : Action) : Option Bool :=
  bif a1.Kind != b8.Kind then
    some false
  else
    (m_laws_eqPlay a1.Play b8.Play).bind fun y24 =>
    bif !y24 then
      some false
    else
      bif a1.Tiles != b8.Tiles then
        some false
      else
        bif a1.Seconds != b8.Seconds then
          some false
        else
          some true

noncomputable def m_spec_l20Ok_l1 (r1 : Record) (n7 : Int) : Option (Int ⊕ (Unit ⊕ Bool)) :=
  bif decide (n7 < (r1.Actions.length : Int)) then
    (getL r1.Actions n7).bind fun e22 =>
    (m_spec_l20Action e22).bind fun y36 =>
    bif !y36 then
      some (.inr (.inr false))
    else
      (chk (n7 + 1)).bind fun z42 =>
      some (.inl z42)
  else
    some (.inr (.inl ()))

noncomputable def m_spec_l20Ok (r1 : Record) : Option Bool :=
  (
      (loopM (fun s : Int => m_spec_l20Ok_l1 r1 s) 0).bind fun x10 =>
      match x10 with
      | .inl _ =>
        some (.inl ())
      | .inr r48 =>
        some (.inr r48) : Option (Unit ⊕ Bool)).bind fun x5 =>
  match x5 with
  | .inl _ =>
    (
        (m_spec_l00In r1.Seed 0 2147483647).bind fun y60 =>
        bif y60 then
          some (decide ((r1.Actions.length : Int) ≤ 200))
        else
          some false : Option Bool).bind fun i51 =>
    some i51
  | .inr r70 =>
    some r70

noncomputable def m_spec_ReadRecord_l1 (y7 : (List Str)) (xs108 : (List Action)) (a111 : Int) : Option (((List Action) × Int) ⊕ ((List Action) ⊕ (Record × Bool))) :=
  (chk ((y7.length : Int) - 1)).bind fun z123 =>
  bif decide (a111 < z123) then
    (getL y7 a111).bind fun e126 =>
    (m_spec_l20Read e126).bind fun y135 =>
    bif !y135.2 then
      some (.inr (.inr ((⟨0, ([] : (List Action))⟩ : Record), false)))
    else
      (catL xs108 ([y135.1] : (List Action))).bind fun xs163 =>
      (chk (a111 + 1)).bind fun z173 =>
      some (.inl (xs163, z173))
  else
    some (.inr (.inl xs108))

noncomputable def m_spec_ReadRecord (s1 : Str) : Option (Record × Bool) :=
  (m_spec_l01Split s1 10).bind fun y7 =>
  (getL y7 0).bind fun e14 =>
  (m_spec_l01Split e14 32).bind fun y23 =>
  (chk ((y23.length : Int) - 1)).bind fun z31 =>
  (getL y23 z31).bind fun e33 =>
  (m_spec_l01Number e33).bind fun y42 =>
  (
      bif !y42.2 then
        some true
      else
        bif (y23.length : Int) != 2 then
          some true
        else
          (getL y23 0).bind fun e57 =>
          bif e57 != ([115, 101, 101, 100] : Str) then
            some true
          else
            bif decide ((y7.length : Int) < 2) then
              some true
            else
              bif decide (202 < (y7.length : Int)) then
                some true
              else
                (chk ((y7.length : Int) - 1)).bind fun z75 =>
                (getL y7 z75).bind fun e77 =>
                some (e77 != ([] : Str)) : Option Bool).bind fun t48 =>
  bif t48 then
    some ((⟨0, ([] : (List Action))⟩ : Record), false)
  else
    (
        (loopM (fun s : (List Action) × Int => m_spec_ReadRecord_l1 y7 s.1 s.2) (([] : (List Action)), 1)).bind fun x117 =>
        match x117 with
        | .inl xs114 =>
          some (.inl (([] : (List Action)), xs114))
        | .inr r179 =>
          some (.inr r179) : Option (((List Action) × (List Action)) ⊕ (Record × Bool))).bind fun x106 =>
    match x106 with
    | .inl (l100, l103) =>
      (m_spec_l20Ok (⟨y42.1, l103⟩ : Record)).bind fun y182 =>
      bif !y182 then
        some ((⟨0, ([] : (List Action))⟩ : Record), false)
      else
        some ((⟨y42.1, l103⟩ : Record), true)
    | .inr r196 =>
      some r196

noncomputable def m_internal_stringslite_HasSuffix (s1 : Str) (suffix3 : Str) : Option Bool :=
  (
      bif decide ((suffix3.length : Int) ≤ (s1.length : Int)) then
        (chk ((s1.length : Int) - (suffix3.length : Int))).bind fun z10 =>
        (subL s1 z10 (s1.length : Int)).bind fun s12 =>
        some (s12 == suffix3)
      else
        some false : Option Bool).bind fun t5 =>
  some t5

noncomputable def m_internal_stringslite_CutSuffix (s1 : Str) (suffix3 : Str) : Option (Str × Bool) :=
  (m_internal_stringslite_HasSuffix s1 suffix3).bind fun y5 =>
  bif !y5 then
    some (s1, false)
  else
    (chk ((s1.length : Int) - (suffix3.length : Int))).bind fun z11 =>
    (subL s1 0 z11).bind fun s13 =>
    some (s13, true)

noncomputable def m_strings_CutSuffix (s1 : Str) (suffix3 : Str) : Option (Str × Bool) :=
  (m_internal_stringslite_CutSuffix s1 suffix3).bind fun y5 =>
  some (y5.1, y5.2)

noncomputable def m_impl_linesOf (s1 : Str) : Option ((List Str) × Bool) :=
  bif s1 == ([] : Str) then
    some (([] : (List Str)), true)
  else
    (m_strings_CutSuffix s1 ([10] : Str)).bind fun y7 =>
    (m_strings_Split y7.1 ([10] : Str)).bind fun y13 =>
    some (y13, y7.2)

noncomputable def m_laws_eqActionS_l1 (a1 : (List Action)) (b5 : (List Action)) (n14 : Int) : Option (Int ⊕ (Unit ⊕ Bool)) :=
  bif decide (n14 < (a1.length : Int)) then
    (getL a1 n14).bind fun e25 =>
    (getL b5 n14).bind fun e39 =>
    (m_laws_eqAction e25 e39).bind fun y53 =>
    bif !y53 then
      some (.inr (.inr false))
    else
      (chk (n14 + 1)).bind fun z59 =>
      some (.inl z59)
  else
    some (.inr (.inl ()))

noncomputable def m_laws_eqActionS (a1 : (List Action)) (b5 : (List Action)) : Option Bool :=
  bif (a1.length : Int) != (b5.length : Int) then
    some false
  else
    (
        (loopM (fun s : Int => m_laws_eqActionS_l1 a1 b5 s) 0).bind fun x17 =>
        match x17 with
        | .inl _ =>
          some (.inl ())
        | .inr r65 =>
          some (.inr r65) : Option (Unit ⊕ Bool)).bind fun x12 =>
    match x12 with
    | .inl _ =>
      some true
    | .inr r68 =>
      some r68

noncomputable def m_laws_eqRecord (a1 : Record) (b6 : Record) : Option Bool :=
  bif a1.Seed != b6.Seed then
    some false
  else
    (m_laws_eqActionS a1.Actions b6.Actions).bind fun y20 =>
    bif !y20 then
      some false
    else
      some true

noncomputable def m_laws_markText_l1 (k8 : Int) (s10 : Str) : Option ((Int × Str) ⊕ Str) :=
  bif decide (0 < k8) then
    (remI k8 10).bind fun z21 =>
    (chk (48 + z21)).bind fun z23 =>
    (catL ([UInt8.ofNat (z23 % 256).toNat] : Str) s10).bind fun s29 =>
    (quoI k8 10).bind fun z31 =>
    some (.inl (z31, s29))
  else
    some (.inr s10)

noncomputable def m_laws_markText (k1 : Int) : Option Str :=
  bif decide (k1 ≤ 0) then
    some ([109, 48] : Str)
  else
    (
        (loopM (fun s : Int × Str => m_laws_markText_l1 s.1 s.2) (k1, ([] : Str))).bind fun s13 =>
        some s13 : Option Str).bind fun s4 =>
    (catL ([109] : Str) s4).bind fun s39 =>
    some s39

noncomputable def m_laws_markActionS_l1 (xs12 : (List Action)) (k14 : Int) (n16 : Int) : Option (((List Action) × Int × Int) ⊕ ((List Action) × Int)) :=
  bif decide (n16 < (xs12.length : Int)) then
    (getL xs12 n16).bind fun e30 =>
    (setL xs12 n16 (⟨k14, ⟨e30.Play.Row, e30.Play.Col, e30.Play.Down, e30.Play.Word⟩, e30.Tiles, e30.Seconds⟩ : Action)).bind fun xs45 =>
    (chk (k14 + 1)).bind fun z47 =>
    (getL xs45 n16).bind fun e49 =>
    (setL xs45 n16 (⟨e49.Kind, ⟨z47, e49.Play.Col, e49.Play.Down, e49.Play.Word⟩, e49.Tiles, e49.Seconds⟩ : Action)).bind fun xs64 =>
    (chk (z47 + 1)).bind fun z66 =>
    (getL xs64 n16).bind fun e68 =>
    (setL xs64 n16 (⟨e68.Kind, ⟨e68.Play.Row, z66, e68.Play.Down, e68.Play.Word⟩, e68.Tiles, e68.Seconds⟩ : Action)).bind fun xs83 =>
    (chk (z66 + 1)).bind fun z85 =>
    (remI z85 3).bind fun z87 =>
    (getL xs83 n16).bind fun e89 =>
    (setL xs83 n16 (⟨e89.Kind, ⟨e89.Play.Row, e89.Play.Col, z87 == 0, e89.Play.Word⟩, e89.Tiles, e89.Seconds⟩ : Action)).bind fun xs104 =>
    (chk (z85 + 1)).bind fun z106 =>
    (m_laws_markText z106).bind fun y108 =>
    (getL xs104 n16).bind fun e114 =>
    (setL xs104 n16 (⟨e114.Kind, ⟨e114.Play.Row, e114.Play.Col, e114.Play.Down, y108⟩, e114.Tiles, e114.Seconds⟩ : Action)).bind fun xs129 =>
    (chk (z106 + 1)).bind fun z131 =>
    (m_laws_markText z131).bind fun y133 =>
    (getL xs129 n16).bind fun e139 =>
    (setL xs129 n16 (⟨e139.Kind, ⟨e139.Play.Row, e139.Play.Col, e139.Play.Down, e139.Play.Word⟩, y133, e139.Seconds⟩ : Action)).bind fun xs154 =>
    (chk (z131 + 1)).bind fun z156 =>
    (getL xs154 n16).bind fun e158 =>
    (setL xs154 n16 (⟨e158.Kind, ⟨e158.Play.Row, e158.Play.Col, e158.Play.Down, e158.Play.Word⟩, e158.Tiles, z156⟩ : Action)).bind fun xs173 =>
    (chk (z156 + 1)).bind fun z175 =>
    (chk (n16 + 1)).bind fun z177 =>
    some (.inl (xs173, z175, z177))
  else
    some (.inr (xs12, k14))

noncomputable def m_laws_markActionS (a1 : (List Action)) (k4 : Int) : Option (Int × (List Action)) :=
  (
      (loopM (fun s : (List Action) × Int × Int => m_laws_markActionS_l1 s.1 s.2.1 s.2.2) (a1, k4, 0)).bind fun x23 =>
      match x23 with
      | (xs19, k21) =>
        some (xs19, k21) : Option ((List Action) × Int)).bind fun x10 =>
  match x10 with
  | (xs6, k8) =>
    some (k8, xs6)

noncomputable def m_laws_markRecord (a1 : Record) (k5 : Int) : Option (Int × (List Action)) :=
  (m_laws_markActionS a1.Actions k5).bind fun y11 =>
  some (y11.1, y11.2)

noncomputable def m_laws_heldActionS_l1 (a1 : (List Action)) (k11 : Int) (n13 : Int) : Option ((Int × Int) ⊕ (Int ⊕ Int)) :=
  bif decide (n13 < (a1.length : Int)) then
    (getL a1 n13).bind fun e25 =>
    bif e25.Kind != k11 then
      some (.inr (.inr (-1)))
    else
      (chk (k11 + 1)).bind fun z40 =>
      (getL a1 n13).bind fun e42 =>
      bif e42.Play.Row != z40 then
        some (.inr (.inr (-1)))
      else
        (chk (z40 + 1)).bind fun z57 =>
        (getL a1 n13).bind fun e59 =>
        bif e59.Play.Col != z57 then
          some (.inr (.inr (-1)))
        else
          (chk (z57 + 1)).bind fun z74 =>
          (getL a1 n13).bind fun e76 =>
          (remI z74 3).bind fun z90 =>
          bif e76.Play.Down != (z90 == 0) then
            some (.inr (.inr (-1)))
          else
            (chk (z74 + 1)).bind fun z93 =>
            (getL a1 n13).bind fun e96 =>
            (m_laws_markText z93).bind fun y110 =>
            bif e96.Play.Word != y110 then
              some (.inr (.inr (-1)))
            else
              (chk (z93 + 1)).bind fun z117 =>
              (getL a1 n13).bind fun e120 =>
              (m_laws_markText z117).bind fun y134 =>
              bif e120.Tiles != y134 then
                some (.inr (.inr (-1)))
              else
                (chk (z117 + 1)).bind fun z141 =>
                (getL a1 n13).bind fun e143 =>
                bif e143.Seconds != z141 then
                  some (.inr (.inr (-1)))
                else
                  (chk (z141 + 1)).bind fun z158 =>
                  (chk (n13 + 1)).bind fun z160 =>
                  some (.inl (z158, z160))
  else
    some (.inr (.inl k11))

noncomputable def m_laws_heldActionS (a1 : (List Action)) (k5 : Int) : Option Int :=
  (
      (loopM (fun s : Int × Int => m_laws_heldActionS_l1 a1 s.1 s.2) (k5, 0)).bind fun x18 =>
      match x18 with
      | .inl k16 =>
        some (.inl k16)
      | .inr r166 =>
        some (.inr r166) : Option (Int ⊕ Int)).bind fun x9 =>
  match x9 with
  | .inl k7 =>
    some k7
  | .inr r169 =>
    some r169

noncomputable def m_laws_heldRecord (a1 : Record) (k6 : Int) : Option Int :=
  (m_laws_heldActionS a1.Actions k6).bind fun y12 =>
  bif decide (y12 < 0) then
    some (-1)
  else
    some y12

noncomputable def m_unicode_utf8_RuneCountInString_l1 (s1 : Str) (pos10 : Nat) (n11 : Int) : Option ((Nat × Int) ⊕ (Nat × Int)) :=
  bif decide (pos10 < s1.length) then
    (chk (n11 + 1)).bind fun z25 =>
    some (.inl (pos10 + runeW s1 pos10, z25))
  else
    some (.inr (pos10, n11))

noncomputable def m_unicode_utf8_RuneCountInString (s1 : Str) : Option Int :=
  (
      (loopM (fun s : Nat × Int => m_unicode_utf8_RuneCountInString_l1 s1 s.1 s.2) (0, 0)).bind fun x17 =>
      match x17 with
      | (pos14, n15) =>
        some n15 : Option Int).bind fun n3 =>
  some n3

noncomputable def m_unicode_utf8_RuneLen (r1 : Int) : Option Int :=
  bif decide (r1 < 0) then
    some (-1)
  else
    bif decide (r1 ≤ 127) then
      some 1
    else
      bif decide (r1 ≤ 2047) then
        some 2
      else
        (
            bif decide (55296 ≤ r1) then
              some (decide (r1 ≤ 57343))
            else
              some false : Option Bool).bind fun t6 =>
        bif t6 then
          some (-1)
        else
          bif decide (r1 ≤ 65535) then
            some 3
          else
            bif decide (r1 ≤ 1114111) then
              some 4
            else
              some (-1)

end Go.Proofs.YtbekokenomhgeaaGreatDoor
