/- The models of the program's functions. Printed by gen.py. -/
import Derived.Test.YtbekokenomhgeaaDoorTyp
import Derived.Test.YtbekokenomhgeaaDoorEngM
import Derived.Test.YtbekokenomhgeaaDoorEngN
namespace Go.Proofs.YtbekokenomhgeaaDoor
open Go Go.RowKit
set_option linter.unusedSimpArgs false
set_option linter.unusedVariables false

noncomputable def m_laws_szPlay (a1 : Play) (left5 : Int) : Option Int :=
  (chk (left5 - (a1.Word.length : Int))).bind fun z11 =>
  bif decide (z11 < 0) then
    some (-1)
  else
    some z11

noncomputable def m_laws_szTurn (a1 : Turn) (left6 : Int) : Option Int :=
  (chk (left6 - (a1.Rack.length : Int))).bind fun z12 =>
  bif decide (z12 < 0) then
    some (-1)
  else
    (m_laws_szPlay a1.Play z12).bind fun y15 =>
    bif decide (y15 < 0) then
      some (-1)
    else
      some y15

noncomputable def m_laws_toPlay (a1 : Play) : Option Play :=
  some a1

noncomputable def m_laws_toTurn (a1 : Turn) : Option Turn :=
  (m_laws_toPlay a1.Play).bind fun y24 =>
  some (⟨a1.Rack, a1.Pass, ⟨y24.Row, y24.Col, y24.Down, y24.Word⟩⟩ : Turn)

noncomputable def m_spec_l01Small (c1 : UInt8) : Option Bool :=
  (
      bif decide (97 ≤ c1) then
        some (decide (c1 ≤ 122))
      else
        some false : Option Bool).bind fun t2 =>
  some t2

noncomputable def m_spec_l03Tile (c1 : UInt8) : Option Bool :=
  (
      bif c1 == 63 then
        some true
      else
        (m_spec_l01Small c1).bind fun y8 =>
        some y8 : Option Bool).bind fun t2 =>
  some t2

noncomputable def m_spec_l03Pile_l1 (s1 : Str) (n5 : Int) : Option (Int ⊕ (Unit ⊕ Bool)) :=
  bif decide (n5 < (s1.length : Int)) then
    (
        (getL s1 n5).bind fun c19 =>
        (m_spec_l03Tile c19).bind fun y21 =>
        bif !y21 then
          some true
        else
          bif decide (0 < n5) then
            (getL s1 n5).bind fun c29 =>
            (chk (n5 - 1)).bind fun z31 =>
            (getL s1 z31).bind fun c33 =>
            some (decide (c29 < c33))
          else
            some false : Option Bool).bind fun t14 =>
    bif t14 then
      some (.inr (.inr false))
    else
      (chk (n5 + 1)).bind fun z39 =>
      some (.inl z39)
  else
    some (.inr (.inl ()))

noncomputable def m_spec_l03Pile (s1 : Str) : Option Bool :=
  (
      (loopM (fun s : Int => m_spec_l03Pile_l1 s1 s) 0).bind fun x8 =>
      match x8 with
      | .inl _ =>
        some (.inl ())
      | .inr r45 =>
        some (.inr r45) : Option (Unit ⊕ Bool)).bind fun x3 =>
  match x3 with
  | .inl _ =>
    some (decide ((s1.length : Int) ≤ 120))
  | .inr r48 =>
    some r48

noncomputable def m_spec_l03Rack (s1 : Str) : Option Bool :=
  (
      (m_spec_l03Pile s1).bind fun y7 =>
      bif y7 then
        some (decide ((s1.length : Int) ≤ 7))
      else
        some false : Option Bool).bind fun t3 =>
  some t3

noncomputable def m_spec_l00In (n1 : Int) (low3 : Int) (high5 : Int) : Option Bool :=
  (
      bif decide (low3 ≤ n1) then
        some (decide (n1 ≤ high5))
      else
        some false : Option Bool).bind fun t7 =>
  some t7

noncomputable def m_spec_l03Capital (c1 : UInt8) : Option Bool :=
  (
      bif decide (65 ≤ c1) then
        some (decide (c1 ≤ 90))
      else
        some false : Option Bool).bind fun t2 =>
  some t2

noncomputable def m_spec_l03Placed_l1 (word1 : Str) (n5 : Int) : Option (Int ⊕ (Unit ⊕ Bool)) :=
  bif decide (n5 < (word1.length : Int)) then
    (
        (getL word1 n5).bind fun c18 =>
        (m_spec_l01Small c18).bind fun y20 =>
        bif !y20 then
          (getL word1 n5).bind fun c26 =>
          (m_spec_l03Capital c26).bind fun y28 =>
          some (!y28)
        else
          some false : Option Bool).bind fun t14 =>
    bif t14 then
      some (.inr (.inr false))
    else
      (chk (n5 + 1)).bind fun z37 =>
      some (.inl z37)
  else
    some (.inr (.inl ()))

noncomputable def m_spec_l03Placed (word1 : Str) : Option Bool :=
  (
      (loopM (fun s : Int => m_spec_l03Placed_l1 word1 s) 0).bind fun x8 =>
      match x8 with
      | .inl _ =>
        some (.inl ())
      | .inr r43 =>
        some (.inr r43) : Option (Unit ⊕ Bool)).bind fun x3 =>
  match x3 with
  | .inl _ =>
    (m_spec_l00In (word1.length : Int) 1 12).bind fun y46 =>
    some y46
  | .inr r51 =>
    some r51

noncomputable def m_spec_l12Word (word1 : Str) : Option Bool :=
  (
      bif decide (1 < (word1.length : Int)) then
        (m_spec_l03Placed word1).bind fun y8 =>
        some y8
      else
        some false : Option Bool).bind fun t3 =>
  some t3

noncomputable def m_spec_l12Plain (p1 : Play) : Option Bool :=
  (
      (m_spec_l00In p1.Row 0 14).bind fun y13 =>
      bif y13 then
        (m_spec_l00In p1.Col 0 14).bind fun y19 =>
        bif y19 then
          (m_spec_l12Word p1.Word).bind fun y25 =>
          some y25
        else
          some false
      else
        some false : Option Bool).bind fun t9 =>
  some t9

noncomputable def m_spec_l24Plain (x1 : Turn) : Option Bool :=
  bif x1.Pass then
    (
        (m_spec_l03Rack x1.Rack).bind fun y23 =>
        bif y23 then
          some (x1.Play == (⟨0, 0, false, ([] : Str)⟩ : Play))
        else
          some false : Option Bool).bind fun zero18 =>
    some zero18
  else
    (
        (m_spec_l03Rack x1.Rack).bind fun y36 =>
        bif y36 then
          (m_spec_l12Plain x1.Play).bind fun y42 =>
          some y42
        else
          some false : Option Bool).bind fun zero32 =>
    some zero32

noncomputable def m_spec_l01Dec_l1 (xs11 : Str) (d14 : Int) : Option ((Str × Int) ⊕ Str) :=
  bif d14 != 0 then
    (remI d14 10).bind fun z26 =>
    (
        bif decide (z26 < 0) then
          (chk (-z26)).bind fun z33 =>
          some z33
        else
          some z26 : Option Int).bind fun n28 =>
    (chk (48 + n28)).bind fun z38 =>
    (catL ([UInt8.ofNat (z38 % 256).toNat] : Str) xs11).bind fun xs43 =>
    (quoI d14 10).bind fun z50 =>
    some (.inl (xs43, z50))
  else
    some (.inr xs11)

noncomputable def m_spec_l01Dec (n1 : Int) : Option Str :=
  (
      (loopM (fun s : Str × Int => m_spec_l01Dec_l1 s.1 s.2) (([] : Str), n1)).bind fun xs17 =>
      some xs17 : Option Str).bind fun xs6 =>
  bif (xs6.length : Int) == 0 then
    some ([48] : Str)
  else
    bif decide (n1 < 0) then
      (catL ([45] : Str) xs6).bind fun s62 =>
      some s62
    else
      some xs6

noncomputable def m_spec_l12Text (p1 : Play) : Option Str :=
  (chk (p1.Row + 1)).bind fun z9 =>
  (m_spec_l01Dec z9).bind fun y11 =>
  (chk (97 + p1.Col)).bind fun z17 =>
  bif p1.Down then
    (catL ([UInt8.ofNat (z17 % 256).toNat] : Str) y11).bind fun s24 =>
    (catL s24 ([32] : Str)).bind fun s26 =>
    (catL s26 p1.Word).bind fun s28 =>
    some s28
  else
    (catL y11 ([UInt8.ofNat (z17 % 256).toNat] : Str)).bind fun s30 =>
    (catL s30 ([32] : Str)).bind fun s32 =>
    (catL s32 p1.Word).bind fun s34 =>
    some s34

noncomputable def m_spec_l24Text (x1 : Turn) : Option Str :=
  (
      bif x1.Rack == ([] : Str) then
        some ([45] : Str)
      else
        some x1.Rack : Option Str).bind fun s10 =>
  bif x1.Pass then
    (catL s10 ([32, 112, 97, 115, 115] : Str)).bind fun s19 =>
    some s19
  else
    (catL s10 ([32] : Str)).bind fun s21 =>
    (m_spec_l12Text x1.Play).bind fun y23 =>
    (catL s21 y23).bind fun s29 =>
    some s29

noncomputable def m_spec_TurnText (x1 : Turn) : Option Str :=
  (m_spec_l24Plain x1).bind fun y10 =>
  bif !y10 then
    some ([] : Str)
  else
    (m_spec_l24Text x1).bind fun y16 =>
    some y16

noncomputable def m_impl_dashed (s1 : Str) : Option Str :=
  bif s1 == ([] : Str) then
    some ([45] : Str)
  else
    some s1

noncomputable def m_strings_Builder_copyCheck (b1 : Str) : Option Str :=
  some b1

noncomputable def m_strings_Builder_WriteString (b1 : Str) (s7 : Str) : Option (Int × Unit × Str) :=
  (m_strings_Builder_copyCheck b1).bind fun y9 =>
  (catL y9 s7).bind fun xs18 =>
  some ((s7.length : Int), (), xs18)

noncomputable def m_impl_within (x1 : Int) (low3 : Int) (high5 : Int) : Option Bool :=
  (
      bif decide (low3 ≤ x1) then
        some (decide (x1 ≤ high5))
      else
        some false : Option Bool).bind fun t7 =>
  some t7

noncomputable def m_impl_small (c1 : UInt8) : Option Bool :=
  (
      bif decide (97 ≤ c1) then
        some (decide (c1 ≤ 122))
      else
        some false : Option Bool).bind fun t2 =>
  some t2

noncomputable def m_impl_onlySmall_l1 (s1 : Str) (n10 : Int) : Option (Int ⊕ (Unit ⊕ Bool)) :=
  bif decide (n10 < (s1.length : Int)) then
    (getL s1 n10).bind fun e19 =>
    (m_impl_small e19).bind fun y27 =>
    bif !y27 then
      some (.inr (.inr false))
    else
      (chk (n10 + 1)).bind fun z33 =>
      some (.inl z33)
  else
    some (.inr (.inl ()))

noncomputable def m_impl_onlySmall (s1 : Str) : Option Bool :=
  (
      (loopM (fun s : Int => m_impl_onlySmall_l1 s1 s) 0).bind fun x13 =>
      match x13 with
      | .inl _ =>
        some (.inl ())
      | .inr r39 =>
        some (.inr r39) : Option (Unit ⊕ Bool)).bind fun x3 =>
  match x3 with
  | .inl _ =>
    some true
  | .inr r42 =>
    some r42

noncomputable def m_impl_IsWord (s1 : Str) : Option Bool :=
  (
      bif decide (1 ≤ (s1.length : Int)) then
        bif decide ((s1.length : Int) ≤ 12) then
          (m_impl_onlySmall s1).bind fun y9 =>
          some y9
        else
          some false
      else
        some false : Option Bool).bind fun t3 =>
  some t3

noncomputable def m_impl_isPlaced (s1 : Str) : Option Bool :=
  (
      (m_strings_ToLower s1).bind fun y7 =>
      (m_impl_IsWord y7).bind fun y13 =>
      bif y13 then
        (m_strings_ToLower s1).bind fun y19 =>
        some ((s1.length : Int) == (y19.length : Int))
      else
        some false : Option Bool).bind fun t3 =>
  some t3

noncomputable def m_impl_isMain (s1 : Str) : Option Bool :=
  (
      bif decide (2 ≤ (s1.length : Int)) then
        (m_impl_isPlaced s1).bind fun y8 =>
        some y8
      else
        some false : Option Bool).bind fun t3 =>
  some t3

noncomputable def m_impl_Decimal (n1 : Int) : Option Str :=
  (m_strconv_FormatInt n1 10).bind fun y3 =>
  some y3

noncomputable def m_impl_PlayText (p1 : Play) : Option Str :=
  (
      (m_impl_within p1.Row 0 14).bind fun y13 =>
      bif !y13 then
        some true
      else
        (m_impl_within p1.Col 0 14).bind fun y20 =>
        bif !y20 then
          some true
        else
          (m_impl_isMain p1.Word).bind fun y27 =>
          some (!y27) : Option Bool).bind fun t9 =>
  bif t9 then
    some ([] : Str)
  else
    (chk (p1.Row + 1)).bind fun z36 =>
    (chk (97 + p1.Col)).bind fun z38 =>
    (chk32 z38).bind fun z40 =>
    (encR z40).bind fun s42 =>
    (m_impl_Decimal z36).bind fun y44 =>
    bif p1.Down then
      (catL s42 y44).bind fun s51 =>
      (catL s51 ([32] : Str)).bind fun s53 =>
      (catL s53 p1.Word).bind fun s55 =>
      some s55
    else
      (catL y44 s42).bind fun s57 =>
      (catL s57 ([32] : Str)).bind fun s59 =>
      (catL s59 p1.Word).bind fun s61 =>
      some s61

noncomputable def m_impl_place (tile1 : UInt8) : Option Int :=
  bif tile1 == 63 then
    some 0
  else
    (m_impl_small tile1).bind fun y3 =>
    bif y3 then
      (chk (((tile1 - 97).toNat : Int) + 1)).bind fun z9 =>
      some z9
    else
      some (-1)

noncomputable def m_impl_onlyTiles_l1 (s1 : Str) (n5 : Int) : Option (Int ⊕ (Unit ⊕ Bool)) :=
  bif decide (n5 < (s1.length : Int)) then
    (getL s1 n5).bind fun c14 =>
    (m_impl_place c14).bind fun y16 =>
    bif decide (y16 < 0) then
      some (.inr (.inr false))
    else
      (chk (n5 + 1)).bind fun z23 =>
      some (.inl z23)
  else
    some (.inr (.inl ()))

noncomputable def m_impl_onlyTiles (s1 : Str) : Option Bool :=
  (
      (loopM (fun s : Int => m_impl_onlyTiles_l1 s1 s) 0).bind fun x8 =>
      match x8 with
      | .inl _ =>
        some (.inl ())
      | .inr r29 =>
        some (.inr r29) : Option (Unit ⊕ Bool)).bind fun x3 =>
  match x3 with
  | .inl _ =>
    some true
  | .inr r32 =>
    some r32

noncomputable def m_impl_ValidPile_l1 (s1 : Str) (n19 : Int) : Option (Int ⊕ (Unit ⊕ Bool)) :=
  bif decide (n19 < (s1.length : Int)) then
    (chk (n19 - 1)).bind fun z29 =>
    (getL s1 z29).bind fun c31 =>
    (getL s1 n19).bind fun c33 =>
    bif decide (c33 < c31) then
      some (.inr (.inr false))
    else
      (chk (n19 + 1)).bind fun z36 =>
      some (.inl z36)
  else
    some (.inr (.inl ()))

noncomputable def m_impl_ValidPile (s1 : Str) : Option Bool :=
  (
      bif decide (120 < (s1.length : Int)) then
        some true
      else
        (m_impl_onlyTiles s1).bind fun y9 =>
        some (!y9) : Option Bool).bind fun t3 =>
  bif t3 then
    some false
  else
    (
        (loopM (fun s : Int => m_impl_ValidPile_l1 s1 s) 1).bind fun x22 =>
        match x22 with
        | .inl _ =>
          some (.inl ())
        | .inr r42 =>
          some (.inr r42) : Option (Unit ⊕ Bool)).bind fun x17 =>
    match x17 with
    | .inl _ =>
      some true
    | .inr r45 =>
      some r45

noncomputable def m_impl_ValidRack (s1 : Str) : Option Bool :=
  (
      bif decide ((s1.length : Int) ≤ 7) then
        (m_impl_ValidPile s1).bind fun y8 =>
        some y8
      else
        some false : Option Bool).bind fun t3 =>
  some t3

noncomputable def m_strings_Builder_String (b1 : Str) : Option Str :=
  some b1

noncomputable def m_impl_TurnText (x1 : Turn) : Option Str :=
  (m_impl_dashed x1.Rack).bind fun y14 =>
  (m_strings_Builder_WriteString ([] : Str) y14).bind fun y20 =>
  (
      (m_impl_PlayText x1.Play).bind fun y37 =>
      (
          (m_impl_ValidRack x1.Rack).bind fun y47 =>
          bif !y47 then
            some true
          else
            bif x1.Pass then
              bif x1.Play != (⟨0, 0, false, ([] : Str)⟩ : Play) then
                some true
              else
                some false
            else
              some (y37 == ([] : Str)) : Option Bool).bind fun t43 =>
      bif t43 then
        some (.inr ([] : Str))
      else
        bif x1.Pass then
          (m_strings_Builder_WriteString y20.2.2 ([32, 112, 97, 115, 115] : Str)).bind fun y62 =>
          some (.inl y62.2.2)
        else
          (catL ([32] : Str) y37).bind fun s73 =>
          (m_strings_Builder_WriteString y20.2.2 s73).bind fun y75 =>
          some (.inl y75.2.2) : Option (Str ⊕ Str)).bind fun x35 =>
  match x35 with
  | .inl xs32 =>
    (m_strings_Builder_String xs32).bind fun y87 =>
    some y87
  | .inr r93 =>
    some r93

noncomputable def m_laws_FnExactTurnText (aX1 : Turn) : Option Bool :=
  (m_laws_szTurn aX1 1048576).bind fun y10 =>
  bif decide (y10 < 0) then
    some true
  else
    (m_laws_toTurn aX1).bind fun y17 =>
    (m_spec_TurnText y17).bind fun y26 =>
    (m_laws_toTurn aX1).bind fun y32 =>
    (m_impl_TurnText y32).bind fun y41 =>
    bif y41 != y26 then
      some false
    else
      some true

noncomputable def m_laws_szAction (a1 : Action) (left8 : Int) : Option Int :=
  (m_laws_szPlay a1.Play left8).bind fun y14 =>
  bif decide (y14 < 0) then
    some (-1)
  else
    (chk (y14 - (a1.Tiles.length : Int))).bind fun z21 =>
    bif decide (z21 < 0) then
      some (-1)
    else
      some z21

noncomputable def m_laws_toAction (a1 : Action) : Option Action :=
  (m_laws_toPlay a1.Play).bind fun y23 =>
  some (⟨a1.Kind, ⟨y23.Row, y23.Col, y23.Down, y23.Word⟩, a1.Tiles, a1.Seconds⟩ : Action)

noncomputable def m_spec_l20Action (a1 : Action) : Option Bool :=
  (m_spec_l00In a1.Seconds 0 36000).bind fun y12 =>
  bif !y12 then
    some false
  else
    bif a1.Kind == 1 then
      (
          (m_spec_l12Plain a1.Play).bind fun y30 =>
          bif y30 then
            some (a1.Tiles == ([] : Str))
          else
            some false : Option Bool).bind fun none26 =>
      some none26
    else
      bif a1.Kind == 2 then
        (
            bif a1.Play == (⟨0, 0, false, ([] : Str)⟩ : Play) then
              bif a1.Tiles != ([] : Str) then
                (m_spec_l03Rack a1.Tiles).bind fun y47 =>
                some y47
              else
                some false
            else
              some false : Option Bool).bind fun none40 =>
        some none40
      else
        (
            bif a1.Kind == 3 then
              some (a1.Kind == 3)
            else
              some (a1.Kind == 4) : Option Bool).bind fun t56 =>
        bif t56 then
          (
              bif a1.Play == (⟨0, 0, false, ([] : Str)⟩ : Play) then
                some (a1.Tiles == ([] : Str))
              else
                some false : Option Bool).bind fun none65 =>
          some none65
        else
          some false

noncomputable def m_spec_l20Text (a1 : Action) : Option Str :=
  (m_spec_l01Dec a1.Seconds).bind fun y12 =>
  bif a1.Kind == 1 then
    (m_spec_l12Text a1.Play).bind fun y19 =>
    (catL ([112, 108, 97, 121, 32] : Str) y19).bind fun s25 =>
    (catL s25 ([32] : Str)).bind fun s27 =>
    (catL s27 y12).bind fun s29 =>
    some s29
  else
    bif a1.Kind == 2 then
      (catL ([101, 120, 99, 104, 97, 110, 103, 101, 32] : Str) a1.Tiles).bind fun s32 =>
      (catL s32 ([32] : Str)).bind fun s34 =>
      (catL s34 y12).bind fun s36 =>
      some s36
    else
      bif a1.Kind == 3 then
        (catL ([112, 97, 115, 115, 32] : Str) y12).bind fun s39 =>
        some s39
      else
        (catL ([99, 104, 97, 108, 108, 101, 110, 103, 101, 32] : Str) y12).bind fun s41 =>
        some s41

noncomputable def m_spec_ActionText (a1 : Action) : Option Str :=
  (m_spec_l20Action a1).bind fun y12 =>
  bif !y12 then
    some ([] : Str)
  else
    (m_spec_l20Text a1).bind fun y18 =>
    some y18

noncomputable def m_impl_ValidAction (a1 : Action) : Option Bool :=
  (m_impl_within a1.Seconds 0 36000).bind fun y12 =>
  bif !y12 then
    some false
  else
    bif a1.Kind == 1 then
      (
          (m_impl_PlayText a1.Play).bind fun y23 =>
          bif y23 != ([] : Str) then
            some (a1.Tiles == ([] : Str))
          else
            some false : Option Bool).bind fun t19 =>
      some t19
    else
      bif a1.Kind == 2 then
        (
            bif a1.Play == (⟨0, 0, false, ([] : Str)⟩ : Play) then
              bif a1.Tiles != ([] : Str) then
                (m_impl_ValidRack a1.Tiles).bind fun y40 =>
                some y40
              else
                some false
            else
              some false : Option Bool).bind fun t34 =>
        some t34
      else
        (
            bif a1.Kind == 3 then
              some (a1.Kind == 3)
            else
              some (a1.Kind == 4) : Option Bool).bind fun t49 =>
        bif t49 then
          (
              bif a1.Play == (⟨0, 0, false, ([] : Str)⟩ : Play) then
                some (a1.Tiles == ([] : Str))
              else
                some false : Option Bool).bind fun t58 =>
          some t58
        else
          some false

noncomputable def m_impl_joined (words1 : (List Str)) : Option Str :=
  (m_strings_Join words1 ([32] : Str)).bind fun y5 =>
  some y5

noncomputable def m_impl_ActionText (a1 : Action) : Option Str :=
  (m_impl_ValidAction a1).bind fun y12 =>
  bif !y12 then
    some ([] : Str)
  else
    (m_impl_Decimal a1.Seconds).bind fun y18 =>
    bif a1.Kind == 1 then
      (m_impl_PlayText a1.Play).bind fun y25 =>
      (m_impl_joined ([([112, 108, 97, 121] : Str), y25, y18] : (List Str))).bind fun y34 =>
      some y34
    else
      bif a1.Kind == 2 then
        (m_impl_joined ([([101, 120, 99, 104, 97, 110, 103, 101] : Str), a1.Tiles, y18] : (List Str))).bind fun y44 =>
        some y44
      else
        bif a1.Kind == 3 then
          (m_impl_joined ([([112, 97, 115, 115] : Str), y18] : (List Str))).bind fun y54 =>
          some y54
        else
          (m_impl_joined ([([99, 104, 97, 108, 108, 101, 110, 103, 101] : Str), y18] : (List Str))).bind fun y63 =>
          some y63

noncomputable def m_laws_FnExactActionText (aA1 : Action) : Option Bool :=
  (m_laws_szAction aA1 1048576).bind fun y12 =>
  bif decide (y12 < 0) then
    some true
  else
    (m_laws_toAction aA1).bind fun y19 =>
    (m_spec_ActionText y19).bind fun y30 =>
    (m_laws_toAction aA1).bind fun y36 =>
    (m_impl_ActionText y36).bind fun y47 =>
    bif y47 != y30 then
      some false
    else
      some true

noncomputable def m_laws_szActionS_l1 (a1 : (List Action)) (left15 : Int) (n17 : Int) : Option ((Int × Int) ⊕ (Int ⊕ Int)) :=
  bif decide (n17 < (a1.length : Int)) then
    (getL a1 n17).bind fun e29 =>
    (m_laws_szAction e29 left15).bind fun y43 =>
    bif decide (y43 < 0) then
      some (.inr (.inr (-1)))
    else
      (chk (n17 + 1)).bind fun z50 =>
      some (.inl (y43, z50))
  else
    some (.inr (.inl left15))

noncomputable def m_laws_szActionS (a1 : (List Action)) (left5 : Int) : Option Int :=
  (chk (left5 - (a1.length : Int))).bind fun z8 =>
  bif decide (z8 < 0) then
    some (-1)
  else
    (
        (loopM (fun s : Int × Int => m_laws_szActionS_l1 a1 s.1 s.2) (z8, 0)).bind fun x22 =>
        match x22 with
        | .inl left20 =>
          some (.inl left20)
        | .inr r56 =>
          some (.inr r56) : Option (Int ⊕ Int)).bind fun x13 =>
    match x13 with
    | .inl left11 =>
      some left11
    | .inr r59 =>
      some r59

noncomputable def m_laws_szRecord (a1 : Record) (left6 : Int) : Option Int :=
  (m_laws_szActionS a1.Actions left6).bind fun y12 =>
  bif decide (y12 < 0) then
    some (-1)
  else
    some y12

noncomputable def m_laws_toActionS_l1 (a1 : (List Action)) (xs14 : (List Action)) (n15 : Int) : Option (((List Action) × Int) ⊕ (List Action)) :=
  bif decide (n15 < (a1.length : Int)) then
    (getL a1 n15).bind fun e26 =>
    (m_laws_toAction e26).bind fun y40 =>
    (getL xs14 n15).bind fun e51 =>
    (setL xs14 n15 y40).bind fun xs64 =>
    (chk (n15 + 1)).bind fun z66 =>
    some (.inl (xs64, z66))
  else
    some (.inr xs14)

noncomputable def m_laws_toActionS (a1 : (List Action)) : Option (List Action) :=
  (makeL (a1.length : Int) (⟨0, ⟨0, 0, false, ([] : Str)⟩, ([] : Str), 0⟩ : Action)).bind fun xs6 =>
  (
      (loopM (fun s : (List Action) × Int => m_laws_toActionS_l1 a1 s.1 s.2) (xs6, 0)).bind fun xs18 =>
      some xs18 : Option (List Action)).bind fun xs11 =>
  some xs11

noncomputable def m_laws_toRecord (a1 : Record) : Option Record :=
  (m_laws_toActionS a1.Actions).bind fun y21 =>
  some (⟨a1.Seed, y21⟩ : Record)

noncomputable def m_spec_l20Ok_l1 (r1 : Record) (n7 : Int) : Option (Int ⊕ (Unit ⊕ Bool)) :=
  bif decide (n7 < (r1.Actions.length : Int)) then
    (getL r1.Actions n7).bind fun e22 =>
    (m_spec_l20Action e22).bind fun y36 =>
    bif !y36 then
      some (.inr (.inr false))
    else
      (chk (n7 + 1)).bind fun z42 =>
      some (.inl z42)
  else
    some (.inr (.inl ()))

noncomputable def m_spec_l20Ok (r1 : Record) : Option Bool :=
  (
      (loopM (fun s : Int => m_spec_l20Ok_l1 r1 s) 0).bind fun x10 =>
      match x10 with
      | .inl _ =>
        some (.inl ())
      | .inr r48 =>
        some (.inr r48) : Option (Unit ⊕ Bool)).bind fun x5 =>
  match x5 with
  | .inl _ =>
    (
        (m_spec_l00In r1.Seed 0 2147483647).bind fun y60 =>
        bif y60 then
          some (decide ((r1.Actions.length : Int) ≤ 200))
        else
          some false : Option Bool).bind fun i51 =>
    some i51
  | .inr r70 =>
    some r70

noncomputable def m_spec_ValidRecord (r1 : Record) : Option Bool :=
  (m_spec_l20Ok r1).bind fun y10 =>
  some y10

noncomputable def m_impl_ValidRecord_l1 (r1 : Record) (n28 : Int) : Option (Int ⊕ (Unit ⊕ Bool)) :=
  bif decide (n28 < (r1.Actions.length : Int)) then
    (getL r1.Actions n28).bind fun e37 =>
    (m_impl_ValidAction e37).bind fun y58 =>
    bif !y58 then
      some (.inr (.inr false))
    else
      (chk (n28 + 1)).bind fun z64 =>
      some (.inl z64)
  else
    some (.inr (.inl ()))

noncomputable def m_impl_ValidRecord (r1 : Record) : Option Bool :=
  (
      (m_impl_within r1.Seed 0 2147483647).bind fun y14 =>
      bif !y14 then
        some true
      else
        some (decide (200 < (r1.Actions.length : Int))) : Option Bool).bind fun t10 =>
  bif t10 then
    some false
  else
    (
        (loopM (fun s : Int => m_impl_ValidRecord_l1 r1 s) 0).bind fun x31 =>
        match x31 with
        | .inl _ =>
          some (.inl ())
        | .inr r70 =>
          some (.inr r70) : Option (Unit ⊕ Bool)).bind fun x25 =>
    match x25 with
    | .inl _ =>
      some true
    | .inr r73 =>
      some r73

noncomputable def m_laws_eqPlay (a1 : Play) (b5 : Play) : Option Bool :=
  bif a1.Row != b5.Row then
    some false
  else
    bif a1.Col != b5.Col then
      some false
    else
      bif a1.Down != b5.Down then
        some false
      else
        bif a1.Word != b5.Word then
          some false
        else
          some true

noncomputable def m_laws_eqAction (a1 : Action) (b8 : Action) : Option Bool :=
  bif a1.Kind != b8.Kind then
    some false
  else
    (m_laws_eqPlay a1.Play b8.Play).bind fun y24 =>
    bif !y24 then
      some false
    else
      bif a1.Tiles != b8.Tiles then
        some false
      else
        bif a1.Seconds != b8.Seconds then
          some false
        else
          some true

noncomputable def m_laws_eqActionS_l1 (a1 : (List Action)) (b5 : (List Action)) (n14 : Int) : Option (Int ⊕ (Unit ⊕ Bool)) :=
  bif decide (n14 < (a1.length : Int)) then
    (getL a1 n14).bind fun e25 =>
    (getL b5 n14).bind fun e39 =>
    (m_laws_eqAction e25 e39).bind fun y53 =>
    bif !y53 then
      some (.inr (.inr false))
    else
      (chk (n14 + 1)).bind fun z59 =>
      some (.inl z59)
  else
    some (.inr (.inl ()))

noncomputable def m_laws_eqActionS (a1 : (List Action)) (b5 : (List Action)) : Option Bool :=
  bif (a1.length : Int) != (b5.length : Int) then
    some false
  else
    (
        (loopM (fun s : Int => m_laws_eqActionS_l1 a1 b5 s) 0).bind fun x17 =>
        match x17 with
        | .inl _ =>
          some (.inl ())
        | .inr r65 =>
          some (.inr r65) : Option (Unit ⊕ Bool)).bind fun x12 =>
    match x12 with
    | .inl _ =>
      some true
    | .inr r68 =>
      some r68

noncomputable def m_laws_eqRecord (a1 : Record) (b6 : Record) : Option Bool :=
  bif a1.Seed != b6.Seed then
    some false
  else
    (m_laws_eqActionS a1.Actions b6.Actions).bind fun y20 =>
    bif !y20 then
      some false
    else
      some true

noncomputable def m_laws_FnExactValidRecord (aR1 : Record) : Option Bool :=
  (m_laws_szRecord aR1 1048576).bind fun y10 =>
  bif decide (y10 < 0) then
    some true
  else
    (m_laws_toRecord aR1).bind fun y17 =>
    (m_spec_ValidRecord y17).bind fun y25 =>
    (m_laws_toRecord aR1).bind fun y30 =>
    (m_impl_ValidRecord y30).bind fun y45 =>
    bif y45 != y25 then
      some false
    else
      (m_laws_toRecord aR1).bind fun y52 =>
      (m_laws_eqRecord y30 y52).bind fun y60 =>
      bif !y60 then
        some false
      else
        some true

noncomputable def m_spec_l20Record_l1 (r1 : Record) (i24 : Str) (n26 : Int) : Option ((Str × Int) ⊕ Str) :=
  bif decide (n26 < (r1.Actions.length : Int)) then
    (getL r1.Actions n26).bind fun e38 =>
    (m_spec_l20Text e38).bind fun y52 =>
    (catL y52 ([10] : Str)).bind fun s58 =>
    (catL i24 s58).bind fun s60 =>
    (chk (n26 + 1)).bind fun z62 =>
    some (.inl (s60, z62))
  else
    some (.inr i24)

noncomputable def m_spec_l20Record (r1 : Record) : Option Str :=
  (m_spec_l01Dec r1.Seed).bind fun y10 =>
  (catL ([115, 101, 101, 100, 32] : Str) y10).bind fun s16 =>
  (catL s16 ([10] : Str)).bind fun s18 =>
  (
      (loopM (fun s : Str × Int => m_spec_l20Record_l1 r1 s.1 s.2) (s18, 0)).bind fun i29 =>
      some i29 : Option Str).bind fun i20 =>
  some i20

noncomputable def m_spec_RecordText (r1 : Record) : Option Str :=
  (m_spec_l20Ok r1).bind fun y10 =>
  bif !y10 then
    some ([] : Str)
  else
    (m_spec_l20Record r1).bind fun y16 =>
    some y16

noncomputable def m_impl_RecordText_l1 (r1 : Record) (xs50 : Str) (n53 : Int) : Option ((Str × Int) ⊕ Str) :=
  bif decide (n53 < (r1.Actions.length : Int)) then
    (getL r1.Actions n53).bind fun e67 =>
    (m_impl_ActionText e67).bind fun y88 =>
    (catL y88 ([10] : Str)).bind fun s94 =>
    (m_strings_Builder_WriteString xs50 s94).bind fun y96 =>
    (chk (n53 + 1)).bind fun z106 =>
    some (.inl (y96.2.2, z106))
  else
    some (.inr xs50)

noncomputable def m_impl_RecordText (r1 : Record) : Option Str :=
  (m_impl_ValidRecord r1).bind fun y10 =>
  bif !y10 then
    some ([] : Str)
  else
    (m_impl_Decimal r1.Seed).bind fun y20 =>
    (catL ([115, 101, 101, 100, 32] : Str) y20).bind fun s26 =>
    (catL s26 ([10] : Str)).bind fun s28 =>
    (m_strings_Builder_WriteString ([] : Str) s28).bind fun y30 =>
    (
        (loopM (fun s : Str × Int => m_impl_RecordText_l1 r1 s.1 s.2) (y30.2.2, 0)).bind fun xs58 =>
        some xs58 : Option Str).bind fun xs42 =>
    (m_strings_Builder_String xs42).bind fun y114 =>
    some y114

noncomputable def m_laws_FnExactRecordText (aR1 : Record) : Option Bool :=
  (m_laws_szRecord aR1 1048576).bind fun y10 =>
  bif decide (y10 < 0) then
    some true
  else
    (m_laws_toRecord aR1).bind fun y17 =>
    (m_spec_RecordText y17).bind fun y25 =>
    (m_laws_toRecord aR1).bind fun y31 =>
    (m_impl_RecordText y31).bind fun y46 =>
    bif y46 != y25 then
      some false
    else
      (m_laws_toRecord aR1).bind fun y54 =>
      (m_laws_eqRecord y31 y54).bind fun y62 =>
      bif !y62 then
        some false
      else
        some true

noncomputable def m_internal_strconv_small (i1 : Int) : Option Str :=
  bif decide (i1 < 10) then
    (chk (i1 + 1)).bind fun z4 =>
    (subL ([48, 49, 50, 51, 52, 53, 54, 55, 56, 57, 97, 98, 99, 100, 101, 102, 103, 104, 105, 106, 107, 108, 109, 110, 111, 112, 113, 114, 115, 116, 117, 118, 119, 120, 121, 122] : Str) i1 z4).bind fun s6 =>
    some s6
  else
    (chk (i1 * 2)).bind fun z8 =>
    (chk (i1 * 2)).bind fun z10 =>
    (chk (z10 + 2)).bind fun z12 =>
    (subL ((48 :: 48 :: 48 :: 49 :: 48 :: 50 :: 48 :: 51 :: 48 :: 52 :: 48 :: 53 :: 48 :: 54 :: 48 :: 55 :: 48 :: 56 :: 48 :: 57 :: 49 :: 48 :: 49 :: 49 :: 49 :: 50 :: 49 :: 51 :: 49 :: 52 :: 49 :: 53 :: 49 :: 54 :: 49 :: 55 :: 49 :: 56 :: 49 :: 57 :: 50 :: 48 :: 50 :: 49 :: 50 :: 50 :: 50 :: 51 :: 50 :: 52 :: 50 :: 53 :: 50 :: 54 :: 50 :: 55 :: 50 :: 56 :: 50 :: 57 :: 51 :: 48 :: 51 :: 49 :: 51 :: 50 :: 51 :: 51 :: 51 :: 52 :: 51 :: 53 :: 51 :: 54 :: 51 :: 55 :: 51 :: 56 :: 51 :: 57 :: 52 :: 48 :: 52 :: 49 :: 52 :: 50 :: 52 :: 51 :: 52 :: 52 :: 52 :: 53 :: 52 :: 54 :: 52 :: 55 :: 52 :: 56 :: 52 :: 57 :: 53 :: 48 :: 53 :: 49 :: 53 :: 50 :: 53 :: 51 :: 53 :: 52 :: 53 :: 53 :: 53 :: 54 :: 53 :: 55 :: 53 :: 56 :: 53 :: 57 :: 54 :: 48 :: 54 :: 49 :: 54 :: 50 :: 54 :: 51 :: 54 :: 52 :: 54 :: 53 :: 54 :: 54 :: 54 :: 55 :: 54 :: 56 :: 54 :: 57 :: 55 :: 48 :: 55 :: 49 :: 55 :: 50 :: 55 :: 51 :: 55 :: 52 :: 55 :: 53 :: 55 :: 54 :: 55 :: 55 :: 55 :: 56 :: 55 :: 57 :: 56 :: 48 :: 56 :: 49 :: 56 :: 50 :: 56 :: 51 :: 56 :: 52 :: 56 :: 53 :: 56 :: 54 :: 56 :: 55 :: 56 :: 56 :: 56 :: 57 :: 57 :: 48 :: 57 :: 49 :: 57 :: 50 :: 57 :: 51 :: 57 :: 52 :: 57 :: 53 :: 57 :: 54 :: 57 :: 55 :: 57 :: 56 :: 57 :: 57 :: []) : Str) z8 z12).bind fun s14 =>
    some s14

noncomputable def m_internal_strconv_bool2_int (b1 : Bool) : Option Int :=
  bif b1 then
    some 1
  else
    some 0

noncomputable def m_strings_Builder_WriteByte (b1 : Str) (c7 : UInt8) : Option (Unit × Str) :=
  (m_strings_Builder_copyCheck b1).bind fun y8 =>
  (catL y8 ([c7] : Str)).bind fun xs20 =>
  some ((), xs20)

noncomputable def m_unicode_utf8_RuneLen (r1 : Int) : Option Int :=
  bif decide (r1 < 0) then
    some (-1)
  else
    bif decide (r1 ≤ 127) then
      some 1
    else
      bif decide (r1 ≤ 2047) then
        some 2
      else
        (
            bif decide (55296 ≤ r1) then
              some (decide (r1 ≤ 57343))
            else
              some false : Option Bool).bind fun t6 =>
        bif t6 then
          some (-1)
        else
          bif decide (r1 ≤ 65535) then
            some 3
          else
            bif decide (r1 ≤ 1114111) then
              some 4
            else
              some (-1)

end Go.Proofs.YtbekokenomhgeaaDoor
