/- The models of the program's functions. Printed by gen.py. -/
import Derived.Test.YtbekokenomhgeaaGreatDoorTyp
import Derived.Test.YtbekokenomhgeaaGreatDoorEngM
import Derived.Test.YtbekokenomhgeaaGreatDoorEngY
namespace Go.Proofs.YtbekokenomhgeaaGreatDoor
open Go Go.RowKit
set_option linter.unusedSimpArgs false
set_option linter.unusedVariables false

noncomputable def m_spec_l00In (n1 : Int) (low3 : Int) (high5 : Int) : Option Bool :=
  (
      bif decide (low3 ≤ n1) then
        some (decide (n1 ≤ high5))
      else
        some false : Option Bool).bind fun t7 =>
  some t7

noncomputable def m_spec_l01Small (c1 : UInt8) : Option Bool :=
  (
      bif decide (97 ≤ c1) then
        some (decide (c1 ≤ 122))
      else
        some false : Option Bool).bind fun t2 =>
  some t2

noncomputable def m_spec_l03Capital (c1 : UInt8) : Option Bool :=
  (
      bif decide (65 ≤ c1) then
        some (decide (c1 ≤ 90))
      else
        some false : Option Bool).bind fun t2 =>
  some t2

noncomputable def m_spec_l03Tile (c1 : UInt8) : Option Bool :=
  (
      bif c1 == 63 then
        some true
      else
        (m_spec_l01Small c1).bind fun y8 =>
        some y8 : Option Bool).bind fun t2 =>
  some t2

noncomputable def m_spec_l03Pile_l1 (s1 : Str) (n5 : Int) : Option (Int ⊕ (Unit ⊕ Bool)) :=
  bif decide (n5 < (s1.length : Int)) then
    (
        (getL s1 n5).bind fun c19 =>
        (m_spec_l03Tile c19).bind fun y21 =>
        bif !y21 then
          some true
        else
          bif decide (0 < n5) then
            (getL s1 n5).bind fun c29 =>
            (chk (n5 - 1)).bind fun z31 =>
            (getL s1 z31).bind fun c33 =>
            some (decide (c29 < c33))
          else
            some false : Option Bool).bind fun t14 =>
    bif t14 then
      some (.inr (.inr false))
    else
      (chk (n5 + 1)).bind fun z39 =>
      some (.inl z39)
  else
    some (.inr (.inl ()))

noncomputable def m_spec_l03Pile (s1 : Str) : Option Bool :=
  (
      (loopM (fun s : Int => m_spec_l03Pile_l1 s1 s) 0).bind fun x8 =>
      match x8 with
      | .inl _ =>
        some (.inl ())
      | .inr r45 =>
        some (.inr r45) : Option (Unit ⊕ Bool)).bind fun x3 =>
  match x3 with
  | .inl _ =>
    some (decide ((s1.length : Int) ≤ 120))
  | .inr r48 =>
    some r48

noncomputable def m_spec_l03Rack (s1 : Str) : Option Bool :=
  (
      (m_spec_l03Pile s1).bind fun y7 =>
      bif y7 then
        some (decide ((s1.length : Int) ≤ 7))
      else
        some false : Option Bool).bind fun t3 =>
  some t3

noncomputable def m_spec_l03Placed_l1 (word1 : Str) (n5 : Int) : Option (Int ⊕ (Unit ⊕ Bool)) :=
  bif decide (n5 < (word1.length : Int)) then
    (
        (getL word1 n5).bind fun c18 =>
        (m_spec_l01Small c18).bind fun y20 =>
        bif !y20 then
          (getL word1 n5).bind fun c26 =>
          (m_spec_l03Capital c26).bind fun y28 =>
          some (!y28)
        else
          some false : Option Bool).bind fun t14 =>
    bif t14 then
      some (.inr (.inr false))
    else
      (chk (n5 + 1)).bind fun z37 =>
      some (.inl z37)
  else
    some (.inr (.inl ()))

noncomputable def m_spec_l03Placed (word1 : Str) : Option Bool :=
  (
      (loopM (fun s : Int => m_spec_l03Placed_l1 word1 s) 0).bind fun x8 =>
      match x8 with
      | .inl _ =>
        some (.inl ())
      | .inr r43 =>
        some (.inr r43) : Option (Unit ⊕ Bool)).bind fun x3 =>
  match x3 with
  | .inl _ =>
    (m_spec_l00In (word1.length : Int) 1 12).bind fun y46 =>
    some y46
  | .inr r51 =>
    some r51

noncomputable def m_spec_l12Word (word1 : Str) : Option Bool :=
  (
      bif decide (1 < (word1.length : Int)) then
        (m_spec_l03Placed word1).bind fun y8 =>
        some y8
      else
        some false : Option Bool).bind fun t3 =>
  some t3

noncomputable def m_impl_within (x1 : Int) (low3 : Int) (high5 : Int) : Option Bool :=
  (
      bif decide (low3 ≤ x1) then
        some (decide (x1 ≤ high5))
      else
        some false : Option Bool).bind fun t7 =>
  some t7

noncomputable def m_impl_small (c1 : UInt8) : Option Bool :=
  (
      bif decide (97 ≤ c1) then
        some (decide (c1 ≤ 122))
      else
        some false : Option Bool).bind fun t2 =>
  some t2

noncomputable def m_impl_place (tile1 : UInt8) : Option Int :=
  bif tile1 == 63 then
    some 0
  else
    (m_impl_small tile1).bind fun y3 =>
    bif y3 then
      (chk (((tile1 - 97).toNat : Int) + 1)).bind fun z9 =>
      some z9
    else
      some (-1)

noncomputable def m_impl_onlyTiles_l1 (s1 : Str) (n5 : Int) : Option (Int ⊕ (Unit ⊕ Bool)) :=
  bif decide (n5 < (s1.length : Int)) then
    (getL s1 n5).bind fun c14 =>
    (m_impl_place c14).bind fun y16 =>
    bif decide (y16 < 0) then
      some (.inr (.inr false))
    else
      (chk (n5 + 1)).bind fun z23 =>
      some (.inl z23)
  else
    some (.inr (.inl ()))

noncomputable def m_impl_onlyTiles (s1 : Str) : Option Bool :=
  (
      (loopM (fun s : Int => m_impl_onlyTiles_l1 s1 s) 0).bind fun x8 =>
      match x8 with
      | .inl _ =>
        some (.inl ())
      | .inr r29 =>
        some (.inr r29) : Option (Unit ⊕ Bool)).bind fun x3 =>
  match x3 with
  | .inl _ =>
    some true
  | .inr r32 =>
    some r32

noncomputable def m_impl_ValidPile_l1 (s1 : Str) (n19 : Int) : Option (Int ⊕ (Unit ⊕ Bool)) :=
  bif decide (n19 < (s1.length : Int)) then
    (chk (n19 - 1)).bind fun z29 =>
    (getL s1 z29).bind fun c31 =>
    (getL s1 n19).bind fun c33 =>
    bif decide (c33 < c31) then
      some (.inr (.inr false))
    else
      (chk (n19 + 1)).bind fun z36 =>
      some (.inl z36)
  else
    some (.inr (.inl ()))

noncomputable def m_impl_ValidPile (s1 : Str) : Option Bool :=
  (
      bif decide (120 < (s1.length : Int)) then
        some true
      else
        (m_impl_onlyTiles s1).bind fun y9 =>
        some (!y9) : Option Bool).bind fun t3 =>
  bif t3 then
    some false
  else
    (
        (loopM (fun s : Int => m_impl_ValidPile_l1 s1 s) 1).bind fun x22 =>
        match x22 with
        | .inl _ =>
          some (.inl ())
        | .inr r42 =>
          some (.inr r42) : Option (Unit ⊕ Bool)).bind fun x17 =>
    match x17 with
    | .inl _ =>
      some true
    | .inr r45 =>
      some r45

noncomputable def m_impl_ValidRack (s1 : Str) : Option Bool :=
  (
      bif decide ((s1.length : Int) ≤ 7) then
        (m_impl_ValidPile s1).bind fun y8 =>
        some y8
      else
        some false : Option Bool).bind fun t3 =>
  some t3

noncomputable def m_impl_onlySmall_l1 (s1 : Str) (n10 : Int) : Option (Int ⊕ (Unit ⊕ Bool)) :=
  bif decide (n10 < (s1.length : Int)) then
    (getL s1 n10).bind fun e19 =>
    (m_impl_small e19).bind fun y27 =>
    bif !y27 then
      some (.inr (.inr false))
    else
      (chk (n10 + 1)).bind fun z33 =>
      some (.inl z33)
  else
    some (.inr (.inl ()))

noncomputable def m_impl_onlySmall (s1 : Str) : Option Bool :=
  (
      (loopM (fun s : Int => m_impl_onlySmall_l1 s1 s) 0).bind fun x13 =>
      match x13 with
      | .inl _ =>
        some (.inl ())
      | .inr r39 =>
        some (.inr r39) : Option (Unit ⊕ Bool)).bind fun x3 =>
  match x3 with
  | .inl _ =>
    some true
  | .inr r42 =>
    some r42

noncomputable def m_impl_IsWord (s1 : Str) : Option Bool :=
  (
      bif decide (1 ≤ (s1.length : Int)) then
        bif decide ((s1.length : Int) ≤ 12) then
          (m_impl_onlySmall s1).bind fun y9 =>
          some y9
        else
          some false
      else
        some false : Option Bool).bind fun t3 =>
  some t3

noncomputable def m_impl_isPlaced (s1 : Str) : Option Bool :=
  (
      (m_strings_ToLower s1).bind fun y7 =>
      (m_impl_IsWord y7).bind fun y13 =>
      bif y13 then
        (m_strings_ToLower s1).bind fun y19 =>
        some ((s1.length : Int) == (y19.length : Int))
      else
        some false : Option Bool).bind fun t3 =>
  some t3

noncomputable def m_impl_isMain (s1 : Str) : Option Bool :=
  (
      bif decide (2 ≤ (s1.length : Int)) then
        (m_impl_isPlaced s1).bind fun y8 =>
        some y8
      else
        some false : Option Bool).bind fun t3 =>
  some t3

noncomputable def m_strings_Builder_copyCheck (b1 : Str) : Option Str :=
  some b1

noncomputable def m_strings_Builder_String (b1 : Str) : Option Str :=
  some b1

noncomputable def m_laws_eqPlay (a1 : Play) (b5 : Play) : Option Bool :=
  bif a1.Row != b5.Row then
    some false
  else
    bif a1.Col != b5.Col then
      some false
    else
      bif a1.Down != b5.Down then
        some false
      else
        bif a1.Word != b5.Word then
          some false
        else
          some true

noncomputable def m_spec_l01Split_l1 (s1 : Str) (by_3 : UInt8) (xs14 : (List Str)) (n17 : Int) (n19 : Int) : Option (((List Str) × Int × Int) ⊕ ((List Str) × Int)) :=
  bif decide (n19 < (s1.length : Int)) then
    (
        (getL s1 n19).bind fun c40 =>
        bif c40 == by_3 then
          (subL s1 n17 n19).bind fun s43 =>
          (catL xs14 ([s43] : (List Str))).bind fun xs48 =>
          (chk (n19 + 1)).bind fun z55 =>
          some (xs48, z55)
        else
          some (xs14, n17) : Option ((List Str) × Int)).bind fun x38 =>
    match x38 with
    | (xs33, n36) =>
      (chk (n19 + 1)).bind fun z60 =>
      some (.inl (xs33, n36, z60))
  else
    some (.inr (xs14, n17))

noncomputable def m_spec_l01Split (s1 : Str) (by_3 : UInt8) : Option (List Str) :=
  (
      (loopM (fun s : (List Str) × Int × Int => m_spec_l01Split_l1 s1 by_3 s.1 s.2.1 s.2.2) (([] : (List Str)), 0, 0)).bind fun x27 =>
      match x27 with
      | (xs22, n25) =>
        some (xs22, n25) : Option ((List Str) × Int)).bind fun x12 =>
  match x12 with
  | (xs7, n10) =>
    (subL s1 n10 (s1.length : Int)).bind fun s68 =>
    (catL xs7 ([s68] : (List Str))).bind fun xs73 =>
    some xs73

noncomputable def m_spec_l12Plain (p1 : Play) : Option Bool :=
  (
      (m_spec_l00In p1.Row 0 14).bind fun y13 =>
      bif y13 then
        (m_spec_l00In p1.Col 0 14).bind fun y19 =>
        bif y19 then
          (m_spec_l12Word p1.Word).bind fun y25 =>
          some y25
        else
          some false
      else
        some false : Option Bool).bind fun t9 =>
  some t9

noncomputable def m_spec_l01Digit (c1 : UInt8) : Option Bool :=
  (
      bif decide (48 ≤ c1) then
        some (decide (c1 ≤ 57))
      else
        some false : Option Bool).bind fun t2 =>
  some t2

noncomputable def m_spec_l01Dec_l1 (xs11 : Str) (d14 : Int) : Option ((Str × Int) ⊕ Str) :=
  bif d14 != 0 then
    (remI d14 10).bind fun z26 =>
    (
        bif decide (z26 < 0) then
          (chk (-z26)).bind fun z33 =>
          some z33
        else
          some z26 : Option Int).bind fun n28 =>
    (chk (48 + n28)).bind fun z38 =>
    (catL ([UInt8.ofNat (z38 % 256).toNat] : Str) xs11).bind fun xs43 =>
    (quoI d14 10).bind fun z50 =>
    some (.inl (xs43, z50))
  else
    some (.inr xs11)

noncomputable def m_spec_l01Dec (n1 : Int) : Option Str :=
  (
      (loopM (fun s : Str × Int => m_spec_l01Dec_l1 s.1 s.2) (([] : Str), n1)).bind fun xs17 =>
      some xs17 : Option Str).bind fun xs6 =>
  bif (xs6.length : Int) == 0 then
    some ([48] : Str)
  else
    bif decide (n1 < 0) then
      (catL ([45] : Str) xs6).bind fun s62 =>
      some s62
    else
      some xs6

noncomputable def m_spec_l01Number_l1 (n3 : Str) (i36 : Int) (n38 : Int) : Option ((Int × Int) ⊕ (Int ⊕ (Int × Bool))) :=
  bif decide (n38 < (n3.length : Int)) then
    (getL n3 n38).bind fun c49 =>
    (m_spec_l01Digit c49).bind fun y51 =>
    bif !y51 then
      some (.inr (.inr (0, false)))
    else
      (chk (10 * i36)).bind fun z57 =>
      (getL n3 n38).bind fun c59 =>
      (chk (z57 + ((c59 - 48).toNat : Int))).bind fun z61 =>
      (chk (n38 + 1)).bind fun z63 =>
      some (.inl (z61, z63))
  else
    some (.inr (.inl i36))

noncomputable def m_spec_l01Number (s1 : Str) : Option (Int × Bool) :=
  (
      (
          bif s1 != ([] : Str) then
            (getL s1 0).bind fun c12 =>
            some (c12 == 45)
          else
            some false : Option Bool).bind fun t7 =>
      bif t7 then
        (subL s1 1 (s1.length : Int)).bind fun s18 =>
        some s18
      else
        some s1 : Option Str).bind fun n3 =>
  (
      bif decide ((n3.length : Int) < 1) then
        some true
      else
        some (decide (18 < (n3.length : Int))) : Option Bool).bind fun t23 =>
  bif t23 then
    some (0, false)
  else
    (
        (loopM (fun s : Int × Int => m_spec_l01Number_l1 n3 s.1 s.2) (0, 0)).bind fun x43 =>
        match x43 with
        | .inl i41 =>
          some (.inl i41)
        | .inr r69 =>
          some (.inr r69) : Option (Int ⊕ (Int × Bool))).bind fun x34 =>
    match x34 with
    | .inl i32 =>
      (
          bif decide ((n3.length : Int) < (s1.length : Int)) then
            (chk (-i32)).bind fun z77 =>
            some z77
          else
            some i32 : Option Int).bind fun i72 =>
      (m_spec_l01Dec i72).bind fun y82 =>
      bif y82 != s1 then
        some (0, false)
      else
        some (i72, true)
    | .inr r89 =>
      some r89

noncomputable def m_spec_l12Read (s1 : Str) : Option (Play × Bool) :=
  (m_spec_l01Split s1 32).bind fun y7 =>
  (
      bif (y7.length : Int) != 2 then
        some true
      else
        (getL y7 0).bind fun e21 =>
        some (decide ((e21.length : Int) < 2)) : Option Bool).bind fun t14 =>
  bif t14 then
    some ((⟨0, 0, false, ([] : Str)⟩ : Play), false)
  else
    (getL y7 0).bind fun e37 =>
    (getL y7 1).bind fun e47 =>
    (getL e37 0).bind fun c56 =>
    (m_spec_l01Small c56).bind fun y58 =>
    (chk ((e37.length : Int) - 1)).bind fun z77 =>
    (getL e37 z77).bind fun c79 =>
    (chk ((e37.length : Int) - 1)).bind fun z81 =>
    (subL e37 0 z81).bind fun s83 =>
    (
        bif y58 then
          (getL e37 0).bind fun c92 =>
          (subL e37 1 (e37.length : Int)).bind fun s94 =>
          some (c92, s94)
        else
          some (c79, s83) : Option (UInt8 × Str)).bind fun x89 =>
    match x89 with
    | (digits85, row87) =>
      (m_spec_l01Number row87).bind fun y99 =>
      (chk (y99.1 - 1)).bind fun z105 =>
      (chk ((digits85.toNat : Int) - 97)).bind fun z110 =>
      (
          bif !y99.2 then
            some true
          else
            (m_spec_l12Plain (⟨z105, z110, y58, e47⟩ : Play)).bind fun y121 =>
            some (!y121) : Option Bool).bind fun t115 =>
      bif t115 then
        some ((⟨0, 0, false, ([] : Str)⟩ : Play), false)
      else
        some ((⟨z105, z110, y58, e47⟩ : Play), true)

noncomputable def m_internal_stringslite_HasPrefix (s1 : Str) (prefix_3 : Str) : Option Bool :=
  (
      bif decide ((prefix_3.length : Int) ≤ (s1.length : Int)) then
        (subL s1 0 (prefix_3.length : Int)).bind fun s10 =>
        some (s10 == prefix_3)
      else
        some false : Option Bool).bind fun t5 =>
  some t5

noncomputable def m_internal_stringslite_TrimPrefix (s1 : Str) (prefix_3 : Str) : Option Str :=
  (m_internal_stringslite_HasPrefix s1 prefix_3).bind fun y5 =>
  bif y5 then
    (subL s1 (prefix_3.length : Int) (s1.length : Int)).bind fun s11 =>
    some s11
  else
    some s1

noncomputable def m_strings_TrimPrefix (s1 : Str) (prefix_3 : Str) : Option Str :=
  (m_internal_stringslite_TrimPrefix s1 prefix_3).bind fun y5 =>
  some y5

noncomputable def m_impl_Decimal (n1 : Int) : Option Str :=
  (m_strconv_FormatInt n1 10).bind fun y3 =>
  some y3

noncomputable def m_impl_anyDecimal (s1 : Str) : Option (Int × Bool) :=
  (m_strconv_ParseInt s1 10 64).bind fun y3 =>
  (
      bif y3.2 then
        some true
      else
        (m_impl_Decimal y3.1).bind fun y17 =>
        some (y17 != s1) : Option Bool).bind fun t11 =>
  bif t11 then
    some (0, false)
  else
    some (y3.1, true)

noncomputable def m_impl_ReadDecimal (s1 : Str) : Option (Int × Bool) :=
  (m_strings_TrimPrefix s1 ([45] : Str)).bind fun y3 =>
  bif decide (18 < (y3.length : Int)) then
    some (0, false)
  else
    (m_impl_anyDecimal s1).bind fun y10 =>
    some (y10.1, y10.2)

noncomputable def m_impl_PlayText (p1 : Play) : Option Str :=
  (
      (m_impl_within p1.Row 0 14).bind fun y13 =>
      bif !y13 then
        some true
      else
        (m_impl_within p1.Col 0 14).bind fun y20 =>
        bif !y20 then
          some true
        else
          (m_impl_isMain p1.Word).bind fun y27 =>
          some (!y27) : Option Bool).bind fun t9 =>
  bif t9 then
    some ([] : Str)
  else
    (chk (p1.Row + 1)).bind fun z36 =>
    (chk (97 + p1.Col)).bind fun z38 =>
    (chk32 z38).bind fun z40 =>
    (encR z40).bind fun s42 =>
    (m_impl_Decimal z36).bind fun y44 =>
    bif p1.Down then
      (catL s42 y44).bind fun s51 =>
      (catL s51 ([32] : Str)).bind fun s53 =>
      (catL s53 p1.Word).bind fun s55 =>
      some s55
    else
      (catL y44 s42).bind fun s57 =>
      (catL s57 ([32] : Str)).bind fun s59 =>
      (catL s59 p1.Word).bind fun s61 =>
      some s61

noncomputable def m_impl_ReadPlay (s1 : Str) : Option (Play × Bool) :=
  (m_strings_Cut s1 ([32] : Str)).bind fun y7 =>
  bif decide ((y7.1.length : Int) < 2) then
    some ((⟨0, 0, false, ([] : Str)⟩ : Play), false)
  else
    (getL y7.1 0).bind fun c19 =>
    (m_impl_small c19).bind fun y21 =>
    (chk ((y7.1.length : Int) - 1)).bind fun z34 =>
    (subL y7.1 0 z34).bind fun s36 =>
    (chk ((y7.1.length : Int) - 1)).bind fun z38 =>
    (getL y7.1 z38).bind fun c40 =>
    (
        bif y21 then
          (subL y7.1 1 (y7.1.length : Int)).bind fun s50 =>
          (getL y7.1 0).bind fun c52 =>
          some (s50, c52)
        else
          some (s36, c40) : Option (Str × UInt8)).bind fun x46 =>
    match x46 with
    | (letter42, row44) =>
      (m_impl_ReadDecimal letter42).bind fun y57 =>
      (chk (y57.1 - 1)).bind fun z63 =>
      (chk ((row44.toNat : Int) - 97)).bind fun z65 =>
      (
          bif s1 == ([] : Str) then
            some true
          else
            (m_impl_PlayText (⟨z63, z65, y21, y7.2.1⟩ : Play)).bind fun y79 =>
            some (y79 != s1) : Option Bool).bind fun t73 =>
      bif t73 then
        some ((⟨0, 0, false, ([] : Str)⟩ : Play), false)
      else
        some ((⟨z63, z65, y21, y7.2.1⟩ : Play), true)

noncomputable def m_strings_Builder_WriteString (b1 : Str) (s7 : Str) : Option (Int × Unit × Str) :=
  (m_strings_Builder_copyCheck b1).bind fun y9 =>
  (catL y9 s7).bind fun xs18 =>
  some ((s7.length : Int), (), xs18)

noncomputable def m_spec_l20Action (a1 : Action) : Option Bool :=
  (m_spec_l00In a1.Seconds 0 36000).bind fun y12 =>
  bif !y12 then
    some false
  else
    bif a1.Kind == 1 then
      (
          (m_spec_l12Plain a1.Play).bind fun y30 =>
          bif y30 then
            some (a1.Tiles == ([] : Str))
          else
            some false : Option Bool).bind fun none26 =>
      some none26
    else
      bif a1.Kind == 2 then
        (
            bif a1.Play == (⟨0, 0, false, ([] : Str)⟩ : Play) then
              bif a1.Tiles != ([] : Str) then
                (m_spec_l03Rack a1.Tiles).bind fun y47 =>
                some y47
              else
                some false
            else
              some false : Option Bool).bind fun none40 =>
        some none40
      else
        (
            bif a1.Kind == 3 then
              some (a1.Kind == 3)
            else
              some (a1.Kind == 4) : Option Bool).bind fun t56 =>
        bif t56 then
          (
              bif a1.Play == (⟨0, 0, false, ([] : Str)⟩ : Play) then
                some (a1.Tiles == ([] : Str))
              else
                some false : Option Bool).bind fun none65 =>
          some none65
        else
          some false

noncomputable def m_spec_l20Read (s1 : Str) : Option (Action × Bool) :=
  (m_spec_l01Split s1 32).bind fun y7 =>
  (
      (
          (getL y7 0).bind fun e41 =>
          bif e41 == ([112, 108, 97, 121] : Str) then
            some ((y7.length : Int) == 4)
          else
            some false : Option Bool).bind fun t37 =>
      bif t37 then
        (getL y7 1).bind fun e60 =>
        (catL e60 ([32] : Str)).bind fun s69 =>
        (getL y7 2).bind fun e71 =>
        (catL s69 e71).bind fun s80 =>
        (m_spec_l12Read s80).bind fun y82 =>
        some (1, y82.1.Row, y82.1.Col, y82.1.Down, y82.1.Word, ([] : Str), y82.2)
      else
        (
            (getL y7 0).bind fun e98 =>
            bif e98 == ([101, 120, 99, 104, 97, 110, 103, 101] : Str) then
              some ((y7.length : Int) == 3)
            else
              some false : Option Bool).bind fun t94 =>
        bif t94 then
          (getL y7 1).bind fun e113 =>
          some (2, 0, 0, false, ([] : Str), e113, true)
        else
          (
              (getL y7 0).bind fun e130 =>
              bif e130 == ([112, 97, 115, 115] : Str) then
                some ((y7.length : Int) == 2)
              else
                some false : Option Bool).bind fun t126 =>
          bif t126 then
            some (3, 0, 0, false, ([] : Str), ([] : Str), true)
          else
            (
                (getL y7 0).bind fun e153 =>
                bif e153 == ([99, 104, 97, 108, 108, 101, 110, 103, 101] : Str) then
                  some ((y7.length : Int) == 2)
                else
                  some false : Option Bool).bind fun t149 =>
            bif t149 then
              some (4, 0, 0, false, ([] : Str), ([] : Str), true)
            else
              some (0, 0, 0, false, ([] : Str), ([] : Str), false) : Option (Int × Int × Int × Bool × Str × Str × Bool)).bind fun x35 =>
  match x35 with
  | (n21, n23, n25, t27, s29, s31, n33) =>
    (chk ((y7.length : Int) - 1)).bind fun z175 =>
    (getL y7 z175).bind fun e177 =>
    (m_spec_l01Number e177).bind fun y186 =>
    (
        bif !n33 then
          some true
        else
          bif !y186.2 then
            some true
          else
            (m_spec_l20Action (⟨n21, ⟨n23, n25, t27, s29⟩, s31, y186.1⟩ : Action)).bind fun y203 =>
            some (!y203) : Option Bool).bind fun t195 =>
    bif t195 then
      some ((⟨0, ⟨0, 0, false, ([] : Str)⟩, ([] : Str), 0⟩ : Action), false)
    else
      some ((⟨n21, ⟨n23, n25, t27, s29⟩, s31, y186.1⟩ : Action), true)

noncomputable def m_impl_joined (words1 : (List Str)) : Option Str :=
  (m_strings_Join words1 ([32] : Str)).bind fun y5 =>
  some y5

noncomputable def m_impl_ReadAction_1 (p1 : Action) (p9 : (List Str)) : Option Action :=
  bif (p9.length : Int) == 4 then
    (getL p9 1).bind fun e23 =>
    (getL p9 2).bind fun e32 =>
    (m_impl_joined ([e23, e32] : (List Str))).bind fun y44 =>
    (m_impl_ReadPlay y44).bind fun y50 =>
    some (⟨1, ⟨y50.1.Row, y50.1.Col, y50.1.Down, y50.1.Word⟩, p1.Tiles, p1.Seconds⟩ : Action)
  else
    some (⟨1, ⟨p1.Play.Row, p1.Play.Col, p1.Play.Down, p1.Play.Word⟩, p1.Tiles, p1.Seconds⟩ : Action)

noncomputable def m_impl_ReadAction_2 (p1 : Action) (p9 : (List Str)) : Option Action :=
  bif (p9.length : Int) == 3 then
    (getL p9 1).bind fun e22 =>
    some (⟨2, ⟨p1.Play.Row, p1.Play.Col, p1.Play.Down, p1.Play.Word⟩, e22, p1.Seconds⟩ : Action)
  else
    some (⟨2, ⟨p1.Play.Row, p1.Play.Col, p1.Play.Down, p1.Play.Word⟩, p1.Tiles, p1.Seconds⟩ : Action)

noncomputable def m_impl_ReadAction_3 (p1 : Action) : Option Action :=
  some (⟨3, ⟨p1.Play.Row, p1.Play.Col, p1.Play.Down, p1.Play.Word⟩, p1.Tiles, p1.Seconds⟩ : Action)

noncomputable def m_impl_ReadAction_4 (p1 : Action) : Option Action :=
  some (⟨4, ⟨p1.Play.Row, p1.Play.Col, p1.Play.Down, p1.Play.Word⟩, p1.Tiles, p1.Seconds⟩ : Action)

noncomputable def m_impl_ValidAction (a1 : Action) : Option Bool :=
  (m_impl_within a1.Seconds 0 36000).bind fun y12 =>
  bif !y12 then
    some false
  else
    bif a1.Kind == 1 then
      (
          (m_impl_PlayText a1.Play).bind fun y23 =>
          bif y23 != ([] : Str) then
            some (a1.Tiles == ([] : Str))
          else
            some false : Option Bool).bind fun t19 =>
      some t19
    else
      bif a1.Kind == 2 then
        (
            bif a1.Play == (⟨0, 0, false, ([] : Str)⟩ : Play) then
              bif a1.Tiles != ([] : Str) then
                (m_impl_ValidRack a1.Tiles).bind fun y40 =>
                some y40
              else
                some false
            else
              some false : Option Bool).bind fun t34 =>
        some t34
      else
        (
            bif a1.Kind == 3 then
              some (a1.Kind == 3)
            else
              some (a1.Kind == 4) : Option Bool).bind fun t49 =>
        bif t49 then
          (
              bif a1.Play == (⟨0, 0, false, ([] : Str)⟩ : Play) then
                some (a1.Tiles == ([] : Str))
              else
                some false : Option Bool).bind fun t58 =>
          some t58
        else
          some false

noncomputable def m_impl_ActionText (a1 : Action) : Option Str :=
  (m_impl_ValidAction a1).bind fun y12 =>
  bif !y12 then
    some ([] : Str)
  else
    (m_impl_Decimal a1.Seconds).bind fun y18 =>
    bif a1.Kind == 1 then
      (m_impl_PlayText a1.Play).bind fun y25 =>
      (m_impl_joined ([([112, 108, 97, 121] : Str), y25, y18] : (List Str))).bind fun y34 =>
      some y34
    else
      bif a1.Kind == 2 then
        (m_impl_joined ([([101, 120, 99, 104, 97, 110, 103, 101] : Str), a1.Tiles, y18] : (List Str))).bind fun y44 =>
        some y44
      else
        bif a1.Kind == 3 then
          (m_impl_joined ([([112, 97, 115, 115] : Str), y18] : (List Str))).bind fun y54 =>
          some y54
        else
          (m_impl_joined ([([99, 104, 97, 108, 108, 101, 110, 103, 101] : Str), y18] : (List Str))).bind fun y63 =>
          some y63

noncomputable def m_impl_ReadAction (s1 : Str) : Option (Action × Bool) :=
  (m_strings_Split s1 ([32] : Str)).bind fun y7 =>
  (chk ((y7.length : Int) - 1)).bind fun z30 =>
  (getL y7 z30).bind fun e32 =>
  (m_impl_ReadDecimal e32).bind fun y41 =>
  (
      (getL y7 0).bind fun e66 =>
      bif e66 == ([112, 108, 97, 121] : Str) then
        (m_impl_ReadAction_1 (⟨0, ⟨0, 0, false, ([] : Str)⟩, ([] : Str), y41.1⟩ : Action) y7).bind fun y76 =>
        some (y76.Kind, y76.Play.Row, y76.Play.Col, y76.Play.Down, y76.Play.Word, y76.Tiles, y76.Seconds)
      else
        bif e66 == ([101, 120, 99, 104, 97, 110, 103, 101] : Str) then
          (m_impl_ReadAction_2 (⟨0, ⟨0, 0, false, ([] : Str)⟩, ([] : Str), y41.1⟩ : Action) y7).bind fun y89 =>
          some (y89.Kind, y89.Play.Row, y89.Play.Col, y89.Play.Down, y89.Play.Word, y89.Tiles, y89.Seconds)
        else
          bif e66 == ([112, 97, 115, 115] : Str) then
            (m_impl_ReadAction_3 (⟨0, ⟨0, 0, false, ([] : Str)⟩, ([] : Str), y41.1⟩ : Action)).bind fun y102 =>
            some (y102.Kind, y102.Play.Row, y102.Play.Col, y102.Play.Down, y102.Play.Word, y102.Tiles, y102.Seconds)
          else
            bif e66 == ([99, 104, 97, 108, 108, 101, 110, 103, 101] : Str) then
              (m_impl_ReadAction_4 (⟨0, ⟨0, 0, false, ([] : Str)⟩, ([] : Str), y41.1⟩ : Action)).bind fun y115 =>
              some (y115.Kind, y115.Play.Row, y115.Play.Col, y115.Play.Down, y115.Play.Word, y115.Tiles, y115.Seconds)
            else
              some (0, 0, 0, false, ([] : Str), ([] : Str), y41.1) : Option (Int × Int × Int × Bool × Str × Str × Int)).bind fun x64 =>
  match x64 with
  | (n50, n52, n54, t56, s58, s60, n62) =>
    (
        (m_impl_ValidAction (⟨n50, ⟨n52, n54, t56, s58⟩, s60, n62⟩ : Action)).bind fun y133 =>
        bif !y133 then
          some true
        else
          (m_impl_ActionText (⟨n50, ⟨n52, n54, t56, s58⟩, s60, n62⟩ : Action)).bind fun y140 =>
          some (y140 != s1) : Option Bool).bind fun t129 =>
    bif t129 then
      some ((⟨0, ⟨0, 0, false, ([] : Str)⟩, ([] : Str), 0⟩ : Action), false)
    else
      some ((⟨n50, ⟨n52, n54, t56, s58⟩, s60, n62⟩ : Action), true)

noncomputable def m_laws_eqAction (a1 : Action) (b8 : Action) : Option Bool :=
  bif a1.Kind != b8.Kind then
    some false
  else
    (m_laws_eqPlay a1.Play b8.Play).bind fun y24 =>
    bif !y24 then
      some false
    else
      bif a1.Tiles != b8.Tiles then
        some false
      else
        bif a1.Seconds != b8.Seconds then
          some false
        else
          some true

noncomputable def m_spec_l20Ok_l1 (r1 : Record) (n7 : Int) : Option (Int ⊕ (Unit ⊕ Bool)) :=
  bif decide (n7 < (r1.Actions.length : Int)) then
    (getL r1.Actions n7).bind fun e22 =>
    (m_spec_l20Action e22).bind fun y36 =>
    bif !y36 then
      some (.inr (.inr false))
    else
      (chk (n7 + 1)).bind fun z42 =>
      some (.inl z42)
  else
    some (.inr (.inl ()))

noncomputable def m_spec_l20Ok (r1 : Record) : Option Bool :=
  (
      (loopM (fun s : Int => m_spec_l20Ok_l1 r1 s) 0).bind fun x10 =>
      match x10 with
      | .inl _ =>
        some (.inl ())
      | .inr r48 =>
        some (.inr r48) : Option (Unit ⊕ Bool)).bind fun x5 =>
  match x5 with
  | .inl _ =>
    (
        (m_spec_l00In r1.Seed 0 2147483647).bind fun y60 =>
        bif y60 then
          some (decide ((r1.Actions.length : Int) ≤ 200))
        else
          some false : Option Bool).bind fun i51 =>
    some i51
  | .inr r70 =>
    some r70

noncomputable def m_spec_ReadRecord_l1 (y7 : (List Str)) (xs108 : (List Action)) (a111 : Int) : Option (((List Action) × Int) ⊕ ((List Action) ⊕ (Record × Bool))) :=
  (chk ((y7.length : Int) - 1)).bind fun z123 =>
  bif decide (a111 < z123) then
    (getL y7 a111).bind fun e126 =>
    (m_spec_l20Read e126).bind fun y135 =>
    bif !y135.2 then
      some (.inr (.inr ((⟨0, ([] : (List Action))⟩ : Record), false)))
    else
      (catL xs108 ([y135.1] : (List Action))).bind fun xs163 =>
      (chk (a111 + 1)).bind fun z173 =>
      some (.inl (xs163, z173))
  else
    some (.inr (.inl xs108))

noncomputable def m_spec_ReadRecord (s1 : Str) : Option (Record × Bool) :=
  (m_spec_l01Split s1 10).bind fun y7 =>
  (getL y7 0).bind fun e14 =>
  (m_spec_l01Split e14 32).bind fun y23 =>
  (chk ((y23.length : Int) - 1)).bind fun z31 =>
  (getL y23 z31).bind fun e33 =>
  (m_spec_l01Number e33).bind fun y42 =>
  (
      bif !y42.2 then
        some true
      else
        bif (y23.length : Int) != 2 then
          some true
        else
          (getL y23 0).bind fun e57 =>
          bif e57 != ([115, 101, 101, 100] : Str) then
            some true
          else
            bif decide ((y7.length : Int) < 2) then
              some true
            else
              bif decide (202 < (y7.length : Int)) then
                some true
              else
                (chk ((y7.length : Int) - 1)).bind fun z75 =>
                (getL y7 z75).bind fun e77 =>
                some (e77 != ([] : Str)) : Option Bool).bind fun t48 =>
  bif t48 then
    some ((⟨0, ([] : (List Action))⟩ : Record), false)
  else
    (
        (loopM (fun s : (List Action) × Int => m_spec_ReadRecord_l1 y7 s.1 s.2) (([] : (List Action)), 1)).bind fun x117 =>
        match x117 with
        | .inl xs114 =>
          some (.inl (([] : (List Action)), xs114))
        | .inr r179 =>
          some (.inr r179) : Option (((List Action) × (List Action)) ⊕ (Record × Bool))).bind fun x106 =>
    match x106 with
    | .inl (xs100, xs103) =>
      (m_spec_l20Ok (⟨y42.1, xs103⟩ : Record)).bind fun y182 =>
      bif !y182 then
        some ((⟨0, ([] : (List Action))⟩ : Record), false)
      else
        some ((⟨y42.1, xs103⟩ : Record), true)
    | .inr r196 =>
      some r196

noncomputable def m_internal_stringslite_HasSuffix (s1 : Str) (suffix3 : Str) : Option Bool :=
  (
      bif decide ((suffix3.length : Int) ≤ (s1.length : Int)) then
        (chk ((s1.length : Int) - (suffix3.length : Int))).bind fun z10 =>
        (subL s1 z10 (s1.length : Int)).bind fun s12 =>
        some (s12 == suffix3)
      else
        some false : Option Bool).bind fun t5 =>
  some t5

noncomputable def m_internal_stringslite_CutSuffix (s1 : Str) (suffix3 : Str) : Option (Str × Bool) :=
  (m_internal_stringslite_HasSuffix s1 suffix3).bind fun y5 =>
  bif !y5 then
    some (s1, false)
  else
    (chk ((s1.length : Int) - (suffix3.length : Int))).bind fun z11 =>
    (subL s1 0 z11).bind fun s13 =>
    some (s13, true)

noncomputable def m_strings_CutSuffix (s1 : Str) (suffix3 : Str) : Option (Str × Bool) :=
  (m_internal_stringslite_CutSuffix s1 suffix3).bind fun y5 =>
  some (y5.1, y5.2)

noncomputable def m_impl_linesOf (s1 : Str) : Option ((List Str) × Bool) :=
  bif s1 == ([] : Str) then
    some (([] : (List Str)), true)
  else
    (m_strings_CutSuffix s1 ([10] : Str)).bind fun y7 =>
    (m_strings_Split y7.1 ([10] : Str)).bind fun y13 =>
    some (y13, y7.2)

noncomputable def m_impl_ValidRecord_l1 (r1 : Record) (n28 : Int) : Option (Int ⊕ (Unit ⊕ Bool)) :=
  bif decide (n28 < (r1.Actions.length : Int)) then
    (getL r1.Actions n28).bind fun e37 =>
    (m_impl_ValidAction e37).bind fun y58 =>
    bif !y58 then
      some (.inr (.inr false))
    else
      (chk (n28 + 1)).bind fun z64 =>
      some (.inl z64)
  else
    some (.inr (.inl ()))

noncomputable def m_impl_ValidRecord (r1 : Record) : Option Bool :=
  (
      (m_impl_within r1.Seed 0 2147483647).bind fun y14 =>
      bif !y14 then
        some true
      else
        some (decide (200 < (r1.Actions.length : Int))) : Option Bool).bind fun t10 =>
  bif t10 then
    some false
  else
    (
        (loopM (fun s : Int => m_impl_ValidRecord_l1 r1 s) 0).bind fun x31 =>
        match x31 with
        | .inl _ =>
          some (.inl ())
        | .inr r70 =>
          some (.inr r70) : Option (Unit ⊕ Bool)).bind fun x25 =>
    match x25 with
    | .inl _ =>
      some true
    | .inr r73 =>
      some r73

noncomputable def m_impl_RecordText_l1 (r1 : Record) (xs50 : Str) (n53 : Int) : Option ((Str × Int) ⊕ Str) :=
  bif decide (n53 < (r1.Actions.length : Int)) then
    (getL r1.Actions n53).bind fun e67 =>
    (m_impl_ActionText e67).bind fun y88 =>
    (catL y88 ([10] : Str)).bind fun s94 =>
    (m_strings_Builder_WriteString xs50 s94).bind fun y96 =>
    (chk (n53 + 1)).bind fun z106 =>
    some (.inl (y96.2.2, z106))
  else
    some (.inr xs50)

noncomputable def m_impl_RecordText (r1 : Record) : Option Str :=
  (m_impl_ValidRecord r1).bind fun y10 =>
  bif !y10 then
    some ([] : Str)
  else
    (m_impl_Decimal r1.Seed).bind fun y20 =>
    (catL ([115, 101, 101, 100, 32] : Str) y20).bind fun s26 =>
    (catL s26 ([10] : Str)).bind fun s28 =>
    (m_strings_Builder_WriteString ([] : Str) s28).bind fun y30 =>
    (
        (loopM (fun s : Str × Int => m_impl_RecordText_l1 r1 s.1 s.2) (y30.2.2, 0)).bind fun xs58 =>
        some xs58 : Option Str).bind fun xs42 =>
    (m_strings_Builder_String xs42).bind fun y114 =>
    some y114

noncomputable def m_impl_ReadRecord_l1 (l71 : (List Str)) (xs77 : (List Action)) (n80 : Int) : Option (((List Action) × Int) ⊕ ((List Action) ⊕ (Record × Bool))) :=
  bif decide (n80 < (l71.length : Int)) then
    (getL l71 n80).bind fun e92 =>
    (m_impl_ReadAction e92).bind fun y101 =>
    bif !y101.2 then
      some (.inr (.inr ((⟨0, ([] : (List Action))⟩ : Record), false)))
    else
      (catL xs77 ([y101.1] : (List Action))).bind fun xs129 =>
      (chk (n80 + 1)).bind fun z139 =>
      some (.inl (xs129, z139))
  else
    some (.inr (.inl xs77))

noncomputable def m_impl_ReadRecord (s1 : Str) : Option (Record × Bool) :=
  (m_impl_linesOf s1).bind fun y7 =>
  (
      bif !y7.2 then
        some true
      else
        bif (y7.1.length : Int) == 0 then
          some true
        else
          some (decide (201 < (y7.1.length : Int))) : Option Bool).bind fun t15 =>
  bif t15 then
    some ((⟨0, ([] : (List Action))⟩ : Record), false)
  else
    (getL y7.1 0).bind fun e39 =>
    (m_strings_TrimPrefix e39 ([115, 101, 101, 100, 32] : Str)).bind fun y48 =>
    (m_impl_ReadDecimal y48).bind fun y54 =>
    (
        (subL y7.1 1 (y7.1.length : Int)).bind fun l71 =>
        (loopM (fun s : (List Action) × Int => m_impl_ReadRecord_l1 l71 s.1 s.2) (([] : (List Action)), 0)).bind fun x86 =>
        match x86 with
        | .inl xs83 =>
          some (.inl (([] : (List Action)), xs83))
        | .inr r145 =>
          some (.inr r145) : Option (((List Action) × (List Action)) ⊕ (Record × Bool))).bind fun x69 =>
    match x69 with
    | .inl (xs63, xs66) =>
      (
          (m_impl_ValidRecord (⟨y54.1, xs66⟩ : Record)).bind fun y152 =>
          bif !y152 then
            some true
          else
            (m_impl_RecordText (⟨y54.1, xs66⟩ : Record)).bind fun y159 =>
            some (y159 != s1) : Option Bool).bind fun t148 =>
      bif t148 then
        some ((⟨0, ([] : (List Action))⟩ : Record), false)
      else
        some ((⟨y54.1, xs66⟩ : Record), true)
    | .inr r176 =>
      some r176

noncomputable def m_laws_eqActionS_l1 (a1 : (List Action)) (b5 : (List Action)) (n14 : Int) : Option (Int ⊕ (Unit ⊕ Bool)) :=
  bif decide (n14 < (a1.length : Int)) then
    (getL a1 n14).bind fun e25 =>
    (getL b5 n14).bind fun e39 =>
    (m_laws_eqAction e25 e39).bind fun y53 =>
    bif !y53 then
      some (.inr (.inr false))
    else
      (chk (n14 + 1)).bind fun z59 =>
      some (.inl z59)
  else
    some (.inr (.inl ()))

noncomputable def m_laws_eqActionS (a1 : (List Action)) (b5 : (List Action)) : Option Bool :=
  bif (a1.length : Int) != (b5.length : Int) then
    some false
  else
    (
        (loopM (fun s : Int => m_laws_eqActionS_l1 a1 b5 s) 0).bind fun x17 =>
        match x17 with
        | .inl _ =>
          some (.inl ())
        | .inr r65 =>
          some (.inr r65) : Option (Unit ⊕ Bool)).bind fun x12 =>
    match x12 with
    | .inl _ =>
      some true
    | .inr r68 =>
      some r68

noncomputable def m_laws_eqRecord (a1 : Record) (b6 : Record) : Option Bool :=
  bif a1.Seed != b6.Seed then
    some false
  else
    (m_laws_eqActionS a1.Actions b6.Actions).bind fun y20 =>
    bif !y20 then
      some false
    else
      some true

noncomputable def m_laws_markText_l1 (k8 : Int) (s10 : Str) : Option ((Int × Str) ⊕ Str) :=
  bif decide (0 < k8) then
    (remI k8 10).bind fun z21 =>
    (chk (48 + z21)).bind fun z23 =>
    (catL ([UInt8.ofNat (z23 % 256).toNat] : Str) s10).bind fun s29 =>
    (quoI k8 10).bind fun z31 =>
    some (.inl (z31, s29))
  else
    some (.inr s10)

noncomputable def m_laws_markText (k1 : Int) : Option Str :=
  bif decide (k1 ≤ 0) then
    some ([109, 48] : Str)
  else
    (
        (loopM (fun s : Int × Str => m_laws_markText_l1 s.1 s.2) (k1, ([] : Str))).bind fun s13 =>
        some s13 : Option Str).bind fun s4 =>
    (catL ([109] : Str) s4).bind fun s39 =>
    some s39

noncomputable def m_laws_markActionS_l1 (xs12 : (List Action)) (k14 : Int) (n16 : Int) : Option (((List Action) × Int × Int) ⊕ ((List Action) × Int)) :=
  bif decide (n16 < (xs12.length : Int)) then
    (getL xs12 n16).bind fun e30 =>
    (setL xs12 n16 (⟨k14, ⟨e30.Play.Row, e30.Play.Col, e30.Play.Down, e30.Play.Word⟩, e30.Tiles, e30.Seconds⟩ : Action)).bind fun xs45 =>
    (chk (k14 + 1)).bind fun z47 =>
    (getL xs45 n16).bind fun e49 =>
    (setL xs45 n16 (⟨e49.Kind, ⟨z47, e49.Play.Col, e49.Play.Down, e49.Play.Word⟩, e49.Tiles, e49.Seconds⟩ : Action)).bind fun xs64 =>
    (chk (z47 + 1)).bind fun z66 =>
    (getL xs64 n16).bind fun e68 =>
    (setL xs64 n16 (⟨e68.Kind, ⟨e68.Play.Row, z66, e68.Play.Down, e68.Play.Word⟩, e68.Tiles, e68.Seconds⟩ : Action)).bind fun xs83 =>
    (chk (z66 + 1)).bind fun z85 =>
    (remI z85 3).bind fun z87 =>
    (getL xs83 n16).bind fun e89 =>
    (setL xs83 n16 (⟨e89.Kind, ⟨e89.Play.Row, e89.Play.Col, z87 == 0, e89.Play.Word⟩, e89.Tiles, e89.Seconds⟩ : Action)).bind fun xs104 =>
    (chk (z85 + 1)).bind fun z106 =>
    (m_laws_markText z106).bind fun y108 =>
    (getL xs104 n16).bind fun e114 =>
    (setL xs104 n16 (⟨e114.Kind, ⟨e114.Play.Row, e114.Play.Col, e114.Play.Down, y108⟩, e114.Tiles, e114.Seconds⟩ : Action)).bind fun xs129 =>
    (chk (z106 + 1)).bind fun z131 =>
    (m_laws_markText z131).bind fun y133 =>
    (getL xs129 n16).bind fun e139 =>
    (setL xs129 n16 (⟨e139.Kind, ⟨e139.Play.Row, e139.Play.Col, e139.Play.Down, e139.Play.Word⟩, y133, e139.Seconds⟩ : Action)).bind fun xs154 =>
    (chk (z131 + 1)).bind fun z156 =>
    (getL xs154 n16).bind fun e158 =>
    (setL xs154 n16 (⟨e158.Kind, ⟨e158.Play.Row, e158.Play.Col, e158.Play.Down, e158.Play.Word⟩, e158.Tiles, z156⟩ : Action)).bind fun xs173 =>
    (chk (z156 + 1)).bind fun z175 =>
    (chk (n16 + 1)).bind fun z177 =>
    some (.inl (xs173, z175, z177))
  else
    some (.inr (xs12, k14))

noncomputable def m_laws_markActionS (a1 : (List Action)) (k4 : Int) : Option (Int × (List Action)) :=
  (
      (loopM (fun s : (List Action) × Int × Int => m_laws_markActionS_l1 s.1 s.2.1 s.2.2) (a1, k4, 0)).bind fun x23 =>
      match x23 with
      | (xs19, k21) =>
        some (xs19, k21) : Option ((List Action) × Int)).bind fun x10 =>
  match x10 with
  | (xs6, k8) =>
    some (k8, xs6)

noncomputable def m_laws_markRecord (a1 : Record) (k5 : Int) : Option (Int × (List Action)) :=
  (m_laws_markActionS a1.Actions k5).bind fun y11 =>
  some (y11.1, y11.2)

noncomputable def m_laws_heldActionS_l1 (a1 : (List Action)) (k11 : Int) (n13 : Int) : Option ((Int × Int) ⊕ (Int ⊕ Int)) :=
  bif decide (n13 < (a1.length : Int)) then
    (getL a1 n13).bind fun e25 =>
    bif e25.Kind != k11 then
      some (.inr (.inr (-1)))
    else
      (chk (k11 + 1)).bind fun z40 =>
      (getL a1 n13).bind fun e42 =>
      bif e42.Play.Row != z40 then
        some (.inr (.inr (-1)))
      else
        (chk (z40 + 1)).bind fun z57 =>
        (getL a1 n13).bind fun e59 =>
        bif e59.Play.Col != z57 then
          some (.inr (.inr (-1)))
        else
          (chk (z57 + 1)).bind fun z74 =>
          (getL a1 n13).bind fun e76 =>
          (remI z74 3).bind fun z90 =>
          bif e76.Play.Down != (z90 == 0) then
            some (.inr (.inr (-1)))
          else
            (chk (z74 + 1)).bind fun z93 =>
            (getL a1 n13).bind fun e96 =>
            (m_laws_markText z93).bind fun y110 =>
            bif e96.Play.Word != y110 then
              some (.inr (.inr (-1)))
            else
              (chk (z93 + 1)).bind fun z117 =>
              (getL a1 n13).bind fun e120 =>
              (m_laws_markText z117).bind fun y134 =>
              bif e120.Tiles != y134 then
                some (.inr (.inr (-1)))
              else
                (chk (z117 + 1)).bind fun z141 =>
                (getL a1 n13).bind fun e143 =>
                bif e143.Seconds != z141 then
                  some (.inr (.inr (-1)))
                else
                  (chk (z141 + 1)).bind fun z158 =>
                  (chk (n13 + 1)).bind fun z160 =>
                  some (.inl (z158, z160))
  else
    some (.inr (.inl k11))

noncomputable def m_laws_heldActionS (a1 : (List Action)) (k5 : Int) : Option Int :=
  (
      (loopM (fun s : Int × Int => m_laws_heldActionS_l1 a1 s.1 s.2) (k5, 0)).bind fun x18 =>
      match x18 with
      | .inl k16 =>
        some (.inl k16)
      | .inr r166 =>
        some (.inr r166) : Option (Int ⊕ Int)).bind fun x9 =>
  match x9 with
  | .inl k7 =>
    some k7
  | .inr r169 =>
    some r169

noncomputable def m_laws_heldRecord (a1 : Record) (k6 : Int) : Option Int :=
  (m_laws_heldActionS a1.Actions k6).bind fun y12 =>
  bif decide (y12 < 0) then
    some (-1)
  else
    some y12

noncomputable def m_laws_FnExactReadRecord (aS1 : Str) : Option Bool :=
  bif decide (1048576 < (aS1.length : Int)) then
    some true
  else
    (m_spec_ReadRecord aS1).bind fun y4 =>
    (m_impl_ReadRecord aS1).bind fun y19 =>
    (
        (m_laws_eqRecord y19.1 y4.1).bind fun y38 =>
        bif !y38 then
          some true
        else
          some (y19.2 != y4.2) : Option Bool).bind fun t34 =>
    bif t34 then
      some false
    else
      (m_laws_markRecord y19.1 1).bind fun y48 =>
      (m_laws_heldRecord (⟨y19.1.Seed, y48.2⟩ : Record) 1).bind fun y55 =>
      bif decide (y55 < 0) then
        some false
      else
        bif y55 != y48.1 then
          some false
        else
          (m_impl_ReadRecord aS1).bind fun y63 =>
          (
              (m_laws_eqRecord y63.1 y4.1).bind fun y82 =>
              bif !y82 then
                some true
              else
                some (y63.2 != y4.2) : Option Bool).bind fun t78 =>
          bif t78 then
            some false
          else
            (m_laws_heldRecord (⟨y19.1.Seed, y48.2⟩ : Record) 1).bind fun y92 =>
            bif decide (y92 < 0) then
              some false
            else
              bif y92 != y48.1 then
                some false
              else
                some true

end Go.Proofs.YtbekokenomhgeaaGreatDoor
