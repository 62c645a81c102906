/- The models of the program's functions. Printed by gen.py. -/
import Derived.Test.YtgmbcolpchckbaaDoorTyp
import Derived.Test.YtgmbcolpchckbaaDoorEngM
namespace Go.Proofs.YtgmbcolpchckbaaDoor
open Go Go.RowKit
set_option linter.unusedSimpArgs false
set_option linter.unusedVariables false

noncomputable def m_laws_szCase (a1 : Case) (left5 : Int) : Option Int :=
  (chk (left5 - (a1.Tile.length : Int))).bind fun z11 =>
  bif decide (z11 < 0) then
    some (-1)
  else
    some z11

noncomputable def m_laws_toCase (a1 : Case) : Option Case :=
  some a1

noncomputable def m_spec_l01Dec_l1 (xs11 : Str) (d14 : Int) : Option ((Str × Int) ⊕ Str) :=
  bif d14 != 0 then
    (remI d14 10).bind fun z26 =>
    (
        bif decide (z26 < 0) then
          (chk (-z26)).bind fun z33 =>
          some z33
        else
          some z26 : Option Int).bind fun n28 =>
    (chk (48 + n28)).bind fun z38 =>
    (catL ([UInt8.ofNat (z38 % 256).toNat] : Str) xs11).bind fun xs43 =>
    (quoI d14 10).bind fun z50 =>
    some (.inl (xs43, z50))
  else
    some (.inr xs11)

noncomputable def m_spec_l01Dec (n1 : Int) : Option Str :=
  (
      (loopM (fun s : Str × Int => m_spec_l01Dec_l1 s.1 s.2) (([] : Str), n1)).bind fun xs17 =>
      some xs17 : Option Str).bind fun xs6 =>
  bif (xs6.length : Int) == 0 then
    some ([48] : Str)
  else
    bif decide (n1 < 0) then
      (catL ([45] : Str) xs6).bind fun s62 =>
      some s62
    else
      some xs6

noncomputable def m_spec_CaseText (c1 : Case) : Option Str :=
  (catL c1.Tile ([120] : Str)).bind fun s10 =>
  (m_spec_l01Dec c1.Ways).bind fun y12 =>
  (catL s10 y12).bind fun s18 =>
  (catL s18 ([32] : Str)).bind fun s20 =>
  (m_spec_l01Dec c1.Value).bind fun y22 =>
  (catL s20 y22).bind fun s28 =>
  some s28

noncomputable def m_impl_Decimal (n1 : Int) : Option Str :=
  (m_strconv_FormatInt n1 10).bind fun y3 =>
  some y3

noncomputable def m_impl_CaseText (c1 : Case) : Option Str :=
  (catL c1.Tile ([120] : Str)).bind fun s10 =>
  (m_impl_Decimal c1.Ways).bind fun y12 =>
  (catL s10 y12).bind fun s18 =>
  (catL s18 ([32] : Str)).bind fun s20 =>
  (m_impl_Decimal c1.Value).bind fun y22 =>
  (catL s20 y22).bind fun s28 =>
  some s28

noncomputable def m_laws_FnExactCaseText (aC1 : Case) : Option Bool :=
  (m_laws_szCase aC1 1048576).bind fun y9 =>
  bif decide (y9 < 0) then
    some true
  else
    (m_laws_toCase aC1).bind fun y16 =>
    (m_spec_CaseText y16).bind fun y24 =>
    (m_laws_toCase aC1).bind fun y30 =>
    (m_impl_CaseText y30).bind fun y38 =>
    bif y38 != y24 then
      some false
    else
      some true

noncomputable def m_laws_toExpect (a1 : Expect) : Option Expect :=
  some a1

noncomputable def m_spec_l00In (n1 : Int) (low3 : Int) (high5 : Int) : Option Bool :=
  (
      bif decide (low3 ≤ n1) then
        some (decide (n1 ≤ high5))
      else
        some false : Option Bool).bind fun t7 =>
  some t7

noncomputable def m_spec_l21Ok (e1 : Expect) : Option Bool :=
  (
      (m_spec_l00In e1.Ways 1 1000000).bind fun y12 =>
      bif y12 then
        (m_spec_l00In e1.Sum (-1000000000) 1000000000).bind fun y18 =>
        some y18
      else
        some false : Option Bool).bind fun t8 =>
  some t8

noncomputable def m_spec_ExpectText (e1 : Expect) : Option Str :=
  (m_spec_l21Ok e1).bind fun y8 =>
  bif !y8 then
    some ([] : Str)
  else
    (m_spec_l01Dec e1.Sum).bind fun y15 =>
    (catL y15 ([47] : Str)).bind fun s21 =>
    (m_spec_l01Dec e1.Ways).bind fun y23 =>
    (catL s21 y23).bind fun s29 =>
    some s29

noncomputable def m_impl_within (x1 : Int) (low3 : Int) (high5 : Int) : Option Bool :=
  (
      bif decide (low3 ≤ x1) then
        some (decide (x1 ≤ high5))
      else
        some false : Option Bool).bind fun t7 =>
  some t7

noncomputable def m_impl_validExpect (e1 : Expect) : Option Bool :=
  (
      (m_impl_within e1.Ways 1 1000000).bind fun y12 =>
      bif y12 then
        (m_impl_within e1.Sum (-1000000000) 1000000000).bind fun y18 =>
        some y18
      else
        some false : Option Bool).bind fun t8 =>
  some t8

noncomputable def m_impl_ExpectText (e1 : Expect) : Option Str :=
  (m_impl_validExpect e1).bind fun y8 =>
  bif !y8 then
    some ([] : Str)
  else
    (m_impl_Decimal e1.Sum).bind fun y15 =>
    (catL y15 ([47] : Str)).bind fun s21 =>
    (m_impl_Decimal e1.Ways).bind fun y23 =>
    (catL s21 y23).bind fun s29 =>
    some s29

noncomputable def m_laws_FnExactExpectText (aE1 : Expect) : Option Bool :=
  (m_laws_toExpect aE1).bind fun y8 =>
  (m_spec_ExpectText y8).bind fun y15 =>
  (m_laws_toExpect aE1).bind fun y21 =>
  (m_impl_ExpectText y21).bind fun y28 =>
  bif y28 != y15 then
    some false
  else
    some true

noncomputable def m_laws_szPlay (a1 : Play) (left5 : Int) : Option Int :=
  (chk (left5 - (a1.Word.length : Int))).bind fun z11 =>
  bif decide (z11 < 0) then
    some (-1)
  else
    some z11

noncomputable def m_laws_szMove (a1 : Move) (left6 : Int) : Option Int :=
  (m_laws_szPlay a1.Play left6).bind fun y12 =>
  bif decide (y12 < 0) then
    some (-1)
  else
    some y12

noncomputable def m_laws_szChoice (a1 : Choice) (left7 : Int) : Option Int :=
  (m_laws_szMove a1.Move left7).bind fun y13 =>
  bif decide (y13 < 0) then
    some (-1)
  else
    some y13

noncomputable def m_laws_toPlay (a1 : Play) : Option Play :=
  some a1

noncomputable def m_laws_toMove (a1 : Move) : Option Move :=
  (m_laws_toPlay a1.Play).bind fun y18 =>
  some (⟨⟨y18.Row, y18.Col, y18.Down, y18.Word⟩, a1.Score⟩ : Move)

noncomputable def m_laws_toChoice (a1 : Choice) : Option Choice :=
  (m_laws_toMove a1.Move).bind fun y22 =>
  some (⟨a1.Pass, ⟨⟨y22.Play.Row, y22.Play.Col, y22.Play.Down, y22.Play.Word⟩, y22.Score⟩, a1.Value⟩ : Choice)

noncomputable def m_spec_l01Small (c1 : UInt8) : Option Bool :=
  (
      bif decide (97 ≤ c1) then
        some (decide (c1 ≤ 122))
      else
        some false : Option Bool).bind fun t2 =>
  some t2

noncomputable def m_spec_l03Capital (c1 : UInt8) : Option Bool :=
  (
      bif decide (65 ≤ c1) then
        some (decide (c1 ≤ 90))
      else
        some false : Option Bool).bind fun t2 =>
  some t2

noncomputable def m_spec_l03Placed_l1 (word1 : Str) (n5 : Int) : Option (Int ⊕ (Unit ⊕ Bool)) :=
  bif decide (n5 < (word1.length : Int)) then
    (
        (getL word1 n5).bind fun c18 =>
        (m_spec_l01Small c18).bind fun y20 =>
        bif !y20 then
          (getL word1 n5).bind fun c26 =>
          (m_spec_l03Capital c26).bind fun y28 =>
          some (!y28)
        else
          some false : Option Bool).bind fun t14 =>
    bif t14 then
      some (.inr (.inr false))
    else
      (chk (n5 + 1)).bind fun z37 =>
      some (.inl z37)
  else
    some (.inr (.inl ()))

noncomputable def m_spec_l03Placed (word1 : Str) : Option Bool :=
  (
      (loopM (fun s : Int => m_spec_l03Placed_l1 word1 s) 0).bind fun x8 =>
      match x8 with
      | .inl _ =>
        some (.inl ())
      | .inr r43 =>
        some (.inr r43) : Option (Unit ⊕ Bool)).bind fun x3 =>
  match x3 with
  | .inl _ =>
    (m_spec_l00In (word1.length : Int) 1 12).bind fun y46 =>
    some y46
  | .inr r51 =>
    some r51

noncomputable def m_spec_l12Word (word1 : Str) : Option Bool :=
  (
      bif decide (1 < (word1.length : Int)) then
        (m_spec_l03Placed word1).bind fun y8 =>
        some y8
      else
        some false : Option Bool).bind fun t3 =>
  some t3

noncomputable def m_spec_l12Plain (p1 : Play) : Option Bool :=
  (
      (m_spec_l00In p1.Row 0 14).bind fun y13 =>
      bif y13 then
        (m_spec_l00In p1.Col 0 14).bind fun y19 =>
        bif y19 then
          (m_spec_l12Word p1.Word).bind fun y25 =>
          some y25
        else
          some false
      else
        some false : Option Bool).bind fun t9 =>
  some t9

noncomputable def m_spec_l12Text (p1 : Play) : Option Str :=
  (chk (p1.Row + 1)).bind fun z9 =>
  (m_spec_l01Dec z9).bind fun y11 =>
  (chk (97 + p1.Col)).bind fun z17 =>
  bif p1.Down then
    (catL ([UInt8.ofNat (z17 % 256).toNat] : Str) y11).bind fun s24 =>
    (catL s24 ([32] : Str)).bind fun s26 =>
    (catL s26 p1.Word).bind fun s28 =>
    some s28
  else
    (catL y11 ([UInt8.ofNat (z17 % 256).toNat] : Str)).bind fun s30 =>
    (catL s30 ([32] : Str)).bind fun s32 =>
    (catL s32 p1.Word).bind fun s34 =>
    some s34

noncomputable def m_spec_l15Text (m1 : Move) : Option Str :=
  (m_spec_l12Text m1.Play).bind fun y11 =>
  (catL y11 ([32] : Str)).bind fun s17 =>
  (m_spec_l01Dec m1.Score).bind fun y19 =>
  (catL s17 y19).bind fun s25 =>
  some s25

noncomputable def m_spec_MoveText (m1 : Move) : Option Str :=
  (m_spec_l12Plain m1.Play).bind fun y10 =>
  bif !y10 then
    some ([] : Str)
  else
    (m_spec_l15Text m1).bind fun y16 =>
    some y16

noncomputable def m_spec_ChoiceText (c1 : Choice) : Option Str :=
  (m_spec_MoveText c1.Move).bind fun y11 =>
  (
      bif c1.Pass then
        some (.inl ([112, 97, 115, 115] : Str))
      else
        bif y11 == ([] : Str) then
          some (.inr ([] : Str))
        else
          some (.inl y11) : Option (Str ⊕ Str)).bind fun x19 =>
  match x19 with
  | .inl s17 =>
    (catL s17 ([32] : Str)).bind fun s26 =>
    (m_spec_l01Dec c1.Value).bind fun y28 =>
    (catL s26 y28).bind fun s34 =>
    some s34
  | .inr r36 =>
    some r36

noncomputable def m_impl_small (c1 : UInt8) : Option Bool :=
  (
      bif decide (97 ≤ c1) then
        some (decide (c1 ≤ 122))
      else
        some false : Option Bool).bind fun t2 =>
  some t2

noncomputable def m_impl_onlySmall_l1 (s1 : Str) (n10 : Int) : Option (Int ⊕ (Unit ⊕ Bool)) :=
  bif decide (n10 < (s1.length : Int)) then
    (getL s1 n10).bind fun e19 =>
    (m_impl_small e19).bind fun y27 =>
    bif !y27 then
      some (.inr (.inr false))
    else
      (chk (n10 + 1)).bind fun z33 =>
      some (.inl z33)
  else
    some (.inr (.inl ()))

noncomputable def m_impl_onlySmall (s1 : Str) : Option Bool :=
  (
      (loopM (fun s : Int => m_impl_onlySmall_l1 s1 s) 0).bind fun x13 =>
      match x13 with
      | .inl _ =>
        some (.inl ())
      | .inr r39 =>
        some (.inr r39) : Option (Unit ⊕ Bool)).bind fun x3 =>
  match x3 with
  | .inl _ =>
    some true
  | .inr r42 =>
    some r42

noncomputable def m_impl_IsWord (s1 : Str) : Option Bool :=
  (
      bif decide (1 ≤ (s1.length : Int)) then
        bif decide ((s1.length : Int) ≤ 12) then
          (m_impl_onlySmall s1).bind fun y9 =>
          some y9
        else
          some false
      else
        some false : Option Bool).bind fun t3 =>
  some t3

noncomputable def m_impl_isPlaced (s1 : Str) : Option Bool :=
  (
      (m_strings_ToLower s1).bind fun y7 =>
      (m_impl_IsWord y7).bind fun y13 =>
      bif y13 then
        (m_strings_ToLower s1).bind fun y19 =>
        some ((s1.length : Int) == (y19.length : Int))
      else
        some false : Option Bool).bind fun t3 =>
  some t3

noncomputable def m_impl_isMain (s1 : Str) : Option Bool :=
  (
      bif decide (2 ≤ (s1.length : Int)) then
        (m_impl_isPlaced s1).bind fun y8 =>
        some y8
      else
        some false : Option Bool).bind fun t3 =>
  some t3

noncomputable def m_impl_PlayText (p1 : Play) : Option Str :=
  (
      (m_impl_within p1.Row 0 14).bind fun y13 =>
      bif !y13 then
        some true
      else
        (m_impl_within p1.Col 0 14).bind fun y20 =>
        bif !y20 then
          some true
        else
          (m_impl_isMain p1.Word).bind fun y27 =>
          some (!y27) : Option Bool).bind fun t9 =>
  bif t9 then
    some ([] : Str)
  else
    (chk (p1.Row + 1)).bind fun z36 =>
    (chk (97 + p1.Col)).bind fun z38 =>
    (chk32 z38).bind fun z40 =>
    (encR z40).bind fun s42 =>
    (m_impl_Decimal z36).bind fun y44 =>
    bif p1.Down then
      (catL s42 y44).bind fun s51 =>
      (catL s51 ([32] : Str)).bind fun s53 =>
      (catL s53 p1.Word).bind fun s55 =>
      some s55
    else
      (catL y44 s42).bind fun s57 =>
      (catL s57 ([32] : Str)).bind fun s59 =>
      (catL s59 p1.Word).bind fun s61 =>
      some s61

noncomputable def m_impl_MoveText (m1 : Move) : Option Str :=
  (m_impl_PlayText m1.Play).bind fun y10 =>
  bif y10 == ([] : Str) then
    some ([] : Str)
  else
    (catL y10 ([32] : Str)).bind fun s17 =>
    (m_impl_Decimal m1.Score).bind fun y19 =>
    (catL s17 y19).bind fun s25 =>
    some s25

noncomputable def m_impl_ChoiceText (c1 : Choice) : Option Str :=
  (
      bif !c1.Pass then
        (m_impl_MoveText c1.Move).bind fun y16 =>
        some y16
      else
        some ([112, 97, 115, 115] : Str) : Option Str).bind fun s11 =>
  bif s11 == ([] : Str) then
    some ([] : Str)
  else
    (catL s11 ([32] : Str)).bind fun s26 =>
    (m_impl_Decimal c1.Value).bind fun y28 =>
    (catL s26 y28).bind fun s34 =>
    some s34

noncomputable def m_laws_FnExactChoiceText (aC1 : Choice) : Option Bool :=
  (m_laws_szChoice aC1 1048576).bind fun y11 =>
  bif decide (y11 < 0) then
    some true
  else
    (m_laws_toChoice aC1).bind fun y18 =>
    (m_spec_ChoiceText y18).bind fun y28 =>
    (m_laws_toChoice aC1).bind fun y34 =>
    (m_impl_ChoiceText y34).bind fun y44 =>
    bif y44 != y28 then
      some false
    else
      some true

noncomputable def m_laws_szNote (a1 : Note) (left9 : Int) : Option Int :=
  (m_laws_szMove a1.Best left9).bind fun y15 =>
  bif decide (y15 < 0) then
    some (-1)
  else
    some y15

noncomputable def m_laws_toNote (a1 : Note) : Option Note :=
  (m_laws_toMove a1.Best).bind fun y24 =>
  some (⟨a1.Score, ⟨⟨y24.Play.Row, y24.Play.Col, y24.Play.Down, y24.Play.Word⟩, y24.Score⟩, a1.Loss, a1.Rank⟩ : Note)

noncomputable def m_spec_l24NoteText (n1 : Note) : Option Str :=
  (m_spec_MoveText n1.Best).bind fun y13 =>
  (
      bif y13 == ([] : Str) then
        some ([45] : Str)
      else
        some y13 : Option Str).bind fun s19 =>
  (m_spec_l01Dec n1.Score).bind fun y28 =>
  (catL y28 ([32] : Str)).bind fun s34 =>
  (m_spec_l01Dec n1.Loss).bind fun y36 =>
  (catL s34 y36).bind fun s42 =>
  (catL s42 ([32] : Str)).bind fun s44 =>
  (m_spec_l01Dec n1.Rank).bind fun y46 =>
  (catL s44 y46).bind fun s52 =>
  (catL s52 ([32] : Str)).bind fun s54 =>
  (catL s54 s19).bind fun s56 =>
  some s56

noncomputable def m_spec_NoteText (n1 : Note) : Option Str :=
  (m_spec_l24NoteText n1).bind fun y13 =>
  some y13

noncomputable def m_impl_dashed (s1 : Str) : Option Str :=
  bif s1 == ([] : Str) then
    some ([45] : Str)
  else
    some s1

noncomputable def m_impl_joined (words1 : (List Str)) : Option Str :=
  (m_strings_Join words1 ([32] : Str)).bind fun y5 =>
  some y5

noncomputable def m_impl_NoteText (n1 : Note) : Option Str :=
  (m_impl_Decimal n1.Score).bind fun y14 =>
  (m_impl_Decimal n1.Loss).bind fun y20 =>
  (m_impl_Decimal n1.Rank).bind fun y26 =>
  (m_impl_MoveText n1.Best).bind fun y32 =>
  (m_impl_dashed y32).bind fun y38 =>
  (m_impl_joined ([y14, y20, y26, y38] : (List Str))).bind fun y47 =>
  some y47

noncomputable def m_laws_FnExactNoteText (aN1 : Note) : Option Bool :=
  (m_laws_szNote aN1 1048576).bind fun y13 =>
  bif decide (y13 < 0) then
    some true
  else
    (m_laws_toNote aN1).bind fun y20 =>
    (m_spec_NoteText y20).bind fun y32 =>
    (m_laws_toNote aN1).bind fun y38 =>
    (m_impl_NoteText y38).bind fun y50 =>
    bif y50 != y32 then
      some false
    else
      some true

noncomputable def m_internal_strconv_small (i1 : Int) : Option Str :=
  bif decide (i1 < 10) then
    (chk (i1 + 1)).bind fun z4 =>
    (subL ([48, 49, 50, 51, 52, 53, 54, 55, 56, 57, 97, 98, 99, 100, 101, 102, 103, 104, 105, 106, 107, 108, 109, 110, 111, 112, 113, 114, 115, 116, 117, 118, 119, 120, 121, 122] : Str) i1 z4).bind fun s6 =>
    some s6
  else
    (chk (i1 * 2)).bind fun z8 =>
    (chk (i1 * 2)).bind fun z10 =>
    (chk (z10 + 2)).bind fun z12 =>
    (subL ((48 :: 48 :: 48 :: 49 :: 48 :: 50 :: 48 :: 51 :: 48 :: 52 :: 48 :: 53 :: 48 :: 54 :: 48 :: 55 :: 48 :: 56 :: 48 :: 57 :: 49 :: 48 :: 49 :: 49 :: 49 :: 50 :: 49 :: 51 :: 49 :: 52 :: 49 :: 53 :: 49 :: 54 :: 49 :: 55 :: 49 :: 56 :: 49 :: 57 :: 50 :: 48 :: 50 :: 49 :: 50 :: 50 :: 50 :: 51 :: 50 :: 52 :: 50 :: 53 :: 50 :: 54 :: 50 :: 55 :: 50 :: 56 :: 50 :: 57 :: 51 :: 48 :: 51 :: 49 :: 51 :: 50 :: 51 :: 51 :: 51 :: 52 :: 51 :: 53 :: 51 :: 54 :: 51 :: 55 :: 51 :: 56 :: 51 :: 57 :: 52 :: 48 :: 52 :: 49 :: 52 :: 50 :: 52 :: 51 :: 52 :: 52 :: 52 :: 53 :: 52 :: 54 :: 52 :: 55 :: 52 :: 56 :: 52 :: 57 :: 53 :: 48 :: 53 :: 49 :: 53 :: 50 :: 53 :: 51 :: 53 :: 52 :: 53 :: 53 :: 53 :: 54 :: 53 :: 55 :: 53 :: 56 :: 53 :: 57 :: 54 :: 48 :: 54 :: 49 :: 54 :: 50 :: 54 :: 51 :: 54 :: 52 :: 54 :: 53 :: 54 :: 54 :: 54 :: 55 :: 54 :: 56 :: 54 :: 57 :: 55 :: 48 :: 55 :: 49 :: 55 :: 50 :: 55 :: 51 :: 55 :: 52 :: 55 :: 53 :: 55 :: 54 :: 55 :: 55 :: 55 :: 56 :: 55 :: 57 :: 56 :: 48 :: 56 :: 49 :: 56 :: 50 :: 56 :: 51 :: 56 :: 52 :: 56 :: 53 :: 56 :: 54 :: 56 :: 55 :: 56 :: 56 :: 56 :: 57 :: 57 :: 48 :: 57 :: 49 :: 57 :: 50 :: 57 :: 51 :: 57 :: 52 :: 57 :: 53 :: 57 :: 54 :: 57 :: 55 :: 57 :: 56 :: 57 :: 57 :: []) : Str) z8 z12).bind fun s14 =>
    some s14

noncomputable def m_internal_strconv_bool2_int (b1 : Bool) : Option Int :=
  bif b1 then
    some 1
  else
    some 0

noncomputable def m_unicode_utf8_RuneLen (r1 : Int) : Option Int :=
  bif decide (r1 < 0) then
    some (-1)
  else
    bif decide (r1 ≤ 127) then
      some 1
    else
      bif decide (r1 ≤ 2047) then
        some 2
      else
        (
            bif decide (55296 ≤ r1) then
              some (decide (r1 ≤ 57343))
            else
              some false : Option Bool).bind fun t6 =>
        bif t6 then
          some (-1)
        else
          bif decide (r1 ≤ 65535) then
            some 3
          else
            bif decide (r1 ≤ 1114111) then
              some 4
            else
              some (-1)

end Go.Proofs.YtgmbcolpchckbaaDoor
