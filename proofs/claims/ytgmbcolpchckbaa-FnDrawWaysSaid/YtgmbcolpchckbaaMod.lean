/- The models of the program's functions. Printed by gen.py. -/
import Derived.Test.YtgmbcolpchckbaaTyp
import Derived.Test.YtgmbcolpchckbaaEngM
import Derived.Test.YtgmbcolpchckbaaEngO
namespace Go.Proofs.Ytgmbcolpchckbaa
open Go Go.RowKit
set_option linter.unusedSimpArgs false
set_option linter.unusedVariables false

noncomputable def m_laws_szInt64S (a1 : (List Int)) (left5 : Int) : Option Int :=
  (chk (left5 - (a1.length : Int))).bind fun z8 =>
  bif decide (z8 < 0) then
    some (-1)
  else
    some z8

noncomputable def m_laws_szTileSet (a1 : TileSet) (left10 : Int) : Option Int :=
  (chk (left10 - (a1.Letters.length : Int))).bind fun z16 =>
  bif decide (z16 < 0) then
    some (-1)
  else
    (m_laws_szInt64S a1.Values z16).bind fun y19 =>
    bif decide (y19 < 0) then
      some (-1)
    else
      (m_laws_szInt64S a1.Counts y19).bind fun y26 =>
      bif decide (y26 < 0) then
        some (-1)
      else
        some y26

noncomputable def m_laws_toInt64S_l1 (a1 : (List Int)) (xs14 : (List Int)) (n15 : Int) : Option (((List Int) × Int) ⊕ (List Int)) :=
  bif decide (n15 < (a1.length : Int)) then
    (getL a1 n15).bind fun e26 =>
    (getL xs14 n15).bind fun e35 =>
    (setL xs14 n15 e26).bind fun xs43 =>
    (chk (n15 + 1)).bind fun z45 =>
    some (.inl (xs43, z45))
  else
    some (.inr xs14)

noncomputable def m_laws_toInt64S (a1 : (List Int)) : Option (List Int) :=
  (makeL (a1.length : Int) (0 : Int)).bind fun xs6 =>
  (
      (loopM (fun s : (List Int) × Int => m_laws_toInt64S_l1 a1 s.1 s.2) (xs6, 0)).bind fun xs18 =>
      some xs18 : Option (List Int)).bind fun xs11 =>
  some xs11

noncomputable def m_laws_toTileSet (a1 : TileSet) : Option TileSet :=
  (m_laws_toInt64S a1.Values).bind fun y25 =>
  (m_laws_toInt64S a1.Counts).bind fun y35 =>
  some (⟨a1.Letters, y25, y35, a1.Blanks⟩ : TileSet)

noncomputable def m_spec_l00In (n1 : Int) (low3 : Int) (high5 : Int) : Option Bool :=
  (
      bif decide (low3 ≤ n1) then
        some (decide (n1 ≤ high5))
      else
        some false : Option Bool).bind fun t7 =>
  some t7

noncomputable def m_spec_l01Small (c1 : UInt8) : Option Bool :=
  (
      bif decide (97 ≤ c1) then
        some (decide (c1 ≤ 122))
      else
        some false : Option Bool).bind fun t2 =>
  some t2

noncomputable def m_spec_l02Ok_l1 (t1 : TileSet) (i43 : Int) (n45 : Int) : Option ((Int × Int) ⊕ (Int ⊕ Bool)) :=
  bif decide (n45 < (t1.Letters.length : Int)) then
    (
        (getL t1.Letters n45).bind fun c61 =>
        (m_spec_l01Small c61).bind fun y63 =>
        bif !y63 then
          some true
        else
          bif decide (0 < n45) then
            (getL t1.Letters n45).bind fun c71 =>
            (chk (n45 - 1)).bind fun z73 =>
            (getL t1.Letters z73).bind fun c75 =>
            bif decide (c71 ≤ c75) then
              some true
            else
              (getL t1.Values n45).bind fun e79 =>
              (m_spec_l00In e79 0 20).bind fun y88 =>
              bif !y88 then
                some true
              else
                (getL t1.Counts n45).bind fun e95 =>
                (m_spec_l00In e95 1 20).bind fun y104 =>
                some (!y104)
          else
            (getL t1.Values n45).bind fun e110 =>
            (m_spec_l00In e110 0 20).bind fun y119 =>
            bif !y119 then
              some true
            else
              (getL t1.Counts n45).bind fun e126 =>
              (m_spec_l00In e126 1 20).bind fun y135 =>
              some (!y135) : Option Bool).bind fun t56 =>
    bif t56 then
      some (.inr (.inr false))
    else
      (getL t1.Counts n45).bind fun e143 =>
      (chk (i43 + e143)).bind fun z152 =>
      (chk (n45 + 1)).bind fun z154 =>
      some (.inl (z152, z154))
  else
    some (.inr (.inl i43))

noncomputable def m_spec_l02Ok (t1 : TileSet) : Option Bool :=
  (
      (m_spec_l00In (t1.Letters.length : Int) 1 26).bind fun y18 =>
      bif !y18 then
        some true
      else
        bif (t1.Values.length : Int) != (t1.Letters.length : Int) then
          some true
        else
          bif (t1.Counts.length : Int) != (t1.Letters.length : Int) then
            some true
          else
            (m_spec_l00In t1.Blanks 0 4).bind fun y31 =>
            some (!y31) : Option Bool).bind fun t14 =>
  bif t14 then
    some false
  else
    (
        (loopM (fun s : Int × Int => m_spec_l02Ok_l1 t1 s.1 s.2) (t1.Blanks, 0)).bind fun x50 =>
        match x50 with
        | .inl i48 =>
          some (.inl i48)
        | .inr r160 =>
          some (.inr r160) : Option (Int ⊕ Bool)).bind fun x41 =>
    match x41 with
    | .inl i39 =>
      some (decide (i39 ≤ 120))
    | .inr r163 =>
      some r163

noncomputable def m_spec_l03Tile (c1 : UInt8) : Option Bool :=
  (
      bif c1 == 63 then
        some true
      else
        (m_spec_l01Small c1).bind fun y8 =>
        some y8 : Option Bool).bind fun t2 =>
  some t2

noncomputable def m_spec_l03Pile_l1 (s1 : Str) (n5 : Int) : Option (Int ⊕ (Unit ⊕ Bool)) :=
  bif decide (n5 < (s1.length : Int)) then
    (
        (getL s1 n5).bind fun c19 =>
        (m_spec_l03Tile c19).bind fun y21 =>
        bif !y21 then
          some true
        else
          bif decide (0 < n5) then
            (getL s1 n5).bind fun c29 =>
            (chk (n5 - 1)).bind fun z31 =>
            (getL s1 z31).bind fun c33 =>
            some (decide (c29 < c33))
          else
            some false : Option Bool).bind fun t14 =>
    bif t14 then
      some (.inr (.inr false))
    else
      (chk (n5 + 1)).bind fun z39 =>
      some (.inl z39)
  else
    some (.inr (.inl ()))

noncomputable def m_spec_l03Pile (s1 : Str) : Option Bool :=
  (
      (loopM (fun s : Int => m_spec_l03Pile_l1 s1 s) 0).bind fun x8 =>
      match x8 with
      | .inl _ =>
        some (.inl ())
      | .inr r45 =>
        some (.inr r45) : Option (Unit ⊕ Bool)).bind fun x3 =>
  match x3 with
  | .inl _ =>
    some (decide ((s1.length : Int) ≤ 120))
  | .inr r48 =>
    some r48

noncomputable def m_spec_l03Rack (s1 : Str) : Option Bool :=
  (
      (m_spec_l03Pile s1).bind fun y7 =>
      bif y7 then
        some (decide ((s1.length : Int) ≤ 7))
      else
        some false : Option Bool).bind fun t3 =>
  some t3

noncomputable def m_spec_l02Find_l1 (t1 : TileSet) (letter5 : UInt8) (n8 : Int) : Option (Int ⊕ (Unit ⊕ Int)) :=
  bif decide (n8 < (t1.Letters.length : Int)) then
    (getL t1.Letters n8).bind fun c26 =>
    bif c26 == letter5 then
      some (.inr (.inr n8))
    else
      (chk (n8 + 1)).bind fun z29 =>
      some (.inl z29)
  else
    some (.inr (.inl ()))

noncomputable def m_spec_l02Find (t1 : TileSet) (letter5 : UInt8) : Option Int :=
  (
      (loopM (fun s : Int => m_spec_l02Find_l1 t1 letter5 s) 0).bind fun x11 =>
      match x11 with
      | .inl _ =>
        some (.inl ())
      | .inr r35 =>
        some (.inr r35) : Option (Unit ⊕ Int)).bind fun x6 =>
  match x6 with
  | .inl _ =>
    some (-1)
  | .inr r38 =>
    some r38

noncomputable def m_spec_l02Value (t1 : TileSet) (letter5 : UInt8) : Option Int :=
  (m_spec_l02Find t1 letter5).bind fun y6 =>
  bif decide (y6 < 0) then
    some 0
  else
    (getL t1.Values y6).bind fun e22 =>
    some e22

noncomputable def m_spec_l02Sum_l1 (s5 : Str) (t1 : TileSet) (n11 : Int) (n13 : Int) : Option ((Int × Int) ⊕ Int) :=
  bif decide (n13 < (s5.length : Int)) then
    (getL s5 n13).bind fun c24 =>
    (m_spec_l02Value t1 c24).bind fun y26 =>
    (chk (n11 + y26)).bind fun z32 =>
    (chk (n13 + 1)).bind fun z34 =>
    some (.inl (z32, z34))
  else
    some (.inr n11)

noncomputable def m_spec_l02Sum (t1 : TileSet) (s5 : Str) : Option Int :=
  (
      (loopM (fun s : Int × Int => m_spec_l02Sum_l1 s5 t1 s.1 s.2) (0, 0)).bind fun n16 =>
      some n16 : Option Int).bind fun n7 =>
  some n7

noncomputable def m_spec_l22Settle (t1 : TileSet) (mine5 : Str) (theirs7 : Str) : Option Int :=
  (m_spec_l02Sum t1 theirs7).bind fun y9 =>
  (m_spec_l02Sum t1 mine5).bind fun y15 =>
  (chk (y9 - y15)).bind fun z21 =>
  some z21

noncomputable def m_spec_SettleEnd (t1 : TileSet) (mine10 : Str) (theirs12 : Str) : Option (Int × Int) :=
  (
      (m_spec_l02Ok t1).bind fun y22 =>
      bif !y22 then
        some true
      else
        (m_spec_l03Rack mine10).bind fun y29 =>
        bif !y29 then
          some true
        else
          (m_spec_l03Rack theirs12).bind fun y36 =>
          some (!y36) : Option Bool).bind fun t18 =>
  bif t18 then
    some (0, 1)
  else
    (m_spec_l22Settle t1 mine10 theirs12).bind fun y44 =>
    some (y44, 0)

noncomputable def m_impl_small (c1 : UInt8) : Option Bool :=
  (
      bif decide (97 ≤ c1) then
        some (decide (c1 ≤ 122))
      else
        some false : Option Bool).bind fun t2 =>
  some t2

noncomputable def m_impl_onlySmall_l1 (s1 : Str) (n10 : Int) : Option (Int ⊕ (Unit ⊕ Bool)) :=
  bif decide (n10 < (s1.length : Int)) then
    (getL s1 n10).bind fun e19 =>
    (m_impl_small e19).bind fun y27 =>
    bif !y27 then
      some (.inr (.inr false))
    else
      (chk (n10 + 1)).bind fun z33 =>
      some (.inl z33)
  else
    some (.inr (.inl ()))

noncomputable def m_impl_onlySmall (s1 : Str) : Option Bool :=
  (
      (loopM (fun s : Int => m_impl_onlySmall_l1 s1 s) 0).bind fun x13 =>
      match x13 with
      | .inl _ =>
        some (.inl ())
      | .inr r39 =>
        some (.inr r39) : Option (Unit ⊕ Bool)).bind fun x3 =>
  match x3 with
  | .inl _ =>
    some true
  | .inr r42 =>
    some r42

noncomputable def m_impl_rising_l1 (s1 : Str) (n5 : Int) : Option (Int ⊕ (Unit ⊕ Bool)) :=
  bif decide (n5 < (s1.length : Int)) then
    (chk (n5 - 1)).bind fun z15 =>
    (getL s1 z15).bind fun c17 =>
    (getL s1 n5).bind fun c19 =>
    bif decide (c19 ≤ c17) then
      some (.inr (.inr false))
    else
      (chk (n5 + 1)).bind fun z22 =>
      some (.inl z22)
  else
    some (.inr (.inl ()))

noncomputable def m_impl_rising (s1 : Str) : Option Bool :=
  (
      (loopM (fun s : Int => m_impl_rising_l1 s1 s) 1).bind fun x8 =>
      match x8 with
      | .inl _ =>
        some (.inl ())
      | .inr r28 =>
        some (.inr r28) : Option (Unit ⊕ Bool)).bind fun x3 =>
  match x3 with
  | .inl _ =>
    (m_impl_onlySmall s1).bind fun y31 =>
    some y31
  | .inr r36 =>
    some r36

noncomputable def m_impl_within (x1 : Int) (low3 : Int) (high5 : Int) : Option Bool :=
  (
      bif decide (low3 ≤ x1) then
        some (decide (x1 ≤ high5))
      else
        some false : Option Bool).bind fun t7 =>
  some t7

noncomputable def m_impl_ValidTiles_l1 (t1 : TileSet) (i46 : Int) (n48 : Int) : Option ((Int × Int) ⊕ (Int ⊕ Bool)) :=
  bif decide (n48 < (t1.Counts.length : Int)) then
    (getL t1.Counts n48).bind fun e59 =>
    (
        (getL t1.Values n48).bind fun e72 =>
        (m_impl_within e72 0 20).bind fun y81 =>
        bif !y81 then
          some true
        else
          (m_impl_within e59 1 20).bind fun y88 =>
          some (!y88) : Option Bool).bind fun t68 =>
    bif t68 then
      some (.inr (.inr false))
    else
      (chk (i46 + e59)).bind fun z96 =>
      (chk (n48 + 1)).bind fun z98 =>
      some (.inl (z96, z98))
  else
    some (.inr (.inl i46))

noncomputable def m_impl_ValidTiles (t1 : TileSet) : Option Bool :=
  (
      bif decide ((t1.Letters.length : Int) < 1) then
        some true
      else
        (m_impl_rising t1.Letters).bind fun y20 =>
        bif !y20 then
          some true
        else
          bif (t1.Values.length : Int) != (t1.Letters.length : Int) then
            some true
          else
            bif (t1.Counts.length : Int) != (t1.Letters.length : Int) then
              some true
            else
              (m_impl_within t1.Blanks 0 4).bind fun y33 =>
              some (!y33) : Option Bool).bind fun t14 =>
  bif t14 then
    some false
  else
    (
        (loopM (fun s : Int × Int => m_impl_ValidTiles_l1 t1 s.1 s.2) (t1.Blanks, 0)).bind fun x53 =>
        match x53 with
        | .inl i51 =>
          some (.inl i51)
        | .inr r104 =>
          some (.inr r104) : Option (Int ⊕ Bool)).bind fun x43 =>
    match x43 with
    | .inl i41 =>
      some (decide (i41 ≤ 120))
    | .inr r107 =>
      some r107

noncomputable def m_impl_place (tile1 : UInt8) : Option Int :=
  bif tile1 == 63 then
    some 0
  else
    (m_impl_small tile1).bind fun y3 =>
    bif y3 then
      (chk (((tile1 - 97).toNat : Int) + 1)).bind fun z9 =>
      some z9
    else
      some (-1)

noncomputable def m_impl_onlyTiles_l1 (s1 : Str) (n5 : Int) : Option (Int ⊕ (Unit ⊕ Bool)) :=
  bif decide (n5 < (s1.length : Int)) then
    (getL s1 n5).bind fun c14 =>
    (m_impl_place c14).bind fun y16 =>
    bif decide (y16 < 0) then
      some (.inr (.inr false))
    else
      (chk (n5 + 1)).bind fun z23 =>
      some (.inl z23)
  else
    some (.inr (.inl ()))

noncomputable def m_impl_onlyTiles (s1 : Str) : Option Bool :=
  (
      (loopM (fun s : Int => m_impl_onlyTiles_l1 s1 s) 0).bind fun x8 =>
      match x8 with
      | .inl _ =>
        some (.inl ())
      | .inr r29 =>
        some (.inr r29) : Option (Unit ⊕ Bool)).bind fun x3 =>
  match x3 with
  | .inl _ =>
    some true
  | .inr r32 =>
    some r32

noncomputable def m_impl_ValidPile_l1 (s1 : Str) (n19 : Int) : Option (Int ⊕ (Unit ⊕ Bool)) :=
  bif decide (n19 < (s1.length : Int)) then
    (chk (n19 - 1)).bind fun z29 =>
    (getL s1 z29).bind fun c31 =>
    (getL s1 n19).bind fun c33 =>
    bif decide (c33 < c31) then
      some (.inr (.inr false))
    else
      (chk (n19 + 1)).bind fun z36 =>
      some (.inl z36)
  else
    some (.inr (.inl ()))

noncomputable def m_impl_ValidPile (s1 : Str) : Option Bool :=
  (
      bif decide (120 < (s1.length : Int)) then
        some true
      else
        (m_impl_onlyTiles s1).bind fun y9 =>
        some (!y9) : Option Bool).bind fun t3 =>
  bif t3 then
    some false
  else
    (
        (loopM (fun s : Int => m_impl_ValidPile_l1 s1 s) 1).bind fun x22 =>
        match x22 with
        | .inl _ =>
          some (.inl ())
        | .inr r42 =>
          some (.inr r42) : Option (Unit ⊕ Bool)).bind fun x17 =>
    match x17 with
    | .inl _ =>
      some true
    | .inr r45 =>
      some r45

noncomputable def m_impl_ValidRack (s1 : Str) : Option Bool :=
  (
      bif decide ((s1.length : Int) ≤ 7) then
        (m_impl_ValidPile s1).bind fun y8 =>
        some y8
      else
        some false : Option Bool).bind fun t3 =>
  some t3

noncomputable def m_impl_valueOf (t1 : TileSet) (letter10 : UInt8) : Option Int :=
  (m_strings_IndexByte t1.Letters letter10).bind fun y15 =>
  bif decide (0 ≤ y15) then
    (getL t1.Values y15).bind fun e22 =>
    some e22
  else
    some 0

noncomputable def m_impl_lettersValue_l1 (s10 : Str) (t1 : TileSet) (n20 : Int) (n22 : Int) : Option ((Int × Int) ⊕ Int) :=
  bif decide (n22 < (s10.length : Int)) then
    (getL s10 n22).bind fun c34 =>
    (m_impl_valueOf t1 c34).bind fun y36 =>
    (chk (n20 + y36)).bind fun z42 =>
    (chk (n22 + 1)).bind fun z44 =>
    some (.inl (z42, z44))
  else
    some (.inr n20)

noncomputable def m_impl_lettersValue (t1 : TileSet) (s10 : Str) : Option Int :=
  (
      (loopM (fun s : Int × Int => m_impl_lettersValue_l1 s10 t1 s.1 s.2) (0, 0)).bind fun n25 =>
      some n25 : Option Int).bind fun n16 =>
  some n16

noncomputable def m_impl_SettleEnd (t1 : TileSet) (mine10 : Str) (theirs12 : Str) : Option (Int × Int) :=
  (
      (m_impl_ValidTiles t1).bind fun y22 =>
      bif !y22 then
        some true
      else
        (m_impl_ValidRack mine10).bind fun y29 =>
        bif !y29 then
          some true
        else
          (m_impl_ValidRack theirs12).bind fun y36 =>
          some (!y36) : Option Bool).bind fun t18 =>
  bif t18 then
    some (0, 1)
  else
    (m_impl_lettersValue t1 theirs12).bind fun y45 =>
    (m_impl_lettersValue t1 mine10).bind fun y51 =>
    (chk (y45 - y51)).bind fun z57 =>
    some (z57, 0)

noncomputable def m_laws_eqInt64S_l1 (a1 : (List Int)) (b5 : (List Int)) (n14 : Int) : Option (Int ⊕ (Unit ⊕ Bool)) :=
  bif decide (n14 < (a1.length : Int)) then
    (getL a1 n14).bind fun e25 =>
    (getL b5 n14).bind fun e34 =>
    bif e25 != e34 then
      some (.inr (.inr false))
    else
      (chk (n14 + 1)).bind fun z44 =>
      some (.inl z44)
  else
    some (.inr (.inl ()))

noncomputable def m_laws_eqInt64S (a1 : (List Int)) (b5 : (List Int)) : Option Bool :=
  bif (a1.length : Int) != (b5.length : Int) then
    some false
  else
    (
        (loopM (fun s : Int => m_laws_eqInt64S_l1 a1 b5 s) 0).bind fun x17 =>
        match x17 with
        | .inl _ =>
          some (.inl ())
        | .inr r50 =>
          some (.inr r50) : Option (Unit ⊕ Bool)).bind fun x12 =>
    match x12 with
    | .inl _ =>
      some true
    | .inr r53 =>
      some r53

noncomputable def m_laws_eqTileSet (a1 : TileSet) (b10 : TileSet) : Option Bool :=
  bif a1.Letters != b10.Letters then
    some false
  else
    (m_laws_eqInt64S a1.Values b10.Values).bind fun y28 =>
    bif !y28 then
      some false
    else
      (m_laws_eqInt64S a1.Counts b10.Counts).bind fun y34 =>
      bif !y34 then
        some false
      else
        bif a1.Blanks != b10.Blanks then
          some false
        else
          some true

noncomputable def m_laws_FnExactSettleEnd (aT1 : TileSet) (aMine10 : Str) (aTheirs12 : Str) : Option Bool :=
  bif decide (1048576 < (aMine10.length : Int)) then
    some true
  else
    bif decide (1048576 < (aTheirs12.length : Int)) then
      some true
    else
      (m_laws_szTileSet aT1 1048576).bind fun y20 =>
      bif decide (y20 < 0) then
        some true
      else
        (m_laws_toTileSet aT1).bind fun y27 =>
        (m_spec_SettleEnd y27 aMine10 aTheirs12).bind fun y38 =>
        (m_laws_toTileSet aT1).bind fun y45 =>
        (m_impl_SettleEnd y45 aMine10 aTheirs12).bind fun y63 =>
        (
            bif y63.1 != y38.1 then
              some true
            else
              some (y63.2 != y38.2) : Option Bool).bind fun t70 =>
        bif t70 then
          some false
        else
          (m_laws_toTileSet aT1).bind fun y80 =>
          (m_laws_eqTileSet y45 y80).bind fun y91 =>
          bif !y91 then
            some false
          else
            some true

noncomputable def m_spec_l23Unseen (s1 : Str) : Option Bool :=
  (
      (m_spec_l03Pile s1).bind fun y7 =>
      bif y7 then
        (m_spec_l00In (s1.length : Int) 2 8).bind fun y13 =>
        some y13
      else
        some false : Option Bool).bind fun t3 =>
  some t3

noncomputable def m_spec_l03Insert_l1 (list1 : (List Str)) (t4 : Str) (n11 : Int) : Option (Int ⊕ Int) :=
  (
      bif decide (0 < n11) then
        (chk (n11 - 1)).bind fun z26 =>
        (getL list1 z26).bind fun e28 =>
        some (!(ltS e28 t4 || e28 == t4))
      else
        some false : Option Bool).bind fun t21 =>
  bif t21 then
    (chk (n11 - 1)).bind fun z41 =>
    some (.inl z41)
  else
    some (.inr n11)

noncomputable def m_spec_l03Insert (list1 : (List Str)) (t4 : Str) : Option (List Str) :=
  (
      (loopM (fun s : Int => m_spec_l03Insert_l1 list1 t4 s) (list1.length : Int)).bind fun n14 =>
      some n14 : Option Int).bind fun n7 =>
  (
      bif decide (0 < n7) then
        (chk (n7 - 1)).bind fun z54 =>
        (getL list1 z54).bind fun e56 =>
        some (e56 == t4)
      else
        some false : Option Bool).bind fun t49 =>
  bif t49 then
    some list1
  else
    (subL list1 0 n7).bind fun l72 =>
    (catL ([] : (List Str)) l72).bind fun xs77 =>
    (catL xs77 ([t4] : (List Str))).bind fun xs87 =>
    (subL list1 n7 (list1.length : Int)).bind fun l94 =>
    (catL xs87 l94).bind fun xs99 =>
    some xs99

noncomputable def m_spec_l03Subs_l2 (y62 : (List Str)) (k20 : Int) (rack1 : Str) (xs69 : (List Str)) (n72 : Int) : Option (((List Str) × Int) ⊕ (List Str)) :=
  bif decide (n72 < (y62.length : Int)) then
    (chk (k20 + 1)).bind fun z86 =>
    (subL rack1 k20 z86).bind fun s88 =>
    (getL y62 n72).bind fun e90 =>
    (catL s88 e90).bind fun s99 =>
    (m_spec_l03Insert xs69 s99).bind fun y101 =>
    (chk (n72 + 1)).bind fun z108 =>
    some (.inl (y101, z108))
  else
    some (.inr xs69)

noncomputable def m_spec_l03Subs_l1 (n3 : Int) (rack1 : Str) (rc : Str → Int → Option (List Str)) (xs17 : (List Str)) (k20 : Int) : Option (((List Str) × Int) ⊕ (List Str)) :=
  (chk (k20 + n3)).bind fun z31 =>
  bif decide (z31 ≤ (rack1.length : Int)) then
    (
        (
            bif decide (0 < k20) then
              (getL rack1 k20).bind fun c45 =>
              (chk (k20 - 1)).bind fun z47 =>
              (getL rack1 z47).bind fun c49 =>
              some (c45 == c49)
            else
              some false : Option Bool).bind fun t39 =>
        bif t39 then
          some xs17
        else
          (chk (k20 + 1)).bind fun z56 =>
          (subL rack1 z56 (rack1.length : Int)).bind fun s58 =>
          (chk (n3 - 1)).bind fun z60 =>
          (rc s58 z60).bind fun y62 =>
          (loopM (fun s : (List Str) × Int => m_spec_l03Subs_l2 y62 k20 rack1 s.1 s.2) (xs17, 0)).bind fun xs75 =>
          some xs75 : Option (List Str)).bind fun xs34 =>
    (chk (k20 + 1)).bind fun z116 =>
    some (.inl (xs34, z116))
  else
    some (.inr xs17)

noncomputable def m_spec_l03Subs_b (rc : Str → Int → Option (List Str)) (rack1 : Str) (n3 : Int) : Option (List Str) :=
  bif n3 == 0 then
    some ([([] : Str)] : (List Str))
  else
    (
        (loopM (fun s : (List Str) × Int => m_spec_l03Subs_l1 n3 rack1 rc s.1 s.2) (([] : (List Str)), 0)).bind fun xs23 =>
        some xs23 : Option (List Str)).bind fun xs12 =>
    some xs12

noncomputable def m_spec_l03Subs_n : Nat → Str → Int → Option (List Str)
  | 0 => fun _ _ => none
  | n + 1 => m_spec_l03Subs_b (m_spec_l03Subs_n n)

noncomputable def m_spec_l03Subs : Str → Int → Option (List Str) := m_spec_l03Subs_n fuelN

noncomputable def m_spec_l21Count_l1 (s1 : Str) (c3 : UInt8) (n8 : Int) (n10 : Int) : Option ((Int × Int) ⊕ Int) :=
  bif decide (n10 < (s1.length : Int)) then
    (
        (getL s1 n10).bind fun c25 =>
        bif c25 == c3 then
          (chk (n8 + 1)).bind fun z28 =>
          some z28
        else
          some n8 : Option Int).bind fun n21 =>
    (chk (n10 + 1)).bind fun z33 =>
    some (.inl (n21, z33))
  else
    some (.inr n8)

noncomputable def m_spec_l21Count (s1 : Str) (c3 : UInt8) : Option Int :=
  (
      (loopM (fun s : Int × Int => m_spec_l21Count_l1 s1 c3 s.1 s.2) (0, 0)).bind fun n13 =>
      some n13 : Option Int).bind fun n4 =>
  some n4

noncomputable def m_spec_l21Choose_l1 (k3 : Int) (n1 : Int) (n15 : Int) (n17 : Int) : Option ((Int × Int) ⊕ Int) :=
  bif decide (n17 ≤ k3) then
    (chk (n1 - k3)).bind fun z28 =>
    (chk (z28 + n17)).bind fun z30 =>
    (chk (n15 * z30)).bind fun z32 =>
    (quoI z32 n17).bind fun z34 =>
    (chk (n17 + 1)).bind fun z36 =>
    some (.inl (z34, z36))
  else
    some (.inr n15)

noncomputable def m_spec_l21Choose (n1 : Int) (k3 : Int) : Option Int :=
  (m_spec_l00In k3 0 n1).bind fun y5 =>
  bif !y5 then
    some 0
  else
    (
        (loopM (fun s : Int × Int => m_spec_l21Choose_l1 k3 n1 s.1 s.2) (1, 1)).bind fun n20 =>
        some n20 : Option Int).bind fun n11 =>
    some n11

noncomputable def m_spec_l21Ways_l1 (tiles3 : Str) (pile1 : Str) (n9 : Int) (n11 : Int) : Option ((Int × Int) ⊕ Int) :=
  bif decide (n11 < (tiles3.length : Int)) then
    (
        (
            bif n11 == 0 then
              some true
            else
              (getL tiles3 n11).bind fun c33 =>
              (chk (n11 - 1)).bind fun z35 =>
              (getL tiles3 z35).bind fun c37 =>
              some (c33 != c37) : Option Bool).bind fun t26 =>
        bif t26 then
          (getL tiles3 n11).bind fun c43 =>
          (getL tiles3 n11).bind fun c45 =>
          (m_spec_l21Count pile1 c43).bind fun y47 =>
          (m_spec_l21Count tiles3 c45).bind fun y53 =>
          (m_spec_l21Choose y47 y53).bind fun y59 =>
          (chk (n9 * y59)).bind fun z65 =>
          some z65
        else
          some n9 : Option Int).bind fun n22 =>
    (chk (n11 + 1)).bind fun z70 =>
    some (.inl (n22, z70))
  else
    some (.inr n9)

noncomputable def m_spec_l21Ways (pile1 : Str) (tiles3 : Str) : Option Int :=
  (
      (loopM (fun s : Int × Int => m_spec_l21Ways_l1 tiles3 pile1 s.1 s.2) (1, 0)).bind fun n14 =>
      some n14 : Option Int).bind fun n5 =>
  some n5

noncomputable def m_spec_l21Draws_l1 (y5 : (List Str)) (pile1 : Str) (xs20 : (List Drawn)) (n23 : Int) : Option (((List Drawn) × Int) ⊕ (List Drawn)) :=
  bif decide (n23 < (y5.length : Int)) then
    (getL y5 n23).bind fun e37 =>
    (getL y5 n23).bind fun e46 =>
    (m_spec_l21Ways pile1 e46).bind fun y55 =>
    (catL xs20 ([(⟨e37, y55⟩ : Drawn)] : (List Drawn))).bind fun xs64 =>
    (chk (n23 + 1)).bind fun z71 =>
    some (.inl (xs64, z71))
  else
    some (.inr xs20)

noncomputable def m_spec_l21Draws (pile1 : Str) (n3 : Int) : Option (List Drawn) :=
  (m_spec_l03Subs pile1 n3).bind fun y5 =>
  (
      (loopM (fun s : (List Drawn) × Int => m_spec_l21Draws_l1 y5 pile1 s.1 s.2) (([] : (List Drawn)), 0)).bind fun xs26 =>
      some xs26 : Option (List Drawn)).bind fun xs15 =>
  some xs15

noncomputable def m_spec_CasesOf (unseen1 : Str) : Option ((List Drawn) × Int) :=
  (m_spec_l23Unseen unseen1).bind fun y3 =>
  bif !y3 then
    some (([] : (List Drawn)), 1)
  else
    (m_spec_l21Draws unseen1 1).bind fun y9 =>
    some (y9, 0)

noncomputable def m_impl_isUnseen (s1 : Str) : Option Bool :=
  (
      bif decide (2 ≤ (s1.length : Int)) then
        bif decide ((s1.length : Int) ≤ 8) then
          (m_impl_ValidPile s1).bind fun y9 =>
          some y9
        else
          some false
      else
        some false : Option Bool).bind fun t3 =>
  some t3

noncomputable def m_impl_countsOf_l1 (s1 : Str) (xs15 : (List Int)) (n17 : Int) : Option (((List Int) × Int) ⊕ (List Int)) :=
  bif decide (n17 < (s1.length : Int)) then
    (getL s1 n17).bind fun c28 =>
    (m_impl_place c28).bind fun y30 =>
    (getL xs15 y30).bind fun n36 =>
    (chk (n36 + 1)).bind fun z38 =>
    (getL xs15 y30).bind fun n40 =>
    (setL xs15 y30 z38).bind fun xs43 =>
    (chk (n17 + 1)).bind fun z45 =>
    some (.inl (xs43, z45))
  else
    some (.inr xs15)

noncomputable def m_impl_countsOf (s1 : Str) : Option (List Int) :=
  (
      (loopM (fun s : (List Int) × Int => m_impl_countsOf_l1 s1 s.1 s.2) ((List.replicate 27 (0 : Int)), 0)).bind fun xs20 =>
      some xs20 : Option (List Int)).bind fun xs11 =>
  some xs11

noncomputable def m_impl_someDraws_1 (x1 : Str) (p3 : (List Str)) (p7 : Int) : Option (Bool × (List Str)) :=
  (catL p3 ([x1] : (List Str))).bind fun xs14 =>
  some (decide ((xs14.length : Int) ≤ p7), xs14)

noncomputable def m_impl_tileAt (k1 : Int) : Option UInt8 :=
  bif k1 == 0 then
    some 63
  else
    (chk (97 + k1)).bind fun z4 =>
    (chk (z4 - 1)).bind fun z6 =>
    some (UInt8.ofNat (z6 % 256).toNat)

noncomputable def m_impl_subsets_1_l1 (rc : Int → Str → Int → (List Int) → (List Str) → Int → Option (Bool × Str × (List Int) × (List Str))) (p7 : Int) (p24 : Int) (xs52 : (List Int)) (xs54 : Str) (xs57 : (List Str)) (k60 : Int) : Option (((List Int) × Str × (List Str) × Int) ⊕ (((List Int) × Str × (List Str)) ⊕ (Bool × Str × (List Int) × (List Str)))) :=
  bif decide (k60 < 27) then
    (
        (getL xs52 k60).bind fun n87 =>
        bif n87 == 0 then
          some (.inl (xs52, xs54, xs57))
        else
          (getL xs52 k60).bind fun n91 =>
          (chk (n91 - 1)).bind fun z93 =>
          (getL xs52 k60).bind fun n95 =>
          (setL xs52 k60 z93).bind fun xs98 =>
          (m_impl_tileAt k60).bind fun y101 =>
          (catL xs54 ([y101] : Str)).bind fun xs109 =>
          (rc k60 xs109 p7 xs98 xs57 p24).bind fun y119 =>
          (chk ((y119.2.1.length : Int) - 1)).bind fun z130 =>
          (subL y119.2.1 0 z130).bind fun l132 =>
          (getL y119.2.2.1 k60).bind fun n138 =>
          (chk (n138 + 1)).bind fun z140 =>
          (getL y119.2.2.1 k60).bind fun n142 =>
          (setL y119.2.2.1 k60 z140).bind fun xs145 =>
          bif !y119.1 then
            some (.inr (false, l132, xs145, y119.2.2.2))
          else
            some (.inl (xs145, l132, y119.2.2.2)) : Option (((List Int) × Str × (List Str)) ⊕ (Bool × Str × (List Int) × (List Str)))).bind fun x85 =>
    match x85 with
    | .inl (xs77, xs79, xs82) =>
      (chk (k60 + 1)).bind fun z150 =>
      some (.inl (xs77, xs79, xs82, z150))
    | .inr r153 =>
      some (.inr (.inr r153))
  else
    some (.inr (.inl (xs52, xs54, xs57)))

noncomputable def m_impl_subsets_1_b (rc : Int → Str → Int → (List Int) → (List Str) → Int → Option (Bool × Str × (List Int) × (List Str))) (k1 : Int) (p3 : Str) (p7 : Int) (p14 : (List Int)) (p20 : (List Str)) (p24 : Int) : Option (Bool × Str × (List Int) × (List Str)) :=
  bif (p3.length : Int) == p7 then
    (m_impl_someDraws_1 p3 p20 p24).bind fun y35 =>
    some (y35.1, p3, p14, y35.2)
  else
    (
        (loopM (fun s : (List Int) × Str × (List Str) × Int => m_impl_subsets_1_l1 rc p7 p24 s.1 s.2.1 s.2.2.1 s.2.2.2) (p14, p3, p20, k1)).bind fun x71 =>
        match x71 with
        | .inl (xs63, xs65, xs68) =>
          some (.inl (xs63, xs65, xs68))
        | .inr r157 =>
          some (.inr r157) : Option (((List Int) × Str × (List Str)) ⊕ (Bool × Str × (List Int) × (List Str)))).bind fun x50 =>
    match x50 with
    | .inl (xs42, xs44, xs47) =>
      some (true, xs44, xs42, xs47)
    | .inr r160 =>
      some r160

noncomputable def m_impl_subsets_1_n : Nat → Int → Str → Int → (List Int) → (List Str) → Int → Option (Bool × Str × (List Int) × (List Str))
  | 0 => fun _ _ _ _ _ _ => none
  | n + 1 => m_impl_subsets_1_b (m_impl_subsets_1_n n)

noncomputable def m_impl_subsets_1 : Int → Str → Int → (List Int) → (List Str) → Int → Option (Bool × Str × (List Int) × (List Str)) := m_impl_subsets_1_n fuelN

noncomputable def m_impl_subsets (c1 : (List Int)) (n3 : Int) (p6 : (List Str)) (p10 : Int) : Option (List Str) :=
  (capL n3).bind fun u26 =>
  (m_impl_subsets_1 0 ([] : Str) n3 c1 p6 p10).bind fun y45 =>
  some y45.2.2.2

noncomputable def m_impl_someDraws (pile1 : Str) (n3 : Int) (most5 : Int) : Option (List Str) :=
  (m_impl_countsOf pile1).bind fun y21 =>
  (m_impl_subsets y21 n3 ([] : (List Str)) most5).bind fun y27 =>
  some y27

noncomputable def m_impl_choose_l1 (k3 : Int) (n1 : Int) (n10 : Int) (n12 : Int) : Option ((Int × Int) ⊕ Int) :=
  bif decide (n12 ≤ k3) then
    (chk (n1 - k3)).bind fun z23 =>
    (chk (z23 + n12)).bind fun z25 =>
    (chk (n10 * z25)).bind fun z27 =>
    (quoI z27 n12).bind fun z29 =>
    (chk (n12 + 1)).bind fun z31 =>
    some (.inl (z29, z31))
  else
    some (.inr n10)

noncomputable def m_impl_choose (n1 : Int) (k3 : Int) : Option Int :=
  bif decide (n1 < k3) then
    some 0
  else
    (
        (loopM (fun s : Int × Int => m_impl_choose_l1 k3 n1 s.1 s.2) (1, 1)).bind fun n15 =>
        some n15 : Option Int).bind fun n6 =>
    some n6

noncomputable def m_impl_waysToDraw_l1 (y13 : (List Int)) (c1 : (List Int)) (n19 : Int) (n21 : Int) : Option ((Int × Int) ⊕ Int) :=
  bif decide (n19 < 27) then
    (getL y13 n19).bind fun n32 =>
    (getL c1 n19).bind fun n34 =>
    (m_impl_choose n34 n32).bind fun y36 =>
    (chk (n21 * y36)).bind fun z42 =>
    (chk (n19 + 1)).bind fun z44 =>
    some (.inl (z44, z42))
  else
    some (.inr n21)

noncomputable def m_impl_waysToDraw (c1 : (List Int)) (drawn3 : Str) : Option Int :=
  (
      (m_impl_countsOf drawn3).bind fun y13 =>
      (loopM (fun s : Int × Int => m_impl_waysToDraw_l1 y13 c1 s.1 s.2) (0, 1)).bind fun n24 =>
      some n24 : Option Int).bind fun n9 =>
  some n9

noncomputable def m_impl_draws_l1 (y26 : (List Str)) (y8 : (List Int)) (xs34 : (List Drawn)) (n37 : Int) : Option (((List Drawn) × Int) ⊕ (List Drawn)) :=
  bif decide (n37 < (y26.length : Int)) then
    (getL y26 n37).bind fun e49 =>
    (m_impl_waysToDraw y8 e49).bind fun y58 =>
    (catL xs34 ([(⟨e49, y58⟩ : Drawn)] : (List Drawn))).bind fun xs67 =>
    (chk (n37 + 1)).bind fun z74 =>
    some (.inl (xs67, z74))
  else
    some (.inr xs34)

noncomputable def m_impl_draws (pile1 : Str) (n3 : Int) : Option (List Drawn) :=
  (m_impl_countsOf pile1).bind fun y8 =>
  (
      (chk ((pile1.length : Int) * 2000)).bind fun z24 =>
      (m_impl_someDraws pile1 n3 z24).bind fun y26 =>
      (loopM (fun s : (List Drawn) × Int => m_impl_draws_l1 y26 y8 s.1 s.2) (([] : (List Drawn)), 0)).bind fun xs40 =>
      some xs40 : Option (List Drawn)).bind fun xs19 =>
  some xs19

noncomputable def m_impl_CasesOf (unseen1 : Str) : Option ((List Drawn) × Int) :=
  (m_impl_isUnseen unseen1).bind fun y3 =>
  bif !y3 then
    some (([] : (List Drawn)), 1)
  else
    (m_impl_draws unseen1 1).bind fun y9 =>
    some (y9, 0)

noncomputable def m_laws_eqDrawn (a1 : Drawn) (b4 : Drawn) : Option Bool :=
  bif a1.Tiles != b4.Tiles then
    some false
  else
    bif a1.Ways != b4.Ways then
      some false
    else
      some true

noncomputable def m_laws_eqDrawnS_l1 (a1 : (List Drawn)) (b5 : (List Drawn)) (n14 : Int) : Option (Int ⊕ (Unit ⊕ Bool)) :=
  bif decide (n14 < (a1.length : Int)) then
    (getL a1 n14).bind fun e25 =>
    (getL b5 n14).bind fun e35 =>
    (m_laws_eqDrawn e25 e35).bind fun y45 =>
    bif !y45 then
      some (.inr (.inr false))
    else
      (chk (n14 + 1)).bind fun z51 =>
      some (.inl z51)
  else
    some (.inr (.inl ()))

noncomputable def m_laws_eqDrawnS (a1 : (List Drawn)) (b5 : (List Drawn)) : Option Bool :=
  bif (a1.length : Int) != (b5.length : Int) then
    some false
  else
    (
        (loopM (fun s : Int => m_laws_eqDrawnS_l1 a1 b5 s) 0).bind fun x17 =>
        match x17 with
        | .inl _ =>
          some (.inl ())
        | .inr r57 =>
          some (.inr r57) : Option (Unit ⊕ Bool)).bind fun x12 =>
    match x12 with
    | .inl _ =>
      some true
    | .inr r60 =>
      some r60

noncomputable def m_laws_markText_l1 (k8 : Int) (s10 : Str) : Option ((Int × Str) ⊕ Str) :=
  bif decide (0 < k8) then
    (remI k8 10).bind fun z21 =>
    (chk (48 + z21)).bind fun z23 =>
    (catL ([UInt8.ofNat (z23 % 256).toNat] : Str) s10).bind fun s29 =>
    (quoI k8 10).bind fun z31 =>
    some (.inl (z31, s29))
  else
    some (.inr s10)

noncomputable def m_laws_markText (k1 : Int) : Option Str :=
  bif decide (k1 ≤ 0) then
    some ([109, 48] : Str)
  else
    (
        (loopM (fun s : Int × Str => m_laws_markText_l1 s.1 s.2) (k1, ([] : Str))).bind fun s13 =>
        some s13 : Option Str).bind fun s4 =>
    (catL ([109] : Str) s4).bind fun s39 =>
    some s39

noncomputable def m_laws_markDrawnS_l1 (xs12 : (List Drawn)) (k14 : Int) (n16 : Int) : Option (((List Drawn) × Int × Int) ⊕ ((List Drawn) × Int)) :=
  bif decide (n16 < (xs12.length : Int)) then
    (m_laws_markText k14).bind fun y30 =>
    (getL xs12 n16).bind fun e36 =>
    (setL xs12 n16 (⟨y30, e36.Ways⟩ : Drawn)).bind fun xs47 =>
    (chk (k14 + 1)).bind fun z49 =>
    (getL xs47 n16).bind fun e51 =>
    (setL xs47 n16 (⟨e51.Tiles, z49⟩ : Drawn)).bind fun xs62 =>
    (chk (z49 + 1)).bind fun z64 =>
    (chk (n16 + 1)).bind fun z66 =>
    some (.inl (xs62, z64, z66))
  else
    some (.inr (xs12, k14))

noncomputable def m_laws_markDrawnS (a1 : (List Drawn)) (k4 : Int) : Option (Int × (List Drawn)) :=
  (
      (loopM (fun s : (List Drawn) × Int × Int => m_laws_markDrawnS_l1 s.1 s.2.1 s.2.2) (a1, k4, 0)).bind fun x23 =>
      match x23 with
      | (xs19, k21) =>
        some (xs19, k21) : Option ((List Drawn) × Int)).bind fun x10 =>
  match x10 with
  | (xs6, k8) =>
    some (k8, xs6)

noncomputable def m_laws_heldDrawnS_l1 (a1 : (List Drawn)) (k11 : Int) (n13 : Int) : Option ((Int × Int) ⊕ (Int ⊕ Int)) :=
  bif decide (n13 < (a1.length : Int)) then
    (getL a1 n13).bind fun e26 =>
    (m_laws_markText k11).bind fun y36 =>
    bif e26.Tiles != y36 then
      some (.inr (.inr (-1)))
    else
      (chk (k11 + 1)).bind fun z43 =>
      (getL a1 n13).bind fun e45 =>
      bif e45.Ways != z43 then
        some (.inr (.inr (-1)))
      else
        (chk (z43 + 1)).bind fun z56 =>
        (chk (n13 + 1)).bind fun z58 =>
        some (.inl (z56, z58))
  else
    some (.inr (.inl k11))

noncomputable def m_laws_heldDrawnS (a1 : (List Drawn)) (k5 : Int) : Option Int :=
  (
      (loopM (fun s : Int × Int => m_laws_heldDrawnS_l1 a1 s.1 s.2) (k5, 0)).bind fun x18 =>
      match x18 with
      | .inl k16 =>
        some (.inl k16)
      | .inr r64 =>
        some (.inr r64) : Option (Int ⊕ Int)).bind fun x9 =>
  match x9 with
  | .inl k7 =>
    some k7
  | .inr r67 =>
    some r67

noncomputable def m_laws_FnExactCasesOf (aUnseen1 : Str) : Option Bool :=
  bif decide (1048576 < (aUnseen1.length : Int)) then
    some true
  else
    (m_spec_CasesOf aUnseen1).bind fun y4 =>
    (m_impl_CasesOf aUnseen1).bind fun y12 =>
    (
        (m_laws_eqDrawnS y12.1 y4.1).bind fun y24 =>
        bif !y24 then
          some true
        else
          some (y12.2 != y4.2) : Option Bool).bind fun t20 =>
    bif t20 then
      some false
    else
      (m_laws_markDrawnS y12.1 1).bind fun y34 =>
      (m_laws_heldDrawnS y34.2 1).bind fun y41 =>
      bif decide (y41 < 0) then
        some false
      else
        bif y41 != y34.1 then
          some false
        else
          (m_impl_CasesOf aUnseen1).bind fun y49 =>
          (
              (m_laws_eqDrawnS y49.1 y4.1).bind fun y61 =>
              bif !y61 then
                some true
              else
                some (y49.2 != y4.2) : Option Bool).bind fun t57 =>
          bif t57 then
            some false
          else
            (m_laws_heldDrawnS y34.2 1).bind fun y71 =>
            bif decide (y71 < 0) then
              some false
            else
              bif y71 != y34.1 then
                some false
              else
                some true

noncomputable def m_laws_a2Long (code1 : Str) (more5 : Str) : Option Bool :=
  (
      bif decide (3000 < (code1.length : Int)) then
        some true
      else
        some (decide (3000 < (more5.length : Int))) : Option Bool).bind fun t9 =>
  some t9

noncomputable def m_spec_l00From (code1 : Str) : Option l00Src :=
  some (⟨code1, 0, 0⟩ : l00Src)

noncomputable def m_spec_l00Src_next (s1 : l00Src) : Option (Int × l00Src) :=
  (
      bif decide (s1.at_ < (s1.code.length : Int)) then
        (getL s1.code s1.at_).bind fun e16 =>
        some (e16.toNat : Int)
      else
        some 0 : Option Int).bind fun n8 =>
  (chk (s1.at_ + 1)).bind fun z27 =>
  bif decide (z27 ≤ (s1.code.length : Int)) then
    some (n8, (⟨s1.code, z27, (((((s1.seed * 6364136223846793005) % 18446744073709551616) + (n8 % 18446744073709551616)) % 18446744073709551616) + 1442695040888963407) % 18446744073709551616⟩ : l00Src))
  else
    (chk ((((((((s1.seed * 6364136223846793005) % 18446744073709551616) + (n8 % 18446744073709551616)) % 18446744073709551616) + 1442695040888963407) % 18446744073709551616) / 1099511627776) % 256)).bind fun z38 =>
    some (z38, (⟨s1.code, z27, (((((s1.seed * 6364136223846793005) % 18446744073709551616) + (n8 % 18446744073709551616)) % 18446744073709551616) + 1442695040888963407) % 18446744073709551616⟩ : l00Src))

noncomputable def m_spec_l00Src_pick (s1 : l00Src) (n8 : Int) : Option (Int × l00Src) :=
  bif decide (n8 ≤ 1) then
    some (0, s1)
  else
    (m_spec_l00Src_next s1).bind fun y11 =>
    (
        bif decide (200 < n8) then
          (chk (y11.1 * 256)).bind fun z34 =>
          (m_spec_l00Src_next y11.2).bind fun y36 =>
          (chk (z34 + y36.1)).bind fun z47 =>
          some (y36.2.code, y36.2.at_, y36.2.seed, z47)
        else
          some (y11.2.code, y11.2.at_, y11.2.seed, y11.1) : Option (Str × Int × Int × Int)).bind fun x31 =>
    match x31 with
    | (l22, n25, n27, n29) =>
      (remI n29 n8).bind fun z52 =>
      some (z52, (⟨l22, n25, n27⟩ : l00Src))

noncomputable def m_spec_l00Src_text (s1 : l00Src) (list8 : (List Str)) : Option (Str × l00Src) :=
  (m_spec_l00Src_pick s1 (list8.length : Int)).bind fun y13 =>
  (getL list8 y13.1).bind fun e24 =>
  some (e24, y13.2)

noncomputable def m_spec_l03Sort_l2 (s1 : Str) (k14 : Int) (xs49 : Str) (n50 : Int) : Option ((Str × Int) ⊕ (Str × Int)) :=
  (
      bif decide (0 < n50) then
        (chk (n50 - 1)).bind fun z67 =>
        (getL xs49 z67).bind fun e69 =>
        (getL s1 k14).bind fun c77 =>
        some (decide (c77 < e69))
      else
        some false : Option Bool).bind fun t61 =>
  bif t61 then
    (chk (n50 - 1)).bind fun z83 =>
    (getL xs49 z83).bind fun e85 =>
    (getL xs49 n50).bind fun e93 =>
    (setL xs49 n50 e85).bind fun xs102 =>
    (chk (n50 - 1)).bind fun z104 =>
    some (.inl (xs102, z104))
  else
    some (.inr (xs49, n50))

noncomputable def m_spec_l03Sort_l1 (s1 : Str) (xs11 : Str) (k14 : Int) : Option ((Str × Int) ⊕ Str) :=
  bif decide (k14 < (s1.length : Int)) then
    (
        (getL s1 k14).bind fun c32 =>
        (catL xs11 ([c32] : Str)).bind fun xs37 =>
        (
            (loopM (fun s : Str × Int => m_spec_l03Sort_l2 s1 k14 s.1 s.2) (xs37, (xs11.length : Int))).bind fun x56 =>
            match x56 with
            | (xs53, n54) =>
              some (xs53, n54) : Option (Str × Int)).bind fun x47 =>
        match x47 with
        | (xs44, n45) =>
          (getL s1 k14).bind fun c112 =>
          (getL xs44 n45).bind fun e114 =>
          (setL xs44 n45 c112).bind fun xs123 =>
          some xs123 : Option Str).bind fun xs26 =>
    (chk (k14 + 1)).bind fun z127 =>
    some (.inl (xs26, z127))
  else
    some (.inr xs11)

noncomputable def m_spec_l03Sort (s1 : Str) : Option Str :=
  (
      (loopM (fun s : Str × Int => m_spec_l03Sort_l1 s1 s.1 s.2) (([] : Str), 0)).bind fun xs17 =>
      some xs17 : Option Str).bind fun xs6 =>
  some xs6

noncomputable def m_spec_l03Draw_l1 (l34 : Str) (n37 : Int) (n39 : Int) (s41 : Str) (n43 : Int) : Option ((Str × Int × Int × Str × Int) ⊕ (Str × Int × Int × Str)) :=
  bif decide (0 < n43) then
    (m_spec_l00Src_text (⟨l34, n37, n39⟩ : l00Src) ([([97] : Str), ([101] : Str), ([101] : Str), ([110] : Str), ([114] : Str), ([115] : Str), ([116] : Str), ([98] : Str), ([63] : Str)] : (List Str))).bind fun y64 =>
    (catL s41 y64.1).bind fun s75 =>
    (chk (n43 - 1)).bind fun z77 =>
    some (.inl (y64.2.code, y64.2.at_, y64.2.seed, s75, z77))
  else
    some (.inr (l34, n37, n39, s41))

noncomputable def m_spec_l03Draw (s1 : l00Src) (most8 : Int) : Option (Str × l00Src) :=
  (
      (chk (most8 + 1)).bind fun z21 =>
      (m_spec_l00Src_pick s1 z21).bind fun y23 =>
      (loopM (fun s : Str × Int × Int × Str × Int => m_spec_l03Draw_l1 s.1 s.2.1 s.2.2.1 s.2.2.2.1 s.2.2.2.2) (y23.2.code, y23.2.at_, y23.2.seed, ([] : Str), y23.1)).bind fun x55 =>
      match x55 with
      | (l46, n49, n51, s53) =>
        some (l46, n49, n51, s53) : Option (Str × Int × Int × Str)).bind fun x19 =>
  match x19 with
  | (l10, n13, n15, s17) =>
    (m_spec_l03Sort s17).bind fun y85 =>
    some (y85, (⟨l10, n13, n15⟩ : l00Src))

noncomputable def m_spec_A2Piles (code1 : Str) : Option (Str × Str) :=
  (m_spec_l00From code1).bind fun y5 =>
  (m_spec_l03Draw y5 9).bind fun y16 =>
  (m_spec_l03Draw y16.2 5).bind fun y27 =>
  some (y16.1, y27.1)

noncomputable def m_laws_a2At (code1 : Str) (at_5 : Int) (n7 : Int) : Option Int :=
  (
      bif decide ((code1.length : Int) ≤ at_5) then
        some true
      else
        some (decide (n7 < 1)) : Option Bool).bind fun t9 =>
  bif t9 then
    some 0
  else
    (getL code1 at_5).bind fun e19 =>
    (remI (e19.toNat : Int) n7).bind fun z27 =>
    some z27

noncomputable def m_impl_isPool (s1 : Str) : Option Bool :=
  (
      bif decide ((s1.length : Int) ≤ 12) then
        (m_impl_ValidPile s1).bind fun y8 =>
        some y8
      else
        some false : Option Bool).bind fun t3 =>
  some t3

noncomputable def m_impl_drawCode (pile1 : Str) (n3 : Int) : Option Int :=
  (m_impl_isPool pile1).bind fun y5 =>
  bif !y5 then
    some 1
  else
    (
        (m_impl_within n3 0 7).bind fun y15 =>
        bif !y15 then
          some true
        else
          some (decide ((pile1.length : Int) < n3)) : Option Bool).bind fun t11 =>
    bif t11 then
      some 2
    else
      some 0

noncomputable def m_impl_DrawsOf (pile1 : Str) (n3 : Int) : Option ((List Drawn) × Int) :=
  (m_impl_drawCode pile1 n3).bind fun y5 =>
  bif y5 != 0 then
    some (([] : (List Drawn)), y5)
  else
    (m_impl_draws pile1 n3).bind fun y12 =>
    bif decide (40 < (y12.length : Int)) then
      some (([] : (List Drawn)), 5)
    else
      some (y12, 0)

noncomputable def m_impl_DrawWays (pile1 : Str) (n3 : Int) : Option (Int × Int) :=
  (m_impl_drawCode pile1 n3).bind fun y5 =>
  bif y5 != 0 then
    some (0, y5)
  else
    (m_impl_choose (pile1.length : Int) n3).bind fun y12 =>
    some (y12, 0)

noncomputable def m_impl_counts_less_l1 (d3 : (List Int)) (xs21 : (List Int)) (n23 : Int) : Option (((List Int) × Int) ⊕ ((List Int) ⊕ ((List Int) × Bool))) :=
  bif decide (n23 < 27) then
    (getL d3 n23).bind fun n34 =>
    (getL xs21 n23).bind fun n36 =>
    (chk (n36 - n34)).bind fun z38 =>
    (getL xs21 n23).bind fun n40 =>
    (setL xs21 n23 z38).bind fun xs43 =>
    (getL xs43 n23).bind fun n45 =>
    bif decide (n45 < 0) then
      some (.inr (.inr ((List.replicate 27 (0 : Int)), false)))
    else
      (chk (n23 + 1)).bind fun z52 =>
      some (.inl (xs43, z52))
  else
    some (.inr (.inl xs21))

noncomputable def m_impl_counts_less (c1 : (List Int)) (d3 : (List Int)) : Option ((List Int) × Bool) :=
  (
      (loopM (fun s : (List Int) × Int => m_impl_counts_less_l1 d3 s.1 s.2) (c1, 0)).bind fun x28 =>
      match x28 with
      | .inl xs26 =>
        some (.inl xs26)
      | .inr r58 =>
        some (.inr r58) : Option ((List Int) ⊕ ((List Int) × Bool))).bind fun x19 =>
  match x19 with
  | .inl xs17 =>
    some (xs17, true)
  | .inr r63 =>
    some r63

noncomputable def m_strings_Builder_copyCheck (b1 : Str) : Option Str :=
  some b1

noncomputable def m_strings_Builder_WriteByte (b1 : Str) (c7 : UInt8) : Option (Unit × Str) :=
  (m_strings_Builder_copyCheck b1).bind fun y8 =>
  (catL y8 ([c7] : Str)).bind fun xs20 =>
  some ((), xs20)

noncomputable def m_strings_Builder_String (b1 : Str) : Option Str :=
  some b1

noncomputable def m_impl_counts_pile_l2 (n23 : Int) (xs48 : Str) (n51 : Int) : Option ((Str × Int) ⊕ Str) :=
  bif decide (0 < n51) then
    (m_impl_tileAt n23).bind fun y65 =>
    (m_strings_Builder_WriteByte xs48 y65).bind fun y70 =>
    (chk (n51 - 1)).bind fun z79 =>
    some (.inl (y70.2, z79))
  else
    some (.inr xs48)

noncomputable def m_impl_counts_pile_l1 (c1 : (List Int)) (xs20 : Str) (n23 : Int) : Option ((Str × Int) ⊕ Str) :=
  bif decide (n23 < 27) then
    (
        (getL c1 n23).bind fun n44 =>
        (loopM (fun s : Str × Int => m_impl_counts_pile_l2 n23 s.1 s.2) (xs20, n44)).bind fun xs56 =>
        some xs56 : Option Str).bind fun xs39 =>
    (chk (n23 + 1)).bind fun z87 =>
    some (.inl (xs39, z87))
  else
    some (.inr xs20)

noncomputable def m_impl_counts_pile (c1 : (List Int)) : Option Str :=
  (
      (loopM (fun s : Str × Int => m_impl_counts_pile_l1 c1 s.1 s.2) (([] : Str), 0)).bind fun xs28 =>
      some xs28 : Option Str).bind fun xs13 =>
  (m_strings_Builder_String xs13).bind fun y95 =>
  some y95

noncomputable def m_impl_without (a1 : Str) (b3 : Str) : Option (Str × Bool) :=
  (m_impl_countsOf a1).bind fun y5 =>
  (m_impl_countsOf b3).bind fun y11 =>
  (m_impl_counts_less y5 y11).bind fun y17 =>
  (m_impl_counts_pile y17.1).bind fun y28 =>
  some (y28, y17.2)

noncomputable def m_impl_ChanceOf_1 (sum1 : Int) (x3 : Drawn) (p6 : Str) : Option Int :=
  (
      (m_impl_without x3.Tiles p6).bind fun y20 =>
      bif y20.2 then
        (chk (sum1 + x3.Ways)).bind fun z27 =>
        some z27
      else
        some sum1 : Option Int).bind fun sum14 =>
  some sum14

noncomputable def m_impl_fold_impl_Drawn_int64_l1 (list1 : (List Drawn)) (step7 : (Int → Drawn → Option Int)) (value16 : Int) (n18 : Int) : Option ((Int × Int) ⊕ Int) :=
  bif decide (n18 < (list1.length : Int)) then
    (getL list1 n18).bind fun e29 =>
    (step7 value16 e29).bind fun y46 =>
    (chk (n18 + 1)).bind fun z52 =>
    some (.inl (y46, z52))
  else
    some (.inr value16)

noncomputable def m_impl_fold_impl_Drawn_int64 (list1 : (List Drawn)) (value5 : Int) (step7 : (Int → Drawn → Option Int)) : Option Int :=
  (
      (loopM (fun s : Int × Int => m_impl_fold_impl_Drawn_int64_l1 list1 step7 s.1 s.2) (value5, 0)).bind fun value21 =>
      some value21 : Option Int).bind fun value11 =>
  some value11

noncomputable def m_impl_ChanceOf (pile1 : Str) (n3 : Int) (tiles5 : Str) : Option (Int × Int) :=
  (
      (m_impl_isPool pile1).bind fun y15 =>
      bif !y15 then
        some true
      else
        (m_impl_ValidPile tiles5).bind fun y22 =>
        some (!y22) : Option Bool).bind fun t11 =>
  bif t11 then
    some (0, 1)
  else
    (m_impl_drawCode pile1 n3).bind fun y30 =>
    bif y30 != 0 then
      some (0, y30)
    else
      (m_impl_draws pile1 n3).bind fun y37 =>
      (m_impl_fold_impl_Drawn_int64 y37 0 (fun u44 u46 => m_impl_ChanceOf_1 u44 u46 tiles5)).bind fun y49 =>
      some (y49, 0)

noncomputable def m_spec_l03Take_l1 (a1 : Str) (b3 : Str) (xs15 : Str) (n18 : Int) (n20 : Int) : Option ((Str × Int × Int) ⊕ (Str × Int)) :=
  bif decide (n20 < (a1.length : Int)) then
    (
        (
            bif decide (n18 < (b3.length : Int)) then
              (getL b3 n18).bind fun c47 =>
              (getL a1 n20).bind fun c49 =>
              some (c47 == c49)
            else
              some false : Option Bool).bind fun t41 =>
        bif t41 then
          (chk (n18 + 1)).bind fun z55 =>
          some (xs15, z55)
        else
          (getL a1 n20).bind fun c58 =>
          (catL xs15 ([c58] : Str)).bind fun xs63 =>
          some (xs63, n18) : Option (Str × Int)).bind fun x39 =>
    match x39 with
    | (xs34, n37) =>
      (chk (n20 + 1)).bind fun z72 =>
      some (.inl (xs34, n37, z72))
  else
    some (.inr (xs15, n18))

noncomputable def m_spec_l03Take (a1 : Str) (b3 : Str) : Option (Str × Bool) :=
  (
      (loopM (fun s : Str × Int × Int => m_spec_l03Take_l1 a1 b3 s.1 s.2.1 s.2.2) (([] : Str), 0, 0)).bind fun x28 =>
      match x28 with
      | (xs23, n26) =>
        some (xs23, n26) : Option (Str × Int)).bind fun x13 =>
  match x13 with
  | (xs8, n11) =>
    some (xs8, n11 == (b3.length : Int))

noncomputable def m_spec_ContainsTiles (a1 : Str) (b3 : Str) : Option Bool :=
  (m_spec_l03Take a1 b3).bind fun y5 =>
  (
      (m_spec_l03Pile a1).bind fun y15 =>
      bif y15 then
        (m_spec_l03Pile b3).bind fun y21 =>
        bif y21 then
          some y5.2
        else
          some false
      else
        some false : Option Bool).bind fun ok11 =>
  some ok11

noncomputable def m_laws_FnDrawWays_l1 (y28 : ((List Drawn) × Int)) (y15 : (Str × Str)) (y22 : Int) (x77 : Int) (e79 : Int) : Option ((Int × Int) ⊕ (Int ⊕ Bool)) :=
  bif decide (e79 < (y28.1.length : Int)) then
    (getL y28.1 e79).bind fun e91 =>
    (m_impl_ChanceOf y15.1 y22 e91.Tiles).bind fun y101 =>
    (
        bif y101.2 != 0 then
          some true
        else
          (getL y28.1 e79).bind fun e115 =>
          bif y101.1 != e115.Ways then
            some true
          else
            (getL y28.1 e79).bind fun e127 =>
            bif (e127.Tiles.length : Int) != y22 then
              some true
            else
              (getL y28.1 e79).bind fun e139 =>
              (m_spec_ContainsTiles y15.1 e139.Tiles).bind fun y149 =>
              bif !y149 then
                some true
              else
                bif decide (0 < e79) then
                  (getL y28.1 e79).bind fun e157 =>
                  (chk (e79 - 1)).bind fun z167 =>
                  (getL y28.1 z167).bind fun e169 =>
                  bif ltS e157.Tiles e169.Tiles || e157.Tiles == e169.Tiles then
                    some true
                  else
                    bif decide (y101.1 < 1) then
                      some true
                    else
                      some (decide (1000000 < y101.1))
                else
                  bif decide (y101.1 < 1) then
                    some true
                  else
                    some (decide (1000000 < y101.1)) : Option Bool).bind fun t108 =>
    bif t108 then
      some (.inr (.inr false))
    else
      (chk (x77 + y101.1)).bind fun z189 =>
      (chk (e79 + 1)).bind fun z191 =>
      some (.inl (z189, z191))
  else
    some (.inr (.inl x77))

noncomputable def m_laws_FnDrawWays (code1 : Str) (more5 : Str) : Option Bool :=
  (m_laws_a2Long code1 more5).bind fun y9 =>
  bif y9 then
    some true
  else
    (m_spec_A2Piles code1).bind fun y15 =>
    (m_laws_a2At more5 0 8).bind fun y22 =>
    (m_impl_DrawsOf y15.1 y22).bind fun y28 =>
    (m_impl_DrawWays y15.1 y22).bind fun y36 =>
    (m_impl_ChanceOf y15.1 y22 ([] : Str)).bind fun y43 =>
    bif decide ((y15.1.length : Int) < y22) then
      (
          bif y28.2 == 2 then
            bif y36.2 == y28.2 then
              some (y43.2 == y28.2)
            else
              some false
          else
            some false : Option Bool).bind fun t51 =>
      some t51
    else
      (
          bif y36.2 != 0 then
            some true
          else
            bif y43.2 != 0 then
              some true
            else
              some (y43.1 != y36.1) : Option Bool).bind fun t61 =>
      bif t61 then
        some false
      else
        bif y28.2 != 0 then
          some (y28.2 == 5)
        else
          (
              (loopM (fun s : Int × Int => m_laws_FnDrawWays_l1 y28 y15 y22 s.1 s.2) (0, 0)).bind fun x84 =>
              match x84 with
              | .inl x82 =>
                some (.inl x82)
              | .inr r197 =>
                some (.inr r197) : Option (Int ⊕ Bool)).bind fun x75 =>
          match x75 with
          | .inl x73 =>
            some (x73 == y36.1)
          | .inr r200 =>
            some r200

noncomputable def m_spec_l21Pool (s1 : Str) : Option Bool :=
  (
      (m_spec_l03Pile s1).bind fun y7 =>
      bif y7 then
        some (decide ((s1.length : Int) ≤ 12))
      else
        some false : Option Bool).bind fun t3 =>
  some t3

noncomputable def m_spec_l00Min (a1 : Int) (b3 : Int) : Option Int :=
  bif decide (a1 < b3) then
    some a1
  else
    some b3

noncomputable def m_spec_l21Code (pile1 : Str) (n3 : Int) : Option Int :=
  (m_spec_l21Pool pile1).bind fun y5 =>
  bif !y5 then
    some 1
  else
    (m_spec_l00Min 7 (pile1.length : Int)).bind fun y11 =>
    (m_spec_l00In n3 0 y11).bind fun y17 =>
    bif !y17 then
      some 2
    else
      some 0

noncomputable def m_spec_l21List (pile1 : Str) (n3 : Int) : Option ((List Drawn) × Int) :=
  (m_spec_l21Code pile1 n3).bind fun y5 =>
  bif y5 != 0 then
    some (([] : (List Drawn)), y5)
  else
    (m_spec_l21Draws pile1 n3).bind fun y12 =>
    bif decide (40 < (y12.length : Int)) then
      some (([] : (List Drawn)), 5)
    else
      some (y12, 0)

noncomputable def m_spec_DrawsOf (pile1 : Str) (n3 : Int) : Option ((List Drawn) × Int) :=
  (m_spec_l21List pile1 n3).bind fun y5 =>
  some (y5.1, y5.2)

noncomputable def m_laws_FnExactDrawsOf (aPile1 : Str) (aN3 : Int) : Option Bool :=
  bif decide (1048576 < (aPile1.length : Int)) then
    some true
  else
    (m_spec_DrawsOf aPile1 aN3).bind fun y6 =>
    (m_impl_DrawsOf aPile1 aN3).bind fun y14 =>
    (
        (m_laws_eqDrawnS y14.1 y6.1).bind fun y26 =>
        bif !y26 then
          some true
        else
          some (y14.2 != y6.2) : Option Bool).bind fun t22 =>
    bif t22 then
      some false
    else
      (m_laws_markDrawnS y14.1 1).bind fun y36 =>
      (m_laws_heldDrawnS y36.2 1).bind fun y43 =>
      bif decide (y43 < 0) then
        some false
      else
        bif y43 != y36.1 then
          some false
        else
          (m_impl_DrawsOf aPile1 aN3).bind fun y51 =>
          (
              (m_laws_eqDrawnS y51.1 y6.1).bind fun y63 =>
              bif !y63 then
                some true
              else
                some (y51.2 != y6.2) : Option Bool).bind fun t59 =>
          bif t59 then
            some false
          else
            (m_laws_heldDrawnS y36.2 1).bind fun y73 =>
            bif decide (y73 < 0) then
              some false
            else
              bif y73 != y36.1 then
                some false
              else
                some true

noncomputable def m_spec_ChanceOf_l1 (y33 : (List Drawn)) (tiles5 : Str) (n44 : Int) (n46 : Int) : Option ((Int × Int) ⊕ Int) :=
  bif decide (n46 < (y33.length : Int)) then
    (
        (getL y33 n46).bind fun e62 =>
        (m_spec_ContainsTiles e62.Tiles tiles5).bind fun y72 =>
        bif y72 then
          (getL y33 n46).bind fun e78 =>
          (chk (n44 + e78.Ways)).bind fun z88 =>
          some z88
        else
          some n44 : Option Int).bind fun n58 =>
    (chk (n46 + 1)).bind fun z93 =>
    some (.inl (n58, z93))
  else
    some (.inr n44)

noncomputable def m_spec_ChanceOf (pile1 : Str) (n3 : Int) (tiles5 : Str) : Option (Int × Int) :=
  (
      (m_spec_l21Pool pile1).bind fun y11 =>
      bif !y11 then
        some true
      else
        (m_spec_l03Pile tiles5).bind fun y18 =>
        some (!y18) : Option Bool).bind fun t7 =>
  bif t7 then
    some (0, 1)
  else
    (m_spec_l21Code pile1 n3).bind fun y26 =>
    bif y26 != 0 then
      some (0, y26)
    else
      (m_spec_l21Draws pile1 n3).bind fun y33 =>
      (
          (loopM (fun s : Int × Int => m_spec_ChanceOf_l1 y33 tiles5 s.1 s.2) (0, 0)).bind fun n49 =>
          some n49 : Option Int).bind fun n40 =>
      some (n40, 0)

noncomputable def m_laws_FnExactChanceOf (aPile1 : Str) (aN3 : Int) (aTiles5 : Str) : Option Bool :=
  bif decide (1048576 < (aPile1.length : Int)) then
    some true
  else
    bif decide (1048576 < (aTiles5.length : Int)) then
      some true
    else
      (m_spec_ChanceOf aPile1 aN3 aTiles5).bind fun y9 =>
      (m_impl_ChanceOf aPile1 aN3 aTiles5).bind fun y16 =>
      (
          bif y16.1 != y9.1 then
            some true
          else
            some (y16.2 != y9.2) : Option Bool).bind fun t23 =>
      bif t23 then
        some false
      else
        some true

end Go.Proofs.Ytgmbcolpchckbaa
