/- The models of the program's functions. Printed by gen.py. -/
import Derived.Test.YtgmikhdealhlfaaGreatDoorTyp
import Derived.Test.YtgmikhdealhlfaaGreatDoorEngM
import Derived.Test.YtgmikhdealhlfaaGreatDoorEngN
namespace Go.Proofs.YtgmikhdealhlfaaGreatDoor
open Go Go.RowKit
set_option linter.unusedSimpArgs false
set_option linter.unusedVariables false

noncomputable def m_laws_f6big (code1 : Str) : Option Bool :=
  some (decide (4096 < (code1.length : Int)))

noncomputable def m_spec_l00From (code1 : Str) : Option l00Src :=
  some (⟨code1, 0, 0⟩ : l00Src)

noncomputable def m_spec_l00Src_next (s1 : l00Src) : Option (Int × l00Src) :=
  (
      bif decide (s1.at_ < (s1.code.length : Int)) then
        (getL s1.code s1.at_).bind fun e16 =>
        some (e16.toNat : Int)
      else
        some 0 : Option Int).bind fun n8 =>
  (chk (s1.at_ + 1)).bind fun z27 =>
  bif decide (z27 ≤ (s1.code.length : Int)) then
    some (n8, (⟨s1.code, z27, (((((s1.seed * 6364136223846793005) % 18446744073709551616) + (n8 % 18446744073709551616)) % 18446744073709551616) + 1442695040888963407) % 18446744073709551616⟩ : l00Src))
  else
    (chk ((((((((s1.seed * 6364136223846793005) % 18446744073709551616) + (n8 % 18446744073709551616)) % 18446744073709551616) + 1442695040888963407) % 18446744073709551616) / 1099511627776) % 256)).bind fun z38 =>
    some (z38, (⟨s1.code, z27, (((((s1.seed * 6364136223846793005) % 18446744073709551616) + (n8 % 18446744073709551616)) % 18446744073709551616) + 1442695040888963407) % 18446744073709551616⟩ : l00Src))

noncomputable def m_spec_l00Src_pick (s1 : l00Src) (n8 : Int) : Option (Int × l00Src) :=
  bif decide (n8 ≤ 1) then
    some (0, s1)
  else
    (m_spec_l00Src_next s1).bind fun y11 =>
    (
        bif decide (200 < n8) then
          (chk (y11.1 * 256)).bind fun z34 =>
          (m_spec_l00Src_next y11.2).bind fun y36 =>
          (chk (z34 + y36.1)).bind fun z47 =>
          some (y36.2.code, y36.2.at_, y36.2.seed, z47)
        else
          some (y11.2.code, y11.2.at_, y11.2.seed, y11.1) : Option (Str × Int × Int × Int)).bind fun x31 =>
    match x31 with
    | (l22, n25, n27, n29) =>
      (remI n29 n8).bind fun z52 =>
      some (z52, (⟨l22, n25, n27⟩ : l00Src))

noncomputable def m_spec_l00Src_text (s1 : l00Src) (list8 : (List Str)) : Option (Str × l00Src) :=
  (m_spec_l00Src_pick s1 (list8.length : Int)).bind fun y13 =>
  (getL list8 y13.1).bind fun e24 =>
  some (e24, y13.2)

noncomputable def m_spec_l25Draw_l1 (l58 : Str) (n61 : Int) (n63 : Int) (s65 : Str) (n67 : Int) : Option ((Str × Int × Int × Str × Int) ⊕ (Str × Int × Int × Str)) :=
  bif decide (0 < n67) then
    (m_spec_l00Src_text (⟨l58, n61, n63⟩ : l00Src) ([([46] : Str), ([46] : Str), ([46] : Str), ([46] : Str), ([46] : Str), ([46] : Str), ([35] : Str), ([35] : Str), ([116] : Str), ([101] : Str), ([97] : Str)] : (List Str))).bind fun y89 =>
    (catL s65 y89.1).bind fun s102 =>
    (chk (n67 - 1)).bind fun z107 =>
    some (.inl (y89.2.code, y89.2.at_, y89.2.seed, s102, z107))
  else
    some (.inr (l58, n61, n63, s65))

noncomputable def m_spec_l25Draw (s1 : l00Src) : Option (Grid × l00Src) :=
  (m_spec_l00Src_pick s1 4).bind fun y12 =>
  (chk (1 + y12.1)).bind fun z23 =>
  (m_spec_l00Src_pick y12.2 3).bind fun y25 =>
  (chk (2 + y25.1)).bind fun z36 =>
  (
      (chk (z23 * z36)).bind fun z56 =>
      (loopM (fun s : Str × Int × Int × Str × Int => m_spec_l25Draw_l1 s.1 s.2.1 s.2.2.1 s.2.2.2.1 s.2.2.2.2) (y25.2.code, y25.2.at_, y25.2.seed, ([] : Str), z56)).bind fun x79 =>
      match x79 with
      | (l70, n73, n75, s77) =>
        some (l70, n73, n75, s77) : Option (Str × Int × Int × Str)).bind fun x54 =>
  match x54 with
  | (l45, n48, n50, s52) =>
    some ((⟨z23, z36, s52⟩ : Grid), (⟨l45, n48, n50⟩ : l00Src))

noncomputable def m_spec_l00Src_among (s1 : l00Src) (list8 : (List Int)) : Option (Int × l00Src) :=
  (m_spec_l00Src_pick s1 (list8.length : Int)).bind fun y13 =>
  (getL list8 y13.1).bind fun e24 =>
  some (e24, y13.2)

noncomputable def m_spec_l02Repeat_l1 (c1 : UInt8) (xs12 : Str) (n15 : Int) : Option ((Str × Int) ⊕ Str) :=
  bif decide (0 < n15) then
    (catL xs12 ([c1] : Str)).bind fun xs30 =>
    (chk (n15 - 1)).bind fun z37 =>
    some (.inl (xs30, z37))
  else
    some (.inr xs12)

noncomputable def m_spec_l02Repeat (c1 : UInt8) (n2 : Int) : Option Str :=
  (
      (loopM (fun s : Str × Int => m_spec_l02Repeat_l1 c1 s.1 s.2) (([] : Str), n2)).bind fun xs18 =>
      some xs18 : Option Str).bind fun xs7 =>
  some xs7

noncomputable def m_spec_l25Bent (s1 : l00Src) : Option (Grid × l00Src) :=
  (m_spec_l25Draw s1).bind fun y12 =>
  (
      (m_spec_l00Src_pick y12.2 24).bind fun y47 =>
      bif y47.1 == 0 then
        (chk (y12.1.Rows + 1)).bind fun z59 =>
        (m_spec_l00Src_among y47.2 ([0, 6, z59] : (List Int))).bind fun y64 =>
        some (y64.2.code, y64.2.at_, y64.2.seed, y64.1, y12.1.Cols, y12.1.Cells)
      else
        bif y47.1 == 1 then
          (subL y12.1.Cells 1 (y12.1.Cells.length : Int)).bind fun s81 =>
          (m_spec_l00Src_text y47.2 ([([65] : Str), ([63] : Str), ([32] : Str)] : (List Str))).bind fun y86 =>
          (catL y86.1 s81).bind fun s99 =>
          some (y86.2.code, y86.2.at_, y86.2.seed, y12.1.Rows, y12.1.Cols, s99)
        else
          bif y47.1 == 2 then
            (m_spec_l00Src_pick y47.2 2).bind fun y106 =>
            (chk (5 + y106.1)).bind fun z117 =>
            (m_spec_l02Repeat 46 z117).bind fun y119 =>
            some (y106.2.code, y106.2.at_, y106.2.seed, 1, z117, y119)
          else
            bif y47.1 == 3 then
              some (y47.2.code, y47.2.at_, y47.2.seed, 5, 3, ([46, 35, 46, 46, 35, 46, 46, 35, 46, 46, 35, 46, 46, 35, 46] : Str))
            else
              some (y47.2.code, y47.2.at_, y47.2.seed, y12.1.Rows, y12.1.Cols, y12.1.Cells) : Option (Str × Int × Int × Int × Int × Str)).bind fun x45 =>
  match x45 with
  | (l32, n35, n37, n39, n41, s43) =>
    some ((⟨n39, n41, s43⟩ : Grid), (⟨l32, n35, n37⟩ : l00Src))

noncomputable def m_spec_l00In (n1 : Int) (low3 : Int) (high5 : Int) : Option Bool :=
  (
      bif decide (low3 ≤ n1) then
        some (decide (n1 ≤ high5))
      else
        some false : Option Bool).bind fun t7 =>
  some t7

noncomputable def m_spec_l01Small (c1 : UInt8) : Option Bool :=
  (
      bif decide (97 ≤ c1) then
        some (decide (c1 ≤ 122))
      else
        some false : Option Bool).bind fun t2 =>
  some t2

noncomputable def m_spec_l25Ok_l1 (g1 : Grid) (n35 : Int) : Option (Int ⊕ (Unit ⊕ Bool)) :=
  bif decide (n35 < (g1.Cells.length : Int)) then
    (
        (getL g1.Cells n35).bind fun c52 =>
        bif c52 != 35 then
          (getL g1.Cells n35).bind fun c55 =>
          bif c55 != 46 then
            (getL g1.Cells n35).bind fun c58 =>
            (m_spec_l01Small c58).bind fun y60 =>
            some (!y60)
          else
            some false
        else
          some false : Option Bool).bind fun t48 =>
    bif t48 then
      some (.inr (.inr false))
    else
      (chk (n35 + 1)).bind fun z70 =>
      some (.inl z70)
  else
    some (.inr (.inl ()))

noncomputable def m_spec_l25Ok (g1 : Grid) : Option Bool :=
  (
      (m_spec_l00In g1.Rows 1 5).bind fun y14 =>
      bif !y14 then
        some true
      else
        (m_spec_l00In g1.Cols 1 5).bind fun y21 =>
        bif !y21 then
          some true
        else
          (chk (g1.Rows * g1.Cols)).bind fun z28 =>
          some ((g1.Cells.length : Int) != z28) : Option Bool).bind fun t5 =>
  bif t5 then
    some false
  else
    (
        (loopM (fun s : Int => m_spec_l25Ok_l1 g1 s) 0).bind fun x38 =>
        match x38 with
        | .inl _ =>
          some (.inl ())
        | .inr r76 =>
          some (.inr r76) : Option (Unit ⊕ Bool)).bind fun x33 =>
    match x33 with
    | .inl _ =>
      some true
    | .inr r79 =>
      some r79

noncomputable def m_spec_l25At (g1 : Grid) (row5 : Int) (col7 : Int) : Option UInt8 :=
  (
      (chk (g1.Rows - 1)).bind fun z17 =>
      (m_spec_l00In row5 0 z17).bind fun y19 =>
      bif !y19 then
        some true
      else
        (chk (g1.Cols - 1)).bind fun z26 =>
        (m_spec_l00In col7 0 z26).bind fun y28 =>
        some (!y28) : Option Bool).bind fun t9 =>
  bif t9 then
    some 35
  else
    (chk (row5 * g1.Cols)).bind fun z41 =>
    (chk (z41 + col7)).bind fun z43 =>
    (getL g1.Cells z43).bind fun c45 =>
    some c45

noncomputable def m_spec_l25Across_l3 (n40 : Int) (g1 : Grid) (c16 : Int) (n56 : Int) : Option (Int ⊕ Int) :=
  (chk (n40 + n56)).bind fun z66 =>
  (m_spec_l25At g1 c16 z66).bind fun y68 =>
  bif y68 != 35 then
    (chk (n56 + 1)).bind fun z74 =>
    some (.inl z74)
  else
    some (.inr n56)

noncomputable def m_spec_l25Across_l2 (g1 : Grid) (c16 : Int) (xs37 : (List Slot)) (n40 : Int) : Option (((List Slot) × Int) ⊕ (List Slot)) :=
  bif decide (n40 < g1.Cols) then
    (
        (loopM (fun s : Int => m_spec_l25Across_l3 n40 g1 c16 s) 0).bind fun n59 =>
        some n59 : Option Int).bind fun n52 =>
    (
        bif decide (2 ≤ n52) then
          (catL xs37 ([(⟨c16, n40, false, n52⟩ : Slot)] : (List Slot))).bind fun xs91 =>
          some xs91
        else
          some xs37 : Option (List Slot)).bind fun xs82 =>
    (chk (n52 + 1)).bind fun z101 =>
    (chk (n40 + z101)).bind fun z103 =>
    some (.inl (xs82, z103))
  else
    some (.inr xs37)

noncomputable def m_spec_l25Across_l1 (g1 : Grid) (xs13 : (List Slot)) (c16 : Int) : Option (((List Slot) × Int) ⊕ (List Slot)) :=
  bif decide (c16 < g1.Rows) then
    (
        (loopM (fun s : (List Slot) × Int => m_spec_l25Across_l2 g1 c16 s.1 s.2) (xs13, 0)).bind fun xs43 =>
        some xs43 : Option (List Slot)).bind fun xs32 =>
    (chk (c16 + 1)).bind fun z111 =>
    some (.inl (xs32, z111))
  else
    some (.inr xs13)

noncomputable def m_spec_l25Across (g1 : Grid) : Option (List Slot) :=
  (
      (loopM (fun s : (List Slot) × Int => m_spec_l25Across_l1 g1 s.1 s.2) (([] : (List Slot)), 0)).bind fun xs19 =>
      some xs19 : Option (List Slot)).bind fun xs8 =>
  some xs8

noncomputable def m_spec_l25Turn_l2 (g1 : Grid) (r20 : Int) (xs41 : Str) (n44 : Int) : Option ((Str × Int) ⊕ Str) :=
  bif decide (n44 < g1.Rows) then
    (m_spec_l25At g1 n44 r20).bind fun y56 =>
    (catL xs41 ([y56] : Str)).bind fun xs64 =>
    (chk (n44 + 1)).bind fun z71 =>
    some (.inl (xs64, z71))
  else
    some (.inr xs41)

noncomputable def m_spec_l25Turn_l1 (g1 : Grid) (xs17 : Str) (r20 : Int) : Option ((Str × Int) ⊕ Str) :=
  bif decide (r20 < g1.Cols) then
    (
        (loopM (fun s : Str × Int => m_spec_l25Turn_l2 g1 r20 s.1 s.2) (xs17, 0)).bind fun xs47 =>
        some xs47 : Option Str).bind fun xs36 =>
    (chk (r20 + 1)).bind fun z79 =>
    some (.inl (xs36, z79))
  else
    some (.inr xs17)

noncomputable def m_spec_l25Turn (g1 : Grid) : Option Grid :=
  (
      (loopM (fun s : Str × Int => m_spec_l25Turn_l1 g1 s.1 s.2) (([] : Str), 0)).bind fun xs23 =>
      some xs23 : Option Str).bind fun xs12 =>
  some (⟨g1.Cols, g1.Rows, xs12⟩ : Grid)

noncomputable def m_spec_l25Slots_l1 (y27 : (List Slot)) (xs39 : (List Slot)) (n42 : Int) : Option (((List Slot) × Int) ⊕ (List Slot)) :=
  bif decide (n42 < (y27.length : Int)) then
    (getL y27 n42).bind fun e56 =>
    (getL y27 n42).bind fun e67 =>
    (getL y27 n42).bind fun e78 =>
    (catL xs39 ([(⟨e56.Col, e67.Row, true, e78.Length⟩ : Slot)] : (List Slot))).bind fun xs92 =>
    (chk (n42 + 1)).bind fun z99 =>
    some (.inl (xs92, z99))
  else
    some (.inr xs39)

noncomputable def m_spec_l25Slots (g1 : Grid) : Option (List Slot) :=
  (m_spec_l25Across g1).bind fun y5 =>
  (m_spec_l25Turn g1).bind fun y12 =>
  (m_spec_l25Across y12).bind fun y27 =>
  (
      (loopM (fun s : (List Slot) × Int => m_spec_l25Slots_l1 y27 s.1 s.2) (y5, 0)).bind fun xs45 =>
      some xs45 : Option (List Slot)).bind fun xs34 =>
  some xs34

noncomputable def m_spec_l00Src_one (s1 : l00Src) (n8 : Int) : Option (Bool × l00Src) :=
  (m_spec_l00Src_pick s1 n8).bind fun y10 =>
  some (y10.1 == 0, y10.2)

noncomputable def m_spec_l25Slot (s1 : l00Src) (g8 : Grid) : Option (Int × l00Src) :=
  (
      (m_spec_l25Ok g8).bind fun y16 =>
      bif y16 then
        (m_spec_l25Slots g8).bind fun y22 =>
        some (y22.length : Int)
      else
        some 0 : Option Int).bind fun n12 =>
  (m_spec_l00Src_one s1 12).bind fun y33 =>
  bif y33.1 then
    (m_spec_l00Src_among y33.2 ([(-1), n12] : (List Int))).bind fun y47 =>
    some (y47.1, y47.2)
  else
    (m_spec_l00Src_pick y33.2 n12).bind fun y58 =>
    some (y58.1, y58.2)

noncomputable def m_spec_l25Code (g1 : Grid) (slot5 : Int) : Option Int :=
  (m_spec_l25Ok g1).bind fun y7 =>
  bif !y7 then
    some 1
  else
    (m_spec_l25Slots g1).bind fun y13 =>
    (chk ((y13.length : Int) - 1)).bind fun z21 =>
    (m_spec_l00In slot5 0 z21).bind fun y23 =>
    bif !y23 then
      some 2
    else
      some 0

noncomputable def m_spec_l25Square (g1 : Grid) (s5 : Slot) (k9 : Int) : Option Int :=
  bif s5.Down then
    (chk (s5.Row + k9)).bind fun z17 =>
    (chk (z17 * g1.Cols)).bind fun z23 =>
    (chk (z23 + s5.Col)).bind fun z25 =>
    some z25
  else
    (chk (s5.Row * g1.Cols)).bind fun z32 =>
    (chk (z32 + s5.Col)).bind fun z34 =>
    (chk (z34 + k9)).bind fun z36 =>
    some z36

noncomputable def m_spec_l25Pattern_l1 (s5 : Slot) (g1 : Grid) (xs17 : Str) (n20 : Int) : Option ((Str × Int) ⊕ Str) :=
  bif decide (n20 < s5.Length) then
    (m_spec_l25Square g1 s5 n20).bind fun y41 =>
    (getL g1.Cells y41).bind fun c47 =>
    (catL xs17 ([c47] : Str)).bind fun xs52 =>
    (chk (n20 + 1)).bind fun z59 =>
    some (.inl (xs52, z59))
  else
    some (.inr xs17)

noncomputable def m_spec_l25Pattern (g1 : Grid) (s5 : Slot) : Option Str :=
  (
      (loopM (fun s : Str × Int => m_spec_l25Pattern_l1 s5 g1 s.1 s.2) (([] : Str), 0)).bind fun xs23 =>
      some xs23 : Option Str).bind fun xs12 =>
  some xs12

noncomputable def m_spec_DrawPutWord_l1 (xs139 : Str) (n140 : Int) : Option ((Str × Int) ⊕ Str) :=
  bif decide (n140 < (xs139.length : Int)) then
    (
        (getL xs139 n140).bind fun e154 =>
        bif e154 == 46 then
          (getL xs139 n140).bind fun e163 =>
          (setL xs139 n140 101).bind fun xs172 =>
          some xs172
        else
          some xs139 : Option Str).bind fun xs151 =>
    (chk (n140 + 1)).bind fun z177 =>
    some (.inl (xs151, z177))
  else
    some (.inr xs139)

noncomputable def m_spec_DrawPutWord (code1 : Str) : Option (Grid × Int × Str) :=
  (m_spec_l00From code1).bind fun y9 =>
  (m_spec_l25Bent y9).bind fun y20 =>
  (m_spec_l25Slot y20.2 y20.1).bind fun y40 =>
  (m_spec_l00Src_text y40.2 ([([97, 110] : Str), ([97, 116, 101] : Str), ([116, 101, 116, 101] : Str), ([97, 116] : Str), ([101, 97, 116] : Str), ([] : Str), ([65] : Str), ([116, 101, 115, 116, 115] : Str)] : (List Str))).bind fun y54 =>
  (
      (
          (m_spec_l00Src_one y54.2 2).bind fun y87 =>
          bif y87.1 then
            (m_spec_l25Code y20.1 y40.1).bind fun y98 =>
            some (y87.2.code, y87.2.at_, y87.2.seed, y98 == 0)
          else
            some (y87.2.code, y87.2.at_, y87.2.seed, false) : Option (Str × Int × Int × Bool)).bind fun x85 =>
      match x85 with
      | (l76, n79, n81, t83) =>
        bif t83 then
          (m_spec_l25Slots y20.1).bind fun y108 =>
          (getL y108 y40.1).bind fun e115 =>
          (m_spec_l25Pattern y20.1 e115).bind fun y126 =>
          (
              (loopM (fun s : Str × Int => m_spec_DrawPutWord_l1 s.1 s.2) (y126, 0)).bind fun xs143 =>
              some xs143 : Option Str).bind fun xs136 =>
          some (l76, n79, n81, xs136)
        else
          some (l76, n79, n81, y54.1) : Option (Str × Int × Int × Str)).bind fun x74 =>
  match x74 with
  | (l65, n68, n70, list72) =>
    some (y20.1, y40.1, list72)

noncomputable def m_impl_within (x1 : Int) (low3 : Int) (high5 : Int) : Option Bool :=
  (
      bif decide (low3 ≤ x1) then
        some (decide (x1 ≤ high5))
      else
        some false : Option Bool).bind fun t7 =>
  some t7

noncomputable def m_impl_allBytes_l1 (s1 : Str) (is3 : (UInt8 → Option Bool)) (n9 : Int) : Option (Int ⊕ (Unit ⊕ Bool)) :=
  bif decide (n9 < (s1.length : Int)) then
    (getL s1 n9).bind fun c18 =>
    (is3 c18).bind fun y20 =>
    bif !y20 then
      some (.inr (.inr false))
    else
      (chk (n9 + 1)).bind fun z26 =>
      some (.inl z26)
  else
    some (.inr (.inl ()))

noncomputable def m_impl_allBytes (s1 : Str) (is3 : (UInt8 → Option Bool)) : Option Bool :=
  (
      (loopM (fun s : Int => m_impl_allBytes_l1 s1 is3 s) 0).bind fun x12 =>
      match x12 with
      | .inl _ =>
        some (.inl ())
      | .inr r32 =>
        some (.inr r32) : Option (Unit ⊕ Bool)).bind fun x7 =>
  match x7 with
  | .inl _ =>
    some true
  | .inr r35 =>
    some r35

noncomputable def m_impl_small (c1 : UInt8) : Option Bool :=
  (
      bif decide (97 ≤ c1) then
        some (decide (c1 ≤ 122))
      else
        some false : Option Bool).bind fun t2 =>
  some t2

noncomputable def m_impl_gridByte (c1 : UInt8) : Option Bool :=
  (
      bif c1 == 35 then
        some true
      else
        bif c1 == 46 then
          some true
        else
          (m_impl_small c1).bind fun y10 =>
          some y10 : Option Bool).bind fun t2 =>
  some t2

noncomputable def m_impl_ValidGrid (g1 : Grid) : Option Bool :=
  (
      (m_impl_within g1.Rows 1 5).bind fun y13 =>
      bif y13 then
        (m_impl_within g1.Cols 1 5).bind fun y19 =>
        bif y19 then
          (chk (g1.Rows * g1.Cols)).bind fun z25 =>
          bif (g1.Cells.length : Int) == z25 then
            (m_impl_allBytes g1.Cells m_impl_gridByte).bind fun y28 =>
            some y28
          else
            some false
        else
          some false
      else
        some false : Option Bool).bind fun t9 =>
  some t9

noncomputable def m_impl_Grid_across_l2 (g1 : Grid) (start20 : Int) (xs37 : (List Slot)) (col40 : Int) (n42 : Int) : Option (((List Slot) × Int × Int) ⊕ (List Slot)) :=
  bif decide (n42 ≤ g1.Cols) then
    (
        (
            bif decide (n42 < g1.Cols) then
              (chk (start20 * g1.Cols)).bind fun z66 =>
              (chk (z66 + n42)).bind fun z68 =>
              (getL g1.Cells z68).bind fun c70 =>
              some (c70 != 35)
            else
              some false : Option Bool).bind fun t61 =>
        bif t61 then
          some (xs37, col40)
        else
          (
              (chk (n42 - col40)).bind fun z82 =>
              bif decide (2 ≤ z82) then
                (chk (n42 - col40)).bind fun z85 =>
                (catL xs37 ([(⟨start20, col40, false, z85⟩ : Slot)] : (List Slot))).bind fun xs90 =>
                some xs90
              else
                some xs37 : Option (List Slot)).bind fun xs77 =>
          (chk (n42 + 1)).bind fun z100 =>
          some (xs77, z100) : Option ((List Slot) × Int)).bind fun x59 =>
    match x59 with
    | (xs54, col57) =>
      (chk (n42 + 1)).bind fun z104 =>
      some (.inl (xs54, col57, z104))
  else
    some (.inr xs37)

noncomputable def m_impl_Grid_across_l1 (g1 : Grid) (xs17 : (List Slot)) (start20 : Int) : Option (((List Slot) × Int) ⊕ (List Slot)) :=
  bif decide (start20 < g1.Rows) then
    (
        (loopM (fun s : (List Slot) × Int × Int => m_impl_Grid_across_l2 g1 start20 s.1 s.2.1 s.2.2) (xs17, 0, 0)).bind fun xs45 =>
        some xs45 : Option (List Slot)).bind fun xs32 =>
    (chk (start20 + 1)).bind fun z112 =>
    some (.inl (xs32, z112))
  else
    some (.inr xs17)

noncomputable def m_impl_Grid_across (g1 : Grid) : Option (List Slot) :=
  (
      (loopM (fun s : (List Slot) × Int => m_impl_Grid_across_l1 g1 s.1 s.2) (([] : (List Slot)), 0)).bind fun xs23 =>
      some xs23 : Option (List Slot)).bind fun xs12 =>
  some xs12

noncomputable def m_impl_Grid_turned_l2 (g1 : Grid) (row24 : Int) (xs41 : Str) (n44 : Int) : Option ((Str × Int) ⊕ Str) :=
  bif decide (n44 < g1.Rows) then
    (chk (n44 * g1.Cols)).bind fun z56 =>
    (chk (z56 + row24)).bind fun z58 =>
    (getL g1.Cells z58).bind fun c60 =>
    (catL xs41 ([c60] : Str)).bind fun xs65 =>
    (chk (n44 + 1)).bind fun z72 =>
    some (.inl (xs65, z72))
  else
    some (.inr xs41)

noncomputable def m_impl_Grid_turned_l1 (g1 : Grid) (xs21 : Str) (row24 : Int) : Option ((Str × Int) ⊕ Str) :=
  bif decide (row24 < g1.Cols) then
    (
        (loopM (fun s : Str × Int => m_impl_Grid_turned_l2 g1 row24 s.1 s.2) (xs21, 0)).bind fun xs47 =>
        some xs47 : Option Str).bind fun xs36 =>
    (chk (row24 + 1)).bind fun z80 =>
    some (.inl (xs36, z80))
  else
    some (.inr xs21)

noncomputable def m_impl_Grid_turned (g1 : Grid) : Option Grid :=
  (
      (loopM (fun s : Str × Int => m_impl_Grid_turned_l1 g1 s.1 s.2) (([] : Str), 0)).bind fun xs27 =>
      some xs27 : Option Str).bind fun xs16 =>
  some (⟨g1.Cols, g1.Rows, xs16⟩ : Grid)

noncomputable def m_impl_Grid_slots_l1 (y29 : (List Slot)) (xs37 : (List Slot)) (n40 : Int) : Option (((List Slot) × Int) ⊕ (List Slot)) :=
  bif decide (n40 < (y29.length : Int)) then
    (getL y29 n40).bind fun e52 =>
    (catL xs37 ([(⟨e52.Col, e52.Row, true, e52.Length⟩ : Slot)] : (List Slot))).bind fun xs73 =>
    (chk (n40 + 1)).bind fun z80 =>
    some (.inl (xs73, z80))
  else
    some (.inr xs37)

noncomputable def m_impl_Grid_slots (g1 : Grid) : Option (List Slot) :=
  (m_impl_Grid_across g1).bind fun y9 =>
  (
      (m_impl_Grid_turned g1).bind fun y21 =>
      (m_impl_Grid_across y21).bind fun y29 =>
      (loopM (fun s : (List Slot) × Int => m_impl_Grid_slots_l1 y29 s.1 s.2) (y9, 0)).bind fun xs43 =>
      some xs43 : Option (List Slot)).bind fun xs16 =>
  some xs16

noncomputable def m_impl_Grid_slotAt (g1 : Grid) (slot5 : Int) : Option (Slot × Bool) :=
  (m_impl_Grid_slots g1).bind fun y15 =>
  (chk ((y15.length : Int) - 1)).bind fun z23 =>
  (m_impl_within slot5 0 z23).bind fun y25 =>
  bif !y25 then
    some ((⟨0, 0, false, 0⟩ : Slot), false)
  else
    (getL y15 slot5).bind fun e35 =>
    some (e35, true)

noncomputable def m_impl_onlySmall_l1 (s1 : Str) (n10 : Int) : Option (Int ⊕ (Unit ⊕ Bool)) :=
  bif decide (n10 < (s1.length : Int)) then
    (getL s1 n10).bind fun e19 =>
    (m_impl_small e19).bind fun y27 =>
    bif !y27 then
      some (.inr (.inr false))
    else
      (chk (n10 + 1)).bind fun z33 =>
      some (.inl z33)
  else
    some (.inr (.inl ()))

noncomputable def m_impl_onlySmall (s1 : Str) : Option Bool :=
  (
      (loopM (fun s : Int => m_impl_onlySmall_l1 s1 s) 0).bind fun x13 =>
      match x13 with
      | .inl _ =>
        some (.inl ())
      | .inr r39 =>
        some (.inr r39) : Option (Unit ⊕ Bool)).bind fun x3 =>
  match x3 with
  | .inl _ =>
    some true
  | .inr r42 =>
    some r42

noncomputable def m_impl_IsWord (s1 : Str) : Option Bool :=
  (
      bif decide (1 ≤ (s1.length : Int)) then
        bif decide ((s1.length : Int) ≤ 12) then
          (m_impl_onlySmall s1).bind fun y9 =>
          some y9
        else
          some false
      else
        some false : Option Bool).bind fun t3 =>
  some t3

noncomputable def m_impl_Grid_index (g1 : Grid) (s5 : Slot) (n9 : Int) : Option Int :=
  bif s5.Down then
    (chk (s5.Row + n9)).bind fun z20 =>
    (chk (z20 * g1.Cols)).bind fun z22 =>
    (chk (z22 + s5.Col)).bind fun z24 =>
    some z24
  else
    (chk (s5.Row * g1.Cols)).bind fun z26 =>
    (chk (z26 + s5.Col)).bind fun z28 =>
    (chk (z28 + n9)).bind fun z30 =>
    some z30

noncomputable def m_impl_Grid_pattern_l1 (s5 : Slot) (g1 : Grid) (xs25 : Str) (n28 : Int) : Option ((Str × Int) ⊕ Str) :=
  bif decide (n28 < s5.Length) then
    (m_impl_Grid_index g1 s5 n28).bind fun y41 =>
    (getL g1.Cells y41).bind fun c47 =>
    (catL xs25 ([c47] : Str)).bind fun xs52 =>
    (chk (n28 + 1)).bind fun z59 =>
    some (.inl (xs52, z59))
  else
    some (.inr xs25)

noncomputable def m_impl_Grid_pattern (g1 : Grid) (s5 : Slot) : Option Str :=
  (
      (loopM (fun s : Str × Int => m_impl_Grid_pattern_l1 s5 g1 s.1 s.2) (([] : Str), 0)).bind fun xs31 =>
      some xs31 : Option Str).bind fun xs20 =>
  some xs20

noncomputable def m_impl_fitsPattern_l1 (word3 : Str) (pattern1 : Str) (pos11 : Nat) : Option (Nat ⊕ (Nat ⊕ Bool)) :=
  bif decide (pos11 < word3.length) then
    (
        (getL pattern1 (pos11 : Int)).bind fun c27 =>
        bif c27 != 46 then
          (getL pattern1 (pos11 : Int)).bind fun c30 =>
          (getL word3 (pos11 : Int)).bind fun c32 =>
          some (c30 != c32)
        else
          some false : Option Bool).bind fun t22 =>
    bif t22 then
      some (.inr (.inr false))
    else
      some (.inl (pos11 + runeW word3 pos11))
  else
    some (.inr (.inl pos11))

noncomputable def m_impl_fitsPattern (pattern1 : Str) (word3 : Str) : Option Bool :=
  bif (pattern1.length : Int) != (word3.length : Int) then
    some false
  else
    (
        (loopM (fun s : Nat => m_impl_fitsPattern_l1 word3 pattern1 s) 0).bind fun x14 =>
        match x14 with
        | .inl pos13 =>
          some (.inl ())
        | .inr r44 =>
          some (.inr r44) : Option (Unit ⊕ Bool)).bind fun x6 =>
    match x6 with
    | .inl _ =>
      some true
    | .inr r47 =>
      some r47

noncomputable def m_impl_Grid_put_l1 (word9 : Str) (g1 : Grid) (s5 : Slot) (pos33 : Nat) (xs34 : Str) : Option ((Nat × Str) ⊕ (Nat × Str)) :=
  bif decide (pos33 < word9.length) then
    (getL word9 (pos33 : Int)).bind fun c47 =>
    (m_impl_Grid_index g1 s5 (pos33 : Int)).bind fun y49 =>
    (getL xs34 y49).bind fun e55 =>
    (setL xs34 y49 c47).bind fun xs64 =>
    some (.inl (pos33 + runeW word9 pos33, xs64))
  else
    some (.inr (pos33, xs34))

noncomputable def m_impl_Grid_put (g1 : Grid) (s5 : Slot) (word9 : Str) : Option Grid :=
  (
      (loopM (fun s : Nat × Str => m_impl_Grid_put_l1 word9 g1 s5 s.1 s.2) (0, g1.Cells)).bind fun x38 =>
      match x38 with
      | (pos36, xs37) =>
        some xs37 : Option Str).bind fun xs27 =>
  some (⟨g1.Rows, g1.Cols, xs27⟩ : Grid)

noncomputable def m_impl_PutWord (g1 : Grid) (slot5 : Int) (word7 : Str) : Option (Grid × Int) :=
  (m_impl_ValidGrid g1).bind fun y17 =>
  bif !y17 then
    some ((⟨0, 0, ([] : Str)⟩ : Grid), 1)
  else
    (m_impl_Grid_slotAt g1 slot5).bind fun y27 =>
    bif !y27.2 then
      some ((⟨0, 0, ([] : Str)⟩ : Grid), 2)
    else
      (m_impl_IsWord word7).bind fun y47 =>
      bif !y47 then
        some ((⟨0, 0, ([] : Str)⟩ : Grid), 7)
      else
        (m_impl_Grid_pattern g1 y27.1).bind fun y57 =>
        (m_impl_fitsPattern y57 word7).bind fun y63 =>
        bif !y63 then
          some ((⟨0, 0, ([] : Str)⟩ : Grid), 6)
        else
          (m_impl_Grid_put g1 y27.1 word7).bind fun y73 =>
          some (y73, 0)

noncomputable def m_spec_IsWord_l1 (s1 : Str) (n5 : Int) : Option (Int ⊕ (Unit ⊕ Bool)) :=
  bif decide (n5 < (s1.length : Int)) then
    (getL s1 n5).bind fun c14 =>
    (m_spec_l01Small c14).bind fun y16 =>
    bif !y16 then
      some (.inr (.inr false))
    else
      (chk (n5 + 1)).bind fun z22 =>
      some (.inl z22)
  else
    some (.inr (.inl ()))

noncomputable def m_spec_IsWord (s1 : Str) : Option Bool :=
  (
      (loopM (fun s : Int => m_spec_IsWord_l1 s1 s) 0).bind fun x8 =>
      match x8 with
      | .inl _ =>
        some (.inl ())
      | .inr r28 =>
        some (.inr r28) : Option (Unit ⊕ Bool)).bind fun x3 =>
  match x3 with
  | .inl _ =>
    (m_spec_l00In (s1.length : Int) 1 12).bind fun y31 =>
    some y31
  | .inr r36 =>
    some r36

noncomputable def m_spec_l25Fits_l1 (word3 : Str) (pattern1 : Str) (n8 : Int) : Option (Int ⊕ (Unit ⊕ Bool)) :=
  bif decide (n8 < (word3.length : Int)) then
    (
        (getL pattern1 n8).bind fun c22 =>
        bif c22 != 46 then
          (getL pattern1 n8).bind fun c25 =>
          (getL word3 n8).bind fun c27 =>
          some (c25 != c27)
        else
          some false : Option Bool).bind fun t17 =>
    bif t17 then
      some (.inr (.inr false))
    else
      (chk (n8 + 1)).bind fun z33 =>
      some (.inl z33)
  else
    some (.inr (.inl ()))

noncomputable def m_spec_l25Fits (pattern1 : Str) (word3 : Str) : Option Bool :=
  bif (pattern1.length : Int) != (word3.length : Int) then
    some false
  else
    (
        (loopM (fun s : Int => m_spec_l25Fits_l1 word3 pattern1 s) 0).bind fun x11 =>
        match x11 with
        | .inl _ =>
          some (.inl ())
        | .inr r39 =>
          some (.inr r39) : Option (Unit ⊕ Bool)).bind fun x6 =>
    match x6 with
    | .inl _ =>
      some true
    | .inr r42 =>
      some r42

noncomputable def m_spec_l25Put_l1 (s5 : Slot) (word9 : Str) (g1 : Grid) (xs26 : Str) (n27 : Int) : Option ((Str × Int) ⊕ Str) :=
  bif decide (n27 < s5.Length) then
    (getL word9 n27).bind fun c42 =>
    (m_spec_l25Square g1 s5 n27).bind fun y44 =>
    (getL xs26 y44).bind fun e50 =>
    (setL xs26 y44 c42).bind fun xs59 =>
    (chk (n27 + 1)).bind fun z61 =>
    some (.inl (xs59, z61))
  else
    some (.inr xs26)

noncomputable def m_spec_l25Put (g1 : Grid) (s5 : Slot) (word9 : Str) : Option Grid :=
  (
      (loopM (fun s : Str × Int => m_spec_l25Put_l1 s5 word9 g1 s.1 s.2) (g1.Cells, 0)).bind fun xs30 =>
      some xs30 : Option Str).bind fun xs23 =>
  some (⟨g1.Rows, g1.Cols, xs23⟩ : Grid)

noncomputable def m_spec_PutWord (g1 : Grid) (slot5 : Int) (word7 : Str) : Option (Grid × Int) :=
  (m_spec_l25Code g1 slot5).bind fun y17 =>
  bif y17 != 0 then
    some ((⟨0, 0, ([] : Str)⟩ : Grid), y17)
  else
    (m_spec_IsWord word7).bind fun y28 =>
    bif !y28 then
      some ((⟨0, 0, ([] : Str)⟩ : Grid), 7)
    else
      (m_spec_l25Slots g1).bind fun y38 =>
      (getL y38 slot5).bind fun e45 =>
      (m_spec_l25Pattern g1 e45).bind fun y56 =>
      (m_spec_l25Fits y56 word7).bind fun y62 =>
      bif !y62 then
        some ((⟨0, 0, ([] : Str)⟩ : Grid), 6)
      else
        (getL y38 slot5).bind fun e72 =>
        (m_spec_l25Put g1 e72 word7).bind fun y83 =>
        some (y83, 0)

noncomputable def m_impl_SlotsOf (g1 : Grid) : Option ((List Slot) × Int) :=
  (m_impl_ValidGrid g1).bind fun y9 =>
  bif !y9 then
    some (([] : (List Slot)), 1)
  else
    (m_impl_Grid_slots g1).bind fun y15 =>
    some (y15, 0)

noncomputable def m_spec_SlotsOf (g1 : Grid) : Option ((List Slot) × Int) :=
  (m_spec_l25Ok g1).bind fun y9 =>
  bif !y9 then
    some (([] : (List Slot)), 1)
  else
    (m_spec_l25Slots g1).bind fun y15 =>
    some (y15, 0)

noncomputable def m_impl_PatternOf (g1 : Grid) (slot5 : Int) : Option (Str × Int) :=
  (m_impl_ValidGrid g1).bind fun y11 =>
  bif !y11 then
    some (([] : Str), 1)
  else
    (m_impl_Grid_slotAt g1 slot5).bind fun y17 =>
    bif !y17.2 then
      some (([] : Str), 2)
    else
      (m_impl_Grid_pattern g1 y17.1).bind fun y33 =>
      some (y33, 0)

noncomputable def m_spec_PatternOf (g1 : Grid) (slot5 : Int) : Option (Str × Int) :=
  (m_spec_l25Code g1 slot5).bind fun y11 =>
  bif y11 != 0 then
    some (([] : Str), y11)
  else
    (m_spec_l25Slots g1).bind fun y18 =>
    (getL y18 slot5).bind fun e25 =>
    (m_spec_l25Pattern g1 e25).bind fun y36 =>
    some (y36, 0)

noncomputable def m_impl_GridText_l1 (g1 : Grid) (xs23 : (List Str)) (n26 : Int) : Option (((List Str) × Int) ⊕ (List Str)) :=
  bif decide (n26 < g1.Rows) then
    (chk (n26 * g1.Cols)).bind fun z38 =>
    (chk (n26 + 1)).bind fun z40 =>
    (chk (z40 * g1.Cols)).bind fun z42 =>
    (subL g1.Cells z38 z42).bind fun s44 =>
    (catL xs23 ([s44] : (List Str))).bind fun xs49 =>
    (chk (n26 + 1)).bind fun z56 =>
    some (.inl (xs49, z56))
  else
    some (.inr xs23)

noncomputable def m_impl_GridText (g1 : Grid) : Option Str :=
  (m_impl_ValidGrid g1).bind fun y9 =>
  bif !y9 then
    some ([] : Str)
  else
    (
        (loopM (fun s : (List Str) × Int => m_impl_GridText_l1 g1 s.1 s.2) (([] : (List Str)), 0)).bind fun xs29 =>
        some xs29 : Option (List Str)).bind fun xs18 =>
    (m_strings_Join xs18 ([47] : Str)).bind fun y64 =>
    some y64

noncomputable def m_impl_ReadGrid (s1 : Str) : Option (Grid × Bool) :=
  (m_strings_Split s1 ([47] : Str)).bind fun y7 =>
  (getL y7 0).bind fun e17 =>
  (m_strings_Join y7 ([] : Str)).bind fun y26 =>
  (
      (m_impl_ValidGrid (⟨(y7.length : Int), (e17.length : Int), y26⟩ : Grid)).bind fun y51 =>
      bif !y51 then
        some true
      else
        (m_impl_GridText (⟨(y7.length : Int), (e17.length : Int), y26⟩ : Grid)).bind fun y58 =>
        some (y58 != s1) : Option Bool).bind fun t47 =>
  bif t47 then
    some ((⟨0, 0, ([] : Str)⟩ : Grid), false)
  else
    some ((⟨(y7.length : Int), (e17.length : Int), y26⟩ : Grid), true)

noncomputable def m_spec_l25Text_l1 (g1 : Grid) (r9 : Str) (n11 : Int) : Option ((Str × Int) ⊕ Str) :=
  bif decide (n11 < g1.Rows) then
    (
        bif decide (0 < n11) then
          (catL r9 ([47] : Str)).bind fun s31 =>
          some s31
        else
          some r9 : Option Str).bind fun r26 =>
    (chk (n11 * g1.Cols)).bind fun z37 =>
    (chk (n11 + 1)).bind fun z39 =>
    (chk (z39 * g1.Cols)).bind fun z41 =>
    (subL g1.Cells z37 z41).bind fun s43 =>
    (catL r26 s43).bind fun s45 =>
    (chk (n11 + 1)).bind fun z47 =>
    some (.inl (s45, z47))
  else
    some (.inr r9)

noncomputable def m_spec_l25Text (g1 : Grid) : Option Str :=
  (
      (loopM (fun s : Str × Int => m_spec_l25Text_l1 g1 s.1 s.2) (([] : Str), 0)).bind fun r14 =>
      some r14 : Option Str).bind fun r5 =>
  some r5

noncomputable def m_spec_l01Spoil (s1 : l00Src) (t8 : Str) : Option (Str × l00Src) :=
  (
      (m_spec_l00Src_pick s1 5).bind fun y21 =>
      bif y21.1 == 0 then
        (chk ((t8.length : Int) + 1)).bind fun z33 =>
        (m_spec_l00Src_pick y21.2 z33).bind fun y35 =>
        (subL t8 0 y35.1).bind fun s47 =>
        (subL t8 y35.1 (t8.length : Int)).bind fun s49 =>
        (m_spec_l00Src_text y35.2 ([([32] : Str), ([48] : Str), ([45] : Str), ([120] : Str), ([49] : Str), ([57] : Str), ([46] : Str)] : (List Str))).bind fun y54 =>
        (catL s47 y54.1).bind fun s67 =>
        (catL s67 s49).bind fun s69 =>
        some (y54.2.code, y54.2.at_, y54.2.seed, s69)
      else
        bif y21.1 == 1 then
          bif t8 != ([] : Str) then
            (m_spec_l00Src_pick y21.2 (t8.length : Int)).bind fun y74 =>
            (subL t8 0 y74.1).bind fun s86 =>
            (chk (y74.1 + 1)).bind fun z88 =>
            (subL t8 z88 (t8.length : Int)).bind fun s90 =>
            (catL s86 s90).bind fun s92 =>
            some (y74.2.code, y74.2.at_, y74.2.seed, s92)
          else
            some (y21.2.code, y21.2.at_, y21.2.seed, t8)
        else
          some (y21.2.code, y21.2.at_, y21.2.seed, t8) : Option (Str × Int × Int × Str)).bind fun x19 =>
  match x19 with
  | (l10, n13, n15, t17) =>
    some (t17, (⟨l10, n13, n15⟩ : l00Src))

noncomputable def m_spec_DrawReadGrid (code1 : Str) : Option Str :=
  (m_spec_l00From code1).bind fun y5 =>
  (m_spec_l25Draw y5).bind fun y16 =>
  (m_spec_l25Text y16.1).bind fun y36 =>
  (m_spec_l00Src_one y16.2 3).bind fun y42 =>
  bif y42.1 then
    (m_spec_l01Spoil y42.2 y36).bind fun y53 =>
    some y53.1
  else
    some y36

noncomputable def m_spec_l01Split_l1 (s1 : Str) (by_3 : UInt8) (xs14 : (List Str)) (n17 : Int) (n19 : Int) : Option (((List Str) × Int × Int) ⊕ ((List Str) × Int)) :=
  bif decide (n19 < (s1.length : Int)) then
    (
        (getL s1 n19).bind fun c40 =>
        bif c40 == by_3 then
          (subL s1 n17 n19).bind fun s43 =>
          (catL xs14 ([s43] : (List Str))).bind fun xs48 =>
          (chk (n19 + 1)).bind fun z55 =>
          some (xs48, z55)
        else
          some (xs14, n17) : Option ((List Str) × Int)).bind fun x38 =>
    match x38 with
    | (xs33, n36) =>
      (chk (n19 + 1)).bind fun z60 =>
      some (.inl (xs33, n36, z60))
  else
    some (.inr (xs14, n17))

noncomputable def m_spec_l01Split (s1 : Str) (by_3 : UInt8) : Option (List Str) :=
  (
      (loopM (fun s : (List Str) × Int × Int => m_spec_l01Split_l1 s1 by_3 s.1 s.2.1 s.2.2) (([] : (List Str)), 0, 0)).bind fun x27 =>
      match x27 with
      | (xs22, n25) =>
        some (xs22, n25) : Option ((List Str) × Int)).bind fun x12 =>
  match x12 with
  | (xs7, n10) =>
    (subL s1 n10 (s1.length : Int)).bind fun s68 =>
    (catL xs7 ([s68] : (List Str))).bind fun xs73 =>
    some xs73

noncomputable def m_spec_ReadGrid_l1 (y7 : (List Str)) (s35 : Str) (n37 : Int) : Option ((Str × Int) ⊕ (Str ⊕ (Grid × Bool))) :=
  bif decide (n37 < (y7.length : Int)) then
    (getL y7 n37).bind fun e50 =>
    (getL y7 0).bind fun e59 =>
    bif (e50.length : Int) != (e59.length : Int) then
      some (.inr (.inr ((⟨0, 0, ([] : Str)⟩ : Grid), false)))
    else
      (getL y7 n37).bind fun e76 =>
      (catL s35 e76).bind fun s85 =>
      (chk (n37 + 1)).bind fun z90 =>
      some (.inl (s85, z90))
  else
    some (.inr (.inl s35))

noncomputable def m_spec_ReadGrid (s1 : Str) : Option (Grid × Bool) :=
  (m_spec_l01Split s1 47).bind fun y7 =>
  (getL y7 0).bind fun e15 =>
  (
      (loopM (fun s : Str × Int => m_spec_ReadGrid_l1 y7 s.1 s.2) (([] : Str), 0)).bind fun x42 =>
      match x42 with
      | .inl s40 =>
        some (.inl s40)
      | .inr r96 =>
        some (.inr r96) : Option (Str ⊕ (Grid × Bool))).bind fun x33 =>
  match x33 with
  | .inl s31 =>
    (m_spec_l25Ok (⟨(y7.length : Int), (e15.length : Int), s31⟩ : Grid)).bind fun y99 =>
    bif !y99 then
      some ((⟨0, 0, ([] : Str)⟩ : Grid), false)
    else
      some ((⟨(y7.length : Int), (e15.length : Int), s31⟩ : Grid), true)
  | .inr r113 =>
    some r113

noncomputable def m_spec_l05Some  : Option (List Str) :=
  some ((([97, 110] : Str) :: ([97, 116] : Str) :: ([97, 116, 101] : Str) :: ([101, 97, 114] : Str) :: ([101, 97, 114, 110] : Str) :: ([101, 97, 114, 115] : Str) :: ([101, 97, 115, 116] : Str) :: ([101, 97, 116] : Str) :: ([101, 97, 116, 101, 110] : Str) :: ([101, 97, 116, 115] : Str) :: ([101, 110] : Str) :: ([97, 110, 116] : Str) :: ([97, 110, 116, 115] : Str) :: ([97, 114, 101] : Str) :: ([97, 114, 101, 110, 97] : Str) :: ([97, 114, 116] : Str) :: ([97, 114, 116, 115] : Str) :: ([97, 115] : Str) :: ([101, 114] : Str) :: ([101, 115] : Str) :: ([105, 110] : Str) :: ([105, 115] : Str) :: ([110, 97] : Str) :: ([110, 101] : Str) :: ([110, 101, 97, 114] : Str) :: ([110, 101, 97, 116] : Str) :: ([110, 101, 115, 116] : Str) :: ([110, 101, 115, 116, 115] : Str) :: ([110, 101, 116] : Str) :: ([114, 97, 116] : Str) :: ([114, 97, 116, 101] : Str) :: ([114, 97, 116, 101, 115] : Str) :: ([114, 101] : Str) :: ([114, 101, 115, 116] : Str) :: ([115, 97, 116] : Str) :: ([115, 101, 97] : Str) :: ([115, 101, 97, 116] : Str) :: ([115, 101, 116] : Str) :: ([116, 97] : Str) :: ([116, 97, 114] : Str) :: ([116, 97, 114, 115] : Str) :: ([116, 97, 114, 116] : Str) :: ([116, 101, 97] : Str) :: ([116, 101, 97, 114] : Str) :: ([116, 101, 97, 115] : Str) :: ([116, 101, 110] : Str) :: ([116, 101, 114, 110] : Str) :: ([116, 101, 115, 116] : Str) :: ([116, 101, 115, 116, 115] : Str) :: ([116, 114, 101, 101, 115] : Str) :: ([98, 97, 110, 97, 110, 97] : Str) :: ([98, 101, 101] : Str) :: ([98, 101, 101, 110] : Str) :: ([98, 101, 101, 115] : Str) :: ([115, 116, 97, 114] : Str) :: ([115, 116, 97, 114, 101] : Str) :: ([115, 116, 97, 114, 116] : Str) :: ([116, 114, 101, 101] : Str) :: ([115, 116, 97, 114, 115] : Str) :: ([116, 114, 101, 97, 116, 115] : Str) :: []) : (List Str))

noncomputable def m_spec_l03Insert_l1 (list1 : (List Str)) (t4 : Str) (n11 : Int) : Option (Int ⊕ Int) :=
  (
      bif decide (0 < n11) then
        (chk (n11 - 1)).bind fun z26 =>
        (getL list1 z26).bind fun e28 =>
        some (!(ltS e28 t4 || e28 == t4))
      else
        some false : Option Bool).bind fun t21 =>
  bif t21 then
    (chk (n11 - 1)).bind fun z41 =>
    some (.inl z41)
  else
    some (.inr n11)

noncomputable def m_spec_l03Insert (list1 : (List Str)) (t4 : Str) : Option (List Str) :=
  (
      (loopM (fun s : Int => m_spec_l03Insert_l1 list1 t4 s) (list1.length : Int)).bind fun n14 =>
      some n14 : Option Int).bind fun n7 =>
  (
      bif decide (0 < n7) then
        (chk (n7 - 1)).bind fun z54 =>
        (getL list1 z54).bind fun e56 =>
        some (e56 == t4)
      else
        some false : Option Bool).bind fun t49 =>
  bif t49 then
    some list1
  else
    (subL list1 0 n7).bind fun l72 =>
    (catL ([] : (List Str)) l72).bind fun xs77 =>
    (catL xs77 ([t4] : (List Str))).bind fun xs87 =>
    (subL list1 n7 (list1.length : Int)).bind fun l94 =>
    (catL xs87 l94).bind fun xs99 =>
    some xs99

noncomputable def m_spec_l05Draw_l1 (y14 : (List Str)) (l49 : Str) (n52 : Int) (n54 : Int) (xs56 : (List Str)) (n59 : Int) : Option ((Str × Int × Int × (List Str) × Int) ⊕ (Str × Int × Int × (List Str))) :=
  bif decide (0 < n59) then
    (m_spec_l00Src_pick (⟨l49, n52, n54⟩ : l00Src) (y14.length : Int)).bind fun y79 =>
    (getL y14 y79.1).bind fun e90 =>
    (m_spec_l03Insert xs56 e90).bind fun y99 =>
    (chk (n59 - 1)).bind fun z106 =>
    some (.inl (y79.2.code, y79.2.at_, y79.2.seed, y99, z106))
  else
    some (.inr (l49, n52, n54, xs56))

noncomputable def m_spec_l05Draw (s1 : l00Src) (most8 : Int) : Option (Lexicon × l00Src) :=
  (m_spec_l05Some).bind fun y14 =>
  (
      (chk (most8 + 1)).bind fun z36 =>
      (m_spec_l00Src_pick s1 z36).bind fun y38 =>
      (loopM (fun s : Str × Int × Int × (List Str) × Int => m_spec_l05Draw_l1 y14 s.1 s.2.1 s.2.2.1 s.2.2.2.1 s.2.2.2.2) (y38.2.code, y38.2.at_, y38.2.seed, ([] : (List Str)), y38.1)).bind fun x72 =>
      match x72 with
      | (l62, n65, n67, xs69) =>
        some (l62, n65, n67, xs69) : Option (Str × Int × Int × (List Str))).bind fun x34 =>
  match x34 with
  | (l24, n27, n29, xs31) =>
    some ((⟨xs31⟩ : Lexicon), (⟨l24, n27, n29⟩ : l00Src))

noncomputable def m_spec_l05Full_l1 (many1 : Int) (xs11 : (List Str)) (n14 : Int) : Option (((List Str) × Int) ⊕ (List Str)) :=
  bif decide (n14 < many1) then
    (quoI n14 26).bind fun z26 =>
    (chk (97 + z26)).bind fun z28 =>
    (remI n14 26).bind fun z30 =>
    (chk (97 + z30)).bind fun z32 =>
    (catL xs11 ([([UInt8.ofNat (z28 % 256).toNat, UInt8.ofNat (z32 % 256).toNat] : Str)] : (List Str))).bind fun xs41 =>
    (chk (n14 + 1)).bind fun z48 =>
    some (.inl (xs41, z48))
  else
    some (.inr xs11)

noncomputable def m_spec_l05Full (many1 : Int) : Option (List Str) :=
  (
      (loopM (fun s : (List Str) × Int => m_spec_l05Full_l1 many1 s.1 s.2) (([] : (List Str)), 0)).bind fun xs17 =>
      some xs17 : Option (List Str)).bind fun xs6 =>
  some xs6

noncomputable def m_spec_l05Bent (s1 : l00Src) : Option (Lexicon × l00Src) :=
  (m_spec_l05Draw s1 20).bind fun y12 =>
  (
      (m_spec_l00Src_pick y12.2 20).bind fun y46 =>
      bif y46.1 == 0 then
        (m_spec_l00Src_text y46.2 ([([97] : Str), ([97, 110] : Str), ([122, 111, 111] : Str), ([90, 111, 111] : Str), ([122, 122, 122, 122, 122, 122, 122, 122, 122, 122, 122, 122, 122] : Str)] : (List Str))).bind fun y62 =>
        (catL y12.1.Words ([y62.1] : (List Str))).bind fun xs78 =>
        some (y62.2.code, y62.2.at_, y62.2.seed, xs78)
      else
        bif y46.1 == 1 then
          (m_spec_l00Src_pick y46.2 2).bind fun y90 =>
          (chk (200 + y90.1)).bind fun z101 =>
          (m_spec_l05Full z101).bind fun y103 =>
          some (y90.2.code, y90.2.at_, y90.2.seed, y103)
        else
          some (y46.2.code, y46.2.at_, y46.2.seed, y12.1.Words) : Option (Str × Int × Int × (List Str))).bind fun x44 =>
  match x44 with
  | (l31, n34, n36, xs38) =>
    some ((⟨xs38⟩ : Lexicon), (⟨l31, n34, n36⟩ : l00Src))

noncomputable def m_spec_l05Make_l1 (words1 : (List Str)) (xs13 : (List Str)) (n16 : Int) : Option (((List Str) × Int) ⊕ (List Str)) :=
  bif decide (n16 < (words1.length : Int)) then
    (getL words1 n16).bind fun e29 =>
    (m_spec_l03Insert xs13 e29).bind fun y38 =>
    (chk (n16 + 1)).bind fun z45 =>
    some (.inl (y38, z45))
  else
    some (.inr xs13)

noncomputable def m_spec_l05Make (words1 : (List Str)) : Option (List Str) :=
  (
      (loopM (fun s : (List Str) × Int => m_spec_l05Make_l1 words1 s.1 s.2) (([] : (List Str)), 0)).bind fun xs19 =>
      some xs19 : Option (List Str)).bind fun xs8 =>
  some xs8

noncomputable def m_spec_l12All  : Option Lexicon :=
  (m_spec_l05Some).bind fun y5 =>
  (m_spec_l05Make y5).bind fun y12 =>
  some (⟨y12⟩ : Lexicon)

noncomputable def m_spec_l25Lexicon_l1 (l78 : Str) (n81 : Int) (n83 : Int) (xs85 : (List Str)) (n88 : Int) : Option ((Str × Int × Int × (List Str) × Int) ⊕ (Str × Int × Int × (List Str))) :=
  bif decide (0 < n88) then
    (m_spec_l00Src_text (⟨l78, n81, n83⟩ : l00Src) ([([97, 110] : Str), ([97, 116] : Str), ([116, 97] : Str), ([101, 110] : Str), ([101, 116] : Str), ([116, 101] : Str), ([97, 116, 101] : Str), ([101, 97, 116] : Str), ([116, 101, 97] : Str), ([116, 101, 110] : Str), ([110, 101, 116] : Str), ([116, 97, 116] : Str), ([97, 110, 116] : Str), ([110, 97, 116] : Str), ([101, 116, 97] : Str), ([116, 116] : Str), ([97, 97] : Str), ([101, 101] : Str), ([116, 101, 116, 101] : Str), ([97, 110, 116, 97] : Str), ([116, 97, 116, 101] : Str), ([110, 101, 116, 116] : Str)] : (List Str))).bind fun y110 =>
    (m_spec_l03Insert xs85 y110.1).bind fun y121 =>
    (chk (n88 - 1)).bind fun z128 =>
    some (.inl (y110.2.code, y110.2.at_, y110.2.seed, y121, z128))
  else
    some (.inr (l78, n81, n83, xs85))

noncomputable def m_spec_l25Lexicon (s1 : l00Src) : Option (Lexicon × l00Src) :=
  (m_spec_l00Src_pick s1 5).bind fun y12 =>
  bif y12.1 == 0 then
    (m_spec_l05Bent y12.2).bind fun y24 =>
    some (y24.1, y24.2)
  else
    bif y12.1 == 1 then
      (m_spec_l12All).bind fun y41 =>
      some (y41, y12.2)
    else
      (
          (m_spec_l00Src_pick y12.2 26).bind fun y67 =>
          (loopM (fun s : Str × Int × Int × (List Str) × Int => m_spec_l25Lexicon_l1 s.1 s.2.1 s.2.2.1 s.2.2.2.1 s.2.2.2.2) (y67.2.code, y67.2.at_, y67.2.seed, ([] : (List Str)), y67.1)).bind fun x101 =>
          match x101 with
          | (l91, n94, n96, xs98) =>
            some (l91, n94, n96, xs98) : Option (Str × Int × Int × (List Str))).bind fun x65 =>
      match x65 with
      | (l55, n58, n60, xs62) =>
        some ((⟨xs62⟩ : Lexicon), (⟨l55, n58, n60⟩ : l00Src))

noncomputable def m_spec_DrawCandidatesOf (code1 : Str) : Option (Grid × Lexicon × Int) :=
  (m_spec_l00From code1).bind fun y13 =>
  (m_spec_l25Bent y13).bind fun y24 =>
  (m_spec_l25Lexicon y24.2).bind fun y44 =>
  (m_spec_l25Slot y44.2 y24.1).bind fun y64 =>
  some (y24.1, y44.1, y64.1)

noncomputable def m_impl_increasing_l1 (list1 : (List Str)) (n7 : Int) : Option (Int ⊕ (Unit ⊕ Bool)) :=
  bif decide (n7 < (list1.length : Int)) then
    (chk (n7 - 1)).bind fun z18 =>
    (getL list1 z18).bind fun e20 =>
    (getL list1 n7).bind fun e29 =>
    bif !ltS e20 e29 then
      some (.inr (.inr false))
    else
      (chk (n7 + 1)).bind fun z39 =>
      some (.inl z39)
  else
    some (.inr (.inl ()))

noncomputable def m_impl_increasing (list1 : (List Str)) : Option Bool :=
  (
      (loopM (fun s : Int => m_impl_increasing_l1 list1 s) 1).bind fun x10 =>
      match x10 with
      | .inl _ =>
        some (.inl ())
      | .inr r45 =>
        some (.inr r45) : Option (Unit ⊕ Bool)).bind fun x5 =>
  match x5 with
  | .inl _ =>
    some true
  | .inr r48 =>
    some r48

noncomputable def m_impl_isLong (s1 : Str) : Option Bool :=
  (
      bif decide (2 ≤ (s1.length : Int)) then
        (m_impl_IsWord s1).bind fun y8 =>
        some y8
      else
        some false : Option Bool).bind fun t3 =>
  some t3

noncomputable def m_impl_ValidLexicon_l1 (l1 : Lexicon) (n27 : Int) : Option (Int ⊕ (Unit ⊕ Bool)) :=
  bif decide (n27 < (l1.Words.length : Int)) then
    (getL l1.Words n27).bind fun e36 =>
    (m_impl_isLong e36).bind fun y45 =>
    bif !y45 then
      some (.inr (.inr false))
    else
      (chk (n27 + 1)).bind fun z51 =>
      some (.inl z51)
  else
    some (.inr (.inl ()))

noncomputable def m_impl_ValidLexicon (l1 : Lexicon) : Option Bool :=
  (
      bif decide (200 < (l1.Words.length : Int)) then
        some true
      else
        (m_impl_increasing l1.Words).bind fun y16 =>
        some (!y16) : Option Bool).bind fun t9 =>
  bif t9 then
    some false
  else
    (
        (loopM (fun s : Int => m_impl_ValidLexicon_l1 l1 s) 0).bind fun x30 =>
        match x30 with
        | .inl _ =>
          some (.inl ())
        | .inr r57 =>
          some (.inr r57) : Option (Unit ⊕ Bool)).bind fun x24 =>
    match x24 with
    | .inl _ =>
      some true
    | .inr r60 =>
      some r60

noncomputable def m_impl_Grid_candidates_1 (word1 : Str) (p3 : Str) : Option Bool :=
  (m_impl_fitsPattern p3 word1).bind fun y9 =>
  some y9

noncomputable def m_impl_selected_string_l1 (list1 : (List Str)) (is5 : (Str → Option Bool)) (xs18 : (List Str)) (n21 : Int) : Option (((List Str) × Int) ⊕ (List Str)) :=
  bif decide (n21 < (list1.length : Int)) then
    (
        (getL list1 n21).bind fun e38 =>
        (is5 e38).bind fun y47 =>
        bif y47 then
          (catL xs18 ([e38] : (List Str))).bind fun xs56 =>
          some xs56
        else
          some xs18 : Option (List Str)).bind fun xs33 =>
    (chk (n21 + 1)).bind fun z66 =>
    some (.inl (xs33, z66))
  else
    some (.inr xs18)

noncomputable def m_impl_selected_string (list1 : (List Str)) (is5 : (Str → Option Bool)) : Option (List Str) :=
  (
      (loopM (fun s : (List Str) × Int => m_impl_selected_string_l1 list1 is5 s.1 s.2) (([] : (List Str)), 0)).bind fun xs24 =>
      some xs24 : Option (List Str)).bind fun xs12 =>
  some xs12

noncomputable def m_impl_Grid_candidates (g1 : Grid) (l5 : Lexicon) (s9 : Slot) : Option (List Str) :=
  (m_impl_Grid_pattern g1 s9).bind fun y25 =>
  (m_impl_selected_string l5.Words (fun u38 => m_impl_Grid_candidates_1 u38 y25)).bind fun y40 =>
  some y40

noncomputable def m_impl_CandidatesOf (g1 : Grid) (l5 : Lexicon) (slot9 : Int) : Option ((List Str) × Int) :=
  (
      (m_impl_ValidGrid g1).bind fun y23 =>
      bif !y23 then
        some true
      else
        (m_impl_ValidLexicon l5).bind fun y30 =>
        some (!y30) : Option Bool).bind fun t19 =>
  bif t19 then
    some (([] : (List Str)), 1)
  else
    (m_impl_Grid_slotAt g1 slot9).bind fun y38 =>
    bif !y38.2 then
      some (([] : (List Str)), 2)
    else
      (m_impl_Grid_candidates g1 l5 y38.1).bind fun y54 =>
      some (y54, 0)

noncomputable def m_spec_l05Long (s1 : Str) : Option Bool :=
  (
      bif decide (1 < (s1.length : Int)) then
        (m_spec_IsWord s1).bind fun y8 =>
        some y8
      else
        some false : Option Bool).bind fun t3 =>
  some t3

noncomputable def m_spec_l05Ok_l1 (l1 : Lexicon) (n7 : Int) : Option (Int ⊕ (Unit ⊕ Bool)) :=
  bif decide (n7 < (l1.Words.length : Int)) then
    (
        (getL l1.Words n7).bind fun e26 =>
        (m_spec_l05Long e26).bind fun y35 =>
        bif !y35 then
          some true
        else
          bif decide (0 < n7) then
            (getL l1.Words n7).bind fun e43 =>
            (chk (n7 - 1)).bind fun z52 =>
            (getL l1.Words z52).bind fun e54 =>
            some (ltS e43 e54 || e43 == e54)
          else
            some false : Option Bool).bind fun t21 =>
    bif t21 then
      some (.inr (.inr false))
    else
      (chk (n7 + 1)).bind fun z67 =>
      some (.inl z67)
  else
    some (.inr (.inl ()))

noncomputable def m_spec_l05Ok (l1 : Lexicon) : Option Bool :=
  (
      (loopM (fun s : Int => m_spec_l05Ok_l1 l1 s) 0).bind fun x10 =>
      match x10 with
      | .inl _ =>
        some (.inl ())
      | .inr r73 =>
        some (.inr r73) : Option (Unit ⊕ Bool)).bind fun x5 =>
  match x5 with
  | .inl _ =>
    some (decide ((l1.Words.length : Int) ≤ 200))
  | .inr r81 =>
    some r81

noncomputable def m_spec_l25Words_l1 (words5 : (List Str)) (y13 : Str) (xs27 : (List Str)) (n30 : Int) : Option (((List Str) × Int) ⊕ (List Str)) :=
  bif decide (n30 < (words5.length : Int)) then
    (
        (getL words5 n30).bind fun e48 =>
        (m_spec_l25Fits y13 e48).bind fun y57 =>
        bif y57 then
          (getL words5 n30).bind fun e63 =>
          (catL xs27 ([e63] : (List Str))).bind fun xs75 =>
          some xs75
        else
          some xs27 : Option (List Str)).bind fun xs43 =>
    (chk (n30 + 1)).bind fun z85 =>
    some (.inl (xs43, z85))
  else
    some (.inr xs27)

noncomputable def m_spec_l25Words (g1 : Grid) (words5 : (List Str)) (s9 : Slot) : Option (List Str) :=
  (m_spec_l25Pattern g1 s9).bind fun y13 =>
  (
      (loopM (fun s : (List Str) × Int => m_spec_l25Words_l1 words5 y13 s.1 s.2) (([] : (List Str)), 0)).bind fun xs33 =>
      some xs33 : Option (List Str)).bind fun xs22 =>
  some xs22

noncomputable def m_spec_CandidatesOf (g1 : Grid) (l5 : Lexicon) (slot9 : Int) : Option ((List Str) × Int) :=
  (m_spec_l05Ok l5).bind fun y19 =>
  bif !y19 then
    some (([] : (List Str)), 1)
  else
    (m_spec_l25Code g1 slot9).bind fun y25 =>
    bif y25 != 0 then
      some (([] : (List Str)), y25)
    else
      (m_spec_l25Slots g1).bind fun y32 =>
      (getL y32 slot9).bind fun e40 =>
      (m_spec_l25Words g1 l5.Words e40).bind fun y51 =>
      some (y51, 0)

noncomputable def m_laws_f6slots_l1 (a1 : (List Slot)) (b5 : (List Slot)) (n14 : Int) : Option (Int ⊕ (Unit ⊕ Bool)) :=
  bif decide (n14 < (a1.length : Int)) then
    (getL a1 n14).bind fun e25 =>
    (getL b5 n14).bind fun e36 =>
    bif e25 != e36 then
      some (.inr (.inr false))
    else
      (chk (n14 + 1)).bind fun z48 =>
      some (.inl z48)
  else
    some (.inr (.inl ()))

noncomputable def m_laws_f6slots (a1 : (List Slot)) (b5 : (List Slot)) : Option Bool :=
  bif (a1.length : Int) != (b5.length : Int) then
    some false
  else
    (
        (loopM (fun s : Int => m_laws_f6slots_l1 a1 b5 s) 0).bind fun x17 =>
        match x17 with
        | .inl _ =>
          some (.inl ())
        | .inr r54 =>
          some (.inr r54) : Option (Unit ⊕ Bool)).bind fun x12 =>
    match x12 with
    | .inl _ =>
      some true
    | .inr r57 =>
      some r57

noncomputable def m_spec_GridText (g1 : Grid) : Option Str :=
  (m_spec_l25Ok g1).bind fun y9 =>
  bif !y9 then
    some ([] : Str)
  else
    (m_spec_l25Text g1).bind fun y15 =>
    some y15

noncomputable def m_laws_f6same_l1 (a1 : (List Str)) (b5 : (List Str)) (n14 : Int) : Option (Int ⊕ (Unit ⊕ Bool)) :=
  bif decide (n14 < (a1.length : Int)) then
    (getL a1 n14).bind fun e25 =>
    (getL b5 n14).bind fun e34 =>
    bif e25 != e34 then
      some (.inr (.inr false))
    else
      (chk (n14 + 1)).bind fun z44 =>
      some (.inl z44)
  else
    some (.inr (.inl ()))

noncomputable def m_laws_f6same (a1 : (List Str)) (b5 : (List Str)) : Option Bool :=
  bif (a1.length : Int) != (b5.length : Int) then
    some false
  else
    (
        (loopM (fun s : Int => m_laws_f6same_l1 a1 b5 s) 0).bind fun x17 =>
        match x17 with
        | .inl _ =>
          some (.inl ())
        | .inr r50 =>
          some (.inr r50) : Option (Unit ⊕ Bool)).bind fun x12 =>
    match x12 with
    | .inl _ =>
      some true
    | .inr r53 =>
      some r53

noncomputable def m_laws_FnSlots_l1 (y172 : ((List Str) × Int)) (y147 : (Grid × Lexicon × Int)) (put250 : Int) : Option (Int ⊕ (Unit ⊕ Bool)) :=
  (
      bif y172.2 == 0 then
        some (decide (put250 < (y172.1.length : Int)))
      else
        some false : Option Bool).bind fun t258 =>
  bif t258 then
    (getL y172.1 put250).bind fun e269 =>
    (m_impl_PutWord y147.1 y147.2.2 e269).bind fun y278 =>
    (m_impl_PatternOf y278.1 y147.2.2).bind fun y305 =>
    (
        bif y278.2 != 0 then
          some true
        else
          bif y305.2 != 0 then
            some true
          else
            (getL y172.1 put250).bind fun e320 =>
            some (y305.1 != e320) : Option Bool).bind fun t312 =>
    bif t312 then
      some (.inr (.inr false))
    else
      (chk (put250 + 1)).bind fun z332 =>
      some (.inl z332)
  else
    some (.inr (.inl ()))

noncomputable def m_laws_FnSlots (code1 : Str) : Option Bool :=
  (m_laws_f6big code1).bind fun y5 =>
  bif y5 then
    some true
  else
    (m_spec_DrawPutWord code1).bind fun y11 =>
    (m_impl_PutWord y11.1 y11.2.1 y11.2.2).bind fun y28 =>
    (m_spec_PutWord y11.1 y11.2.1 y11.2.2).bind fun y44 =>
    (m_impl_SlotsOf y11.1).bind fun y60 =>
    (m_spec_SlotsOf y11.1).bind fun y68 =>
    (m_impl_PatternOf y11.1 y11.2.1).bind fun y76 =>
    (m_spec_PatternOf y11.1 y11.2.1).bind fun y83 =>
    (m_impl_GridText y11.1).bind fun y90 =>
    (m_impl_ReadGrid y90).bind fun y96 =>
    (m_spec_DrawReadGrid code1).bind fun y111 =>
    (m_impl_ReadGrid y111).bind fun y117 =>
    (m_spec_ReadGrid y111).bind fun y132 =>
    (m_spec_DrawCandidatesOf code1).bind fun y147 =>
    (m_impl_CandidatesOf y147.1 y147.2.1 y147.2.2).bind fun y172 =>
    (m_spec_CandidatesOf y147.1 y147.2.1 y147.2.2).bind fun y180 =>
    (
        bif y28.2 != y44.2 then
          some true
        else
          bif y28.1 != y44.1 then
            some true
          else
            bif y60.2 != y68.2 then
              some true
            else
              (m_laws_f6slots y60.1 y68.1).bind fun y198 =>
              bif !y198 then
                some true
              else
                bif y76.2 != y83.2 then
                  some true
                else
                  bif y76.1 != y83.1 then
                    some true
                  else
                    (m_spec_GridText y11.1).bind fun y209 =>
                    bif y90 != y209 then
                      some true
                    else
                      bif y96.2 != (y90 != ([] : Str)) then
                        some true
                      else
                        bif y96.2 then
                          bif y96.1 != y11.1 then
                            some true
                          else
                            bif y117.2 != y132.2 then
                              some true
                            else
                              bif y117.1 != y132.1 then
                                some true
                              else
                                bif y172.2 != y180.2 then
                                  some true
                                else
                                  (m_laws_f6same y172.1 y180.1).bind fun y228 =>
                                  some (!y228)
                        else
                          bif y117.2 != y132.2 then
                            some true
                          else
                            bif y117.1 != y132.1 then
                              some true
                            else
                              bif y172.2 != y180.2 then
                                some true
                              else
                                (m_laws_f6same y172.1 y180.1).bind fun y240 =>
                                some (!y240) : Option Bool).bind fun t188 =>
    bif t188 then
      some false
    else
      (
          (loopM (fun s : Int => m_laws_FnSlots_l1 y172 y147 s) 0).bind fun x253 =>
          match x253 with
          | .inl _ =>
            some (.inl ())
          | .inr r382 =>
            some (.inr r382) : Option (Unit ⊕ Bool)).bind fun x248 =>
      match x248 with
      | .inl _ =>
        bif y28.2 != 0 then
          some true
        else
          (m_impl_PatternOf y28.1 y11.2.1).bind fun y386 =>
          (
              bif y386.2 == 0 then
                some (y386.1 == y11.2.2)
              else
                some false : Option Bool).bind fun g393 =>
          some g393
      | .inr r401 =>
        some r401

noncomputable def m_strings_Builder_copyCheck (b1 : Str) : Option Str :=
  some b1

noncomputable def m_strings_Builder_WriteString (b1 : Str) (s7 : Str) : Option (Int × Unit × Str) :=
  (m_strings_Builder_copyCheck b1).bind fun y9 =>
  (catL y9 s7).bind fun xs18 =>
  some ((s7.length : Int), (), xs18)

noncomputable def m_strings_Builder_String (b1 : Str) : Option Str :=
  some b1

noncomputable def m_unicode_utf8_RuneCountInString_l1 (s1 : Str) (pos10 : Nat) (n11 : Int) : Option ((Nat × Int) ⊕ (Nat × Int)) :=
  bif decide (pos10 < s1.length) then
    (chk (n11 + 1)).bind fun z25 =>
    some (.inl (pos10 + runeW s1 pos10, z25))
  else
    some (.inr (pos10, n11))

noncomputable def m_unicode_utf8_RuneCountInString (s1 : Str) : Option Int :=
  (
      (loopM (fun s : Nat × Int => m_unicode_utf8_RuneCountInString_l1 s1 s.1 s.2) (0, 0)).bind fun x17 =>
      match x17 with
      | (pos14, n15) =>
        some n15 : Option Int).bind fun n3 =>
  some n3

noncomputable def m_internal_bytealg_Cutover (n1 : Int) : Option Int :=
  (chk (n1 + 16)).bind fun z3 =>
  (quoI z3 8).bind fun z5 =>
  some z5

end Go.Proofs.YtgmikhdealhlfaaGreatDoor
