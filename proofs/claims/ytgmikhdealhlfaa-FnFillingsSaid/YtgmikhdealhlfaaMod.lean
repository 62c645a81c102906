/- The models of the program's functions. Printed by gen.py. -/
import Derived.Test.YtgmikhdealhlfaaTyp
import Derived.Test.YtgmikhdealhlfaaEngM
import Derived.Test.YtgmikhdealhlfaaEngY
namespace Go.Proofs.Ytgmikhdealhlfaa
open Go Go.RowKit
set_option linter.unusedSimpArgs false
set_option linter.unusedVariables false

noncomputable def m_laws_szGrid (a1 : Grid) (left5 : Int) : Option Int :=
  (chk (left5 - (a1.Cells.length : Int))).bind fun z11 =>
  bif decide (z11 < 0) then
    some (-1)
  else
    some z11

noncomputable def m_laws_toGrid (a1 : Grid) : Option Grid :=
  some a1

noncomputable def m_spec_l00In (n1 : Int) (low3 : Int) (high5 : Int) : Option Bool :=
  (
      bif decide (low3 ≤ n1) then
        some (decide (n1 ≤ high5))
      else
        some false : Option Bool).bind fun t7 =>
  some t7

noncomputable def m_spec_l01Small (c1 : UInt8) : Option Bool :=
  (
      bif decide (97 ≤ c1) then
        some (decide (c1 ≤ 122))
      else
        some false : Option Bool).bind fun t2 =>
  some t2

noncomputable def m_spec_l25Ok_l1 (g1 : Grid) (n35 : Int) : Option (Int ⊕ (Unit ⊕ Bool)) :=
  bif decide (n35 < (g1.Cells.length : Int)) then
    (
        (getL g1.Cells n35).bind fun c52 =>
        bif c52 != 35 then
          (getL g1.Cells n35).bind fun c55 =>
          bif c55 != 46 then
            (getL g1.Cells n35).bind fun c58 =>
            (m_spec_l01Small c58).bind fun y60 =>
            some (!y60)
          else
            some false
        else
          some false : Option Bool).bind fun t48 =>
    bif t48 then
      some (.inr (.inr false))
    else
      (chk (n35 + 1)).bind fun z70 =>
      some (.inl z70)
  else
    some (.inr (.inl ()))

noncomputable def m_spec_l25Ok (g1 : Grid) : Option Bool :=
  (
      (m_spec_l00In g1.Rows 1 5).bind fun y14 =>
      bif !y14 then
        some true
      else
        (m_spec_l00In g1.Cols 1 5).bind fun y21 =>
        bif !y21 then
          some true
        else
          (chk (g1.Rows * g1.Cols)).bind fun z28 =>
          some ((g1.Cells.length : Int) != z28) : Option Bool).bind fun t5 =>
  bif t5 then
    some false
  else
    (
        (loopM (fun s : Int => m_spec_l25Ok_l1 g1 s) 0).bind fun x38 =>
        match x38 with
        | .inl _ =>
          some (.inl ())
        | .inr r76 =>
          some (.inr r76) : Option (Unit ⊕ Bool)).bind fun x33 =>
    match x33 with
    | .inl _ =>
      some true
    | .inr r79 =>
      some r79

noncomputable def m_spec_l25At (g1 : Grid) (row5 : Int) (col7 : Int) : Option UInt8 :=
  (
      (chk (g1.Rows - 1)).bind fun z17 =>
      (m_spec_l00In row5 0 z17).bind fun y19 =>
      bif !y19 then
        some true
      else
        (chk (g1.Cols - 1)).bind fun z26 =>
        (m_spec_l00In col7 0 z26).bind fun y28 =>
        some (!y28) : Option Bool).bind fun t9 =>
  bif t9 then
    some 35
  else
    (chk (row5 * g1.Cols)).bind fun z41 =>
    (chk (z41 + col7)).bind fun z43 =>
    (getL g1.Cells z43).bind fun c45 =>
    some c45

noncomputable def m_spec_l25Across_l3 (n40 : Int) (g1 : Grid) (c16 : Int) (n56 : Int) : Option (Int ⊕ Int) :=
  (chk (n40 + n56)).bind fun z66 =>
  (m_spec_l25At g1 c16 z66).bind fun y68 =>
  bif y68 != 35 then
    (chk (n56 + 1)).bind fun z74 =>
    some (.inl z74)
  else
    some (.inr n56)

noncomputable def m_spec_l25Across_l2 (g1 : Grid) (c16 : Int) (xs37 : (List Slot)) (n40 : Int) : Option (((List Slot) × Int) ⊕ (List Slot)) :=
  bif decide (n40 < g1.Cols) then
    (
        (loopM (fun s : Int => m_spec_l25Across_l3 n40 g1 c16 s) 0).bind fun n59 =>
        some n59 : Option Int).bind fun n52 =>
    (
        bif decide (2 ≤ n52) then
          (catL xs37 ([(⟨c16, n40, false, n52⟩ : Slot)] : (List Slot))).bind fun xs91 =>
          some xs91
        else
          some xs37 : Option (List Slot)).bind fun xs82 =>
    (chk (n52 + 1)).bind fun z101 =>
    (chk (n40 + z101)).bind fun z103 =>
    some (.inl (xs82, z103))
  else
    some (.inr xs37)

noncomputable def m_spec_l25Across_l1 (g1 : Grid) (xs13 : (List Slot)) (c16 : Int) : Option (((List Slot) × Int) ⊕ (List Slot)) :=
  bif decide (c16 < g1.Rows) then
    (
        (loopM (fun s : (List Slot) × Int => m_spec_l25Across_l2 g1 c16 s.1 s.2) (xs13, 0)).bind fun xs43 =>
        some xs43 : Option (List Slot)).bind fun xs32 =>
    (chk (c16 + 1)).bind fun z111 =>
    some (.inl (xs32, z111))
  else
    some (.inr xs13)

noncomputable def m_spec_l25Across (g1 : Grid) : Option (List Slot) :=
  (
      (loopM (fun s : (List Slot) × Int => m_spec_l25Across_l1 g1 s.1 s.2) (([] : (List Slot)), 0)).bind fun xs19 =>
      some xs19 : Option (List Slot)).bind fun xs8 =>
  some xs8

noncomputable def m_spec_l25Turn_l2 (g1 : Grid) (r20 : Int) (xs41 : Str) (n44 : Int) : Option ((Str × Int) ⊕ Str) :=
  bif decide (n44 < g1.Rows) then
    (m_spec_l25At g1 n44 r20).bind fun y56 =>
    (catL xs41 ([y56] : Str)).bind fun xs64 =>
    (chk (n44 + 1)).bind fun z71 =>
    some (.inl (xs64, z71))
  else
    some (.inr xs41)

noncomputable def m_spec_l25Turn_l1 (g1 : Grid) (xs17 : Str) (r20 : Int) : Option ((Str × Int) ⊕ Str) :=
  bif decide (r20 < g1.Cols) then
    (
        (loopM (fun s : Str × Int => m_spec_l25Turn_l2 g1 r20 s.1 s.2) (xs17, 0)).bind fun xs47 =>
        some xs47 : Option Str).bind fun xs36 =>
    (chk (r20 + 1)).bind fun z79 =>
    some (.inl (xs36, z79))
  else
    some (.inr xs17)

noncomputable def m_spec_l25Turn (g1 : Grid) : Option Grid :=
  (
      (loopM (fun s : Str × Int => m_spec_l25Turn_l1 g1 s.1 s.2) (([] : Str), 0)).bind fun xs23 =>
      some xs23 : Option Str).bind fun xs12 =>
  some (⟨g1.Cols, g1.Rows, xs12⟩ : Grid)

noncomputable def m_spec_l25Slots_l1 (y27 : (List Slot)) (xs39 : (List Slot)) (n42 : Int) : Option (((List Slot) × Int) ⊕ (List Slot)) :=
  bif decide (n42 < (y27.length : Int)) then
    (getL y27 n42).bind fun e56 =>
    (getL y27 n42).bind fun e67 =>
    (getL y27 n42).bind fun e78 =>
    (catL xs39 ([(⟨e56.Col, e67.Row, true, e78.Length⟩ : Slot)] : (List Slot))).bind fun xs92 =>
    (chk (n42 + 1)).bind fun z99 =>
    some (.inl (xs92, z99))
  else
    some (.inr xs39)

noncomputable def m_spec_l25Slots (g1 : Grid) : Option (List Slot) :=
  (m_spec_l25Across g1).bind fun y5 =>
  (m_spec_l25Turn g1).bind fun y12 =>
  (m_spec_l25Across y12).bind fun y27 =>
  (
      (loopM (fun s : (List Slot) × Int => m_spec_l25Slots_l1 y27 s.1 s.2) (y5, 0)).bind fun xs45 =>
      some xs45 : Option (List Slot)).bind fun xs34 =>
  some xs34

noncomputable def m_spec_l25Code (g1 : Grid) (slot5 : Int) : Option Int :=
  (m_spec_l25Ok g1).bind fun y7 =>
  bif !y7 then
    some 1
  else
    (m_spec_l25Slots g1).bind fun y13 =>
    (chk ((y13.length : Int) - 1)).bind fun z21 =>
    (m_spec_l00In slot5 0 z21).bind fun y23 =>
    bif !y23 then
      some 2
    else
      some 0

noncomputable def m_spec_l25Square (g1 : Grid) (s5 : Slot) (k9 : Int) : Option Int :=
  bif s5.Down then
    (chk (s5.Row + k9)).bind fun z17 =>
    (chk (z17 * g1.Cols)).bind fun z23 =>
    (chk (z23 + s5.Col)).bind fun z25 =>
    some z25
  else
    (chk (s5.Row * g1.Cols)).bind fun z32 =>
    (chk (z32 + s5.Col)).bind fun z34 =>
    (chk (z34 + k9)).bind fun z36 =>
    some z36

noncomputable def m_spec_l25Pattern_l1 (s5 : Slot) (g1 : Grid) (xs17 : Str) (n20 : Int) : Option ((Str × Int) ⊕ Str) :=
  bif decide (n20 < s5.Length) then
    (m_spec_l25Square g1 s5 n20).bind fun y41 =>
    (getL g1.Cells y41).bind fun c47 =>
    (catL xs17 ([c47] : Str)).bind fun xs52 =>
    (chk (n20 + 1)).bind fun z59 =>
    some (.inl (xs52, z59))
  else
    some (.inr xs17)

noncomputable def m_spec_l25Pattern (g1 : Grid) (s5 : Slot) : Option Str :=
  (
      (loopM (fun s : Str × Int => m_spec_l25Pattern_l1 s5 g1 s.1 s.2) (([] : Str), 0)).bind fun xs23 =>
      some xs23 : Option Str).bind fun xs12 =>
  some xs12

noncomputable def m_spec_PatternOf (g1 : Grid) (slot5 : Int) : Option (Str × Int) :=
  (m_spec_l25Code g1 slot5).bind fun y11 =>
  bif y11 != 0 then
    some (([] : Str), y11)
  else
    (m_spec_l25Slots g1).bind fun y18 =>
    (getL y18 slot5).bind fun e25 =>
    (m_spec_l25Pattern g1 e25).bind fun y36 =>
    some (y36, 0)

noncomputable def m_impl_within (x1 : Int) (low3 : Int) (high5 : Int) : Option Bool :=
  (
      bif decide (low3 ≤ x1) then
        some (decide (x1 ≤ high5))
      else
        some false : Option Bool).bind fun t7 =>
  some t7

noncomputable def m_impl_allBytes_l1 (s1 : Str) (is3 : (UInt8 → Option Bool)) (n9 : Int) : Option (Int ⊕ (Unit ⊕ Bool)) :=
  bif decide (n9 < (s1.length : Int)) then
    (getL s1 n9).bind fun c18 =>
    (is3 c18).bind fun y20 =>
    bif !y20 then
      some (.inr (.inr false))
    else
      (chk (n9 + 1)).bind fun z26 =>
      some (.inl z26)
  else
    some (.inr (.inl ()))

noncomputable def m_impl_allBytes (s1 : Str) (is3 : (UInt8 → Option Bool)) : Option Bool :=
  (
      (loopM (fun s : Int => m_impl_allBytes_l1 s1 is3 s) 0).bind fun x12 =>
      match x12 with
      | .inl _ =>
        some (.inl ())
      | .inr r32 =>
        some (.inr r32) : Option (Unit ⊕ Bool)).bind fun x7 =>
  match x7 with
  | .inl _ =>
    some true
  | .inr r35 =>
    some r35

noncomputable def m_impl_small (c1 : UInt8) : Option Bool :=
  (
      bif decide (97 ≤ c1) then
        some (decide (c1 ≤ 122))
      else
        some false : Option Bool).bind fun t2 =>
  some t2

noncomputable def m_impl_gridByte (c1 : UInt8) : Option Bool :=
  (
      bif c1 == 35 then
        some true
      else
        bif c1 == 46 then
          some true
        else
          (m_impl_small c1).bind fun y10 =>
          some y10 : Option Bool).bind fun t2 =>
  some t2

noncomputable def m_impl_ValidGrid (g1 : Grid) : Option Bool :=
  (
      (m_impl_within g1.Rows 1 5).bind fun y13 =>
      bif y13 then
        (m_impl_within g1.Cols 1 5).bind fun y19 =>
        bif y19 then
          (chk (g1.Rows * g1.Cols)).bind fun z25 =>
          bif (g1.Cells.length : Int) == z25 then
            (m_impl_allBytes g1.Cells m_impl_gridByte).bind fun y28 =>
            some y28
          else
            some false
        else
          some false
      else
        some false : Option Bool).bind fun t9 =>
  some t9

noncomputable def m_impl_Grid_across_l2 (g1 : Grid) (start20 : Int) (xs37 : (List Slot)) (col40 : Int) (n42 : Int) : Option (((List Slot) × Int × Int) ⊕ (List Slot)) :=
  bif decide (n42 ≤ g1.Cols) then
    (
        (
            bif decide (n42 < g1.Cols) then
              (chk (start20 * g1.Cols)).bind fun z66 =>
              (chk (z66 + n42)).bind fun z68 =>
              (getL g1.Cells z68).bind fun c70 =>
              some (c70 != 35)
            else
              some false : Option Bool).bind fun t61 =>
        bif t61 then
          some (xs37, col40)
        else
          (
              (chk (n42 - col40)).bind fun z82 =>
              bif decide (2 ≤ z82) then
                (chk (n42 - col40)).bind fun z85 =>
                (catL xs37 ([(⟨start20, col40, false, z85⟩ : Slot)] : (List Slot))).bind fun xs90 =>
                some xs90
              else
                some xs37 : Option (List Slot)).bind fun xs77 =>
          (chk (n42 + 1)).bind fun z100 =>
          some (xs77, z100) : Option ((List Slot) × Int)).bind fun x59 =>
    match x59 with
    | (xs54, col57) =>
      (chk (n42 + 1)).bind fun z104 =>
      some (.inl (xs54, col57, z104))
  else
    some (.inr xs37)

noncomputable def m_impl_Grid_across_l1 (g1 : Grid) (xs17 : (List Slot)) (start20 : Int) : Option (((List Slot) × Int) ⊕ (List Slot)) :=
  bif decide (start20 < g1.Rows) then
    (
        (loopM (fun s : (List Slot) × Int × Int => m_impl_Grid_across_l2 g1 start20 s.1 s.2.1 s.2.2) (xs17, 0, 0)).bind fun xs45 =>
        some xs45 : Option (List Slot)).bind fun xs32 =>
    (chk (start20 + 1)).bind fun z112 =>
    some (.inl (xs32, z112))
  else
    some (.inr xs17)

noncomputable def m_impl_Grid_across (g1 : Grid) : Option (List Slot) :=
  (
      (loopM (fun s : (List Slot) × Int => m_impl_Grid_across_l1 g1 s.1 s.2) (([] : (List Slot)), 0)).bind fun xs23 =>
      some xs23 : Option (List Slot)).bind fun xs12 =>
  some xs12

noncomputable def m_impl_Grid_turned_l2 (g1 : Grid) (row24 : Int) (xs41 : Str) (n44 : Int) : Option ((Str × Int) ⊕ Str) :=
  bif decide (n44 < g1.Rows) then
    (chk (n44 * g1.Cols)).bind fun z56 =>
    (chk (z56 + row24)).bind fun z58 =>
    (getL g1.Cells z58).bind fun c60 =>
    (catL xs41 ([c60] : Str)).bind fun xs65 =>
    (chk (n44 + 1)).bind fun z72 =>
    some (.inl (xs65, z72))
  else
    some (.inr xs41)

noncomputable def m_impl_Grid_turned_l1 (g1 : Grid) (xs21 : Str) (row24 : Int) : Option ((Str × Int) ⊕ Str) :=
  bif decide (row24 < g1.Cols) then
    (
        (loopM (fun s : Str × Int => m_impl_Grid_turned_l2 g1 row24 s.1 s.2) (xs21, 0)).bind fun xs47 =>
        some xs47 : Option Str).bind fun xs36 =>
    (chk (row24 + 1)).bind fun z80 =>
    some (.inl (xs36, z80))
  else
    some (.inr xs21)

noncomputable def m_impl_Grid_turned (g1 : Grid) : Option Grid :=
  (
      (loopM (fun s : Str × Int => m_impl_Grid_turned_l1 g1 s.1 s.2) (([] : Str), 0)).bind fun xs27 =>
      some xs27 : Option Str).bind fun xs16 =>
  some (⟨g1.Cols, g1.Rows, xs16⟩ : Grid)

noncomputable def m_impl_Grid_slots_l1 (y29 : (List Slot)) (xs37 : (List Slot)) (n40 : Int) : Option (((List Slot) × Int) ⊕ (List Slot)) :=
  bif decide (n40 < (y29.length : Int)) then
    (getL y29 n40).bind fun e52 =>
    (catL xs37 ([(⟨e52.Col, e52.Row, true, e52.Length⟩ : Slot)] : (List Slot))).bind fun xs73 =>
    (chk (n40 + 1)).bind fun z80 =>
    some (.inl (xs73, z80))
  else
    some (.inr xs37)

noncomputable def m_impl_Grid_slots (g1 : Grid) : Option (List Slot) :=
  (m_impl_Grid_across g1).bind fun y9 =>
  (
      (m_impl_Grid_turned g1).bind fun y21 =>
      (m_impl_Grid_across y21).bind fun y29 =>
      (loopM (fun s : (List Slot) × Int => m_impl_Grid_slots_l1 y29 s.1 s.2) (y9, 0)).bind fun xs43 =>
      some xs43 : Option (List Slot)).bind fun xs16 =>
  some xs16

noncomputable def m_impl_Grid_slotAt (g1 : Grid) (slot5 : Int) : Option (Slot × Bool) :=
  (m_impl_Grid_slots g1).bind fun y15 =>
  (chk ((y15.length : Int) - 1)).bind fun z23 =>
  (m_impl_within slot5 0 z23).bind fun y25 =>
  bif !y25 then
    some ((⟨0, 0, false, 0⟩ : Slot), false)
  else
    (getL y15 slot5).bind fun e35 =>
    some (e35, true)

noncomputable def m_impl_Grid_index (g1 : Grid) (s5 : Slot) (n9 : Int) : Option Int :=
  bif s5.Down then
    (chk (s5.Row + n9)).bind fun z20 =>
    (chk (z20 * g1.Cols)).bind fun z22 =>
    (chk (z22 + s5.Col)).bind fun z24 =>
    some z24
  else
    (chk (s5.Row * g1.Cols)).bind fun z26 =>
    (chk (z26 + s5.Col)).bind fun z28 =>
    (chk (z28 + n9)).bind fun z30 =>
    some z30

noncomputable def m_impl_Grid_pattern_l1 (s5 : Slot) (g1 : Grid) (xs25 : Str) (n28 : Int) : Option ((Str × Int) ⊕ Str) :=
  bif decide (n28 < s5.Length) then
    (m_impl_Grid_index g1 s5 n28).bind fun y41 =>
    (getL g1.Cells y41).bind fun c47 =>
    (catL xs25 ([c47] : Str)).bind fun xs52 =>
    (chk (n28 + 1)).bind fun z59 =>
    some (.inl (xs52, z59))
  else
    some (.inr xs25)

noncomputable def m_impl_Grid_pattern (g1 : Grid) (s5 : Slot) : Option Str :=
  (
      (loopM (fun s : Str × Int => m_impl_Grid_pattern_l1 s5 g1 s.1 s.2) (([] : Str), 0)).bind fun xs31 =>
      some xs31 : Option Str).bind fun xs20 =>
  some xs20

noncomputable def m_impl_PatternOf (g1 : Grid) (slot5 : Int) : Option (Str × Int) :=
  (m_impl_ValidGrid g1).bind fun y11 =>
  bif !y11 then
    some (([] : Str), 1)
  else
    (m_impl_Grid_slotAt g1 slot5).bind fun y17 =>
    bif !y17.2 then
      some (([] : Str), 2)
    else
      (m_impl_Grid_pattern g1 y17.1).bind fun y33 =>
      some (y33, 0)

noncomputable def m_laws_FnExactPatternOf (aG1 : Grid) (aSlot5 : Int) : Option Bool :=
  (m_laws_szGrid aG1 1048576).bind fun y11 =>
  bif decide (y11 < 0) then
    some true
  else
    (m_laws_toGrid aG1).bind fun y18 =>
    (m_spec_PatternOf y18 aSlot5).bind fun y26 =>
    (m_laws_toGrid aG1).bind fun y33 =>
    (m_impl_PatternOf y33 aSlot5).bind fun y41 =>
    (
        bif y41.1 != y26.1 then
          some true
        else
          some (y41.2 != y26.2) : Option Bool).bind fun t48 =>
    bif t48 then
      some false
    else
      some true

noncomputable def m_spec_SlotsOf (g1 : Grid) : Option ((List Slot) × Int) :=
  (m_spec_l25Ok g1).bind fun y9 =>
  bif !y9 then
    some (([] : (List Slot)), 1)
  else
    (m_spec_l25Slots g1).bind fun y15 =>
    some (y15, 0)

noncomputable def m_impl_SlotsOf (g1 : Grid) : Option ((List Slot) × Int) :=
  (m_impl_ValidGrid g1).bind fun y9 =>
  bif !y9 then
    some (([] : (List Slot)), 1)
  else
    (m_impl_Grid_slots g1).bind fun y15 =>
    some (y15, 0)

noncomputable def m_laws_eqSlot (a1 : Slot) (b5 : Slot) : Option Bool :=
  bif a1.Row != b5.Row then
    some false
  else
    bif a1.Col != b5.Col then
      some false
    else
      bif a1.Down != b5.Down then
        some false
      else
        bif a1.Length != b5.Length then
          some false
        else
          some true

noncomputable def m_laws_eqSlotS_l1 (a1 : (List Slot)) (b5 : (List Slot)) (n14 : Int) : Option (Int ⊕ (Unit ⊕ Bool)) :=
  bif decide (n14 < (a1.length : Int)) then
    (getL a1 n14).bind fun e25 =>
    (getL b5 n14).bind fun e36 =>
    (m_laws_eqSlot e25 e36).bind fun y47 =>
    bif !y47 then
      some (.inr (.inr false))
    else
      (chk (n14 + 1)).bind fun z53 =>
      some (.inl z53)
  else
    some (.inr (.inl ()))

noncomputable def m_laws_eqSlotS (a1 : (List Slot)) (b5 : (List Slot)) : Option Bool :=
  bif (a1.length : Int) != (b5.length : Int) then
    some false
  else
    (
        (loopM (fun s : Int => m_laws_eqSlotS_l1 a1 b5 s) 0).bind fun x17 =>
        match x17 with
        | .inl _ =>
          some (.inl ())
        | .inr r59 =>
          some (.inr r59) : Option (Unit ⊕ Bool)).bind fun x12 =>
    match x12 with
    | .inl _ =>
      some true
    | .inr r62 =>
      some r62

noncomputable def m_laws_markSlotS_l1 (xs12 : (List Slot)) (k14 : Int) (n16 : Int) : Option (((List Slot) × Int × Int) ⊕ ((List Slot) × Int)) :=
  bif decide (n16 < (xs12.length : Int)) then
    (getL xs12 n16).bind fun e30 =>
    (setL xs12 n16 (⟨k14, e30.Col, e30.Down, e30.Length⟩ : Slot)).bind fun xs42 =>
    (chk (k14 + 1)).bind fun z44 =>
    (getL xs42 n16).bind fun e46 =>
    (setL xs42 n16 (⟨e46.Row, z44, e46.Down, e46.Length⟩ : Slot)).bind fun xs58 =>
    (chk (z44 + 1)).bind fun z60 =>
    (remI z60 3).bind fun z62 =>
    (getL xs58 n16).bind fun e64 =>
    (setL xs58 n16 (⟨e64.Row, e64.Col, z62 == 0, e64.Length⟩ : Slot)).bind fun xs76 =>
    (chk (z60 + 1)).bind fun z78 =>
    (getL xs76 n16).bind fun e80 =>
    (setL xs76 n16 (⟨e80.Row, e80.Col, e80.Down, z78⟩ : Slot)).bind fun xs92 =>
    (chk (z78 + 1)).bind fun z94 =>
    (chk (n16 + 1)).bind fun z96 =>
    some (.inl (xs92, z94, z96))
  else
    some (.inr (xs12, k14))

noncomputable def m_laws_markSlotS (a1 : (List Slot)) (k4 : Int) : Option (Int × (List Slot)) :=
  (
      (loopM (fun s : (List Slot) × Int × Int => m_laws_markSlotS_l1 s.1 s.2.1 s.2.2) (a1, k4, 0)).bind fun x23 =>
      match x23 with
      | (xs19, k21) =>
        some (xs19, k21) : Option ((List Slot) × Int)).bind fun x10 =>
  match x10 with
  | (xs6, k8) =>
    some (k8, xs6)

noncomputable def m_laws_heldSlotS_l1 (a1 : (List Slot)) (k11 : Int) (n13 : Int) : Option ((Int × Int) ⊕ (Int ⊕ Int)) :=
  bif decide (n13 < (a1.length : Int)) then
    (getL a1 n13).bind fun e25 =>
    bif e25.Row != k11 then
      some (.inr (.inr (-1)))
    else
      (chk (k11 + 1)).bind fun z37 =>
      (getL a1 n13).bind fun e39 =>
      bif e39.Col != z37 then
        some (.inr (.inr (-1)))
      else
        (chk (z37 + 1)).bind fun z51 =>
        (getL a1 n13).bind fun e53 =>
        (remI z51 3).bind fun z64 =>
        bif e53.Down != (z64 == 0) then
          some (.inr (.inr (-1)))
        else
          (chk (z51 + 1)).bind fun z67 =>
          (getL a1 n13).bind fun e69 =>
          bif e69.Length != z67 then
            some (.inr (.inr (-1)))
          else
            (chk (z67 + 1)).bind fun z81 =>
            (chk (n13 + 1)).bind fun z83 =>
            some (.inl (z81, z83))
  else
    some (.inr (.inl k11))

noncomputable def m_laws_heldSlotS (a1 : (List Slot)) (k5 : Int) : Option Int :=
  (
      (loopM (fun s : Int × Int => m_laws_heldSlotS_l1 a1 s.1 s.2) (k5, 0)).bind fun x18 =>
      match x18 with
      | .inl k16 =>
        some (.inl k16)
      | .inr r89 =>
        some (.inr r89) : Option (Int ⊕ Int)).bind fun x9 =>
  match x9 with
  | .inl k7 =>
    some k7
  | .inr r92 =>
    some r92

noncomputable def m_laws_FnExactSlotsOf (aG1 : Grid) : Option Bool :=
  (m_laws_szGrid aG1 1048576).bind fun y9 =>
  bif decide (y9 < 0) then
    some true
  else
    (m_laws_toGrid aG1).bind fun y16 =>
    (m_spec_SlotsOf y16).bind fun y24 =>
    (m_laws_toGrid aG1).bind fun y32 =>
    (m_impl_SlotsOf y32).bind fun y40 =>
    (
        (m_laws_eqSlotS y40.1 y24.1).bind fun y52 =>
        bif !y52 then
          some true
        else
          some (y40.2 != y24.2) : Option Bool).bind fun t48 =>
    bif t48 then
      some false
    else
      (m_laws_markSlotS y40.1 1).bind fun y62 =>
      (m_laws_heldSlotS y62.2 1).bind fun y69 =>
      bif decide (y69 < 0) then
        some false
      else
        bif y69 != y62.1 then
          some false
        else
          (m_laws_toGrid aG1).bind fun y77 =>
          (m_impl_SlotsOf y77).bind fun y85 =>
          (
              (m_laws_eqSlotS y85.1 y24.1).bind fun y97 =>
              bif !y97 then
                some true
              else
                some (y85.2 != y24.2) : Option Bool).bind fun t93 =>
          bif t93 then
            some false
          else
            (m_laws_heldSlotS y62.2 1).bind fun y107 =>
            bif decide (y107 < 0) then
              some false
            else
              bif y107 != y62.1 then
                some false
              else
                some true

noncomputable def m_spec_IsWord_l1 (s1 : Str) (n5 : Int) : Option (Int ⊕ (Unit ⊕ Bool)) :=
  bif decide (n5 < (s1.length : Int)) then
    (getL s1 n5).bind fun c14 =>
    (m_spec_l01Small c14).bind fun y16 =>
    bif !y16 then
      some (.inr (.inr false))
    else
      (chk (n5 + 1)).bind fun z22 =>
      some (.inl z22)
  else
    some (.inr (.inl ()))

noncomputable def m_spec_IsWord (s1 : Str) : Option Bool :=
  (
      (loopM (fun s : Int => m_spec_IsWord_l1 s1 s) 0).bind fun x8 =>
      match x8 with
      | .inl _ =>
        some (.inl ())
      | .inr r28 =>
        some (.inr r28) : Option (Unit ⊕ Bool)).bind fun x3 =>
  match x3 with
  | .inl _ =>
    (m_spec_l00In (s1.length : Int) 1 12).bind fun y31 =>
    some y31
  | .inr r36 =>
    some r36

noncomputable def m_spec_l25Fits_l1 (word3 : Str) (pattern1 : Str) (n8 : Int) : Option (Int ⊕ (Unit ⊕ Bool)) :=
  bif decide (n8 < (word3.length : Int)) then
    (
        (getL pattern1 n8).bind fun c22 =>
        bif c22 != 46 then
          (getL pattern1 n8).bind fun c25 =>
          (getL word3 n8).bind fun c27 =>
          some (c25 != c27)
        else
          some false : Option Bool).bind fun t17 =>
    bif t17 then
      some (.inr (.inr false))
    else
      (chk (n8 + 1)).bind fun z33 =>
      some (.inl z33)
  else
    some (.inr (.inl ()))

noncomputable def m_spec_l25Fits (pattern1 : Str) (word3 : Str) : Option Bool :=
  bif (pattern1.length : Int) != (word3.length : Int) then
    some false
  else
    (
        (loopM (fun s : Int => m_spec_l25Fits_l1 word3 pattern1 s) 0).bind fun x11 =>
        match x11 with
        | .inl _ =>
          some (.inl ())
        | .inr r39 =>
          some (.inr r39) : Option (Unit ⊕ Bool)).bind fun x6 =>
    match x6 with
    | .inl _ =>
      some true
    | .inr r42 =>
      some r42

noncomputable def m_spec_l25Put_l1 (s5 : Slot) (word9 : Str) (g1 : Grid) (xs26 : Str) (n27 : Int) : Option ((Str × Int) ⊕ Str) :=
  bif decide (n27 < s5.Length) then
    (getL word9 n27).bind fun c42 =>
    (m_spec_l25Square g1 s5 n27).bind fun y44 =>
    (getL xs26 y44).bind fun e50 =>
    (setL xs26 y44 c42).bind fun xs59 =>
    (chk (n27 + 1)).bind fun z61 =>
    some (.inl (xs59, z61))
  else
    some (.inr xs26)

noncomputable def m_spec_l25Put (g1 : Grid) (s5 : Slot) (word9 : Str) : Option Grid :=
  (
      (loopM (fun s : Str × Int => m_spec_l25Put_l1 s5 word9 g1 s.1 s.2) (g1.Cells, 0)).bind fun xs30 =>
      some xs30 : Option Str).bind fun xs23 =>
  some (⟨g1.Rows, g1.Cols, xs23⟩ : Grid)

noncomputable def m_spec_PutWord (g1 : Grid) (slot5 : Int) (word7 : Str) : Option (Grid × Int) :=
  (m_spec_l25Code g1 slot5).bind fun y17 =>
  bif y17 != 0 then
    some ((⟨0, 0, ([] : Str)⟩ : Grid), y17)
  else
    (m_spec_IsWord word7).bind fun y28 =>
    bif !y28 then
      some ((⟨0, 0, ([] : Str)⟩ : Grid), 7)
    else
      (m_spec_l25Slots g1).bind fun y38 =>
      (getL y38 slot5).bind fun e45 =>
      (m_spec_l25Pattern g1 e45).bind fun y56 =>
      (m_spec_l25Fits y56 word7).bind fun y62 =>
      bif !y62 then
        some ((⟨0, 0, ([] : Str)⟩ : Grid), 6)
      else
        (getL y38 slot5).bind fun e72 =>
        (m_spec_l25Put g1 e72 word7).bind fun y83 =>
        some (y83, 0)

noncomputable def m_impl_onlySmall_l1 (s1 : Str) (n10 : Int) : Option (Int ⊕ (Unit ⊕ Bool)) :=
  bif decide (n10 < (s1.length : Int)) then
    (getL s1 n10).bind fun e19 =>
    (m_impl_small e19).bind fun y27 =>
    bif !y27 then
      some (.inr (.inr false))
    else
      (chk (n10 + 1)).bind fun z33 =>
      some (.inl z33)
  else
    some (.inr (.inl ()))

noncomputable def m_impl_onlySmall (s1 : Str) : Option Bool :=
  (
      (loopM (fun s : Int => m_impl_onlySmall_l1 s1 s) 0).bind fun x13 =>
      match x13 with
      | .inl _ =>
        some (.inl ())
      | .inr r39 =>
        some (.inr r39) : Option (Unit ⊕ Bool)).bind fun x3 =>
  match x3 with
  | .inl _ =>
    some true
  | .inr r42 =>
    some r42

noncomputable def m_impl_IsWord (s1 : Str) : Option Bool :=
  (
      bif decide (1 ≤ (s1.length : Int)) then
        bif decide ((s1.length : Int) ≤ 12) then
          (m_impl_onlySmall s1).bind fun y9 =>
          some y9
        else
          some false
      else
        some false : Option Bool).bind fun t3 =>
  some t3

noncomputable def m_impl_fitsPattern_l1 (word3 : Str) (pattern1 : Str) (pos11 : Nat) : Option (Nat ⊕ (Nat ⊕ Bool)) :=
  bif decide (pos11 < word3.length) then
    (
        (getL pattern1 (pos11 : Int)).bind fun c27 =>
        bif c27 != 46 then
          (getL pattern1 (pos11 : Int)).bind fun c30 =>
          (getL word3 (pos11 : Int)).bind fun c32 =>
          some (c30 != c32)
        else
          some false : Option Bool).bind fun t22 =>
    bif t22 then
      some (.inr (.inr false))
    else
      some (.inl (pos11 + runeW word3 pos11))
  else
    some (.inr (.inl pos11))

noncomputable def m_impl_fitsPattern (pattern1 : Str) (word3 : Str) : Option Bool :=
  bif (pattern1.length : Int) != (word3.length : Int) then
    some false
  else
    (
        (loopM (fun s : Nat => m_impl_fitsPattern_l1 word3 pattern1 s) 0).bind fun x14 =>
        match x14 with
        | .inl pos13 =>
          some (.inl ())
        | .inr r44 =>
          some (.inr r44) : Option (Unit ⊕ Bool)).bind fun x6 =>
    match x6 with
    | .inl _ =>
      some true
    | .inr r47 =>
      some r47

noncomputable def m_impl_Grid_put_l1 (word9 : Str) (g1 : Grid) (s5 : Slot) (pos33 : Nat) (xs34 : Str) : Option ((Nat × Str) ⊕ (Nat × Str)) :=
  bif decide (pos33 < word9.length) then
    (getL word9 (pos33 : Int)).bind fun c47 =>
    (m_impl_Grid_index g1 s5 (pos33 : Int)).bind fun y49 =>
    (getL xs34 y49).bind fun e55 =>
    (setL xs34 y49 c47).bind fun xs64 =>
    some (.inl (pos33 + runeW word9 pos33, xs64))
  else
    some (.inr (pos33, xs34))

noncomputable def m_impl_Grid_put (g1 : Grid) (s5 : Slot) (word9 : Str) : Option Grid :=
  (
      (loopM (fun s : Nat × Str => m_impl_Grid_put_l1 word9 g1 s5 s.1 s.2) (0, g1.Cells)).bind fun x38 =>
      match x38 with
      | (pos36, xs37) =>
        some xs37 : Option Str).bind fun xs27 =>
  some (⟨g1.Rows, g1.Cols, xs27⟩ : Grid)

noncomputable def m_impl_PutWord (g1 : Grid) (slot5 : Int) (word7 : Str) : Option (Grid × Int) :=
  (m_impl_ValidGrid g1).bind fun y17 =>
  bif !y17 then
    some ((⟨0, 0, ([] : Str)⟩ : Grid), 1)
  else
    (m_impl_Grid_slotAt g1 slot5).bind fun y27 =>
    bif !y27.2 then
      some ((⟨0, 0, ([] : Str)⟩ : Grid), 2)
    else
      (m_impl_IsWord word7).bind fun y47 =>
      bif !y47 then
        some ((⟨0, 0, ([] : Str)⟩ : Grid), 7)
      else
        (m_impl_Grid_pattern g1 y27.1).bind fun y57 =>
        (m_impl_fitsPattern y57 word7).bind fun y63 =>
        bif !y63 then
          some ((⟨0, 0, ([] : Str)⟩ : Grid), 6)
        else
          (m_impl_Grid_put g1 y27.1 word7).bind fun y73 =>
          some (y73, 0)

noncomputable def m_laws_eqGrid (a1 : Grid) (b5 : Grid) : Option Bool :=
  bif a1.Rows != b5.Rows then
    some false
  else
    bif a1.Cols != b5.Cols then
      some false
    else
      bif a1.Cells != b5.Cells then
        some false
      else
        some true

noncomputable def m_laws_FnExactPutWord (aG1 : Grid) (aSlot5 : Int) (aWord7 : Str) : Option Bool :=
  bif decide (1048576 < (aWord7.length : Int)) then
    some true
  else
    (m_laws_szGrid aG1 1048576).bind fun y14 =>
    bif decide (y14 < 0) then
      some true
    else
      (m_laws_toGrid aG1).bind fun y21 =>
      (m_spec_PutWord y21 aSlot5 aWord7).bind fun y29 =>
      (m_laws_toGrid aG1).bind fun y45 =>
      (m_impl_PutWord y45 aSlot5 aWord7).bind fun y53 =>
      (
          (m_laws_eqGrid y53.1 y29.1).bind fun y73 =>
          bif !y73 then
            some true
          else
            some (y53.2 != y29.2) : Option Bool).bind fun t69 =>
      bif t69 then
        some false
      else
        some true

noncomputable def m_laws_szStringS_l1 (a1 : (List Str)) (left15 : Int) (n17 : Int) : Option ((Int × Int) ⊕ (Int ⊕ Int)) :=
  bif decide (n17 < (a1.length : Int)) then
    (getL a1 n17).bind fun e29 =>
    (chk (left15 - (e29.length : Int))).bind fun z38 =>
    bif decide (z38 < 0) then
      some (.inr (.inr (-1)))
    else
      (chk (n17 + 1)).bind fun z41 =>
      some (.inl (z38, z41))
  else
    some (.inr (.inl left15))

noncomputable def m_laws_szStringS (a1 : (List Str)) (left5 : Int) : Option Int :=
  (chk (left5 - (a1.length : Int))).bind fun z8 =>
  bif decide (z8 < 0) then
    some (-1)
  else
    (
        (loopM (fun s : Int × Int => m_laws_szStringS_l1 a1 s.1 s.2) (z8, 0)).bind fun x22 =>
        match x22 with
        | .inl left20 =>
          some (.inl left20)
        | .inr r47 =>
          some (.inr r47) : Option (Int ⊕ Int)).bind fun x13 =>
    match x13 with
    | .inl left11 =>
      some left11
    | .inr r50 =>
      some r50

noncomputable def m_laws_szLexicon (a1 : Lexicon) (left5 : Int) : Option Int :=
  (m_laws_szStringS a1.Words left5).bind fun y11 =>
  bif decide (y11 < 0) then
    some (-1)
  else
    some y11

noncomputable def m_laws_toStringS_l1 (a1 : (List Str)) (xs14 : (List Str)) (n15 : Int) : Option (((List Str) × Int) ⊕ (List Str)) :=
  bif decide (n15 < (a1.length : Int)) then
    (getL a1 n15).bind fun e26 =>
    (getL xs14 n15).bind fun e35 =>
    (setL xs14 n15 e26).bind fun xs43 =>
    (chk (n15 + 1)).bind fun z45 =>
    some (.inl (xs43, z45))
  else
    some (.inr xs14)

noncomputable def m_laws_toStringS (a1 : (List Str)) : Option (List Str) :=
  (makeL (a1.length : Int) ([] : Str)).bind fun xs6 =>
  (
      (loopM (fun s : (List Str) × Int => m_laws_toStringS_l1 a1 s.1 s.2) (xs6, 0)).bind fun xs18 =>
      some xs18 : Option (List Str)).bind fun xs11 =>
  some xs11

noncomputable def m_laws_toLexicon (a1 : Lexicon) : Option Lexicon :=
  (m_laws_toStringS a1.Words).bind fun y17 =>
  some (⟨y17⟩ : Lexicon)

noncomputable def m_spec_l05Long (s1 : Str) : Option Bool :=
  (
      bif decide (1 < (s1.length : Int)) then
        (m_spec_IsWord s1).bind fun y8 =>
        some y8
      else
        some false : Option Bool).bind fun t3 =>
  some t3

noncomputable def m_spec_l05Ok_l1 (l1 : Lexicon) (n7 : Int) : Option (Int ⊕ (Unit ⊕ Bool)) :=
  bif decide (n7 < (l1.Words.length : Int)) then
    (
        (getL l1.Words n7).bind fun e26 =>
        (m_spec_l05Long e26).bind fun y35 =>
        bif !y35 then
          some true
        else
          bif decide (0 < n7) then
            (getL l1.Words n7).bind fun e43 =>
            (chk (n7 - 1)).bind fun z52 =>
            (getL l1.Words z52).bind fun e54 =>
            some (ltS e43 e54 || e43 == e54)
          else
            some false : Option Bool).bind fun t21 =>
    bif t21 then
      some (.inr (.inr false))
    else
      (chk (n7 + 1)).bind fun z67 =>
      some (.inl z67)
  else
    some (.inr (.inl ()))

noncomputable def m_spec_l05Ok (l1 : Lexicon) : Option Bool :=
  (
      (loopM (fun s : Int => m_spec_l05Ok_l1 l1 s) 0).bind fun x10 =>
      match x10 with
      | .inl _ =>
        some (.inl ())
      | .inr r73 =>
        some (.inr r73) : Option (Unit ⊕ Bool)).bind fun x5 =>
  match x5 with
  | .inl _ =>
    some (decide ((l1.Words.length : Int) ≤ 200))
  | .inr r81 =>
    some r81

noncomputable def m_spec_l05First_l1 (list1 : (List Str)) (s5 : Str) (n11 : Int) : Option (Int ⊕ Int) :=
  (
      bif decide (n11 < (list1.length : Int)) then
        (getL list1 n11).bind fun e27 =>
        some (ltS e27 s5)
      else
        some false : Option Bool).bind fun t21 =>
  bif t21 then
    (chk (n11 + 1)).bind fun z40 =>
    some (.inl z40)
  else
    some (.inr n11)

noncomputable def m_spec_l05First (list1 : (List Str)) (s5 : Str) : Option Int :=
  (
      (loopM (fun s : Int => m_spec_l05First_l1 list1 s5 s) 0).bind fun n14 =>
      some n14 : Option Int).bind fun n7 =>
  some n7

noncomputable def m_spec_l05Has (list1 : (List Str)) (s5 : Str) : Option Bool :=
  (m_spec_l05First list1 s5).bind fun y7 =>
  (
      bif decide (y7 < (list1.length : Int)) then
        (getL list1 y7).bind fun e19 =>
        some (e19 == s5)
      else
        some false : Option Bool).bind fun t13 =>
  some t13

noncomputable def m_spec_IsFilled_l1 (y36 : (List Slot)) (g1 : Grid) (l5 : Lexicon) (n45 : Int) : Option (Int ⊕ (Unit ⊕ Bool)) :=
  bif decide (n45 < (y36.length : Int)) then
    (getL y36 n45).bind fun e56 =>
    (m_spec_l25Pattern g1 e56).bind fun y67 =>
    (m_spec_l05Has l5.Words y67).bind fun y73 =>
    bif !y73 then
      some (.inr (.inr false))
    else
      (chk (n45 + 1)).bind fun z79 =>
      some (.inl z79)
  else
    some (.inr (.inl ()))

noncomputable def m_spec_IsFilled (g1 : Grid) (l5 : Lexicon) : Option Bool :=
  (
      (m_spec_l25Ok g1).bind fun y21 =>
      bif !y21 then
        some true
      else
        (m_spec_l05Ok l5).bind fun y28 =>
        some (!y28) : Option Bool).bind fun t17 =>
  bif t17 then
    some false
  else
    (m_spec_l25Slots g1).bind fun y36 =>
    (
        (loopM (fun s : Int => m_spec_IsFilled_l1 y36 g1 l5 s) 0).bind fun x48 =>
        match x48 with
        | .inl _ =>
          some (.inl ())
        | .inr r85 =>
          some (.inr r85) : Option (Unit ⊕ Bool)).bind fun x43 =>
    match x43 with
    | .inl _ =>
      some true
    | .inr r88 =>
      some r88

noncomputable def m_impl_increasing_l1 (list1 : (List Str)) (n7 : Int) : Option (Int ⊕ (Unit ⊕ Bool)) :=
  bif decide (n7 < (list1.length : Int)) then
    (chk (n7 - 1)).bind fun z18 =>
    (getL list1 z18).bind fun e20 =>
    (getL list1 n7).bind fun e29 =>
    bif !ltS e20 e29 then
      some (.inr (.inr false))
    else
      (chk (n7 + 1)).bind fun z39 =>
      some (.inl z39)
  else
    some (.inr (.inl ()))

noncomputable def m_impl_increasing (list1 : (List Str)) : Option Bool :=
  (
      (loopM (fun s : Int => m_impl_increasing_l1 list1 s) 1).bind fun x10 =>
      match x10 with
      | .inl _ =>
        some (.inl ())
      | .inr r45 =>
        some (.inr r45) : Option (Unit ⊕ Bool)).bind fun x5 =>
  match x5 with
  | .inl _ =>
    some true
  | .inr r48 =>
    some r48

noncomputable def m_impl_isLong (s1 : Str) : Option Bool :=
  (
      bif decide (2 ≤ (s1.length : Int)) then
        (m_impl_IsWord s1).bind fun y8 =>
        some y8
      else
        some false : Option Bool).bind fun t3 =>
  some t3

noncomputable def m_impl_ValidLexicon_l1 (l1 : Lexicon) (n27 : Int) : Option (Int ⊕ (Unit ⊕ Bool)) :=
  bif decide (n27 < (l1.Words.length : Int)) then
    (getL l1.Words n27).bind fun e36 =>
    (m_impl_isLong e36).bind fun y45 =>
    bif !y45 then
      some (.inr (.inr false))
    else
      (chk (n27 + 1)).bind fun z51 =>
      some (.inl z51)
  else
    some (.inr (.inl ()))

noncomputable def m_impl_ValidLexicon (l1 : Lexicon) : Option Bool :=
  (
      bif decide (200 < (l1.Words.length : Int)) then
        some true
      else
        (m_impl_increasing l1.Words).bind fun y16 =>
        some (!y16) : Option Bool).bind fun t9 =>
  bif t9 then
    some false
  else
    (
        (loopM (fun s : Int => m_impl_ValidLexicon_l1 l1 s) 0).bind fun x30 =>
        match x30 with
        | .inl _ =>
          some (.inl ())
        | .inr r57 =>
          some (.inr r57) : Option (Unit ⊕ Bool)).bind fun x24 =>
    match x24 with
    | .inl _ =>
      some true
    | .inr r60 =>
      some r60

noncomputable def m_cmp_isNaN_string (x1 : Str) : Option Bool :=
  some (x1 != x1)

noncomputable def m_cmp_Less_string (x1 : Str) (y3 : Str) : Option Bool :=
  (
      (m_cmp_isNaN_string x1).bind fun y9 =>
      bif y9 then
        (m_cmp_isNaN_string y3).bind fun y15 =>
        bif !y15 then
          some true
        else
          some (ltS x1 y3)
      else
        some (ltS x1 y3) : Option Bool).bind fun t5 =>
  some t5

noncomputable def m_slices_isNaN_string (x1 : Str) : Option Bool :=
  some (x1 != x1)

noncomputable def m_slices_BinarySearch_string_string_l1 (x1 : (List Str)) (target5 : Str) (h12 : Int) (n14 : Int) : Option ((Int × Int) ⊕ Int) :=
  bif decide (h12 < n14) then
    (chk (h12 + n14)).bind fun z25 =>
    (chk ((z25 % 18446744073709551616) / 2)).bind fun z27 =>
    (getL x1 z27).bind fun e29 =>
    (m_cmp_Less_string e29 target5).bind fun y38 =>
    bif y38 then
      (chk (z27 + 1)).bind fun z44 =>
      some (.inl (z44, n14))
    else
      some (.inl (h12, z27))
  else
    some (.inr h12)

noncomputable def m_slices_BinarySearch_string_string (x1 : (List Str)) (target5 : Str) : Option (Int × Bool) :=
  (
      (loopM (fun s : Int × Int => m_slices_BinarySearch_string_string_l1 x1 target5 s.1 s.2) (0, (x1.length : Int))).bind fun h17 =>
      some h17 : Option Int).bind fun h8 =>
  (
      bif decide (h8 < (x1.length : Int)) then
        (getL x1 h8).bind fun e60 =>
        bif e60 == target5 then
          some (h8, true)
        else
          (getL x1 h8).bind fun e71 =>
          (m_slices_isNaN_string e71).bind fun y80 =>
          bif y80 then
            (m_slices_isNaN_string target5).bind fun y86 =>
            some (h8, y86)
          else
            some (h8, false)
      else
        some (h8, false) : Option (Int × Bool)).bind fun x57 =>
  match x57 with
  | (n53, i55) =>
    some (n53, i55)

noncomputable def m_impl_Lexicon_has (l1 : Lexicon) (word5 : Str) : Option Bool :=
  (m_slices_BinarySearch_string_string l1.Words word5).bind fun y11 =>
  some y11.2

noncomputable def m_impl_IsFilled_l1 (y38 : (List Slot)) (g1 : Grid) (l5 : Lexicon) (n46 : Int) : Option (Int ⊕ (Unit ⊕ Bool)) :=
  bif decide (n46 < (y38.length : Int)) then
    (getL y38 n46).bind fun e55 =>
    (m_impl_Grid_pattern g1 e55).bind fun y74 =>
    (m_impl_Lexicon_has l5 y74).bind fun y80 =>
    bif !y80 then
      some (.inr (.inr false))
    else
      (chk (n46 + 1)).bind fun z86 =>
      some (.inl z86)
  else
    some (.inr (.inl ()))

noncomputable def m_impl_IsFilled (g1 : Grid) (l5 : Lexicon) : Option Bool :=
  (
      (m_impl_ValidGrid g1).bind fun y21 =>
      bif !y21 then
        some true
      else
        (m_impl_ValidLexicon l5).bind fun y28 =>
        some (!y28) : Option Bool).bind fun t17 =>
  bif t17 then
    some false
  else
    (
        (m_impl_Grid_slots g1).bind fun y38 =>
        (loopM (fun s : Int => m_impl_IsFilled_l1 y38 g1 l5 s) 0).bind fun x49 =>
        match x49 with
        | .inl _ =>
          some (.inl ())
        | .inr r92 =>
          some (.inr r92) : Option (Unit ⊕ Bool)).bind fun x36 =>
    match x36 with
    | .inl _ =>
      some true
    | .inr r95 =>
      some r95

noncomputable def m_laws_eqStringS_l1 (a1 : (List Str)) (b5 : (List Str)) (n14 : Int) : Option (Int ⊕ (Unit ⊕ Bool)) :=
  bif decide (n14 < (a1.length : Int)) then
    (getL a1 n14).bind fun e25 =>
    (getL b5 n14).bind fun e34 =>
    bif e25 != e34 then
      some (.inr (.inr false))
    else
      (chk (n14 + 1)).bind fun z44 =>
      some (.inl z44)
  else
    some (.inr (.inl ()))

noncomputable def m_laws_eqStringS (a1 : (List Str)) (b5 : (List Str)) : Option Bool :=
  bif (a1.length : Int) != (b5.length : Int) then
    some false
  else
    (
        (loopM (fun s : Int => m_laws_eqStringS_l1 a1 b5 s) 0).bind fun x17 =>
        match x17 with
        | .inl _ =>
          some (.inl ())
        | .inr r50 =>
          some (.inr r50) : Option (Unit ⊕ Bool)).bind fun x12 =>
    match x12 with
    | .inl _ =>
      some true
    | .inr r53 =>
      some r53

noncomputable def m_laws_eqLexicon (a1 : Lexicon) (b5 : Lexicon) : Option Bool :=
  (m_laws_eqStringS a1.Words b5.Words).bind fun y17 =>
  bif !y17 then
    some false
  else
    some true

noncomputable def m_laws_FnExactIsFilled (aG1 : Grid) (aL5 : Lexicon) : Option Bool :=
  (m_laws_szGrid aG1 1048576).bind fun y17 =>
  bif decide (y17 < 0) then
    some true
  else
    (m_laws_szLexicon aL5 y17).bind fun y24 =>
    bif decide (y24 < 0) then
      some true
    else
      (m_laws_toGrid aG1).bind fun y32 =>
      (m_laws_toLexicon aL5).bind fun y40 =>
      (m_spec_IsFilled y32 y40).bind fun y47 =>
      (m_laws_toLexicon aL5).bind fun y52 =>
      (m_laws_toGrid aG1).bind fun y67 =>
      (m_impl_IsFilled y67 y52).bind fun y75 =>
      bif y75 != y47 then
        some false
      else
        (m_laws_toLexicon aL5).bind fun y82 =>
        (m_laws_eqLexicon y52 y82).bind fun y89 =>
        bif !y89 then
          some false
        else
          some true

noncomputable def m_spec_l25Words_l1 (words5 : (List Str)) (y13 : Str) (xs27 : (List Str)) (n30 : Int) : Option (((List Str) × Int) ⊕ (List Str)) :=
  bif decide (n30 < (words5.length : Int)) then
    (
        (getL words5 n30).bind fun e48 =>
        (m_spec_l25Fits y13 e48).bind fun y57 =>
        bif y57 then
          (getL words5 n30).bind fun e63 =>
          (catL xs27 ([e63] : (List Str))).bind fun xs75 =>
          some xs75
        else
          some xs27 : Option (List Str)).bind fun xs43 =>
    (chk (n30 + 1)).bind fun z85 =>
    some (.inl (xs43, z85))
  else
    some (.inr xs27)

noncomputable def m_spec_l25Words (g1 : Grid) (words5 : (List Str)) (s9 : Slot) : Option (List Str) :=
  (m_spec_l25Pattern g1 s9).bind fun y13 =>
  (
      (loopM (fun s : (List Str) × Int => m_spec_l25Words_l1 words5 y13 s.1 s.2) (([] : (List Str)), 0)).bind fun xs33 =>
      some xs33 : Option (List Str)).bind fun xs22 =>
  some xs22

noncomputable def m_spec_CandidatesOf (g1 : Grid) (l5 : Lexicon) (slot9 : Int) : Option ((List Str) × Int) :=
  (m_spec_l05Ok l5).bind fun y19 =>
  bif !y19 then
    some (([] : (List Str)), 1)
  else
    (m_spec_l25Code g1 slot9).bind fun y25 =>
    bif y25 != 0 then
      some (([] : (List Str)), y25)
    else
      (m_spec_l25Slots g1).bind fun y32 =>
      (getL y32 slot9).bind fun e40 =>
      (m_spec_l25Words g1 l5.Words e40).bind fun y51 =>
      some (y51, 0)

noncomputable def m_impl_Grid_candidates_1 (word1 : Str) (p3 : Str) : Option Bool :=
  (m_impl_fitsPattern p3 word1).bind fun y9 =>
  some y9

noncomputable def m_impl_selected_string_l1 (list1 : (List Str)) (is5 : (Str → Option Bool)) (xs18 : (List Str)) (n21 : Int) : Option (((List Str) × Int) ⊕ (List Str)) :=
  bif decide (n21 < (list1.length : Int)) then
    (
        (getL list1 n21).bind fun e38 =>
        (is5 e38).bind fun y47 =>
        bif y47 then
          (catL xs18 ([e38] : (List Str))).bind fun xs56 =>
          some xs56
        else
          some xs18 : Option (List Str)).bind fun xs33 =>
    (chk (n21 + 1)).bind fun z66 =>
    some (.inl (xs33, z66))
  else
    some (.inr xs18)

noncomputable def m_impl_selected_string (list1 : (List Str)) (is5 : (Str → Option Bool)) : Option (List Str) :=
  (
      (loopM (fun s : (List Str) × Int => m_impl_selected_string_l1 list1 is5 s.1 s.2) (([] : (List Str)), 0)).bind fun xs24 =>
      some xs24 : Option (List Str)).bind fun xs12 =>
  some xs12

noncomputable def m_impl_Grid_candidates (g1 : Grid) (l5 : Lexicon) (s9 : Slot) : Option (List Str) :=
  (m_impl_Grid_pattern g1 s9).bind fun y25 =>
  (m_impl_selected_string l5.Words (fun u38 => m_impl_Grid_candidates_1 u38 y25)).bind fun y40 =>
  some y40

noncomputable def m_impl_CandidatesOf (g1 : Grid) (l5 : Lexicon) (slot9 : Int) : Option ((List Str) × Int) :=
  (
      (m_impl_ValidGrid g1).bind fun y23 =>
      bif !y23 then
        some true
      else
        (m_impl_ValidLexicon l5).bind fun y30 =>
        some (!y30) : Option Bool).bind fun t19 =>
  bif t19 then
    some (([] : (List Str)), 1)
  else
    (m_impl_Grid_slotAt g1 slot9).bind fun y38 =>
    bif !y38.2 then
      some (([] : (List Str)), 2)
    else
      (m_impl_Grid_candidates g1 l5 y38.1).bind fun y54 =>
      some (y54, 0)

noncomputable def m_laws_markText_l1 (k8 : Int) (s10 : Str) : Option ((Int × Str) ⊕ Str) :=
  bif decide (0 < k8) then
    (remI k8 10).bind fun z21 =>
    (chk (48 + z21)).bind fun z23 =>
    (catL ([UInt8.ofNat (z23 % 256).toNat] : Str) s10).bind fun s29 =>
    (quoI k8 10).bind fun z31 =>
    some (.inl (z31, s29))
  else
    some (.inr s10)

noncomputable def m_laws_markText (k1 : Int) : Option Str :=
  bif decide (k1 ≤ 0) then
    some ([109, 48] : Str)
  else
    (
        (loopM (fun s : Int × Str => m_laws_markText_l1 s.1 s.2) (k1, ([] : Str))).bind fun s13 =>
        some s13 : Option Str).bind fun s4 =>
    (catL ([109] : Str) s4).bind fun s39 =>
    some s39

noncomputable def m_laws_markStringS_l1 (xs12 : (List Str)) (k14 : Int) (n16 : Int) : Option (((List Str) × Int × Int) ⊕ ((List Str) × Int)) :=
  bif decide (n16 < (xs12.length : Int)) then
    (m_laws_markText k14).bind fun y30 =>
    (getL xs12 n16).bind fun e36 =>
    (setL xs12 n16 y30).bind fun xs46 =>
    (chk (k14 + 1)).bind fun z48 =>
    (chk (n16 + 1)).bind fun z50 =>
    some (.inl (xs46, z48, z50))
  else
    some (.inr (xs12, k14))

noncomputable def m_laws_markStringS (a1 : (List Str)) (k4 : Int) : Option (Int × (List Str)) :=
  (
      (loopM (fun s : (List Str) × Int × Int => m_laws_markStringS_l1 s.1 s.2.1 s.2.2) (a1, k4, 0)).bind fun x23 =>
      match x23 with
      | (xs19, k21) =>
        some (xs19, k21) : Option ((List Str) × Int)).bind fun x10 =>
  match x10 with
  | (xs6, k8) =>
    some (k8, xs6)

noncomputable def m_laws_markLexicon (a1 : Lexicon) (k4 : Int) : Option (Int × (List Str)) :=
  (m_laws_markStringS a1.Words k4).bind fun y10 =>
  some (y10.1, y10.2)

noncomputable def m_laws_heldStringS_l1 (a1 : (List Str)) (k11 : Int) (n13 : Int) : Option ((Int × Int) ⊕ (Int ⊕ Int)) :=
  bif decide (n13 < (a1.length : Int)) then
    (getL a1 n13).bind fun e26 =>
    (m_laws_markText k11).bind fun y35 =>
    bif e26 != y35 then
      some (.inr (.inr (-1)))
    else
      (chk (k11 + 1)).bind fun z42 =>
      (chk (n13 + 1)).bind fun z44 =>
      some (.inl (z42, z44))
  else
    some (.inr (.inl k11))

noncomputable def m_laws_heldStringS (a1 : (List Str)) (k5 : Int) : Option Int :=
  (
      (loopM (fun s : Int × Int => m_laws_heldStringS_l1 a1 s.1 s.2) (k5, 0)).bind fun x18 =>
      match x18 with
      | .inl k16 =>
        some (.inl k16)
      | .inr r50 =>
        some (.inr r50) : Option (Int ⊕ Int)).bind fun x9 =>
  match x9 with
  | .inl k7 =>
    some k7
  | .inr r53 =>
    some r53

noncomputable def m_laws_FnExactCandidatesOf (aG1 : Grid) (aL5 : Lexicon) (aSlot9 : Int) : Option Bool :=
  (m_laws_szGrid aG1 1048576).bind fun y19 =>
  bif decide (y19 < 0) then
    some true
  else
    (m_laws_szLexicon aL5 y19).bind fun y26 =>
    bif decide (y26 < 0) then
      some true
    else
      (m_laws_toGrid aG1).bind fun y34 =>
      (m_laws_toLexicon aL5).bind fun y42 =>
      (m_spec_CandidatesOf y34 y42 aSlot9).bind fun y49 =>
      (m_laws_toLexicon aL5).bind fun y57 =>
      (m_laws_toGrid aG1).bind fun y72 =>
      (m_impl_CandidatesOf y72 y57 aSlot9).bind fun y80 =>
      (
          (m_laws_eqStringS y80.1 y49.1).bind fun y92 =>
          bif !y92 then
            some true
          else
            some (y80.2 != y49.2) : Option Bool).bind fun t88 =>
      bif t88 then
        some false
      else
        (m_laws_toLexicon aL5).bind fun y103 =>
        (m_laws_eqLexicon y57 y103).bind fun y110 =>
        bif !y110 then
          some false
        else
          (m_laws_markLexicon y57 1).bind fun y116 =>
          (
              bif decide (y116.1 < 0) then
                some true
              else
                (m_laws_eqStringS y80.1 y49.1).bind fun y129 =>
                bif !y129 then
                  some true
                else
                  some (y80.2 != y49.2) : Option Bool).bind fun t123 =>
          bif t123 then
            some false
          else
            (m_laws_markStringS y80.1 1).bind fun y139 =>
            (m_laws_heldStringS y139.2 1).bind fun y146 =>
            bif decide (y146 < 0) then
              some false
            else
              bif y146 != y139.1 then
                some false
              else
                (m_laws_toGrid aG1).bind fun y155 =>
                (m_laws_toLexicon aL5).bind fun y163 =>
                (m_impl_CandidatesOf y155 y163 aSlot9).bind fun y170 =>
                (
                    (m_laws_eqStringS y170.1 y49.1).bind fun y182 =>
                    bif !y182 then
                      some true
                    else
                      some (y170.2 != y49.2) : Option Bool).bind fun t178 =>
                bif t178 then
                  some false
                else
                  (m_laws_heldStringS y139.2 1).bind fun y192 =>
                  bif decide (y192 < 0) then
                    some false
                  else
                    bif y192 != y139.1 then
                      some false
                    else
                      some true

noncomputable def m_spec_l25Search_dead_l1 (s1 : l25Search) (g5 : Grid) (n11 : Int) : Option (Int ⊕ (Unit ⊕ Int)) :=
  bif decide (n11 < (s1.slots.length : Int)) then
    (getL s1.slots n11).bind fun e33 =>
    (m_spec_l25Words g5 s1.words e33).bind fun y44 =>
    bif (y44.length : Int) == 0 then
      some (.inr (.inr n11))
    else
      (chk (n11 + 1)).bind fun z53 =>
      some (.inl z53)
  else
    some (.inr (.inl ()))

noncomputable def m_spec_l25Search_dead (s1 : l25Search) (g5 : Grid) : Option Int :=
  (
      (loopM (fun s : Int => m_spec_l25Search_dead_l1 s1 g5 s) 0).bind fun x14 =>
      match x14 with
      | .inl _ =>
        some (.inl ())
      | .inr r59 =>
        some (.inr r59) : Option (Unit ⊕ Int)).bind fun x9 =>
  match x9 with
  | .inl _ =>
    some (-1)
  | .inr r62 =>
    some r62

noncomputable def m_spec_l25Free_l1 (pattern1 : Str) (n5 : Int) : Option (Int ⊕ (Unit ⊕ Bool)) :=
  bif decide (n5 < (pattern1.length : Int)) then
    (getL pattern1 n5).bind fun c14 =>
    bif c14 == 46 then
      some (.inr (.inr true))
    else
      (chk (n5 + 1)).bind fun z17 =>
      some (.inl z17)
  else
    some (.inr (.inl ()))

noncomputable def m_spec_l25Free (pattern1 : Str) : Option Bool :=
  (
      (loopM (fun s : Int => m_spec_l25Free_l1 pattern1 s) 0).bind fun x8 =>
      match x8 with
      | .inl _ =>
        some (.inl ())
      | .inr r23 =>
        some (.inr r23) : Option (Unit ⊕ Bool)).bind fun x3 =>
  match x3 with
  | .inl _ =>
    some false
  | .inr r26 =>
    some r26

noncomputable def m_spec_l25Search_open_l1 (s1 : l25Search) (g5 : Grid) (n11 : Int) : Option (Int ⊕ (Unit ⊕ Int)) :=
  bif decide (n11 < (s1.slots.length : Int)) then
    (getL s1.slots n11).bind fun e32 =>
    (m_spec_l25Pattern g5 e32).bind fun y43 =>
    (m_spec_l25Free y43).bind fun y49 =>
    bif y49 then
      some (.inr (.inr n11))
    else
      (chk (n11 + 1)).bind fun z55 =>
      some (.inl z55)
  else
    some (.inr (.inl ()))

noncomputable def m_spec_l25Search_open (s1 : l25Search) (g5 : Grid) : Option Int :=
  (
      (loopM (fun s : Int => m_spec_l25Search_open_l1 s1 g5 s) 0).bind fun x14 =>
      match x14 with
      | .inl _ =>
        some (.inl ())
      | .inr r61 =>
        some (.inr r61) : Option (Unit ⊕ Int)).bind fun x9 =>
  match x9 with
  | .inl _ =>
    some (-1)
  | .inr r64 =>
    some r64

noncomputable def m_spec_l25Search_run_l1 (y60 : (List Str)) (y23 : Int) (g12 : Grid) (rc : l25Search → Grid → Option l25Search) (l67 : (List Str)) (l70 : (List Slot)) (n73 : Int) (xs75 : (List Grid)) (n78 : Int) : Option (((List Str) × (List Slot) × Int × (List Grid) × Int) ⊕ ((List Str) × (List Slot) × Int × (List Grid))) :=
  (
      bif decide (n78 < (y60.length : Int)) then
        some (decide ((xs75.length : Int) < n73))
      else
        some false : Option Bool).bind fun t97 =>
  bif t97 then
    (getL l70 y23).bind fun e110 =>
    (getL y60 n78).bind fun e121 =>
    (m_spec_l25Put g12 e110 e121).bind fun y130 =>
    (rc (⟨l67, l70, n73, xs75⟩ : l25Search) y130).bind fun y155 =>
    (chk (n78 + 1)).bind fun z169 =>
    some (.inl (y155.words, y155.slots, y155.most, y155.out, z169))
  else
    some (.inr (l67, l70, n73, xs75))

noncomputable def m_spec_l25Search_run_b (rc : l25Search → Grid → Option l25Search) (s1 : l25Search) (g12 : Grid) : Option l25Search :=
  (m_spec_l25Search_dead s1 g12).bind fun y16 =>
  bif decide (0 ≤ y16) then
    some s1
  else
    (m_spec_l25Search_open s1 g12).bind fun y23 =>
    bif decide (y23 < 0) then
      (catL s1.out ([g12] : (List Grid))).bind fun xs38 =>
      some (⟨s1.words, s1.slots, s1.most, xs38⟩ : l25Search)
    else
      (getL s1.slots y23).bind fun e49 =>
      (m_spec_l25Words g12 s1.words e49).bind fun y60 =>
      (loopM (fun s : (List Str) × (List Slot) × Int × (List Grid) × Int => m_spec_l25Search_run_l1 y60 y23 g12 rc s.1 s.2.1 s.2.2.1 s.2.2.2.1 s.2.2.2.2) (s1.words, s1.slots, s1.most, s1.out, 0)).bind fun x92 =>
      match x92 with
      | (l81, l84, n87, xs89) =>
        some (⟨l81, l84, n87, xs89⟩ : l25Search)

noncomputable def m_spec_l25Search_run_n : Nat → l25Search → Grid → Option l25Search
  | 0 => fun _ _ => none
  | n + 1 => m_spec_l25Search_run_b (m_spec_l25Search_run_n n)

noncomputable def m_spec_l25Search_run : l25Search → Grid → Option l25Search := m_spec_l25Search_run_n fuelN

noncomputable def m_spec_l25Fill (g1 : Grid) (words5 : (List Str)) (most9 : Int) : Option (List Grid) :=
  (m_spec_l25Slots g1).bind fun y11 =>
  (m_spec_l25Search_run (⟨words5, y11, most9, ([] : (List Grid))⟩ : l25Search) g1).bind fun y22 =>
  some y22.out

noncomputable def m_spec_CountFillings (g1 : Grid) (l5 : Lexicon) : Option (Int × Int) :=
  (
      (m_spec_l25Ok g1).bind fun y21 =>
      bif !y21 then
        some true
      else
        (m_spec_l05Ok l5).bind fun y28 =>
        some (!y28) : Option Bool).bind fun t17 =>
  bif t17 then
    some (0, 1)
  else
    (m_spec_l25Fill g1 l5.Words 501).bind fun y36 =>
    bif decide (500 < (y36.length : Int)) then
      some (0, 5)
    else
      some ((y36.length : Int), 0)

noncomputable def m_impl_Grid_possible_1 (word1 : Str) (p3 : Str) : Option Bool :=
  (m_impl_fitsPattern p3 word1).bind fun y9 =>
  some y9

noncomputable def m_slices_IndexFunc_string_string_l1 (s1 : (List Str)) (f5 : (Str → Option Bool)) (n12 : Int) : Option (Int ⊕ (Unit ⊕ Int)) :=
  bif decide (n12 < (s1.length : Int)) then
    (getL s1 n12).bind fun e21 =>
    (f5 e21).bind fun y30 =>
    bif y30 then
      some (.inr (.inr n12))
    else
      (chk (n12 + 1)).bind fun z36 =>
      some (.inl z36)
  else
    some (.inr (.inl ()))

noncomputable def m_slices_IndexFunc_string_string (s1 : (List Str)) (f5 : (Str → Option Bool)) : Option Int :=
  (
      (loopM (fun s : Int => m_slices_IndexFunc_string_string_l1 s1 f5 s) 0).bind fun x15 =>
      match x15 with
      | .inl _ =>
        some (.inl ())
      | .inr r42 =>
        some (.inr r42) : Option (Unit ⊕ Int)).bind fun x9 =>
  match x9 with
  | .inl _ =>
    some (-1)
  | .inr r45 =>
    some r45

noncomputable def m_slices_ContainsFunc_string_string (s1 : (List Str)) (f5 : (Str → Option Bool)) : Option Bool :=
  (m_slices_IndexFunc_string_string s1 f5).bind fun y9 =>
  some (decide (0 ≤ y9))

noncomputable def m_impl_Grid_possible_l1 (slots9 : (List Slot)) (g1 : Grid) (l5 : Lexicon) (n24 : Int) : Option (Int ⊕ (Unit ⊕ Bool)) :=
  bif decide (n24 < (slots9.length : Int)) then
    (getL slots9 n24).bind fun e33 =>
    (m_impl_Grid_pattern g1 e33).bind fun y51 =>
    (m_slices_ContainsFunc_string_string l5.Words (fun u64 => m_impl_Grid_possible_1 u64 y51)).bind fun y66 =>
    bif !y66 then
      some (.inr (.inr false))
    else
      (chk (n24 + 1)).bind fun z72 =>
      some (.inl z72)
  else
    some (.inr (.inl ()))

noncomputable def m_impl_Grid_possible (g1 : Grid) (l5 : Lexicon) (slots9 : (List Slot)) : Option Bool :=
  (
      (loopM (fun s : Int => m_impl_Grid_possible_l1 slots9 g1 l5 s) 0).bind fun x27 =>
      match x27 with
      | .inl _ =>
        some (.inl ())
      | .inr r78 =>
        some (.inr r78) : Option (Unit ⊕ Bool)).bind fun x21 =>
  match x21 with
  | .inl _ =>
    some true
  | .inr r81 =>
    some r81

noncomputable def m_impl_Grid_fillings_1_1_l1 {σ : Type} (y58 : (List Str)) (p7 : (List Slot)) (k5 : Int) (g1 : Grid) (p14 : Lexicon) (rc : Grid → Int → (List Slot) → Lexicon → (Grid → σ → Option (Bool × σ)) → σ → Option (Bool × σ)) (yv : (Grid → σ → Option (Bool × σ))) (sg66 : σ) (n67 : Int) : Option ((σ × Int) ⊕ (σ ⊕ (Bool × σ))) :=
  bif decide (n67 < (y58.length : Int)) then
    (getL y58 n67).bind fun e77 =>
    (getL p7 k5).bind fun e87 =>
    (m_impl_Grid_put g1 e87 e77).bind fun y98 =>
    (
        (m_impl_Grid_possible y98 p14 p7).bind fun y128 =>
        bif y128 then
          (chk (k5 + 1)).bind fun z134 =>
          (rc y98 z134 p7 p14 yv sg66).bind fun y136 =>
          some (y136.2, !y136.1)
        else
          some (sg66, false) : Option (σ × Bool)).bind fun x126 =>
    match x126 with
    | (sg123, t124) =>
      bif t124 then
        some (.inr (.inr (false, sg123)))
      else
        (chk (n67 + 1)).bind fun z145 =>
        some (.inl (sg123, z145))
  else
    some (.inr (.inl sg66))

noncomputable def m_impl_Grid_fillings_1_1_b {σ : Type} (rc : Grid → Int → (List Slot) → Lexicon → (Grid → σ → Option (Bool × σ)) → σ → Option (Bool × σ)) (g1 : Grid) (k5 : Int) (p7 : (List Slot)) (p14 : Lexicon) (yv : (Grid → σ → Option (Bool × σ))) (sg_ : σ) : Option (Bool × σ) :=
  bif k5 == (p7.length : Int) then
    (yv g1 sg_).bind fun y35 =>
    some (y35.1, y35.2)
  else
    (
        (getL p7 k5).bind fun e47 =>
        (m_impl_Grid_candidates g1 p14 e47).bind fun y58 =>
        (loopM (fun s : σ × Int => m_impl_Grid_fillings_1_1_l1 y58 p7 k5 g1 p14 rc yv s.1 s.2) (sg_, 0)).bind fun x71 =>
        match x71 with
        | .inl sg70 =>
          some (.inl sg70)
        | .inr r189 =>
          some (.inr r189) : Option (σ ⊕ (Bool × σ))).bind fun x40 =>
    match x40 with
    | .inl sg39 =>
      some (true, sg39)
    | .inr r192 =>
      some r192

noncomputable def m_impl_Grid_fillings_1_1_n {σ : Type} : Nat → Grid → Int → (List Slot) → Lexicon → (Grid → σ → Option (Bool × σ)) → σ → Option (Bool × σ)
  | 0 => fun _ _ _ _ _ _ => none
  | n + 1 => m_impl_Grid_fillings_1_1_b (m_impl_Grid_fillings_1_1_n n)

noncomputable def m_impl_Grid_fillings_1_1 {σ : Type} : Grid → Int → (List Slot) → Lexicon → (Grid → σ → Option (Bool × σ)) → σ → Option (Bool × σ) := m_impl_Grid_fillings_1_1_n fuelN

noncomputable def m_impl_Grid_fillings_1 {σ : Type} (p2 : (List Slot)) (p6 : Lexicon) (p10 : Grid) (yv : (Grid → σ → Option (Bool × σ))) (sg_ : σ) : Option σ :=
  (m_impl_Grid_fillings_1_1 p10 0 p2 p6 yv sg_).bind fun y31 =>
  some y31.2

def yvCount (x : Grid) (s : Int × Bool) : Option (Bool × Int × Bool) :=
  bif s.2 then none else (chk (s.1 + 1)).bind fun z => some (bif decide (500 < z) then (false, z, true) else (true, z, false))
noncomputable def m_impl_CountFillings (g : Grid) (l : Lexicon) : Option (Int × Int) :=
  (m_impl_ValidGrid g).bind fun y1 =>
  bif !y1 then some (0, 1) else
  (m_impl_ValidLexicon l).bind fun y2 =>
  bif !y2 then some (0, 1) else
  (m_impl_Grid_slots g).bind fun sl =>
  (m_impl_Grid_fillings_1 sl l g yvCount (0, false)).bind fun s =>
  bif s.2 then some (0, 5) else (chk s.1).bind fun z => some (z, 0)

noncomputable def m_laws_FnExactCountFillings (aG1 : Grid) (aL5 : Lexicon) : Option Bool :=
  (m_laws_szGrid aG1 1048576).bind fun y17 =>
  bif decide (y17 < 0) then
    some true
  else
    (m_laws_szLexicon aL5 y17).bind fun y24 =>
    bif decide (y24 < 0) then
      some true
    else
      (m_laws_toGrid aG1).bind fun y32 =>
      (m_laws_toLexicon aL5).bind fun y40 =>
      (m_spec_CountFillings y32 y40).bind fun y47 =>
      (m_laws_toLexicon aL5).bind fun y54 =>
      (m_laws_toGrid aG1).bind fun y69 =>
      (m_impl_CountFillings y69 y54).bind fun y77 =>
      (
          bif y77.1 != y47.1 then
            some true
          else
            some (y77.2 != y47.2) : Option Bool).bind fun t84 =>
      bif t84 then
        some false
      else
        (m_laws_toLexicon aL5).bind fun y94 =>
        (m_laws_eqLexicon y54 y94).bind fun y101 =>
        bif !y101 then
          some false
        else
          some true

noncomputable def m_spec_FillGrid (g1 : Grid) (l5 : Lexicon) : Option (Grid × Int) :=
  (
      (m_spec_l25Ok g1).bind fun y25 =>
      bif !y25 then
        some true
      else
        (m_spec_l05Ok l5).bind fun y32 =>
        some (!y32) : Option Bool).bind fun t21 =>
  bif t21 then
    some ((⟨0, 0, ([] : Str)⟩ : Grid), 1)
  else
    (m_spec_l25Fill g1 l5.Words 1).bind fun y44 =>
    bif (y44.length : Int) == 0 then
      some ((⟨0, 0, ([] : Str)⟩ : Grid), 3)
    else
      (getL y44 0).bind fun e57 =>
      some (e57, 0)

def yvFirst (x : Grid) (s : Option Grid) : Option (Bool × Option Grid) := match s with
  | none => some (false, some x)
  | some _ => none
noncomputable def m_impl_Grid_first (g : Grid) (l : Lexicon) : Option (Grid × Bool) :=
  (m_impl_Grid_slots g).bind fun sl =>
  (m_impl_Grid_fillings_1 sl l g yvFirst none).bind fun s =>
  match s with
  | none => some ((⟨0, 0, []⟩ : Grid), false)
  | some x => bif r64 x.Rows && r64 x.Cols && decide (x.Cells.length ≤ lim) then some (x, true) else none

noncomputable def m_impl_FillGrid (g1 : Grid) (l5 : Lexicon) : Option (Grid × Int) :=
  (
      (m_impl_ValidGrid g1).bind fun y25 =>
      bif !y25 then
        some true
      else
        (m_impl_ValidLexicon l5).bind fun y32 =>
        some (!y32) : Option Bool).bind fun t21 =>
  bif t21 then
    some ((⟨0, 0, ([] : Str)⟩ : Grid), 1)
  else
    (m_impl_Grid_first g1 l5).bind fun y44 =>
    bif !y44.2 then
      some ((⟨0, 0, ([] : Str)⟩ : Grid), 3)
    else
      some (y44.1, 0)

noncomputable def m_laws_FnExactFillGrid (aG1 : Grid) (aL5 : Lexicon) : Option Bool :=
  (m_laws_szGrid aG1 1048576).bind fun y17 =>
  bif decide (y17 < 0) then
    some true
  else
    (m_laws_szLexicon aL5 y17).bind fun y24 =>
    bif decide (y24 < 0) then
      some true
    else
      (m_laws_toGrid aG1).bind fun y32 =>
      (m_laws_toLexicon aL5).bind fun y50 =>
      (m_spec_FillGrid y32 y50).bind fun y62 =>
      (m_laws_toLexicon aL5).bind fun y85 =>
      (m_laws_toGrid aG1).bind fun y100 =>
      (m_impl_FillGrid y100 y85).bind fun y118 =>
      (
          (m_laws_eqGrid y118.1 y62.1).bind fun y145 =>
          bif !y145 then
            some true
          else
            some (y118.2 != y62.2) : Option Bool).bind fun t141 =>
      bif t141 then
        some false
      else
        (m_laws_toLexicon aL5).bind fun y156 =>
        (m_laws_eqLexicon y85 y156).bind fun y163 =>
        bif !y163 then
          some false
        else
          some true

noncomputable def m_spec_l25Proof_l1 (y77 : (List Str)) (s4 : l25Search) (y38 : Int) (g8 : Grid) (rc : (List Int) → l25Search → Grid → Option ((List Int) × (List Int))) (xs89 : (List Int)) (n92 : Int) : Option (((List Int) × Int) ⊕ (List Int)) :=
  bif decide (n92 < (y77.length : Int)) then
    (getL s4.slots y38).bind fun e106 =>
    (getL y77 n92).bind fun e117 =>
    (m_spec_l25Put g8 e106 e117).bind fun y126 =>
    (rc xs89 s4 y126).bind fun y151 =>
    (chk (n92 + 1)).bind fun z158 =>
    some (.inl (y151.2, z158))
  else
    some (.inr xs89)

noncomputable def m_spec_l25Proof_b (rc : (List Int) → l25Search → Grid → Option ((List Int) × (List Int))) (out1 : (List Int)) (s4 : l25Search) (g8 : Grid) : Option ((List Int) × (List Int)) :=
  (m_spec_l25Search_dead s4 g8).bind fun y12 =>
  (
      bif decide (0 ≤ y12) then
        some true
      else
        some (decide (5000 < (out1.length : Int))) : Option Bool).bind fun t18 =>
  bif t18 then
    (catL out1 ([y12] : (List Int))).bind fun xs31 =>
    some (xs31, xs31)
  else
    (m_spec_l25Search_open s4 g8).bind fun y38 =>
    (catL out1 ([y38] : (List Int))).bind fun xs47 =>
    (getL s4.slots y38).bind fun e66 =>
    (m_spec_l25Words g8 s4.words e66).bind fun y77 =>
    (
        (loopM (fun s : (List Int) × Int => m_spec_l25Proof_l1 y77 s4 y38 g8 rc s.1 s.2) (xs47, 0)).bind fun xs95 =>
        some xs95 : Option (List Int)).bind fun xs84 =>
    some (xs84, xs84)

noncomputable def m_spec_l25Proof_n : Nat → (List Int) → l25Search → Grid → Option ((List Int) × (List Int))
  | 0 => fun _ _ _ => none
  | n + 1 => m_spec_l25Proof_b (m_spec_l25Proof_n n)

noncomputable def m_spec_l25Proof : (List Int) → l25Search → Grid → Option ((List Int) × (List Int)) := m_spec_l25Proof_n fuelN

noncomputable def m_spec_ProveNoFill (g1 : Grid) (l5 : Lexicon) : Option ((List Int) × Int) :=
  (
      (m_spec_l25Ok g1).bind fun y21 =>
      bif !y21 then
        some true
      else
        (m_spec_l05Ok l5).bind fun y28 =>
        some (!y28) : Option Bool).bind fun t17 =>
  bif t17 then
    some (([] : (List Int)), 1)
  else
    (m_spec_l25Fill g1 l5.Words 1).bind fun y36 =>
    bif decide (0 < (y36.length : Int)) then
      some (([] : (List Int)), 6)
    else
      (m_spec_l25Slots g1).bind fun y49 =>
      (m_spec_l25Proof ([] : (List Int)) (⟨l5.Words, y49, 0, ([] : (List Grid))⟩ : l25Search) g1).bind fun y68 =>
      bif decide (5000 < (y68.2.length : Int)) then
        some (([] : (List Int)), 5)
      else
        some (y68.2, 0)

noncomputable def m_impl_Grid_nextSlot_1 (s1 : Slot) (p5 : Grid) : Option Bool :=
  (m_impl_Grid_pattern p5 s1).bind fun y17 =>
  (m_strings_Contains y17 ([46] : Str)).bind fun y23 =>
  some y23

noncomputable def m_slices_IndexFunc_impl_Slot_impl_Slot_l1 (s1 : (List Slot)) (f5 : (Slot → Option Bool)) (n12 : Int) : Option (Int ⊕ (Unit ⊕ Int)) :=
  bif decide (n12 < (s1.length : Int)) then
    (getL s1 n12).bind fun e21 =>
    (f5 e21).bind fun y32 =>
    bif y32 then
      some (.inr (.inr n12))
    else
      (chk (n12 + 1)).bind fun z38 =>
      some (.inl z38)
  else
    some (.inr (.inl ()))

noncomputable def m_slices_IndexFunc_impl_Slot_impl_Slot (s1 : (List Slot)) (f5 : (Slot → Option Bool)) : Option Int :=
  (
      (loopM (fun s : Int => m_slices_IndexFunc_impl_Slot_impl_Slot_l1 s1 f5 s) 0).bind fun x15 =>
      match x15 with
      | .inl _ =>
        some (.inl ())
      | .inr r44 =>
        some (.inr r44) : Option (Unit ⊕ Int)).bind fun x9 =>
  match x9 with
  | .inl _ =>
    some (-1)
  | .inr r47 =>
    some r47

noncomputable def m_impl_Grid_nextSlot_l1 (slots9 : (List Slot)) (g1 : Grid) (l5 : Lexicon) (n24 : Int) : Option (Int ⊕ (Unit ⊕ Int)) :=
  bif decide (n24 < (slots9.length : Int)) then
    (getL slots9 n24).bind fun e33 =>
    (m_impl_Grid_candidates g1 l5 e33).bind fun y51 =>
    bif (y51.length : Int) == 0 then
      some (.inr (.inr n24))
    else
      (chk (n24 + 1)).bind fun z60 =>
      some (.inl z60)
  else
    some (.inr (.inl ()))

noncomputable def m_impl_Grid_nextSlot (g1 : Grid) (l5 : Lexicon) (slots9 : (List Slot)) : Option Int :=
  (
      (loopM (fun s : Int => m_impl_Grid_nextSlot_l1 slots9 g1 l5 s) 0).bind fun x27 =>
      match x27 with
      | .inl _ =>
        some (.inl ())
      | .inr r66 =>
        some (.inr r66) : Option (Unit ⊕ Int)).bind fun x21 =>
  match x21 with
  | .inl _ =>
    (m_slices_IndexFunc_impl_Slot_impl_Slot slots9 (fun u69 => m_impl_Grid_nextSlot_1 u69 g1)).bind fun y73 =>
    some y73
  | .inr r79 =>
    some r79

noncomputable def m_impl_Grid_prove_l1 (y63 : (List Str)) (slots9 : (List Slot)) (y27 : Int) (g1 : Grid) (rc : Grid → Lexicon → (List Slot) → (List Int) → Option (Bool × (List Int))) (l5 : Lexicon) (xs71 : (List Int)) (n74 : Int) : Option (((List Int) × Int) ⊕ ((List Int) ⊕ (Bool × (List Int)))) :=
  bif decide (n74 < (y63.length : Int)) then
    (getL y63 n74).bind fun e86 =>
    (getL slots9 y27).bind fun e96 =>
    (m_impl_Grid_put g1 e96 e86).bind fun y107 =>
    (rc y107 l5 slots9 xs71).bind fun y115 =>
    bif !y115.1 then
      some (.inr (.inr (false, y115.2)))
    else
      (chk (n74 + 1)).bind fun z123 =>
      some (.inl (y115.2, z123))
  else
    some (.inr (.inl xs71))

noncomputable def m_impl_Grid_prove_b (rc : Grid → Lexicon → (List Slot) → (List Int) → Option (Bool × (List Int))) (g1 : Grid) (l5 : Lexicon) (slots9 : (List Slot)) (proof13 : (List Int)) : Option (Bool × (List Int)) :=
  bif (proof13.length : Int) == 5000 then
    some (false, proof13)
  else
    (m_impl_Grid_nextSlot g1 l5 slots9).bind fun y27 =>
    (catL proof13 ([y27] : (List Int))).bind fun xs36 =>
    (
        (getL slots9 y27).bind fun e52 =>
        (m_impl_Grid_candidates g1 l5 e52).bind fun y63 =>
        (loopM (fun s : (List Int) × Int => m_impl_Grid_prove_l1 y63 slots9 y27 g1 rc l5 s.1 s.2) (xs36, 0)).bind fun x80 =>
        match x80 with
        | .inl xs77 =>
          some (.inl xs77)
        | .inr r129 =>
          some (.inr r129) : Option ((List Int) ⊕ (Bool × (List Int)))).bind fun x49 =>
    match x49 with
    | .inl xs46 =>
      some (true, xs46)
    | .inr r132 =>
      some r132

noncomputable def m_impl_Grid_prove_n : Nat → Grid → Lexicon → (List Slot) → (List Int) → Option (Bool × (List Int))
  | 0 => fun _ _ _ _ => none
  | n + 1 => m_impl_Grid_prove_b (m_impl_Grid_prove_n n)

noncomputable def m_impl_Grid_prove : Grid → Lexicon → (List Slot) → (List Int) → Option (Bool × (List Int)) := m_impl_Grid_prove_n fuelN

noncomputable def m_impl_ProveNoFill (g1 : Grid) (l5 : Lexicon) : Option ((List Int) × Int) :=
  (
      (m_impl_ValidGrid g1).bind fun y21 =>
      bif !y21 then
        some true
      else
        (m_impl_ValidLexicon l5).bind fun y28 =>
        some (!y28) : Option Bool).bind fun t17 =>
  bif t17 then
    some (([] : (List Int)), 1)
  else
    (m_impl_Grid_first g1 l5).bind fun y36 =>
    bif y36.2 then
      some (([] : (List Int)), 6)
    else
      (m_impl_Grid_slots g1).bind fun y63 =>
      (m_impl_Grid_prove g1 l5 y63 ([] : (List Int))).bind fun y70 =>
      bif !y70.1 then
        some (([] : (List Int)), 5)
      else
        some (y70.2, 0)

noncomputable def m_laws_eqInt64S_l1 (a1 : (List Int)) (b5 : (List Int)) (n14 : Int) : Option (Int ⊕ (Unit ⊕ Bool)) :=
  bif decide (n14 < (a1.length : Int)) then
    (getL a1 n14).bind fun e25 =>
    (getL b5 n14).bind fun e34 =>
    bif e25 != e34 then
      some (.inr (.inr false))
    else
      (chk (n14 + 1)).bind fun z44 =>
      some (.inl z44)
  else
    some (.inr (.inl ()))

noncomputable def m_laws_eqInt64S (a1 : (List Int)) (b5 : (List Int)) : Option Bool :=
  bif (a1.length : Int) != (b5.length : Int) then
    some false
  else
    (
        (loopM (fun s : Int => m_laws_eqInt64S_l1 a1 b5 s) 0).bind fun x17 =>
        match x17 with
        | .inl _ =>
          some (.inl ())
        | .inr r50 =>
          some (.inr r50) : Option (Unit ⊕ Bool)).bind fun x12 =>
    match x12 with
    | .inl _ =>
      some true
    | .inr r53 =>
      some r53

noncomputable def m_laws_markInt64S_l1 (xs12 : (List Int)) (k14 : Int) (n16 : Int) : Option (((List Int) × Int × Int) ⊕ ((List Int) × Int)) :=
  bif decide (n16 < (xs12.length : Int)) then
    (getL xs12 n16).bind fun e30 =>
    (setL xs12 n16 k14).bind fun xs40 =>
    (chk (k14 + 1)).bind fun z42 =>
    (chk (n16 + 1)).bind fun z44 =>
    some (.inl (xs40, z42, z44))
  else
    some (.inr (xs12, k14))

noncomputable def m_laws_markInt64S (a1 : (List Int)) (k4 : Int) : Option (Int × (List Int)) :=
  (
      (loopM (fun s : (List Int) × Int × Int => m_laws_markInt64S_l1 s.1 s.2.1 s.2.2) (a1, k4, 0)).bind fun x23 =>
      match x23 with
      | (xs19, k21) =>
        some (xs19, k21) : Option ((List Int) × Int)).bind fun x10 =>
  match x10 with
  | (xs6, k8) =>
    some (k8, xs6)

noncomputable def m_laws_heldInt64S_l1 (a1 : (List Int)) (k11 : Int) (n13 : Int) : Option ((Int × Int) ⊕ (Int ⊕ Int)) :=
  bif decide (n13 < (a1.length : Int)) then
    (getL a1 n13).bind fun e25 =>
    bif e25 != k11 then
      some (.inr (.inr (-1)))
    else
      (chk (k11 + 1)).bind fun z35 =>
      (chk (n13 + 1)).bind fun z37 =>
      some (.inl (z35, z37))
  else
    some (.inr (.inl k11))

noncomputable def m_laws_heldInt64S (a1 : (List Int)) (k5 : Int) : Option Int :=
  (
      (loopM (fun s : Int × Int => m_laws_heldInt64S_l1 a1 s.1 s.2) (k5, 0)).bind fun x18 =>
      match x18 with
      | .inl k16 =>
        some (.inl k16)
      | .inr r43 =>
        some (.inr r43) : Option (Int ⊕ Int)).bind fun x9 =>
  match x9 with
  | .inl k7 =>
    some k7
  | .inr r46 =>
    some r46

noncomputable def m_laws_FnExactProveNoFill (aG1 : Grid) (aL5 : Lexicon) : Option Bool :=
  (m_laws_szGrid aG1 1048576).bind fun y17 =>
  bif decide (y17 < 0) then
    some true
  else
    (m_laws_szLexicon aL5 y17).bind fun y24 =>
    bif decide (y24 < 0) then
      some true
    else
      (m_laws_toGrid aG1).bind fun y32 =>
      (m_laws_toLexicon aL5).bind fun y40 =>
      (m_spec_ProveNoFill y32 y40).bind fun y47 =>
      (m_laws_toLexicon aL5).bind fun y55 =>
      (m_laws_toGrid aG1).bind fun y70 =>
      (m_impl_ProveNoFill y70 y55).bind fun y78 =>
      (
          (m_laws_eqInt64S y78.1 y47.1).bind fun y90 =>
          bif !y90 then
            some true
          else
            some (y78.2 != y47.2) : Option Bool).bind fun t86 =>
      bif t86 then
        some false
      else
        (m_laws_toLexicon aL5).bind fun y101 =>
        (m_laws_eqLexicon y55 y101).bind fun y108 =>
        bif !y108 then
          some false
        else
          (m_laws_markLexicon y55 1).bind fun y114 =>
          (
              bif decide (y114.1 < 0) then
                some true
              else
                (m_laws_eqInt64S y78.1 y47.1).bind fun y127 =>
                bif !y127 then
                  some true
                else
                  some (y78.2 != y47.2) : Option Bool).bind fun t121 =>
          bif t121 then
            some false
          else
            (m_laws_markInt64S y78.1 1).bind fun y137 =>
            (m_laws_heldInt64S y137.2 1).bind fun y144 =>
            bif decide (y144 < 0) then
              some false
            else
              bif y144 != y137.1 then
                some false
              else
                (m_laws_toGrid aG1).bind fun y153 =>
                (m_laws_toLexicon aL5).bind fun y161 =>
                (m_impl_ProveNoFill y153 y161).bind fun y168 =>
                (
                    (m_laws_eqInt64S y168.1 y47.1).bind fun y180 =>
                    bif !y180 then
                      some true
                    else
                      some (y168.2 != y47.2) : Option Bool).bind fun t176 =>
                bif t176 then
                  some false
                else
                  (m_laws_heldInt64S y137.2 1).bind fun y190 =>
                  bif decide (y190 < 0) then
                    some false
                  else
                    bif y190 != y137.1 then
                      some false
                    else
                      some true

noncomputable def m_laws_f6big (code1 : Str) : Option Bool :=
  some (decide (4096 < (code1.length : Int)))

noncomputable def m_spec_l00From (code1 : Str) : Option l00Src :=
  some (⟨code1, 0, 0⟩ : l00Src)

noncomputable def m_spec_l00Src_next (s1 : l00Src) : Option (Int × l00Src) :=
  (
      bif decide (s1.at_ < (s1.code.length : Int)) then
        (getL s1.code s1.at_).bind fun e16 =>
        some (e16.toNat : Int)
      else
        some 0 : Option Int).bind fun n8 =>
  (chk (s1.at_ + 1)).bind fun z27 =>
  bif decide (z27 ≤ (s1.code.length : Int)) then
    some (n8, (⟨s1.code, z27, (((((s1.seed * 6364136223846793005) % 18446744073709551616) + (n8 % 18446744073709551616)) % 18446744073709551616) + 1442695040888963407) % 18446744073709551616⟩ : l00Src))
  else
    (chk ((((((((s1.seed * 6364136223846793005) % 18446744073709551616) + (n8 % 18446744073709551616)) % 18446744073709551616) + 1442695040888963407) % 18446744073709551616) / 1099511627776) % 256)).bind fun z38 =>
    some (z38, (⟨s1.code, z27, (((((s1.seed * 6364136223846793005) % 18446744073709551616) + (n8 % 18446744073709551616)) % 18446744073709551616) + 1442695040888963407) % 18446744073709551616⟩ : l00Src))

noncomputable def m_spec_l00Src_pick (s1 : l00Src) (n8 : Int) : Option (Int × l00Src) :=
  bif decide (n8 ≤ 1) then
    some (0, s1)
  else
    (m_spec_l00Src_next s1).bind fun y11 =>
    (
        bif decide (200 < n8) then
          (chk (y11.1 * 256)).bind fun z34 =>
          (m_spec_l00Src_next y11.2).bind fun y36 =>
          (chk (z34 + y36.1)).bind fun z47 =>
          some (y36.2.code, y36.2.at_, y36.2.seed, z47)
        else
          some (y11.2.code, y11.2.at_, y11.2.seed, y11.1) : Option (Str × Int × Int × Int)).bind fun x31 =>
    match x31 with
    | (l22, n25, n27, n29) =>
      (remI n29 n8).bind fun z52 =>
      some (z52, (⟨l22, n25, n27⟩ : l00Src))

noncomputable def m_spec_l00Src_text (s1 : l00Src) (list8 : (List Str)) : Option (Str × l00Src) :=
  (m_spec_l00Src_pick s1 (list8.length : Int)).bind fun y13 =>
  (getL list8 y13.1).bind fun e24 =>
  some (e24, y13.2)

noncomputable def m_spec_l25Draw_l1 (l58 : Str) (n61 : Int) (n63 : Int) (s65 : Str) (n67 : Int) : Option ((Str × Int × Int × Str × Int) ⊕ (Str × Int × Int × Str)) :=
  bif decide (0 < n67) then
    (m_spec_l00Src_text (⟨l58, n61, n63⟩ : l00Src) ([([46] : Str), ([46] : Str), ([46] : Str), ([46] : Str), ([46] : Str), ([46] : Str), ([35] : Str), ([35] : Str), ([116] : Str), ([101] : Str), ([97] : Str)] : (List Str))).bind fun y89 =>
    (catL s65 y89.1).bind fun s102 =>
    (chk (n67 - 1)).bind fun z107 =>
    some (.inl (y89.2.code, y89.2.at_, y89.2.seed, s102, z107))
  else
    some (.inr (l58, n61, n63, s65))

noncomputable def m_spec_l25Draw (s1 : l00Src) : Option (Grid × l00Src) :=
  (m_spec_l00Src_pick s1 4).bind fun y12 =>
  (chk (1 + y12.1)).bind fun z23 =>
  (m_spec_l00Src_pick y12.2 3).bind fun y25 =>
  (chk (2 + y25.1)).bind fun z36 =>
  (
      (chk (z23 * z36)).bind fun z56 =>
      (loopM (fun s : Str × Int × Int × Str × Int => m_spec_l25Draw_l1 s.1 s.2.1 s.2.2.1 s.2.2.2.1 s.2.2.2.2) (y25.2.code, y25.2.at_, y25.2.seed, ([] : Str), z56)).bind fun x79 =>
      match x79 with
      | (l70, n73, n75, s77) =>
        some (l70, n73, n75, s77) : Option (Str × Int × Int × Str)).bind fun x54 =>
  match x54 with
  | (l45, n48, n50, s52) =>
    some ((⟨z23, z36, s52⟩ : Grid), (⟨l45, n48, n50⟩ : l00Src))

noncomputable def m_spec_l00Src_among (s1 : l00Src) (list8 : (List Int)) : Option (Int × l00Src) :=
  (m_spec_l00Src_pick s1 (list8.length : Int)).bind fun y13 =>
  (getL list8 y13.1).bind fun e24 =>
  some (e24, y13.2)

noncomputable def m_spec_l02Repeat_l1 (c1 : UInt8) (xs12 : Str) (n15 : Int) : Option ((Str × Int) ⊕ Str) :=
  bif decide (0 < n15) then
    (catL xs12 ([c1] : Str)).bind fun xs30 =>
    (chk (n15 - 1)).bind fun z37 =>
    some (.inl (xs30, z37))
  else
    some (.inr xs12)

noncomputable def m_spec_l02Repeat (c1 : UInt8) (n2 : Int) : Option Str :=
  (
      (loopM (fun s : Str × Int => m_spec_l02Repeat_l1 c1 s.1 s.2) (([] : Str), n2)).bind fun xs18 =>
      some xs18 : Option Str).bind fun xs7 =>
  some xs7

noncomputable def m_spec_l25Bent (s1 : l00Src) : Option (Grid × l00Src) :=
  (m_spec_l25Draw s1).bind fun y12 =>
  (
      (m_spec_l00Src_pick y12.2 24).bind fun y47 =>
      bif y47.1 == 0 then
        (chk (y12.1.Rows + 1)).bind fun z59 =>
        (m_spec_l00Src_among y47.2 ([0, 6, z59] : (List Int))).bind fun y64 =>
        some (y64.2.code, y64.2.at_, y64.2.seed, y64.1, y12.1.Cols, y12.1.Cells)
      else
        bif y47.1 == 1 then
          (subL y12.1.Cells 1 (y12.1.Cells.length : Int)).bind fun s81 =>
          (m_spec_l00Src_text y47.2 ([([65] : Str), ([63] : Str), ([32] : Str)] : (List Str))).bind fun y86 =>
          (catL y86.1 s81).bind fun s99 =>
          some (y86.2.code, y86.2.at_, y86.2.seed, y12.1.Rows, y12.1.Cols, s99)
        else
          bif y47.1 == 2 then
            (m_spec_l00Src_pick y47.2 2).bind fun y106 =>
            (chk (5 + y106.1)).bind fun z117 =>
            (m_spec_l02Repeat 46 z117).bind fun y119 =>
            some (y106.2.code, y106.2.at_, y106.2.seed, 1, z117, y119)
          else
            bif y47.1 == 3 then
              some (y47.2.code, y47.2.at_, y47.2.seed, 5, 3, ([46, 35, 46, 46, 35, 46, 46, 35, 46, 46, 35, 46, 46, 35, 46] : Str))
            else
              some (y47.2.code, y47.2.at_, y47.2.seed, y12.1.Rows, y12.1.Cols, y12.1.Cells) : Option (Str × Int × Int × Int × Int × Str)).bind fun x45 =>
  match x45 with
  | (l32, n35, n37, n39, n41, s43) =>
    some ((⟨n39, n41, s43⟩ : Grid), (⟨l32, n35, n37⟩ : l00Src))

noncomputable def m_spec_l05Some  : Option (List Str) :=
  some ((([97, 110] : Str) :: ([97, 116] : Str) :: ([97, 116, 101] : Str) :: ([101, 97, 114] : Str) :: ([101, 97, 114, 110] : Str) :: ([101, 97, 114, 115] : Str) :: ([101, 97, 115, 116] : Str) :: ([101, 97, 116] : Str) :: ([101, 97, 116, 101, 110] : Str) :: ([101, 97, 116, 115] : Str) :: ([101, 110] : Str) :: ([97, 110, 116] : Str) :: ([97, 110, 116, 115] : Str) :: ([97, 114, 101] : Str) :: ([97, 114, 101, 110, 97] : Str) :: ([97, 114, 116] : Str) :: ([97, 114, 116, 115] : Str) :: ([97, 115] : Str) :: ([101, 114] : Str) :: ([101, 115] : Str) :: ([105, 110] : Str) :: ([105, 115] : Str) :: ([110, 97] : Str) :: ([110, 101] : Str) :: ([110, 101, 97, 114] : Str) :: ([110, 101, 97, 116] : Str) :: ([110, 101, 115, 116] : Str) :: ([110, 101, 115, 116, 115] : Str) :: ([110, 101, 116] : Str) :: ([114, 97, 116] : Str) :: ([114, 97, 116, 101] : Str) :: ([114, 97, 116, 101, 115] : Str) :: ([114, 101] : Str) :: ([114, 101, 115, 116] : Str) :: ([115, 97, 116] : Str) :: ([115, 101, 97] : Str) :: ([115, 101, 97, 116] : Str) :: ([115, 101, 116] : Str) :: ([116, 97] : Str) :: ([116, 97, 114] : Str) :: ([116, 97, 114, 115] : Str) :: ([116, 97, 114, 116] : Str) :: ([116, 101, 97] : Str) :: ([116, 101, 97, 114] : Str) :: ([116, 101, 97, 115] : Str) :: ([116, 101, 110] : Str) :: ([116, 101, 114, 110] : Str) :: ([116, 101, 115, 116] : Str) :: ([116, 101, 115, 116, 115] : Str) :: ([116, 114, 101, 101, 115] : Str) :: ([98, 97, 110, 97, 110, 97] : Str) :: ([98, 101, 101] : Str) :: ([98, 101, 101, 110] : Str) :: ([98, 101, 101, 115] : Str) :: ([115, 116, 97, 114] : Str) :: ([115, 116, 97, 114, 101] : Str) :: ([115, 116, 97, 114, 116] : Str) :: ([116, 114, 101, 101] : Str) :: ([115, 116, 97, 114, 115] : Str) :: ([116, 114, 101, 97, 116, 115] : Str) :: []) : (List Str))

noncomputable def m_spec_l03Insert_l1 (list1 : (List Str)) (t4 : Str) (n11 : Int) : Option (Int ⊕ Int) :=
  (
      bif decide (0 < n11) then
        (chk (n11 - 1)).bind fun z26 =>
        (getL list1 z26).bind fun e28 =>
        some (!(ltS e28 t4 || e28 == t4))
      else
        some false : Option Bool).bind fun t21 =>
  bif t21 then
    (chk (n11 - 1)).bind fun z41 =>
    some (.inl z41)
  else
    some (.inr n11)

noncomputable def m_spec_l03Insert (list1 : (List Str)) (t4 : Str) : Option (List Str) :=
  (
      (loopM (fun s : Int => m_spec_l03Insert_l1 list1 t4 s) (list1.length : Int)).bind fun n14 =>
      some n14 : Option Int).bind fun n7 =>
  (
      bif decide (0 < n7) then
        (chk (n7 - 1)).bind fun z54 =>
        (getL list1 z54).bind fun e56 =>
        some (e56 == t4)
      else
        some false : Option Bool).bind fun t49 =>
  bif t49 then
    some list1
  else
    (subL list1 0 n7).bind fun l72 =>
    (catL ([] : (List Str)) l72).bind fun xs77 =>
    (catL xs77 ([t4] : (List Str))).bind fun xs87 =>
    (subL list1 n7 (list1.length : Int)).bind fun l94 =>
    (catL xs87 l94).bind fun xs99 =>
    some xs99

noncomputable def m_spec_l05Draw_l1 (y14 : (List Str)) (l49 : Str) (n52 : Int) (n54 : Int) (xs56 : (List Str)) (n59 : Int) : Option ((Str × Int × Int × (List Str) × Int) ⊕ (Str × Int × Int × (List Str))) :=
  bif decide (0 < n59) then
    (m_spec_l00Src_pick (⟨l49, n52, n54⟩ : l00Src) (y14.length : Int)).bind fun y79 =>
    (getL y14 y79.1).bind fun e90 =>
    (m_spec_l03Insert xs56 e90).bind fun y99 =>
    (chk (n59 - 1)).bind fun z106 =>
    some (.inl (y79.2.code, y79.2.at_, y79.2.seed, y99, z106))
  else
    some (.inr (l49, n52, n54, xs56))

noncomputable def m_spec_l05Draw (s1 : l00Src) (most8 : Int) : Option (Lexicon × l00Src) :=
  (m_spec_l05Some).bind fun y14 =>
  (
      (chk (most8 + 1)).bind fun z36 =>
      (m_spec_l00Src_pick s1 z36).bind fun y38 =>
      (loopM (fun s : Str × Int × Int × (List Str) × Int => m_spec_l05Draw_l1 y14 s.1 s.2.1 s.2.2.1 s.2.2.2.1 s.2.2.2.2) (y38.2.code, y38.2.at_, y38.2.seed, ([] : (List Str)), y38.1)).bind fun x72 =>
      match x72 with
      | (l62, n65, n67, xs69) =>
        some (l62, n65, n67, xs69) : Option (Str × Int × Int × (List Str))).bind fun x34 =>
  match x34 with
  | (l24, n27, n29, xs31) =>
    some ((⟨xs31⟩ : Lexicon), (⟨l24, n27, n29⟩ : l00Src))

noncomputable def m_spec_l05Full_l1 (many1 : Int) (xs11 : (List Str)) (n14 : Int) : Option (((List Str) × Int) ⊕ (List Str)) :=
  bif decide (n14 < many1) then
    (quoI n14 26).bind fun z26 =>
    (chk (97 + z26)).bind fun z28 =>
    (remI n14 26).bind fun z30 =>
    (chk (97 + z30)).bind fun z32 =>
    (catL xs11 ([([UInt8.ofNat (z28 % 256).toNat, UInt8.ofNat (z32 % 256).toNat] : Str)] : (List Str))).bind fun xs41 =>
    (chk (n14 + 1)).bind fun z48 =>
    some (.inl (xs41, z48))
  else
    some (.inr xs11)

noncomputable def m_spec_l05Full (many1 : Int) : Option (List Str) :=
  (
      (loopM (fun s : (List Str) × Int => m_spec_l05Full_l1 many1 s.1 s.2) (([] : (List Str)), 0)).bind fun xs17 =>
      some xs17 : Option (List Str)).bind fun xs6 =>
  some xs6

noncomputable def m_spec_l05Bent (s1 : l00Src) : Option (Lexicon × l00Src) :=
  (m_spec_l05Draw s1 20).bind fun y12 =>
  (
      (m_spec_l00Src_pick y12.2 20).bind fun y46 =>
      bif y46.1 == 0 then
        (m_spec_l00Src_text y46.2 ([([97] : Str), ([97, 110] : Str), ([122, 111, 111] : Str), ([90, 111, 111] : Str), ([122, 122, 122, 122, 122, 122, 122, 122, 122, 122, 122, 122, 122] : Str)] : (List Str))).bind fun y62 =>
        (catL y12.1.Words ([y62.1] : (List Str))).bind fun xs78 =>
        some (y62.2.code, y62.2.at_, y62.2.seed, xs78)
      else
        bif y46.1 == 1 then
          (m_spec_l00Src_pick y46.2 2).bind fun y90 =>
          (chk (200 + y90.1)).bind fun z101 =>
          (m_spec_l05Full z101).bind fun y103 =>
          some (y90.2.code, y90.2.at_, y90.2.seed, y103)
        else
          some (y46.2.code, y46.2.at_, y46.2.seed, y12.1.Words) : Option (Str × Int × Int × (List Str))).bind fun x44 =>
  match x44 with
  | (l31, n34, n36, xs38) =>
    some ((⟨xs38⟩ : Lexicon), (⟨l31, n34, n36⟩ : l00Src))

noncomputable def m_spec_l05Make_l1 (words1 : (List Str)) (xs13 : (List Str)) (n16 : Int) : Option (((List Str) × Int) ⊕ (List Str)) :=
  bif decide (n16 < (words1.length : Int)) then
    (getL words1 n16).bind fun e29 =>
    (m_spec_l03Insert xs13 e29).bind fun y38 =>
    (chk (n16 + 1)).bind fun z45 =>
    some (.inl (y38, z45))
  else
    some (.inr xs13)

noncomputable def m_spec_l05Make (words1 : (List Str)) : Option (List Str) :=
  (
      (loopM (fun s : (List Str) × Int => m_spec_l05Make_l1 words1 s.1 s.2) (([] : (List Str)), 0)).bind fun xs19 =>
      some xs19 : Option (List Str)).bind fun xs8 =>
  some xs8

noncomputable def m_spec_l12All  : Option Lexicon :=
  (m_spec_l05Some).bind fun y5 =>
  (m_spec_l05Make y5).bind fun y12 =>
  some (⟨y12⟩ : Lexicon)

noncomputable def m_spec_l25Lexicon_l1 (l78 : Str) (n81 : Int) (n83 : Int) (xs85 : (List Str)) (n88 : Int) : Option ((Str × Int × Int × (List Str) × Int) ⊕ (Str × Int × Int × (List Str))) :=
  bif decide (0 < n88) then
    (m_spec_l00Src_text (⟨l78, n81, n83⟩ : l00Src) ([([97, 110] : Str), ([97, 116] : Str), ([116, 97] : Str), ([101, 110] : Str), ([101, 116] : Str), ([116, 101] : Str), ([97, 116, 101] : Str), ([101, 97, 116] : Str), ([116, 101, 97] : Str), ([116, 101, 110] : Str), ([110, 101, 116] : Str), ([116, 97, 116] : Str), ([97, 110, 116] : Str), ([110, 97, 116] : Str), ([101, 116, 97] : Str), ([116, 116] : Str), ([97, 97] : Str), ([101, 101] : Str), ([116, 101, 116, 101] : Str), ([97, 110, 116, 97] : Str), ([116, 97, 116, 101] : Str), ([110, 101, 116, 116] : Str)] : (List Str))).bind fun y110 =>
    (m_spec_l03Insert xs85 y110.1).bind fun y121 =>
    (chk (n88 - 1)).bind fun z128 =>
    some (.inl (y110.2.code, y110.2.at_, y110.2.seed, y121, z128))
  else
    some (.inr (l78, n81, n83, xs85))

noncomputable def m_spec_l25Lexicon (s1 : l00Src) : Option (Lexicon × l00Src) :=
  (m_spec_l00Src_pick s1 5).bind fun y12 =>
  bif y12.1 == 0 then
    (m_spec_l05Bent y12.2).bind fun y24 =>
    some (y24.1, y24.2)
  else
    bif y12.1 == 1 then
      (m_spec_l12All).bind fun y41 =>
      some (y41, y12.2)
    else
      (
          (m_spec_l00Src_pick y12.2 26).bind fun y67 =>
          (loopM (fun s : Str × Int × Int × (List Str) × Int => m_spec_l25Lexicon_l1 s.1 s.2.1 s.2.2.1 s.2.2.2.1 s.2.2.2.2) (y67.2.code, y67.2.at_, y67.2.seed, ([] : (List Str)), y67.1)).bind fun x101 =>
          match x101 with
          | (l91, n94, n96, xs98) =>
            some (l91, n94, n96, xs98) : Option (Str × Int × Int × (List Str))).bind fun x65 =>
      match x65 with
      | (l55, n58, n60, xs62) =>
        some ((⟨xs62⟩ : Lexicon), (⟨l55, n58, n60⟩ : l00Src))

noncomputable def m_spec_l25Both (code1 : Str) : Option (Grid × Lexicon) :=
  (m_spec_l00From code1).bind fun y13 =>
  (m_spec_l25Bent y13).bind fun y24 =>
  (m_spec_l25Lexicon y24.2).bind fun y45 =>
  some (y24.1, y45.1)

noncomputable def m_spec_DrawFillGrid (code1 : Str) : Option (Grid × Lexicon) :=
  (m_spec_l25Both code1).bind fun y13 =>
  some (y13.1, y13.2)

noncomputable def m_spec_ValidGrid (g1 : Grid) : Option Bool :=
  (m_spec_l25Ok g1).bind fun y9 =>
  some y9

noncomputable def m_impl_TurnGrid (g1 : Grid) : Option (Grid × Int) :=
  (m_impl_ValidGrid g1).bind fun y13 =>
  bif !y13 then
    some ((⟨0, 0, ([] : Str)⟩ : Grid), 1)
  else
    (m_impl_Grid_turned g1).bind fun y23 =>
    some (y23, 0)

noncomputable def m_laws_FnFillings_l1 (y11 : (Grid × Lexicon)) (y35 : (Grid × Int)) (u137 : Int) : Option (Int ⊕ (Unit ⊕ Bool)) :=
  bif decide (u137 < (y11.1.Cells.length : Int)) then
    (
        (getL y11.1.Cells u137).bind fun c151 =>
        bif c151 != 46 then
          (getL y35.1.Cells u137).bind fun c154 =>
          (getL y11.1.Cells u137).bind fun c156 =>
          some (c154 != c156)
        else
          some false : Option Bool).bind fun t146 =>
    bif t146 then
      some (.inr (.inr false))
    else
      (chk (u137 + 1)).bind fun z162 =>
      some (.inl z162)
  else
    some (.inr (.inl ()))

noncomputable def m_laws_FnFillings (code1 : Str) : Option Bool :=
  (m_laws_f6big code1).bind fun y5 =>
  bif y5 then
    some true
  else
    (m_spec_DrawFillGrid code1).bind fun y11 =>
    (m_impl_FillGrid y11.1 y11.2).bind fun y35 =>
    (m_spec_FillGrid y11.1 y11.2).bind fun y51 =>
    (m_impl_CountFillings y11.1 y11.2).bind fun y67 =>
    (m_spec_CountFillings y11.1 y11.2).bind fun y74 =>
    (
        bif y35.2 != y51.2 then
          some true
        else
          bif y35.1 != y51.1 then
            some true
          else
            bif y67.2 != y74.2 then
              some true
            else
              bif y67.1 != y74.1 then
                some true
              else
                (m_impl_ValidGrid y11.1).bind fun y94 =>
                (m_spec_ValidGrid y11.1).bind fun y99 =>
                bif y94 != y99 then
                  some true
                else
                  (m_impl_IsFilled y11.1 y11.2).bind fun y106 =>
                  (m_spec_IsFilled y11.1 y11.2).bind fun y111 =>
                  some (y106 != y111) : Option Bool).bind fun t81 =>
    bif t81 then
      some false
    else
      (
          bif y67.2 == 0 then
            bif (decide (0 < y67.1)) != (y35.2 == 0) then
              some true
            else
              bif y35.2 == 3 then
                some (y67.1 != 0)
              else
                some false
          else
            bif y35.2 == 3 then
              some (y67.1 != 0)
            else
              some false : Option Bool).bind fun t119 =>
      bif t119 then
        some false
      else
        bif y35.2 != 0 then
          some true
        else
          (
              (loopM (fun s : Int => m_laws_FnFillings_l1 y11 y35 s) 0).bind fun x140 =>
              match x140 with
              | .inl _ =>
                some (.inl ())
              | .inr r168 =>
                some (.inr r168) : Option (Unit ⊕ Bool)).bind fun x135 =>
          match x135 with
          | .inl _ =>
            (m_impl_TurnGrid y11.1).bind fun y171 =>
            (m_impl_CountFillings y171.1 y11.2).bind fun y187 =>
            (m_impl_FillGrid y35.1 y11.2).bind fun y194 =>
            (
                (m_impl_IsFilled y35.1 y11.2).bind fun y214 =>
                bif y214 then
                  bif y171.2 == 0 then
                    bif y187.2 == y67.2 then
                      bif y187.1 == y67.1 then
                        bif y194.2 == 0 then
                          some (y194.1 == y35.1)
                        else
                          some false
                      else
                        some false
                    else
                      some false
                  else
                    some false
                else
                  some false : Option Bool).bind fun g210 =>
            some g210
          | .inr r231 =>
            some r231

noncomputable def m_internal_bytealg_Cutover (n1 : Int) : Option Int :=
  (chk (n1 + 16)).bind fun z3 =>
  (quoI z3 8).bind fun z5 =>
  some z5

end Go.Proofs.Ytgmikhdealhlfaa
