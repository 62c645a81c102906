/- The models of the program's functions. Printed by gen.py. -/
import Derived.Test.YtccoeheoifbpcaaGreatDoorTyp
import Derived.Test.YtccoeheoifbpcaaGreatDoorEngM
import Derived.Test.YtccoeheoifbpcaaGreatDoorEngY
namespace Go.Proofs.YtccoeheoifbpcaaGreatDoor
open Go Go.RowKit
set_option linter.unusedSimpArgs false
set_option linter.unusedVariables false
noncomputable def m_spec_l06Tails_l1 (list1 : (List Str)) (c19 : UInt8) (xs28 : (List Str)) (n31 : Int) : Option (((List Str) × Int) ⊕ ((List Str) × Int)) :=
  (
      bif decide (n31 < (list1.length : Int)) then
        (getL list1 n31).bind fun e50 =>
        (getL e50 0).bind fun c59 =>
        some (c59 == c19)
      else
        some false : Option Bool).bind fun t44 =>
  bif t44 then
    (getL list1 n31).bind fun e65 =>
    (subL e65 1 (e65.length : Int)).bind fun s74 =>
    (catL xs28 ([s74] : (List Str))).bind fun xs79 =>
    (chk (n31 + 1)).bind fun z86 =>
    some (.inl (xs79, z86))
  else
    some (.inr (xs28, n31))
noncomputable def m_spec_l06Tails (list1 : (List Str)) (from_5 : Int) : Option ((List Str) × Int) :=
  (getL list1 from_5).bind fun e10 =>
  (getL e10 0).bind fun c19 =>
  (
      (loopM (fun s : (List Str) × Int => m_spec_l06Tails_l1 list1 c19 s.1 s.2) (([] : (List Str)), from_5)).bind fun x39 =>
      match x39 with
      | (xs34, n37) =>
        some (xs34, n37) : Option ((List Str) × Int)).bind fun x26 =>
  match x26 with
  | (xs21, n24) =>
    some (xs21, n24)
noncomputable def m_spec_l00Same_l1 (a1 : (List Int)) (b5 : (List Int)) (n14 : Int) : Option (Int ⊕ (Unit ⊕ Bool)) :=
  bif decide (n14 < (a1.length : Int)) then
    (getL a1 n14).bind fun e25 =>
    (getL b5 n14).bind fun e34 =>
    bif e25 != e34 then
      some (.inr (.inr false))
    else
      (chk (n14 + 1)).bind fun z44 =>
      some (.inl z44)
  else
    some (.inr (.inl ()))
noncomputable def m_spec_l00Same (a1 : (List Int)) (b5 : (List Int)) : Option Bool :=
  bif (a1.length : Int) != (b5.length : Int) then
    some false
  else
    (
        (loopM (fun s : Int => m_spec_l00Same_l1 a1 b5 s) 0).bind fun x17 =>
        match x17 with
        | .inl _ =>
          some (.inl ())
        | .inr r50 =>
          some (.inr r50) : Option (Unit ⊕ Bool)).bind fun x12 =>
    match x12 with
    | .inl _ =>
      some true
    | .inr r53 =>
      some r53
noncomputable def m_spec_l06Equal (a1 : Node) (b5 : Node) : Option Bool :=
  (
      bif a1.Final == b5.Final then
        bif a1.Letters == b5.Letters then
          (m_spec_l00Same a1.Next b5.Next).bind fun y26 =>
          some y26
        else
          some false
      else
        some false : Option Bool).bind fun t9 =>
  some t9
noncomputable def m_spec_l06B_build_l1 (list5 : (List Str)) (rc : l06B → (List Str) → Option (Int × l06B)) (s57 : Str) (xs59 : (List Node)) (xs62 : (List Int)) (next65 : Int) : Option ((Str × (List Node) × (List Int) × Int) ⊕ (Str × (List Node) × (List Int))) :=
  bif decide (next65 < (list5.length : Int)) then
    (m_spec_l06Tails list5 next65).bind fun y83 =>
    (getL list5 next65).bind fun e92 =>
    (subL e92 0 1).bind fun s101 =>
    (catL s57 s101).bind fun s103 =>
    (rc (⟨xs59⟩ : l06B) y83.1).bind fun y109 =>
    (catL xs62 ([y109.1] : (List Int))).bind fun xs122 =>
    some (.inl (s103, y109.2.nodes, xs122, y83.2))
  else
    some (.inr (s57, xs59, xs62))
noncomputable def m_spec_l06B_build_l2 (xs52 : (List Node)) (t16 : Bool) (s47 : Str) (xs49 : (List Int)) (n140 : Int) : Option (Int ⊕ (Unit ⊕ (Int × l06B))) :=
  bif decide (n140 < (xs52.length : Int)) then
    (getL xs52 n140).bind fun e150 =>
    (m_spec_l06Equal e150 (⟨t16, s47, xs49⟩ : Node)).bind fun y162 =>
    bif y162 then
      some (.inr (.inr (n140, (⟨xs52⟩ : l06B))))
    else
      (chk (n140 + 1)).bind fun z168 =>
      some (.inl z168)
  else
    some (.inr (.inl ()))
noncomputable def m_spec_l06B_build_b (rc : l06B → (List Str) → Option (Int × l06B)) (b1 : l06B) (list5 : (List Str)) : Option (Int × l06B) :=
  (
      (
          bif decide (0 < (list5.length : Int)) then
            (getL list5 0).bind fun e28 =>
            some (e28 == ([] : Str))
          else
            some false : Option Bool).bind fun t22 =>
      bif t22 then
        some (true, 1)
      else
        some (false, 0) : Option (Bool × Int)).bind fun x20 =>
  match x20 with
  | (t16, next18) =>
    (
        (loopM (fun s : Str × (List Node) × (List Int) × Int => m_spec_l06B_build_l1 list5 rc s.1 s.2.1 s.2.2.1 s.2.2.2) (([] : Str), b1.nodes, ([] : (List Int)), next18)).bind fun x76 =>
        match x76 with
        | (s68, xs70, xs73) =>
          some (s68, xs73, xs70) : Option (Str × (List Int) × (List Node))).bind fun x55 =>
    match x55 with
    | (s47, xs49, xs52) =>
      (
          (loopM (fun s : Int => m_spec_l06B_build_l2 xs52 t16 s47 xs49 s) 0).bind fun x143 =>
          match x143 with
          | .inl _ =>
            some (.inl ())
          | .inr r174 =>
            some (.inr r174) : Option (Unit ⊕ (Int × l06B))).bind fun x138 =>
      match x138 with
      | .inl _ =>
        (catL xs52 ([(⟨t16, s47, xs49⟩ : Node)] : (List Node))).bind fun xs181 =>
        (chk ((xs181.length : Int) - 1)).bind fun z192 =>
        some (z192, (⟨xs181⟩ : l06B))
      | .inr r194 =>
        some r194
noncomputable def m_spec_l06B_build_n : Nat → l06B → (List Str) → Option (Int × l06B)
  | 0 => fun _ _ => none
  | n + 1 => m_spec_l06B_build_b (m_spec_l06B_build_n n)
noncomputable def m_spec_l06B_build : l06B → (List Str) → Option (Int × l06B) := m_spec_l06B_build_n fuelN
noncomputable def m_spec_l06R_visit_l1 (r1 : l06R) (k10 : Int) (rc : l06R → Int → Option l06R) (xs64 : (List Int)) (xs67 : (List Node)) (n70 : Int) : Option (((List Int) × (List Node) × Int) ⊕ ((List Int) × (List Node))) :=
  (getL r1.old k10).bind fun e84 =>
  bif decide (n70 < (e84.Next.length : Int)) then
    (
        (getL r1.old k10).bind fun e106 =>
        (getL e106.Next n70).bind fun e118 =>
        (getL xs64 e118).bind fun e127 =>
        bif decide (e127 < 0) then
          (rc (⟨r1.old, xs64, xs67⟩ : l06R) e118).bind fun y137 =>
          some (y137.place, y137.out)
        else
          some (xs64, xs67) : Option ((List Int) × (List Node))).bind fun x104 =>
    match x104 with
    | (xs98, xs101) =>
      (chk (n70 + 1)).bind fun z149 =>
      some (.inl (xs98, xs101, z149))
  else
    some (.inr (xs64, xs67))
noncomputable def m_spec_l06R_visit_b (rc : l06R → Int → Option l06R) (r1 : l06R) (k10 : Int) : Option l06R :=
  (getL r1.place k10).bind fun e14 =>
  (setL r1.place k10 (r1.out.length : Int)).bind fun xs24 =>
  (getL r1.old k10).bind fun e27 =>
  (getL r1.old k10).bind fun e39 =>
  (catL r1.out ([(⟨e27.Final, e39.Letters, ([] : (List Int))⟩ : Node)] : (List Node))).bind fun xs54 =>
  (loopM (fun s : (List Int) × (List Node) × Int => m_spec_l06R_visit_l1 r1 k10 rc s.1 s.2.1 s.2.2) (xs24, xs54, 0)).bind fun x79 =>
  match x79 with
  | (xs73, xs76) =>
    some (⟨r1.old, xs73, xs76⟩ : l06R)
noncomputable def m_spec_l06R_visit_n : Nat → l06R → Int → Option l06R
  | 0 => fun _ _ => none
  | n + 1 => m_spec_l06R_visit_b (m_spec_l06R_visit_n n)
noncomputable def m_spec_l06R_visit : l06R → Int → Option l06R := m_spec_l06R_visit_n fuelN
noncomputable def m_spec_l06Number_l1 (nodes1 : (List Node)) (xs20 : (List Int)) (n23 : Int) : Option (((List Int) × Int) ⊕ (List Int)) :=
  bif decide (n23 < (nodes1.length : Int)) then
    (catL xs20 ([(-1)] : (List Int))).bind fun xs38 =>
    (chk (n23 + 1)).bind fun z48 =>
    some (.inl (xs38, z48))
  else
    some (.inr xs20)
noncomputable def m_spec_l06Number_l3 (nodes : List Node) (place : List Int) (i e : Int) (xs : List Node) (n : Int) : Option ((List Node × Int) ⊕ List Node) :=
  (getL nodes i).bind fun x =>
  bif decide (n < (x.Next.length : Int)) then
    (getL xs e).bind fun y =>
    (getL nodes i).bind fun x2 =>
    (getL x2.Next n).bind fun to =>
    (getL place to).bind fun p =>
    (catL y.Next ([p] : List Int)).bind fun ys =>
    (setL xs e (⟨y.Final, y.Letters, ys⟩ : Node)).bind fun xs2 =>
    (chk (n + 1)).bind fun z =>
    some (.inl (xs2, z))
  else
    some (.inr xs)
noncomputable def m_spec_l06Number_l2 (nodes : List Node) (place : List Int) (xs : List Node) (i : Int) : Option ((List Node × Int) ⊕ List Node) :=
  bif decide (i < (nodes.length : Int)) then
    ((getL place i).bind fun e =>
      bif decide (e < 0) then
        some xs
      else
        loopM (fun s : List Node × Int => m_spec_l06Number_l3 nodes place i e s.1 s.2) (xs, 0)).bind fun xs2 =>
    (chk (i + 1)).bind fun z =>
    some (.inl (xs2, z))
  else
    some (.inr xs)
noncomputable def m_spec_l06Number (nodes1 : (List Node)) (root5 : Int) : Option (List Node) :=
  (
      (loopM (fun s : (List Int) × Int => m_spec_l06Number_l1 nodes1 s.1 s.2) (([] : (List Int)), 0)).bind fun xs26 =>
      some (xs26, ([] : (List Node))) : Option ((List Int) × (List Node))).bind fun x17 =>
  match x17 with
  | (xs11, xs14) =>
    (m_spec_l06R_visit (⟨nodes1, xs11, xs14⟩ : l06R) root5).bind fun y56 =>
    (loopM (fun s : List Node × Int => m_spec_l06Number_l2 nodes1 y56.place s.1 s.2) (y56.out, 0)).bind fun xs =>
    some xs
noncomputable def m_spec_l06Build (list1 : (List Str)) : Option Dawg :=
  (m_spec_l06B_build (⟨([] : (List Node))⟩ : l06B) list1).bind fun y13 =>
  (m_spec_l06Number y13.2.nodes y13.1).bind fun y21 =>
  some (⟨y21⟩ : Dawg)
noncomputable def m_impl_small (c1 : UInt8) : Option Bool :=
  (
      bif decide (97 ≤ c1) then
        some (decide (c1 ≤ 122))
      else
        some false : Option Bool).bind fun t2 =>
  some t2
noncomputable def m_impl_formByte (c1 : UInt8) : Option Bool :=
  (
      (m_impl_small c1).bind fun y6 =>
      bif y6 then
        some true
      else
        some (c1 == 62) : Option Bool).bind fun t2 =>
  some t2
noncomputable def m_impl_within (x1 : Int) (low3 : Int) (high5 : Int) : Option Bool :=
  (
      bif decide (low3 ≤ x1) then
        some (decide (x1 ≤ high5))
      else
        some false : Option Bool).bind fun t7 =>
  some t7
noncomputable def m_impl_nodesOk_l2 (e34 : Node) (d1 : Dawg) (n56 : Int) : Option (Int ⊕ (Unit ⊕ Bool)) :=
  bif decide (n56 < (e34.Next.length : Int)) then
    (getL e34.Next n56).bind fun e65 =>
    (
        (getL e34.Letters n56).bind fun c79 =>
        (m_impl_formByte c79).bind fun y81 =>
        bif !y81 then
          some true
        else
          bif decide (0 < n56) then
            (chk (n56 - 1)).bind fun z89 =>
            (getL e34.Letters z89).bind fun c91 =>
            (getL e34.Letters n56).bind fun c93 =>
            bif decide (c93 ≤ c91) then
              some true
            else
              (chk ((d1.Nodes.length : Int) - 1)).bind fun z98 =>
              (m_impl_within e65 0 z98).bind fun y100 =>
              some (!y100)
          else
            (chk ((d1.Nodes.length : Int) - 1)).bind fun z107 =>
            (m_impl_within e65 0 z107).bind fun y109 =>
            some (!y109) : Option Bool).bind fun t74 =>
    bif t74 then
      some (.inr (.inr false))
    else
      (chk (n56 + 1)).bind fun z117 =>
      some (.inl z117)
  else
    some (.inr (.inl ()))
noncomputable def m_impl_nodesOk_l1 (d1 : Dawg) (n23 : Int) : Option (Int ⊕ (Unit ⊕ Bool)) :=
  bif decide (n23 < (d1.Nodes.length : Int)) then
    (
        (getL d1.Nodes n23).bind fun e34 =>
        bif (e34.Letters.length : Int) != (e34.Next.length : Int) then
          some (.inr false)
        else
          (loopM (fun s : Int => m_impl_nodesOk_l2 e34 d1 s) 0).bind fun x59 =>
          match x59 with
          | .inl _ =>
            some (.inl ())
          | .inr r123 =>
            some (.inr r123) : Option (Unit ⊕ Bool)).bind fun x32 =>
    match x32 with
    | .inl _ =>
      (chk (n23 + 1)).bind fun z126 =>
      some (.inl z126)
    | .inr r129 =>
      some (.inr (.inr r129))
  else
    some (.inr (.inl ()))
noncomputable def m_impl_nodesOk (d1 : Dawg) : Option Bool :=
  (
      bif decide ((d1.Nodes.length : Int) < 1) then
        some true
      else
        some (decide (3000 < (d1.Nodes.length : Int))) : Option Bool).bind fun t9 =>
  bif t9 then
    some false
  else
    (
        (loopM (fun s : Int => m_impl_nodesOk_l1 d1 s) 0).bind fun x26 =>
        match x26 with
        | .inl _ =>
          some (.inl ())
        | .inr r133 =>
          some (.inr r133) : Option (Unit ⊕ Bool)).bind fun x20 =>
    match x20 with
    | .inl _ =>
      some true
    | .inr r136 =>
      some r136
noncomputable def m_impl_inspector_visit_l1 (e41 : Node) (rc : inspector → Int → Option (Bool × inspector)) (x1 : inspector) (k13 : Int) (n94 : Int) (xs96 : (List Bool)) (xs99 : (List Int)) (xs102 : (List Int)) (n105 : Int) : Option ((Int × (List Bool) × (List Int) × (List Int) × Int) ⊕ ((Int × (List Bool) × (List Int) × (List Int)) ⊕ (Bool × inspector))) :=
  bif decide (n105 < (e41.Next.length : Int)) then
    (getL e41.Next n105).bind fun e125 =>
    (rc (⟨⟨x1.d.Nodes⟩, n94, xs96, xs99, xs102⟩ : inspector) e125).bind fun y134 =>
    bif !y134.1 then
      some (.inr (.inr (false, (⟨⟨x1.d.Nodes⟩, y134.2.met, y134.2.open_, y134.2.strings, y134.2.longest⟩ : inspector))))
    else
      (getL y134.2.strings k13).bind fun e148 =>
      (getL y134.2.strings e125).bind fun e157 =>
      (chk (e148 + e157)).bind fun z166 =>
      (getL y134.2.strings k13).bind fun e168 =>
      (setL y134.2.strings k13 (min z166 3001)).bind fun xs178 =>
      (getL y134.2.longest k13).bind fun e181 =>
      (getL y134.2.longest e125).bind fun e190 =>
      (chk (e190 + 1)).bind fun z199 =>
      (getL y134.2.longest k13).bind fun e201 =>
      (setL y134.2.longest k13 (max e181 z199)).bind fun xs211 =>
      (chk (n105 + 1)).bind fun z213 =>
      some (.inl (y134.2.met, y134.2.open_, xs178, xs211, z213))
  else
    some (.inr (.inl (n94, xs96, xs99, xs102)))
noncomputable def m_impl_inspector_visit_b (rc : inspector → Int → Option (Bool × inspector)) (x1 : inspector) (k13 : Int) : Option (Bool × inspector) :=
  bif decide (k13 < x1.met) then
    (getL x1.open_ k13).bind fun e16 =>
    some (!e16, x1)
  else
    bif decide (x1.met < k13) then
      some (false, x1)
    else
      (chk (x1.met + 1)).bind fun z25 =>
      (getL x1.open_ k13).bind fun e30 =>
      (setL x1.open_ k13 true).bind fun xs39 =>
      (getL x1.d.Nodes k13).bind fun e41 =>
      (
          bif e41.Final then
            (getL x1.strings k13).bind fun e65 =>
            (setL x1.strings k13 1).bind fun xs75 =>
            some xs75
          else
            some x1.strings : Option (List Int)).bind fun xs60 =>
      (
          (loopM (fun s : Int × (List Bool) × (List Int) × (List Int) × Int => m_impl_inspector_visit_l1 e41 rc x1 k13 s.1 s.2.1 s.2.2.1 s.2.2.2.1 s.2.2.2.2) (z25, xs39, xs60, x1.longest, 0)).bind fun x119 =>
          match x119 with
          | .inl (n108, xs110, xs113, xs116) =>
            some (.inl (n108, xs110, xs113, xs116))
          | .inr r219 =>
            some (.inr r219) : Option ((Int × (List Bool) × (List Int) × (List Int)) ⊕ (Bool × inspector))).bind fun x91 =>
      match x91 with
      | .inl (n80, xs82, xs85, xs88) =>
        (getL xs82 k13).bind fun e222 =>
        (setL xs82 k13 false).bind fun xs231 =>
        (
            (getL xs85 k13).bind fun e237 =>
            bif decide (0 < e237) then
              some true
            else
              some (k13 == 0) : Option Bool).bind fun t233 =>
        some (t233, (⟨⟨x1.d.Nodes⟩, n80, xs231, xs85, xs88⟩ : inspector))
      | .inr r250 =>
        some r250
noncomputable def m_impl_inspector_visit_n : Nat → inspector → Int → Option (Bool × inspector)
  | 0 => fun _ _ => none
  | n + 1 => m_impl_inspector_visit_b (m_impl_inspector_visit_n n)
noncomputable def m_impl_inspector_visit : inspector → Int → Option (Bool × inspector) := m_impl_inspector_visit_n fuelN
noncomputable def m_strings_Builder_copyCheck (b1 : Str) : Option Str :=
  some b1
noncomputable def m_strings_Builder_WriteByte (b1 : Str) (c7 : UInt8) : Option (Unit × Str) :=
  (m_strings_Builder_copyCheck b1).bind fun y8 =>
  (catL y8 ([c7] : Str)).bind fun xs20 =>
  some ((), xs20)
noncomputable def m_impl_Decimal (n1 : Int) : Option Str :=
  (m_strconv_FormatInt n1 10).bind fun y3 =>
  some y3
noncomputable def m_strings_Builder_WriteString (b1 : Str) (s7 : Str) : Option (Int × Unit × Str) :=
  (m_strings_Builder_copyCheck b1).bind fun y9 =>
  (catL y9 s7).bind fun xs18 =>
  some ((s7.length : Int), (), xs18)
noncomputable def m_strings_Builder_String (b1 : Str) : Option Str :=
  some b1
noncomputable def m_impl_keyOf_l1 (n1 : Node) (xs44 : Str) (n47 : Int) : Option ((Str × Int) ⊕ Str) :=
  bif decide (n47 < (n1.Next.length : Int)) then
    (getL n1.Next n47).bind fun e61 =>
    (chk (n47 + 1)).bind fun z71 =>
    (subL n1.Letters n47 z71).bind fun s73 =>
    (m_impl_Decimal e61).bind fun y75 =>
    (catL s73 y75).bind fun s81 =>
    (catL s81 ([32] : Str)).bind fun s83 =>
    (m_strings_Builder_WriteString xs44 s83).bind fun y85 =>
    (chk (n47 + 1)).bind fun z95 =>
    some (.inl (y85.2.2, z95))
  else
    some (.inr xs44)
noncomputable def m_impl_keyOf (n1 : Node) : Option Str :=
  (
      bif n1.Final then
        (m_strings_Builder_WriteByte ([] : Str) 43).bind fun y22 =>
        some y22.2
      else
        some ([] : Str) : Option Str).bind fun xs16 =>
  (
      (loopM (fun s : Str × Int => m_impl_keyOf_l1 n1 s.1 s.2) (xs16, 0)).bind fun xs52 =>
      some xs52 : Option Str).bind fun xs36 =>
  (m_strings_Builder_String xs36).bind fun y103 =>
  some y103
noncomputable def m_impl_ValidDawg_l1 (d1 : Dawg) (mp127 : (List (Str × Bool))) (n129 : Int) : Option (((List (Str × Bool)) × Int) ⊕ ((List (Str × Bool)) ⊕ Bool)) :=
  bif decide (n129 < (d1.Nodes.length : Int)) then
    (getL d1.Nodes n129).bind fun e140 =>
    (m_impl_keyOf e140).bind fun y159 =>
    bif (getM mp127 y159).getD false then
      some (.inr (.inr false))
    else
      (chk (n129 + 1)).bind fun z167 =>
      some (.inl (putM mp127 y159 true, z167))
  else
    some (.inr (.inl mp127))
noncomputable def m_impl_ValidDawg (d1 : Dawg) : Option Bool :=
  (
      (m_impl_nodesOk d1).bind fun y13 =>
      bif !y13 then
        some true
      else
        (getL d1.Nodes 0).bind fun e20 =>
        some e20.Final : Option Bool).bind fun t9 =>
  bif t9 then
    some false
  else
    (makeL (d1.Nodes.length : Int) (false : Bool)).bind fun xs37 =>
    (makeL (d1.Nodes.length : Int) (0 : Int)).bind fun xs42 =>
    (makeL (d1.Nodes.length : Int) (0 : Int)).bind fun xs47 =>
    (
        (m_impl_inspector_visit (⟨⟨d1.Nodes⟩, 0, xs37, xs42, xs47⟩ : inspector) 0).bind fun y80 =>
        bif !y80.1 then
          some (y80.2.met, y80.2.open_, y80.2.strings, y80.2.longest, true)
        else
          bif y80.2.met != (d1.Nodes.length : Int) then
            some (y80.2.met, y80.2.open_, y80.2.strings, y80.2.longest, true)
          else
            (getL y80.2.strings 0).bind fun e96 =>
            bif decide (3000 < e96) then
              some (y80.2.met, y80.2.open_, y80.2.strings, y80.2.longest, true)
            else
              (getL y80.2.longest 0).bind fun e107 =>
              some (y80.2.met, y80.2.open_, y80.2.strings, y80.2.longest, decide (13 < e107)) : Option (Int × (List Bool) × (List Int) × (List Int) × Bool)).bind fun x78 =>
    match x78 with
    | (n65, xs67, xs70, xs73, t76) =>
      bif t76 then
        some false
      else
        (
            (loopM (fun s : (List (Str × Bool)) × Int => m_impl_ValidDawg_l1 d1 s.1 s.2) (([] : (List (Str × Bool))), 0)).bind fun x134 =>
            match x134 with
            | .inl mp132 =>
              some (.inl mp132)
            | .inr r173 =>
              some (.inr r173) : Option ((List (Str × Bool)) ⊕ Bool)).bind fun x124 =>
        match x124 with
        | .inl mp122 =>
          some true
        | .inr r176 =>
          some r176
noncomputable def m_impl_Dawg_words_1_l1 (e23 : Node) (rc : Int → Dawg → (List Str) → Str → Option ((List Str) × Str)) (p3 : Dawg) (xs66 : (List Str)) (xs69 : Str) (n72 : Int) : Option (((List Str) × Str × Int) ⊕ ((List Str) × Str)) :=
  bif decide (n72 < (e23.Next.length : Int)) then
    (getL e23.Next n72).bind fun e87 =>
    (getL e23.Letters n72).bind fun c97 =>
    (catL xs69 ([c97] : Str)).bind fun xs102 =>
    (rc e87 p3 xs66 xs102).bind fun y112 =>
    (chk ((y112.2.length : Int) - 1)).bind fun z122 =>
    (subL y112.2 0 z122).bind fun l124 =>
    (chk (n72 + 1)).bind fun z130 =>
    some (.inl (y112.1, l124, z130))
  else
    some (.inr (xs66, xs69))
noncomputable def m_impl_Dawg_words_1_b (rc : Int → Dawg → (List Str) → Str → Option ((List Str) × Str)) (node1 : Int) (p3 : Dawg) (p7 : (List Str)) (p11 : Str) : Option ((List Str) × Str) :=
  (getL p3.Nodes node1).bind fun e23 =>
  (
      bif e23.Final then
        (catL p7 ([p11] : (List Str))).bind fun xs52 =>
        some xs52
      else
        some p7 : Option (List Str)).bind fun xs42 =>
  (loopM (fun s : (List Str) × Str × Int => m_impl_Dawg_words_1_l1 e23 rc p3 s.1 s.2.1 s.2.2) (xs42, p11, 0)).bind fun x81 =>
  match x81 with
  | (xs75, xs78) =>
    some (xs75, xs78)
noncomputable def m_impl_Dawg_words_1_n : Nat → Int → Dawg → (List Str) → Str → Option ((List Str) × Str)
  | 0 => fun _ _ _ _ => none
  | n + 1 => m_impl_Dawg_words_1_b (m_impl_Dawg_words_1_n n)
noncomputable def m_impl_Dawg_words_1 : Int → Dawg → (List Str) → Str → Option ((List Str) × Str) := m_impl_Dawg_words_1_n fuelN
noncomputable def m_impl_Dawg_words (d1 : Dawg) : Option (List Str) :=
  (m_impl_Dawg_words_1 0 d1 ([] : (List Str)) ([] : Str)).bind fun y36 =>
  some y36.1
noncomputable def m_impl_selected_string_l1 (list1 : (List Str)) (is5 : (Str → Option Bool)) (xs21 : (List Str)) (n24 : Int) : Option (((List Str) × Int) ⊕ (List Str)) :=
  bif decide (n24 < (list1.length : Int)) then
    (
        (getL list1 n24).bind fun e41 =>
        (is5 e41).bind fun y50 =>
        bif y50 then
          (catL xs21 ([e41] : (List Str))).bind fun xs59 =>
          some xs59
        else
          some xs21 : Option (List Str)).bind fun xs36 =>
    (chk (n24 + 1)).bind fun z69 =>
    some (.inl (xs36, z69))
  else
    some (.inr xs21)
noncomputable def m_impl_selected_string (list1 : (List Str)) (is5 : (Str → Option Bool)) : Option (List Str) :=
  (
      (loopM (fun s : (List Str) × Int => m_impl_selected_string_l1 list1 is5 s.1 s.2) (([] : (List Str)), 0)).bind fun xs27 =>
      some xs27 : Option (List Str)).bind fun xs15 =>
  some xs15
noncomputable def m_impl_chosen (a1 : Dawg) (b5 : Dawg) (of9 : (Str → Option Bool)) : Option (List Str) :=
  (m_impl_Dawg_words a1).bind fun y25 =>
  (m_impl_Dawg_words b5).bind fun y32 =>
  (catL y25 y32).bind fun xs39 =>
  (m_slices_Sort_string_string xs39).bind fun y46 =>
  (m_slices_Compact_string_string y46).bind fun y53 =>
  (m_impl_selected_string y53 of9).bind fun y62 =>
  some y62
noncomputable def m_impl_maker_node (m1 : maker) (n7 : Node) : Option (Int × maker) :=
  (m_impl_keyOf n7).bind fun y16 =>
  (
      bif !((getM m1.register y16).isSome) then
        (catL m1.nodes ([n7] : (List Node))).bind fun xs38 =>
        some (putM m1.register y16 (m1.nodes.length : Int), xs38, (m1.nodes.length : Int))
      else
        some (m1.register, m1.nodes, (getM m1.register y16).getD 0) : Option ((List (Str × Int)) × (List Node) × Int)).bind fun x30 =>
  match x30 with
  | (mp22, xs25, n28) =>
    some (n28, (⟨xs25, mp22⟩ : maker))
noncomputable def m_impl_maker_build_l2 (l81 : (List Str)) (depth11 : Int) (c112 : UInt8) (n118 : Int) : Option (Int ⊕ Int) :=
  (
      bif decide (n118 < (l81.length : Int)) then
        (getL l81 n118).bind fun e134 =>
        (getL e134 depth11).bind fun c143 =>
        some (c143 == c112)
      else
        some false : Option Bool).bind fun t128 =>
  bif t128 then
    (chk (n118 + 1)).bind fun z149 =>
    some (.inl z149)
  else
    some (.inr n118)
noncomputable def m_impl_maker_build_l1 (depth11 : Int) (rc : maker → (List Str) → Int → Option (Int × maker)) (s70 : Str) (mp72 : (List (Str × Int))) (xs75 : (List Node)) (xs78 : (List Int)) (l81 : (List Str)) : Option ((Str × (List (Str × Int)) × (List Node) × (List Int) × (List Str)) ⊕ (Str × (List (Str × Int)) × (List Node) × (List Int))) :=
  bif decide (0 < (l81.length : Int)) then
    (getL l81 0).bind fun e103 =>
    (getL e103 depth11).bind fun c112 =>
    (
        (loopM (fun s : Int => m_impl_maker_build_l2 l81 depth11 c112 s) 1).bind fun n121 =>
        some n121 : Option Int).bind fun n114 =>
    (encR (c112.toNat : Int)).bind fun s157 =>
    (catL s70 s157).bind fun s159 =>
    (subL l81 0 n114).bind fun l165 =>
    (chk (depth11 + 1)).bind fun z170 =>
    (rc (⟨xs75, mp72⟩ : maker) l165 z170).bind fun y172 =>
    (catL xs78 ([y172.1] : (List Int))).bind fun xs187 =>
    (subL l81 n114 (l81.length : Int)).bind fun l197 =>
    some (.inl (s159, y172.2.register, y172.2.nodes, xs187, l197))
  else
    some (.inr (s70, mp72, xs75, xs78))
noncomputable def m_impl_maker_build_b (rc : maker → (List Str) → Int → Option (Int × maker)) (m1 : maker) (list7 : (List Str)) (depth11 : Int) : Option (Int × maker) :=
  (
      (
          bif decide (0 < (list7.length : Int)) then
            (getL list7 0).bind fun e33 =>
            some ((e33.length : Int) == depth11)
          else
            some false : Option Bool).bind fun t27 =>
      bif t27 then
        (subL list7 1 (list7.length : Int)).bind fun l49 =>
        some (true, l49)
      else
        some (false, list7) : Option (Bool × (List Str))).bind fun x25 =>
  match x25 with
  | (t20, l22) =>
    (
        (loopM (fun s : Str × (List (Str × Int)) × (List Node) × (List Int) × (List Str) => m_impl_maker_build_l1 depth11 rc s.1 s.2.1 s.2.2.1 s.2.2.2.1 s.2.2.2.2) (([] : Str), m1.register, m1.nodes, ([] : (List Int)), l22)).bind fun x96 =>
        match x96 with
        | (s85, mp87, xs90, xs93) =>
          some (s85, xs93, mp87, xs90) : Option (Str × (List Int) × (List (Str × Int)) × (List Node))).bind fun x68 =>
    match x68 with
    | (s57, xs59, mp62, xs65) =>
      (m_impl_maker_node (⟨xs65, mp62⟩ : maker) (⟨t20, s57, xs59⟩ : Node)).bind fun y208 =>
      some (y208.1, y208.2)
noncomputable def m_impl_maker_build_n : Nat → maker → (List Str) → Int → Option (Int × maker)
  | 0 => fun _ _ _ => none
  | n + 1 => m_impl_maker_build_b (m_impl_maker_build_n n)
noncomputable def m_impl_maker_build : maker → (List Str) → Int → Option (Int × maker) := m_impl_maker_build_n fuelN
noncomputable def m_impl_maker_numbered_1_l1 (e33 : Node) (rc : Int → (List (Int × Int)) → Dawg → maker → Option (Int × (List (Int × Int)) × Dawg)) (p11 : maker) (mp80 : (List (Int × Int))) (xs83 : (List Node)) (xs86 : (List Int)) (n89 : Int) : Option (((List (Int × Int)) × (List Node) × (List Int) × Int) ⊕ ((List (Int × Int)) × (List Node) × (List Int))) :=
  bif decide (n89 < (e33.Next.length : Int)) then
    (getL e33.Next n89).bind fun e107 =>
    (rc e107 mp80 (⟨xs83⟩ : Dawg) p11).bind fun y116 =>
    (catL xs86 ([y116.1] : (List Int))).bind fun xs129 =>
    (chk (n89 + 1)).bind fun z136 =>
    some (.inl (y116.2.1, y116.2.2.Nodes, xs129, z136))
  else
    some (.inr (mp80, xs83, xs86))
noncomputable def m_impl_maker_numbered_1_b (rc : Int → (List (Int × Int)) → Dawg → maker → Option (Int × (List (Int × Int)) × Dawg)) (k1 : Int) (p3 : (List (Int × Int))) (p7 : Dawg) (p11 : maker) : Option (Int × (List (Int × Int)) × Dawg) :=
  bif (getM p3 k1).isSome then
    some ((getM p3 k1).getD 0, p3, p7)
  else
    (getL p11.nodes k1).bind fun e33 =>
    (catL p7.Nodes ([(⟨e33.Final, e33.Letters, ([] : (List Int))⟩ : Node)] : (List Node))).bind fun xs55 =>
    (
        (loopM (fun s : (List (Int × Int)) × (List Node) × (List Int) × Int => m_impl_maker_numbered_1_l1 e33 rc p11 s.1 s.2.1 s.2.2.1 s.2.2.2) (putM p3 k1 (p7.Nodes.length : Int), xs55, ([] : (List Int)), 0)).bind fun x101 =>
        match x101 with
        | (mp92, xs95, xs98) =>
          some (mp92, xs95, xs98) : Option ((List (Int × Int)) × (List Node) × (List Int))).bind fun x77 =>
    match x77 with
    | (mp68, xs71, xs74) =>
      (getL xs71 (p7.Nodes.length : Int)).bind fun e144 =>
      (setL xs71 (p7.Nodes.length : Int) (⟨e144.Final, e144.Letters, xs74⟩ : Node)).bind fun xs157 =>
      some ((p7.Nodes.length : Int), mp68, (⟨xs157⟩ : Dawg))
noncomputable def m_impl_maker_numbered_1_n : Nat → Int → (List (Int × Int)) → Dawg → maker → Option (Int × (List (Int × Int)) × Dawg)
  | 0 => fun _ _ _ _ => none
  | n + 1 => m_impl_maker_numbered_1_b (m_impl_maker_numbered_1_n n)
noncomputable def m_impl_maker_numbered_1 : Int → (List (Int × Int)) → Dawg → maker → Option (Int × (List (Int × Int)) × Dawg) := m_impl_maker_numbered_1_n fuelN
noncomputable def m_impl_maker_numbered (m1 : maker) (root5 : Int) : Option Dawg :=
  (m_impl_maker_numbered_1 root5 ([] : (List (Int × Int))) (⟨([] : (List Node))⟩ : Dawg) m1).bind fun y39 =>
  some (⟨y39.2.2.Nodes⟩ : Dawg)
noncomputable def m_impl_dawgOf (list1 : (List Str)) : Option (Dawg × Int) :=
  bif decide (3000 < (list1.length : Int)) then
    some ((⟨([] : (List Node))⟩ : Dawg), 5)
  else
    (m_impl_maker_build (⟨([] : (List Node)), ([] : (List (Str × Int)))⟩ : maker) list1 0).bind fun y22 =>
    (m_impl_maker_numbered y22.2 y22.1).bind fun y32 =>
    bif decide (3000 < (y32.Nodes.length : Int)) then
      some ((⟨([] : (List Node))⟩ : Dawg), 5)
    else
      some (y32, 0)
noncomputable def m_impl_combined (a1 : Dawg) (b5 : Dawg) (of9 : (Str → Option Bool)) : Option (Dawg × Int) :=
  (
      (m_impl_ValidDawg a1).bind fun y32 =>
      bif !y32 then
        some true
      else
        (m_impl_ValidDawg b5).bind fun y39 =>
        some (!y39) : Option Bool).bind fun t28 =>
  bif t28 then
    some ((⟨([] : (List Node))⟩ : Dawg), 1)
  else
    (m_impl_chosen a1 b5 of9).bind fun y51 =>
    (m_impl_dawgOf y51).bind fun y58 =>
    some (y58.1, y58.2)
noncomputable def m_impl_Dawg_step (d1 : Dawg) (node5 : Int) (letter7 : UInt8) : Option Int :=
  (chk ((d1.Nodes.length : Int) - 1)).bind fun z13 =>
  (m_impl_within node5 0 z13).bind fun y15 =>
  bif !y15 then
    some (-1)
  else
    (getL d1.Nodes node5).bind fun e21 =>
    (m_strings_IndexByte e21.Letters letter7).bind fun y40 =>
    bif decide (0 ≤ y40) then
      (getL e21.Next y40).bind fun e47 =>
      some e47
    else
      some (-1)
noncomputable def m_impl_Dawg_after_l1 (s5 : Str) (d1 : Dawg) (n15 : Int) (n17 : Int) : Option ((Int × Int) ⊕ Int) :=
  (
      bif decide (n17 < (s5.length : Int)) then
        some (decide (0 ≤ n15))
      else
        some false : Option Bool).bind fun t27 =>
  bif t27 then
    (getL s5 n17).bind fun c37 =>
    (m_impl_Dawg_step d1 n15 c37).bind fun y39 =>
    (chk (n17 + 1)).bind fun z45 =>
    some (.inl (y39, z45))
  else
    some (.inr n15)
noncomputable def m_impl_Dawg_after (d1 : Dawg) (s5 : Str) : Option Int :=
  (
      (loopM (fun s : Int × Int => m_impl_Dawg_after_l1 s5 d1 s.1 s.2) (0, 0)).bind fun n20 =>
      some n20 : Option Int).bind fun n11 =>
  some n11
noncomputable def m_impl_Dawg_accepts (d1 : Dawg) (s5 : Str) : Option Bool :=
  (m_impl_Dawg_after d1 s5).bind fun y11 =>
  (
      bif decide (0 ≤ y11) then
        (getL d1.Nodes y11).bind fun e22 =>
        some e22.Final
      else
        some false : Option Bool).bind fun t17 =>
  some t17
noncomputable def m_impl_minus_has (x1 : minus) (s8 : Str) : Option Bool :=
  (
      (m_impl_Dawg_accepts x1.a s8).bind fun y18 =>
      bif y18 then
        (m_impl_Dawg_accepts x1.b s8).bind fun y24 =>
        some (!y24)
      else
        some false : Option Bool).bind fun t14 =>
  some t14
noncomputable def m_impl_MinusDawg (a1 : Dawg) (b5 : Dawg) : Option (Dawg × Int) :=
  (m_impl_combined a1 b5 (fun u21 => m_impl_minus_has (⟨⟨a1.Nodes⟩, ⟨b5.Nodes⟩⟩ : minus) u21)).bind fun y23 =>
  some (y23.1, y23.2)
noncomputable def m_spec_l00In (n1 : Int) (low3 : Int) (high5 : Int) : Option Bool :=
  (
      bif decide (low3 ≤ n1) then
        some (decide (n1 ≤ high5))
      else
        some false : Option Bool).bind fun t7 =>
  some t7
noncomputable def m_spec_l01Small (c1 : UInt8) : Option Bool :=
  (
      bif decide (97 ≤ c1) then
        some (decide (c1 ≤ 122))
      else
        some false : Option Bool).bind fun t2 =>
  some t2
noncomputable def m_spec_l06Shape_l2 (e29 : Node) (d1 : Dawg) (n44 : Int) : Option (Int ⊕ (Unit ⊕ Bool)) :=
  bif decide (n44 < (e29.Next.length : Int)) then
    (
        (getL e29.Next n44).bind fun e59 =>
        (chk ((d1.Nodes.length : Int) - 1)).bind fun z68 =>
        (m_spec_l00In e59 0 z68).bind fun y70 =>
        bif !y70 then
          some true
        else
          (getL e29.Letters n44).bind fun c77 =>
          bif c77 != 62 then
            (getL e29.Letters n44).bind fun c80 =>
            (m_spec_l01Small c80).bind fun y82 =>
            bif !y82 then
              some true
            else
              bif decide (0 < n44) then
                (getL e29.Letters n44).bind fun c90 =>
                (chk (n44 - 1)).bind fun z92 =>
                (getL e29.Letters z92).bind fun c94 =>
                some (decide (c90 ≤ c94))
              else
                some false
          else
            bif decide (0 < n44) then
              (getL e29.Letters n44).bind fun c99 =>
              (chk (n44 - 1)).bind fun z101 =>
              (getL e29.Letters z101).bind fun c103 =>
              some (decide (c99 ≤ c103))
            else
              some false : Option Bool).bind fun t54 =>
    bif t54 then
      some (.inr (.inr false))
    else
      (chk (n44 + 1)).bind fun z109 =>
      some (.inl z109)
  else
    some (.inr (.inl ()))
noncomputable def m_spec_l06Shape_l1 (d1 : Dawg) (x18 : Int) : Option (Int ⊕ (Unit ⊕ Bool)) :=
  bif decide (x18 < (d1.Nodes.length : Int)) then
    (
        (getL d1.Nodes x18).bind fun e29 =>
        bif (e29.Letters.length : Int) != (e29.Next.length : Int) then
          some (.inr false)
        else
          (loopM (fun s : Int => m_spec_l06Shape_l2 e29 d1 s) 0).bind fun x47 =>
          match x47 with
          | .inl _ =>
            some (.inl ())
          | .inr r115 =>
            some (.inr r115) : Option (Unit ⊕ Bool)).bind fun x27 =>
    match x27 with
    | .inl _ =>
      (chk (x18 + 1)).bind fun z118 =>
      some (.inl z118)
    | .inr r121 =>
      some (.inr (.inr r121))
  else
    some (.inr (.inl ()))
noncomputable def m_spec_l06Shape (d1 : Dawg) : Option Bool :=
  (m_spec_l00In (d1.Nodes.length : Int) 1 3000).bind fun y10 =>
  bif !y10 then
    some false
  else
    (
        (loopM (fun s : Int => m_spec_l06Shape_l1 d1 s) 0).bind fun x21 =>
        match x21 with
        | .inl _ =>
          some (.inl ())
        | .inr r125 =>
          some (.inr r125) : Option (Unit ⊕ Bool)).bind fun x16 =>
    match x16 with
    | .inl _ =>
      some true
    | .inr r128 =>
      some r128
noncomputable def m_spec_l06Useful_l3 (d1 : Dawg) (k33 : Int) (xs89 : (List Bool)) (i90 : Int) : Option (((List Bool) × Int) ⊕ (List Bool)) :=
  (getL d1.Nodes k33).bind fun e99 =>
  bif decide (i90 < (e99.Next.length : Int)) then
    (
        (getL xs89 k33).bind fun e116 =>
        bif e116 then
          (getL xs89 k33).bind fun e123 =>
          (setL xs89 k33 true).bind fun xs130 =>
          some xs130
        else
          (getL d1.Nodes k33).bind fun e133 =>
          (getL e133.Next i90).bind fun e145 =>
          (getL xs89 e145).bind fun e154 =>
          (getL xs89 k33).bind fun e160 =>
          (setL xs89 k33 e154).bind fun xs167 =>
          some xs167 : Option (List Bool)).bind fun xs113 =>
    (chk (i90 + 1)).bind fun z171 =>
    some (.inl (xs113, z171))
  else
    some (.inr xs89)
noncomputable def m_spec_l06Useful_l2 (d1 : Dawg) (xs32 : (List Bool)) (k33 : Int) : Option (((List Bool) × Int) ⊕ (List Bool)) :=
  bif decide (k33 < (d1.Nodes.length : Int)) then
    (
        (
            (getL xs32 k33).bind fun e49 =>
            bif e49 then
              (getL xs32 k33).bind fun e56 =>
              (setL xs32 k33 true).bind fun xs63 =>
              some xs63
            else
              (getL d1.Nodes k33).bind fun e66 =>
              (getL xs32 k33).bind fun e78 =>
              (setL xs32 k33 e66.Final).bind fun xs85 =>
              some xs85 : Option (List Bool)).bind fun xs46 =>
        (loopM (fun s : (List Bool) × Int => m_spec_l06Useful_l3 d1 k33 s.1 s.2) (xs46, 0)).bind fun xs93 =>
        some xs93 : Option (List Bool)).bind fun xs43 =>
    (chk (k33 + 1)).bind fun z179 =>
    some (.inl (xs43, z179))
  else
    some (.inr xs32)
noncomputable def m_spec_l06Useful_l1 (d1 : Dawg) (xs18 : (List Bool)) (i19 : Int) : Option (((List Bool) × Int) ⊕ (List Bool)) :=
  bif decide (i19 ≤ 13) then
    (
        (loopM (fun s : (List Bool) × Int => m_spec_l06Useful_l2 d1 s.1 s.2) (xs18, 0)).bind fun xs36 =>
        some xs36 : Option (List Bool)).bind fun xs29 =>
    (chk (i19 + 1)).bind fun z187 =>
    some (.inl (xs29, z187))
  else
    some (.inr xs18)
noncomputable def m_spec_l06Useful_l4 (d1 : Dawg) (xs15 : (List Bool)) (n197 : Int) : Option (Int ⊕ (Unit ⊕ Bool)) :=
  bif decide (n197 < (d1.Nodes.length : Int)) then
    (getL xs15 n197).bind fun e206 =>
    bif !e206 then
      some (.inr (.inr false))
    else
      (chk (n197 + 1)).bind fun z213 =>
      some (.inl z213)
  else
    some (.inr (.inl ()))
noncomputable def m_spec_l06Useful (d1 : Dawg) : Option Bool :=
  (makeL (d1.Nodes.length : Int) (false : Bool)).bind fun xs10 =>
  (
      (loopM (fun s : (List Bool) × Int => m_spec_l06Useful_l1 d1 s.1 s.2) (xs10, 0)).bind fun xs22 =>
      some xs22 : Option (List Bool)).bind fun xs15 =>
  (
      (loopM (fun s : Int => m_spec_l06Useful_l4 d1 xs15 s) 1).bind fun x200 =>
      match x200 with
      | .inl _ =>
        some (.inl ())
      | .inr r219 =>
        some (.inr r219) : Option (Unit ⊕ Bool)).bind fun x195 =>
  match x195 with
  | .inl _ =>
    some true
  | .inr r222 =>
    some r222
noncomputable def m_spec_l06W_walk_l1 (e28 : Node) (s10 : Str) (rc : l06W → Int → Str → Option l06W) (w1 : l06W) (t68 : Bool) (xs70 : (List Str)) (n73 : Int) : Option ((Bool × (List Str) × Int) ⊕ (Bool × (List Str))) :=
  (
      bif decide (n73 < (e28.Next.length : Int)) then
        some (!t68)
      else
        some false : Option Bool).bind fun t86 =>
  bif t86 then
    (getL e28.Next n73).bind fun e97 =>
    (chk (n73 + 1)).bind fun z106 =>
    (subL e28.Letters n73 z106).bind fun s108 =>
    (catL s10 s108).bind fun s110 =>
    (rc (⟨w1.d, xs70, t68⟩ : l06W) e97 s110).bind fun y112 =>
    (chk (n73 + 1)).bind fun z119 =>
    some (.inl (y112.full, y112.out, z119))
  else
    some (.inr (t68, xs70))
noncomputable def m_spec_l06W_walk_b (rc : l06W → Int → Str → Option l06W) (w1 : l06W) (node8 : Int) (s10 : Str) : Option l06W :=
  (
      bif w1.full then
        some true
      else
        some (decide (13 < (s10.length : Int))) : Option Bool).bind fun t12 =>
  bif t12 then
    some (⟨w1.d, w1.out, true⟩ : l06W)
  else
    (getL w1.d.Nodes node8).bind fun e28 =>
    (
        bif e28.Final then
          (catL w1.out ([s10] : (List Str))).bind fun xs51 =>
          some (decide (3000 < (xs51.length : Int)), xs51)
        else
          some (w1.full, w1.out) : Option (Bool × (List Str))).bind fun x45 =>
    match x45 with
    | (t40, xs42) =>
      (loopM (fun s : Bool × (List Str) × Int => m_spec_l06W_walk_l1 e28 s10 rc w1 s.1 s.2.1 s.2.2) (t40, xs42, 0)).bind fun x81 =>
      match x81 with
      | (t76, xs78) =>
        some (⟨w1.d, xs78, t76⟩ : l06W)
noncomputable def m_spec_l06W_walk_n : Nat → l06W → Int → Str → Option l06W
  | 0 => fun _ _ _ => none
  | n + 1 => m_spec_l06W_walk_b (m_spec_l06W_walk_n n)
noncomputable def m_spec_l06W_walk : l06W → Int → Str → Option l06W := m_spec_l06W_walk_n fuelN
noncomputable def m_spec_l06Words (d1 : Dawg) : Option ((List Str) × Bool) :=
  (m_spec_l06W_walk (⟨d1, ([] : (List Str)), false⟩ : l06W) 0 ([] : Str)).bind fun y12 =>
  some (y12.out, !y12.full)
noncomputable def m_spec_l06Same_l1 (a1 : Dawg) (b5 : Dawg) (n23 : Int) : Option (Int ⊕ (Unit ⊕ Bool)) :=
  bif decide (n23 < (a1.Nodes.length : Int)) then
    (getL a1.Nodes n23).bind fun e34 =>
    (getL b5.Nodes n23).bind fun e46 =>
    (m_spec_l06Equal e34 e46).bind fun y58 =>
    bif !y58 then
      some (.inr (.inr false))
    else
      (chk (n23 + 1)).bind fun z64 =>
      some (.inl z64)
  else
    some (.inr (.inl ()))
noncomputable def m_spec_l06Same (a1 : Dawg) (b5 : Dawg) : Option Bool :=
  bif (a1.Nodes.length : Int) != (b5.Nodes.length : Int) then
    some false
  else
    (
        (loopM (fun s : Int => m_spec_l06Same_l1 a1 b5 s) 0).bind fun x26 =>
        match x26 with
        | .inl _ =>
          some (.inl ())
        | .inr r70 =>
          some (.inr r70) : Option (Unit ⊕ Bool)).bind fun x21 =>
    match x21 with
    | .inl _ =>
      some true
    | .inr r73 =>
      some r73
noncomputable def m_spec_l06Ok (d1 : Dawg) : Option Bool :=
  (
      (m_spec_l06Shape d1).bind fun y9 =>
      bif !y9 then
        some true
      else
        (getL d1.Nodes 0).bind fun e20 =>
        bif e20.Final then
          some true
        else
          (m_spec_l06Useful d1).bind fun y34 =>
          some (!y34) : Option Bool).bind fun t5 =>
  bif t5 then
    some false
  else
    (m_spec_l06Words d1).bind fun y42 =>
    bif !y42.2 then
      some false
    else
      (m_spec_l06Build y42.1).bind fun y50 =>
      (m_spec_l06Same d1 y50).bind fun y65 =>
      some y65
noncomputable def m_laws_szInt64S (a1 : (List Int)) (left5 : Int) : Option Int :=
  (chk (left5 - (a1.length : Int))).bind fun z8 =>
  bif decide (z8 < 0) then
    some (-1)
  else
    some z8
noncomputable def m_laws_szNode (a1 : Node) (left6 : Int) : Option Int :=
  (chk (left6 - (a1.Letters.length : Int))).bind fun z12 =>
  bif decide (z12 < 0) then
    some (-1)
  else
    (m_laws_szInt64S a1.Next z12).bind fun y15 =>
    bif decide (y15 < 0) then
      some (-1)
    else
      some y15
noncomputable def m_laws_szNodeS_l1 (a1 : (List Node)) (left15 : Int) (n17 : Int) : Option ((Int × Int) ⊕ (Int ⊕ Int)) :=
  bif decide (n17 < (a1.length : Int)) then
    (getL a1 n17).bind fun e29 =>
    (m_laws_szNode e29 left15).bind fun y41 =>
    bif decide (y41 < 0) then
      some (.inr (.inr (-1)))
    else
      (chk (n17 + 1)).bind fun z48 =>
      some (.inl (y41, z48))
  else
    some (.inr (.inl left15))
noncomputable def m_laws_szNodeS (a1 : (List Node)) (left5 : Int) : Option Int :=
  (chk (left5 - (a1.length : Int))).bind fun z8 =>
  bif decide (z8 < 0) then
    some (-1)
  else
    (
        (loopM (fun s : Int × Int => m_laws_szNodeS_l1 a1 s.1 s.2) (z8, 0)).bind fun x22 =>
        match x22 with
        | .inl left20 =>
          some (.inl left20)
        | .inr r54 =>
          some (.inr r54) : Option (Int ⊕ Int)).bind fun x13 =>
    match x13 with
    | .inl left11 =>
      some left11
    | .inr r57 =>
      some r57
noncomputable def m_laws_szDawg (a1 : Dawg) (left5 : Int) : Option Int :=
  (m_laws_szNodeS a1.Nodes left5).bind fun y11 =>
  bif decide (y11 < 0) then
    some (-1)
  else
    some y11
noncomputable def m_laws_toInt64S_l1 (a1 : (List Int)) (xs14 : (List Int)) (n15 : Int) : Option (((List Int) × Int) ⊕ (List Int)) :=
  bif decide (n15 < (a1.length : Int)) then
    (getL a1 n15).bind fun e26 =>
    (getL xs14 n15).bind fun e35 =>
    (setL xs14 n15 e26).bind fun xs43 =>
    (chk (n15 + 1)).bind fun z45 =>
    some (.inl (xs43, z45))
  else
    some (.inr xs14)
noncomputable def m_laws_toInt64S (a1 : (List Int)) : Option (List Int) :=
  (makeL (a1.length : Int) (0 : Int)).bind fun xs6 =>
  (
      (loopM (fun s : (List Int) × Int => m_laws_toInt64S_l1 a1 s.1 s.2) (xs6, 0)).bind fun xs18 =>
      some xs18 : Option (List Int)).bind fun xs11 =>
  some xs11
noncomputable def m_laws_toNode (a1 : Node) : Option Node :=
  (m_laws_toInt64S a1.Next).bind fun y24 =>
  some (⟨a1.Final, a1.Letters, y24⟩ : Node)
noncomputable def m_laws_toNodeS_l1 (a1 : (List Node)) (xs14 : (List Node)) (n15 : Int) : Option (((List Node) × Int) ⊕ (List Node)) :=
  bif decide (n15 < (a1.length : Int)) then
    (getL a1 n15).bind fun e26 =>
    (m_laws_toNode e26).bind fun y38 =>
    (getL xs14 n15).bind fun e46 =>
    (setL xs14 n15 y38).bind fun xs57 =>
    (chk (n15 + 1)).bind fun z59 =>
    some (.inl (xs57, z59))
  else
    some (.inr xs14)
noncomputable def m_laws_toNodeS (a1 : (List Node)) : Option (List Node) :=
  (makeL (a1.length : Int) (⟨false, ([] : Str), ([] : (List Int))⟩ : Node)).bind fun xs6 =>
  (
      (loopM (fun s : (List Node) × Int => m_laws_toNodeS_l1 a1 s.1 s.2) (xs6, 0)).bind fun xs18 =>
      some xs18 : Option (List Node)).bind fun xs11 =>
  some xs11
noncomputable def m_laws_toDawg (a1 : Dawg) : Option Dawg :=
  (m_laws_toNodeS a1.Nodes).bind fun y17 =>
  some (⟨y17⟩ : Dawg)
noncomputable def m_spec_l08List (d1 : Dawg) : Option (List Str) :=
  (m_spec_l06Words d1).bind fun y5 =>
  some y5.1
noncomputable def m_spec_l08Code (list1 : (List Str)) : Option (Dawg × Int) :=
  bif decide (3000 < (list1.length : Int)) then
    some ((⟨([] : (List Node))⟩ : Dawg), 5)
  else
    (m_spec_l06Build list1).bind fun y15 =>
    bif decide (3000 < (y15.Nodes.length : Int)) then
      some ((⟨([] : (List Node))⟩ : Dawg), 5)
    else
      some (y15, 0)
noncomputable def m_laws_eqInt64S_l1 (a1 : (List Int)) (b5 : (List Int)) (n14 : Int) : Option (Int ⊕ (Unit ⊕ Bool)) :=
  bif decide (n14 < (a1.length : Int)) then
    (getL a1 n14).bind fun e25 =>
    (getL b5 n14).bind fun e34 =>
    bif e25 != e34 then
      some (.inr (.inr false))
    else
      (chk (n14 + 1)).bind fun z44 =>
      some (.inl z44)
  else
    some (.inr (.inl ()))
noncomputable def m_laws_eqInt64S (a1 : (List Int)) (b5 : (List Int)) : Option Bool :=
  bif (a1.length : Int) != (b5.length : Int) then
    some false
  else
    (
        (loopM (fun s : Int => m_laws_eqInt64S_l1 a1 b5 s) 0).bind fun x17 =>
        match x17 with
        | .inl _ =>
          some (.inl ())
        | .inr r50 =>
          some (.inr r50) : Option (Unit ⊕ Bool)).bind fun x12 =>
    match x12 with
    | .inl _ =>
      some true
    | .inr r53 =>
      some r53
noncomputable def m_laws_eqNode (a1 : Node) (b6 : Node) : Option Bool :=
  bif a1.Final != b6.Final then
    some false
  else
    bif a1.Letters != b6.Letters then
      some false
    else
      (m_laws_eqInt64S a1.Next b6.Next).bind fun y21 =>
      bif !y21 then
        some false
      else
        some true
noncomputable def m_laws_eqNodeS_l1 (a1 : (List Node)) (b5 : (List Node)) (n14 : Int) : Option (Int ⊕ (Unit ⊕ Bool)) :=
  bif decide (n14 < (a1.length : Int)) then
    (getL a1 n14).bind fun e25 =>
    (getL b5 n14).bind fun e37 =>
    (m_laws_eqNode e25 e37).bind fun y49 =>
    bif !y49 then
      some (.inr (.inr false))
    else
      (chk (n14 + 1)).bind fun z55 =>
      some (.inl z55)
  else
    some (.inr (.inl ()))
noncomputable def m_laws_eqNodeS (a1 : (List Node)) (b5 : (List Node)) : Option Bool :=
  bif (a1.length : Int) != (b5.length : Int) then
    some false
  else
    (
        (loopM (fun s : Int => m_laws_eqNodeS_l1 a1 b5 s) 0).bind fun x17 =>
        match x17 with
        | .inl _ =>
          some (.inl ())
        | .inr r61 =>
          some (.inr r61) : Option (Unit ⊕ Bool)).bind fun x12 =>
    match x12 with
    | .inl _ =>
      some true
    | .inr r64 =>
      some r64
noncomputable def m_laws_eqDawg (a1 : Dawg) (b5 : Dawg) : Option Bool :=
  (m_laws_eqNodeS a1.Nodes b5.Nodes).bind fun y17 =>
  bif !y17 then
    some false
  else
    some true
noncomputable def m_laws_markText_l1 (k8 : Int) (s10 : Str) : Option ((Int × Str) ⊕ Str) :=
  bif decide (0 < k8) then
    (remI k8 10).bind fun z21 =>
    (chk (48 + z21)).bind fun z23 =>
    (catL ([UInt8.ofNat (z23 % 256).toNat] : Str) s10).bind fun s29 =>
    (quoI k8 10).bind fun z31 =>
    some (.inl (z31, s29))
  else
    some (.inr s10)
noncomputable def m_laws_markText (k1 : Int) : Option Str :=
  bif decide (k1 ≤ 0) then
    some ([109, 48] : Str)
  else
    (
        (loopM (fun s : Int × Str => m_laws_markText_l1 s.1 s.2) (k1, ([] : Str))).bind fun s13 =>
        some s13 : Option Str).bind fun s4 =>
    (catL ([109] : Str) s4).bind fun s39 =>
    some s39
noncomputable def m_laws_markInt64S_l1 (xs12 : (List Int)) (k14 : Int) (n16 : Int) : Option (((List Int) × Int × Int) ⊕ ((List Int) × Int)) :=
  bif decide (n16 < (xs12.length : Int)) then
    (getL xs12 n16).bind fun e30 =>
    (setL xs12 n16 k14).bind fun xs40 =>
    (chk (k14 + 1)).bind fun z42 =>
    (chk (n16 + 1)).bind fun z44 =>
    some (.inl (xs40, z42, z44))
  else
    some (.inr (xs12, k14))
noncomputable def m_laws_markInt64S (a1 : (List Int)) (k4 : Int) : Option (Int × (List Int)) :=
  (
      (loopM (fun s : (List Int) × Int × Int => m_laws_markInt64S_l1 s.1 s.2.1 s.2.2) (a1, k4, 0)).bind fun x23 =>
      match x23 with
      | (xs19, k21) =>
        some (xs19, k21) : Option ((List Int) × Int)).bind fun x10 =>
  match x10 with
  | (xs6, k8) =>
    some (k8, xs6)
noncomputable def m_laws_markNodeS_l1 (xs : List Node) (k : Int) (i : Int) : Option ((List Node × Int × Int) ⊕ (List Node × Int)) :=
  bif decide (i < (xs.length : Int)) then
    (remI k 3).bind fun z =>
    (getL xs i).bind fun e1 =>
    (setL xs i (⟨z == 0, e1.Letters, e1.Next⟩ : Node)).bind fun xs1 =>
    (chk (k + 1)).bind fun k1 =>
    (m_laws_markText k1).bind fun t =>
    (getL xs1 i).bind fun e2 =>
    (setL xs1 i (⟨e2.Final, t, e2.Next⟩ : Node)).bind fun xs2 =>
    (chk (k1 + 1)).bind fun k2 =>
    (getL xs2 i).bind fun e3 =>
    (m_laws_markInt64S e3.Next k2).bind fun y =>
    (setL xs2 i (⟨e3.Final, e3.Letters, y.2⟩ : Node)).bind fun xs3 =>
    (chk (i + 1)).bind fun i1 =>
    some (.inl (xs3, y.1, i1))
  else
    some (.inr (xs, k))
noncomputable def m_laws_markNodeS (a : List Node) (k : Int) : Option (Int × (List Node)) :=
  (loopM (fun s : (List Node) × Int × Int => m_laws_markNodeS_l1 s.1 s.2.1 s.2.2) (a, k, 0)).bind fun x => some (x.2, x.1)
noncomputable def m_laws_markDawg (a : Dawg) (k : Int) : Option (Int × (List Node)) :=
  (m_laws_markNodeS a.Nodes k).bind fun y => some (y.1, y.2)
noncomputable def m_laws_heldInt64S_l1 (a1 : (List Int)) (k11 : Int) (n13 : Int) : Option ((Int × Int) ⊕ (Int ⊕ Int)) :=
  bif decide (n13 < (a1.length : Int)) then
    (getL a1 n13).bind fun e25 =>
    bif e25 != k11 then
      some (.inr (.inr (-1)))
    else
      (chk (k11 + 1)).bind fun z35 =>
      (chk (n13 + 1)).bind fun z37 =>
      some (.inl (z35, z37))
  else
    some (.inr (.inl k11))
noncomputable def m_laws_heldInt64S (a1 : (List Int)) (k5 : Int) : Option Int :=
  (
      (loopM (fun s : Int × Int => m_laws_heldInt64S_l1 a1 s.1 s.2) (k5, 0)).bind fun x18 =>
      match x18 with
      | .inl k16 =>
        some (.inl k16)
      | .inr r43 =>
        some (.inr r43) : Option (Int ⊕ Int)).bind fun x9 =>
  match x9 with
  | .inl k7 =>
    some k7
  | .inr r46 =>
    some r46
noncomputable def m_laws_heldNodeS_l1 (a1 : (List Node)) (k11 : Int) (n13 : Int) : Option ((Int × Int) ⊕ (Int ⊕ Int)) :=
  bif decide (n13 < (a1.length : Int)) then
    (getL a1 n13).bind fun e25 =>
    (remI k11 3).bind fun z37 =>
    bif e25.Final != (z37 == 0) then
      some (.inr (.inr (-1)))
    else
      (chk (k11 + 1)).bind fun z40 =>
      (getL a1 n13).bind fun e43 =>
      (m_laws_markText z40).bind fun y55 =>
      bif e43.Letters != y55 then
        some (.inr (.inr (-1)))
      else
        (chk (z40 + 1)).bind fun z62 =>
        (getL a1 n13).bind fun e64 =>
        (m_laws_heldInt64S e64.Next z62).bind fun y76 =>
        bif decide (y76 < 0) then
          some (.inr (.inr (-1)))
        else
          (chk (n13 + 1)).bind fun z83 =>
          some (.inl (y76, z83))
  else
    some (.inr (.inl k11))
noncomputable def m_laws_heldNodeS (a1 : (List Node)) (k5 : Int) : Option Int :=
  (
      (loopM (fun s : Int × Int => m_laws_heldNodeS_l1 a1 s.1 s.2) (k5, 0)).bind fun x18 =>
      match x18 with
      | .inl k16 =>
        some (.inl k16)
      | .inr r89 =>
        some (.inr r89) : Option (Int ⊕ Int)).bind fun x9 =>
  match x9 with
  | .inl k7 =>
    some k7
  | .inr r92 =>
    some r92
noncomputable def m_laws_heldDawg (a1 : Dawg) (k5 : Int) : Option Int :=
  (m_laws_heldNodeS a1.Nodes k5).bind fun y11 =>
  bif decide (y11 < 0) then
    some (-1)
  else
    some y11
noncomputable def m_spec_l05First_l1 (list1 : (List Str)) (s5 : Str) (n11 : Int) : Option (Int ⊕ Int) :=
  (
      bif decide (n11 < (list1.length : Int)) then
        (getL list1 n11).bind fun e27 =>
        some (ltS e27 s5)
      else
        some false : Option Bool).bind fun t21 =>
  bif t21 then
    (chk (n11 + 1)).bind fun z40 =>
    some (.inl z40)
  else
    some (.inr n11)
noncomputable def m_spec_l05First (list1 : (List Str)) (s5 : Str) : Option Int :=
  (
      (loopM (fun s : Int => m_spec_l05First_l1 list1 s5 s) 0).bind fun n14 =>
      some n14 : Option Int).bind fun n7 =>
  some n7
noncomputable def m_spec_l05Has (list1 : (List Str)) (s5 : Str) : Option Bool :=
  (m_spec_l05First list1 s5).bind fun y7 =>
  (
      bif decide (y7 < (list1.length : Int)) then
        (getL list1 y7).bind fun e19 =>
        some (e19 == s5)
      else
        some false : Option Bool).bind fun t13 =>
  some t13
noncomputable def m_spec_l08Only_l1 (a1 : (List Str)) (b5 : (List Str)) (in_9 : Bool) (xs18 : (List Str)) (n21 : Int) : Option (((List Str) × Int) ⊕ (List Str)) :=
  bif decide (n21 < (a1.length : Int)) then
    (
        (getL a1 n21).bind fun e39 =>
        (m_spec_l05Has b5 e39).bind fun y48 =>
        bif y48 == in_9 then
          (getL a1 n21).bind fun e54 =>
          (catL xs18 ([e54] : (List Str))).bind fun xs66 =>
          some xs66
        else
          some xs18 : Option (List Str)).bind fun xs34 =>
    (chk (n21 + 1)).bind fun z76 =>
    some (.inl (xs34, z76))
  else
    some (.inr xs18)
noncomputable def m_spec_l08Only (a1 : (List Str)) (b5 : (List Str)) (in_9 : Bool) : Option (List Str) :=
  (
      (loopM (fun s : (List Str) × Int => m_spec_l08Only_l1 a1 b5 in_9 s.1 s.2) (([] : (List Str)), 0)).bind fun xs24 =>
      some xs24 : Option (List Str)).bind fun xs13 =>
  some xs13
noncomputable def m_spec_MinusDawg (a1 : Dawg) (b5 : Dawg) : Option (Dawg × Int) :=
  (
      (m_spec_l06Ok a1).bind fun y25 =>
      bif !y25 then
        some true
      else
        (m_spec_l06Ok b5).bind fun y32 =>
        some (!y32) : Option Bool).bind fun t21 =>
  bif t21 then
    some ((⟨([] : (List Node))⟩ : Dawg), 1)
  else
    (m_spec_l08List a1).bind fun y44 =>
    (m_spec_l08List b5).bind fun y51 =>
    (m_spec_l08Only y44 y51 false).bind fun y58 =>
    (m_spec_l08Code y58).bind fun y65 =>
    some (y65.1, y65.2)
noncomputable def m_laws_FnExactMinusDawg (aA1 : Dawg) (aB5 : Dawg) : Option Bool :=
  (m_laws_szDawg aA1 1048576).bind fun y17 =>
  bif decide (y17 < 0) then
    some true
  else
    (m_laws_szDawg aB5 y17).bind fun y24 =>
    bif decide (y24 < 0) then
      some true
    else
      (m_laws_toDawg aA1).bind fun y32 =>
      (m_laws_toDawg aB5).bind fun y41 =>
      (m_spec_MinusDawg y32 y41).bind fun y50 =>
      (m_laws_toDawg aA1).bind fun y163 =>
      (m_laws_toDawg aB5).bind fun y179 =>
      (m_impl_MinusDawg y163 y179).bind fun y195 =>
      (
          (m_laws_eqDawg y195.1 y50.1).bind fun y216 =>
          bif !y216 then
            some true
          else
            some (y195.2 != y50.2) : Option Bool).bind fun t212 =>
      bif t212 then
        some false
      else
        (m_laws_toDawg aA1).bind fun y227 =>
        (m_laws_eqDawg y163 y227).bind fun y236 =>
        bif !y236 then
          some false
        else
          (m_laws_toDawg aB5).bind fun y243 =>
          (m_laws_eqDawg y179 y243).bind fun y252 =>
          bif !y252 then
            some false
          else
            (m_laws_markDawg y163 1).bind fun y258 =>
            (m_laws_markDawg y179 y258.1).bind fun y267 =>
            (
                bif decide (y267.1 < 0) then
                  some true
                else
                  (m_laws_eqDawg y195.1 y50.1).bind fun y282 =>
                  bif !y282 then
                    some true
                  else
                    some (y195.2 != y50.2) : Option Bool).bind fun t276 =>
            bif t276 then
              some false
            else
              (m_laws_markDawg y195.1 1).bind fun y292 =>
              (m_laws_heldDawg (⟨y292.2⟩ : Dawg) 1).bind fun y301 =>
              bif decide (y301 < 0) then
                some false
              else
                bif y301 != y292.1 then
                  some false
                else
                  (m_laws_toDawg aA1).bind fun y310 =>
                  (m_laws_toDawg aB5).bind fun y319 =>
                  (m_impl_MinusDawg y310 y319).bind fun y328 =>
                  (
                      (m_laws_eqDawg y328.1 y50.1).bind fun y453 =>
                      bif !y453 then
                        some true
                      else
                        some (y328.2 != y50.2) : Option Bool).bind fun t449 =>
                  bif t449 then
                    some false
                  else
                    (m_laws_heldDawg (⟨y292.2⟩ : Dawg) 1).bind fun y463 =>
                    bif decide (y463 < 0) then
                      some false
                    else
                      bif y463 != y292.1 then
                        some false
                      else
                        some true
end Go.Proofs.YtccoeheoifbpcaaGreatDoor
