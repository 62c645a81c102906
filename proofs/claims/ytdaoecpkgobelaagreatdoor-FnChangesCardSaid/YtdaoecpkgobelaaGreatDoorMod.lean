/- The models of the program's functions. Printed by gen.py. -/
import Derived.Test.YtdaoecpkgobelaaGreatDoorTyp
import Derived.Test.YtdaoecpkgobelaaGreatDoorEngM
import Derived.Test.YtdaoecpkgobelaaGreatDoorEngY
namespace Go.Proofs.YtdaoecpkgobelaaGreatDoor
open Go Go.RowKit
set_option linter.unusedSimpArgs false
set_option linter.unusedVariables false
noncomputable def m_laws_a2Long (code1 : Str) (more5 : Str) : Option Bool :=
  (
      bif decide (3000 < (code1.length : Int)) then
        some true
      else
        some (decide (3000 < (more5.length : Int))) : Option Bool).bind fun t9 =>
  some t9
noncomputable def m_spec_l00From (code1 : Str) : Option l00Src :=
  some (⟨code1, 0, 0⟩ : l00Src)
noncomputable def m_spec_l05Some  : Option (List Str) :=
  some ((([97, 110] : Str) :: ([97, 116] : Str) :: ([97, 116, 101] : Str) :: ([101, 97, 114] : Str) :: ([101, 97, 114, 110] : Str) :: ([101, 97, 114, 115] : Str) :: ([101, 97, 115, 116] : Str) :: ([101, 97, 116] : Str) :: ([101, 97, 116, 101, 110] : Str) :: ([101, 97, 116, 115] : Str) :: ([101, 110] : Str) :: ([97, 110, 116] : Str) :: ([97, 110, 116, 115] : Str) :: ([97, 114, 101] : Str) :: ([97, 114, 101, 110, 97] : Str) :: ([97, 114, 116] : Str) :: ([97, 114, 116, 115] : Str) :: ([97, 115] : Str) :: ([101, 114] : Str) :: ([101, 115] : Str) :: ([105, 110] : Str) :: ([105, 115] : Str) :: ([110, 97] : Str) :: ([110, 101] : Str) :: ([110, 101, 97, 114] : Str) :: ([110, 101, 97, 116] : Str) :: ([110, 101, 115, 116] : Str) :: ([110, 101, 115, 116, 115] : Str) :: ([110, 101, 116] : Str) :: ([114, 97, 116] : Str) :: ([114, 97, 116, 101] : Str) :: ([114, 97, 116, 101, 115] : Str) :: ([114, 101] : Str) :: ([114, 101, 115, 116] : Str) :: ([115, 97, 116] : Str) :: ([115, 101, 97] : Str) :: ([115, 101, 97, 116] : Str) :: ([115, 101, 116] : Str) :: ([116, 97] : Str) :: ([116, 97, 114] : Str) :: ([116, 97, 114, 115] : Str) :: ([116, 97, 114, 116] : Str) :: ([116, 101, 97] : Str) :: ([116, 101, 97, 114] : Str) :: ([116, 101, 97, 115] : Str) :: ([116, 101, 110] : Str) :: ([116, 101, 114, 110] : Str) :: ([116, 101, 115, 116] : Str) :: ([116, 101, 115, 116, 115] : Str) :: ([116, 114, 101, 101, 115] : Str) :: ([98, 97, 110, 97, 110, 97] : Str) :: ([98, 101, 101] : Str) :: ([98, 101, 101, 110] : Str) :: ([98, 101, 101, 115] : Str) :: ([115, 116, 97, 114] : Str) :: ([115, 116, 97, 114, 101] : Str) :: ([115, 116, 97, 114, 116] : Str) :: ([116, 114, 101, 101] : Str) :: ([115, 116, 97, 114, 115] : Str) :: ([116, 114, 101, 97, 116, 115] : Str) :: []) : (List Str))
noncomputable def m_spec_l00Src_next (s1 : l00Src) : Option (Int × l00Src) :=
  (
      bif decide (s1.at_ < (s1.code.length : Int)) then
        (getL s1.code s1.at_).bind fun e16 =>
        some (e16.toNat : Int)
      else
        some 0 : Option Int).bind fun n8 =>
  (chk (s1.at_ + 1)).bind fun z27 =>
  bif decide (z27 ≤ (s1.code.length : Int)) then
    some (n8, (⟨s1.code, z27, (((((s1.seed * 6364136223846793005) % 18446744073709551616) + (n8 % 18446744073709551616)) % 18446744073709551616) + 1442695040888963407) % 18446744073709551616⟩ : l00Src))
  else
    (chk ((((((((s1.seed * 6364136223846793005) % 18446744073709551616) + (n8 % 18446744073709551616)) % 18446744073709551616) + 1442695040888963407) % 18446744073709551616) / 1099511627776) % 256)).bind fun z38 =>
    some (z38, (⟨s1.code, z27, (((((s1.seed * 6364136223846793005) % 18446744073709551616) + (n8 % 18446744073709551616)) % 18446744073709551616) + 1442695040888963407) % 18446744073709551616⟩ : l00Src))
noncomputable def m_spec_l00Src_pick (s1 : l00Src) (n8 : Int) : Option (Int × l00Src) :=
  bif decide (n8 ≤ 1) then
    some (0, s1)
  else
    (m_spec_l00Src_next s1).bind fun y11 =>
    (
        bif decide (200 < n8) then
          (chk (y11.1 * 256)).bind fun z28 =>
          (m_spec_l00Src_next (⟨s1.code, y11.2.at_, y11.2.seed⟩ : l00Src)).bind fun y30 =>
          (chk (z28 + y30.1)).bind fun z38 =>
          some (y30.2.at_, y30.2.seed, z38)
        else
          some (y11.2.at_, y11.2.seed, y11.1) : Option (Int × Int × Int)).bind fun x25 =>
    match x25 with
    | (n19, n21, n23) =>
      (remI n23 n8).bind fun z43 =>
      some (z43, (⟨s1.code, n19, n21⟩ : l00Src))
noncomputable def m_spec_l03Insert_l1 (list1 : (List Str)) (t4 : Str) (n11 : Int) : Option (Int ⊕ Int) :=
  (
      bif decide (0 < n11) then
        (chk (n11 - 1)).bind fun z26 =>
        (getL list1 z26).bind fun e28 =>
        some (!(ltS e28 t4 || e28 == t4))
      else
        some false : Option Bool).bind fun t21 =>
  bif t21 then
    (chk (n11 - 1)).bind fun z41 =>
    some (.inl z41)
  else
    some (.inr n11)
noncomputable def m_spec_l03Insert (list1 : (List Str)) (t4 : Str) : Option (List Str) :=
  (
      (loopM (fun s : Int => m_spec_l03Insert_l1 list1 t4 s) (list1.length : Int)).bind fun n14 =>
      some n14 : Option Int).bind fun n7 =>
  (
      bif decide (0 < n7) then
        (chk (n7 - 1)).bind fun z54 =>
        (getL list1 z54).bind fun e56 =>
        some (e56 == t4)
      else
        some false : Option Bool).bind fun t49 =>
  bif t49 then
    some list1
  else
    (subL list1 0 n7).bind fun l72 =>
    (catL ([] : (List Str)) l72).bind fun xs77 =>
    (catL xs77 ([t4] : (List Str))).bind fun xs87 =>
    (subL list1 n7 (list1.length : Int)).bind fun l94 =>
    (catL xs87 l94).bind fun xs99 =>
    some xs99
noncomputable def m_spec_l05Draw_l1 (s1 : l00Src) (y14 : (List Str)) (n43 : Int) (n45 : Int) (xs47 : (List Str)) (n50 : Int) : Option ((Int × Int × (List Str) × Int) ⊕ (Int × Int × (List Str))) :=
  bif decide (0 < n50) then
    (m_spec_l00Src_pick (⟨s1.code, n43, n45⟩ : l00Src) (y14.length : Int)).bind fun y67 =>
    (getL y14 y67.1).bind fun e75 =>
    (m_spec_l03Insert xs47 e75).bind fun y84 =>
    (chk (n50 - 1)).bind fun z91 =>
    some (.inl (y67.2.at_, y67.2.seed, y84, z91))
  else
    some (.inr (n43, n45, xs47))
noncomputable def m_spec_l05Draw (s1 : l00Src) (most8 : Int) : Option (Lexicon × l00Src) :=
  (m_spec_l05Some).bind fun y14 =>
  (
      (chk (most8 + 1)).bind fun z33 =>
      (m_spec_l00Src_pick s1 z33).bind fun y35 =>
      (loopM (fun s : Int × Int × (List Str) × Int => m_spec_l05Draw_l1 s1 y14 s.1 s.2.1 s.2.2.1 s.2.2.2) (y35.2.at_, y35.2.seed, ([] : (List Str)), y35.1)).bind fun x60 =>
      match x60 with
      | (n53, n55, xs57) =>
        some (n53, n55, xs57) : Option (Int × Int × (List Str))).bind fun x31 =>
  match x31 with
  | (n24, n26, xs28) =>
    some ((⟨xs28⟩ : Lexicon), (⟨s1.code, n24, n26⟩ : l00Src))
noncomputable def m_spec_l00Src_text (s1 : l00Src) (list8 : (List Str)) : Option (Str × l00Src) :=
  (m_spec_l00Src_pick s1 (list8.length : Int)).bind fun y13 =>
  (getL list8 y13.1).bind fun e21 =>
  some (e21, (⟨s1.code, y13.2.at_, y13.2.seed⟩ : l00Src))
noncomputable def m_spec_A2Word (code1 : Str) : Option Str :=
  (m_spec_l00From code1).bind fun y5 =>
  (m_spec_l05Some).bind fun y16 =>
  (m_spec_l00Src_text y5 y16).bind fun y23 =>
  some y23.1
noncomputable def m_impl_small (c1 : UInt8) : Option Bool :=
  (
      bif decide (97 ≤ c1) then
        some (decide (c1 ≤ 122))
      else
        some false : Option Bool).bind fun t2 =>
  some t2
noncomputable def m_strings_Builder_copyCheck (b1 : Str) : Option Str :=
  some b1
noncomputable def m_strings_Builder_WriteByte (b1 : Str) (c7 : UInt8) : Option (Unit × Str) :=
  (m_strings_Builder_copyCheck b1).bind fun y8 =>
  (catL y8 ([c7] : Str)).bind fun xs20 =>
  some ((), xs20)
noncomputable def m_impl_Decimal (n1 : Int) : Option Str :=
  (m_strconv_FormatInt n1 10).bind fun y3 =>
  some y3
noncomputable def m_strings_Builder_WriteString (b1 : Str) (s7 : Str) : Option (Int × Unit × Str) :=
  (m_strings_Builder_copyCheck b1).bind fun y9 =>
  (catL y9 s7).bind fun xs18 =>
  some ((s7.length : Int), (), xs18)
noncomputable def m_strings_Builder_String (b1 : Str) : Option Str :=
  some b1
noncomputable def m_impl_keyOf_l1 (n1 : Node) (xs44 : Str) (n47 : Int) : Option ((Str × Int) ⊕ Str) :=
  bif decide (n47 < (n1.Next.length : Int)) then
    (getL n1.Next n47).bind fun e61 =>
    (chk (n47 + 1)).bind fun z71 =>
    (subL n1.Letters n47 z71).bind fun s73 =>
    (m_impl_Decimal e61).bind fun y75 =>
    (catL s73 y75).bind fun s81 =>
    (catL s81 ([32] : Str)).bind fun s83 =>
    (m_strings_Builder_WriteString xs44 s83).bind fun y85 =>
    (chk (n47 + 1)).bind fun z95 =>
    some (.inl (y85.2.2, z95))
  else
    some (.inr xs44)
noncomputable def m_impl_keyOf (n1 : Node) : Option Str :=
  (
      bif n1.Final then
        (m_strings_Builder_WriteByte ([] : Str) 43).bind fun y22 =>
        some y22.2
      else
        some ([] : Str) : Option Str).bind fun xs16 =>
  (
      (loopM (fun s : Str × Int => m_impl_keyOf_l1 n1 s.1 s.2) (xs16, 0)).bind fun xs52 =>
      some xs52 : Option Str).bind fun xs36 =>
  (m_strings_Builder_String xs36).bind fun y103 =>
  some y103
noncomputable def m_impl_maker_node (m1 : maker) (n7 : Node) : Option (Int × maker) :=
  (m_impl_keyOf n7).bind fun y16 =>
  (
      bif !((getM m1.register y16).isSome) then
        (catL m1.nodes ([n7] : (List Node))).bind fun xs38 =>
        some (putM m1.register y16 (m1.nodes.length : Int), xs38, (m1.nodes.length : Int))
      else
        some (m1.register, m1.nodes, (getM m1.register y16).getD 0) : Option ((List (Str × Int)) × (List Node) × Int)).bind fun x30 =>
  match x30 with
  | (mp22, xs25, n28) =>
    some (n28, (⟨xs25, mp22⟩ : maker))
noncomputable def m_impl_maker_build_l2 (l81 : (List Str)) (depth11 : Int) (c112 : UInt8) (n118 : Int) : Option (Int ⊕ Int) :=
  (
      bif decide (n118 < (l81.length : Int)) then
        (getL l81 n118).bind fun e134 =>
        (getL e134 depth11).bind fun c143 =>
        some (c143 == c112)
      else
        some false : Option Bool).bind fun t128 =>
  bif t128 then
    (chk (n118 + 1)).bind fun z149 =>
    some (.inl z149)
  else
    some (.inr n118)
noncomputable def m_impl_maker_build_l1 (depth11 : Int) (rc : maker → (List Str) → Int → Option (Int × maker)) (s70 : Str) (mp72 : (List (Str × Int))) (xs75 : (List Node)) (xs78 : (List Int)) (l81 : (List Str)) : Option ((Str × (List (Str × Int)) × (List Node) × (List Int) × (List Str)) ⊕ (Str × (List (Str × Int)) × (List Node) × (List Int))) :=
  bif decide (0 < (l81.length : Int)) then
    (getL l81 0).bind fun e103 =>
    (getL e103 depth11).bind fun c112 =>
    (
        (loopM (fun s : Int => m_impl_maker_build_l2 l81 depth11 c112 s) 1).bind fun n121 =>
        some n121 : Option Int).bind fun n114 =>
    (encR (c112.toNat : Int)).bind fun s157 =>
    (catL s70 s157).bind fun s159 =>
    (subL l81 0 n114).bind fun l165 =>
    (chk (depth11 + 1)).bind fun z170 =>
    (rc (⟨xs75, mp72⟩ : maker) l165 z170).bind fun y172 =>
    (catL xs78 ([y172.1] : (List Int))).bind fun xs187 =>
    (subL l81 n114 (l81.length : Int)).bind fun l197 =>
    some (.inl (s159, y172.2.register, y172.2.nodes, xs187, l197))
  else
    some (.inr (s70, mp72, xs75, xs78))
noncomputable def m_impl_maker_build_b (rc : maker → (List Str) → Int → Option (Int × maker)) (m1 : maker) (list7 : (List Str)) (depth11 : Int) : Option (Int × maker) :=
  (
      (
          bif decide (0 < (list7.length : Int)) then
            (getL list7 0).bind fun e33 =>
            some ((e33.length : Int) == depth11)
          else
            some false : Option Bool).bind fun t27 =>
      bif t27 then
        (subL list7 1 (list7.length : Int)).bind fun l49 =>
        some (true, l49)
      else
        some (false, list7) : Option (Bool × (List Str))).bind fun x25 =>
  match x25 with
  | (t20, l22) =>
    (
        (loopM (fun s : Str × (List (Str × Int)) × (List Node) × (List Int) × (List Str) => m_impl_maker_build_l1 depth11 rc s.1 s.2.1 s.2.2.1 s.2.2.2.1 s.2.2.2.2) (([] : Str), m1.register, m1.nodes, ([] : (List Int)), l22)).bind fun x96 =>
        match x96 with
        | (s85, mp87, xs90, xs93) =>
          some (s85, xs93, mp87, xs90) : Option (Str × (List Int) × (List (Str × Int)) × (List Node))).bind fun x68 =>
    match x68 with
    | (s57, xs59, mp62, xs65) =>
      (m_impl_maker_node (⟨xs65, mp62⟩ : maker) (⟨t20, s57, xs59⟩ : Node)).bind fun y208 =>
      some (y208.1, y208.2)
noncomputable def m_impl_maker_build_n : Nat → maker → (List Str) → Int → Option (Int × maker)
  | 0 => fun _ _ _ => none
  | n + 1 => m_impl_maker_build_b (m_impl_maker_build_n n)
noncomputable def m_impl_maker_build : maker → (List Str) → Int → Option (Int × maker) := m_impl_maker_build_n fuelN
noncomputable def m_impl_maker_numbered_1_l1 (e33 : Node) (rc : Int → (List (Int × Int)) → Dawg → maker → Option (Int × (List (Int × Int)) × Dawg)) (p11 : maker) (mp80 : (List (Int × Int))) (xs83 : (List Node)) (xs86 : (List Int)) (n89 : Int) : Option (((List (Int × Int)) × (List Node) × (List Int) × Int) ⊕ ((List (Int × Int)) × (List Node) × (List Int))) :=
  bif decide (n89 < (e33.Next.length : Int)) then
    (getL e33.Next n89).bind fun e107 =>
    (rc e107 mp80 (⟨xs83⟩ : Dawg) p11).bind fun y116 =>
    (catL xs86 ([y116.1] : (List Int))).bind fun xs129 =>
    (chk (n89 + 1)).bind fun z136 =>
    some (.inl (y116.2.1, y116.2.2.Nodes, xs129, z136))
  else
    some (.inr (mp80, xs83, xs86))
noncomputable def m_impl_maker_numbered_1_b (rc : Int → (List (Int × Int)) → Dawg → maker → Option (Int × (List (Int × Int)) × Dawg)) (k1 : Int) (p3 : (List (Int × Int))) (p7 : Dawg) (p11 : maker) : Option (Int × (List (Int × Int)) × Dawg) :=
  bif (getM p3 k1).isSome then
    some ((getM p3 k1).getD 0, p3, p7)
  else
    (getL p11.nodes k1).bind fun e33 =>
    (catL p7.Nodes ([(⟨e33.Final, e33.Letters, ([] : (List Int))⟩ : Node)] : (List Node))).bind fun xs55 =>
    (
        (loopM (fun s : (List (Int × Int)) × (List Node) × (List Int) × Int => m_impl_maker_numbered_1_l1 e33 rc p11 s.1 s.2.1 s.2.2.1 s.2.2.2) (putM p3 k1 (p7.Nodes.length : Int), xs55, ([] : (List Int)), 0)).bind fun x101 =>
        match x101 with
        | (mp92, xs95, xs98) =>
          some (mp92, xs95, xs98) : Option ((List (Int × Int)) × (List Node) × (List Int))).bind fun x77 =>
    match x77 with
    | (mp68, xs71, xs74) =>
      (getL xs71 (p7.Nodes.length : Int)).bind fun e144 =>
      (setL xs71 (p7.Nodes.length : Int) (⟨e144.Final, e144.Letters, xs74⟩ : Node)).bind fun xs157 =>
      some ((p7.Nodes.length : Int), mp68, (⟨xs157⟩ : Dawg))
noncomputable def m_impl_maker_numbered_1_n : Nat → Int → (List (Int × Int)) → Dawg → maker → Option (Int × (List (Int × Int)) × Dawg)
  | 0 => fun _ _ _ _ => none
  | n + 1 => m_impl_maker_numbered_1_b (m_impl_maker_numbered_1_n n)
noncomputable def m_impl_maker_numbered_1 : Int → (List (Int × Int)) → Dawg → maker → Option (Int × (List (Int × Int)) × Dawg) := m_impl_maker_numbered_1_n fuelN
noncomputable def m_impl_maker_numbered (m1 : maker) (root5 : Int) : Option Dawg :=
  (m_impl_maker_numbered_1 root5 ([] : (List (Int × Int))) (⟨([] : (List Node))⟩ : Dawg) m1).bind fun y39 =>
  some (⟨y39.2.2.Nodes⟩ : Dawg)
noncomputable def m_impl_dawgOf (list1 : (List Str)) : Option (Dawg × Int) :=
  bif decide (3000 < (list1.length : Int)) then
    some ((⟨([] : (List Node))⟩ : Dawg), 5)
  else
    (m_impl_maker_build (⟨([] : (List Node)), ([] : (List (Str × Int)))⟩ : maker) list1 0).bind fun y22 =>
    (m_impl_maker_numbered y22.2 y22.1).bind fun y32 =>
    bif decide (3000 < (y32.Nodes.length : Int)) then
      some ((⟨([] : (List Node))⟩ : Dawg), 5)
    else
      some (y32, 0)
noncomputable def m_impl_formByte (c1 : UInt8) : Option Bool :=
  (
      (m_impl_small c1).bind fun y6 =>
      bif y6 then
        some true
      else
        some (c1 == 62) : Option Bool).bind fun t2 =>
  some t2
noncomputable def m_impl_within (x1 : Int) (low3 : Int) (high5 : Int) : Option Bool :=
  (
      bif decide (low3 ≤ x1) then
        some (decide (x1 ≤ high5))
      else
        some false : Option Bool).bind fun t7 =>
  some t7
noncomputable def m_impl_nodesOk_l2 (e34 : Node) (d1 : Dawg) (n56 : Int) : Option (Int ⊕ (Unit ⊕ Bool)) :=
  bif decide (n56 < (e34.Next.length : Int)) then
    (getL e34.Next n56).bind fun e65 =>
    (
        (getL e34.Letters n56).bind fun c79 =>
        (m_impl_formByte c79).bind fun y81 =>
        bif !y81 then
          some true
        else
          bif decide (0 < n56) then
            (chk (n56 - 1)).bind fun z89 =>
            (getL e34.Letters z89).bind fun c91 =>
            (getL e34.Letters n56).bind fun c93 =>
            bif decide (c93 ≤ c91) then
              some true
            else
              (chk ((d1.Nodes.length : Int) - 1)).bind fun z98 =>
              (m_impl_within e65 0 z98).bind fun y100 =>
              some (!y100)
          else
            (chk ((d1.Nodes.length : Int) - 1)).bind fun z107 =>
            (m_impl_within e65 0 z107).bind fun y109 =>
            some (!y109) : Option Bool).bind fun t74 =>
    bif t74 then
      some (.inr (.inr false))
    else
      (chk (n56 + 1)).bind fun z117 =>
      some (.inl z117)
  else
    some (.inr (.inl ()))
noncomputable def m_impl_nodesOk_l1 (d1 : Dawg) (n23 : Int) : Option (Int ⊕ (Unit ⊕ Bool)) :=
  bif decide (n23 < (d1.Nodes.length : Int)) then
    (
        (getL d1.Nodes n23).bind fun e34 =>
        bif (e34.Letters.length : Int) != (e34.Next.length : Int) then
          some (.inr false)
        else
          (loopM (fun s : Int => m_impl_nodesOk_l2 e34 d1 s) 0).bind fun x59 =>
          match x59 with
          | .inl _ =>
            some (.inl ())
          | .inr r123 =>
            some (.inr r123) : Option (Unit ⊕ Bool)).bind fun x32 =>
    match x32 with
    | .inl _ =>
      (chk (n23 + 1)).bind fun z126 =>
      some (.inl z126)
    | .inr r129 =>
      some (.inr (.inr r129))
  else
    some (.inr (.inl ()))
noncomputable def m_impl_nodesOk (d1 : Dawg) : Option Bool :=
  (
      bif decide ((d1.Nodes.length : Int) < 1) then
        some true
      else
        some (decide (3000 < (d1.Nodes.length : Int))) : Option Bool).bind fun t9 =>
  bif t9 then
    some false
  else
    (
        (loopM (fun s : Int => m_impl_nodesOk_l1 d1 s) 0).bind fun x26 =>
        match x26 with
        | .inl _ =>
          some (.inl ())
        | .inr r133 =>
          some (.inr r133) : Option (Unit ⊕ Bool)).bind fun x20 =>
    match x20 with
    | .inl _ =>
      some true
    | .inr r136 =>
      some r136
noncomputable def m_impl_inspector_visit_l1 (e43 : Node) (rc : inspector → Int → Option (Bool × inspector)) (x1 : inspector) (k13 : Int) (n98 : Int) (xs100 : (List Bool)) (xs103 : (List Int)) (xs106 : (List Int)) (n109 : Int) : Option ((Int × (List Bool) × (List Int) × (List Int) × Int) ⊕ ((Int × (List Bool) × (List Int) × (List Int)) ⊕ (Bool × inspector))) :=
  bif decide (n109 < (e43.Next.length : Int)) then
    (getL e43.Next n109).bind fun e129 =>
    (rc (⟨⟨x1.d.Nodes⟩, n98, xs100, xs103, xs106⟩ : inspector) e129).bind fun y138 =>
    bif !y138.1 then
      some (.inr (.inr (false, (⟨⟨x1.d.Nodes⟩, y138.2.met, y138.2.open_, y138.2.strings, y138.2.longest⟩ : inspector))))
    else
      (getL y138.2.strings k13).bind fun e152 =>
      (getL y138.2.strings e129).bind fun e161 =>
      (chk (e152 + e161)).bind fun z170 =>
      (getL y138.2.strings k13).bind fun e172 =>
      (setL y138.2.strings k13 (min z170 3001)).bind fun xs182 =>
      (getL y138.2.longest k13).bind fun e187 =>
      (getL y138.2.longest e129).bind fun e196 =>
      (chk (e196 + 1)).bind fun z205 =>
      (getL y138.2.longest k13).bind fun e207 =>
      (setL y138.2.longest k13 (max e187 z205)).bind fun xs217 =>
      (chk (n109 + 1)).bind fun z221 =>
      some (.inl (y138.2.met, y138.2.open_, xs182, xs217, z221))
  else
    some (.inr (.inl (n98, xs100, xs103, xs106)))
noncomputable def m_impl_inspector_visit_b (rc : inspector → Int → Option (Bool × inspector)) (x1 : inspector) (k13 : Int) : Option (Bool × inspector) :=
  bif decide (k13 < x1.met) then
    (getL x1.open_ k13).bind fun e16 =>
    some (!e16, x1)
  else
    bif decide (x1.met < k13) then
      some (false, x1)
    else
      (chk (x1.met + 1)).bind fun z25 =>
      (getL x1.open_ k13).bind fun e30 =>
      (setL x1.open_ k13 true).bind fun xs39 =>
      (getL x1.d.Nodes k13).bind fun e43 =>
      (
          bif e43.Final then
            (getL x1.strings k13).bind fun e67 =>
            (setL x1.strings k13 1).bind fun xs77 =>
            some xs77
          else
            some x1.strings : Option (List Int)).bind fun xs62 =>
      (
          (loopM (fun s : Int × (List Bool) × (List Int) × (List Int) × Int => m_impl_inspector_visit_l1 e43 rc x1 k13 s.1 s.2.1 s.2.2.1 s.2.2.2.1 s.2.2.2.2) (z25, xs39, xs62, x1.longest, 0)).bind fun x123 =>
          match x123 with
          | .inl (n112, xs114, xs117, xs120) =>
            some (.inl (n112, xs114, xs117, xs120))
          | .inr r227 =>
            some (.inr r227) : Option ((Int × (List Bool) × (List Int) × (List Int)) ⊕ (Bool × inspector))).bind fun x95 =>
      match x95 with
      | .inl (n84, xs86, xs89, xs92) =>
        (getL xs86 k13).bind fun e230 =>
        (setL xs86 k13 false).bind fun xs239 =>
        (
            (getL xs89 k13).bind fun e247 =>
            bif decide (0 < e247) then
              some true
            else
              some (k13 == 0) : Option Bool).bind fun t243 =>
        some (t243, (⟨⟨x1.d.Nodes⟩, n84, xs239, xs89, xs92⟩ : inspector))
      | .inr r260 =>
        some r260
noncomputable def m_impl_inspector_visit_n : Nat → inspector → Int → Option (Bool × inspector)
  | 0 => fun _ _ => none
  | n + 1 => m_impl_inspector_visit_b (m_impl_inspector_visit_n n)
noncomputable def m_impl_inspector_visit : inspector → Int → Option (Bool × inspector) := m_impl_inspector_visit_n fuelN
noncomputable def m_impl_ValidDawg_l1 (d1 : Dawg) (mp127 : (List (Str × Bool))) (n129 : Int) : Option (((List (Str × Bool)) × Int) ⊕ ((List (Str × Bool)) ⊕ Bool)) :=
  bif decide (n129 < (d1.Nodes.length : Int)) then
    (getL d1.Nodes n129).bind fun e140 =>
    (m_impl_keyOf e140).bind fun y159 =>
    bif (getM mp127 y159).getD false then
      some (.inr (.inr false))
    else
      (chk (n129 + 1)).bind fun z167 =>
      some (.inl (putM mp127 y159 true, z167))
  else
    some (.inr (.inl mp127))
noncomputable def m_impl_ValidDawg (d1 : Dawg) : Option Bool :=
  (
      (m_impl_nodesOk d1).bind fun y13 =>
      bif !y13 then
        some true
      else
        (getL d1.Nodes 0).bind fun e20 =>
        some e20.Final : Option Bool).bind fun t9 =>
  bif t9 then
    some false
  else
    (makeL (d1.Nodes.length : Int) (false : Bool)).bind fun xs37 =>
    (makeL (d1.Nodes.length : Int) (0 : Int)).bind fun xs42 =>
    (makeL (d1.Nodes.length : Int) (0 : Int)).bind fun xs47 =>
    (
        (m_impl_inspector_visit (⟨⟨d1.Nodes⟩, 0, xs37, xs42, xs47⟩ : inspector) 0).bind fun y80 =>
        bif !y80.1 then
          some (y80.2.met, y80.2.open_, y80.2.strings, y80.2.longest, true)
        else
          bif y80.2.met != (d1.Nodes.length : Int) then
            some (y80.2.met, y80.2.open_, y80.2.strings, y80.2.longest, true)
          else
            (getL y80.2.strings 0).bind fun e96 =>
            bif decide (3000 < e96) then
              some (y80.2.met, y80.2.open_, y80.2.strings, y80.2.longest, true)
            else
              (getL y80.2.longest 0).bind fun e107 =>
              some (y80.2.met, y80.2.open_, y80.2.strings, y80.2.longest, decide (13 < e107)) : Option (Int × (List Bool) × (List Int) × (List Int) × Bool)).bind fun x78 =>
    match x78 with
    | (n65, xs67, xs70, xs73, t76) =>
      bif t76 then
        some false
      else
        (
            (loopM (fun s : (List (Str × Bool)) × Int => m_impl_ValidDawg_l1 d1 s.1 s.2) (([] : (List (Str × Bool))), 0)).bind fun x134 =>
            match x134 with
            | .inl mp132 =>
              some (.inl mp132)
            | .inr r173 =>
              some (.inr r173) : Option ((List (Str × Bool)) ⊕ Bool)).bind fun x124 =>
        match x124 with
        | .inl mp122 =>
          some true
        | .inr r176 =>
          some r176
noncomputable def m_impl_Dawg_words_1_l1 (e23 : Node) (rc : Int → Dawg → (List Str) → Str → Option ((List Str) × Str)) (p3 : Dawg) (xs66 : (List Str)) (xs69 : Str) (n72 : Int) : Option (((List Str) × Str × Int) ⊕ ((List Str) × Str)) :=
  bif decide (n72 < (e23.Next.length : Int)) then
    (getL e23.Next n72).bind fun e87 =>
    (getL e23.Letters n72).bind fun c97 =>
    (catL xs69 ([c97] : Str)).bind fun xs102 =>
    (rc e87 p3 xs66 xs102).bind fun y112 =>
    (chk ((y112.2.length : Int) - 1)).bind fun z122 =>
    (subL y112.2 0 z122).bind fun l124 =>
    (chk (n72 + 1)).bind fun z130 =>
    some (.inl (y112.1, l124, z130))
  else
    some (.inr (xs66, xs69))
noncomputable def m_impl_Dawg_words_1_b (rc : Int → Dawg → (List Str) → Str → Option ((List Str) × Str)) (node1 : Int) (p3 : Dawg) (p7 : (List Str)) (p11 : Str) : Option ((List Str) × Str) :=
  (getL p3.Nodes node1).bind fun e23 =>
  (
      bif e23.Final then
        (catL p7 ([p11] : (List Str))).bind fun xs52 =>
        some xs52
      else
        some p7 : Option (List Str)).bind fun xs42 =>
  (loopM (fun s : (List Str) × Str × Int => m_impl_Dawg_words_1_l1 e23 rc p3 s.1 s.2.1 s.2.2) (xs42, p11, 0)).bind fun x81 =>
  match x81 with
  | (xs75, xs78) =>
    some (xs75, xs78)
noncomputable def m_impl_Dawg_words_1_n : Nat → Int → Dawg → (List Str) → Str → Option ((List Str) × Str)
  | 0 => fun _ _ _ _ => none
  | n + 1 => m_impl_Dawg_words_1_b (m_impl_Dawg_words_1_n n)
noncomputable def m_impl_Dawg_words_1 : Int → Dawg → (List Str) → Str → Option ((List Str) × Str) := m_impl_Dawg_words_1_n fuelN
noncomputable def m_impl_Dawg_words (d1 : Dawg) : Option (List Str) :=
  (m_impl_Dawg_words_1 0 d1 ([] : (List Str)) ([] : Str)).bind fun y36 =>
  some y36.1
noncomputable def m_spec_l00Same_l1 (a1 : (List Int)) (b5 : (List Int)) (n14 : Int) : Option (Int ⊕ (Unit ⊕ Bool)) :=
  bif decide (n14 < (a1.length : Int)) then
    (getL a1 n14).bind fun e25 =>
    (getL b5 n14).bind fun e34 =>
    bif e25 != e34 then
      some (.inr (.inr false))
    else
      (chk (n14 + 1)).bind fun z44 =>
      some (.inl z44)
  else
    some (.inr (.inl ()))
noncomputable def m_spec_l00Same (a1 : (List Int)) (b5 : (List Int)) : Option Bool :=
  bif (a1.length : Int) != (b5.length : Int) then
    some false
  else
    (
        (loopM (fun s : Int => m_spec_l00Same_l1 a1 b5 s) 0).bind fun x17 =>
        match x17 with
        | .inl _ =>
          some (.inl ())
        | .inr r50 =>
          some (.inr r50) : Option (Unit ⊕ Bool)).bind fun x12 =>
    match x12 with
    | .inl _ =>
      some true
    | .inr r53 =>
      some r53
noncomputable def m_spec_l06Equal (a1 : Node) (b5 : Node) : Option Bool :=
  (
      bif a1.Final == b5.Final then
        bif a1.Letters == b5.Letters then
          (m_spec_l00Same a1.Next b5.Next).bind fun y26 =>
          some y26
        else
          some false
      else
        some false : Option Bool).bind fun t9 =>
  some t9
noncomputable def m_spec_l06Same_l1 (a1 : Dawg) (b5 : Dawg) (n23 : Int) : Option (Int ⊕ (Unit ⊕ Bool)) :=
  bif decide (n23 < (a1.Nodes.length : Int)) then
    (getL a1.Nodes n23).bind fun e34 =>
    (getL b5.Nodes n23).bind fun e46 =>
    (m_spec_l06Equal e34 e46).bind fun y58 =>
    bif !y58 then
      some (.inr (.inr false))
    else
      (chk (n23 + 1)).bind fun z64 =>
      some (.inl z64)
  else
    some (.inr (.inl ()))
noncomputable def m_spec_l06Same (a1 : Dawg) (b5 : Dawg) : Option Bool :=
  bif (a1.Nodes.length : Int) != (b5.Nodes.length : Int) then
    some false
  else
    (
        (loopM (fun s : Int => m_spec_l06Same_l1 a1 b5 s) 0).bind fun x26 =>
        match x26 with
        | .inl _ =>
          some (.inl ())
        | .inr r70 =>
          some (.inr r70) : Option (Unit ⊕ Bool)).bind fun x21 =>
    match x21 with
    | .inl _ =>
      some true
    | .inr r73 =>
      some r73
noncomputable def m_spec_SameDawg (a1 : Dawg) (b5 : Dawg) : Option Bool :=
  (m_spec_l06Same a1 b5).bind fun y17 =>
  some y17
noncomputable def m_impl_Dawg_step (d1 : Dawg) (node5 : Int) (letter7 : UInt8) : Option Int :=
  (chk ((d1.Nodes.length : Int) - 1)).bind fun z13 =>
  (m_impl_within node5 0 z13).bind fun y15 =>
  bif !y15 then
    some (-1)
  else
    (getL d1.Nodes node5).bind fun e21 =>
    (m_strings_IndexByte e21.Letters letter7).bind fun y40 =>
    bif decide (0 ≤ y40) then
      (getL e21.Next y40).bind fun e47 =>
      some e47
    else
      some (-1)
noncomputable def m_impl_Dawg_after_l1 (s5 : Str) (d1 : Dawg) (n15 : Int) (n17 : Int) : Option ((Int × Int) ⊕ Int) :=
  (
      bif decide (n17 < (s5.length : Int)) then
        some (decide (0 ≤ n15))
      else
        some false : Option Bool).bind fun t27 =>
  bif t27 then
    (getL s5 n17).bind fun c37 =>
    (m_impl_Dawg_step d1 n15 c37).bind fun y39 =>
    (chk (n17 + 1)).bind fun z45 =>
    some (.inl (y39, z45))
  else
    some (.inr n15)
noncomputable def m_impl_Dawg_after (d1 : Dawg) (s5 : Str) : Option Int :=
  (
      (loopM (fun s : Int × Int => m_impl_Dawg_after_l1 s5 d1 s.1 s.2) (0, 0)).bind fun n20 =>
      some n20 : Option Int).bind fun n11 =>
  some n11
noncomputable def m_impl_Dawg_accepts (d1 : Dawg) (s5 : Str) : Option Bool :=
  (m_impl_Dawg_after d1 s5).bind fun y11 =>
  (
      bif decide (0 ≤ y11) then
        (getL d1.Nodes y11).bind fun e22 =>
        some e22.Final
      else
        some false : Option Bool).bind fun t17 =>
  some t17
noncomputable def m_spec_l01Small (c1 : UInt8) : Option Bool :=
  (
      bif decide (97 ≤ c1) then
        some (decide (c1 ≤ 122))
      else
        some false : Option Bool).bind fun t2 =>
  some t2
noncomputable def m_spec_l00In (n1 : Int) (low3 : Int) (high5 : Int) : Option Bool :=
  (
      bif decide (low3 ≤ n1) then
        some (decide (n1 ≤ high5))
      else
        some false : Option Bool).bind fun t7 =>
  some t7
noncomputable def m_spec_l06Tails_l1 (list1 : (List Str)) (c19 : UInt8) (xs28 : (List Str)) (n31 : Int) : Option (((List Str) × Int) ⊕ ((List Str) × Int)) :=
  (
      bif decide (n31 < (list1.length : Int)) then
        (getL list1 n31).bind fun e50 =>
        (getL e50 0).bind fun c59 =>
        some (c59 == c19)
      else
        some false : Option Bool).bind fun t44 =>
  bif t44 then
    (getL list1 n31).bind fun e65 =>
    (subL e65 1 (e65.length : Int)).bind fun s74 =>
    (catL xs28 ([s74] : (List Str))).bind fun xs79 =>
    (chk (n31 + 1)).bind fun z86 =>
    some (.inl (xs79, z86))
  else
    some (.inr (xs28, n31))
noncomputable def m_spec_l06Tails (list1 : (List Str)) (from_5 : Int) : Option ((List Str) × Int) :=
  (getL list1 from_5).bind fun e10 =>
  (getL e10 0).bind fun c19 =>
  (
      (loopM (fun s : (List Str) × Int => m_spec_l06Tails_l1 list1 c19 s.1 s.2) (([] : (List Str)), from_5)).bind fun x39 =>
      match x39 with
      | (xs34, n37) =>
        some (xs34, n37) : Option ((List Str) × Int)).bind fun x26 =>
  match x26 with
  | (xs21, n24) =>
    some (xs21, n24)
noncomputable def m_spec_l06B_build_l1 (list5 : (List Str)) (rc : l06B → (List Str) → Option (Int × l06B)) (s57 : Str) (xs59 : (List Node)) (xs62 : (List Int)) (next65 : Int) : Option ((Str × (List Node) × (List Int) × Int) ⊕ (Str × (List Node) × (List Int))) :=
  bif decide (next65 < (list5.length : Int)) then
    (m_spec_l06Tails list5 next65).bind fun y83 =>
    (getL list5 next65).bind fun e92 =>
    (subL e92 0 1).bind fun s101 =>
    (catL s57 s101).bind fun s103 =>
    (rc (⟨xs59⟩ : l06B) y83.1).bind fun y109 =>
    (catL xs62 ([y109.1] : (List Int))).bind fun xs122 =>
    some (.inl (s103, y109.2.nodes, xs122, y83.2))
  else
    some (.inr (s57, xs59, xs62))
noncomputable def m_spec_l06B_build_l2 (xs52 : (List Node)) (t16 : Bool) (s47 : Str) (xs49 : (List Int)) (n140 : Int) : Option (Int ⊕ (Unit ⊕ (Int × l06B))) :=
  bif decide (n140 < (xs52.length : Int)) then
    (getL xs52 n140).bind fun e150 =>
    (m_spec_l06Equal e150 (⟨t16, s47, xs49⟩ : Node)).bind fun y162 =>
    bif y162 then
      some (.inr (.inr (n140, (⟨xs52⟩ : l06B))))
    else
      (chk (n140 + 1)).bind fun z168 =>
      some (.inl z168)
  else
    some (.inr (.inl ()))
noncomputable def m_spec_l06B_build_b (rc : l06B → (List Str) → Option (Int × l06B)) (b1 : l06B) (list5 : (List Str)) : Option (Int × l06B) :=
  (
      (
          bif decide (0 < (list5.length : Int)) then
            (getL list5 0).bind fun e28 =>
            some (e28 == ([] : Str))
          else
            some false : Option Bool).bind fun t22 =>
      bif t22 then
        some (true, 1)
      else
        some (false, 0) : Option (Bool × Int)).bind fun x20 =>
  match x20 with
  | (t16, next18) =>
    (
        (loopM (fun s : Str × (List Node) × (List Int) × Int => m_spec_l06B_build_l1 list5 rc s.1 s.2.1 s.2.2.1 s.2.2.2) (([] : Str), b1.nodes, ([] : (List Int)), next18)).bind fun x76 =>
        match x76 with
        | (s68, xs70, xs73) =>
          some (s68, xs73, xs70) : Option (Str × (List Int) × (List Node))).bind fun x55 =>
    match x55 with
    | (s47, xs49, xs52) =>
      (
          (loopM (fun s : Int => m_spec_l06B_build_l2 xs52 t16 s47 xs49 s) 0).bind fun x143 =>
          match x143 with
          | .inl _ =>
            some (.inl ())
          | .inr r174 =>
            some (.inr r174) : Option (Unit ⊕ (Int × l06B))).bind fun x138 =>
      match x138 with
      | .inl _ =>
        (catL xs52 ([(⟨t16, s47, xs49⟩ : Node)] : (List Node))).bind fun xs181 =>
        (chk ((xs181.length : Int) - 1)).bind fun z192 =>
        some (z192, (⟨xs181⟩ : l06B))
      | .inr r194 =>
        some r194
noncomputable def m_spec_l06B_build_n : Nat → l06B → (List Str) → Option (Int × l06B)
  | 0 => fun _ _ => none
  | n + 1 => m_spec_l06B_build_b (m_spec_l06B_build_n n)
noncomputable def m_spec_l06B_build : l06B → (List Str) → Option (Int × l06B) := m_spec_l06B_build_n fuelN
noncomputable def m_spec_l06R_visit_l1 (r1 : l06R) (k10 : Int) (rc : l06R → Int → Option l06R) (xs66 : (List Int)) (xs69 : (List Node)) (n72 : Int) : Option (((List Int) × (List Node) × Int) ⊕ ((List Int) × (List Node))) :=
  (getL r1.old k10).bind fun e86 =>
  bif decide (n72 < (e86.Next.length : Int)) then
    (
        (getL r1.old k10).bind fun e108 =>
        (getL e108.Next n72).bind fun e120 =>
        (getL xs66 e120).bind fun e129 =>
        bif decide (e129 < 0) then
          (rc (⟨r1.old, xs66, xs69⟩ : l06R) e120).bind fun y139 =>
          some (y139.place, y139.out)
        else
          some (xs66, xs69) : Option ((List Int) × (List Node))).bind fun x106 =>
    match x106 with
    | (xs100, xs103) =>
      (chk (n72 + 1)).bind fun z151 =>
      some (.inl (xs100, xs103, z151))
  else
    some (.inr (xs66, xs69))
noncomputable def m_spec_l06R_visit_b (rc : l06R → Int → Option l06R) (r1 : l06R) (k10 : Int) : Option l06R :=
  (getL r1.place k10).bind fun e14 =>
  (setL r1.place k10 (r1.out.length : Int)).bind fun xs24 =>
  (getL r1.old k10).bind fun e29 =>
  (getL r1.old k10).bind fun e41 =>
  (catL r1.out ([(⟨e29.Final, e41.Letters, ([] : (List Int))⟩ : Node)] : (List Node))).bind fun xs56 =>
  (loopM (fun s : (List Int) × (List Node) × Int => m_spec_l06R_visit_l1 r1 k10 rc s.1 s.2.1 s.2.2) (xs24, xs56, 0)).bind fun x81 =>
  match x81 with
  | (xs75, xs78) =>
    some (⟨r1.old, xs75, xs78⟩ : l06R)
noncomputable def m_spec_l06R_visit_n : Nat → l06R → Int → Option l06R
  | 0 => fun _ _ => none
  | n + 1 => m_spec_l06R_visit_b (m_spec_l06R_visit_n n)
noncomputable def m_spec_l06R_visit : l06R → Int → Option l06R := m_spec_l06R_visit_n fuelN
noncomputable def m_spec_l06Number_l1 (nodes1 : (List Node)) (xs20 : (List Int)) (n23 : Int) : Option (((List Int) × Int) ⊕ (List Int)) :=
  bif decide (n23 < (nodes1.length : Int)) then
    (catL xs20 ([(-1)] : (List Int))).bind fun xs38 =>
    (chk (n23 + 1)).bind fun z48 =>
    some (.inl (xs38, z48))
  else
    some (.inr xs20)
noncomputable def m_spec_l06Number_l3 (nodes : List Node) (place : List Int) (i e : Int) (xs : List Node) (n : Int) : Option ((List Node × Int) ⊕ List Node) :=
  (getL nodes i).bind fun x =>
  bif decide (n < (x.Next.length : Int)) then
    (getL xs e).bind fun y =>
    (getL nodes i).bind fun x2 =>
    (getL x2.Next n).bind fun to =>
    (getL place to).bind fun p =>
    (catL y.Next ([p] : List Int)).bind fun ys =>
    (setL xs e (⟨y.Final, y.Letters, ys⟩ : Node)).bind fun xs2 =>
    (chk (n + 1)).bind fun z =>
    some (.inl (xs2, z))
  else
    some (.inr xs)
noncomputable def m_spec_l06Number_l2 (nodes : List Node) (place : List Int) (xs : List Node) (i : Int) : Option ((List Node × Int) ⊕ List Node) :=
  bif decide (i < (nodes.length : Int)) then
    ((getL place i).bind fun e =>
      bif decide (e < 0) then
        some xs
      else
        loopM (fun s : List Node × Int => m_spec_l06Number_l3 nodes place i e s.1 s.2) (xs, 0)).bind fun xs2 =>
    (chk (i + 1)).bind fun z =>
    some (.inl (xs2, z))
  else
    some (.inr xs)
noncomputable def m_spec_l06Number (nodes1 : (List Node)) (root5 : Int) : Option (List Node) :=
  (
      (loopM (fun s : (List Int) × Int => m_spec_l06Number_l1 nodes1 s.1 s.2) (([] : (List Int)), 0)).bind fun xs26 =>
      some (xs26, ([] : (List Node))) : Option ((List Int) × (List Node))).bind fun x17 =>
  match x17 with
  | (xs11, xs14) =>
    (m_spec_l06R_visit (⟨nodes1, xs11, xs14⟩ : l06R) root5).bind fun y56 =>
    (loopM (fun s : List Node × Int => m_spec_l06Number_l2 nodes1 y56.place s.1 s.2) (y56.out, 0)).bind fun xs =>
    some xs
noncomputable def m_spec_l06Build (list1 : (List Str)) : Option Dawg :=
  (m_spec_l06B_build (⟨([] : (List Node))⟩ : l06B) list1).bind fun y13 =>
  (m_spec_l06Number y13.2.nodes y13.1).bind fun y21 =>
  some (⟨y21⟩ : Dawg)
noncomputable def m_spec_l06Draw (s1 : l00Src) (most8 : Int) : Option (Dawg × l00Src) :=
  (m_spec_l05Draw s1 most8).bind fun y14 =>
  (m_spec_l06Build y14.1.Words).bind fun y30 =>
  some (y30, (⟨s1.code, y14.2.at_, y14.2.seed⟩ : l00Src))
noncomputable def m_spec_A2Dawg (code1 : Str) : Option Dawg :=
  (m_spec_l00From code1).bind fun y9 =>
  (m_spec_l06Draw y9 14).bind fun y20 =>
  some y20.1
noncomputable def m_cmp_isNaN_string (x1 : Str) : Option Bool :=
  some (x1 != x1)
noncomputable def m_cmp_Less_string (x1 : Str) (y3 : Str) : Option Bool :=
  (
      (m_cmp_isNaN_string x1).bind fun y9 =>
      bif y9 then
        (m_cmp_isNaN_string y3).bind fun y15 =>
        bif !y15 then
          some true
        else
          some (ltS x1 y3)
      else
        some (ltS x1 y3) : Option Bool).bind fun t5 =>
  some t5
noncomputable def m_slices_isNaN_string (x1 : Str) : Option Bool :=
  some (x1 != x1)
noncomputable def m_slices_BinarySearch_string_string_l1 (x1 : (List Str)) (target5 : Str) (h12 : Int) (n14 : Int) : Option ((Int × Int) ⊕ Int) :=
  bif decide (h12 < n14) then
    (chk (h12 + n14)).bind fun z25 =>
    (chk ((z25 % 18446744073709551616) / 2)).bind fun z27 =>
    (getL x1 z27).bind fun e29 =>
    (m_cmp_Less_string e29 target5).bind fun y38 =>
    bif y38 then
      (chk (z27 + 1)).bind fun z44 =>
      some (.inl (z44, n14))
    else
      some (.inl (h12, z27))
  else
    some (.inr h12)
noncomputable def m_slices_BinarySearch_string_string (x1 : (List Str)) (target5 : Str) : Option (Int × Bool) :=
  (
      (loopM (fun s : Int × Int => m_slices_BinarySearch_string_string_l1 x1 target5 s.1 s.2) (0, (x1.length : Int))).bind fun h17 =>
      some h17 : Option Int).bind fun h8 =>
  (
      bif decide (h8 < (x1.length : Int)) then
        (getL x1 h8).bind fun e60 =>
        bif e60 == target5 then
          some (h8, true)
        else
          (getL x1 h8).bind fun e71 =>
          (m_slices_isNaN_string e71).bind fun y80 =>
          bif y80 then
            (m_slices_isNaN_string target5).bind fun y86 =>
            some (h8, y86)
          else
            some (h8, false)
      else
        some (h8, false) : Option (Int × Bool)).bind fun x57 =>
  match x57 with
  | (n53, i55) =>
    some (n53, i55)
noncomputable def m_impl_removed (list1 : (List Str)) (word4 : Str) : Option ((List Str) × Int) :=
  (m_slices_BinarySearch_string_string list1 word4).bind fun y6 =>
  bif !y6.2 then
    some (([] : (List Str)), 3)
  else
    (chk (y6.1 + 1)).bind fun z17 =>
    (m_slices_Delete_string_string list1 y6.1 z17).bind fun y19 =>
    some (y19, 0)
noncomputable def m_impl_isForm_l1 (s1 : Str) (n5 : Int) : Option (Int ⊕ (Unit ⊕ Bool)) :=
  bif decide (n5 < (s1.length : Int)) then
    (getL s1 n5).bind fun c14 =>
    (m_impl_formByte c14).bind fun y16 =>
    bif !y16 then
      some (.inr (.inr false))
    else
      (chk (n5 + 1)).bind fun z22 =>
      some (.inl z22)
  else
    some (.inr (.inl ()))
noncomputable def m_impl_isForm (s1 : Str) : Option Bool :=
  (
      (loopM (fun s : Int => m_impl_isForm_l1 s1 s) 0).bind fun x8 =>
      match x8 with
      | .inl _ =>
        some (.inl ())
      | .inr r28 =>
        some (.inr r28) : Option (Unit ⊕ Bool)).bind fun x3 =>
  match x3 with
  | .inl _ =>
    (
        bif decide (1 ≤ (s1.length : Int)) then
          some (decide ((s1.length : Int) ≤ 13))
        else
          some false : Option Bool).bind fun i31 =>
    some i31
  | .inr r39 =>
    some r39
noncomputable def m_impl_added (list1 : (List Str)) (word4 : Str) : Option ((List Str) × Int) :=
  (m_impl_isForm word4).bind fun y6 =>
  bif !y6 then
    some (([] : (List Str)), 7)
  else
    (m_slices_BinarySearch_string_string list1 word4).bind fun y16 =>
    bif y16.2 then
      some (([] : (List Str)), 4)
    else
      (m_slices_Insert_string_string list1 y16.1 ([word4] : (List Str))).bind fun y30 =>
      some (y30, 0)
noncomputable def m_impl_codeOf (err1 : Int) : Option Int :=
  bif !(err1 != 0) then
    some 0
  else
    (m_errors_Is err1 7).bind fun y8 =>
    bif y8 then
      some 7
    else
      (m_errors_Is err1 4).bind fun y17 =>
      bif y17 then
        some 4
      else
        some 3
noncomputable def m_impl_fits_l1 (list1 : (List Str)) (n10 : Int) (n12 : Int) : Option ((Int × Int) ⊕ Int) :=
  bif decide (n10 < (list1.length : Int)) then
    (getL list1 n10).bind fun e23 =>
    (chk (n12 + (e23.length : Int))).bind fun z32 =>
    (chk (n10 + 1)).bind fun z34 =>
    some (.inl (z34, z32))
  else
    some (.inr n12)
noncomputable def m_impl_fits (list1 : (List Str)) : Option Bool :=
  (
      (loopM (fun s : Int × Int => m_impl_fits_l1 list1 s.1 s.2) (0, 1)).bind fun n15 =>
      some n15 : Option Int).bind fun n5 =>
  (
      bif decide (n5 ≤ 3000) then
        some (decide ((list1.length : Int) ≤ 3000))
      else
        some false : Option Bool).bind fun t42 =>
  bif t42 then
    some true
  else
    (m_impl_dawgOf list1).bind fun y52 =>
    some (y52.2 == 0)
noncomputable def m_impl_ChangeDawg_l1 (less5 : (List Str)) (more9 : (List Str)) (xs43 : (List Str)) (n46 : Int) : Option (((List Str) × Int) ⊕ ((List Str) ⊕ (Dawg × Int))) :=
  (chk ((less5.length : Int) + (more9.length : Int))).bind fun z59 =>
  bif decide (n46 < z59) then
    (
        bif decide (n46 < (less5.length : Int)) then
          (getL less5 n46).bind fun e72 =>
          (m_impl_removed xs43 e72).bind fun y81 =>
          some (y81.2, y81.1)
        else
          (chk (n46 - (less5.length : Int))).bind fun z92 =>
          (getL more9 z92).bind fun e94 =>
          (m_impl_added xs43 e94).bind fun y103 =>
          some (y103.2, y103.1) : Option (Int × (List Str))).bind fun x68 =>
    match x68 with
    | (er62, xs65) =>
      (m_impl_codeOf er62).bind fun y114 =>
      bif y114 != 0 then
        some (.inr (.inr ((⟨([] : (List Node))⟩ : Dawg), y114)))
      else
        (m_impl_fits xs65).bind fun y127 =>
        bif !y127 then
          some (.inr (.inr ((⟨([] : (List Node))⟩ : Dawg), 5)))
        else
          (chk (n46 + 1)).bind fun z139 =>
          some (.inl (xs65, z139))
  else
    some (.inr (.inl xs43))
noncomputable def m_impl_ChangeDawg (d1 : Dawg) (less5 : (List Str)) (more9 : (List Str)) : Option (Dawg × Int) :=
  (m_impl_ValidDawg d1).bind fun y21 =>
  bif !y21 then
    some ((⟨([] : (List Node))⟩ : Dawg), 1)
  else
    (m_impl_Dawg_words d1).bind fun y31 =>
    (
        (loopM (fun s : (List Str) × Int => m_impl_ChangeDawg_l1 less5 more9 s.1 s.2) (y31, 0)).bind fun x52 =>
        match x52 with
        | .inl xs49 =>
          some (.inl xs49)
        | .inr r145 =>
          some (.inr r145) : Option ((List Str) ⊕ (Dawg × Int))).bind fun x41 =>
    match x41 with
    | .inl xs38 =>
      (m_impl_dawgOf xs38).bind fun y148 =>
      some (y148.1, y148.2)
    | .inr r160 =>
      some r160
noncomputable def m_impl_AddToDawg (d1 : Dawg) (word5 : Str) : Option (Dawg × Int) :=
  (m_impl_ChangeDawg d1 ([] : (List Str)) ([word5] : (List Str))).bind fun y18 =>
  some (y18.1, y18.2)
noncomputable def m_impl_RemoveFromDawg (d1 : Dawg) (word5 : Str) : Option (Dawg × Int) :=
  (m_impl_ChangeDawg d1 ([word5] : (List Str)) ([] : (List Str))).bind fun y18 =>
  some (y18.1, y18.2)
noncomputable def m_spec_l06Shape_l2 (e29 : Node) (d1 : Dawg) (n44 : Int) : Option (Int ⊕ (Unit ⊕ Bool)) :=
  bif decide (n44 < (e29.Next.length : Int)) then
    (
        (getL e29.Next n44).bind fun e59 =>
        (chk ((d1.Nodes.length : Int) - 1)).bind fun z68 =>
        (m_spec_l00In e59 0 z68).bind fun y70 =>
        bif !y70 then
          some true
        else
          (getL e29.Letters n44).bind fun c77 =>
          bif c77 != 62 then
            (getL e29.Letters n44).bind fun c80 =>
            (m_spec_l01Small c80).bind fun y82 =>
            bif !y82 then
              some true
            else
              bif decide (0 < n44) then
                (getL e29.Letters n44).bind fun c90 =>
                (chk (n44 - 1)).bind fun z92 =>
                (getL e29.Letters z92).bind fun c94 =>
                some (decide (c90 ≤ c94))
              else
                some false
          else
            bif decide (0 < n44) then
              (getL e29.Letters n44).bind fun c99 =>
              (chk (n44 - 1)).bind fun z101 =>
              (getL e29.Letters z101).bind fun c103 =>
              some (decide (c99 ≤ c103))
            else
              some false : Option Bool).bind fun t54 =>
    bif t54 then
      some (.inr (.inr false))
    else
      (chk (n44 + 1)).bind fun z109 =>
      some (.inl z109)
  else
    some (.inr (.inl ()))
noncomputable def m_spec_l06Shape_l1 (d1 : Dawg) (x18 : Int) : Option (Int ⊕ (Unit ⊕ Bool)) :=
  bif decide (x18 < (d1.Nodes.length : Int)) then
    (
        (getL d1.Nodes x18).bind fun e29 =>
        bif (e29.Letters.length : Int) != (e29.Next.length : Int) then
          some (.inr false)
        else
          (loopM (fun s : Int => m_spec_l06Shape_l2 e29 d1 s) 0).bind fun x47 =>
          match x47 with
          | .inl _ =>
            some (.inl ())
          | .inr r115 =>
            some (.inr r115) : Option (Unit ⊕ Bool)).bind fun x27 =>
    match x27 with
    | .inl _ =>
      (chk (x18 + 1)).bind fun z118 =>
      some (.inl z118)
    | .inr r121 =>
      some (.inr (.inr r121))
  else
    some (.inr (.inl ()))
noncomputable def m_spec_l06Shape (d1 : Dawg) : Option Bool :=
  (m_spec_l00In (d1.Nodes.length : Int) 1 3000).bind fun y10 =>
  bif !y10 then
    some false
  else
    (
        (loopM (fun s : Int => m_spec_l06Shape_l1 d1 s) 0).bind fun x21 =>
        match x21 with
        | .inl _ =>
          some (.inl ())
        | .inr r125 =>
          some (.inr r125) : Option (Unit ⊕ Bool)).bind fun x16 =>
    match x16 with
    | .inl _ =>
      some true
    | .inr r128 =>
      some r128
noncomputable def m_spec_l06Useful_l3 (d1 : Dawg) (k33 : Int) (xs93 : (List Bool)) (i94 : Int) : Option (((List Bool) × Int) ⊕ (List Bool)) :=
  (getL d1.Nodes k33).bind fun e103 =>
  bif decide (i94 < (e103.Next.length : Int)) then
    (
        (getL xs93 k33).bind fun e120 =>
        bif e120 then
          (getL xs93 k33).bind fun e127 =>
          (setL xs93 k33 true).bind fun xs134 =>
          some xs134
        else
          (getL d1.Nodes k33).bind fun e139 =>
          (getL e139.Next i94).bind fun e151 =>
          (getL xs93 e151).bind fun e160 =>
          (getL xs93 k33).bind fun e166 =>
          (setL xs93 k33 e160).bind fun xs173 =>
          some xs173 : Option (List Bool)).bind fun xs117 =>
    (chk (i94 + 1)).bind fun z179 =>
    some (.inl (xs117, z179))
  else
    some (.inr xs93)
noncomputable def m_spec_l06Useful_l2 (d1 : Dawg) (xs32 : (List Bool)) (k33 : Int) : Option (((List Bool) × Int) ⊕ (List Bool)) :=
  bif decide (k33 < (d1.Nodes.length : Int)) then
    (
        (
            (getL xs32 k33).bind fun e49 =>
            bif e49 then
              (getL xs32 k33).bind fun e56 =>
              (setL xs32 k33 true).bind fun xs63 =>
              some xs63
            else
              (getL d1.Nodes k33).bind fun e68 =>
              (getL xs32 k33).bind fun e80 =>
              (setL xs32 k33 e68.Final).bind fun xs87 =>
              some xs87 : Option (List Bool)).bind fun xs46 =>
        (loopM (fun s : (List Bool) × Int => m_spec_l06Useful_l3 d1 k33 s.1 s.2) (xs46, 0)).bind fun xs97 =>
        some xs97 : Option (List Bool)).bind fun xs43 =>
    (chk (k33 + 1)).bind fun z187 =>
    some (.inl (xs43, z187))
  else
    some (.inr xs32)
noncomputable def m_spec_l06Useful_l1 (d1 : Dawg) (xs18 : (List Bool)) (i19 : Int) : Option (((List Bool) × Int) ⊕ (List Bool)) :=
  bif decide (i19 ≤ 13) then
    (
        (loopM (fun s : (List Bool) × Int => m_spec_l06Useful_l2 d1 s.1 s.2) (xs18, 0)).bind fun xs36 =>
        some xs36 : Option (List Bool)).bind fun xs29 =>
    (chk (i19 + 1)).bind fun z195 =>
    some (.inl (xs29, z195))
  else
    some (.inr xs18)
noncomputable def m_spec_l06Useful_l4 (d1 : Dawg) (xs15 : (List Bool)) (n205 : Int) : Option (Int ⊕ (Unit ⊕ Bool)) :=
  bif decide (n205 < (d1.Nodes.length : Int)) then
    (getL xs15 n205).bind fun e214 =>
    bif !e214 then
      some (.inr (.inr false))
    else
      (chk (n205 + 1)).bind fun z221 =>
      some (.inl z221)
  else
    some (.inr (.inl ()))
noncomputable def m_spec_l06Useful (d1 : Dawg) : Option Bool :=
  (makeL (d1.Nodes.length : Int) (false : Bool)).bind fun xs10 =>
  (
      (loopM (fun s : (List Bool) × Int => m_spec_l06Useful_l1 d1 s.1 s.2) (xs10, 0)).bind fun xs22 =>
      some xs22 : Option (List Bool)).bind fun xs15 =>
  (
      (loopM (fun s : Int => m_spec_l06Useful_l4 d1 xs15 s) 1).bind fun x208 =>
      match x208 with
      | .inl _ =>
        some (.inl ())
      | .inr r227 =>
        some (.inr r227) : Option (Unit ⊕ Bool)).bind fun x203 =>
  match x203 with
  | .inl _ =>
    some true
  | .inr r230 =>
    some r230
noncomputable def m_spec_l06W_walk_l1 (e28 : Node) (s10 : Str) (rc : l06W → Int → Str → Option l06W) (w1 : l06W) (t68 : Bool) (xs70 : (List Str)) (n73 : Int) : Option ((Bool × (List Str) × Int) ⊕ (Bool × (List Str))) :=
  (
      bif decide (n73 < (e28.Next.length : Int)) then
        some (!t68)
      else
        some false : Option Bool).bind fun t86 =>
  bif t86 then
    (getL e28.Next n73).bind fun e97 =>
    (chk (n73 + 1)).bind fun z106 =>
    (subL e28.Letters n73 z106).bind fun s108 =>
    (catL s10 s108).bind fun s110 =>
    (rc (⟨w1.d, xs70, t68⟩ : l06W) e97 s110).bind fun y112 =>
    (chk (n73 + 1)).bind fun z119 =>
    some (.inl (y112.full, y112.out, z119))
  else
    some (.inr (t68, xs70))
noncomputable def m_spec_l06W_walk_b (rc : l06W → Int → Str → Option l06W) (w1 : l06W) (node8 : Int) (s10 : Str) : Option l06W :=
  (
      bif w1.full then
        some true
      else
        some (decide (13 < (s10.length : Int))) : Option Bool).bind fun t12 =>
  bif t12 then
    some (⟨w1.d, w1.out, true⟩ : l06W)
  else
    (getL w1.d.Nodes node8).bind fun e28 =>
    (
        bif e28.Final then
          (catL w1.out ([s10] : (List Str))).bind fun xs51 =>
          some (decide (3000 < (xs51.length : Int)), xs51)
        else
          some (w1.full, w1.out) : Option (Bool × (List Str))).bind fun x45 =>
    match x45 with
    | (t40, xs42) =>
      (loopM (fun s : Bool × (List Str) × Int => m_spec_l06W_walk_l1 e28 s10 rc w1 s.1 s.2.1 s.2.2) (t40, xs42, 0)).bind fun x81 =>
      match x81 with
      | (t76, xs78) =>
        some (⟨w1.d, xs78, t76⟩ : l06W)
noncomputable def m_spec_l06W_walk_n : Nat → l06W → Int → Str → Option l06W
  | 0 => fun _ _ _ => none
  | n + 1 => m_spec_l06W_walk_b (m_spec_l06W_walk_n n)
noncomputable def m_spec_l06W_walk : l06W → Int → Str → Option l06W := m_spec_l06W_walk_n fuelN
noncomputable def m_spec_l06Words (d1 : Dawg) : Option ((List Str) × Bool) :=
  (m_spec_l06W_walk (⟨d1, ([] : (List Str)), false⟩ : l06W) 0 ([] : Str)).bind fun y12 =>
  some (y12.out, !y12.full)
noncomputable def m_spec_l06Ok (d1 : Dawg) : Option Bool :=
  (
      (m_spec_l06Shape d1).bind fun y9 =>
      bif !y9 then
        some true
      else
        (getL d1.Nodes 0).bind fun e20 =>
        bif e20.Final then
          some true
        else
          (m_spec_l06Useful d1).bind fun y34 =>
          some (!y34) : Option Bool).bind fun t5 =>
  bif t5 then
    some false
  else
    (m_spec_l06Words d1).bind fun y42 =>
    bif !y42.2 then
      some false
    else
      (m_spec_l06Build y42.1).bind fun y50 =>
      (m_spec_l06Same d1 y50).bind fun y65 =>
      some y65
noncomputable def m_spec_l06Step_l1 (e12 : Node) (letter7 : UInt8) (n26 : Int) : Option (Int ⊕ (Unit ⊕ Int)) :=
  (
      bif decide (n26 < (e12.Letters.length : Int)) then
        some (decide (n26 < (e12.Next.length : Int)))
      else
        some false : Option Bool).bind fun t34 =>
  bif t34 then
    (getL e12.Letters n26).bind fun c44 =>
    bif c44 == letter7 then
      (getL e12.Next n26).bind fun e47 =>
      some (.inr (.inr e47))
    else
      (chk (n26 + 1)).bind fun z56 =>
      some (.inl z56)
  else
    some (.inr (.inl ()))
noncomputable def m_spec_l06Step (d1 : Dawg) (node5 : Int) (letter7 : UInt8) : Option Int :=
  (getL d1.Nodes node5).bind fun e12 =>
  (
      (loopM (fun s : Int => m_spec_l06Step_l1 e12 letter7 s) 0).bind fun x29 =>
      match x29 with
      | .inl _ =>
        some (.inl ())
      | .inr r62 =>
        some (.inr r62) : Option (Unit ⊕ Int)).bind fun x24 =>
  match x24 with
  | .inl _ =>
    some (-1)
  | .inr r65 =>
    some r65
noncomputable def m_spec_l06After_l1 (s7 : Str) (d1 : Dawg) (node13 : Int) (n15 : Int) : Option ((Int × Int) ⊕ Int) :=
  (
      bif decide (n15 < (s7.length : Int)) then
        some (decide (0 ≤ node13))
      else
        some false : Option Bool).bind fun t25 =>
  bif t25 then
    (getL s7 n15).bind fun c34 =>
    (m_spec_l06Step d1 node13 c34).bind fun y36 =>
    (chk (n15 + 1)).bind fun z42 =>
    some (.inl (y36, z42))
  else
    some (.inr node13)
noncomputable def m_spec_l06After (d1 : Dawg) (node5 : Int) (s7 : Str) : Option Int :=
  (
      (loopM (fun s : Int × Int => m_spec_l06After_l1 s7 d1 s.1 s.2) (node5, 0)).bind fun node18 =>
      some node18 : Option Int).bind fun node9 =>
  some node9
noncomputable def m_spec_l06Accepts (d1 : Dawg) (s5 : Str) : Option Bool :=
  (m_spec_l06After d1 0 s5).bind fun y7 =>
  (
      bif decide (0 ≤ y7) then
        (getL d1.Nodes y7).bind fun e22 =>
        some e22.Final
      else
        some false : Option Bool).bind fun t13 =>
  some t13
noncomputable def m_spec_AcceptsWord (d1 : Dawg) (s5 : Str) : Option Bool :=
  (
      (m_spec_l06Ok d1).bind fun y15 =>
      bif y15 then
        (m_spec_l06Accepts d1 s5).bind fun y21 =>
        some y21
      else
        some false : Option Bool).bind fun t11 =>
  some t11
noncomputable def m_impl_selected_string_l1 (list1 : (List Str)) (is5 : (Str → Option Bool)) (xs21 : (List Str)) (n24 : Int) : Option (((List Str) × Int) ⊕ (List Str)) :=
  bif decide (n24 < (list1.length : Int)) then
    (
        (getL list1 n24).bind fun e41 =>
        (is5 e41).bind fun y50 =>
        bif y50 then
          (catL xs21 ([e41] : (List Str))).bind fun xs59 =>
          some xs59
        else
          some xs21 : Option (List Str)).bind fun xs36 =>
    (chk (n24 + 1)).bind fun z69 =>
    some (.inl (xs36, z69))
  else
    some (.inr xs21)
noncomputable def m_impl_selected_string (list1 : (List Str)) (is5 : (Str → Option Bool)) : Option (List Str) :=
  (
      (loopM (fun s : (List Str) × Int => m_impl_selected_string_l1 list1 is5 s.1 s.2) (([] : (List Str)), 0)).bind fun xs27 =>
      some xs27 : Option (List Str)).bind fun xs15 =>
  some xs15
noncomputable def m_impl_chosen (a1 : Dawg) (b5 : Dawg) (of9 : (Str → Option Bool)) : Option (List Str) :=
  (m_impl_Dawg_words a1).bind fun y25 =>
  (m_impl_Dawg_words b5).bind fun y32 =>
  (catL y25 y32).bind fun xs39 =>
  (m_slices_Sort_string_string xs39).bind fun y46 =>
  (m_slices_Compact_string_string y46).bind fun y53 =>
  (m_impl_selected_string y53 of9).bind fun y62 =>
  some y62
noncomputable def m_impl_minus_has (x1 : minus) (s8 : Str) : Option Bool :=
  (
      (m_impl_Dawg_accepts x1.a s8).bind fun y18 =>
      bif y18 then
        (m_impl_Dawg_accepts x1.b s8).bind fun y24 =>
        some (!y24)
      else
        some false : Option Bool).bind fun t14 =>
  some t14
noncomputable def m_impl_DawgChanges (a1 : Dawg) (b5 : Dawg) : Option ((List Str) × (List Str) × Int) :=
  (
      (m_impl_ValidDawg a1).bind fun y21 =>
      bif !y21 then
        some true
      else
        (m_impl_ValidDawg b5).bind fun y28 =>
        some (!y28) : Option Bool).bind fun t17 =>
  bif t17 then
    some (([] : (List Str)), ([] : (List Str)), 1)
  else
    (m_impl_chosen a1 b5 (fun u38 => m_impl_minus_has (⟨⟨a1.Nodes⟩, ⟨b5.Nodes⟩⟩ : minus) u38)).bind fun y40 =>
    (m_impl_chosen a1 b5 (fun u47 => m_impl_minus_has (⟨⟨b5.Nodes⟩, ⟨a1.Nodes⟩⟩ : minus) u47)).bind fun y49 =>
    some (y40, y49, 0)
noncomputable def m_laws_FnChanges (code1 : Str) (more5 : Str) : Option Bool :=
  (m_laws_a2Long code1 more5).bind fun y9 =>
  bif y9 then
    some true
  else
    (m_spec_A2Dawg code1).bind fun y15 =>
    (m_spec_A2Dawg more5).bind fun y30 =>
    (m_spec_A2Word more5).bind fun y45 =>
    (m_impl_AddToDawg y15 y45).bind fun y51 =>
    (
        bif y51.2 == 0 then
          (m_impl_RemoveFromDawg y51.1 y45).bind fun y72 =>
          (
              bif y72.2 != 0 then
                some true
              else
                (m_spec_SameDawg y72.1 y15).bind fun y93 =>
                bif !y93 then
                  some true
                else
                  (m_spec_AcceptsWord y51.1 y45).bind fun y100 =>
                  some (!y100) : Option Bool).bind fun t87 =>
          bif t87 then
            some (.inr false)
          else
            some (.inl y51.1.Nodes)
        else
          (
              bif y51.2 != 4 then
                some true
              else
                (m_spec_AcceptsWord y15 y45).bind fun y115 =>
                some (!y115) : Option Bool).bind fun t109 =>
          bif t109 then
            some (.inr false)
          else
            some (.inl y51.1.Nodes) : Option ((List Node) ⊕ Bool)).bind fun x69 =>
    match x69 with
    | .inl l66 =>
      (m_impl_DawgChanges y15 y30).bind fun y125 =>
      (m_impl_ChangeDawg y15 y125.1 y125.2.1).bind fun y135 =>
      (m_impl_ChangeDawg y30 y125.2.1 y125.1).bind fun y150 =>
      (
          bif y125.2.2 == 0 then
            bif y135.2 == 0 then
              bif y150.2 == 0 then
                (m_spec_SameDawg y135.1 y30).bind fun y172 =>
                bif y172 then
                  (m_spec_SameDawg y150.1 y15).bind fun y178 =>
                  some y178
                else
                  some false
              else
                some false
            else
              some false
          else
            some false : Option Bool).bind fun b165 =>
      some b165
    | .inr r189 =>
      some r189
end Go.Proofs.YtdaoecpkgobelaaGreatDoor
