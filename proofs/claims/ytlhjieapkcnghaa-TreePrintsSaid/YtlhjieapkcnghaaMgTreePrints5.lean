/- The proof's texts, part 5 of 9: the walks by a logic in which data are by value, the plain laws, and at the end the law, for every input. -/
import Derived.Test.YtlhjieapkcnghaaMgTreePrints4

section
set_option linter.unusedVariables false
set_option linter.unusedSimpArgs false
namespace Go.Proofs.Ytlhjieapkcnghaa
open Go.RowKit

noncomputable def t_R01_Begins (y : Bool) : D := .p (bV y)
noncomputable def R01_Begins_lv : List (Nat × List Nat) := [(0, [0, 1, 2]), (1, [6]), (3000001, [])]
noncomputable def R01_Begins_J0_0  (o1 : Bool) : St := ⟨[(6, .p (bV o1))], ⟨[], []⟩⟩
noncomputable def t_R02_Bytes (y : (List UInt8)) : D := .p (sV y)
noncomputable def R02_Bytes_lv : List (Nat × List Nat) := [(0, [0]), (1, [0, 5]), (2, [0]), (3, [0, 7]), (4, [2]), (5, [0, 13]), (6, [2]), (7, [0, 25]), (8, [2]), (9, [2]), (2001005, [])]
noncomputable def R02_Bytes_J0_0  (o1 : Int) : St := ⟨[(0, .p (iV o1))], ⟨[], []⟩⟩
noncomputable def t_R02_Is (y : Bool) : D := .p (bV y)
noncomputable def R02_Is_lv : List (Nat × List Nat) := [(0, [0]), (1, [0, 3]), (2, [0, 3, 9]), (3, [0, 3, 4, 5]), (4, [0, 3, 5, 21]), (5, [2]), (6, [0, 3]), (7, [2]), (1000002, [0, 3]), (3000004, [])]
noncomputable def R02_Is_J0_0 (p0 : (List UInt8)) (v3 : Int) (x4 : Int × Int) (o5 : Bool) : St := ⟨[(0, .p (sV p0)), (3, .p (iV v3)), (5, .p (iV x4.2)), (21, .p (bV o5))], ⟨[], []⟩⟩
noncomputable def R02_Is_L1_st (p0 : (List UInt8)) (v3 : Int) : St := ⟨[(0, .p (sV p0)), (3, .p (iV v3))], ⟨[], []⟩⟩
noncomputable def R02_Is_L1_x0 (p0 : (List UInt8)) (y2 : Unit) : St := ⟨[], ⟨[], []⟩⟩
noncomputable def R02_Is_L1_x1 (p0 : (List UInt8)) (y3 : Unit) : St := ⟨[(2, .p (bV false))], ⟨[], []⟩⟩
noncomputable def R02_Is_L1_c : Code := ((loopsOf (Try.f127.body.getD .skip)).getD 0 .skip)
noncomputable def t_R02_Next (y : Int × Int) : D := .tup [.p (iV y.1), .p (iV y.2)]
noncomputable def R02_Next_lv : List (Nat × List Nat) := [(0, [0, 1]), (1, [0, 1, 17]), (2, [4, 5]), (3, [0, 1, 6]), (4, [0, 1, 6, 7]), (5, [0, 1, 6, 7, 28]), (6, [0, 1, 6, 7]), (7, [0, 1, 6, 7, 8]), (8, [0, 1, 6, 7, 8, 9]), (9, [0, 1, 6, 7, 8, 9, 42]), (10, [0, 1, 6, 7, 8, 9]), (11, [0, 1, 6, 7, 8, 9]), (12, [0, 1, 6, 7, 8, 71]), (13, [4, 5]), (14, [4, 5]), (1000005, [0, 1, 6, 7]), (1000009, [0, 1, 6, 7, 8, 9]), (3000001, []), (3000005, []), (3000012, [])]
noncomputable def R02_Next_J0_0 (p0 : (List UInt8)) (p1 : Int) (o1 : Bool) : St := ⟨[(0, .p (sV p0)), (1, .p (iV p1)), (17, .p (bV o1))], ⟨[], []⟩⟩
noncomputable def R02_Next_J1_0 (p0 : (List UInt8)) (p1 : Int) (v6 : (List Int)) (v7 : Int) (o5 : Bool) : St := ⟨[(0, .p (sV p0)), (1, .p (iV p1)), (6, .p (.sl true (v6.map cInt))), (7, .p (iV v7)), (28, .p (bV o5))], ⟨[], []⟩⟩
noncomputable def R02_Next_L2_st (p0 : (List UInt8)) (p1 : Int) (v6 : (List Int)) (v7 : Int) (v8 : Int) (v9 : Int) : St := ⟨[(0, .p (sV p0)), (1, .p (iV p1)), (6, .p (.sl true (v6.map cInt))), (7, .p (iV v7)), (8, .p (iV v8)), (9, .p (iV v9))], ⟨[], []⟩⟩
noncomputable def R02_Next_L2_x0 (p0 : (List UInt8)) (p1 : Int) (v6 : (List Int)) (v7 : Int) (o8 : Int) : St := ⟨[(0, .p (sV p0)), (1, .p (iV p1)), (6, .p (.sl true (v6.map cInt))), (7, .p (iV v7)), (8, .p (iV o8))], ⟨[], []⟩⟩
noncomputable def R02_Next_L2_c : Code := ((loopsOf (Try.f114.body.getD .skip)).getD 1 .skip)
noncomputable def R02_Next_J2_0 (p0 : (List UInt8)) (p1 : Int) (v6 : (List Int)) (v7 : Int) (o8 : Int) (o10 : Bool) : St := ⟨[(0, .p (sV p0)), (1, .p (iV p1)), (6, .p (.sl true (v6.map cInt))), (7, .p (iV v7)), (8, .p (iV o8)), (71, .p (bV o10))], ⟨[], []⟩⟩
noncomputable def R02_Next_L1_st (p0 : (List UInt8)) (p1 : Int) (v6 : (List Int)) (v7 : Int) : St := ⟨[(0, .p (sV p0)), (1, .p (iV p1)), (6, .p (.sl true (v6.map cInt))), (7, .p (iV v7))], ⟨[], []⟩⟩
noncomputable def R02_Next_L1_x0 (p0 : (List UInt8)) (p1 : Int) (y3 : Unit) : St := ⟨[], ⟨[], []⟩⟩
noncomputable def R02_Next_L1_x1 (p0 : (List UInt8)) (p1 : Int) (y4 : Int × Int) : St := ⟨[(4, .p (iV y4.1)), (5, .p (iV y4.2))], ⟨[], []⟩⟩
noncomputable def R02_Next_L1_c : Code := ((loopsOf (Try.f114.body.getD .skip)).getD 0 .skip)
noncomputable def t_R02_Rune (y : Bool) : D := .p (bV y)
noncomputable def R02_Rune_lv : List (Nat × List Nat) := [(0, [0]), (1, [2]), (3000001, [])]
noncomputable def R02_Rune_J0_0  (o1 : Bool) : St := ⟨[(2, .p (bV o1))], ⟨[], []⟩⟩
noncomputable def t_R18_Quote (y : (List UInt8) × Bool) : D := .tup [.p (sV y.1), .p (bV y.2)]
noncomputable def R18_Quote_lv : List (Nat × List Nat) := [(0, [0]), (1, [0, 9]), (2, [2, 3]), (3, [0, 4]), (4, [0, 4, 5]), (5, [0, 4, 5, 13]), (6, [0, 4, 5]), (7, [0, 4, 5, 6]), (8, [0, 4, 5, 6, 22]), (9, [2, 3]), (10, [0, 4, 5, 6, 24]), (11, [0, 4, 5, 6]), (12, [0, 4, 5, 6, 26]), (13, [0, 4, 5, 6]), (14, [0, 4, 5, 6, 32]), (15, [0, 4, 5, 6]), (16, [0, 4, 5]), (17, [2, 3]), (1000005, [0, 4, 5]), (2010013, []), (3000014, [])]
noncomputable def R18_Quote_J0_0 (p0 : (List UInt8)) (v4 : (List UInt8)) (v5 : Int) (o6 : (List UInt8)) : St := ⟨[(0, .p (sV p0)), (4, .p (sV v4)), (5, .p (iV v5)), (6, .p (sV o6))], ⟨[], []⟩⟩
noncomputable def R18_Quote_J1_0 (p0 : (List UInt8)) (v4 : (List UInt8)) (v5 : Int) (x5 : (List UInt8)) (o7 : Bool) : St := ⟨[(0, .p (sV p0)), (4, .p (sV v4)), (5, .p (iV v5)), (6, .p (sV x5)), (32, .p (bV o7))], ⟨[], []⟩⟩
noncomputable def R18_Quote_L1_st (p0 : (List UInt8)) (v4 : (List UInt8)) (v5 : Int) : St := ⟨[(0, .p (sV p0)), (4, .p (sV v4)), (5, .p (iV v5))], ⟨[], []⟩⟩
noncomputable def R18_Quote_L1_x0 (p0 : (List UInt8)) (y3 : (List UInt8)) : St := ⟨[(4, .p (sV y3))], ⟨[], []⟩⟩
noncomputable def R18_Quote_L1_x1 (p0 : (List UInt8)) (y4 : Unit) : St := ⟨[(2, .p (sV [])), (3, .p (bV false))], ⟨[], []⟩⟩
noncomputable def R18_Quote_L1_c : Code := ((loopsOf (Try.f111.body.getD .skip)).getD 0 .skip)
noncomputable def t_R18_Word (y : Bool) : D := .p (bV y)
noncomputable def R18_Word_lv : List (Nat × List Nat) := [(0, [0]), (1, [0, 17]), (2, [2]), (3, [0, 3]), (4, [0, 3, 21]), (5, [0, 3]), (6, [0, 3, 41]), (7, [2]), (8, [2]), (1000004, [0, 3]), (3000001, []), (3000006, [])]
noncomputable def R18_Word_J0_0 (p0 : (List UInt8)) (o1 : Bool) : St := ⟨[(0, .p (sV p0)), (17, .p (bV o1))], ⟨[], []⟩⟩
noncomputable def R18_Word_J1_0 (p0 : (List UInt8)) (v3 : Int) (o7 : Bool) : St := ⟨[(0, .p (sV p0)), (3, .p (iV v3)), (41, .p (bV o7))], ⟨[], []⟩⟩
noncomputable def R18_Word_L1_st (p0 : (List UInt8)) (v3 : Int) : St := ⟨[(0, .p (sV p0)), (3, .p (iV v3))], ⟨[], []⟩⟩
noncomputable def R18_Word_L1_x0 (p0 : (List UInt8)) (y5 : Unit) : St := ⟨[], ⟨[], []⟩⟩
noncomputable def R18_Word_L1_x1 (p0 : (List UInt8)) (y6 : Unit) : St := ⟨[(2, .p (bV false))], ⟨[], []⟩⟩
noncomputable def R18_Word_L1_c : Code := ((loopsOf (Try.f52.body.getD .skip)).getD 0 .skip)
noncomputable def t_R18_digit (y : Bool) : D := .p (bV y)
noncomputable def R18_digit_lv : List (Nat × List Nat) := [(0, [0]), (1, [2]), (3000001, [])]
noncomputable def R18_digit_J0_0  (o1 : Bool) : St := ⟨[(2, .p (bV o1))], ⟨[], []⟩⟩
noncomputable def t_R18_small (y : Bool) : D := .p (bV y)
noncomputable def R18_small_lv : List (Nat × List Nat) := [(0, [0]), (1, [2]), (3000001, [])]
noncomputable def R18_small_J0_0  (o1 : Bool) : St := ⟨[(2, .p (bV o1))], ⟨[], []⟩⟩
noncomputable def t_R19_Name (y : Bool) : D := .p (bV y)
noncomputable def R19_Name_lv : List (Nat × List Nat) := [(0, [0]), (1, [0, 3]), (2, [0, 3, 4]), (3, [0, 3, 4, 9]), (4, [0, 3, 4]), (5, [0, 3, 4, 17]), (6, [2]), (7, [2]), (1000003, [0, 3, 4])]
noncomputable def R19_Name_L1_st (p0 : (List UInt8)) (x1 : (List (List UInt8))) (v4 : Int) : St := ⟨[(0, .p (sV p0)), (3, .p (.sl false (x1.map cStr))), (4, .p (iV v4))], ⟨[], []⟩⟩
noncomputable def R19_Name_L1_x0 (p0 : (List UInt8)) (x1 : (List (List UInt8))) (y3 : Unit) : St := ⟨[(0, .p (sV p0))], ⟨[], []⟩⟩
noncomputable def R19_Name_L1_x1 (p0 : (List UInt8)) (x1 : (List (List UInt8))) (y4 : Unit) : St := ⟨[(2, .p (bV false))], ⟨[], []⟩⟩
noncomputable def R19_Name_L1_c : Code := ((loopsOf (Try.f26.body.getD .skip)).getD 0 .skip)
noncomputable def t_R19_Words (y : (List (List UInt8))) : D := .p (.sl false (y.map cStr))
noncomputable def R19_Words_lv : List (Nat × List Nat) := [(0, []), (1, [0])]
noncomputable def t_internal_stringslite_HasSuffix (y : Bool) : D := .p (bV y)
noncomputable def internal_stringslite_HasSuffix_lv : List (Nat × List Nat) := [(0, [0, 1]), (1, [4]), (3000001, [])]
noncomputable def internal_stringslite_HasSuffix_J0_0  (o1 : Bool) : St := ⟨[(4, .p (bV o1))], ⟨[], []⟩⟩
noncomputable def t_internal_stringslite_Index (y : Int) : D := .p (iV y)
noncomputable def t_internal_stringslite_IndexByte (y : Int) : D := .p (iV y)
noncomputable def t_lex_Quote (y : (List UInt8) × Bool) : D := .tup [.p (sV y.1), .p (bV y.2)]
noncomputable def lex_Quote_lv : List (Nat × List Nat) := [(0, [0]), (1, [0, 14]), (2, [2, 3]), (3, [0, 4]), (4, [0, 4, 17, 18]), (5, [0, 4, 17, 18, 19]), (6, [0, 4, 5, 17, 18]), (7, [0, 4, 6, 17, 18]), (8, [0, 4, 6, 17, 18, 24]), (9, [0, 4, 17, 18]), (10, [0, 4, 6, 17, 18, 24, 29]), (11, [0, 4, 17, 18]), (12, [0, 4, 6, 17, 18, 24, 33]), (13, [0, 4, 17, 18]), (14, [0, 4, 6, 17, 18, 24, 37]), (15, [0, 4, 6, 17, 18, 37]), (16, [0, 4, 17, 18]), (17, [0, 4, 17, 18]), (18, [2, 3]), (1000005, [0, 4, 17, 18]), (2014005, []), (3000001, [])]
noncomputable def lex_Quote_J0_0 (p0 : (List UInt8)) (o1 : Bool) : St := ⟨[(0, .p (sV p0)), (14, .p (bV o1))], ⟨[], []⟩⟩
noncomputable def lex_Quote_J1_0 (p0 : (List UInt8)) (v4 : (List Int)) (v18 : Int) (x5 : UInt8) (o8 : Bool) : St := ⟨[(0, .p (sV p0)), (4, .own 0 1000005 1 (v4.map (cNum .u8))), (6, .p (nV .u8 (x5.toNat : Int))), (17, .p (iV (p0.length : Int))), (18, .p (iV v18)), (37, .p (bV o8))], ⟨[], [(v4.map (cNum .u8)).length]⟩⟩
noncomputable def lex_Quote_L1_st (p0 : (List UInt8)) (v4 : (List Int)) (v18 : Int) : St := ⟨[(0, .p (sV p0)), (4, .own 0 1000005 1 (v4.map (cNum .u8))), (17, .p (iV (p0.length : Int))), (18, .p (iV v18))], ⟨[], [(v4.map (cNum .u8)).length]⟩⟩
noncomputable def lex_Quote_L1_x0 (p0 : (List UInt8)) (o4 : (List Int)) : St := ⟨[(4, .own 0 1000005 1 (o4.map (cNum .u8)))], ⟨[], [(o4.map (cNum .u8)).length]⟩⟩
noncomputable def lex_Quote_L1_c : Code := ((loopsOf (Try.f122.body.getD .skip)).getD 0 .skip)
noncomputable def t_lex_Word (y : Bool) : D := .p (bV y)
noncomputable def lex_Word_lv : List (Nat × List Nat) := [(0, [0]), (1, [0, 5, 6]), (2, [0, 5, 6, 7]), (3, [0, 3, 5, 6]), (4, [0, 5, 6, 13]), (5, [2]), (6, [0, 5, 6]), (7, [2]), (1000002, [0, 5, 6]), (3000007, [])]
noncomputable def lex_Word_L1_st (p0 : (List UInt8)) (v6 : Int) : St := ⟨[(0, .p (sV p0)), (5, .p (iV (p0.length : Int))), (6, .p (iV v6))], ⟨[], []⟩⟩
noncomputable def lex_Word_L1_x0 (p0 : (List UInt8)) (y2 : Unit) : St := ⟨[(0, .p (sV p0))], ⟨[], []⟩⟩
noncomputable def lex_Word_L1_x1 (p0 : (List UInt8)) (y3 : Unit) : St := ⟨[(2, .p (bV false))], ⟨[], []⟩⟩
noncomputable def lex_Word_L1_c : Code := ((loopsOf (Try.f50.body.getD .skip)).getD 0 .skip)
noncomputable def lex_Word_J0_0  (o6 : Bool) : St := ⟨[(2, .p (bV o6))], ⟨[], []⟩⟩
noncomputable def t_lex_digit (y : Bool) : D := .p (bV y)
noncomputable def lex_digit_lv : List (Nat × List Nat) := [(0, [0]), (1, [2]), (3000001, [])]
noncomputable def lex_digit_J0_0  (o1 : Bool) : St := ⟨[(2, .p (bV o1))], ⟨[], []⟩⟩
noncomputable def t_lex_letter (y : Bool) : D := .p (bV y)
noncomputable def lex_letter_lv : List (Nat × List Nat) := [(0, [0]), (1, [2]), (3000001, [])]
noncomputable def lex_letter_J0_0  (o1 : Bool) : St := ⟨[(2, .p (bV o1))], ⟨[], []⟩⟩
noncomputable def t_strings_Contains (y : Bool) : D := .p (bV y)
noncomputable def strings_Contains_lv : List (Nat × List Nat) := [(0, [0, 1]), (1, [4])]
noncomputable def t_strings_HasSuffix (y : Bool) : D := .p (bV y)
noncomputable def strings_HasSuffix_lv : List (Nat × List Nat) := [(0, [0, 1]), (1, [4])]
noncomputable def t_strings_Index (y : Int) : D := .p (iV y)
noncomputable def strings_Index_lv : List (Nat × List Nat) := [(0, [0, 1]), (1, [4])]
noncomputable def t_strings_IndexByte (y : Int) : D := .p (iV y)
noncomputable def strings_IndexByte_lv : List (Nat × List Nat) := [(0, [0, 1]), (1, [4])]
noncomputable def t_tree_Name (y : Bool) : D := .p (bV y)
noncomputable def tree_Name_lv : List (Nat × List Nat) := [(0, [0]), (1, [0, 3]), (2, [0, 3, 4]), (3, [0, 3, 4]), (4, [0, 3, 4]), (5, [0, 3, 4]), (6, [0, 3, 4]), (7, [0, 3, 4]), (8, [0, 3, 4]), (9, [0, 3, 4]), (10, [0, 3, 4]), (11, [0, 4]), (12, [2]), (13, [2]), (2002037, [])]
noncomputable def tree_Name_J0_0 (p0 : (List UInt8)) (o1 : Bool) : St := ⟨[(0, .p (sV p0)), (4, .p (bV o1))], ⟨[], []⟩⟩
noncomputable def t_utf_Is (y : Bool) : D := .p (bV y)
noncomputable def utf_Is_lv : List (Nat × List Nat) := [(0, [0, 2, 3, 4]), (1, [2, 3, 4, 6]), (2, [2, 3, 6, 8]), (3, [2, 3, 4, 6]), (4, [2, 3, 4, 6, 14]), (5, [2]), (6, [2]), (4000002, [2, 3, 4, 6]), (3000004, [])]
noncomputable def utf_Is_J0_0 (x1 : (List UInt8)) (x2 : (Int × Int)) (o9 : Bool) : St := ⟨[(2, .ptr 0 0), (3, .p (nV .i32 x2.1)), (4, .p (iV x2.2)), (6, .fn (.func 136) [] [.p (.ep [sV x1])]), (14, .p (bV o9))], ⟨[[.p (bV false)]], []⟩⟩
noncomputable def utf_Is_L1_st (x1 : (List UInt8)) : St := ⟨[(2, .ptr 0 0), (6, .fn (.func 136) [] [.p (.ep [sV x1])])], ⟨[[.p (bV false)]], []⟩⟩
noncomputable def utf_Is_L1_x0 (x1 : (List UInt8)) (y7 : Unit) : St := ⟨[(2, .ptr 0 0), (6, .fn (.func 136) [] [.p (.ep [sV x1])])], ⟨[[.p (bV false)]], []⟩⟩
noncomputable def utf_Is_L1_x1 (x1 : (List UInt8)) (y8 : Unit) : St := ⟨[(2, .ptr 0 0)], ⟨[[.p (bV false)]], []⟩⟩
noncomputable def utf_Is_L1_c : Code := ((loopsOf (Try.f132.body.getD .skip)).getD 0 .skip)
noncomputable def t_utf_Next (y : Int × Int) : D := .tup [.p (nV .i32 y.1), .p (iV y.2)]
noncomputable def utf_Next_lv : List (Nat × List Nat) := [(0, [0, 1]), (1, [0, 1, 17]), (2, [4, 5]), (3, [0, 1, 6]), (4, [4, 5]), (5, [0, 1, 6, 21]), (6, [4, 5]), (7, [0, 1, 6, 26]), (8, [0, 1, 4, 7, 8]), (9, [0, 1, 6, 36]), (10, [0, 1, 4, 7, 8]), (11, [0, 1, 6, 46]), (12, [0, 1, 4, 7, 8]), (13, [4, 7, 8, 9]), (14, [4, 8, 77]), (15, [4, 5]), (16, [4, 5]), (2004022, []), (3000001, []), (3000007, []), (3000009, []), (3000011, []), (3000014, [])]
noncomputable def utf_Next_J0_0 (p0 : (List UInt8)) (p1 : Int) (o1 : Bool) : St := ⟨[(0, .p (sV p0)), (1, .p (iV p1)), (17, .p (bV o1))], ⟨[], []⟩⟩
noncomputable def utf_Next_J1_0 (p0 : (List UInt8)) (p1 : Int) (y4 : Int × Int × Int) : St := ⟨[(0, .p (sV p0)), (1, .p (iV p1)), (4, .p (nV .i32 y4.1)), (7, .p (nV .i32 y4.2.1)), (8, .p (iV y4.2.2))], ⟨[], []⟩⟩
noncomputable def utf_Next_J1_1 (p0 : (List UInt8)) (p1 : Int) (y5 : Int) : St := ⟨[(4, .p (nV .i32 y5)), (5, .p (iV 1))], ⟨[], []⟩⟩
noncomputable def utf_Next_J2_0 (p0 : (List UInt8)) (p1 : Int) (x2 : UInt8) (o6 : Bool) : St := ⟨[(0, .p (sV p0)), (1, .p (iV p1)), (6, .p (nV .u8 (x2.toNat : Int))), (26, .p (bV o6))], ⟨[], []⟩⟩
noncomputable def utf_Next_J3_0 (p0 : (List UInt8)) (p1 : Int) (x2 : UInt8) (o7 : Bool) : St := ⟨[(0, .p (sV p0)), (1, .p (iV p1)), (6, .p (nV .u8 (x2.toNat : Int))), (36, .p (bV o7))], ⟨[], []⟩⟩
noncomputable def utf_Next_J4_0 (p0 : (List UInt8)) (p1 : Int) (x2 : UInt8) (o8 : Bool) : St := ⟨[(0, .p (sV p0)), (1, .p (iV p1)), (6, .p (nV .u8 (x2.toNat : Int))), (46, .p (bV o8))], ⟨[], []⟩⟩
noncomputable def utf_Next_J5_0 (y4 : Int × Int × Int) (x10 : Int × Bool) (o11 : Bool) : St := ⟨[(4, .p (nV .i32 x10.1)), (8, .p (iV y4.2.2)), (77, .p (bV o11))], ⟨[], []⟩⟩
noncomputable def t_utf_all (y : (List UInt8)) : D := .fn (.func 136) [] [.p (.ep [sV y])]
noncomputable def utf_all_lv : List (Nat × List Nat) := [(0, [1]), (1, [2])]
noncomputable def e_utf_all_1 (y : (Int × Int)) : List V := [nV .i32 y.1, iV y.2]
noncomputable def utf_all_1_lv : List (Nat × List Nat) := [(0, [0, 1, 3]), (1, [0, 1, 3, 9]), (2, [0, 1, 3, 4, 5]), (3, [0, 1, 3, 5, 20]), (4, [0, 1, 3]), (1000001, [0, 1, 3])]
noncomputable def utf_all_1_L1_st (p0 : (List UInt8)) (v3 : Int) (gxs gp : List (List V)) : St := ⟨[(0, .yld Try.prog 0 gxs), (1, .p (.ep [sV p0])), (3, .p (iV v3))], ⟨[], [gp.length]⟩⟩
noncomputable def utf_all_1_L1_x0 (p0 : (List UInt8)) (gxs : List (List V)) (gq1 : List (List V)) (oy : Unit) : St := ⟨[], ⟨[], [gq1.length]⟩⟩
noncomputable def utf_all_1_L1_c : Code := ((loopsOf (Try.f136.body.getD .skip)).getD 0 .skip)
noncomputable def t_utf_is (y : Bool) : D := .p (bV y)
noncomputable def utf_is_lv : List (Nat × List Nat) := [(0, [0]), (1, [2]), (3000001, [])]
noncomputable def utf_is_J0_0  (o1 : Bool) : St := ⟨[(2, .p (bV o1))], ⟨[], []⟩⟩
noncomputable def t_utf_tail (y : Int × Bool) : D := .tup [.p (nV .i32 y.1), .p (bV y.2)]
noncomputable def utf_tail_lv : List (Nat × List Nat) := [(0, [0, 1, 2]), (1, [0, 1, 2, 12]), (2, [6, 7]), (3, [0, 1, 13, 14]), (4, [0, 1, 13, 14, 15]), (5, [0, 1, 8, 13, 14]), (6, [0, 1, 8, 13, 14, 21]), (7, [6, 7]), (8, [0, 1, 13, 14]), (9, [0, 1, 13, 14]), (10, [6, 7]), (1000004, [0, 1, 13, 14])]
noncomputable def utf_tail_L1_st (p0 : (List UInt8)) (p2 : Int) (v1 : Int) (v14 : Int) : St := ⟨[(0, .p (sV p0)), (1, .p (nV .i32 v1)), (13, .p (iV p2)), (14, .p (iV v14))], ⟨[], []⟩⟩
noncomputable def utf_tail_L1_x0 (p0 : (List UInt8)) (p2 : Int) (y2 : Int) : St := ⟨[(1, .p (nV .i32 y2))], ⟨[], []⟩⟩
noncomputable def utf_tail_L1_x1 (p0 : (List UInt8)) (p2 : Int) (y3 : Unit) : St := ⟨[(6, .p (nV .i32 0)), (7, .p (bV false))], ⟨[], []⟩⟩
noncomputable def utf_tail_L1_c : Code := ((loopsOf (Try.f138.body.getD .skip)).getD 0 .skip)
noncomputable def R01_Begins (p0 : (List UInt8)) (p1 : (List UInt8)) (p2 : Int) : Option (Bool) :=
  ( if (decide (p2 ≥ 0)) then
      if (decide (p2 ≤ (p0.length : Int))) then
        if (decide ((p1.length : Int) ≤ (wr ((p0.length : Int) - p2)))) then
          cutL p0 p2 (wr (p2 + (p1.length : Int))) >>= fun x2 =>
          some (x2 == p1)
        else
          some false
      else
        some false
    else
      some false : Option (Bool)) >>= fun o1 =>
  some o1
set_option maxRecDepth 100000 in
set_option maxHeartbeats 4000000 in
theorem R01_Begins_ok : ∀ (p0 : (List UInt8)) (p1 : (List UInt8)) (p2 : Int) (o : Bool), R01_Begins p0 p1 p2 = some o → PCall Try.prog 40 [sV p0, sV p1, iV p2] (t_R01_Begins o) := by
  intro p0 p1 p2 o h
  unfold R01_Begins at h
  refine PCall.ofB mixed tbOk R01_Begins_lv Try.func40 rfl (by kernel_rfl) (Nat.le_of_ble_eq_true rfl) ?_
  refine st_bind h (fun o1 ho hk => ?_)
  refine Exists.intro (JP1 _ _ o1 .normal (R01_Begins_J0_0 )) (And.intro ?_ (join1 ?_))
  · have h := ho
    refine st_test h (fun hb h => ?_) (fun hb h => ?_)
    · refine vrfl ?_
      refine st_test h (fun hb h => ?_) (fun hb h => ?_)
      · refine vrfl ?_
        refine vrfl ?_
        refine st_test h (fun hb h => ?_) (fun hb h => ?_)
        · refine vrfl ?_
          refine st_cuts (some p2) (some (wr (p2 + (p1.length : Int)))) h (fun x2 hi h => ?_)
          exact JP1.a h (Le.tow 0 0 rfl (.cons rfl (.refl _) (.nil)) (.refl _) rfl)
        · exact JP1.a h (Le.tow 0 0 rfl (.cons rfl (.refl _) (.nil)) (.refl _) rfl)
      · refine bF ?_
        exact JP1.a h (Le.tow 0 0 rfl (.cons rfl (.refl _) (.nil)) (.refl _) rfl)
    · refine bF ?_
      refine bF ?_
      exact JP1.a h (Le.tow 0 0 rfl (.cons rfl (.refl _) (.nil)) (.refl _) rfl)
  · have h := hk
    refine st_ret (t := t_R01_Begins) h ?_
    exact .refl _
noncomputable def R02_Rune (p0 : Int) : Option (Bool) :=
  ( if (decide (p0 ≥ 0)) then
      if (decide (p0 ≤ 1114111)) then
        if (decide (p0 ≥ 55296)) then
          some (!(decide (p0 ≤ 57343)))
        else
          some true
      else
        some false
    else
      some false : Option (Bool)) >>= fun o1 =>
  some o1
set_option maxRecDepth 100000 in
set_option maxHeartbeats 4000000 in
theorem R02_Rune_ok : ∀ (p0 : Int) (o : Bool), R02_Rune p0 = some o → PCall Try.prog 129 [iV p0] (t_R02_Rune o) := by
  intro p0 o h
  unfold R02_Rune at h
  refine PCall.ofB mixed tbOk R02_Rune_lv Try.func129 rfl (by kernel_rfl) (Nat.le_of_ble_eq_true rfl) ?_
  refine st_bind h (fun o1 ho hk => ?_)
  refine Exists.intro (JP1 _ _ o1 .normal (R02_Rune_J0_0 )) (And.intro ?_ (join1 ?_))
  · have h := ho
    refine st_test h (fun hb h => ?_) (fun hb h => ?_)
    · refine st_test h (fun hb h => ?_) (fun hb h => ?_)
      · refine st_test h (fun hb h => ?_) (fun hb h => ?_)
        · exact JP1.a h (Le.tow 0 0 rfl (.cons rfl (.refl _) (.nil)) (.refl _) rfl)
        · exact JP1.a h (Le.tow 0 0 rfl (.cons rfl (.refl _) (.nil)) (.refl _) rfl)
      · exact JP1.a h (Le.tow 0 0 rfl (.cons rfl (.refl _) (.nil)) (.refl _) rfl)
    · refine bF ?_
      exact JP1.a h (Le.tow 0 0 rfl (.cons rfl (.refl _) (.nil)) (.refl _) rfl)
  · have h := hk
    refine st_ret (t := t_R02_Rune) h ?_
    exact .refl _
noncomputable def R02_Bytes (p0 : Int) : Option ((List UInt8)) :=
  ( R02_Rune p0 >>= fun x2 =>
    if (!x2) then
      some 65533
    else
      some p0 : Option (Int)) >>= fun o1 =>
  if (decide (o1 < 128)) then
    b2s [(IntKind.u8.wrap o1)] >>= fun x3 =>
    some x3
  else
    if (decide (o1 < 2048)) then
      b2s [(IntKind.u8.wrap (wr (192 + (wr (o1.tdiv 64))))), (IntKind.u8.wrap (wr (128 + (o1.tmod 64))))] >>= fun x4 =>
      some x4
    else
      if (decide (o1 < 65536)) then
        b2s [(IntKind.u8.wrap (wr (224 + (wr (o1.tdiv 4096))))), (IntKind.u8.wrap (wr (128 + ((wr (o1.tdiv 64)).tmod 64)))), (IntKind.u8.wrap (wr (128 + (o1.tmod 64))))] >>= fun x5 =>
        some x5
      else
        b2s [(IntKind.u8.wrap (wr (240 + (wr (o1.tdiv 262144))))), (IntKind.u8.wrap (wr (128 + ((wr (o1.tdiv 4096)).tmod 64)))), (IntKind.u8.wrap (wr (128 + ((wr (o1.tdiv 64)).tmod 64)))), (IntKind.u8.wrap (wr (128 + (o1.tmod 64))))] >>= fun x6 =>
        some x6
set_option maxRecDepth 100000 in
set_option maxHeartbeats 4000000 in
theorem R02_Bytes_ok : ∀ (p0 : Int) (o : (List UInt8)), R02_Bytes p0 = some o → PCall Try.prog 130 [iV p0] (t_R02_Bytes o) := by
  intro p0 o h
  unfold R02_Bytes at h
  refine PCall.ofB mixed tbOk R02_Bytes_lv Try.func130 rfl (by kernel_rfl) (Nat.le_of_ble_eq_true rfl) ?_
  refine st_bind h (fun o1 ho hk => ?_)
  refine Exists.intro (JP1 _ _ o1 .normal (R02_Bytes_J0_0 )) (And.intro ?_ (join1 ?_))
  · have h := ho
    refine st_call [iV p0] t_R02_Rune h (fun x2 hy => (R02_Rune_ok p0 x2 hy)) (fun x2 hy h => ?_)
    refine st_test h (fun hb h => ?_) (fun hb h => ?_)
    · exact JP1.a h (Le.tow 0 0 rfl (.cons rfl (.refl _) (.nil)) (.refl _) rfl)
    · exact JP1.a h (Le.tow 0 0 rfl (.cons rfl (.refl _) (.nil)) (.refl _) rfl)
  · have h := hk
    refine st_test h (fun hb h => ?_) (fun hb h => ?_)
    · refine vrfl ?_
      refine st_b2s (l := [(IntKind.u8.wrap o1)]) h (fun x3 hi h => ?_)
      refine st_ret (t := t_R02_Bytes) h ?_
      exact .refl _
    · refine st_test h (fun hb h => ?_) (fun hb h => ?_)
      · refine And.intro (by decide) ?_
        refine vrfl ?_
        refine And.intro (by decide) ?_
        refine vrfl ?_
        refine st_b2s (l := [(IntKind.u8.wrap (wr (192 + (wr (o1.tdiv 64))))), (IntKind.u8.wrap (wr (128 + (o1.tmod 64))))]) h (fun x4 hi h => ?_)
        refine st_ret (t := t_R02_Bytes) h ?_
        exact .refl _
      · refine st_test h (fun hb h => ?_) (fun hb h => ?_)
        · refine And.intro (by decide) ?_
          refine vrfl ?_
          refine And.intro (by decide) ?_
          refine And.intro (by decide) ?_
          refine vrfl ?_
          refine And.intro (by decide) ?_
          refine vrfl ?_
          refine st_b2s (l := [(IntKind.u8.wrap (wr (224 + (wr (o1.tdiv 4096))))), (IntKind.u8.wrap (wr (128 + ((wr (o1.tdiv 64)).tmod 64)))), (IntKind.u8.wrap (wr (128 + (o1.tmod 64))))]) h (fun x5 hi h => ?_)
          refine st_ret (t := t_R02_Bytes) h ?_
          exact .refl _
        · refine And.intro (by decide) ?_
          refine vrfl ?_
          refine And.intro (by decide) ?_
          refine And.intro (by decide) ?_
          refine vrfl ?_
          refine And.intro (by decide) ?_
          refine And.intro (by decide) ?_
          refine vrfl ?_
          refine And.intro (by decide) ?_
          refine vrfl ?_
          refine st_b2s (l := [(IntKind.u8.wrap (wr (240 + (wr (o1.tdiv 262144))))), (IntKind.u8.wrap (wr (128 + ((wr (o1.tdiv 4096)).tmod 64)))), (IntKind.u8.wrap (wr (128 + ((wr (o1.tdiv 64)).tmod 64)))), (IntKind.u8.wrap (wr (128 + (o1.tmod 64))))]) h (fun x6 hi h => ?_)
          refine st_ret (t := t_R02_Bytes) h ?_
          exact .refl _
noncomputable def R02_Next_L2 (p0 : (List UInt8)) (p1 : Int) (v6 : (List Int)) (v7 : Int) (v8 : Int) (v9 : Int) : Option (Int) :=
  if (decide (v9 < v7)) then
    idx p0 (wr (p1 + v9)) >>= fun x9 =>
    R02_Next_L2 p0 p1 v6 v7 (wr ((wr ((wr (64 * v8)) + (wr (x9.toNat : Int)))) - 128)) (wr (v9 + 1))
  else
    some v8
  partial_fixpoint
set_option maxRecDepth 100000 in
set_option maxHeartbeats 4000000 in
theorem R02_Next_L2_grp : ∀ (p0 : (List UInt8)) (p1 : Int) (v6 : (List Int)) (v7 : Int), (∀ (v8 : Int) (v9 : Int) (o8 : Int), R02_Next_L2 p0 p1 v6 v7 v8 v9 = some o8 → TL (0, 0) Try.prog 74 R02_Next_L2_c (JP1 (0, 0) 74 o8 (.exit 2) (R02_Next_L2_x0 p0 p1 v6 v7)) (R02_Next_L2_st p0 p1 v6 v7 v8 v9)) := by
  intro p0 p1 v6 v7
  refine R02_Next_L2.partial_correctness p0 p1 v6 v7 _ ?_
  intro R02_Next_L2' ih_R02_Next_L2 v8 v9 o8 h
  refine TL.round (bwp_sound mixed tbOk (lv := R02_Next_lv) _ _ _ ?_)
  refine st_test h (fun hb h => ?_) (fun hb h => ?_)
  · refine st_sidx h (fun x9 hi h => ?_)
    refine vrfl ?_
    refine TL.le (τ := R02_Next_L2_st p0 p1 v6 v7 (wr ((wr ((wr (64 * v8)) + (wr (x9.toNat : Int)))) - 128)) (wr (v9 + 1))) ?_ ((ih_R02_Next_L2 (wr ((wr ((wr (64 * v8)) + (wr (x9.toNat : Int)))) - 128)) (wr (v9 + 1)) _ h))
    exact Le.tow 0 0 rfl (.cons rfl (.refl _) (.cons rfl (.refl _) (.cons rfl (.refl _) (.cons rfl (.refl _) (.cons rfl (.refl _) (.cons rfl (.refl _) (.nil))))))) (.refl _) rfl
  · exact JP1.a h (Le.tow 0 0 rfl (.cons rfl (.refl _) (.cons rfl (.refl _) (.cons rfl (.refl _) (.cons rfl (.refl _) (.cons rfl (.refl _) (.nil)))))) (.refl _) rfl)
theorem R02_Next_L2_ok : ∀ (p0 : (List UInt8)) (p1 : Int) (v6 : (List Int)) (v7 : Int) (v8 : Int) (v9 : Int) (o8 : Int), R02_Next_L2 p0 p1 v6 v7 v8 v9 = some o8 → TL (0, 0) Try.prog 74 R02_Next_L2_c (JP1 (0, 0) 74 o8 (.exit 2) (R02_Next_L2_x0 p0 p1 v6 v7)) (R02_Next_L2_st p0 p1 v6 v7 v8 v9) := fun p0 p1 v6 v7 v8 v9 o8 h => (R02_Next_L2_grp p0 p1 v6 v7) v8 v9 o8 h
noncomputable def R02_Next_L1 (p0 : (List UInt8)) (p1 : Int) (v6 : (List Int)) (v7 : Int) : Option (Unit ⊕ (Int × Int)) :=
  ( if (decide (v7 ≤ 4)) then
      some (decide (v7 ≤ (wr ((p0.length : Int) - p1))))
    else
      some false : Option (Bool)) >>= fun o5 =>
  if o5 then
    idx p0 p1 >>= fun x6 =>
    idx v6 v7 >>= fun x7 =>
    (R02_Next_L2 p0 p1 v6 v7 (wr ((wr (x6.toNat : Int)) - x7)) 1) >>= fun o8 =>
    ( if (decide (o8 ≥ 0)) then
        R02_Rune o8 >>= fun x11 =>
        if x11 then
          R02_Bytes o8 >>= fun x12 =>
          cutL p0 p1 (wr (p1 + v7)) >>= fun x13 =>
          some (x12 == x13)
        else
          some false
      else
        some false : Option (Bool)) >>= fun o10 =>
    if o10 then
      some (.inr (o8, v7))
    else
      R02_Next_L1 p0 p1 v6 (wr (v7 + 1))
  else
    some (.inl ())
  partial_fixpoint
set_option maxRecDepth 100000 in
set_option maxHeartbeats 4000000 in
theorem R02_Next_L1_grp : ∀ (p0 : (List UInt8)) (p1 : Int) (v6 : (List Int)), (∀ (v7 : Int) (o2 : Unit ⊕ (Int × Int)), R02_Next_L1 p0 p1 v6 v7 = some o2 → TL (0, 0) Try.prog 74 R02_Next_L1_c (JP2 (0, 0) 74 o2 (.exit 0) (R02_Next_L1_x0 p0 p1) .ret (R02_Next_L1_x1 p0 p1)) (R02_Next_L1_st p0 p1 v6 v7)) := by
  intro p0 p1 v6
  refine R02_Next_L1.partial_correctness p0 p1 v6 _ ?_
  intro R02_Next_L1' ih_R02_Next_L1 v7 o2 h
  refine TL.round (bwp_sound mixed tbOk (lv := R02_Next_lv) _ _ _ ?_)
  refine st_bind h (fun o5 ho hk => ?_)
  refine Exists.intro (JP1 _ _ o5 .normal (R02_Next_J1_0 p0 p1 v6 v7)) (And.intro ?_ (join1 ?_))
  · have h := ho
    refine st_test h (fun hb h => ?_) (fun hb h => ?_)
    · refine vrfl ?_
      exact JP1.a h (Le.tow 0 0 rfl (.cons rfl (.refl _) (.cons rfl (.refl _) (.cons rfl (.refl _) (.cons rfl (.refl _) (.cons rfl (.refl _) (.nil)))))) (.refl _) rfl)
    · exact JP1.a h (Le.tow 0 0 rfl (.cons rfl (.refl _) (.cons rfl (.refl _) (.cons rfl (.refl _) (.cons rfl (.refl _) (.cons rfl (.refl _) (.nil)))))) (.refl _) rfl)
  · have h := hk
    refine st_test h (fun hb h => ?_) (fun hb h => ?_)
    · refine And.intro (by decide +kernel) (And.intro rfl ?_)
      refine st_sidx h (fun x6 hi h => ?_)
      refine vrfl ?_
      refine st_idx (l := v6) (c := cInt) (c' := cInt) h (fun _ => rfl) (fun _ => rfl) (by decide) (fun x7 hi h => ?_)
      refine st_bind h (fun o8 ho hk => ?_)
      refine Exists.intro (JP1 _ _ o8 (.exit 2) (R02_Next_L2_x0 p0 p1 v6 v7)) (And.intro (T_le (τ := R02_Next_L2_st p0 p1 v6 v7 (wr ((wr (x6.toNat : Int)) - x7)) 1) ?_ (TL.loop (R02_Next_L2_ok p0 p1 v6 v7 (wr ((wr (x6.toNat : Int)) - x7)) 1 o8 ho))) (join1 ?_))
      · exact Le.tow 0 0 rfl (.cons rfl (.refl _) (.cons rfl (.refl _) (.cons rfl (.refl _) (.cons rfl (.refl _) (.cons rfl (.refl _) (.cons rfl (.refl _) (.nil))))))) (.refl _) rfl
      have h := hk
      refine st_bind h (fun o10 ho hk => ?_)
      refine Exists.intro (JP1 _ _ o10 .normal (R02_Next_J2_0 p0 p1 v6 v7 o8)) (And.intro ?_ (join1 ?_))
      · have h := ho
        refine And.intro (by decide +kernel) (And.intro rfl ?_)
        refine st_test h (fun hb h => ?_) (fun hb h => ?_)
        · refine st_calld [iV o8] t_R02_Rune h (fun x11 hy => (R02_Rune_ok o8 x11 hy)) (fun x11 hy h => ?_)
          refine st_test h (fun hb h => ?_) (fun hb h => ?_)
          · refine st_calld [iV o8] t_R02_Bytes h (fun x12 hy => (R02_Bytes_ok o8 x12 hy)) (fun x12 hy h => ?_)
            refine st_cuts (some p1) (some (wr (p1 + v7))) h (fun x13 hi h => ?_)
            exact JP1.a h (Le.tow 0 0 rfl (.cons rfl (.refl _) (.cons rfl (.refl _) (.cons rfl (.refl _) (.cons rfl (.refl _) (.cons rfl (.refl _) (.cons rfl (.refl _) (.nil))))))) (.refl _) rfl)
          · exact JP1.a h (Le.tow 0 0 rfl (.cons rfl (.refl _) (.cons rfl (.refl _) (.cons rfl (.refl _) (.cons rfl (.refl _) (.cons rfl (.refl _) (.cons rfl (.refl _) (.nil))))))) (.refl _) rfl)
        · refine bF ?_
          exact JP1.a h (Le.tow 0 0 rfl (.cons rfl (.refl _) (.cons rfl (.refl _) (.cons rfl (.refl _) (.cons rfl (.refl _) (.cons rfl (.refl _) (.cons rfl (.refl _) (.nil))))))) (.refl _) rfl)
      · have h := hk
        refine st_test h (fun hb h => ?_) (fun hb h => ?_)
        · exact JP2.b h (Le.tow 0 0 rfl (.cons rfl (.refl _) (.cons rfl (.refl _) (.nil))) (.refl _) rfl)
        · refine TL.le (τ := R02_Next_L1_st p0 p1 v6 (wr (v7 + 1))) ?_ ((ih_R02_Next_L1 (wr (v7 + 1)) _ h))
          exact Le.tow 0 0 rfl (.cons rfl (.refl _) (.cons rfl (.refl _) (.cons rfl (.refl _) (.cons rfl (.refl _) (.nil))))) (.refl _) rfl
    · exact JP2.a h (Le.tow 0 0 rfl (.nil) (.refl _) rfl)
theorem R02_Next_L1_ok : ∀ (p0 : (List UInt8)) (p1 : Int) (v6 : (List Int)) (v7 : Int) (o2 : Unit ⊕ (Int × Int)), R02_Next_L1 p0 p1 v6 v7 = some o2 → TL (0, 0) Try.prog 74 R02_Next_L1_c (JP2 (0, 0) 74 o2 (.exit 0) (R02_Next_L1_x0 p0 p1) .ret (R02_Next_L1_x1 p0 p1)) (R02_Next_L1_st p0 p1 v6 v7) := fun p0 p1 v6 v7 o2 h => (R02_Next_L1_grp p0 p1 v6) v7 o2 h
noncomputable def R02_Next (p0 : (List UInt8)) (p1 : Int) : Option (Int × Int) :=
  ( if (decide (p1 < 0)) then
      some true
    else
      some (decide (p1 ≥ (p0.length : Int))) : Option (Bool)) >>= fun o1 =>
  if o1 then
    some (0, 0)
  else
    (R02_Next_L1 p0 p1 [0, 0, 192, 224, 240] 1) >>= fun o2 =>
    match o2 with
    | .inl y3 =>
      some (65533, 1)
    | .inr y4 =>
      some (y4.1, y4.2)
set_option maxRecDepth 100000 in
set_option maxHeartbeats 4000000 in
theorem R02_Next_ok : ∀ (p0 : (List UInt8)) (p1 : Int) (o : Int × Int), R02_Next p0 p1 = some o → PCall Try.prog 114 [sV p0, iV p1] (t_R02_Next o) := by
  intro p0 p1 o h
  unfold R02_Next at h
  refine PCall.ofB mixed tbOk R02_Next_lv Try.func114 rfl (by kernel_rfl) (Nat.le_of_ble_eq_true rfl) ?_
  refine st_bind h (fun o1 ho hk => ?_)
  refine Exists.intro (JP1 _ _ o1 .normal (R02_Next_J0_0 p0 p1)) (And.intro ?_ (join1 ?_))
  · have h := ho
    refine st_test h (fun hb h => ?_) (fun hb h => ?_)
    · exact JP1.a h (Le.tow 0 0 rfl (.cons rfl (.refl _) (.cons rfl (.refl _) (.cons rfl (.refl _) (.nil)))) (.refl _) rfl)
    · refine vrfl ?_
      exact JP1.a h (Le.tow 0 0 rfl (.cons rfl (.refl _) (.cons rfl (.refl _) (.cons rfl (.refl _) (.nil)))) (.refl _) rfl)
  · have h := hk
    refine st_test h (fun hb h => ?_) (fun hb h => ?_)
    · refine st_ret (t := t_R02_Next) h ?_
      exact .refl _
    · refine st_bind h (fun o2 ho hk => ?_)
      refine Exists.intro (JP2 _ _ o2 (.exit 0) (R02_Next_L1_x0 p0 p1) .ret (R02_Next_L1_x1 p0 p1)) (And.intro (T_le (τ := R02_Next_L1_st p0 p1 [0, 0, 192, 224, 240] 1) ?_ (TL.loop (R02_Next_L1_ok p0 p1 [0, 0, 192, 224, 240] 1 o2 ho))) (join2 (fun y3 hy => ?_) (fun y4 hy => ?_)))
      · exact Le.tow 0 0 rfl (.cons rfl (.refl _) (.cons rfl (.refl _) (.cons rfl (.refl _) (.cons rfl (.refl _) (.nil))))) (.refl _) rfl
      · have h := (by rw [hy] at hk; exact hk)
        refine st_ret (t := t_R02_Next) h ?_
        exact .refl _
      · have h := (by rw [hy] at hk; exact hk)
        refine st_ret (t := t_R02_Next) h ?_
        exact .refl _
noncomputable def R02_Is_L1 (p0 : (List UInt8)) (v3 : Int) : Option (Unit ⊕ Unit) :=
  if (decide (v3 < (p0.length : Int))) then
    R02_Next p0 v3 >>= fun x4 =>
    ( if (x4.1 == 65533) then
        some (x4.2 == 1)
      else
        some false : Option (Bool)) >>= fun o5 =>
    if o5 then
      some (.inr ())
    else
      R02_Is_L1 p0 (wr (v3 + x4.2))
  else
    some (.inl ())
  partial_fixpoint
set_option maxRecDepth 100000 in
set_option maxHeartbeats 4000000 in
theorem R02_Is_L1_grp : ∀ (p0 : (List UInt8)), (∀ (v3 : Int) (o1 : Unit ⊕ Unit), R02_Is_L1 p0 v3 = some o1 → TL (0, 0) Try.prog 25 R02_Is_L1_c (JP2 (0, 0) 25 o1 (.exit 0) (R02_Is_L1_x0 p0) .ret (R02_Is_L1_x1 p0)) (R02_Is_L1_st p0 v3)) := by
  intro p0
  refine R02_Is_L1.partial_correctness p0 _ ?_
  intro R02_Is_L1' ih_R02_Is_L1 v3 o1 h
  refine TL.round (bwp_sound mixed tbOk (lv := R02_Is_lv) _ _ _ ?_)
  refine vrfl ?_
  refine st_test h (fun hb h => ?_) (fun hb h => ?_)
  · refine st_call [sV p0, iV v3] t_R02_Next h (fun x4 hy => (R02_Next_ok p0 v3 x4 hy)) (fun x4 hy h => ?_)
    refine st_bind h (fun o5 ho hk => ?_)
    refine Exists.intro (JP1 _ _ o5 .normal (R02_Is_J0_0 p0 v3 x4)) (And.intro ?_ (join1 ?_))
    · have h := ho
      refine st_test h (fun hb h => ?_) (fun hb h => ?_)
      · exact JP1.a h (Le.tow 0 0 rfl (.cons rfl (.refl _) (.cons rfl (.refl _) (.cons rfl (.refl _) (.cons rfl (.refl _) (.nil))))) (.refl _) rfl)
      · exact JP1.a h (Le.tow 0 0 rfl (.cons rfl (.refl _) (.cons rfl (.refl _) (.cons rfl (.refl _) (.cons rfl (.refl _) (.nil))))) (.refl _) rfl)
    · have h := hk
      refine st_test h (fun hb h => ?_) (fun hb h => ?_)
      · exact JP2.b h (Le.tow 0 0 rfl (.cons rfl (.refl _) (.nil)) (.refl _) rfl)
      · refine TL.le (τ := R02_Is_L1_st p0 (wr (v3 + x4.2))) ?_ ((ih_R02_Is_L1 (wr (v3 + x4.2)) _ h))
        exact Le.tow 0 0 rfl (.cons rfl (.refl _) (.cons rfl (.refl _) (.nil))) (.refl _) rfl
  · exact JP2.a h (Le.tow 0 0 rfl (.nil) (.refl _) rfl)
theorem R02_Is_L1_ok : ∀ (p0 : (List UInt8)) (v3 : Int) (o1 : Unit ⊕ Unit), R02_Is_L1 p0 v3 = some o1 → TL (0, 0) Try.prog 25 R02_Is_L1_c (JP2 (0, 0) 25 o1 (.exit 0) (R02_Is_L1_x0 p0) .ret (R02_Is_L1_x1 p0)) (R02_Is_L1_st p0 v3) := fun p0 v3 o1 h => (R02_Is_L1_grp p0) v3 o1 h
noncomputable def R02_Is (p0 : (List UInt8)) : Option (Bool) :=
  (R02_Is_L1 p0 0) >>= fun o1 =>
  match o1 with
  | .inl y2 =>
    some true
  | .inr y3 =>
    some false
set_option maxRecDepth 100000 in
set_option maxHeartbeats 4000000 in
theorem R02_Is_ok : ∀ (p0 : (List UInt8)) (o : Bool), R02_Is p0 = some o → PCall Try.prog 127 [sV p0] (t_R02_Is o) := by
  intro p0 o h
  unfold R02_Is at h
  refine PCall.ofB mixed tbOk R02_Is_lv Try.func127 rfl (by kernel_rfl) (Nat.le_of_ble_eq_true rfl) ?_
  refine st_bind h (fun o1 ho hk => ?_)
  refine Exists.intro (JP2 _ _ o1 (.exit 0) (R02_Is_L1_x0 p0) .ret (R02_Is_L1_x1 p0)) (And.intro (T_le (τ := R02_Is_L1_st p0 0) ?_ (TL.loop (R02_Is_L1_ok p0 0 o1 ho))) (join2 (fun y2 hy => ?_) (fun y3 hy => ?_)))
  · exact Le.tow 0 0 rfl (.cons rfl (.refl _) (.cons rfl (.refl _) (.nil))) (.refl _) rfl
  · have h := (by rw [hy] at hk; exact hk)
    refine st_ret (t := t_R02_Is) h ?_
    exact .refl _
  · have h := (by rw [hy] at hk; exact hk)
    refine st_ret (t := t_R02_Is) h ?_
    exact .refl _
noncomputable def R18_Quote_L1 (p0 : (List UInt8)) (v4 : (List UInt8)) (v5 : Int) : Option ((List UInt8) ⊕ Unit) :=
  if (decide (v5 < (p0.length : Int))) then
    cutL p0 v5 (wr (v5 + 1)) >>= fun x5 =>
    if (x5 == [13]) then
      some (.inr ())
    else
      ( if (x5 == [10]) then
          some [92, 110]
        else
          if (x5 == [9]) then
            some [92, 116]
          else
            ( if (x5 == [34]) then
                some true
              else
                some (x5 == [92]) : Option (Bool)) >>= fun o7 =>
            if o7 then
              need ([92].length + x5.length ≤ 9223372036854775807) >>= fun _ =>
              some ([92] ++ x5)
            else
              some x5 : Option ((List UInt8))) >>= fun o6 =>
      need (v4.length + o6.length ≤ 9223372036854775807) >>= fun _ =>
      R18_Quote_L1 p0 (v4 ++ o6) (wr (v5 + 1))
  else
    some (.inl v4)
  partial_fixpoint
set_option maxRecDepth 100000 in
set_option maxHeartbeats 4000000 in
theorem R18_Quote_L1_grp : ∀ (p0 : (List UInt8)), (∀ (v4 : (List UInt8)) (v5 : Int) (o2 : (List UInt8) ⊕ Unit), R18_Quote_L1 p0 v4 v5 = some o2 → TL (0, 0) Try.prog 40 R18_Quote_L1_c (JP2 (0, 0) 40 o2 (.exit 0) (R18_Quote_L1_x0 p0) .ret (R18_Quote_L1_x1 p0)) (R18_Quote_L1_st p0 v4 v5)) := by
  intro p0
  refine R18_Quote_L1.partial_correctness p0 _ ?_
  intro R18_Quote_L1' ih_R18_Quote_L1 v4 v5 o2 h
  refine TL.round (bwp_sound mixed tbOk (lv := R18_Quote_lv) _ _ _ ?_)
  refine vrfl ?_
  refine st_test h (fun hb h => ?_) (fun hb h => ?_)
  · refine st_cuts (some v5) (some (wr (v5 + 1))) h (fun x5 hi h => ?_)
    refine st_test h (fun hb h => ?_) (fun hb h => ?_)
    · exact JP2.b h (Le.tow 0 0 rfl (.cons rfl (.refl _) (.cons rfl (.refl _) (.nil))) (.refl _) rfl)
    · refine st_bind h (fun o6 ho hk => ?_)
      refine Exists.intro (JP1 _ _ o6 .normal (R18_Quote_J0_0 p0 v4 v5)) (And.intro ?_ (join1 ?_))
      · have h := ho
        refine st_test h (fun hb h => ?_) (fun hb h => ?_)
        · exact JP1.a h (Le.tow 0 0 rfl (.cons rfl (.refl _) (.cons rfl (.refl _) (.cons rfl (.refl _) (.cons rfl (.refl _) (.nil))))) (.refl _) rfl)
        · refine st_test h (fun hb h => ?_) (fun hb h => ?_)
          · exact JP1.a h (Le.tow 0 0 rfl (.cons rfl (.refl _) (.cons rfl (.refl _) (.cons rfl (.refl _) (.cons rfl (.refl _) (.nil))))) (.refl _) rfl)
          · refine st_bind h (fun o7 ho hk => ?_)
            refine Exists.intro (JP1 _ _ o7 .normal (R18_Quote_J1_0 p0 v4 v5 x5)) (And.intro ?_ (join1 ?_))
            · have h := ho
              refine st_test h (fun hb h => ?_) (fun hb h => ?_)
              · exact JP1.a h (Le.tow 0 0 rfl (.cons rfl (.refl _) (.cons rfl (.refl _) (.cons rfl (.refl _) (.cons rfl (.refl _) (.cons rfl (.refl _) (.nil)))))) (.refl _) rfl)
              · exact JP1.a h (Le.tow 0 0 rfl (.cons rfl (.refl _) (.cons rfl (.refl _) (.cons rfl (.refl _) (.cons rfl (.refl _) (.cons rfl (.refl _) (.nil)))))) (.refl _) rfl)
            · have h := hk
              refine st_test h (fun hb h => ?_) (fun hb h => ?_)
              · refine st_need h (fun h => ?_)
                exact JP1.a h (Le.tow 0 0 rfl (.cons rfl (.refl _) (.cons rfl (.refl _) (.cons rfl (.refl _) (.cons rfl (.refl _) (.nil))))) (.refl _) rfl)
              · exact JP1.a h (Le.tow 0 0 rfl (.cons rfl (.refl _) (.cons rfl (.refl _) (.cons rfl (.refl _) (.cons rfl (.refl _) (.nil))))) (.refl _) rfl)
      · have h := hk
        refine st_need h (fun h => ?_)
        refine TL.le (τ := R18_Quote_L1_st p0 (v4 ++ o6) (wr (v5 + 1))) ?_ ((ih_R18_Quote_L1 (v4 ++ o6) (wr (v5 + 1)) _ h))
        exact Le.tow 0 0 rfl (.cons rfl (.refl _) (.cons rfl (.refl _) (.cons rfl (.refl _) (.nil)))) (.refl _) rfl
  · exact JP2.a h (Le.tow 0 0 rfl (.cons rfl (.refl _) (.nil)) (.refl _) rfl)
theorem R18_Quote_L1_ok : ∀ (p0 : (List UInt8)) (v4 : (List UInt8)) (v5 : Int) (o2 : (List UInt8) ⊕ Unit), R18_Quote_L1 p0 v4 v5 = some o2 → TL (0, 0) Try.prog 40 R18_Quote_L1_c (JP2 (0, 0) 40 o2 (.exit 0) (R18_Quote_L1_x0 p0) .ret (R18_Quote_L1_x1 p0)) (R18_Quote_L1_st p0 v4 v5) := fun p0 v4 v5 o2 h => (R18_Quote_L1_grp p0) v4 v5 o2 h
noncomputable def R18_Quote (p0 : (List UInt8)) : Option ((List UInt8) × Bool) :=
  R02_Is p0 >>= fun x1 =>
  if (!x1) then
    some ([], false)
  else
    (R18_Quote_L1 p0 [34] 0) >>= fun o2 =>
    match o2 with
    | .inl y3 =>
      need (y3.length + [34].length ≤ 9223372036854775807) >>= fun _ =>
      some ((y3 ++ [34]), true)
    | .inr y4 =>
      some ([], false)
set_option maxRecDepth 100000 in
set_option maxHeartbeats 4000000 in
theorem R18_Quote_ok : ∀ (p0 : (List UInt8)) (o : (List UInt8) × Bool), R18_Quote p0 = some o → PCall Try.prog 111 [sV p0] (t_R18_Quote o) := by
  intro p0 o h
  unfold R18_Quote at h
  refine PCall.ofB mixed tbOk R18_Quote_lv Try.func111 rfl (by kernel_rfl) (Nat.le_of_ble_eq_true rfl) ?_
  refine st_call [sV p0] t_R02_Is h (fun x1 hy => (R02_Is_ok p0 x1 hy)) (fun x1 hy h => ?_)
  refine st_test h (fun hb h => ?_) (fun hb h => ?_)
  · refine st_ret (t := t_R18_Quote) h ?_
    exact .refl _
  · refine st_bind h (fun o2 ho hk => ?_)
    refine Exists.intro (JP2 _ _ o2 (.exit 0) (R18_Quote_L1_x0 p0) .ret (R18_Quote_L1_x1 p0)) (And.intro (T_le (τ := R18_Quote_L1_st p0 [34] 0) ?_ (TL.loop (R18_Quote_L1_ok p0 [34] 0 o2 ho))) (join2 (fun y3 hy => ?_) (fun y4 hy => ?_)))
    · exact Le.tow 0 0 rfl (.cons rfl (.refl _) (.cons rfl (.refl _) (.cons rfl (.refl _) (.nil)))) (.refl _) rfl
    · have h := (by rw [hy] at hk; exact hk)
      refine st_need h (fun h => ?_)
      refine st_ret (t := t_R18_Quote) h ?_
      exact .refl _
    · have h := (by rw [hy] at hk; exact hk)
      refine st_ret (t := t_R18_Quote) h ?_
      exact .refl _
noncomputable def R18_digit (p0 : Int) : Option (Bool) :=
  ( if (decide (p0 ≥ 48)) then
      some (decide (p0 ≤ 57))
    else
      some false : Option (Bool)) >>= fun o1 =>
  some o1
set_option maxRecDepth 100000 in
set_option maxHeartbeats 4000000 in
theorem R18_digit_ok : ∀ (p0 : Int) (o : Bool), R18_digit p0 = some o → PCall Try.prog 83 [nV .u8 p0] (t_R18_digit o) := by
  intro p0 o h
  unfold R18_digit at h
  refine PCall.ofB mixed tbOk R18_digit_lv Try.func83 rfl (by kernel_rfl) (Nat.le_of_ble_eq_true rfl) ?_
  refine st_bind h (fun o1 ho hk => ?_)
  refine Exists.intro (JP1 _ _ o1 .normal (R18_digit_J0_0 )) (And.intro ?_ (join1 ?_))
  · have h := ho
    refine st_test h (fun hb h => ?_) (fun hb h => ?_)
    · exact JP1.a h (Le.tow 0 0 rfl (.cons rfl (.refl _) (.nil)) (.refl _) rfl)
    · exact JP1.a h (Le.tow 0 0 rfl (.cons rfl (.refl _) (.nil)) (.refl _) rfl)
  · have h := hk
    refine st_ret (t := t_R18_digit) h ?_
    exact .refl _
noncomputable def R18_small (p0 : Int) : Option (Bool) :=
  ( if (decide (p0 ≥ 97)) then
      some (decide (p0 ≤ 122))
    else
      some false : Option (Bool)) >>= fun o1 =>
  some o1
set_option maxRecDepth 100000 in
set_option maxHeartbeats 4000000 in
theorem R18_small_ok : ∀ (p0 : Int) (o : Bool), R18_small p0 = some o → PCall Try.prog 82 [nV .u8 p0] (t_R18_small o) := by
  intro p0 o h
  unfold R18_small at h
  refine PCall.ofB mixed tbOk R18_small_lv Try.func82 rfl (by kernel_rfl) (Nat.le_of_ble_eq_true rfl) ?_
  refine st_bind h (fun o1 ho hk => ?_)
  refine Exists.intro (JP1 _ _ o1 .normal (R18_small_J0_0 )) (And.intro ?_ (join1 ?_))
  · have h := ho
    refine st_test h (fun hb h => ?_) (fun hb h => ?_)
    · exact JP1.a h (Le.tow 0 0 rfl (.cons rfl (.refl _) (.nil)) (.refl _) rfl)
    · exact JP1.a h (Le.tow 0 0 rfl (.cons rfl (.refl _) (.nil)) (.refl _) rfl)
  · have h := hk
    refine st_ret (t := t_R18_small) h ?_
    exact .refl _
noncomputable def R18_Word_L1 (p0 : (List UInt8)) (v3 : Int) : Option (Unit ⊕ Unit) :=
  if (decide (v3 < (p0.length : Int))) then
    ( idx p0 v3 >>= fun x8 =>
      R18_small (x8.toNat : Int) >>= fun x9 =>
      if (!x9) then
        idx p0 v3 >>= fun x10 =>
        R18_digit (x10.toNat : Int) >>= fun x11 =>
        if (!x11) then
          idx p0 v3 >>= fun x12 =>
          some ((x12.toNat : Int) != 95)
        else
          some false
      else
        some false : Option (Bool)) >>= fun o7 =>
    if o7 then
      some (.inr ())
    else
      R18_Word_L1 p0 (wr (v3 + 1))
  else
    some (.inl ())
  partial_fixpoint
set_option maxRecDepth 100000 in
set_option maxHeartbeats 4000000 in
theorem R18_Word_L1_grp : ∀ (p0 : (List UInt8)), (∀ (v3 : Int) (o4 : Unit ⊕ Unit), R18_Word_L1 p0 v3 = some o4 → TL (0, 0) Try.prog 42 R18_Word_L1_c (JP2 (0, 0) 42 o4 (.exit 0) (R18_Word_L1_x0 p0) .ret (R18_Word_L1_x1 p0)) (R18_Word_L1_st p0 v3)) := by
  intro p0
  refine R18_Word_L1.partial_correctness p0 _ ?_
  intro R18_Word_L1' ih_R18_Word_L1 v3 o4 h
  refine TL.round (bwp_sound mixed tbOk (lv := R18_Word_lv) _ _ _ ?_)
  refine vrfl ?_
  refine st_test h (fun hb h => ?_) (fun hb h => ?_)
  · refine st_bind h (fun o7 ho hk => ?_)
    refine Exists.intro (JP1 _ _ o7 .normal (R18_Word_J1_0 p0 v3)) (And.intro ?_ (join1 ?_))
    · have h := ho
      refine st_sidx h (fun x8 hi h => ?_)
      refine st_call [nV .u8 (x8.toNat : Int)] t_R18_small h (fun x9 hy => (R18_small_ok (x8.toNat : Int) x9 hy)) (fun x9 hy h => ?_)
      refine st_test h (fun hb h => ?_) (fun hb h => ?_)
      · refine st_sidx h (fun x10 hi h => ?_)
        refine st_call [nV .u8 (x10.toNat : Int)] t_R18_digit h (fun x11 hy => (R18_digit_ok (x10.toNat : Int) x11 hy)) (fun x11 hy h => ?_)
        refine st_test h (fun hb h => ?_) (fun hb h => ?_)
        · refine st_sidx h (fun x12 hi h => ?_)
          exact JP1.a h (Le.tow 0 0 rfl (.cons rfl (.refl _) (.cons rfl (.refl _) (.cons rfl (.refl _) (.nil)))) (.refl _) rfl)
        · exact JP1.a h (Le.tow 0 0 rfl (.cons rfl (.refl _) (.cons rfl (.refl _) (.cons rfl (.refl _) (.nil)))) (.refl _) rfl)
      · refine bF ?_
        exact JP1.a h (Le.tow 0 0 rfl (.cons rfl (.refl _) (.cons rfl (.refl _) (.cons rfl (.refl _) (.nil)))) (.refl _) rfl)
    · have h := hk
      refine st_test h (fun hb h => ?_) (fun hb h => ?_)
      · exact JP2.b h (Le.tow 0 0 rfl (.cons rfl (.refl _) (.nil)) (.refl _) rfl)
      · refine TL.le (τ := R18_Word_L1_st p0 (wr (v3 + 1))) ?_ ((ih_R18_Word_L1 (wr (v3 + 1)) _ h))
        exact Le.tow 0 0 rfl (.cons rfl (.refl _) (.cons rfl (.refl _) (.nil))) (.refl _) rfl
  · exact JP2.a h (Le.tow 0 0 rfl (.nil) (.refl _) rfl)
theorem R18_Word_L1_ok : ∀ (p0 : (List UInt8)) (v3 : Int) (o4 : Unit ⊕ Unit), R18_Word_L1 p0 v3 = some o4 → TL (0, 0) Try.prog 42 R18_Word_L1_c (JP2 (0, 0) 42 o4 (.exit 0) (R18_Word_L1_x0 p0) .ret (R18_Word_L1_x1 p0)) (R18_Word_L1_st p0 v3) := fun p0 v3 o4 h => (R18_Word_L1_grp p0) v3 o4 h
noncomputable def R18_Word (p0 : (List UInt8)) : Option (Bool) :=
  ( if (decide ((p0.length : Int) < 1)) then
      some true
    else
      if (decide ((p0.length : Int) > 32)) then
        some true
      else
        idx p0 0 >>= fun x2 =>
        R18_small (x2.toNat : Int) >>= fun x3 =>
        some (!x3) : Option (Bool)) >>= fun o1 =>
  if o1 then
    some false
  else
    (R18_Word_L1 p0 0) >>= fun o4 =>
    match o4 with
    | .inl y5 =>
      some true
    | .inr y6 =>
      some false
set_option maxRecDepth 100000 in
set_option maxHeartbeats 4000000 in
theorem R18_Word_ok : ∀ (p0 : (List UInt8)) (o : Bool), R18_Word p0 = some o → PCall Try.prog 52 [sV p0] (t_R18_Word o) := by
  intro p0 o h
  unfold R18_Word at h
  refine PCall.ofB mixed tbOk R18_Word_lv Try.func52 rfl (by kernel_rfl) (Nat.le_of_ble_eq_true rfl) ?_
  refine st_bind h (fun o1 ho hk => ?_)
  refine Exists.intro (JP1 _ _ o1 .normal (R18_Word_J0_0 p0)) (And.intro ?_ (join1 ?_))
  · have h := ho
    refine vrfl ?_
    refine st_test h (fun hb h => ?_) (fun hb h => ?_)
    · refine bT ?_
      exact JP1.a h (Le.tow 0 0 rfl (.cons rfl (.refl _) (.cons rfl (.refl _) (.nil))) (.refl _) rfl)
    · refine vrfl ?_
      refine st_test h (fun hb h => ?_) (fun hb h => ?_)
      · exact JP1.a h (Le.tow 0 0 rfl (.cons rfl (.refl _) (.cons rfl (.refl _) (.nil))) (.refl _) rfl)
      · refine st_sidx h (fun x2 hi h => ?_)
        refine st_call [nV .u8 (x2.toNat : Int)] t_R18_small h (fun x3 hy => (R18_small_ok (x2.toNat : Int) x3 hy)) (fun x3 hy h => ?_)
        exact JP1.a h (Le.tow 0 0 rfl (.cons rfl (.refl _) (.cons rfl (.refl _) (.nil))) (.refl _) rfl)
  · have h := hk
    refine st_test h (fun hb h => ?_) (fun hb h => ?_)
    · refine st_ret (t := t_R18_Word) h ?_
      exact .refl _
    · refine st_bind h (fun o4 ho hk => ?_)
      refine Exists.intro (JP2 _ _ o4 (.exit 0) (R18_Word_L1_x0 p0) .ret (R18_Word_L1_x1 p0)) (And.intro (T_le (τ := R18_Word_L1_st p0 0) ?_ (TL.loop (R18_Word_L1_ok p0 0 o4 ho))) (join2 (fun y5 hy => ?_) (fun y6 hy => ?_)))
      · exact Le.tow 0 0 rfl (.cons rfl (.refl _) (.cons rfl (.refl _) (.nil))) (.refl _) rfl
      · have h := (by rw [hy] at hk; exact hk)
        refine st_ret (t := t_R18_Word) h ?_
        exact .refl _
      · have h := (by rw [hy] at hk; exact hk)
        refine st_ret (t := t_R18_Word) h ?_
        exact .refl _
noncomputable def R19_Name_L1 (p0 : (List UInt8)) (x1 : (List (List UInt8))) (v4 : Int) : Option (Unit ⊕ Unit) :=
  if (decide (v4 < (x1.length : Int))) then
    idx x1 v4 >>= fun x5 =>
    if (x5 == p0) then
      some (.inr ())
    else
      R19_Name_L1 p0 x1 (wr (v4 + 1))
  else
    some (.inl ())
  partial_fixpoint
set_option maxRecDepth 100000 in
set_option maxHeartbeats 4000000 in
theorem R19_Name_L1_grp : ∀ (p0 : (List UInt8)) (x1 : (List (List UInt8))), (∀ (v4 : Int) (o2 : Unit ⊕ Unit), R19_Name_L1 p0 x1 v4 = some o2 → TL (0, 0) Try.prog 20 R19_Name_L1_c (JP2 (0, 0) 20 o2 (.exit 0) (R19_Name_L1_x0 p0 x1) .ret (R19_Name_L1_x1 p0 x1)) (R19_Name_L1_st p0 x1 v4)) := by
  intro p0 x1
  refine R19_Name_L1.partial_correctness p0 x1 _ ?_
  intro R19_Name_L1' ih_R19_Name_L1 v4 o2 h
  refine TL.round (bwp_sound mixed tbOk (lv := R19_Name_lv) _ _ _ ?_)
  refine view (lenMap _ _) rfl ?_
  refine st_test h (fun hb h => ?_) (fun hb h => ?_)
  · refine st_idx (l := x1) (c := cStr) (c' := cStr) h (fun _ => rfl) (fun _ => rfl) (by decide) (fun x5 hi h => ?_)
    refine st_test h (fun hb h => ?_) (fun hb h => ?_)
    · exact JP2.b h (Le.tow 0 0 rfl (.cons rfl (.refl _) (.nil)) (.refl _) rfl)
    · refine TL.le (τ := R19_Name_L1_st p0 x1 (wr (v4 + 1))) ?_ ((ih_R19_Name_L1 (wr (v4 + 1)) _ h))
      exact Le.tow 0 0 rfl (.cons rfl (.refl _) (.cons rfl (.refl _) (.cons rfl (.refl _) (.nil)))) (.refl _) rfl
  · exact JP2.a h (Le.tow 0 0 rfl (.cons rfl (.refl _) (.nil)) (.refl _) rfl)
theorem R19_Name_L1_ok : ∀ (p0 : (List UInt8)) (x1 : (List (List UInt8))) (v4 : Int) (o2 : Unit ⊕ Unit), R19_Name_L1 p0 x1 v4 = some o2 → TL (0, 0) Try.prog 20 R19_Name_L1_c (JP2 (0, 0) 20 o2 (.exit 0) (R19_Name_L1_x0 p0 x1) .ret (R19_Name_L1_x1 p0 x1)) (R19_Name_L1_st p0 x1 v4) := fun p0 x1 v4 o2 h => (R19_Name_L1_grp p0 x1) v4 o2 h
noncomputable def R19_Words : Option ((List (List UInt8))) :=
  some ([[105, 102], [101, 108, 115, 101], [101, 110, 100], [101, 97, 99, 104], [105, 110], [108, 101, 116], [117, 115, 101], [116, 114, 117, 101], [102, 97, 108, 115, 101], [115, 101, 99, 114, 101, 116]])
set_option maxRecDepth 100000 in
set_option maxHeartbeats 4000000 in
theorem R19_Words_ok : ∀ (o : (List (List UInt8))), R19_Words  = some o → PCall Try.prog 51 [] (t_R19_Words o) := by
  intro o h
  unfold R19_Words at h
  refine PCall.ofB mixed tbOk R19_Words_lv Try.func51 rfl (by kernel_rfl) (Nat.le_of_ble_eq_true rfl) ?_
  refine st_ret (t := t_R19_Words) h ?_
  exact .p (.not)
noncomputable def R19_Name (p0 : (List UInt8)) : Option (Bool) :=
  R19_Words >>= fun x1 =>
  (R19_Name_L1 p0 x1 0) >>= fun o2 =>
  match o2 with
  | .inl y3 =>
    R18_Word p0 >>= fun x6 =>
    some x6
  | .inr y4 =>
    some false
set_option maxRecDepth 100000 in
set_option maxHeartbeats 4000000 in
theorem R19_Name_ok : ∀ (p0 : (List UInt8)) (o : Bool), R19_Name p0 = some o → PCall Try.prog 26 [sV p0] (t_R19_Name o) := by
  intro p0 o h
  unfold R19_Name at h
  refine PCall.ofB mixed tbOk R19_Name_lv Try.func26 rfl (by kernel_rfl) (Nat.le_of_ble_eq_true rfl) ?_
  refine st_call [] t_R19_Words h (fun x1 hy => (R19_Words_ok x1 hy)) (fun x1 hy h => ?_)
  refine st_bind h (fun o2 ho hk => ?_)
  refine Exists.intro (JP2 _ _ o2 (.exit 0) (R19_Name_L1_x0 p0 x1) .ret (R19_Name_L1_x1 p0 x1)) (And.intro (T_le (τ := R19_Name_L1_st p0 x1 0) ?_ (TL.loop (R19_Name_L1_ok p0 x1 0 o2 ho))) (join2 (fun y3 hy => ?_) (fun y4 hy => ?_)))
  · exact Le.tow 0 0 rfl (.cons rfl (.refl _) (.cons rfl (.refl _) (.cons rfl (.refl _) (.nil)))) (.refl _) rfl
  · have h := (by rw [hy] at hk; exact hk)
    refine st_call [sV p0] t_R18_Word h (fun x6 hy => (R18_Word_ok p0 x6 hy)) (fun x6 hy h => ?_)
    refine st_ret (t := t_R19_Name) h ?_
    exact .refl _
  · have h := (by rw [hy] at hk; exact hk)
    refine st_ret (t := t_R19_Name) h ?_
    exact .refl _
noncomputable def internal_stringslite_HasSuffix (p0 : (List UInt8)) (p1 : (List UInt8)) : Option (Bool) :=
  ( if (decide ((p0.length : Int) ≥ (p1.length : Int))) then
      cutL p0 (wr ((p0.length : Int) - (p1.length : Int))) (p0.length : Int) >>= fun x2 =>
      some (x2 == p1)
    else
      some false : Option (Bool)) >>= fun o1 =>
  some o1
set_option maxRecDepth 100000 in
set_option maxHeartbeats 4000000 in
theorem internal_stringslite_HasSuffix_ok : ∀ (p0 : (List UInt8)) (p1 : (List UInt8)) (o : Bool), internal_stringslite_HasSuffix p0 p1 = some o → PCall Try.prog 105 [sV p0, sV p1] (t_internal_stringslite_HasSuffix o) := by
  intro p0 p1 o h
  unfold internal_stringslite_HasSuffix at h
  refine PCall.ofB mixed tbOk internal_stringslite_HasSuffix_lv Try.func105 rfl (by kernel_rfl) (Nat.le_of_ble_eq_true rfl) ?_
  refine st_bind h (fun o1 ho hk => ?_)
  refine Exists.intro (JP1 _ _ o1 .normal (internal_stringslite_HasSuffix_J0_0 )) (And.intro ?_ (join1 ?_))
  · have h := ho
    refine vrfl ?_
    refine vrfl ?_
    refine st_test h (fun hb h => ?_) (fun hb h => ?_)
    · refine vrfl ?_
      refine vrfl ?_
      refine st_cuts (some (wr ((p0.length : Int) - (p1.length : Int)))) none h (fun x2 hi h => ?_)
      exact JP1.a h (Le.tow 0 0 rfl (.cons rfl (.refl _) (.nil)) (.refl _) rfl)
    · exact JP1.a h (Le.tow 0 0 rfl (.cons rfl (.refl _) (.nil)) (.refl _) rfl)
  · have h := hk
    refine st_ret (t := t_internal_stringslite_HasSuffix) h ?_
    exact .refl _
noncomputable def internal_stringslite_Index (p0 : (List UInt8)) (p1 : (List UInt8)) : Option (Int) :=
  need (p0.length < 4294967281) >>= fun _ =>
  some (Lib.index p0 p1)
set_option maxRecDepth 100000 in
set_option maxHeartbeats 4000000 in
theorem internal_stringslite_Index_ok : ∀ (p0 : (List UInt8)) (p1 : (List UInt8)) (o : Int), internal_stringslite_Index p0 p1 = some o → PCall Try.prog 119 [sV p0, sV p1] (t_internal_stringslite_Index o) := by
  intro p0 p1 o h
  unfold internal_stringslite_Index at h
  obtain ⟨h1, h⟩ := need_some h
  cases h
  exact index_ok _ _ h1
noncomputable def internal_stringslite_IndexByte (p0 : (List UInt8)) (p1 : Int) : Option (Int) :=
  some (Lib.indexByte p0 p1.toNat.toUInt8)
set_option maxRecDepth 100000 in
set_option maxHeartbeats 4000000 in
theorem internal_stringslite_IndexByte_ok : ∀ (p0 : (List UInt8)) (p1 : Int) (o : Int), internal_stringslite_IndexByte p0 p1 = some o → PCall Try.prog 94 [sV p0, nV .u8 p1] (t_internal_stringslite_IndexByte o) := by
  intro p0 p1 o h
  unfold internal_stringslite_IndexByte at h
  cases h
  exact indexByte_ok _ _
noncomputable def lex_Quote_L1 (p0 : (List UInt8)) (v4 : (List Int)) (v18 : Int) : Option ((List Int)) :=
  if (decide (v18 < (p0.length : Int))) then
    idx p0 v18 >>= fun x5 =>
    if ((x5.toNat : Int) == 10) then
      appL 1 v4 (s2b [92, 110]) >>= fun x6 =>
      lex_Quote_L1 p0 x6 (wr (v18 + 1))
    else
      if ((x5.toNat : Int) == 9) then
        appL 1 v4 (s2b [92, 116]) >>= fun x7 =>
        lex_Quote_L1 p0 x7 (wr (v18 + 1))
      else
        ( if ((x5.toNat : Int) == 34) then
            some ((x5.toNat : Int) == 34)
          else
            some ((x5.toNat : Int) == 92) : Option (Bool)) >>= fun o8 =>
        if o8 then
          appL 1 v4 [92, (x5.toNat : Int)] >>= fun x9 =>
          lex_Quote_L1 p0 x9 (wr (v18 + 1))
        else
          appL 1 v4 [(x5.toNat : Int)] >>= fun x10 =>
          lex_Quote_L1 p0 x10 (wr (v18 + 1))
  else
    some v4
  partial_fixpoint
set_option maxRecDepth 100000 in
set_option maxHeartbeats 4000000 in
theorem lex_Quote_L1_grp : ∀ (p0 : (List UInt8)), (∀ (v4 : (List Int)) (v18 : Int) (o4 : (List Int)), lex_Quote_L1 p0 v4 v18 = some o4 → TL (0, 0) Try.prog 49 lex_Quote_L1_c (JP1 (0, 0) 49 o4 (.exit 0) (lex_Quote_L1_x0 p0)) (lex_Quote_L1_st p0 v4 v18)) := by
  intro p0
  refine lex_Quote_L1.partial_correctness p0 _ ?_
  intro lex_Quote_L1' ih_lex_Quote_L1 v4 v18 o4 h
  refine TL.round (bwp_sound mixed tbOk (lv := lex_Quote_lv) _ _ _ ?_)
  refine st_test h (fun hb h => ?_) (fun hb h => ?_)
  · refine st_sidx h (fun x5 hi h => ?_)
    refine st_test h (fun hb h => ?_) (fun hb h => ?_)
    · refine st_appso (a := v4) (b := [92, 110]) h rfl (fun x6 hi h => ?_)
      refine TL.le (τ := lex_Quote_L1_st p0 x6 (wr (v18 + 1))) ?_ ((ih_lex_Quote_L1 x6 (wr (v18 + 1)) _ h))
      exact Le.tow 0 1 rfl (.cons rfl (.refl _) (.cons rfl (.refl _) (.cons rfl (.refl _) (.cons rfl (.refl _) (.nil))))) (.refl _) rfl
    · refine st_test h (fun hb h => ?_) (fun hb h => ?_)
      · refine st_appso (a := v4) (b := [92, 116]) h rfl (fun x7 hi h => ?_)
        refine TL.le (τ := lex_Quote_L1_st p0 x7 (wr (v18 + 1))) ?_ ((ih_lex_Quote_L1 x7 (wr (v18 + 1)) _ h))
        exact Le.tow 0 1 rfl (.cons rfl (.refl _) (.cons rfl (.refl _) (.cons rfl (.refl _) (.cons rfl (.refl _) (.nil))))) (.refl _) rfl
      · refine st_bind h (fun o8 ho hk => ?_)
        refine Exists.intro (JP1 _ _ o8 .normal (lex_Quote_J1_0 p0 v4 v18 x5)) (And.intro ?_ (join1 ?_))
        · have h := ho
          refine st_test h (fun hb h => ?_) (fun hb h => ?_)
          · exact JP1.a h (Le.tow 0 1 rfl (.cons rfl (.refl _) (.cons rfl (.refl _) (.cons rfl (.refl _) (.cons rfl (.refl _) (.cons rfl (.refl _) (.cons rfl (.refl _) (.nil))))))) (.refl _) rfl)
          · exact JP1.a h (Le.tow 0 1 rfl (.cons rfl (.refl _) (.cons rfl (.refl _) (.cons rfl (.refl _) (.cons rfl (.refl _) (.cons rfl (.refl _) (.cons rfl (.refl _) (.nil))))))) (.refl _) rfl)
        · have h := hk
          refine st_test h (fun hb h => ?_) (fun hb h => ?_)
          · refine st_appo (a := v4) (b := [92, (x5.toNat : Int)]) (c := (cNum .u8)) h (.refl _) (fun _ => rfl) rfl (fun x9 hi h => ?_)
            refine TL.le (τ := lex_Quote_L1_st p0 x9 (wr (v18 + 1))) ?_ ((ih_lex_Quote_L1 x9 (wr (v18 + 1)) _ h))
            exact Le.tow 0 1 rfl (.cons rfl (.refl _) (.cons rfl (.refl _) (.cons rfl (.refl _) (.cons rfl (.refl _) (.nil))))) (.refl _) rfl
          · refine st_appo (a := v4) (b := [(x5.toNat : Int)]) (c := (cNum .u8)) h (.refl _) (fun _ => rfl) rfl (fun x10 hi h => ?_)
            refine TL.le (τ := lex_Quote_L1_st p0 x10 (wr (v18 + 1))) ?_ ((ih_lex_Quote_L1 x10 (wr (v18 + 1)) _ h))
            exact Le.tow 0 1 rfl (.cons rfl (.refl _) (.cons rfl (.refl _) (.cons rfl (.refl _) (.cons rfl (.refl _) (.nil))))) (.refl _) rfl
  · exact JP1.a h (Le.tow 0 1 rfl (.cons rfl (.refl _) (.nil)) (.refl _) rfl)
theorem lex_Quote_L1_ok : ∀ (p0 : (List UInt8)) (v4 : (List Int)) (v18 : Int) (o4 : (List Int)), lex_Quote_L1 p0 v4 v18 = some o4 → TL (0, 0) Try.prog 49 lex_Quote_L1_c (JP1 (0, 0) 49 o4 (.exit 0) (lex_Quote_L1_x0 p0)) (lex_Quote_L1_st p0 v4 v18) := fun p0 v4 v18 o4 h => (lex_Quote_L1_grp p0) v4 v18 o4 h
noncomputable def strings_IndexByte (p0 : (List UInt8)) (p1 : Int) : Option (Int) :=
  internal_stringslite_IndexByte p0 p1 >>= fun x1 =>
  some x1
set_option maxRecDepth 100000 in
set_option maxHeartbeats 4000000 in
theorem strings_IndexByte_ok : ∀ (p0 : (List UInt8)) (p1 : Int) (o : Int), strings_IndexByte p0 p1 = some o → PCall Try.prog 64 [sV p0, nV .u8 p1] (t_strings_IndexByte o) := by
  intro p0 p1 o h
  unfold strings_IndexByte at h
  refine PCall.ofB mixed tbOk strings_IndexByte_lv Try.func64 rfl (by kernel_rfl) (Nat.le_of_ble_eq_true rfl) ?_
  refine st_call [sV p0, nV .u8 p1] t_internal_stringslite_IndexByte h (fun x1 hy => (internal_stringslite_IndexByte_ok p0 p1 x1 hy)) (fun x1 hy h => ?_)
  refine st_ret (t := t_strings_IndexByte) h ?_
  exact .refl _
noncomputable def utf_Is_L1 (x1 : (List UInt8)) (l4 : (List (Int × Int))) : Option (Unit ⊕ Unit) :=
  match l4 with
  | [] =>
    some (.inl ())
  | x2 :: r3 =>
    ( if (x2.1 == 65533) then
        some (x2.2 == 1)
      else
        some false : Option (Bool)) >>= fun o9 =>
    if o9 then
      some (.inr ())
    else
      utf_Is_L1 x1 r3 
  partial_fixpoint
set_option maxRecDepth 100000 in
set_option maxHeartbeats 4000000 in
theorem utf_Is_L1_grp : ∀ (x1 : (List UInt8)), (∀ (l4 : (List (Int × Int))) (o6 : Unit ⊕ Unit), utf_Is_L1 x1 l4 = some o6 → RL 1 0 Try.prog 15 (rgP utf_Is_L1_c) (rgA utf_Is_L1_c) (rgB utf_Is_L1_c) (utf_Is_L1_st x1).env (JP2 (0, 0) 15 o6 .normal (utf_Is_L1_x0 x1) .ret (utf_Is_L1_x1 x1)) (l4.map e_utf_all_1) (utf_Is_L1_st x1).s) := by
  intro x1
  refine utf_Is_L1.partial_correctness x1 _ ?_
  intro utf_Is_L1' ih_utf_Is_L1 l4 o6 h
  cases l4 with
  | nil =>
    refine rl_nil ?_
    exact JP2.a h (Le.tow 1 0 rfl (.cons rfl (.refl _) (.cons rfl (.refl _) (.nil))) (.refl _) rfl)
  | cons x2 r3 =>
    refine rl_cons (bwp_sound mixed tbOk (lv := utf_Is_lv) _ _ _ ?_)
    refine And.intro rfl (bwp_sound mixed tbOk (lv := utf_Is_lv) _ _ _ ?_)
    refine st_bind h (fun o9 ho hk => ?_)
    refine Exists.intro (JP1 _ _ o9 .normal (utf_Is_J0_0 x1 x2)) (And.intro ?_ (join1 ?_))
    · have h := ho
      refine st_test h (fun hb h => ?_) (fun hb h => ?_)
      · exact JP1.a h (Le.tow 1 0 rfl (.cons rfl (.refl _) (.cons rfl (.refl _) (.cons rfl (.refl _) (.cons rfl (.refl _) (.cons rfl (.refl _) (.nil)))))) (.refl _) rfl)
      · exact JP1.a h (Le.tow 1 0 rfl (.cons rfl (.refl _) (.cons rfl (.refl _) (.cons rfl (.refl _) (.cons rfl (.refl _) (.cons rfl (.refl _) (.nil)))))) (.refl _) rfl)
    · have h := hk
      refine st_test h (fun hb h => ?_) (fun hb h => ?_)
      · exact Exists.intro (⟨[[.p (bV false)]], []⟩ : S) (And.intro (Le.tow 1 0 rfl .nil (.refl _) rfl) (And.intro rfl (And.intro rfl (JP2.b h (Le.tow 1 0 rfl (.cons rfl (.refl _) (.nil)) (.refl _) rfl)))))
      · exact Exists.intro (utf_Is_L1_st x1 ).s (And.intro (Le.tow 1 0 rfl (.nil) (.refl _) rfl) (And.intro rfl (And.intro rfl ((ih_utf_Is_L1 r3 _ h)))))
theorem utf_Is_L1_ok : ∀ (x1 : (List UInt8)) (l4 : (List (Int × Int))) (o6 : Unit ⊕ Unit), utf_Is_L1 x1 l4 = some o6 → RL 1 0 Try.prog 15 (rgP utf_Is_L1_c) (rgA utf_Is_L1_c) (rgB utf_Is_L1_c) (utf_Is_L1_st x1).env (JP2 (0, 0) 15 o6 .normal (utf_Is_L1_x0 x1) .ret (utf_Is_L1_x1 x1)) (l4.map e_utf_all_1) (utf_Is_L1_st x1).s := fun x1 l4 o6 h => (utf_Is_L1_grp x1) l4 o6 h
noncomputable def utf_all (p0 : (List UInt8)) : Option ((List UInt8)) :=
  some p0
set_option maxRecDepth 100000 in
set_option maxHeartbeats 4000000 in
theorem utf_all_ok : ∀ (p0 : (List UInt8)) (o : (List UInt8)), utf_all p0 = some o → PCall Try.prog 135 [sV p0] (t_utf_all o) := by
  intro p0 o h
  unfold utf_all at h
  refine PCall.ofM mixed tbOk utf_all_lv Try.func135 rfl (by kernel_rfl) (Nat.le_of_ble_eq_true rfl) ?_
  refine st_ret (t := t_utf_all) h ?_
  exact .refl _
noncomputable def utf_is (p0 : Int) : Option (Bool) :=
  ( if (decide (p0 ≥ 0)) then
      if (decide (p0 ≤ 1114111)) then
        if (decide (p0 < 55296)) then
          some true
        else
          some (decide (p0 > 57343))
      else
        some false
    else
      some false : Option (Bool)) >>= fun o1 =>
  some o1
set_option maxRecDepth 100000 in
set_option maxHeartbeats 4000000 in
theorem utf_is_ok : ∀ (p0 : Int) (o : Bool), utf_is p0 = some o → PCall Try.prog 139 [nV .i32 p0] (t_utf_is o) := by
  intro p0 o h
  unfold utf_is at h
  refine PCall.ofB mixed tbOk utf_is_lv Try.func139 rfl (by kernel_rfl) (Nat.le_of_ble_eq_true rfl) ?_
  refine st_bind h (fun o1 ho hk => ?_)
  refine Exists.intro (JP1 _ _ o1 .normal (utf_is_J0_0 )) (And.intro ?_ (join1 ?_))
  · have h := ho
    refine st_test h (fun hb h => ?_) (fun hb h => ?_)
    · refine st_test h (fun hb h => ?_) (fun hb h => ?_)
      · refine st_test h (fun hb h => ?_) (fun hb h => ?_)
        · exact JP1.a h (Le.tow 0 0 rfl (.cons rfl (.refl _) (.nil)) (.refl _) rfl)
        · exact JP1.a h (Le.tow 0 0 rfl (.cons rfl (.refl _) (.nil)) (.refl _) rfl)
      · exact JP1.a h (Le.tow 0 0 rfl (.cons rfl (.refl _) (.nil)) (.refl _) rfl)
    · refine bF ?_
      exact JP1.a h (Le.tow 0 0 rfl (.cons rfl (.refl _) (.nil)) (.refl _) rfl)
  · have h := hk
    refine st_ret (t := t_utf_is) h ?_
    exact .refl _
noncomputable def utf_tail_L1 (p0 : (List UInt8)) (p2 : Int) (v1 : Int) (v14 : Int) : Option (Int ⊕ Unit) :=
  if (decide (v14 < p2)) then
    idx p0 v14 >>= fun x4 =>
    if ((bits .and .u8 (x4.toNat : Int) 192) != 128) then
      some (.inr ())
    else
      idx p0 v14 >>= fun x5 =>
      utf_tail_L1 p0 p2 (bits .or .i32 (IntKind.i32.wrap (v1 * 2 ^ (min (6 : Int).toNat (IntKind.i32.bits)))) (IntKind.i32.wrap (bits .and .u8 (x5.toNat : Int) 63))) (wr (v14 + 1))
  else
    some (.inl v1)
  partial_fixpoint
set_option maxRecDepth 100000 in
set_option maxHeartbeats 4000000 in
theorem utf_tail_L1_grp : ∀ (p0 : (List UInt8)) (p2 : Int), (∀ (v1 : Int) (v14 : Int) (o1 : Int ⊕ Unit), utf_tail_L1 p0 p2 v1 v14 = some o1 → TL (0, 0) Try.prog 32 utf_tail_L1_c (JP2 (0, 0) 32 o1 (.exit 0) (utf_tail_L1_x0 p0 p2) .ret (utf_tail_L1_x1 p0 p2)) (utf_tail_L1_st p0 p2 v1 v14)) := by
  intro p0 p2
  refine utf_tail_L1.partial_correctness p0 p2 _ ?_
  intro utf_tail_L1' ih_utf_tail_L1 v1 v14 o1 h
  refine TL.round (bwp_sound mixed tbOk (lv := utf_tail_lv) _ _ _ ?_)
  refine st_test h (fun hb h => ?_) (fun hb h => ?_)
  · refine st_sidx h (fun x4 hi h => ?_)
    refine st_test h (fun hb h => ?_) (fun hb h => ?_)
    · exact JP2.b h (Le.tow 0 0 rfl (.cons rfl (.refl _) (.cons rfl (.refl _) (.nil))) (.refl _) rfl)
    · refine And.intro (by decide) ?_
      refine st_sidx h (fun x5 hi h => ?_)
      refine vrfl ?_
      refine TL.le (τ := utf_tail_L1_st p0 p2 (bits .or .i32 (IntKind.i32.wrap (v1 * 2 ^ (min (6 : Int).toNat (IntKind.i32.bits)))) (IntKind.i32.wrap (bits .and .u8 (x5.toNat : Int) 63))) (wr (v14 + 1))) ?_ ((ih_utf_tail_L1 (bits .or .i32 (IntKind.i32.wrap (v1 * 2 ^ (min (6 : Int).toNat (IntKind.i32.bits)))) (IntKind.i32.wrap (bits .and .u8 (x5.toNat : Int) 63))) (wr (v14 + 1)) _ h))
      exact Le.tow 0 0 rfl (.cons rfl (.refl _) (.cons rfl (.refl _) (.cons rfl (.refl _) (.cons rfl (.refl _) (.nil))))) (.refl _) rfl
  · exact JP2.a h (Le.tow 0 0 rfl (.cons rfl (.refl _) (.nil)) (.refl _) rfl)
theorem utf_tail_L1_ok : ∀ (p0 : (List UInt8)) (p2 : Int) (v1 : Int) (v14 : Int) (o1 : Int ⊕ Unit), utf_tail_L1 p0 p2 v1 v14 = some o1 → TL (0, 0) Try.prog 32 utf_tail_L1_c (JP2 (0, 0) 32 o1 (.exit 0) (utf_tail_L1_x0 p0 p2) .ret (utf_tail_L1_x1 p0 p2)) (utf_tail_L1_st p0 p2 v1 v14) := fun p0 p2 v1 v14 o1 h => (utf_tail_L1_grp p0 p2) v1 v14 o1 h
noncomputable def utf_tail (p0 : (List UInt8)) (p1 : Int) (p2 : Int) : Option (Int × Bool) :=
  if (decide ((p0.length : Int) < p2)) then
    some (0, false)
  else
    (utf_tail_L1 p0 p2 p1 0) >>= fun o1 =>
    match o1 with
    | .inl y2 =>
      some (y2, true)
    | .inr y3 =>
      some (0, false)
set_option maxRecDepth 100000 in
set_option maxHeartbeats 4000000 in
theorem utf_tail_ok : ∀ (p0 : (List UInt8)) (p1 : Int) (p2 : Int) (o : Int × Bool), utf_tail p0 p1 p2 = some o → PCall Try.prog 138 [sV p0, nV .i32 p1, iV p2] (t_utf_tail o) := by
  intro p0 p1 p2 o h
  unfold utf_tail at h
  refine PCall.ofB mixed tbOk utf_tail_lv Try.func138 rfl (by kernel_rfl) (Nat.le_of_ble_eq_true rfl) ?_
  refine vrfl ?_
  refine st_test h (fun hb h => ?_) (fun hb h => ?_)
  · refine st_ret (t := t_utf_tail) h ?_
    exact .refl _
  · refine st_bind h (fun o1 ho hk => ?_)
    refine Exists.intro (JP2 _ _ o1 (.exit 0) (utf_tail_L1_x0 p0 p2) .ret (utf_tail_L1_x1 p0 p2)) (And.intro (T_le (τ := utf_tail_L1_st p0 p2 p1 0) ?_ (TL.loop (utf_tail_L1_ok p0 p2 p1 0 o1 ho))) (join2 (fun y2 hy => ?_) (fun y3 hy => ?_)))
    · exact Le.tow 0 0 rfl (.cons rfl (.refl _) (.cons rfl (.refl _) (.cons rfl (.refl _) (.cons rfl (.refl _) (.nil))))) (.refl _) rfl
    · have h := (by rw [hy] at hk; exact hk)
      refine st_ret (t := t_utf_tail) h ?_
      exact .refl _
    · have h := (by rw [hy] at hk; exact hk)
      refine st_ret (t := t_utf_tail) h ?_
      exact .refl _
noncomputable def utf_Next (p0 : (List UInt8)) (p1 : Int) : Option (Int × Int) :=
  ( if (decide (p1 < 0)) then
      some true
    else
      some (decide (p1 ≥ (p0.length : Int))) : Option (Bool)) >>= fun o1 =>
  if o1 then
    some (0, 0)
  else
    idx p0 p1 >>= fun x2 =>
    ( if (decide ((x2.toNat : Int) < 128)) then
        some (.inr (IntKind.i32.wrap (x2.toNat : Int)))
      else
        ( if (decide ((x2.toNat : Int) ≥ 192)) then
            some (decide ((x2.toNat : Int) < 224))
          else
            some false : Option (Bool)) >>= fun o6 =>
        if o6 then
          some (.inl ((IntKind.i32.wrap (bits .and .u8 (x2.toNat : Int) 31)), 128, 1))
        else
          ( if (decide ((x2.toNat : Int) ≥ 224)) then
              some (decide ((x2.toNat : Int) < 240))
            else
              some false : Option (Bool)) >>= fun o7 =>
          if o7 then
            some (.inl ((IntKind.i32.wrap (bits .and .u8 (x2.toNat : Int) 15)), 2048, 2))
          else
            ( if (decide ((x2.toNat : Int) ≥ 240)) then
                some (decide ((x2.toNat : Int) < 248))
              else
                some false : Option (Bool)) >>= fun o8 =>
            if o8 then
              some (.inl ((IntKind.i32.wrap (bits .and .u8 (x2.toNat : Int) 7)), 65536, 3))
            else
              some (.inr 65533) : Option ((Int × Int × Int) ⊕ Int)) >>= fun o3 =>
    match o3 with
    | .inl y4 =>
      cutL p0 (wr (p1 + 1)) (p0.length : Int) >>= fun x9 =>
      utf_tail x9 y4.1 y4.2.2 >>= fun x10 =>
      ( if (!x10.2) then
          some true
        else
          if (decide (x10.1 < y4.2.1)) then
            some true
          else
            utf_is x10.1 >>= fun x12 =>
            some (!x12) : Option (Bool)) >>= fun o11 =>
      if o11 then
        some (65533, 1)
      else
        some (x10.1, (wr (y4.2.2 + 1)))
    | .inr y5 =>
      some (y5, 1)
set_option maxRecDepth 100000 in
set_option maxHeartbeats 4000000 in
theorem utf_Next_ok : ∀ (p0 : (List UInt8)) (p1 : Int) (o : Int × Int), utf_Next p0 p1 = some o → PCall Try.prog 137 [sV p0, iV p1] (t_utf_Next o) := by
  intro p0 p1 o h
  unfold utf_Next at h
  refine PCall.ofB mixed tbOk utf_Next_lv Try.func137 rfl (by kernel_rfl) (Nat.le_of_ble_eq_true rfl) ?_
  refine st_bind h (fun o1 ho hk => ?_)
  refine Exists.intro (JP1 _ _ o1 .normal (utf_Next_J0_0 p0 p1)) (And.intro ?_ (join1 ?_))
  · have h := ho
    refine st_test h (fun hb h => ?_) (fun hb h => ?_)
    · exact JP1.a h (Le.tow 0 0 rfl (.cons rfl (.refl _) (.cons rfl (.refl _) (.cons rfl (.refl _) (.nil)))) (.refl _) rfl)
    · refine vrfl ?_
      exact JP1.a h (Le.tow 0 0 rfl (.cons rfl (.refl _) (.cons rfl (.refl _) (.cons rfl (.refl _) (.nil)))) (.refl _) rfl)
  · have h := hk
    refine st_test h (fun hb h => ?_) (fun hb h => ?_)
    · refine st_ret (t := t_utf_Next) h ?_
      exact .refl _
    · refine st_sidx h (fun x2 hi h => ?_)
      refine st_bind h (fun o3 ho hk => ?_)
      refine Exists.intro (JP2 _ _ o3 .normal (utf_Next_J1_0 p0 p1) .ret (utf_Next_J1_1 p0 p1)) (And.intro ?_ (join2 (fun y4 hy => ?_) (fun y5 hy => ?_)))
      · have h := ho
        refine st_test h (fun hb h => ?_) (fun hb h => ?_)
        · refine vrfl ?_
          exact JP2.b h (Le.tow 0 0 rfl (.cons rfl (.refl _) (.cons rfl (.refl _) (.nil))) (.refl _) rfl)
        · refine st_bind h (fun o6 ho hk => ?_)
          refine Exists.intro (JP1 _ _ o6 .normal (utf_Next_J2_0 p0 p1 x2)) (And.intro ?_ (join1 ?_))
          · have h := ho
            refine st_test h (fun hb h => ?_) (fun hb h => ?_)
            · exact JP1.a h (Le.tow 0 0 rfl (.cons rfl (.refl _) (.cons rfl (.refl _) (.cons rfl (.refl _) (.cons rfl (.refl _) (.nil))))) (.refl _) rfl)
            · exact JP1.a h (Le.tow 0 0 rfl (.cons rfl (.refl _) (.cons rfl (.refl _) (.cons rfl (.refl _) (.cons rfl (.refl _) (.nil))))) (.refl _) rfl)
          · have h := hk
            refine st_test h (fun hb h => ?_) (fun hb h => ?_)
            · refine vrfl ?_
              exact JP2.a h (Le.tow 0 0 rfl (.cons rfl (.refl _) (.cons rfl (.refl _) (.cons rfl (.refl _) (.cons rfl (.refl _) (.cons rfl (.refl _) (.nil)))))) (.refl _) rfl)
            · refine st_bind h (fun o7 ho hk => ?_)
              refine Exists.intro (JP1 _ _ o7 .normal (utf_Next_J3_0 p0 p1 x2)) (And.intro ?_ (join1 ?_))
              · have h := ho
                refine st_test h (fun hb h => ?_) (fun hb h => ?_)
                · exact JP1.a h (Le.tow 0 0 rfl (.cons rfl (.refl _) (.cons rfl (.refl _) (.cons rfl (.refl _) (.cons rfl (.refl _) (.nil))))) (.refl _) rfl)
                · exact JP1.a h (Le.tow 0 0 rfl (.cons rfl (.refl _) (.cons rfl (.refl _) (.cons rfl (.refl _) (.cons rfl (.refl _) (.nil))))) (.refl _) rfl)
              · have h := hk
                refine st_test h (fun hb h => ?_) (fun hb h => ?_)
                · refine vrfl ?_
                  exact JP2.a h (Le.tow 0 0 rfl (.cons rfl (.refl _) (.cons rfl (.refl _) (.cons rfl (.refl _) (.cons rfl (.refl _) (.cons rfl (.refl _) (.nil)))))) (.refl _) rfl)
                · refine st_bind h (fun o8 ho hk => ?_)
                  refine Exists.intro (JP1 _ _ o8 .normal (utf_Next_J4_0 p0 p1 x2)) (And.intro ?_ (join1 ?_))
                  · have h := ho
                    refine st_test h (fun hb h => ?_) (fun hb h => ?_)
                    · exact JP1.a h (Le.tow 0 0 rfl (.cons rfl (.refl _) (.cons rfl (.refl _) (.cons rfl (.refl _) (.cons rfl (.refl _) (.nil))))) (.refl _) rfl)
                    · exact JP1.a h (Le.tow 0 0 rfl (.cons rfl (.refl _) (.cons rfl (.refl _) (.cons rfl (.refl _) (.cons rfl (.refl _) (.nil))))) (.refl _) rfl)
                  · have h := hk
                    refine st_test h (fun hb h => ?_) (fun hb h => ?_)
                    · refine vrfl ?_
                      exact JP2.a h (Le.tow 0 0 rfl (.cons rfl (.refl _) (.cons rfl (.refl _) (.cons rfl (.refl _) (.cons rfl (.refl _) (.cons rfl (.refl _) (.nil)))))) (.refl _) rfl)
                    · exact JP2.b h (Le.tow 0 0 rfl (.cons rfl (.refl _) (.cons rfl (.refl _) (.nil))) (.refl _) rfl)
      · have h := (by rw [hy] at hk; exact hk)
        refine st_cuts (some (wr (p1 + 1))) none h (fun x9 hi h => ?_)
        refine st_call [sV x9, nV .i32 y4.1, iV y4.2.2] t_utf_tail h (fun x10 hy => (utf_tail_ok x9 y4.1 y4.2.2 x10 hy)) (fun x10 hy h => ?_)
        refine st_bind h (fun o11 ho hk => ?_)
        refine Exists.intro (JP1 _ _ o11 .normal (utf_Next_J5_0 y4 x10)) (And.intro ?_ (join1 ?_))
        · have h := ho
          refine st_test h (fun hb h => ?_) (fun hb h => ?_)
          · refine bT ?_
            exact JP1.a h (Le.tow 0 0 rfl (.cons rfl (.refl _) (.cons rfl (.refl _) (.cons rfl (.refl _) (.nil)))) (.refl _) rfl)
          · refine st_test h (fun hb h => ?_) (fun hb h => ?_)
            · exact JP1.a h (Le.tow 0 0 rfl (.cons rfl (.refl _) (.cons rfl (.refl _) (.cons rfl (.refl _) (.nil)))) (.refl _) rfl)
            · refine st_call [nV .i32 x10.1] t_utf_is h (fun x12 hy => (utf_is_ok x10.1 x12 hy)) (fun x12 hy h => ?_)
              exact JP1.a h (Le.tow 0 0 rfl (.cons rfl (.refl _) (.cons rfl (.refl _) (.cons rfl (.refl _) (.nil)))) (.refl _) rfl)
        · have h := hk
          refine st_test h (fun hb h => ?_) (fun hb h => ?_)
          · refine st_ret (t := t_utf_Next) h ?_
            exact .refl _
          · refine st_ret (t := t_utf_Next) h ?_
            exact .refl _
      · have h := (by rw [hy] at hk; exact hk)
        refine st_ret (t := t_utf_Next) h ?_
        exact .refl _
noncomputable def utf_all_1_L1 (p0 : (List UInt8)) (v3 : Int) : Option ((List (Int × Int)) × (Unit)) :=
  if (decide (v3 < (p0.length : Int))) then
    utf_Next p0 v3 >>= fun x3 =>
    ( utf_all_1_L1 p0 (wr (v3 + x3.2))) >>= fun q => some ((x3.1, x3.2) :: q.1, q.2)
  else
    some ([], ())
  partial_fixpoint
set_option maxRecDepth 100000 in
set_option maxHeartbeats 4000000 in
theorem utf_all_1_L1_grp : ∀ (p0 : (List UInt8)), (∀ (v3 : Int) (o2 : (List (Int × Int)) × (Unit)), utf_all_1_L1 p0 v3 = some o2 → ∀ (gxs gp gpost gq1 : List (List V)), gxs = gp ++ (o2.1.map e_utf_all_1 ++ gpost) → gxs = gq1 ++ gpost → TL (0, 1) Try.prog 24 utf_all_1_L1_c (Qs (0, 1) 24 gxs (JP1 (0, 1) 24 o2.2 (.exit 0) (utf_all_1_L1_x0 p0 gxs gq1))) (utf_all_1_L1_st p0 v3 gxs gp)) := by
  intro p0
  refine utf_all_1_L1.partial_correctness p0 _ ?_
  intro utf_all_1_L1' ih_utf_all_1_L1 v3 o2 h
  intro gxs gp gpost gq1 hx hq
  refine TL.round (bwp_sound mixed tbOk (lv := utf_all_1_lv) _ _ _ ?_)
  refine vrfl ?_
  refine st_test h (fun hb h => ?_) (fun hb h => ?_)
  · refine st_call [sV p0, iV v3] t_utf_Next h (fun x3 hy => (utf_Next_ok p0 v3 x3 hy)) (fun x3 hy h => ?_)
    refine st_yld (c := e_utf_all_1) h hx (.refl _) (by exact rfl) (by exact rfl) (fun _ h hx => ?_) ?_
    · refine bF ?_
      refine TL.le (τ := utf_all_1_L1_st p0 (wr (v3 + x3.2)) gxs (gp ++ [e_utf_all_1 (x3.1, x3.2)])) ?_ ((ih_utf_all_1_L1 (wr (v3 + x3.2)) _ h) _ _ _ _ hx hq)
      exact Le.tow 0 1 rfl (.cons rfl (.refl _) (.cons rfl (.refl _) (.cons rfl (.refl _) (.nil)))) (.refl _) rfl
    · refine bT ?_
      exact .inr ⟨rfl, _, (Le.env0 _).trans (Le.tow 0 1 rfl .nil (.refl _) rfl), rfl, rfl, rfl⟩
  · exact .inl (JP1.a (sndI h) (Le.tow 0 1 rfl (.nil) (.refl _) (liveQ h hx hq rfl)))
theorem utf_all_1_L1_ok : ∀ (p0 : (List UInt8)) (v3 : Int) (o2 : (List (Int × Int)) × (Unit)), utf_all_1_L1 p0 v3 = some o2 → ∀ (gxs gp gpost gq1 : List (List V)), gxs = gp ++ (o2.1.map e_utf_all_1 ++ gpost) → gxs = gq1 ++ gpost → TL (0, 1) Try.prog 24 utf_all_1_L1_c (Qs (0, 1) 24 gxs (JP1 (0, 1) 24 o2.2 (.exit 0) (utf_all_1_L1_x0 p0 gxs gq1))) (utf_all_1_L1_st p0 v3 gxs gp) := fun p0 v3 o2 h => (utf_all_1_L1_grp p0) v3 o2 h
noncomputable def utf_all_1 (p0 : (List UInt8)) : Option ((List (Int × Int)) × Unit) :=
  ( utf_all_1_L1 p0 0) >>= fun o2 => (
    some ([], ())) >>= fun q => some (o2.1 ++ q.1, q.2)
set_option maxRecDepth 100000 in
set_option maxHeartbeats 4000000 in
theorem utf_all_1_ok : ∀ (p0 : (List UInt8)) (o : (List (Int × Int)) × Unit), utf_all_1 p0 = some o → ∀ gxs : List (List V), gxs = o.1.map e_utf_all_1 → IterOK Try.prog 136 [.ep [sV p0]] gxs := by
  intro p0 o h
  unfold utf_all_1 at h
  intro gxs hg
  have hx : gxs = [] ++ (o.1.map e_utf_all_1 ++ []) := by simp [hg]
  refine IterOK.ofB mixed tbOk utf_all_1_lv Try.func136 rfl (by kernel_rfl) (Nat.le_of_ble_eq_true rfl) rfl ?_
  refine st_bindI h hx (fun o2 lgq1 gq1 ho hk hxa hjgq1 => ?_)
  refine Exists.intro (Qs _ _ gxs (JP1 _ _ o2.2 (.exit 0) (utf_all_1_L1_x0 p0 gxs gq1))) (And.intro (T_le (τ := utf_all_1_L1_st p0 0 gxs ([] : List (List V))) ?_ (TL.loop ((utf_all_1_L1_ok p0 0 o2 ho) _ _ _ _ hxa hjgq1))) (joinS (join1 ?_) ?_))
  · exact Le.tow 0 1 rfl (.cons rfl (.refl _) (.cons rfl (.refl _) (.cons rfl (.refl _) (.nil)))) (.refl _) rfl
  · have h := hk
    have hx := hjgq1
    exact st_iend h hx (.inl rfl) rfl
  · exact fun s1 h1 h2 hs => st_istop (.inr rfl) hs
noncomputable def utf_Is (p0 : (List UInt8)) : Option (Bool) :=
  utf_all p0 >>= fun x1 =>
  utf_all_1 x1 >>= fun y5 =>
  (utf_Is_L1 x1 y5.1) >>= fun o6 =>
  match o6 with
  | .inl y7 =>
    some true
  | .inr y8 =>
    some false
set_option maxRecDepth 100000 in
set_option maxHeartbeats 4000000 in
theorem utf_Is_ok : ∀ (p0 : (List UInt8)) (o : Bool), utf_Is p0 = some o → PCall Try.prog 132 [sV p0] (t_utf_Is o) := by
  intro p0 o h
  unfold utf_Is at h
  refine PCall.ofB mixed tbOk utf_Is_lv Try.func132 rfl (by kernel_rfl) (Nat.le_of_ble_eq_true rfl) ?_
  refine st_call [sV p0] t_utf_all h (fun x1 hy => (utf_all_ok p0 x1 hy)) (fun x1 hy h => ?_)
  refine st_bind h (fun y5 hy5 h => ?_)
  refine st_bind h (fun o6 ho hk => ?_)
  refine Exists.intro (JP2 _ _ o6 .normal (utf_Is_L1_x0 x1) .ret (utf_Is_L1_x1 x1)) (And.intro (T_le (τ := utf_Is_L1_st x1) ?_ (T_range (g := 136) (cap := [.ep [sV x1]]) rfl ((utf_all_1_ok x1 y5 hy5) _ rfl) (mapSize fun _ => rfl) rfl (Nat.le_of_ble_eq_true rfl) (Nat.le_of_ble_eq_true rfl) (utf_Is_L1_ok x1 y5.1 o6 ho))) (join2 (fun y7 hy => ?_) (fun y8 hy => ?_)))
  · exact Le.tow 1 0 rfl (.cons rfl (.refl _) (.cons rfl (.refl _) (.nil))) (.refl _) rfl
  · have h := (by rw [hy] at hk; exact hk)
    refine st_ret (t := t_utf_Is) h ?_
    exact .refl _
  · have h := (by rw [hy] at hk; exact hk)
    refine st_ret (t := t_utf_Is) h ?_
    exact .refl _
noncomputable def lex_Quote (p0 : (List UInt8)) : Option ((List UInt8) × Bool) :=
  ( utf_Is p0 >>= fun x2 =>
    if (!x2) then
      some true
    else
      strings_IndexByte p0 13 >>= fun x3 =>
      some (decide (x3 ≥ 0)) : Option (Bool)) >>= fun o1 =>
  if o1 then
    some ([], false)
  else
    (lex_Quote_L1 p0 [34] 0) >>= fun o4 =>
    appL 1 o4 [34] >>= fun x11 =>
    b2s x11 >>= fun x12 =>
    some (x12, true)
set_option maxRecDepth 100000 in
set_option maxHeartbeats 4000000 in
theorem lex_Quote_ok : ∀ (p0 : (List UInt8)) (o : (List UInt8) × Bool), lex_Quote p0 = some o → PCall Try.prog 122 [sV p0] (t_lex_Quote o) := by
  intro p0 o h
  unfold lex_Quote at h
  refine PCall.ofB mixed tbOk lex_Quote_lv Try.func122 rfl (by kernel_rfl) (Nat.le_of_ble_eq_true rfl) ?_
  refine st_bind h (fun o1 ho hk => ?_)
  refine Exists.intro (JP1 _ _ o1 .normal (lex_Quote_J0_0 p0)) (And.intro ?_ (join1 ?_))
  · have h := ho
    refine st_call [sV p0] t_utf_Is h (fun x2 hy => (utf_Is_ok p0 x2 hy)) (fun x2 hy h => ?_)
    refine st_test h (fun hb h => ?_) (fun hb h => ?_)
    · exact JP1.a h (Le.tow 0 0 rfl (.cons rfl (.refl _) (.cons rfl (.refl _) (.nil))) (.refl _) rfl)
    · refine st_call [sV p0, nV .u8 13] t_strings_IndexByte h (fun x3 hy => (strings_IndexByte_ok p0 13 x3 hy)) (fun x3 hy h => ?_)
      exact JP1.a h (Le.tow 0 0 rfl (.cons rfl (.refl _) (.cons rfl (.refl _) (.nil))) (.refl _) rfl)
  · have h := hk
    refine st_test h (fun hb h => ?_) (fun hb h => ?_)
    · refine st_ret (t := t_lex_Quote) h ?_
      exact .refl _
    · refine vrfl ?_
      refine st_bind h (fun o4 ho hk => ?_)
      refine Exists.intro (JP1 _ _ o4 (.exit 0) (lex_Quote_L1_x0 p0)) (And.intro (T_le (τ := lex_Quote_L1_st p0 [34] 0) ?_ (TL.loop (lex_Quote_L1_ok p0 [34] 0 o4 ho))) (join1 ?_))
      · exact Le.trans (τ := ⟨[(0, .p (sV p0)), (4, .p (.sl true ([34].map (cNum .u8)))), (17, .p (iV (p0.length : Int))), (18, .p (iV 0))], ⟨[], []⟩⟩) (Le.tow 0 0 rfl (.cons rfl (.refl _) (.cons rfl (.refl _) (.cons rfl (.refl _) (.cons rfl (.refl _) (.nil))))) (.refl _) rfl) ((Le.ownW 4 5 1 rfl (mapSize fun _ => rfl)).trans (Le.tow 0 1 rfl (.cons rfl (.refl _) (.cons rfl (.refl _) (.cons rfl (.refl _) (.cons rfl (.refl _) (.nil))))) (.refl _) rfl))
      have h := hk
      refine st_appo (a := o4) (b := [34]) (c := (cNum .u8)) h (.refl _) (fun _ => rfl) rfl (fun x11 hi h => ?_)
      refine st_b2s (l := x11) h (fun x12 hi h => ?_)
      refine st_ret (t := t_lex_Quote) h ?_
      exact .refl _
noncomputable def lex_digit (p0 : Int) : Option (Bool) :=
  ( if (decide (p0 ≥ 48)) then
      some (decide (p0 ≤ 57))
    else
      some false : Option (Bool)) >>= fun o1 =>
  some o1
set_option maxRecDepth 100000 in
set_option maxHeartbeats 4000000 in
theorem lex_digit_ok : ∀ (p0 : Int) (o : Bool), lex_digit p0 = some o → PCall Try.prog 109 [nV .u8 p0] (t_lex_digit o) := by
  intro p0 o h
  unfold lex_digit at h
  refine PCall.ofB mixed tbOk lex_digit_lv Try.func109 rfl (by kernel_rfl) (Nat.le_of_ble_eq_true rfl) ?_
  refine st_bind h (fun o1 ho hk => ?_)
  refine Exists.intro (JP1 _ _ o1 .normal (lex_digit_J0_0 )) (And.intro ?_ (join1 ?_))
  · have h := ho
    refine st_test h (fun hb h => ?_) (fun hb h => ?_)
    · exact JP1.a h (Le.tow 0 0 rfl (.cons rfl (.refl _) (.nil)) (.refl _) rfl)
    · exact JP1.a h (Le.tow 0 0 rfl (.cons rfl (.refl _) (.nil)) (.refl _) rfl)
  · have h := hk
    refine st_ret (t := t_lex_digit) h ?_
    exact .refl _
noncomputable def lex_letter (p0 : Int) : Option (Bool) :=
  ( if (decide (p0 ≥ 97)) then
      if (decide (p0 ≤ 122)) then
        some true
      else
        lex_digit p0 >>= fun x2 =>
        if x2 then
          some true
        else
          some (p0 == 95)
    else
      lex_digit p0 >>= fun x3 =>
      if x3 then
        some true
      else
        some (p0 == 95) : Option (Bool)) >>= fun o1 =>
  some o1
set_option maxRecDepth 100000 in
set_option maxHeartbeats 4000000 in
theorem lex_letter_ok : ∀ (p0 : Int) (o : Bool), lex_letter p0 = some o → PCall Try.prog 81 [nV .u8 p0] (t_lex_letter o) := by
  intro p0 o h
  unfold lex_letter at h
  refine PCall.ofB mixed tbOk lex_letter_lv Try.func81 rfl (by kernel_rfl) (Nat.le_of_ble_eq_true rfl) ?_
  refine st_bind h (fun o1 ho hk => ?_)
  refine Exists.intro (JP1 _ _ o1 .normal (lex_letter_J0_0 )) (And.intro ?_ (join1 ?_))
  · have h := ho
    refine st_test h (fun hb h => ?_) (fun hb h => ?_)
    · refine st_test h (fun hb h => ?_) (fun hb h => ?_)
      · refine bT ?_
        exact JP1.a h (Le.tow 0 0 rfl (.cons rfl (.refl _) (.nil)) (.refl _) rfl)
      · refine st_call [nV .u8 p0] t_lex_digit h (fun x2 hy => (lex_digit_ok p0 x2 hy)) (fun x2 hy h => ?_)
        refine st_test h (fun hb h => ?_) (fun hb h => ?_)
        · exact JP1.a h (Le.tow 0 0 rfl (.cons rfl (.refl _) (.nil)) (.refl _) rfl)
        · exact JP1.a h (Le.tow 0 0 rfl (.cons rfl (.refl _) (.nil)) (.refl _) rfl)
    · refine bF ?_
      refine st_call [nV .u8 p0] t_lex_digit h (fun x3 hy => (lex_digit_ok p0 x3 hy)) (fun x3 hy h => ?_)
      refine st_test h (fun hb h => ?_) (fun hb h => ?_)
      · exact JP1.a h (Le.tow 0 0 rfl (.cons rfl (.refl _) (.nil)) (.refl _) rfl)
      · exact JP1.a h (Le.tow 0 0 rfl (.cons rfl (.refl _) (.nil)) (.refl _) rfl)
  · have h := hk
    refine st_ret (t := t_lex_letter) h ?_
    exact .refl _
noncomputable def lex_Word_L1 (p0 : (List UInt8)) (v6 : Int) : Option (Unit ⊕ Unit) :=
  if (decide (v6 < (p0.length : Int))) then
    idx p0 v6 >>= fun x4 =>
    lex_letter (x4.toNat : Int) >>= fun x5 =>
    if (!x5) then
      some (.inr ())
    else
      lex_Word_L1 p0 (wr (v6 + 1))
  else
    some (.inl ())
  partial_fixpoint
set_option maxRecDepth 100000 in
set_option maxHeartbeats 4000000 in
theorem lex_Word_L1_grp : ∀ (p0 : (List UInt8)), (∀ (v6 : Int) (o1 : Unit ⊕ Unit), lex_Word_L1 p0 v6 = some o1 → TL (0, 0) Try.prog 27 lex_Word_L1_c (JP2 (0, 0) 27 o1 (.exit 0) (lex_Word_L1_x0 p0) .ret (lex_Word_L1_x1 p0)) (lex_Word_L1_st p0 v6)) := by
  intro p0
  refine lex_Word_L1.partial_correctness p0 _ ?_
  intro lex_Word_L1' ih_lex_Word_L1 v6 o1 h
  refine TL.round (bwp_sound mixed tbOk (lv := lex_Word_lv) _ _ _ ?_)
  refine st_test h (fun hb h => ?_) (fun hb h => ?_)
  · refine st_sidx h (fun x4 hi h => ?_)
    refine st_call [nV .u8 (x4.toNat : Int)] t_lex_letter h (fun x5 hy => (lex_letter_ok (x4.toNat : Int) x5 hy)) (fun x5 hy h => ?_)
    refine st_test h (fun hb h => ?_) (fun hb h => ?_)
    · exact JP2.b h (Le.tow 0 0 rfl (.cons rfl (.refl _) (.nil)) (.refl _) rfl)
    · refine TL.le (τ := lex_Word_L1_st p0 (wr (v6 + 1))) ?_ ((ih_lex_Word_L1 (wr (v6 + 1)) _ h))
      exact Le.tow 0 0 rfl (.cons rfl (.refl _) (.cons rfl (.refl _) (.cons rfl (.refl _) (.nil)))) (.refl _) rfl
  · exact JP2.a h (Le.tow 0 0 rfl (.cons rfl (.refl _) (.nil)) (.refl _) rfl)
theorem lex_Word_L1_ok : ∀ (p0 : (List UInt8)) (v6 : Int) (o1 : Unit ⊕ Unit), lex_Word_L1 p0 v6 = some o1 → TL (0, 0) Try.prog 27 lex_Word_L1_c (JP2 (0, 0) 27 o1 (.exit 0) (lex_Word_L1_x0 p0) .ret (lex_Word_L1_x1 p0)) (lex_Word_L1_st p0 v6) := fun p0 v6 o1 h => (lex_Word_L1_grp p0) v6 o1 h
noncomputable def lex_Word (p0 : (List UInt8)) : Option (Bool) :=
  (lex_Word_L1 p0 0) >>= fun o1 =>
  match o1 with
  | .inl y2 =>
    ( if (!(p0 == [])) then
        if (decide ((p0.length : Int) ≤ 32)) then
          idx p0 0 >>= fun x7 =>
          some (decide ((x7.toNat : Int) ≥ 97))
        else
          some false
      else
        some false : Option (Bool)) >>= fun o6 =>
    some o6
  | .inr y3 =>
    some false
set_option maxRecDepth 100000 in
set_option maxHeartbeats 4000000 in
theorem lex_Word_ok : ∀ (p0 : (List UInt8)) (o : Bool), lex_Word p0 = some o → PCall Try.prog 50 [sV p0] (t_lex_Word o) := by
  intro p0 o h
  unfold lex_Word at h
  refine PCall.ofB mixed tbOk lex_Word_lv Try.func50 rfl (by kernel_rfl) (Nat.le_of_ble_eq_true rfl) ?_
  refine vrfl ?_
  refine st_bind h (fun o1 ho hk => ?_)
  refine Exists.intro (JP2 _ _ o1 (.exit 0) (lex_Word_L1_x0 p0) .ret (lex_Word_L1_x1 p0)) (And.intro (T_le (τ := lex_Word_L1_st p0 0) ?_ (TL.loop (lex_Word_L1_ok p0 0 o1 ho))) (join2 (fun y2 hy => ?_) (fun y3 hy => ?_)))
  · exact Le.tow 0 0 rfl (.cons rfl (.refl _) (.cons rfl (.refl _) (.cons rfl (.refl _) (.nil)))) (.refl _) rfl
  · have h := (by rw [hy] at hk; exact hk)
    refine st_bind h (fun o6 ho hk => ?_)
    refine Exists.intro (JP1 _ _ o6 .normal (lex_Word_J0_0 )) (And.intro ?_ (join1 ?_))
    · have h := ho
      refine st_test h (fun hb h => ?_) (fun hb h => ?_)
      · refine vrfl ?_
        refine st_test h (fun hb h => ?_) (fun hb h => ?_)
        · refine st_sidx h (fun x7 hi h => ?_)
          exact JP1.a h (Le.tow 0 0 rfl (.cons rfl (.refl _) (.nil)) (.refl _) rfl)
        · exact JP1.a h (Le.tow 0 0 rfl (.cons rfl (.refl _) (.nil)) (.refl _) rfl)
      · refine bF ?_
        exact JP1.a h (Le.tow 0 0 rfl (.cons rfl (.refl _) (.nil)) (.refl _) rfl)
    · have h := hk
      refine st_ret (t := t_lex_Word) h ?_
      exact .refl _
  · have h := (by rw [hy] at hk; exact hk)
    refine st_ret (t := t_lex_Word) h ?_
    exact .refl _
noncomputable def strings_Index (p0 : (List UInt8)) (p1 : (List UInt8)) : Option (Int) :=
  internal_stringslite_Index p0 p1 >>= fun x1 =>
  some x1
set_option maxRecDepth 100000 in
set_option maxHeartbeats 4000000 in
theorem strings_Index_ok : ∀ (p0 : (List UInt8)) (p1 : (List UInt8)) (o : Int), strings_Index p0 p1 = some o → PCall Try.prog 121 [sV p0, sV p1] (t_strings_Index o) := by
  intro p0 p1 o h
  unfold strings_Index at h
  refine PCall.ofB mixed tbOk strings_Index_lv Try.func121 rfl (by kernel_rfl) (Nat.le_of_ble_eq_true rfl) ?_
  refine st_call [sV p0, sV p1] t_internal_stringslite_Index h (fun x1 hy => (internal_stringslite_Index_ok p0 p1 x1 hy)) (fun x1 hy h => ?_)
  refine st_ret (t := t_strings_Index) h ?_
  exact .refl _
noncomputable def strings_Contains (p0 : (List UInt8)) (p1 : (List UInt8)) : Option (Bool) :=
  strings_Index p0 p1 >>= fun x1 =>
  some (decide (x1 ≥ 0))
set_option maxRecDepth 100000 in
set_option maxHeartbeats 4000000 in
theorem strings_Contains_ok : ∀ (p0 : (List UInt8)) (p1 : (List UInt8)) (o : Bool), strings_Contains p0 p1 = some o → PCall Try.prog 103 [sV p0, sV p1] (t_strings_Contains o) := by
  intro p0 p1 o h
  unfold strings_Contains at h
  refine PCall.ofB mixed tbOk strings_Contains_lv Try.func103 rfl (by kernel_rfl) (Nat.le_of_ble_eq_true rfl) ?_
  refine st_call [sV p0, sV p1] t_strings_Index h (fun x1 hy => (strings_Index_ok p0 p1 x1 hy)) (fun x1 hy h => ?_)
  refine st_ret (t := t_strings_Contains) h ?_
  exact .refl _
noncomputable def strings_HasSuffix (p0 : (List UInt8)) (p1 : (List UInt8)) : Option (Bool) :=
  internal_stringslite_HasSuffix p0 p1 >>= fun x1 =>
  some x1
set_option maxRecDepth 100000 in
set_option maxHeartbeats 4000000 in
theorem strings_HasSuffix_ok : ∀ (p0 : (List UInt8)) (p1 : (List UInt8)) (o : Bool), strings_HasSuffix p0 p1 = some o → PCall Try.prog 78 [sV p0, sV p1] (t_strings_HasSuffix o) := by
  intro p0 p1 o h
  unfold strings_HasSuffix at h
  refine PCall.ofB mixed tbOk strings_HasSuffix_lv Try.func78 rfl (by kernel_rfl) (Nat.le_of_ble_eq_true rfl) ?_
  refine st_call [sV p0, sV p1] t_internal_stringslite_HasSuffix h (fun x1 hy => (internal_stringslite_HasSuffix_ok p0 p1 x1 hy)) (fun x1 hy h => ?_)
  refine st_ret (t := t_strings_HasSuffix) h ?_
  exact .refl _
noncomputable def tree_Name (p0 : (List UInt8)) : Option (Bool) :=
  ( if (p0 == [105, 102]) then
      some (p0 == [105, 102])
    else
      if (p0 == [101, 108, 115, 101]) then
        some (p0 == [101, 108, 115, 101])
      else
        if (p0 == [101, 110, 100]) then
          some (p0 == [101, 110, 100])
        else
          if (p0 == [101, 97, 99, 104]) then
            some (p0 == [101, 97, 99, 104])
          else
            if (p0 == [105, 110]) then
              some (p0 == [105, 110])
            else
              if (p0 == [108, 101, 116]) then
                some (p0 == [108, 101, 116])
              else
                if (p0 == [117, 115, 101]) then
                  some (p0 == [117, 115, 101])
                else
                  if (p0 == [116, 114, 117, 101]) then
                    some (p0 == [116, 114, 117, 101])
                  else
                    if (p0 == [102, 97, 108, 115, 101]) then
                      some (p0 == [102, 97, 108, 115, 101])
                    else
                      some (p0 == [115, 101, 99, 114, 101, 116]) : Option (Bool)) >>= fun o1 =>
  if o1 then
    some false
  else
    lex_Word p0 >>= fun x2 =>
    some x2
set_option maxRecDepth 100000 in
set_option maxHeartbeats 4000000 in
theorem tree_Name_ok : ∀ (p0 : (List UInt8)) (o : Bool), tree_Name p0 = some o → PCall Try.prog 25 [sV p0] (t_tree_Name o) := by
  intro p0 o h
  unfold tree_Name at h
  refine PCall.ofB mixed tbOk tree_Name_lv Try.func25 rfl (by kernel_rfl) (Nat.le_of_ble_eq_true rfl) ?_
  refine st_bind h (fun o1 ho hk => ?_)
  refine Exists.intro (JP1 _ _ o1 .normal (tree_Name_J0_0 p0)) (And.intro ?_ (join1 ?_))
  · have h := ho
    refine st_test h (fun hb h => ?_) (fun hb h => ?_)
    · exact JP1.a h (Le.tow 0 0 rfl (.cons rfl (.refl _) (.cons rfl (.refl _) (.nil))) (.refl _) rfl)
    · refine st_test h (fun hb h => ?_) (fun hb h => ?_)
      · exact JP1.a h (Le.tow 0 0 rfl (.cons rfl (.refl _) (.cons rfl (.refl _) (.nil))) (.refl _) rfl)
      · refine st_test h (fun hb h => ?_) (fun hb h => ?_)
        · exact JP1.a h (Le.tow 0 0 rfl (.cons rfl (.refl _) (.cons rfl (.refl _) (.nil))) (.refl _) rfl)
        · refine st_test h (fun hb h => ?_) (fun hb h => ?_)
          · exact JP1.a h (Le.tow 0 0 rfl (.cons rfl (.refl _) (.cons rfl (.refl _) (.nil))) (.refl _) rfl)
          · refine st_test h (fun hb h => ?_) (fun hb h => ?_)
            · exact JP1.a h (Le.tow 0 0 rfl (.cons rfl (.refl _) (.cons rfl (.refl _) (.nil))) (.refl _) rfl)
            · refine st_test h (fun hb h => ?_) (fun hb h => ?_)
              · exact JP1.a h (Le.tow 0 0 rfl (.cons rfl (.refl _) (.cons rfl (.refl _) (.nil))) (.refl _) rfl)
              · refine st_test h (fun hb h => ?_) (fun hb h => ?_)
                · exact JP1.a h (Le.tow 0 0 rfl (.cons rfl (.refl _) (.cons rfl (.refl _) (.nil))) (.refl _) rfl)
                · refine st_test h (fun hb h => ?_) (fun hb h => ?_)
                  · exact JP1.a h (Le.tow 0 0 rfl (.cons rfl (.refl _) (.cons rfl (.refl _) (.nil))) (.refl _) rfl)
                  · refine st_test h (fun hb h => ?_) (fun hb h => ?_)
                    · exact JP1.a h (Le.tow 0 0 rfl (.cons rfl (.refl _) (.cons rfl (.refl _) (.nil))) (.refl _) rfl)
                    · exact JP1.a h (Le.tow 0 0 rfl (.cons rfl (.refl _) (.cons rfl (.refl _) (.nil))) (.refl _) rfl)
  · have h := hk
    refine st_test h (fun hb h => ?_) (fun hb h => ?_)
    · refine st_ret (t := t_tree_Name) h ?_
      exact .refl _
    · refine st_call [sV p0] t_lex_Word h (fun x2 hy => (lex_Word_ok p0 x2 hy)) (fun x2 hy h => ?_)
      refine st_ret (t := t_tree_Name) h ?_
      exact .refl _
end Go.Proofs.Ytlhjieapkcnghaa
end

section
namespace Go.Proofs.Ytlhjieapkcnghaa
open Go.RowKit

def contB (c : UInt8) : Bool := decide (128 ≤ c.toNat) && decide (c.toNat < 192)
def runeB (n : Nat) : Bool := decide (n ≤ 1114111) && !(decide (55296 ≤ n) && decide (n ≤ 57343))
/-- The rune at the head, and how many bytes it has. -/
def nextC (c : UInt8) (r : List UInt8) : Nat × Nat :=
    if c.toNat < 128 then (c.toNat, 1)
    else if 192 ≤ c.toNat ∧ c.toNat < 224 then
      match r with
      | c1 :: _ => if contB c1 = true ∧ 128 ≤ (c.toNat - 192) * 64 + (c1.toNat - 128) then ((c.toNat - 192) * 64 + (c1.toNat - 128), 2) else (65533, 1)
      | _ => (65533, 1)
    else if 224 ≤ c.toNat ∧ c.toNat < 240 then
      match r with
      | c1 :: c2 :: _ => if contB c1 = true ∧ contB c2 = true ∧ 2048 ≤ ((c.toNat - 224) * 64 + (c1.toNat - 128)) * 64 + (c2.toNat - 128) ∧ runeB (((c.toNat - 224) * 64 + (c1.toNat - 128)) * 64 + (c2.toNat - 128)) = true then (((c.toNat - 224) * 64 + (c1.toNat - 128)) * 64 + (c2.toNat - 128), 3) else (65533, 1)
      | _ => (65533, 1)
    else if 240 ≤ c.toNat ∧ c.toNat < 248 then
      match r with
      | c1 :: c2 :: c3 :: _ => if contB c1 = true ∧ contB c2 = true ∧ contB c3 = true ∧ 65536 ≤ (((c.toNat - 240) * 64 + (c1.toNat - 128)) * 64 + (c2.toNat - 128)) * 64 + (c3.toNat - 128) ∧ runeB ((((c.toNat - 240) * 64 + (c1.toNat - 128)) * 64 + (c2.toNat - 128)) * 64 + (c3.toNat - 128)) = true then ((((c.toNat - 240) * 64 + (c1.toNat - 128)) * 64 + (c2.toNat - 128)) * 64 + (c3.toNat - 128), 4) else (65533, 1)
      | _ => (65533, 1)
    else (65533, 1)
def nextP : List UInt8 → Nat × Nat
  | [] => (0, 0)
  | c :: r => nextC c r
theorem i32_in {n : Int} (h1 : -2147483648 ≤ n) (h2 : n ≤ 2147483647) : IntKind.i32.wrap n = n := by
  simp [IntKind.wrap, IntKind.bits, IntKind.signed]
  omega
theorem u8_in {n : Int} (h1 : 0 ≤ n) (h2 : n ≤ 255) : IntKind.u8.wrap n = n := by
  simp [IntKind.wrap, IntKind.bits, IntKind.signed]
  omega
theorem and63 : ∀ c : Fin 256, bits .and .u8 ((c.1 : Nat) : Int) 63 = ((c.1 % 64 : Nat) : Int) := by decide +kernel
theorem and192 : ∀ c : Fin 256, (bits .and .u8 ((c.1 : Nat) : Int) 192 != 128) = !(decide (128 ≤ c.1) && decide (c.1 < 192)) := by decide +kernel
theorem and31 : ∀ c : Fin 256, bits .and .u8 ((c.1 : Nat) : Int) 31 = ((c.1 % 32 : Nat) : Int) := by decide +kernel
theorem and15 : ∀ c : Fin 256, bits .and .u8 ((c.1 : Nat) : Int) 15 = ((c.1 % 16 : Nat) : Int) := by decide +kernel
theorem and7 : ∀ c : Fin 256, bits .and .u8 ((c.1 : Nat) : Int) 7 = ((c.1 % 8 : Nat) : Int) := by decide +kernel
theorem or64 (a b : Nat) (ha : a < 1000000) (hb : b < 64) : bits .or .i32 (IntKind.i32.wrap ((a : Int) * 2 ^ (min (6 : Int).toNat (IntKind.i32.bits)))) (IntKind.i32.wrap (b : Int)) = ((a * 64 + b : Nat) : Int) := by
  have e1 : IntKind.i32.wrap ((a : Int) * 2 ^ (min (6 : Int).toNat (IntKind.i32.bits))) = ((a * 64 : Nat) : Int) := by
    have : (min (6 : Int).toNat (IntKind.i32.bits)) = 6 := rfl
    rw [this, i32_in (by omega) (by omega)]; omega
  rw [e1, i32_in (by omega) (by omega)]
  have e2 : (2 : Nat) ^ 6 * a + b = 2 ^ 6 * a ||| b := Nat.two_pow_add_eq_or_of_lt (by omega) a
  have e3 : a * 64 ||| b = a * 64 + b := by
    have : (2 : Nat) ^ 6 * a = a * 64 := by omega
    rw [this] at e2; omega
  show IntKind.i32.wrap ((BitVec.ofInt 32 ((a * 64 : Nat) : Int) ||| BitVec.ofInt 32 (b : Int)).toNat : Int) = _
  rw [BitVec.toNat_or, BitVec.ofInt_natCast, BitVec.ofInt_natCast, BitVec.toNat_ofNat, BitVec.toNat_ofNat, Nat.mod_eq_of_lt (by omega), Nat.mod_eq_of_lt (by omega), e3, i32_in (by omega) (by omega)]
theorem b63 (c : UInt8) : bits .and .u8 (c.toNat : Int) 63 = ((c.toNat % 64 : Nat) : Int) := and63 ⟨c.toNat, c.toNat_lt⟩
theorem b192 (c : UInt8) : (bits .and .u8 (c.toNat : Int) 192 != 128) = !contB c := and192 ⟨c.toNat, c.toNat_lt⟩
theorem b31 (c : UInt8) : bits .and .u8 (c.toNat : Int) 31 = ((c.toNat % 32 : Nat) : Int) := and31 ⟨c.toNat, c.toNat_lt⟩
theorem b15 (c : UInt8) : bits .and .u8 (c.toNat : Int) 15 = ((c.toNat % 16 : Nat) : Int) := and15 ⟨c.toNat, c.toNat_lt⟩
theorem b7 (c : UInt8) : bits .and .u8 (c.toNat : Int) 7 = ((c.toNat % 8 : Nat) : Int) := and7 ⟨c.toNat, c.toNat_lt⟩
theorem cont_mod {c : UInt8} (h : contB c = true) : c.toNat % 64 = c.toNat - 128 := by
  unfold contB at h
  simp at h
  omega
/-- What follows: so many bytes. -/
def tailP : Nat → List UInt8 → Nat → Option Nat
  | 0, _, v => some v
  | _ + 1, [], _ => none
  | m + 1, c :: r, v => if contB c = true then tailP m r (v * 64 + (c.toNat - 128)) else none
set_option maxRecDepth 20000 in
theorem tTailL (l : List UInt8) (m : Nat) (hm : m ≤ l.length) (hm3 : m ≤ 3) : ∀ (d k v : Nat), k + d = m → ((k = 0 → v < 64) ∧ (k ≤ 1 → v < 4096) ∧ (k ≤ 2 → v < 262144)) →
    utf_tail_L1 l m v k = some (match tailP d (l.drop k) v with | some n => .inl (n : Int) | none => .inr ()) := by
  intro d
  induction d with
  | zero =>
    intro k v hk _
    rw [utf_tail_L1, ltI, decide_eq_false (by omega : ¬ k < m)]
    rfl
  | succ d ih =>
    intro k v hk hv
    have hkl : k < l.length := by omega
    have : decide ((k : Int) < (m : Int)) = true := decide_eq_true (by omega)
    rw [utf_tail_L1]
    simp only [this, if_true, idx_nat, getE hkl, bind_some', b192, b63]
    rw [or64 v _ (by omega) (Nat.mod_lt _ (by omega)), wr_succ (by omega), dropE hkl]
    unfold tailP
    cases hc : contB l[k] with
    | false => rfl
    | true =>
      rw [cont_mod hc]
      have hlt : l[k].toNat - 128 < 64 := by unfold contB at hc; simp at hc; omega
      have hv2 : (k + 1 = 0 → v * 64 + (l[k].toNat - 128) < 64) ∧ (k + 1 ≤ 1 → v * 64 + (l[k].toNat - 128) < 4096) ∧ (k + 1 ≤ 2 → v * 64 + (l[k].toNat - 128) < 262144) := by omega
      simp only [Bool.not_true, Bool.false_eq_true, if_false, if_true]
      exact ih (k + 1) _ (by omega) hv2
theorem tTail (l : List UInt8) (m v : Nat) (hm3 : m ≤ 3) (hv : v < 64) : utf_tail l v m = some (match (if l.length < m then none else tailP m l v) with | some n => ((n : Int), true) | none => (0, false)) := by
  rw [utf_tail, ltI]
  by_cases h : l.length < m
  · rw [decide_eq_true h, if_pos h]; rfl
  · rw [decide_eq_false h, if_neg h]
    have := tTailL l m (by omega) hm3 m 0 v (by omega) (by omega)
    rw [List.drop_zero] at this
    rw [show (0 : Int) = ((0 : Nat) : Int) from rfl, this]
    cases tailP m l v <;> rfl
theorem tIsR (n : Nat) : utf_is (n : Int) = some (runeB n) := by
  have a : decide ((n : Int) ≥ 0) = true := decide_eq_true (by omega)
  have b : decide ((n : Int) ≤ 1114111) = decide (n ≤ 1114111) := by
    by_cases h : n ≤ 1114111
    · rw [decide_eq_true h, decide_eq_true (by omega)]
    · rw [decide_eq_false h, decide_eq_false (by omega)]
  rw [utf_is, a, b, runeB]
  by_cases h1 : n < 55296
  · rw [decide_eq_true (show (n : Int) < 55296 by omega), decide_eq_true (show n ≤ 1114111 by omega), decide_eq_false (show ¬ 55296 ≤ n by omega)]; rfl
  · rw [decide_eq_false (show ¬ (n : Int) < 55296 by omega), decide_eq_true (show 55296 ≤ n by omega)]
    by_cases h2 : n ≤ 57343
    · rw [decide_eq_false (show ¬ (n : Int) > 57343 by omega), decide_eq_true h2, decide_eq_true (show n ≤ 1114111 by omega)]; rfl
    · rw [decide_eq_true (show (n : Int) > 57343 by omega), decide_eq_false h2]
      cases decide (n ≤ 1114111) <;> rfl
theorem rIsR (n : Nat) : R02_Rune (n : Int) = some (runeB n) := by
  have a : decide ((n : Int) ≥ 0) = true := decide_eq_true (by omega)
  have b : decide ((n : Int) ≤ 1114111) = decide (n ≤ 1114111) := by
    by_cases h : n ≤ 1114111
    · rw [decide_eq_true h, decide_eq_true (by omega)]
    · rw [decide_eq_false h, decide_eq_false (by omega)]
  have c : decide ((n : Int) ≥ 55296) = decide (55296 ≤ n) := by
    by_cases h : 55296 ≤ n
    · rw [decide_eq_true h, decide_eq_true (by omega)]
    · rw [decide_eq_false h, decide_eq_false (by omega)]
  have d : decide ((n : Int) ≤ 57343) = decide (n ≤ 57343) := by
    by_cases h : n ≤ 57343
    · rw [decide_eq_true h, decide_eq_true (by omega)]
    · rw [decide_eq_false h, decide_eq_false (by omega)]
  rw [R02_Rune, a, b, c, d, runeB]
  cases decide (n ≤ 1114111) <;> cases decide (55296 ≤ n) <;> cases decide (n ≤ 57343) <;> rfl
theorem ltC (c : UInt8) (k : Nat) : decide ((c.toNat : Int) < (k : Int)) = decide (c.toNat < k) := ltI _ _
theorem geC (c : UInt8) (k : Nat) : decide ((c.toNat : Int) ≥ (k : Int)) = decide (k ≤ c.toNat) := by
  by_cases h : k ≤ c.toNat
  · rw [decide_eq_true h, decide_eq_true (by omega)]
  · rw [decide_eq_false h, decide_eq_false (by omega)]
/-- What Next makes of a tail. -/
def endP (o : Option Nat) (least m : Nat) : Nat × Nat := match o with
  | some n => if least ≤ n ∧ runeB n = true then (n, m + 1) else (65533, 1)
  | none => (65533, 1)
set_option maxRecDepth 20000 in
theorem tNext (s : List UInt8) (k : Nat) (hk : k < s.length) (hs : s.length < 9223372036854775807) : utf_Next s k = some (((nextP (s.drop k)).1 : Int), ((nextP (s.drop k)).2 : Int)) := by
  have d1 : decide ((k : Int) < 0) = false := decide_eq_false (by omega)
  have d2 : decide ((k : Int) ≥ (s.length : Int)) = false := decide_eq_false (by omega)
  have hc := s[k].toNat_lt
  have hr : cutL s (wr ((k : Int) + 1)) (s.length : Int) = some (s.drop (k + 1)) := by
    rw [wr_succ (by omega), cutL_ok (by omega) (by omega) (by omega)]
    simp
  rw [utf_Next, d1, d2, hr, dropE hk]
  have l128 := ltC s[k] 128
  have g192 := geC s[k] 192
  have l224 := ltC s[k] 224
  have g224 := geC s[k] 224
  have l240 := ltC s[k] 240
  have g240 := geC s[k] 240
  have l248 := ltC s[k] 248
  have b1 : ∀ a b : Bool, (if a = true then some b else some false : Option Bool) = some (a && b) := fun a b => by cases a <;> rfl
  simp only [Bool.false_eq_true, if_false, bind_some', idx_nat, getE hk]
  rw [show (128 : Int) = ((128 : Nat) : Int) from rfl, show (192 : Int) = ((192 : Nat) : Int) from rfl, show (224 : Int) = ((224 : Nat) : Int) from rfl, show (240 : Int) = ((240 : Nat) : Int) from rfl, show (248 : Int) = ((248 : Nat) : Int) from rfl, l128, g192, l224, g224, l240, g240, l248]
  simp only [b1, bind_some']
  rw [nextP]
  unfold nextC
  have fin : ∀ (v least m : Nat), m ≤ 3 → v < 64 → (utf_tail (s.drop (k + 1)) (v : Int) (m : Int) >>= fun x10 =>
      (if (!x10.2) = true then some true else if decide (x10.1 < (least : Int)) = true then some true else utf_is x10.1 >>= fun x12 => some (!x12) : Option Bool) >>= fun o11 =>
      if o11 = true then some ((65533 : Int), (1 : Int)) else some (x10.1, wr ((m : Int) + 1))) =
      some (((endP (if (s.drop (k + 1)).length < m then none else tailP m (s.drop (k + 1)) v) least m).1 : Int), ((endP (if (s.drop (k + 1)).length < m then none else tailP m (s.drop (k + 1)) v) least m).2 : Int)) := fun v least m hm hv => by
    rw [tTail _ m v hm hv]
    cases (if (s.drop (k + 1)).length < m then none else tailP m (s.drop (k + 1)) v) with
    | none => rfl
    | some n =>
      simp only [bind_some', Bool.not_true, Bool.false_eq_true, if_false, ltI, tIsR, endP]
      by_cases h1 : n < least
      · rw [decide_eq_true h1, if_neg (fun h => absurd h.1 (by omega) : ¬ (least ≤ n ∧ runeB n = true))]; rfl
      · rw [decide_eq_false h1]
        cases hrn : runeB n with
        | true => rw [if_pos (⟨by omega, rfl⟩ : least ≤ n ∧ true = true), wr_succ (by omega)]; rfl
        | false => rw [if_neg (fun h => by cases h.2 : ¬ (least ≤ n ∧ false = true))]; rfl
  by_cases h1 : s[k].toNat < 128
  · rw [decide_eq_true h1, if_pos h1]
    simp only [if_true, bind_some']
    rw [i32_in (by omega) (by omega)]; rfl
  rw [decide_eq_false h1, if_neg h1]
  simp only [Bool.false_eq_true, if_false]
  have cc : ∀ c : UInt8, contB c = true → c.toNat - 128 < 64 := fun c h => by unfold contB at h; simp at h; omega
  by_cases h2 : 192 ≤ s[k].toNat ∧ s[k].toNat < 224
  · rw [decide_eq_true h2.1, decide_eq_true h2.2, if_pos h2, b31]
    simp only [Bool.and_true, if_true, bind_some']
    rw [i32_in (by omega) (by omega)]
    have f := fin (s[k].toNat % 32) 128 1 (by omega) (by omega)
    rw [show ((1 : Nat) : Int) = 1 from rfl] at f
    rw [f]
    have e : s[k].toNat % 32 = s[k].toNat - 192 := by omega
    rw [e]
    cases s.drop (k + 1) with
    | nil => rfl
    | cons c1 r1 =>
      simp only [List.length_cons, if_neg (by omega : ¬ r1.length + 1 < 1), tailP]
      cases h : contB c1 with
      | false => rfl
      | true =>
        have := cc c1 h
        have hr : runeB ((s[k].toNat - 192) * 64 + (c1.toNat - 128)) = true := by unfold runeB; rw [decide_eq_true (by omega), decide_eq_false (by omega)]; rfl
        simp only [if_true, endP, hr, and_true, true_and]
  rw [if_neg h2]
  have d2 : (decide (192 ≤ s[k].toNat) && decide (s[k].toNat < 224)) = false := by
    rw [Bool.and_eq_false_iff]
    by_cases h : 192 ≤ s[k].toNat
    · exact .inr (decide_eq_false (by omega))
    · exact .inl (decide_eq_false h)
  rw [d2]
  simp only [Bool.false_eq_true, if_false]
  by_cases h3 : 224 ≤ s[k].toNat ∧ s[k].toNat < 240
  · rw [decide_eq_true h3.1, decide_eq_true h3.2, if_pos h3, b15]
    simp only [Bool.and_true, if_true, bind_some']
    rw [i32_in (by omega) (by omega)]
    have f := fin (s[k].toNat % 16) 2048 2 (by omega) (by omega)
    rw [show ((2 : Nat) : Int) = 2 from rfl, show ((2048 : Nat) : Int) = 2048 from rfl] at f
    rw [f]
    have e : s[k].toNat % 16 = s[k].toNat - 224 := by omega
    rw [e]
    match s.drop (k + 1) with
    | [] => rfl
    | [c1] => rfl
    | c1 :: c2 :: r1 =>
      simp only [List.length_cons, if_neg (by omega : ¬ r1.length + 1 + 1 < 2), tailP]
      cases h : contB c1 with
      | false => rfl
      | true =>
        cases h' : contB c2 with
        | false => simp [endP]
        | true => simp only [if_true, endP, true_and]
  rw [if_neg h3]
  have d3 : (decide (224 ≤ s[k].toNat) && decide (s[k].toNat < 240)) = false := by
    rw [Bool.and_eq_false_iff]
    by_cases h : 224 ≤ s[k].toNat
    · exact .inr (decide_eq_false (by omega))
    · exact .inl (decide_eq_false h)
  rw [d3]
  simp only [Bool.false_eq_true, if_false]
  by_cases h4 : 240 ≤ s[k].toNat ∧ s[k].toNat < 248
  · rw [decide_eq_true h4.1, decide_eq_true h4.2, if_pos h4, b7]
    simp only [Bool.and_true, if_true, bind_some']
    rw [i32_in (by omega) (by omega)]
    have f := fin (s[k].toNat % 8) 65536 3 (by omega) (by omega)
    rw [show ((3 : Nat) : Int) = 3 from rfl, show ((65536 : Nat) : Int) = 65536 from rfl] at f
    rw [f]
    have e : s[k].toNat % 8 = s[k].toNat - 240 := by omega
    rw [e]
    match s.drop (k + 1) with
    | [] => rfl
    | [c1] => rfl
    | [c1, c2] => rfl
    | c1 :: c2 :: c3 :: r1 =>
      simp only [List.length_cons, if_neg (by omega : ¬ r1.length + 1 + 1 + 1 < 3), tailP]
      cases h : contB c1 with
      | false => rfl
      | true =>
        cases h' : contB c2 with
        | false => simp [endP]
        | true =>
          cases h'' : contB c3 with
          | false => simp [endP]
          | true => simp only [if_true, endP, true_and]
  rw [if_neg h4]
  have d4 : (decide (240 ≤ s[k].toNat) && decide (s[k].toNat < 248)) = false := by
    rw [Bool.and_eq_false_iff]
    by_cases h : 240 ≤ s[k].toNat
    · exact .inr (decide_eq_false (by omega))
    · exact .inl (decide_eq_false h)
  rw [d4]
  rfl
end Go.Proofs.Ytlhjieapkcnghaa
end
