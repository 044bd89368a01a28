/- The proof's texts, part 8 of 10: the walks by a logic in which data are by value, the plain laws, and at the end the law, for every input. -/
import Derived.Test.YtebkhehjfkmdiaaDoorMgLexQuotes7

section
set_option linter.unusedVariables false
set_option linter.unusedSimpArgs false
namespace Go.Proofs.YtebkhehjfkmdiaaDoor
open Go.RowKit

structure api_Token where
  Kind : Int
  Text : (List UInt8)
  N : Int
  From : Int
  To : Int
noncomputable def c_api_Token (x : api_Token) : List V := [iV x.Kind, sV x.Text, iV x.N, iV x.From, iV x.To]
structure S_c__k_ where
  c_ : Int
  k_ : Int
noncomputable def t_R02_Bytes (y : (List UInt8)) : D := .p (sV y)
noncomputable def R02_Bytes_lv : List (Nat × List Nat) := [(0, [0]), (1, [0, 5]), (2, [0]), (3, [0, 7]), (4, [2]), (5, [0, 13]), (6, [2]), (7, [0, 25]), (8, [2]), (9, [2]), (2001005, [])]
noncomputable def R02_Bytes_J0_0  (o1 : Int) : St := ⟨[(0, .p (iV o1))], ⟨[], []⟩⟩
noncomputable def t_R02_Is (y : Bool) : D := .p (bV y)
noncomputable def R02_Is_lv : List (Nat × List Nat) := [(0, [0]), (1, [0, 3]), (2, [0, 3, 9]), (3, [0, 3, 4, 5]), (4, [0, 3, 5, 21]), (5, [2]), (6, [0, 3]), (7, [2]), (1000002, [0, 3]), (3000004, [])]
noncomputable def R02_Is_J0_0 (p0 : (List UInt8)) (v3 : Int) (x4 : Int × Int) (o5 : Bool) : St := ⟨[(0, .p (sV p0)), (3, .p (iV v3)), (5, .p (iV x4.2)), (21, .p (bV o5))], ⟨[], []⟩⟩
noncomputable def R02_Is_L1_st (p0 : (List UInt8)) (v3 : Int) : St := ⟨[(0, .p (sV p0)), (3, .p (iV v3))], ⟨[], []⟩⟩
noncomputable def R02_Is_L1_x0 (p0 : (List UInt8)) (y2 : Unit) : St := ⟨[], ⟨[], []⟩⟩
noncomputable def R02_Is_L1_x1 (p0 : (List UInt8)) (y3 : Unit) : St := ⟨[(2, .p (bV false))], ⟨[], []⟩⟩
noncomputable def R02_Is_L1_c : Code := ((loopsOf (Tryd.f14.body.getD .skip)).getD 0 .skip)
noncomputable def t_R02_Next (y : Int × Int) : D := .tup [.p (iV y.1), .p (iV y.2)]
noncomputable def R02_Next_lv : List (Nat × List Nat) := [(0, [0, 1]), (1, [0, 1, 17]), (2, [4, 5]), (3, [0, 1, 6]), (4, [0, 1, 6, 7]), (5, [0, 1, 6, 7, 28]), (6, [0, 1, 6, 7]), (7, [0, 1, 6, 7, 8]), (8, [0, 1, 6, 7, 8, 9]), (9, [0, 1, 6, 7, 8, 9, 42]), (10, [0, 1, 6, 7, 8, 9]), (11, [0, 1, 6, 7, 8, 9]), (12, [0, 1, 6, 7, 8, 71]), (13, [4, 5]), (14, [4, 5]), (1000005, [0, 1, 6, 7]), (1000009, [0, 1, 6, 7, 8, 9]), (3000001, []), (3000005, []), (3000012, [])]
noncomputable def R02_Next_J0_0 (p0 : (List UInt8)) (p1 : Int) (o1 : Bool) : St := ⟨[(0, .p (sV p0)), (1, .p (iV p1)), (17, .p (bV o1))], ⟨[], []⟩⟩
noncomputable def R02_Next_J1_0 (p0 : (List UInt8)) (p1 : Int) (v6 : (List Int)) (v7 : Int) (o5 : Bool) : St := ⟨[(0, .p (sV p0)), (1, .p (iV p1)), (6, .p (.sl true (v6.map cInt))), (7, .p (iV v7)), (28, .p (bV o5))], ⟨[], []⟩⟩
noncomputable def R02_Next_L2_st (p0 : (List UInt8)) (p1 : Int) (v6 : (List Int)) (v7 : Int) (v8 : Int) (v9 : Int) : St := ⟨[(0, .p (sV p0)), (1, .p (iV p1)), (6, .p (.sl true (v6.map cInt))), (7, .p (iV v7)), (8, .p (iV v8)), (9, .p (iV v9))], ⟨[], []⟩⟩
noncomputable def R02_Next_L2_x0 (p0 : (List UInt8)) (p1 : Int) (v6 : (List Int)) (v7 : Int) (o8 : Int) : St := ⟨[(0, .p (sV p0)), (1, .p (iV p1)), (6, .p (.sl true (v6.map cInt))), (7, .p (iV v7)), (8, .p (iV o8))], ⟨[], []⟩⟩
noncomputable def R02_Next_L2_c : Code := ((loopsOf (Tryd.f40.body.getD .skip)).getD 1 .skip)
noncomputable def R02_Next_J2_0 (p0 : (List UInt8)) (p1 : Int) (v6 : (List Int)) (v7 : Int) (o8 : Int) (o10 : Bool) : St := ⟨[(0, .p (sV p0)), (1, .p (iV p1)), (6, .p (.sl true (v6.map cInt))), (7, .p (iV v7)), (8, .p (iV o8)), (71, .p (bV o10))], ⟨[], []⟩⟩
noncomputable def R02_Next_L1_st (p0 : (List UInt8)) (p1 : Int) (v6 : (List Int)) (v7 : Int) : St := ⟨[(0, .p (sV p0)), (1, .p (iV p1)), (6, .p (.sl true (v6.map cInt))), (7, .p (iV v7))], ⟨[], []⟩⟩
noncomputable def R02_Next_L1_x0 (p0 : (List UInt8)) (p1 : Int) (y3 : Unit) : St := ⟨[], ⟨[], []⟩⟩
noncomputable def R02_Next_L1_x1 (p0 : (List UInt8)) (p1 : Int) (y4 : Int × Int) : St := ⟨[(4, .p (iV y4.1)), (5, .p (iV y4.2))], ⟨[], []⟩⟩
noncomputable def R02_Next_L1_c : Code := ((loopsOf (Tryd.f40.body.getD .skip)).getD 0 .skip)
noncomputable def t_R02_Rune (y : Bool) : D := .p (bV y)
noncomputable def R02_Rune_lv : List (Nat × List Nat) := [(0, [0]), (1, [2]), (3000001, [])]
noncomputable def R02_Rune_J0_0  (o1 : Bool) : St := ⟨[(2, .p (bV o1))], ⟨[], []⟩⟩
noncomputable def t_R18_Quote (y : (List UInt8) × Bool) : D := .tup [.p (sV y.1), .p (bV y.2)]
noncomputable def R18_Quote_lv : List (Nat × List Nat) := [(0, [0]), (1, [0, 9]), (2, [2, 3]), (3, [0, 4]), (4, [0, 4, 5]), (5, [0, 4, 5, 13]), (6, [0, 4, 5]), (7, [0, 4, 5, 6]), (8, [0, 4, 5, 6, 22]), (9, [2, 3]), (10, [0, 4, 5, 6, 24]), (11, [0, 4, 5, 6]), (12, [0, 4, 5, 6, 26]), (13, [0, 4, 5, 6]), (14, [0, 4, 5, 6, 32]), (15, [0, 4, 5, 6]), (16, [0, 4, 5]), (17, [2, 3]), (1000005, [0, 4, 5]), (2010013, []), (3000014, [])]
noncomputable def R18_Quote_J0_0 (p0 : (List UInt8)) (v4 : (List UInt8)) (v5 : Int) (o6 : (List UInt8)) : St := ⟨[(0, .p (sV p0)), (4, .p (sV v4)), (5, .p (iV v5)), (6, .p (sV o6))], ⟨[], []⟩⟩
noncomputable def R18_Quote_J1_0 (p0 : (List UInt8)) (v4 : (List UInt8)) (v5 : Int) (x5 : (List UInt8)) (o7 : Bool) : St := ⟨[(0, .p (sV p0)), (4, .p (sV v4)), (5, .p (iV v5)), (6, .p (sV x5)), (32, .p (bV o7))], ⟨[], []⟩⟩
noncomputable def R18_Quote_L1_st (p0 : (List UInt8)) (v4 : (List UInt8)) (v5 : Int) : St := ⟨[(0, .p (sV p0)), (4, .p (sV v4)), (5, .p (iV v5))], ⟨[], []⟩⟩
noncomputable def R18_Quote_L1_x0 (p0 : (List UInt8)) (y3 : (List UInt8)) : St := ⟨[(4, .p (sV y3))], ⟨[], []⟩⟩
noncomputable def R18_Quote_L1_x1 (p0 : (List UInt8)) (y4 : Unit) : St := ⟨[(2, .p (sV [])), (3, .p (bV false))], ⟨[], []⟩⟩
noncomputable def R18_Quote_L1_c : Code := ((loopsOf (Tryd.f33.body.getD .skip)).getD 0 .skip)
noncomputable def t_R18_Same (y : Bool) : D := .p (bV y)
noncomputable def R18_Same_lv : List (Nat × List Nat) := [(0, [0, 1]), (1, [0, 1, 10]), (2, [4]), (3, [0, 1, 5]), (4, [0, 1, 5, 14]), (5, [0, 1, 5]), (6, [0, 1, 5, 53]), (7, [4]), (8, [4]), (1000004, [0, 1, 5]), (3000006, [])]
noncomputable def R18_Same_J0_0 (p0 : (List api_Token)) (p1 : (List api_Token)) (v5 : Int) (o4 : Bool) : St := ⟨[(0, .p (.sl false (p0.map c_api_Token))), (1, .p (.sl false (p1.map c_api_Token))), (5, .p (iV v5)), (53, .p (bV o4))], ⟨[], []⟩⟩
noncomputable def R18_Same_L1_st (p0 : (List api_Token)) (p1 : (List api_Token)) (v5 : Int) : St := ⟨[(0, .p (.sl false (p0.map c_api_Token))), (1, .p (.sl false (p1.map c_api_Token))), (5, .p (iV v5))], ⟨[], []⟩⟩
noncomputable def R18_Same_L1_x0 (p0 : (List api_Token)) (p1 : (List api_Token)) (y2 : Unit) : St := ⟨[], ⟨[], []⟩⟩
noncomputable def R18_Same_L1_x1 (p0 : (List api_Token)) (p1 : (List api_Token)) (y3 : Unit) : St := ⟨[(4, .p (bV false))], ⟨[], []⟩⟩
noncomputable def R18_Same_L1_c : Code := ((loopsOf (Tryd.f31.body.getD .skip)).getD 0 .skip)
noncomputable def t_R18_Word (y : Bool) : D := .p (bV y)
noncomputable def R18_Word_lv : List (Nat × List Nat) := [(0, [0]), (1, [0, 17]), (2, [2]), (3, [0, 3]), (4, [0, 3, 21]), (5, [0, 3]), (6, [0, 3, 41]), (7, [2]), (8, [2]), (1000004, [0, 3]), (3000001, []), (3000006, [])]
noncomputable def R18_Word_J0_0 (p0 : (List UInt8)) (o1 : Bool) : St := ⟨[(0, .p (sV p0)), (17, .p (bV o1))], ⟨[], []⟩⟩
noncomputable def R18_Word_J1_0 (p0 : (List UInt8)) (v3 : Int) (o7 : Bool) : St := ⟨[(0, .p (sV p0)), (3, .p (iV v3)), (41, .p (bV o7))], ⟨[], []⟩⟩
noncomputable def R18_Word_L1_st (p0 : (List UInt8)) (v3 : Int) : St := ⟨[(0, .p (sV p0)), (3, .p (iV v3))], ⟨[], []⟩⟩
noncomputable def R18_Word_L1_x0 (p0 : (List UInt8)) (y5 : Unit) : St := ⟨[], ⟨[], []⟩⟩
noncomputable def R18_Word_L1_x1 (p0 : (List UInt8)) (y6 : Unit) : St := ⟨[(2, .p (bV false))], ⟨[], []⟩⟩
noncomputable def R18_Word_L1_c : Code := ((loopsOf (Tryd.f35.body.getD .skip)).getD 0 .skip)
noncomputable def t_R18_digit (y : Bool) : D := .p (bV y)
noncomputable def R18_digit_lv : List (Nat × List Nat) := [(0, [0]), (1, [2]), (3000001, [])]
noncomputable def R18_digit_J0_0  (o1 : Bool) : St := ⟨[(2, .p (bV o1))], ⟨[], []⟩⟩
noncomputable def t_R18_small (y : Bool) : D := .p (bV y)
noncomputable def R18_small_lv : List (Nat × List Nat) := [(0, [0]), (1, [2]), (3000001, [])]
noncomputable def R18_small_J0_0  (o1 : Bool) : St := ⟨[(2, .p (bV o1))], ⟨[], []⟩⟩
noncomputable def t_internal_stringslite_HasPrefix (y : Bool) : D := .p (bV y)
noncomputable def internal_stringslite_HasPrefix_lv : List (Nat × List Nat) := [(0, [0, 1]), (1, [4]), (3000001, [])]
noncomputable def internal_stringslite_HasPrefix_J0_0  (o1 : Bool) : St := ⟨[(4, .p (bV o1))], ⟨[], []⟩⟩
noncomputable def t_internal_stringslite_Index (y : Int) : D := .p (iV y)
noncomputable def t_internal_stringslite_IndexByte (y : Int) : D := .p (iV y)
noncomputable def t_lex_Quote (y : (List UInt8) × Bool) : D := .tup [.p (sV y.1), .p (bV y.2)]
noncomputable def lex_Quote_lv : List (Nat × List Nat) := [(0, [0]), (1, [0, 14]), (2, [2, 3]), (3, [0, 4]), (4, [0, 4, 17, 18]), (5, [0, 4, 17, 18, 19]), (6, [0, 4, 5, 17, 18]), (7, [0, 4, 6, 17, 18]), (8, [0, 4, 6, 17, 18, 24]), (9, [0, 4, 17, 18]), (10, [0, 4, 6, 17, 18, 24, 29]), (11, [0, 4, 17, 18]), (12, [0, 4, 6, 17, 18, 24, 33]), (13, [0, 4, 17, 18]), (14, [0, 4, 6, 17, 18, 24, 37]), (15, [0, 4, 6, 17, 18, 37]), (16, [0, 4, 17, 18]), (17, [0, 4, 17, 18]), (18, [2, 3]), (1000005, [0, 4, 17, 18]), (2014005, []), (3000001, [])]
noncomputable def lex_Quote_J0_0 (p0 : (List UInt8)) (o1 : Bool) : St := ⟨[(0, .p (sV p0)), (14, .p (bV o1))], ⟨[], []⟩⟩
noncomputable def lex_Quote_J1_0 (p0 : (List UInt8)) (v4 : (List Int)) (v18 : Int) (x5 : UInt8) (o8 : Bool) : St := ⟨[(0, .p (sV p0)), (4, .own 0 1000005 1 (v4.map (cNum .u8))), (6, .p (nV .u8 (x5.toNat : Int))), (17, .p (iV (p0.length : Int))), (18, .p (iV v18)), (37, .p (bV o8))], ⟨[], [(v4.map (cNum .u8)).length]⟩⟩
noncomputable def lex_Quote_L1_st (p0 : (List UInt8)) (v4 : (List Int)) (v18 : Int) : St := ⟨[(0, .p (sV p0)), (4, .own 0 1000005 1 (v4.map (cNum .u8))), (17, .p (iV (p0.length : Int))), (18, .p (iV v18))], ⟨[], [(v4.map (cNum .u8)).length]⟩⟩
noncomputable def lex_Quote_L1_x0 (p0 : (List UInt8)) (o4 : (List Int)) : St := ⟨[(4, .own 0 1000005 1 (o4.map (cNum .u8)))], ⟨[], [(o4.map (cNum .u8)).length]⟩⟩
noncomputable def lex_Quote_L1_c : Code := ((loopsOf (Tryd.f32.body.getD .skip)).getD 0 .skip)
noncomputable def t_lex_Tokens (y : (List api_Token) × Int × Int) : D := .tup [.p (.sl false (y.1.map c_api_Token)), .p (iV y.2.1), .p (iV y.2.2)]
noncomputable def lex_Tokens_lv : List (Nat × List Nat) := [(0, [0]), (1, [0, 9]), (2, [2, 3, 4]), (3, [0, 5]), (4, [0, 5]), (5, [0, 5, 6]), (6, [0, 5, 6, 21]), (7, [0, 5, 6]), (8, [0, 5, 6, 30]), (9, [0, 5]), (10, [0, 5, 52]), (11, [2, 3, 4]), (12, [0, 5]), (13, [0, 5]), (14, [0, 5, 66]), (15, [0, 5, 6]), (16, [0, 5, 6, 75]), (17, [2, 3, 4]), (18, [0, 5]), (19, [0, 5]), (20, [0, 5, 93]), (21, [0, 5]), (22, [0, 5, 107]), (23, [2, 3, 4]), (2006005, []), (2008005, []), (2014015, []), (3000022, []), (5000009, [14])]
noncomputable def lex_Tokens_J0_0 (p0 : (List UInt8)) (w0 : Int × (List api_Token)) (o4 : Int) : St := ⟨[(0, .p (sV p0)), (5, .ptr 0 0), (6, .p (iV o4))], ⟨[[.p (sV p0), .p (iV w0.1), .own 0 42 5 (w0.2.map c_api_Token)]], [(w0.2.map c_api_Token).length]⟩⟩
noncomputable def lex_Tokens_J1_0 (p0 : (List UInt8)) (o5 : Int × (List api_Token)) : St := ⟨[(0, .p (sV p0)), (5, .ptr 0 0)], ⟨[[.p (sV p0), .p (iV o5.1), .own 0 42 5 (o5.2.map c_api_Token)]], [(o5.2.map c_api_Token).length]⟩⟩
noncomputable def lex_Tokens_J2_0 (p0 : (List UInt8)) (x8 : Int × (List api_Token)) (x9 : Int) (y11 : Int) : St := ⟨[(0, .p (sV p0)), (5, .ptr 0 0)], ⟨[[.p (sV p0), .p (iV y11), .own 0 42 5 (x8.2.map c_api_Token)]], [(x8.2.map c_api_Token).length]⟩⟩
noncomputable def lex_Tokens_J2_1 (p0 : (List UInt8)) (x8 : Int × (List api_Token)) (x9 : Int) (y12 : Unit) : St := ⟨[(2, .p (.sl true [])), (3, .p (iV (p0.length : Int))), (4, .p (iV 7))], ⟨[[.p (sV p0), .p (iV x9), .own 0 42 5 (x8.2.map c_api_Token)]], [(x8.2.map c_api_Token).length]⟩⟩
noncomputable def lex_Tokens_J3_0 (p0 : (List UInt8)) (o19 : Bool × Int × (List api_Token)) : St := ⟨[(0, .p (sV p0)), (5, .ptr 0 0), (107, .p (bV o19.1))], ⟨[[.p (sV p0), .p (iV o19.2.1), .own 0 42 5 (o19.2.2.map c_api_Token)]], [(o19.2.2.map c_api_Token).length]⟩⟩
noncomputable def lex_Tokens_S1_0_st (p0 : (List UInt8)) (w0 : Int × (List api_Token)) : St := ⟨[(0, .p (sV p0)), (5, .ptr 0 0)], ⟨[[.p (sV p0), .p (iV w0.1), .own 0 42 5 (w0.2.map c_api_Token)]], [(w0.2.map c_api_Token).length]⟩⟩
noncomputable def lex_Tokens_S1_1_st (p0 : (List UInt8)) (w1 : Int × (List api_Token)) : St := ⟨[(0, .p (sV p0)), (5, .ptr 0 0)], ⟨[[.p (sV p0), .p (iV w1.1), .own 0 42 5 (w1.2.map c_api_Token)]], [(w1.2.map c_api_Token).length]⟩⟩
noncomputable def lex_Tokens_S1_x0 (p0 : (List UInt8)) (o1 : (List api_Token) × Int × Int) : St := ⟨[(2, .p (.sl false (o1.1.map c_api_Token))), (3, .p (iV o1.2.1)), (4, .p (iV o1.2.2))], ⟨[], []⟩⟩
noncomputable def lex_Tokens_S1_c : Code := ((scopesOf (Tryd.f26.body.getD .skip)).getD 0 .skip)
noncomputable def t_lex_Word (y : Bool) : D := .p (bV y)
noncomputable def lex_Word_lv : List (Nat × List Nat) := [(0, [0]), (1, [0, 5, 6]), (2, [0, 5, 6, 7]), (3, [0, 3, 5, 6]), (4, [0, 5, 6, 13]), (5, [2]), (6, [0, 5, 6]), (7, [2]), (1000002, [0, 5, 6]), (3000007, [])]
noncomputable def lex_Word_L1_st (p0 : (List UInt8)) (v6 : Int) : St := ⟨[(0, .p (sV p0)), (5, .p (iV (p0.length : Int))), (6, .p (iV v6))], ⟨[], []⟩⟩
noncomputable def lex_Word_L1_x0 (p0 : (List UInt8)) (y2 : Unit) : St := ⟨[(0, .p (sV p0))], ⟨[], []⟩⟩
noncomputable def lex_Word_L1_x1 (p0 : (List UInt8)) (y3 : Unit) : St := ⟨[(2, .p (bV false))], ⟨[], []⟩⟩
noncomputable def lex_Word_L1_c : Code := ((loopsOf (Tryd.f34.body.getD .skip)).getD 0 .skip)
noncomputable def lex_Word_J0_0  (o6 : Bool) : St := ⟨[(2, .p (bV o6))], ⟨[], []⟩⟩
noncomputable def t_lex_digit (y : Bool) : D := .p (bV y)
noncomputable def lex_digit_lv : List (Nat × List Nat) := [(0, [0]), (1, [2]), (3000001, [])]
noncomputable def lex_digit_J0_0  (o1 : Bool) : St := ⟨[(2, .p (bV o1))], ⟨[], []⟩⟩
noncomputable def t_lex_escaped (y : Int × Bool) : D := .tup [.p (nV .u8 y.1), .p (bV y.2)]
noncomputable def lex_escaped_lv : List (Nat × List Nat) := [(0, [0]), (1, [0, 4]), (2, [0, 4, 5]), (3, [2, 3]), (4, [0, 7]), (5, [2, 3]), (6, [2, 3]), (3000006, [])]
noncomputable def lex_escaped_J0_0 (p0 : Int) (o1 : Bool) : St := ⟨[(2, .p (nV .u8 p0)), (3, .p (bV o1))], ⟨[], []⟩⟩
noncomputable def t_lex_letter (y : Bool) : D := .p (bV y)
noncomputable def lex_letter_lv : List (Nat × List Nat) := [(0, [0]), (1, [2]), (3000001, [])]
noncomputable def lex_letter_J0_0  (o1 : Bool) : St := ⟨[(2, .p (bV o1))], ⟨[], []⟩⟩
noncomputable def t_lex_machine_blanks_2 (_ : Int) : D := .tup []
noncomputable def lex_machine_blanks_2_lv : List (Nat × List Nat) := [(0, [])]
noncomputable def t_lex_machine_number (y : Bool × Int × (List api_Token)) : D := .p (bV y.1)
noncomputable def lex_machine_number_lv : List (Nat × List Nat) := [(0, [0]), (1, [0, 3]), (2, [0, 3, 4, 5]), (3, [0, 3, 4, 5, 18]), (4, [5]), (5, [2])]
noncomputable def t_lex_machine_put_2 (_ : Int × (List api_Token)) : D := .tup []
noncomputable def lex_machine_put_2_lv : List (Nat × List Nat) := [(0, [0, 4]), (1, [])]
noncomputable def t_lex_machine_run_lex_digit (y : (List UInt8)) : D := .p (sV y)
noncomputable def lex_machine_run_lex_digit_lv : List (Nat × List Nat) := [(0, [0, 1, 2]), (1, [0, 2, 7]), (2, [0, 2, 7, 25]), (3, [0, 2, 7]), (4, [6]), (1000002, [0, 2, 7]), (3000002, [])]
noncomputable def lex_machine_run_lex_digit_J0_0 (h0_0 : (List UInt8)) (h0_1 : Int) (h0_2 : (List api_Token)) (v7 : Int) (o2 : Bool) : St := ⟨[(0, .ptr 0 0), (2, .fn (.func 78) [] []), (7, .p (iV v7)), (25, .p (bV o2))], ⟨[[.p (sV h0_0), .p (iV h0_1), .own 0 42 5 (h0_2.map c_api_Token)]], [(h0_2.map c_api_Token).length]⟩⟩
noncomputable def lex_machine_run_lex_digit_L1_st (h0_0 : (List UInt8)) (h0_1 : Int) (h0_2 : (List api_Token)) (v7 : Int) : St := ⟨[(0, .ptr 0 0), (2, .fn (.func 78) [] []), (7, .p (iV v7))], ⟨[[.p (sV h0_0), .p (iV h0_1), .own 0 42 5 (h0_2.map c_api_Token)]], [(h0_2.map c_api_Token).length]⟩⟩
noncomputable def lex_machine_run_lex_digit_L1_x0 (h0_0 : (List UInt8)) (h0_1 : Int) (h0_2 : (List api_Token)) (o1 : Int) : St := ⟨[(0, .ptr 0 0), (7, .p (iV o1))], ⟨[[.p (sV h0_0), .p (iV h0_1), .own 0 42 5 (h0_2.map c_api_Token)]], [(h0_2.map c_api_Token).length]⟩⟩
noncomputable def lex_machine_run_lex_digit_L1_c : Code := ((loopsOf (Tryd.f101.body.getD .skip)).getD 0 .skip)
noncomputable def t_lex_machine_run_lex_letter (y : (List UInt8)) : D := .p (sV y)
noncomputable def lex_machine_run_lex_letter_lv : List (Nat × List Nat) := [(0, [0, 1, 2]), (1, [0, 2, 7]), (2, [0, 2, 7, 25]), (3, [0, 2, 7]), (4, [6]), (1000002, [0, 2, 7]), (3000002, [])]
noncomputable def lex_machine_run_lex_letter_J0_0 (h0_0 : (List UInt8)) (h0_1 : Int) (h0_2 : (List api_Token)) (v7 : Int) (o2 : Bool) : St := ⟨[(0, .ptr 0 0), (2, .fn (.func 62) [] []), (7, .p (iV v7)), (25, .p (bV o2))], ⟨[[.p (sV h0_0), .p (iV h0_1), .own 0 42 5 (h0_2.map c_api_Token)]], [(h0_2.map c_api_Token).length]⟩⟩
noncomputable def lex_machine_run_lex_letter_L1_st (h0_0 : (List UInt8)) (h0_1 : Int) (h0_2 : (List api_Token)) (v7 : Int) : St := ⟨[(0, .ptr 0 0), (2, .fn (.func 62) [] []), (7, .p (iV v7))], ⟨[[.p (sV h0_0), .p (iV h0_1), .own 0 42 5 (h0_2.map c_api_Token)]], [(h0_2.map c_api_Token).length]⟩⟩
noncomputable def lex_machine_run_lex_letter_L1_x0 (h0_0 : (List UInt8)) (h0_1 : Int) (h0_2 : (List api_Token)) (o1 : Int) : St := ⟨[(0, .ptr 0 0), (7, .p (iV o1))], ⟨[[.p (sV h0_0), .p (iV h0_1), .own 0 42 5 (h0_2.map c_api_Token)]], [(h0_2.map c_api_Token).length]⟩⟩
noncomputable def lex_machine_run_lex_letter_L1_c : Code := ((loopsOf (Tryd.f101.body.getD .skip)).getD 0 .skip)
noncomputable def t_lex_machine_sign (y : Bool × Int × (List api_Token)) : D := .p (bV y.1)
noncomputable def lex_machine_sign_lv : List (Nat × List Nat) := [(0, [0]), (1, [0, 3]), (2, [0, 12, 13]), (3, [0, 12, 13, 14]), (4, [0, 5, 12, 13]), (5, [0, 5, 12, 13, 27]), (6, []), (7, [2]), (8, [0, 12, 13]), (9, [2]), (1000003, [0, 12, 13])]
noncomputable def lex_machine_sign_L1_st (h0_0 : (List UInt8)) (h0_1 : Int) (h0_2 : (List api_Token)) (v13 : Int) : St := ⟨[(0, .ptr 0 0), (12, .p (.agg [nV .u8 46, iV 7, nV .u8 40, iV 8, nV .u8 41, iV 9, nV .u8 44, iV 10, nV .u8 61, iV 11])), (13, .p (iV v13))], ⟨[[.p (sV h0_0), .p (iV h0_1), .own 0 42 5 (h0_2.map c_api_Token)], [.p (nV .u8 46), .p (iV 7), .p (nV .u8 40), .p (iV 8), .p (nV .u8 41), .p (iV 9), .p (nV .u8 44), .p (iV 10), .p (nV .u8 61), .p (iV 11)]], [(h0_2.map c_api_Token).length]⟩⟩
noncomputable def lex_machine_sign_L1_x0 (h0_0 : (List UInt8)) (h0_1 : Int) (h0_2 : (List api_Token)) (y2 : Unit) : St := ⟨[], ⟨[[.p (sV h0_0), .p (iV h0_1), .own 0 42 5 (h0_2.map c_api_Token)], [.p (nV .u8 46), .p (iV 7), .p (nV .u8 40), .p (iV 8), .p (nV .u8 41), .p (iV 9), .p (nV .u8 44), .p (iV 10), .p (nV .u8 61), .p (iV 11)]], [(h0_2.map c_api_Token).length]⟩⟩
noncomputable def lex_machine_sign_L1_x1 (h0_0 : (List UInt8)) (h0_1 : Int) (h0_2 : (List api_Token)) (y3 : Int × (List api_Token)) : St := ⟨[(2, .p (bV true))], ⟨[[.p (sV h0_0), .p (iV y3.1), .own 0 42 5 (y3.2.map c_api_Token)], [.p (nV .u8 46), .p (iV 7), .p (nV .u8 40), .p (iV 8), .p (nV .u8 41), .p (iV 9), .p (nV .u8 44), .p (iV 10), .p (nV .u8 61), .p (iV 11)]], [(y3.2.map c_api_Token).length]⟩⟩
noncomputable def lex_machine_sign_L1_c : Code := ((loopsOf (Tryd.f81.body.getD .skip)).getD 0 .skip)
noncomputable def t_lex_machine_text (y : Bool × Int × (List api_Token)) : D := .p (bV y.1)
noncomputable def lex_machine_text_lv : List (Nat × List Nat) := [(0, [0]), (1, [0, 3]), (2, [0, 3, 4]), (3, [0, 3, 4, 29]), (4, [0, 3, 4, 5, 6]), (5, [0, 3, 4, 5, 6, 39]), (6, [0, 3, 4, 49]), (7, [2]), (8, [0, 3, 4, 7, 8]), (9, [0, 3, 4, 7, 62]), (10, [2]), (11, [0, 3, 4]), (12, [0, 3, 4]), (13, [0, 3, 4, 6, 67]), (14, [2]), (15, [0, 3, 4, 6]), (16, [0, 3, 4]), (17, [0, 3, 4, 101]), (18, [2]), (19, []), (20, [2]), (1000003, [0, 3, 4]), (3000003, []), (3000013, []), (5000019, [1, 9, 1001]), (8000019, [1])]
noncomputable def lex_machine_text_J0_0 (h0_0 : (List UInt8)) (h0_1 : Int) (h0_2 : (List api_Token)) (v4 : Int) (h1_0 : Bool) (h1_1 : (List Int)) (o4 : Bool) : St := ⟨[(0, .ptr 0 0), (3, .ptr 1 0), (4, .p (iV v4)), (29, .p (bV o4))], ⟨[[.p (sV h0_0), .p (iV h0_1), .own 0 42 5 (h0_2.map c_api_Token)], [.sp Tryd.prog 80 h1_0 1 0, .own 1 5 1 (h1_1.map (cNum .u8))]], [(h0_2.map c_api_Token).length, (h1_1.map (cNum .u8)).length]⟩⟩
noncomputable def lex_machine_text_J1_0 (h0_0 : (List UInt8)) (h0_1 : Int) (h0_2 : (List api_Token)) (v4 : Int) (h1_0 : Bool) (h1_1 : (List Int)) (x6 : Int × Int) (o10 : Bool) : St := ⟨[(0, .ptr 0 0), (3, .ptr 1 0), (4, .p (iV v4)), (6, .p (iV x6.2)), (67, .p (bV o10))], ⟨[[.p (sV h0_0), .p (iV h0_1), .own 0 42 5 (h0_2.map c_api_Token)], [.sp Tryd.prog 80 h1_0 1 0, .own 1 5 1 (h1_1.map (cNum .u8))]], [(h0_2.map c_api_Token).length, (h1_1.map (cNum .u8)).length]⟩⟩
noncomputable def lex_machine_text_L1_st (h0_0 : (List UInt8)) (h0_1 : Int) (h0_2 : (List api_Token)) (v4 : Int) (h1_0 : Bool) (h1_1 : (List Int)) : St := ⟨[(0, .ptr 0 0), (3, .ptr 1 0), (4, .p (iV v4))], ⟨[[.p (sV h0_0), .p (iV h0_1), .own 0 42 5 (h0_2.map c_api_Token)], [.sp Tryd.prog 80 h1_0 1 0, .own 1 5 1 (h1_1.map (cNum .u8))]], [(h0_2.map c_api_Token).length, (h1_1.map (cNum .u8)).length]⟩⟩
noncomputable def lex_machine_text_L1_x0 (h0_0 : (List UInt8)) (h0_1 : Int) (h0_2 : (List api_Token)) (y2 : Int × Bool × (List Int)) : St := ⟨[(0, .ptr 0 0), (3, .ptr 1 0), (4, .p (iV y2.1))], ⟨[[.p (sV h0_0), .p (iV h0_1), .own 0 42 5 (h0_2.map c_api_Token)], [.sp Tryd.prog 80 y2.2.1 1 0, .own 1 5 1 (y2.2.2.map (cNum .u8))]], [(h0_2.map c_api_Token).length, (y2.2.2.map (cNum .u8)).length]⟩⟩
noncomputable def lex_machine_text_L1_x1 (h0_0 : (List UInt8)) (h0_1 : Int) (h0_2 : (List api_Token)) (y3 : Bool × (List Int)) : St := ⟨[(2, .p (bV false))], ⟨[[.p (sV h0_0), .p (iV h0_1), .own 0 42 5 (h0_2.map c_api_Token)], [.sp Tryd.prog 80 y3.1 1 0, .own 1 5 1 (y3.2.map (cNum .u8))]], [(h0_2.map c_api_Token).length, (y3.2.map (cNum .u8)).length]⟩⟩
noncomputable def lex_machine_text_L1_c : Code := ((loopsOf (Tryd.f77.body.getD .skip)).getD 0 .skip)
noncomputable def t_lex_machine_token_2 (y : Bool × Int × (List api_Token)) : D := .p (bV y.1)
noncomputable def lex_machine_token_2_lv : List (Nat × List Nat) := [(0, [0]), (1, [0, 3]), (2, [0, 3, 13]), (3, [2]), (4, [0, 3, 18]), (5, [2]), (6, [0, 27]), (7, [2]), (8, [2]), (3000004, [])]
noncomputable def lex_machine_token_2_J0_0 (h0_0 : (List UInt8)) (h0_1 : Int) (h0_2 : (List api_Token)) (x1 : UInt8) (o3 : Bool) : St := ⟨[(0, .ptr 0 0), (3, .p (nV .u8 (x1.toNat : Int))), (18, .p (bV o3))], ⟨[[.p (sV h0_0), .p (iV h0_1), .own 0 42 5 (h0_2.map c_api_Token)]], [(h0_2.map c_api_Token).length]⟩⟩
noncomputable def t_lex_machine_word (y : Bool × Int × (List api_Token)) : D := .p (bV y.1)
noncomputable def lex_machine_word_lv : List (Nat × List Nat) := [(0, [0]), (1, [0, 3]), (2, [0, 3, 12]), (3, [2]), (4, []), (5, [2])]
noncomputable def t_nunciolaw18_LexQuotes (y : Bool) : D := .p (bV y)
noncomputable def nunciolaw18_LexQuotes_lv : List (Nat × List Nat) := [(0, [0]), (1, [0]), (2, [0, 3, 4]), (3, [0, 3, 4, 5, 6]), (4, [0, 3, 4, 36]), (5, [2]), (6, [0, 3, 4, 7, 9]), (7, [0, 3, 7, 9, 46]), (8, [2]), (9, [2]), (3000004, []), (3000008, []), (3000009, [])]
noncomputable def nunciolaw18_LexQuotes_J0_0 (x1 : (List UInt8)) (x2 : (List UInt8) × Bool) (o4 : Bool) : St := ⟨[(0, .p (sV x1)), (3, .p (sV x2.1)), (4, .p (bV x2.2)), (36, .p (bV o4))], ⟨[], []⟩⟩
noncomputable def nunciolaw18_LexQuotes_J1_0  (o8 : Bool) : St := ⟨[(2, .p (bV o8))], ⟨[], []⟩⟩
noncomputable def nunciolaw18_LexQuotes_J2_0  (o10 : Bool) : St := ⟨[(2, .p (bV o10))], ⟨[], []⟩⟩
noncomputable def t_nunciolaw18_awake (y : Bool) : D := .p (bV y)
noncomputable def nunciolaw18_awake_lv : List (Nat × List Nat) := [(0, []), (1, [1, 2, 3]), (2, [1, 2, 3, 5, 6]), (3, [1, 2, 3, 5, 6, 7, 9]), (4, [0]), (3000004, [])]
noncomputable def nunciolaw18_awake_J0_0  (o4 : Bool) : St := ⟨[(0, .p (bV o4))], ⟨[], []⟩⟩
noncomputable def t_nunciolaw18_few (y : (List UInt8)) : D := .p (sV y)
noncomputable def nunciolaw18_few_lv : List (Nat × List Nat) := [(0, [0]), (1, [2])]
noncomputable def t_octet_Begins (y : Bool) : D := .p (bV y)
noncomputable def octet_Begins_lv : List (Nat × List Nat) := [(0, [0, 1, 2]), (1, [6]), (3000001, [])]
noncomputable def octet_Begins_J0_0  (o1 : Bool) : St := ⟨[(6, .p (bV o1))], ⟨[], []⟩⟩
noncomputable def t_octet_Number (y : Int × Bool) : D := .tup [.p (iV y.1), .p (bV y.2)]
noncomputable def t_strings_Builder_String_2 (y : (List UInt8)) : D := .p (sV y)
noncomputable def t_strings_Builder_WriteByte_2 (y : Unit × Bool × (List Int)) : D := .p (.v .nilIface)
noncomputable def strings_Builder_WriteByte_2_lv : List (Nat × List Nat) := [(0, [0, 1]), (1, [0, 1]), (2, []), (3, [4])]
noncomputable def t_strings_Builder_WriteString_2 (y : Int × Unit × Bool × (List Int)) : D := .tup [.p (iV y.1), .p (.v .nilIface)]
noncomputable def strings_Builder_WriteString_2_lv : List (Nat × List Nat) := [(0, [0, 1]), (1, [0, 1]), (2, [1]), (3, [4, 5])]
noncomputable def t_strings_Builder_copyCheck_2 (_ : Bool) : D := .tup []
noncomputable def t_strings_HasPrefix (y : Bool) : D := .p (bV y)
noncomputable def strings_HasPrefix_lv : List (Nat × List Nat) := [(0, [0, 1]), (1, [4])]
noncomputable def t_strings_Index (y : Int) : D := .p (iV y)
noncomputable def strings_Index_lv : List (Nat × List Nat) := [(0, [0, 1]), (1, [4])]
noncomputable def t_strings_IndexByte (y : Int) : D := .p (iV y)
noncomputable def strings_IndexByte_lv : List (Nat × List Nat) := [(0, [0, 1]), (1, [4])]
noncomputable def t_strings_TrimLeft (y : (List UInt8)) : D := .p (sV y)
noncomputable def t_utf_Is (y : Bool) : D := .p (bV y)
noncomputable def utf_Is_lv : List (Nat × List Nat) := [(0, [0, 2, 3, 4]), (1, [2, 3, 4, 6]), (2, [2, 3, 6, 8]), (3, [2, 3, 4, 6]), (4, [2, 3, 4, 6, 14]), (5, [2]), (6, [2]), (4000002, [2, 3, 4, 6]), (3000004, [])]
noncomputable def utf_Is_J0_0 (x1 : (List UInt8)) (x2 : (Int × Int)) (o9 : Bool) : St := ⟨[(2, .ptr 0 0), (3, .p (nV .i32 x2.1)), (4, .p (iV x2.2)), (6, .fn (.func 86) [] [.p (.ep [sV x1])]), (14, .p (bV o9))], ⟨[[.p (bV false)]], []⟩⟩
noncomputable def utf_Is_L1_st (x1 : (List UInt8)) : St := ⟨[(2, .ptr 0 0), (6, .fn (.func 86) [] [.p (.ep [sV x1])])], ⟨[[.p (bV false)]], []⟩⟩
noncomputable def utf_Is_L1_x0 (x1 : (List UInt8)) (y7 : Unit) : St := ⟨[(2, .ptr 0 0), (6, .fn (.func 86) [] [.p (.ep [sV x1])])], ⟨[[.p (bV false)]], []⟩⟩
noncomputable def utf_Is_L1_x1 (x1 : (List UInt8)) (y8 : Unit) : St := ⟨[(2, .ptr 0 0)], ⟨[[.p (bV false)]], []⟩⟩
noncomputable def utf_Is_L1_c : Code := ((loopsOf (Tryd.f60.body.getD .skip)).getD 0 .skip)
noncomputable def t_utf_Next (y : Int × Int) : D := .tup [.p (nV .i32 y.1), .p (iV y.2)]
noncomputable def utf_Next_lv : List (Nat × List Nat) := [(0, [0, 1]), (1, [0, 1, 17]), (2, [4, 5]), (3, [0, 1, 6]), (4, [4, 5]), (5, [0, 1, 6, 21]), (6, [4, 5]), (7, [0, 1, 6, 26]), (8, [0, 1, 4, 7, 8]), (9, [0, 1, 6, 36]), (10, [0, 1, 4, 7, 8]), (11, [0, 1, 6, 46]), (12, [0, 1, 4, 7, 8]), (13, [4, 7, 8, 9]), (14, [4, 8, 77]), (15, [4, 5]), (16, [4, 5]), (2004022, []), (3000001, []), (3000007, []), (3000009, []), (3000011, []), (3000014, [])]
noncomputable def utf_Next_J0_0 (p0 : (List UInt8)) (p1 : Int) (o1 : Bool) : St := ⟨[(0, .p (sV p0)), (1, .p (iV p1)), (17, .p (bV o1))], ⟨[], []⟩⟩
noncomputable def utf_Next_J1_0 (p0 : (List UInt8)) (p1 : Int) (y4 : Int × Int × Int) : St := ⟨[(0, .p (sV p0)), (1, .p (iV p1)), (4, .p (nV .i32 y4.1)), (7, .p (nV .i32 y4.2.1)), (8, .p (iV y4.2.2))], ⟨[], []⟩⟩
noncomputable def utf_Next_J1_1 (p0 : (List UInt8)) (p1 : Int) (y5 : Int) : St := ⟨[(4, .p (nV .i32 y5)), (5, .p (iV 1))], ⟨[], []⟩⟩
noncomputable def utf_Next_J2_0 (p0 : (List UInt8)) (p1 : Int) (x2 : UInt8) (o6 : Bool) : St := ⟨[(0, .p (sV p0)), (1, .p (iV p1)), (6, .p (nV .u8 (x2.toNat : Int))), (26, .p (bV o6))], ⟨[], []⟩⟩
noncomputable def utf_Next_J3_0 (p0 : (List UInt8)) (p1 : Int) (x2 : UInt8) (o7 : Bool) : St := ⟨[(0, .p (sV p0)), (1, .p (iV p1)), (6, .p (nV .u8 (x2.toNat : Int))), (36, .p (bV o7))], ⟨[], []⟩⟩
noncomputable def utf_Next_J4_0 (p0 : (List UInt8)) (p1 : Int) (x2 : UInt8) (o8 : Bool) : St := ⟨[(0, .p (sV p0)), (1, .p (iV p1)), (6, .p (nV .u8 (x2.toNat : Int))), (46, .p (bV o8))], ⟨[], []⟩⟩
noncomputable def utf_Next_J5_0 (y4 : Int × Int × Int) (x10 : Int × Bool) (o11 : Bool) : St := ⟨[(4, .p (nV .i32 x10.1)), (8, .p (iV y4.2.2)), (77, .p (bV o11))], ⟨[], []⟩⟩
noncomputable def t_utf_all (y : (List UInt8)) : D := .fn (.func 86) [] [.p (.ep [sV y])]
noncomputable def utf_all_lv : List (Nat × List Nat) := [(0, [1]), (1, [2])]
noncomputable def e_utf_all_1 (y : (Int × Int)) : List V := [nV .i32 y.1, iV y.2]
noncomputable def utf_all_1_lv : List (Nat × List Nat) := [(0, [0, 1, 3]), (1, [0, 1, 3, 9]), (2, [0, 1, 3, 4, 5]), (3, [0, 1, 3, 5, 20]), (4, [0, 1, 3]), (1000001, [0, 1, 3])]
noncomputable def utf_all_1_L1_st (p0 : (List UInt8)) (v3 : Int) (gxs gp : List (List V)) : St := ⟨[(0, .yld Tryd.prog 0 gxs), (1, .p (.ep [sV p0])), (3, .p (iV v3))], ⟨[], [gp.length]⟩⟩
noncomputable def utf_all_1_L1_x0 (p0 : (List UInt8)) (gxs : List (List V)) (gq1 : List (List V)) (oy : Unit) : St := ⟨[], ⟨[], [gq1.length]⟩⟩
noncomputable def utf_all_1_L1_c : Code := ((loopsOf (Tryd.f86.body.getD .skip)).getD 0 .skip)
noncomputable def t_utf_is (y : Bool) : D := .p (bV y)
noncomputable def utf_is_lv : List (Nat × List Nat) := [(0, [0]), (1, [2]), (3000001, [])]
noncomputable def utf_is_J0_0  (o1 : Bool) : St := ⟨[(2, .p (bV o1))], ⟨[], []⟩⟩
noncomputable def t_utf_tail (y : Int × Bool) : D := .tup [.p (nV .i32 y.1), .p (bV y.2)]
noncomputable def utf_tail_lv : List (Nat × List Nat) := [(0, [0, 1, 2]), (1, [0, 1, 2, 12]), (2, [6, 7]), (3, [0, 1, 13, 14]), (4, [0, 1, 13, 14, 15]), (5, [0, 1, 8, 13, 14]), (6, [0, 1, 8, 13, 14, 21]), (7, [6, 7]), (8, [0, 1, 13, 14]), (9, [0, 1, 13, 14]), (10, [6, 7]), (1000004, [0, 1, 13, 14])]
noncomputable def utf_tail_L1_st (p0 : (List UInt8)) (p2 : Int) (v1 : Int) (v14 : Int) : St := ⟨[(0, .p (sV p0)), (1, .p (nV .i32 v1)), (13, .p (iV p2)), (14, .p (iV v14))], ⟨[], []⟩⟩
noncomputable def utf_tail_L1_x0 (p0 : (List UInt8)) (p2 : Int) (y2 : Int) : St := ⟨[(1, .p (nV .i32 y2))], ⟨[], []⟩⟩
noncomputable def utf_tail_L1_x1 (p0 : (List UInt8)) (p2 : Int) (y3 : Unit) : St := ⟨[(6, .p (nV .i32 0)), (7, .p (bV false))], ⟨[], []⟩⟩
noncomputable def utf_tail_L1_c : Code := ((loopsOf (Tryd.f72.body.getD .skip)).getD 0 .skip)
noncomputable def R02_Rune (p0 : Int) : Option (Bool) :=
  ( if (decide (p0 ≥ 0)) then
      if (decide (p0 ≤ 1114111)) then
        if (decide (p0 ≥ 55296)) then
          some (!(decide (p0 ≤ 57343)))
        else
          some true
      else
        some false
    else
      some false : Option (Bool)) >>= fun o1 =>
  some o1
set_option maxRecDepth 100000 in
set_option maxHeartbeats 4000000 in
theorem R02_Rune_ok : ∀ (p0 : Int) (o : Bool), R02_Rune p0 = some o → PCall Tryd.prog 67 [iV p0] (t_R02_Rune o) := by
  intro p0 o h
  unfold R02_Rune at h
  refine PCall.ofB mixed tbOk R02_Rune_lv Tryd.func67 rfl (by kernel_rfl) (Nat.le_of_ble_eq_true rfl) ?_
  refine st_bind h (fun o1 ho hk => ?_)
  refine Exists.intro (JP1 _ _ o1 .normal (R02_Rune_J0_0 )) (And.intro ?_ (join1 ?_))
  · have h := ho
    refine st_test h (fun hb h => ?_) (fun hb h => ?_)
    · refine st_test h (fun hb h => ?_) (fun hb h => ?_)
      · refine st_test h (fun hb h => ?_) (fun hb h => ?_)
        · refine JP1.a h ?_
          exact Le.tow 0 0 rfl (.cons rfl (.refl _) (.nil)) (.refl _) rfl
        · refine JP1.a h ?_
          exact Le.tow 0 0 rfl (.cons rfl (.refl _) (.nil)) (.refl _) rfl
      · refine JP1.a h ?_
        exact Le.tow 0 0 rfl (.cons rfl (.refl _) (.nil)) (.refl _) rfl
    · refine bF ?_
      refine JP1.a h ?_
      exact Le.tow 0 0 rfl (.cons rfl (.refl _) (.nil)) (.refl _) rfl
  · have h := hk
    refine st_ret (t := t_R02_Rune) h ?_
    exact .refl _
noncomputable def R02_Bytes (p0 : Int) : Option ((List UInt8)) :=
  ( R02_Rune p0 >>= fun x2 =>
    if (!x2) then
      some 65533
    else
      some p0 : Option (Int)) >>= fun o1 =>
  if (decide (o1 < 128)) then
    b2s [(IntKind.u8.wrap o1)] >>= fun x3 =>
    some x3
  else
    if (decide (o1 < 2048)) then
      b2s [(IntKind.u8.wrap (wr (192 + (wr (o1.tdiv 64))))), (IntKind.u8.wrap (wr (128 + (o1.tmod 64))))] >>= fun x4 =>
      some x4
    else
      if (decide (o1 < 65536)) then
        b2s [(IntKind.u8.wrap (wr (224 + (wr (o1.tdiv 4096))))), (IntKind.u8.wrap (wr (128 + ((wr (o1.tdiv 64)).tmod 64)))), (IntKind.u8.wrap (wr (128 + (o1.tmod 64))))] >>= fun x5 =>
        some x5
      else
        b2s [(IntKind.u8.wrap (wr (240 + (wr (o1.tdiv 262144))))), (IntKind.u8.wrap (wr (128 + ((wr (o1.tdiv 4096)).tmod 64)))), (IntKind.u8.wrap (wr (128 + ((wr (o1.tdiv 64)).tmod 64)))), (IntKind.u8.wrap (wr (128 + (o1.tmod 64))))] >>= fun x6 =>
        some x6
set_option maxRecDepth 100000 in
set_option maxHeartbeats 4000000 in
theorem R02_Bytes_ok : ∀ (p0 : Int) (o : (List UInt8)), R02_Bytes p0 = some o → PCall Tryd.prog 66 [iV p0] (t_R02_Bytes o) := by
  intro p0 o h
  unfold R02_Bytes at h
  refine PCall.ofB mixed tbOk R02_Bytes_lv Tryd.func66 rfl (by kernel_rfl) (Nat.le_of_ble_eq_true rfl) ?_
  refine st_bind h (fun o1 ho hk => ?_)
  refine Exists.intro (JP1 _ _ o1 .normal (R02_Bytes_J0_0 )) (And.intro ?_ (join1 ?_))
  · have h := ho
    refine st_call [iV p0] t_R02_Rune h (fun x2 hy => (R02_Rune_ok p0 x2 hy)) (fun x2 hy h => ?_)
    refine st_test h (fun hb h => ?_) (fun hb h => ?_)
    · refine JP1.a h ?_
      exact Le.tow 0 0 rfl (.cons rfl (.refl _) (.nil)) (.refl _) rfl
    · refine JP1.a h ?_
      exact Le.tow 0 0 rfl (.cons rfl (.refl _) (.nil)) (.refl _) rfl
  · have h := hk
    refine st_test h (fun hb h => ?_) (fun hb h => ?_)
    · refine vrfl ?_
      refine st_b2s (l := [(IntKind.u8.wrap o1)]) h (fun x3 hi h => ?_)
      refine st_ret (t := t_R02_Bytes) h ?_
      exact .refl _
    · refine st_test h (fun hb h => ?_) (fun hb h => ?_)
      · refine And.intro (by decide) ?_
        refine vrfl ?_
        refine And.intro (by decide) ?_
        refine vrfl ?_
        refine st_b2s (l := [(IntKind.u8.wrap (wr (192 + (wr (o1.tdiv 64))))), (IntKind.u8.wrap (wr (128 + (o1.tmod 64))))]) h (fun x4 hi h => ?_)
        refine st_ret (t := t_R02_Bytes) h ?_
        exact .refl _
      · refine st_test h (fun hb h => ?_) (fun hb h => ?_)
        · refine And.intro (by decide) ?_
          refine vrfl ?_
          refine And.intro (by decide) ?_
          refine And.intro (by decide) ?_
          refine vrfl ?_
          refine And.intro (by decide) ?_
          refine vrfl ?_
          refine st_b2s (l := [(IntKind.u8.wrap (wr (224 + (wr (o1.tdiv 4096))))), (IntKind.u8.wrap (wr (128 + ((wr (o1.tdiv 64)).tmod 64)))), (IntKind.u8.wrap (wr (128 + (o1.tmod 64))))]) h (fun x5 hi h => ?_)
          refine st_ret (t := t_R02_Bytes) h ?_
          exact .refl _
        · refine And.intro (by decide) ?_
          refine vrfl ?_
          refine And.intro (by decide) ?_
          refine And.intro (by decide) ?_
          refine vrfl ?_
          refine And.intro (by decide) ?_
          refine And.intro (by decide) ?_
          refine vrfl ?_
          refine And.intro (by decide) ?_
          refine vrfl ?_
          refine st_b2s (l := [(IntKind.u8.wrap (wr (240 + (wr (o1.tdiv 262144))))), (IntKind.u8.wrap (wr (128 + ((wr (o1.tdiv 4096)).tmod 64)))), (IntKind.u8.wrap (wr (128 + ((wr (o1.tdiv 64)).tmod 64)))), (IntKind.u8.wrap (wr (128 + (o1.tmod 64))))]) h (fun x6 hi h => ?_)
          refine st_ret (t := t_R02_Bytes) h ?_
          exact .refl _
noncomputable def R02_Next_L2 (p0 : (List UInt8)) (p1 : Int) (v6 : (List Int)) (v7 : Int) (v8 : Int) (v9 : Int) : Option (Int) :=
  if (decide (v9 < v7)) then
    idx p0 (wr (p1 + v9)) >>= fun x9 =>
    R02_Next_L2 p0 p1 v6 v7 (wr ((wr ((wr (64 * v8)) + (wr (x9.toNat : Int)))) - 128)) (wr (v9 + 1))
  else
    some v8
  partial_fixpoint
set_option maxRecDepth 100000 in
set_option maxHeartbeats 4000000 in
theorem R02_Next_L2_grp : ∀ (p0 : (List UInt8)) (p1 : Int) (v6 : (List Int)) (v7 : Int), (∀ (v8 : Int) (v9 : Int) (o8 : Int), R02_Next_L2 p0 p1 v6 v7 v8 v9 = some o8 → TL (0, 0) Tryd.prog 74 R02_Next_L2_c (JP1 (0, 0) 74 o8 (.exit 2) (R02_Next_L2_x0 p0 p1 v6 v7)) (R02_Next_L2_st p0 p1 v6 v7 v8 v9)) := by
  intro p0 p1 v6 v7
  refine R02_Next_L2.partial_correctness p0 p1 v6 v7 _ ?_
  intro R02_Next_L2' ih_R02_Next_L2 v8 v9 o8 h
  refine TL.round (bwp_sound mixed tbOk (lv := R02_Next_lv) _ _ _ ?_)
  refine st_test h (fun hb h => ?_) (fun hb h => ?_)
  · refine st_sidx h (fun x9 hi h => ?_)
    refine vrfl ?_
    refine TL.le (τ := R02_Next_L2_st p0 p1 v6 v7 (wr ((wr ((wr (64 * v8)) + (wr (x9.toNat : Int)))) - 128)) (wr (v9 + 1))) ?_ ((ih_R02_Next_L2 (wr ((wr ((wr (64 * v8)) + (wr (x9.toNat : Int)))) - 128)) (wr (v9 + 1)) _ h))
    exact Le.tow 0 0 rfl (.cons rfl (.refl _) (.cons rfl (.refl _) (.cons rfl (.refl _) (.cons rfl (.refl _) (.cons rfl (.refl _) (.cons rfl (.refl _) (.nil))))))) (.refl _) rfl
  · exact JP1.a h (Le.tow 0 0 rfl (.cons rfl (.refl _) (.cons rfl (.refl _) (.cons rfl (.refl _) (.cons rfl (.refl _) (.cons rfl (.refl _) (.nil)))))) (.refl _) rfl)
theorem R02_Next_L2_ok : ∀ (p0 : (List UInt8)) (p1 : Int) (v6 : (List Int)) (v7 : Int) (v8 : Int) (v9 : Int) (o8 : Int), R02_Next_L2 p0 p1 v6 v7 v8 v9 = some o8 → TL (0, 0) Tryd.prog 74 R02_Next_L2_c (JP1 (0, 0) 74 o8 (.exit 2) (R02_Next_L2_x0 p0 p1 v6 v7)) (R02_Next_L2_st p0 p1 v6 v7 v8 v9) := fun p0 p1 v6 v7 v8 v9 o8 h => (R02_Next_L2_grp p0 p1 v6 v7) v8 v9 o8 h
noncomputable def R02_Next_L1 (p0 : (List UInt8)) (p1 : Int) (v6 : (List Int)) (v7 : Int) : Option (Unit ⊕ (Int × Int)) :=
  ( if (decide (v7 ≤ 4)) then
      some (decide (v7 ≤ (wr ((p0.length : Int) - p1))))
    else
      some false : Option (Bool)) >>= fun o5 =>
  if o5 then
    idx p0 p1 >>= fun x6 =>
    idx v6 v7 >>= fun x7 =>
    (R02_Next_L2 p0 p1 v6 v7 (wr ((wr (x6.toNat : Int)) - x7)) 1) >>= fun o8 =>
    ( if (decide (o8 ≥ 0)) then
        R02_Rune o8 >>= fun x11 =>
        if x11 then
          R02_Bytes o8 >>= fun x12 =>
          cutL p0 p1 (wr (p1 + v7)) >>= fun x13 =>
          some (x12 == x13)
        else
          some false
      else
        some false : Option (Bool)) >>= fun o10 =>
    if o10 then
      some (.inr (o8, v7))
    else
      R02_Next_L1 p0 p1 v6 (wr (v7 + 1))
  else
    some (.inl ())
  partial_fixpoint
set_option maxRecDepth 100000 in
set_option maxHeartbeats 4000000 in
theorem R02_Next_L1_grp : ∀ (p0 : (List UInt8)) (p1 : Int) (v6 : (List Int)), (∀ (v7 : Int) (o2 : Unit ⊕ (Int × Int)), R02_Next_L1 p0 p1 v6 v7 = some o2 → TL (0, 0) Tryd.prog 74 R02_Next_L1_c (JP2 (0, 0) 74 o2 (.exit 0) (R02_Next_L1_x0 p0 p1) .ret (R02_Next_L1_x1 p0 p1)) (R02_Next_L1_st p0 p1 v6 v7)) := by
  intro p0 p1 v6
  refine R02_Next_L1.partial_correctness p0 p1 v6 _ ?_
  intro R02_Next_L1' ih_R02_Next_L1 v7 o2 h
  refine TL.round (bwp_sound mixed tbOk (lv := R02_Next_lv) _ _ _ ?_)
  refine st_bind h (fun o5 ho hk => ?_)
  refine Exists.intro (JP1 _ _ o5 .normal (R02_Next_J1_0 p0 p1 v6 v7)) (And.intro ?_ (join1 ?_))
  · have h := ho
    refine st_test h (fun hb h => ?_) (fun hb h => ?_)
    · refine vrfl ?_
      refine JP1.a h ?_
      exact Le.tow 0 0 rfl (.cons rfl (.refl _) (.cons rfl (.refl _) (.cons rfl (.refl _) (.cons rfl (.refl _) (.cons rfl (.refl _) (.nil)))))) (.refl _) rfl
    · refine JP1.a h ?_
      exact Le.tow 0 0 rfl (.cons rfl (.refl _) (.cons rfl (.refl _) (.cons rfl (.refl _) (.cons rfl (.refl _) (.cons rfl (.refl _) (.nil)))))) (.refl _) rfl
  · have h := hk
    refine st_test h (fun hb h => ?_) (fun hb h => ?_)
    · refine And.intro (by decide +kernel) (And.intro rfl ?_)
      refine st_sidx h (fun x6 hi h => ?_)
      refine vrfl ?_
      refine st_idx (l := v6) (c := cInt) (c' := cInt) h (fun _ => rfl) (fun _ => rfl) (by decide) (fun x7 hi h => ?_)
      refine st_bind h (fun o8 ho hk => ?_)
      refine Exists.intro (JP1 _ _ o8 (.exit 2) (R02_Next_L2_x0 p0 p1 v6 v7)) (And.intro (T_le (τ := R02_Next_L2_st p0 p1 v6 v7 (wr ((wr (x6.toNat : Int)) - x7)) 1) ?_ (TL.loop (R02_Next_L2_ok p0 p1 v6 v7 (wr ((wr (x6.toNat : Int)) - x7)) 1 o8 ho))) (join1 ?_))
      · exact Le.tow 0 0 rfl (.cons rfl (.refl _) (.cons rfl (.refl _) (.cons rfl (.refl _) (.cons rfl (.refl _) (.cons rfl (.refl _) (.cons rfl (.refl _) (.nil))))))) (.refl _) rfl
      have h := hk
      refine st_bind h (fun o10 ho hk => ?_)
      refine Exists.intro (JP1 _ _ o10 .normal (R02_Next_J2_0 p0 p1 v6 v7 o8)) (And.intro ?_ (join1 ?_))
      · have h := ho
        refine And.intro (by decide +kernel) (And.intro rfl ?_)
        refine st_test h (fun hb h => ?_) (fun hb h => ?_)
        · refine st_calld [iV o8] t_R02_Rune h (fun x11 hy => (R02_Rune_ok o8 x11 hy)) (fun x11 hy h => ?_)
          refine st_test h (fun hb h => ?_) (fun hb h => ?_)
          · refine st_calld [iV o8] t_R02_Bytes h (fun x12 hy => (R02_Bytes_ok o8 x12 hy)) (fun x12 hy h => ?_)
            refine st_cuts (some p1) (some (wr (p1 + v7))) h (fun x13 hi h => ?_)
            refine JP1.a h ?_
            exact Le.tow 0 0 rfl (.cons rfl (.refl _) (.cons rfl (.refl _) (.cons rfl (.refl _) (.cons rfl (.refl _) (.cons rfl (.refl _) (.cons rfl (.refl _) (.nil))))))) (.refl _) rfl
          · refine JP1.a h ?_
            exact Le.tow 0 0 rfl (.cons rfl (.refl _) (.cons rfl (.refl _) (.cons rfl (.refl _) (.cons rfl (.refl _) (.cons rfl (.refl _) (.cons rfl (.refl _) (.nil))))))) (.refl _) rfl
        · refine bF ?_
          refine JP1.a h ?_
          exact Le.tow 0 0 rfl (.cons rfl (.refl _) (.cons rfl (.refl _) (.cons rfl (.refl _) (.cons rfl (.refl _) (.cons rfl (.refl _) (.cons rfl (.refl _) (.nil))))))) (.refl _) rfl
      · have h := hk
        refine st_test h (fun hb h => ?_) (fun hb h => ?_)
        · exact JP2.b h (Le.tow 0 0 rfl (.cons rfl (.refl _) (.cons rfl (.refl _) (.nil))) (.refl _) rfl)
        · refine TL.le (τ := R02_Next_L1_st p0 p1 v6 (wr (v7 + 1))) ?_ ((ih_R02_Next_L1 (wr (v7 + 1)) _ h))
          exact Le.tow 0 0 rfl (.cons rfl (.refl _) (.cons rfl (.refl _) (.cons rfl (.refl _) (.cons rfl (.refl _) (.nil))))) (.refl _) rfl
    · exact JP2.a h (Le.tow 0 0 rfl (.nil) (.refl _) rfl)
theorem R02_Next_L1_ok : ∀ (p0 : (List UInt8)) (p1 : Int) (v6 : (List Int)) (v7 : Int) (o2 : Unit ⊕ (Int × Int)), R02_Next_L1 p0 p1 v6 v7 = some o2 → TL (0, 0) Tryd.prog 74 R02_Next_L1_c (JP2 (0, 0) 74 o2 (.exit 0) (R02_Next_L1_x0 p0 p1) .ret (R02_Next_L1_x1 p0 p1)) (R02_Next_L1_st p0 p1 v6 v7) := fun p0 p1 v6 v7 o2 h => (R02_Next_L1_grp p0 p1 v6) v7 o2 h
noncomputable def R02_Next (p0 : (List UInt8)) (p1 : Int) : Option (Int × Int) :=
  ( if (decide (p1 < 0)) then
      some true
    else
      some (decide (p1 ≥ (p0.length : Int))) : Option (Bool)) >>= fun o1 =>
  if o1 then
    some (0, 0)
  else
    (R02_Next_L1 p0 p1 [0, 0, 192, 224, 240] 1) >>= fun o2 =>
    match o2 with
    | .inl y3 =>
      some (65533, 1)
    | .inr y4 =>
      some (y4.1, y4.2)
set_option maxRecDepth 100000 in
set_option maxHeartbeats 4000000 in
theorem R02_Next_ok : ∀ (p0 : (List UInt8)) (p1 : Int) (o : Int × Int), R02_Next p0 p1 = some o → PCall Tryd.prog 40 [sV p0, iV p1] (t_R02_Next o) := by
  intro p0 p1 o h
  unfold R02_Next at h
  refine PCall.ofB mixed tbOk R02_Next_lv Tryd.func40 rfl (by kernel_rfl) (Nat.le_of_ble_eq_true rfl) ?_
  refine st_bind h (fun o1 ho hk => ?_)
  refine Exists.intro (JP1 _ _ o1 .normal (R02_Next_J0_0 p0 p1)) (And.intro ?_ (join1 ?_))
  · have h := ho
    refine st_test h (fun hb h => ?_) (fun hb h => ?_)
    · refine JP1.a h ?_
      exact Le.tow 0 0 rfl (.cons rfl (.refl _) (.cons rfl (.refl _) (.cons rfl (.refl _) (.nil)))) (.refl _) rfl
    · refine vrfl ?_
      refine JP1.a h ?_
      exact Le.tow 0 0 rfl (.cons rfl (.refl _) (.cons rfl (.refl _) (.cons rfl (.refl _) (.nil)))) (.refl _) rfl
  · have h := hk
    refine st_test h (fun hb h => ?_) (fun hb h => ?_)
    · refine st_ret (t := t_R02_Next) h ?_
      exact .refl _
    · refine st_bind h (fun o2 ho hk => ?_)
      refine Exists.intro (JP2 _ _ o2 (.exit 0) (R02_Next_L1_x0 p0 p1) .ret (R02_Next_L1_x1 p0 p1)) (And.intro (T_le (τ := R02_Next_L1_st p0 p1 [0, 0, 192, 224, 240] 1) ?_ (TL.loop (R02_Next_L1_ok p0 p1 [0, 0, 192, 224, 240] 1 o2 ho))) (join2 (fun y3 hy => ?_) (fun y4 hy => ?_)))
      · exact Le.tow 0 0 rfl (.cons rfl (.refl _) (.cons rfl (.refl _) (.cons rfl (.refl _) (.cons rfl (.refl _) (.nil))))) (.refl _) rfl
      · have h := (by rw [hy] at hk; exact hk)
        refine st_ret (t := t_R02_Next) h ?_
        exact .refl _
      · have h := (by rw [hy] at hk; exact hk)
        refine st_ret (t := t_R02_Next) h ?_
        exact .refl _
noncomputable def R02_Is_L1 (p0 : (List UInt8)) (v3 : Int) : Option (Unit ⊕ Unit) :=
  if (decide (v3 < (p0.length : Int))) then
    R02_Next p0 v3 >>= fun x4 =>
    ( if (x4.1 == 65533) then
        some (x4.2 == 1)
      else
        some false : Option (Bool)) >>= fun o5 =>
    if o5 then
      some (.inr ())
    else
      R02_Is_L1 p0 (wr (v3 + x4.2))
  else
    some (.inl ())
  partial_fixpoint
set_option maxRecDepth 100000 in
set_option maxHeartbeats 4000000 in
theorem R02_Is_L1_grp : ∀ (p0 : (List UInt8)), (∀ (v3 : Int) (o1 : Unit ⊕ Unit), R02_Is_L1 p0 v3 = some o1 → TL (0, 0) Tryd.prog 25 R02_Is_L1_c (JP2 (0, 0) 25 o1 (.exit 0) (R02_Is_L1_x0 p0) .ret (R02_Is_L1_x1 p0)) (R02_Is_L1_st p0 v3)) := by
  intro p0
  refine R02_Is_L1.partial_correctness p0 _ ?_
  intro R02_Is_L1' ih_R02_Is_L1 v3 o1 h
  refine TL.round (bwp_sound mixed tbOk (lv := R02_Is_lv) _ _ _ ?_)
  refine vrfl ?_
  refine st_test h (fun hb h => ?_) (fun hb h => ?_)
  · refine st_call [sV p0, iV v3] t_R02_Next h (fun x4 hy => (R02_Next_ok p0 v3 x4 hy)) (fun x4 hy h => ?_)
    refine st_bind h (fun o5 ho hk => ?_)
    refine Exists.intro (JP1 _ _ o5 .normal (R02_Is_J0_0 p0 v3 x4)) (And.intro ?_ (join1 ?_))
    · have h := ho
      refine st_test h (fun hb h => ?_) (fun hb h => ?_)
      · refine JP1.a h ?_
        exact Le.tow 0 0 rfl (.cons rfl (.refl _) (.cons rfl (.refl _) (.cons rfl (.refl _) (.cons rfl (.refl _) (.nil))))) (.refl _) rfl
      · refine JP1.a h ?_
        exact Le.tow 0 0 rfl (.cons rfl (.refl _) (.cons rfl (.refl _) (.cons rfl (.refl _) (.cons rfl (.refl _) (.nil))))) (.refl _) rfl
    · have h := hk
      refine st_test h (fun hb h => ?_) (fun hb h => ?_)
      · exact JP2.b h (Le.tow 0 0 rfl (.cons rfl (.refl _) (.nil)) (.refl _) rfl)
      · refine TL.le (τ := R02_Is_L1_st p0 (wr (v3 + x4.2))) ?_ ((ih_R02_Is_L1 (wr (v3 + x4.2)) _ h))
        exact Le.tow 0 0 rfl (.cons rfl (.refl _) (.cons rfl (.refl _) (.nil))) (.refl _) rfl
  · exact JP2.a h (Le.tow 0 0 rfl (.nil) (.refl _) rfl)
theorem R02_Is_L1_ok : ∀ (p0 : (List UInt8)) (v3 : Int) (o1 : Unit ⊕ Unit), R02_Is_L1 p0 v3 = some o1 → TL (0, 0) Tryd.prog 25 R02_Is_L1_c (JP2 (0, 0) 25 o1 (.exit 0) (R02_Is_L1_x0 p0) .ret (R02_Is_L1_x1 p0)) (R02_Is_L1_st p0 v3) := fun p0 v3 o1 h => (R02_Is_L1_grp p0) v3 o1 h
noncomputable def R02_Is (p0 : (List UInt8)) : Option (Bool) :=
  (R02_Is_L1 p0 0) >>= fun o1 =>
  match o1 with
  | .inl y2 =>
    some true
  | .inr y3 =>
    some false
set_option maxRecDepth 100000 in
set_option maxHeartbeats 4000000 in
theorem R02_Is_ok : ∀ (p0 : (List UInt8)) (o : Bool), R02_Is p0 = some o → PCall Tryd.prog 14 [sV p0] (t_R02_Is o) := by
  intro p0 o h
  unfold R02_Is at h
  refine PCall.ofB mixed tbOk R02_Is_lv Tryd.func14 rfl (by kernel_rfl) (Nat.le_of_ble_eq_true rfl) ?_
  refine st_bind h (fun o1 ho hk => ?_)
  refine Exists.intro (JP2 _ _ o1 (.exit 0) (R02_Is_L1_x0 p0) .ret (R02_Is_L1_x1 p0)) (And.intro (T_le (τ := R02_Is_L1_st p0 0) ?_ (TL.loop (R02_Is_L1_ok p0 0 o1 ho))) (join2 (fun y2 hy => ?_) (fun y3 hy => ?_)))
  · exact Le.tow 0 0 rfl (.cons rfl (.refl _) (.cons rfl (.refl _) (.nil))) (.refl _) rfl
  · have h := (by rw [hy] at hk; exact hk)
    refine st_ret (t := t_R02_Is) h ?_
    exact .refl _
  · have h := (by rw [hy] at hk; exact hk)
    refine st_ret (t := t_R02_Is) h ?_
    exact .refl _
noncomputable def R18_Same_L1 (p0 : (List api_Token)) (p1 : (List api_Token)) (v5 : Int) : Option (Unit ⊕ Unit) :=
  if (decide (v5 < (p0.length : Int))) then
    ( idx p0 v5 >>= fun x5 =>
      idx p1 v5 >>= fun x6 =>
      if (x5.Kind != x6.Kind) then
        some true
      else
        idx p0 v5 >>= fun x7 =>
        idx p1 v5 >>= fun x8 =>
        if (!(x7.Text == x8.Text)) then
          some true
        else
          idx p0 v5 >>= fun x9 =>
          idx p1 v5 >>= fun x10 =>
          some (x9.N != x10.N) : Option (Bool)) >>= fun o4 =>
    if o4 then
      some (.inr ())
    else
      R18_Same_L1 p0 p1 (wr (v5 + 1))
  else
    some (.inl ())
  partial_fixpoint
set_option maxRecDepth 100000 in
set_option maxHeartbeats 4000000 in
theorem R18_Same_L1_grp : ∀ (p0 : (List api_Token)) (p1 : (List api_Token)), (∀ (v5 : Int) (o1 : Unit ⊕ Unit), R18_Same_L1 p0 p1 v5 = some o1 → TL (0, 0) Tryd.prog 54 R18_Same_L1_c (JP2 (0, 0) 54 o1 (.exit 0) (R18_Same_L1_x0 p0 p1) .ret (R18_Same_L1_x1 p0 p1)) (R18_Same_L1_st p0 p1 v5)) := by
  intro p0 p1
  refine R18_Same_L1.partial_correctness p0 p1 _ ?_
  intro R18_Same_L1' ih_R18_Same_L1 v5 o1 h
  refine TL.round (bwp_sound mixed tbOk (lv := R18_Same_lv) _ _ _ ?_)
  refine view (lenMap _ _) rfl ?_
  refine st_test h (fun hb h => ?_) (fun hb h => ?_)
  · refine st_bind h (fun o4 ho hk => ?_)
    refine Exists.intro (JP1 _ _ o4 .normal (R18_Same_J0_0 p0 p1 v5)) (And.intro ?_ (join1 ?_))
    · have h := ho
      refine And.intro (by decide +kernel) (And.intro rfl ?_)
      refine st_idx (l := p0) (c := c_api_Token) (c' := c_api_Token) h (fun _ => rfl) (fun _ => rfl) (by decide) (fun x5 hi h => ?_)
      refine st_idx (l := p1) (c := c_api_Token) (c' := c_api_Token) h (fun _ => rfl) (fun _ => rfl) (by decide) (fun x6 hi h => ?_)
      refine st_test h (fun hb h => ?_) (fun hb h => ?_)
      · refine bT ?_
        refine JP1.a h ?_
        exact Le.tow 0 0 rfl (.cons rfl (.refl _) (.cons rfl (.refl _) (.cons rfl (.refl _) (.cons rfl (.refl _) (.nil))))) (.refl _) rfl
      · refine st_idx (l := p0) (c := c_api_Token) (c' := c_api_Token) h (fun _ => rfl) (fun _ => rfl) (by decide) (fun x7 hi h => ?_)
        refine st_idx (l := p1) (c := c_api_Token) (c' := c_api_Token) h (fun _ => rfl) (fun _ => rfl) (by decide) (fun x8 hi h => ?_)
        refine st_test h (fun hb h => ?_) (fun hb h => ?_)
        · refine JP1.a h ?_
          exact Le.tow 0 0 rfl (.cons rfl (.refl _) (.cons rfl (.refl _) (.cons rfl (.refl _) (.cons rfl (.refl _) (.nil))))) (.refl _) rfl
        · refine st_idx (l := p0) (c := c_api_Token) (c' := c_api_Token) h (fun _ => rfl) (fun _ => rfl) (by decide) (fun x9 hi h => ?_)
          refine st_idx (l := p1) (c := c_api_Token) (c' := c_api_Token) h (fun _ => rfl) (fun _ => rfl) (by decide) (fun x10 hi h => ?_)
          refine JP1.a h ?_
          exact Le.tow 0 0 rfl (.cons rfl (.refl _) (.cons rfl (.refl _) (.cons rfl (.refl _) (.cons rfl (.refl _) (.nil))))) (.refl _) rfl
    · have h := hk
      refine st_test h (fun hb h => ?_) (fun hb h => ?_)
      · exact JP2.b h (Le.tow 0 0 rfl (.cons rfl (.refl _) (.nil)) (.refl _) rfl)
      · refine TL.le (τ := R18_Same_L1_st p0 p1 (wr (v5 + 1))) ?_ ((ih_R18_Same_L1 (wr (v5 + 1)) _ h))
        exact Le.tow 0 0 rfl (.cons rfl (.refl _) (.cons rfl (.refl _) (.cons rfl (.refl _) (.nil)))) (.refl _) rfl
  · exact JP2.a h (Le.tow 0 0 rfl (.nil) (.refl _) rfl)
theorem R18_Same_L1_ok : ∀ (p0 : (List api_Token)) (p1 : (List api_Token)) (v5 : Int) (o1 : Unit ⊕ Unit), R18_Same_L1 p0 p1 v5 = some o1 → TL (0, 0) Tryd.prog 54 R18_Same_L1_c (JP2 (0, 0) 54 o1 (.exit 0) (R18_Same_L1_x0 p0 p1) .ret (R18_Same_L1_x1 p0 p1)) (R18_Same_L1_st p0 p1 v5) := fun p0 p1 v5 o1 h => (R18_Same_L1_grp p0 p1) v5 o1 h
noncomputable def R18_Same (p0 : (List api_Token)) (p1 : (List api_Token)) : Option (Bool) :=
  if ((p0.length : Int) != (p1.length : Int)) then
    some false
  else
    (R18_Same_L1 p0 p1 0) >>= fun o1 =>
    match o1 with
    | .inl y2 =>
      some true
    | .inr y3 =>
      some false
set_option maxRecDepth 100000 in
set_option maxHeartbeats 4000000 in
theorem R18_Same_ok : ∀ (p0 : (List api_Token)) (p1 : (List api_Token)) (o : Bool), R18_Same p0 p1 = some o → PCall Tryd.prog 31 [.sl false (p0.map c_api_Token), .sl false (p1.map c_api_Token)] (t_R18_Same o) := by
  intro p0 p1 o h
  unfold R18_Same at h
  refine PCall.ofB mixed tbOk R18_Same_lv Tryd.func31 rfl (by kernel_rfl) (Nat.le_of_ble_eq_true rfl) ?_
  refine view (lenMap _ _) rfl ?_
  refine view (lenMap _ _) rfl ?_
  refine st_test h (fun hb h => ?_) (fun hb h => ?_)
  · refine st_ret (t := t_R18_Same) h ?_
    exact .refl _
  · refine st_bind h (fun o1 ho hk => ?_)
    refine Exists.intro (JP2 _ _ o1 (.exit 0) (R18_Same_L1_x0 p0 p1) .ret (R18_Same_L1_x1 p0 p1)) (And.intro (T_le (τ := R18_Same_L1_st p0 p1 0) ?_ (TL.loop (R18_Same_L1_ok p0 p1 0 o1 ho))) (join2 (fun y2 hy => ?_) (fun y3 hy => ?_)))
    · exact Le.tow 0 0 rfl (.cons rfl (.refl _) (.cons rfl (.refl _) (.cons rfl (.refl _) (.nil)))) (.refl _) rfl
    · have h := (by rw [hy] at hk; exact hk)
      refine st_ret (t := t_R18_Same) h ?_
      exact .refl _
    · have h := (by rw [hy] at hk; exact hk)
      refine st_ret (t := t_R18_Same) h ?_
      exact .refl _
noncomputable def R18_Quote_L1 (p0 : (List UInt8)) (v4 : (List UInt8)) (v5 : Int) : Option ((List UInt8) ⊕ Unit) :=
  if (decide (v5 < (p0.length : Int))) then
    cutL p0 v5 (wr (v5 + 1)) >>= fun x5 =>
    if (x5 == [13]) then
      some (.inr ())
    else
      ( if (x5 == [10]) then
          some [92, 110]
        else
          if (x5 == [9]) then
            some [92, 116]
          else
            ( if (x5 == [34]) then
                some true
              else
                some (x5 == [92]) : Option (Bool)) >>= fun o7 =>
            if o7 then
              need ([92].length + x5.length ≤ 9223372036854775807) >>= fun _ =>
              some ([92] ++ x5)
            else
              some x5 : Option ((List UInt8))) >>= fun o6 =>
      need (v4.length + o6.length ≤ 9223372036854775807) >>= fun _ =>
      R18_Quote_L1 p0 (v4 ++ o6) (wr (v5 + 1))
  else
    some (.inl v4)
  partial_fixpoint
set_option maxRecDepth 100000 in
set_option maxHeartbeats 4000000 in
theorem R18_Quote_L1_grp : ∀ (p0 : (List UInt8)), (∀ (v4 : (List UInt8)) (v5 : Int) (o2 : (List UInt8) ⊕ Unit), R18_Quote_L1 p0 v4 v5 = some o2 → TL (0, 0) Tryd.prog 40 R18_Quote_L1_c (JP2 (0, 0) 40 o2 (.exit 0) (R18_Quote_L1_x0 p0) .ret (R18_Quote_L1_x1 p0)) (R18_Quote_L1_st p0 v4 v5)) := by
  intro p0
  refine R18_Quote_L1.partial_correctness p0 _ ?_
  intro R18_Quote_L1' ih_R18_Quote_L1 v4 v5 o2 h
  refine TL.round (bwp_sound mixed tbOk (lv := R18_Quote_lv) _ _ _ ?_)
  refine vrfl ?_
  refine st_test h (fun hb h => ?_) (fun hb h => ?_)
  · refine st_cuts (some v5) (some (wr (v5 + 1))) h (fun x5 hi h => ?_)
    refine st_test h (fun hb h => ?_) (fun hb h => ?_)
    · exact JP2.b h (Le.tow 0 0 rfl (.cons rfl (.refl _) (.cons rfl (.refl _) (.nil))) (.refl _) rfl)
    · refine st_bind h (fun o6 ho hk => ?_)
      refine Exists.intro (JP1 _ _ o6 .normal (R18_Quote_J0_0 p0 v4 v5)) (And.intro ?_ (join1 ?_))
      · have h := ho
        refine st_test h (fun hb h => ?_) (fun hb h => ?_)
        · refine JP1.a h ?_
          exact Le.tow 0 0 rfl (.cons rfl (.refl _) (.cons rfl (.refl _) (.cons rfl (.refl _) (.cons rfl (.refl _) (.nil))))) (.refl _) rfl
        · refine st_test h (fun hb h => ?_) (fun hb h => ?_)
          · refine JP1.a h ?_
            exact Le.tow 0 0 rfl (.cons rfl (.refl _) (.cons rfl (.refl _) (.cons rfl (.refl _) (.cons rfl (.refl _) (.nil))))) (.refl _) rfl
          · refine st_bind h (fun o7 ho hk => ?_)
            refine Exists.intro (JP1 _ _ o7 .normal (R18_Quote_J1_0 p0 v4 v5 x5)) (And.intro ?_ (join1 ?_))
            · have h := ho
              refine st_test h (fun hb h => ?_) (fun hb h => ?_)
              · refine JP1.a h ?_
                exact Le.tow 0 0 rfl (.cons rfl (.refl _) (.cons rfl (.refl _) (.cons rfl (.refl _) (.cons rfl (.refl _) (.cons rfl (.refl _) (.nil)))))) (.refl _) rfl
              · refine JP1.a h ?_
                exact Le.tow 0 0 rfl (.cons rfl (.refl _) (.cons rfl (.refl _) (.cons rfl (.refl _) (.cons rfl (.refl _) (.cons rfl (.refl _) (.nil)))))) (.refl _) rfl
            · have h := hk
              refine st_test h (fun hb h => ?_) (fun hb h => ?_)
              · refine st_need h (fun h => ?_)
                refine JP1.a h ?_
                exact Le.tow 0 0 rfl (.cons rfl (.refl _) (.cons rfl (.refl _) (.cons rfl (.refl _) (.cons rfl (.refl _) (.nil))))) (.refl _) rfl
              · refine JP1.a h ?_
                exact Le.tow 0 0 rfl (.cons rfl (.refl _) (.cons rfl (.refl _) (.cons rfl (.refl _) (.cons rfl (.refl _) (.nil))))) (.refl _) rfl
      · have h := hk
        refine st_need h (fun h => ?_)
        refine TL.le (τ := R18_Quote_L1_st p0 (v4 ++ o6) (wr (v5 + 1))) ?_ ((ih_R18_Quote_L1 (v4 ++ o6) (wr (v5 + 1)) _ h))
        exact Le.tow 0 0 rfl (.cons rfl (.refl _) (.cons rfl (.refl _) (.cons rfl (.refl _) (.nil)))) (.refl _) rfl
  · exact JP2.a h (Le.tow 0 0 rfl (.cons rfl (.refl _) (.nil)) (.refl _) rfl)
theorem R18_Quote_L1_ok : ∀ (p0 : (List UInt8)) (v4 : (List UInt8)) (v5 : Int) (o2 : (List UInt8) ⊕ Unit), R18_Quote_L1 p0 v4 v5 = some o2 → TL (0, 0) Tryd.prog 40 R18_Quote_L1_c (JP2 (0, 0) 40 o2 (.exit 0) (R18_Quote_L1_x0 p0) .ret (R18_Quote_L1_x1 p0)) (R18_Quote_L1_st p0 v4 v5) := fun p0 v4 v5 o2 h => (R18_Quote_L1_grp p0) v4 v5 o2 h
noncomputable def R18_Quote (p0 : (List UInt8)) : Option ((List UInt8) × Bool) :=
  R02_Is p0 >>= fun x1 =>
  if (!x1) then
    some ([], false)
  else
    (R18_Quote_L1 p0 [34] 0) >>= fun o2 =>
    match o2 with
    | .inl y3 =>
      need (y3.length + [34].length ≤ 9223372036854775807) >>= fun _ =>
      some ((y3 ++ [34]), true)
    | .inr y4 =>
      some ([], false)
set_option maxRecDepth 100000 in
set_option maxHeartbeats 4000000 in
theorem R18_Quote_ok : ∀ (p0 : (List UInt8)) (o : (List UInt8) × Bool), R18_Quote p0 = some o → PCall Tryd.prog 33 [sV p0] (t_R18_Quote o) := by
  intro p0 o h
  unfold R18_Quote at h
  refine PCall.ofB mixed tbOk R18_Quote_lv Tryd.func33 rfl (by kernel_rfl) (Nat.le_of_ble_eq_true rfl) ?_
  refine st_call [sV p0] t_R02_Is h (fun x1 hy => (R02_Is_ok p0 x1 hy)) (fun x1 hy h => ?_)
  refine st_test h (fun hb h => ?_) (fun hb h => ?_)
  · refine st_ret (t := t_R18_Quote) h ?_
    exact .refl _
  · refine st_bind h (fun o2 ho hk => ?_)
    refine Exists.intro (JP2 _ _ o2 (.exit 0) (R18_Quote_L1_x0 p0) .ret (R18_Quote_L1_x1 p0)) (And.intro (T_le (τ := R18_Quote_L1_st p0 [34] 0) ?_ (TL.loop (R18_Quote_L1_ok p0 [34] 0 o2 ho))) (join2 (fun y3 hy => ?_) (fun y4 hy => ?_)))
    · exact Le.tow 0 0 rfl (.cons rfl (.refl _) (.cons rfl (.refl _) (.cons rfl (.refl _) (.nil)))) (.refl _) rfl
    · have h := (by rw [hy] at hk; exact hk)
      refine st_need h (fun h => ?_)
      refine st_ret (t := t_R18_Quote) h ?_
      exact .refl _
    · have h := (by rw [hy] at hk; exact hk)
      refine st_ret (t := t_R18_Quote) h ?_
      exact .refl _
noncomputable def R18_digit (p0 : Int) : Option (Bool) :=
  ( if (decide (p0 ≥ 48)) then
      some (decide (p0 ≤ 57))
    else
      some false : Option (Bool)) >>= fun o1 =>
  some o1
set_option maxRecDepth 100000 in
set_option maxHeartbeats 4000000 in
theorem R18_digit_ok : ∀ (p0 : Int) (o : Bool), R18_digit p0 = some o → PCall Tryd.prog 64 [nV .u8 p0] (t_R18_digit o) := by
  intro p0 o h
  unfold R18_digit at h
  refine PCall.ofB mixed tbOk R18_digit_lv Tryd.func64 rfl (by kernel_rfl) (Nat.le_of_ble_eq_true rfl) ?_
  refine st_bind h (fun o1 ho hk => ?_)
  refine Exists.intro (JP1 _ _ o1 .normal (R18_digit_J0_0 )) (And.intro ?_ (join1 ?_))
  · have h := ho
    refine st_test h (fun hb h => ?_) (fun hb h => ?_)
    · refine JP1.a h ?_
      exact Le.tow 0 0 rfl (.cons rfl (.refl _) (.nil)) (.refl _) rfl
    · refine JP1.a h ?_
      exact Le.tow 0 0 rfl (.cons rfl (.refl _) (.nil)) (.refl _) rfl
  · have h := hk
    refine st_ret (t := t_R18_digit) h ?_
    exact .refl _
noncomputable def R18_small (p0 : Int) : Option (Bool) :=
  ( if (decide (p0 ≥ 97)) then
      some (decide (p0 ≤ 122))
    else
      some false : Option (Bool)) >>= fun o1 =>
  some o1
set_option maxRecDepth 100000 in
set_option maxHeartbeats 4000000 in
theorem R18_small_ok : ∀ (p0 : Int) (o : Bool), R18_small p0 = some o → PCall Tryd.prog 63 [nV .u8 p0] (t_R18_small o) := by
  intro p0 o h
  unfold R18_small at h
  refine PCall.ofB mixed tbOk R18_small_lv Tryd.func63 rfl (by kernel_rfl) (Nat.le_of_ble_eq_true rfl) ?_
  refine st_bind h (fun o1 ho hk => ?_)
  refine Exists.intro (JP1 _ _ o1 .normal (R18_small_J0_0 )) (And.intro ?_ (join1 ?_))
  · have h := ho
    refine st_test h (fun hb h => ?_) (fun hb h => ?_)
    · refine JP1.a h ?_
      exact Le.tow 0 0 rfl (.cons rfl (.refl _) (.nil)) (.refl _) rfl
    · refine JP1.a h ?_
      exact Le.tow 0 0 rfl (.cons rfl (.refl _) (.nil)) (.refl _) rfl
  · have h := hk
    refine st_ret (t := t_R18_small) h ?_
    exact .refl _
noncomputable def R18_Word_L1 (p0 : (List UInt8)) (v3 : Int) : Option (Unit ⊕ Unit) :=
  if (decide (v3 < (p0.length : Int))) then
    ( idx p0 v3 >>= fun x8 =>
      R18_small (x8.toNat : Int) >>= fun x9 =>
      if (!x9) then
        idx p0 v3 >>= fun x10 =>
        R18_digit (x10.toNat : Int) >>= fun x11 =>
        if (!x11) then
          idx p0 v3 >>= fun x12 =>
          some ((x12.toNat : Int) != 95)
        else
          some false
      else
        some false : Option (Bool)) >>= fun o7 =>
    if o7 then
      some (.inr ())
    else
      R18_Word_L1 p0 (wr (v3 + 1))
  else
    some (.inl ())
  partial_fixpoint
set_option maxRecDepth 100000 in
set_option maxHeartbeats 4000000 in
theorem R18_Word_L1_grp : ∀ (p0 : (List UInt8)), (∀ (v3 : Int) (o4 : Unit ⊕ Unit), R18_Word_L1 p0 v3 = some o4 → TL (0, 0) Tryd.prog 42 R18_Word_L1_c (JP2 (0, 0) 42 o4 (.exit 0) (R18_Word_L1_x0 p0) .ret (R18_Word_L1_x1 p0)) (R18_Word_L1_st p0 v3)) := by
  intro p0
  refine R18_Word_L1.partial_correctness p0 _ ?_
  intro R18_Word_L1' ih_R18_Word_L1 v3 o4 h
  refine TL.round (bwp_sound mixed tbOk (lv := R18_Word_lv) _ _ _ ?_)
  refine vrfl ?_
  refine st_test h (fun hb h => ?_) (fun hb h => ?_)
  · refine st_bind h (fun o7 ho hk => ?_)
    refine Exists.intro (JP1 _ _ o7 .normal (R18_Word_J1_0 p0 v3)) (And.intro ?_ (join1 ?_))
    · have h := ho
      refine st_sidx h (fun x8 hi h => ?_)
      refine st_call [nV .u8 (x8.toNat : Int)] t_R18_small h (fun x9 hy => (R18_small_ok (x8.toNat : Int) x9 hy)) (fun x9 hy h => ?_)
      refine st_test h (fun hb h => ?_) (fun hb h => ?_)
      · refine st_sidx h (fun x10 hi h => ?_)
        refine st_call [nV .u8 (x10.toNat : Int)] t_R18_digit h (fun x11 hy => (R18_digit_ok (x10.toNat : Int) x11 hy)) (fun x11 hy h => ?_)
        refine st_test h (fun hb h => ?_) (fun hb h => ?_)
        · refine st_sidx h (fun x12 hi h => ?_)
          refine JP1.a h ?_
          exact Le.tow 0 0 rfl (.cons rfl (.refl _) (.cons rfl (.refl _) (.cons rfl (.refl _) (.nil)))) (.refl _) rfl
        · refine JP1.a h ?_
          exact Le.tow 0 0 rfl (.cons rfl (.refl _) (.cons rfl (.refl _) (.cons rfl (.refl _) (.nil)))) (.refl _) rfl
      · refine bF ?_
        refine JP1.a h ?_
        exact Le.tow 0 0 rfl (.cons rfl (.refl _) (.cons rfl (.refl _) (.cons rfl (.refl _) (.nil)))) (.refl _) rfl
    · have h := hk
      refine st_test h (fun hb h => ?_) (fun hb h => ?_)
      · exact JP2.b h (Le.tow 0 0 rfl (.cons rfl (.refl _) (.nil)) (.refl _) rfl)
      · refine TL.le (τ := R18_Word_L1_st p0 (wr (v3 + 1))) ?_ ((ih_R18_Word_L1 (wr (v3 + 1)) _ h))
        exact Le.tow 0 0 rfl (.cons rfl (.refl _) (.cons rfl (.refl _) (.nil))) (.refl _) rfl
  · exact JP2.a h (Le.tow 0 0 rfl (.nil) (.refl _) rfl)
theorem R18_Word_L1_ok : ∀ (p0 : (List UInt8)) (v3 : Int) (o4 : Unit ⊕ Unit), R18_Word_L1 p0 v3 = some o4 → TL (0, 0) Tryd.prog 42 R18_Word_L1_c (JP2 (0, 0) 42 o4 (.exit 0) (R18_Word_L1_x0 p0) .ret (R18_Word_L1_x1 p0)) (R18_Word_L1_st p0 v3) := fun p0 v3 o4 h => (R18_Word_L1_grp p0) v3 o4 h
noncomputable def R18_Word (p0 : (List UInt8)) : Option (Bool) :=
  ( if (decide ((p0.length : Int) < 1)) then
      some true
    else
      if (decide ((p0.length : Int) > 32)) then
        some true
      else
        idx p0 0 >>= fun x2 =>
        R18_small (x2.toNat : Int) >>= fun x3 =>
        some (!x3) : Option (Bool)) >>= fun o1 =>
  if o1 then
    some false
  else
    (R18_Word_L1 p0 0) >>= fun o4 =>
    match o4 with
    | .inl y5 =>
      some true
    | .inr y6 =>
      some false
set_option maxRecDepth 100000 in
set_option maxHeartbeats 4000000 in
theorem R18_Word_ok : ∀ (p0 : (List UInt8)) (o : Bool), R18_Word p0 = some o → PCall Tryd.prog 35 [sV p0] (t_R18_Word o) := by
  intro p0 o h
  unfold R18_Word at h
  refine PCall.ofB mixed tbOk R18_Word_lv Tryd.func35 rfl (by kernel_rfl) (Nat.le_of_ble_eq_true rfl) ?_
  refine st_bind h (fun o1 ho hk => ?_)
  refine Exists.intro (JP1 _ _ o1 .normal (R18_Word_J0_0 p0)) (And.intro ?_ (join1 ?_))
  · have h := ho
    refine vrfl ?_
    refine st_test h (fun hb h => ?_) (fun hb h => ?_)
    · refine bT ?_
      refine JP1.a h ?_
      exact Le.tow 0 0 rfl (.cons rfl (.refl _) (.cons rfl (.refl _) (.nil))) (.refl _) rfl
    · refine vrfl ?_
      refine st_test h (fun hb h => ?_) (fun hb h => ?_)
      · refine JP1.a h ?_
        exact Le.tow 0 0 rfl (.cons rfl (.refl _) (.cons rfl (.refl _) (.nil))) (.refl _) rfl
      · refine st_sidx h (fun x2 hi h => ?_)
        refine st_call [nV .u8 (x2.toNat : Int)] t_R18_small h (fun x3 hy => (R18_small_ok (x2.toNat : Int) x3 hy)) (fun x3 hy h => ?_)
        refine JP1.a h ?_
        exact Le.tow 0 0 rfl (.cons rfl (.refl _) (.cons rfl (.refl _) (.nil))) (.refl _) rfl
  · have h := hk
    refine st_test h (fun hb h => ?_) (fun hb h => ?_)
    · refine st_ret (t := t_R18_Word) h ?_
      exact .refl _
    · refine st_bind h (fun o4 ho hk => ?_)
      refine Exists.intro (JP2 _ _ o4 (.exit 0) (R18_Word_L1_x0 p0) .ret (R18_Word_L1_x1 p0)) (And.intro (T_le (τ := R18_Word_L1_st p0 0) ?_ (TL.loop (R18_Word_L1_ok p0 0 o4 ho))) (join2 (fun y5 hy => ?_) (fun y6 hy => ?_)))
      · exact Le.tow 0 0 rfl (.cons rfl (.refl _) (.cons rfl (.refl _) (.nil))) (.refl _) rfl
      · have h := (by rw [hy] at hk; exact hk)
        refine st_ret (t := t_R18_Word) h ?_
        exact .refl _
      · have h := (by rw [hy] at hk; exact hk)
        refine st_ret (t := t_R18_Word) h ?_
        exact .refl _
noncomputable def internal_stringslite_HasPrefix (p0 : (List UInt8)) (p1 : (List UInt8)) : Option (Bool) :=
  ( if (decide ((p0.length : Int) ≥ (p1.length : Int))) then
      cutL p0 0 (p1.length : Int) >>= fun x2 =>
      some (x2 == p1)
    else
      some false : Option (Bool)) >>= fun o1 =>
  some o1
set_option maxRecDepth 100000 in
set_option maxHeartbeats 4000000 in
theorem internal_stringslite_HasPrefix_ok : ∀ (p0 : (List UInt8)) (p1 : (List UInt8)) (o : Bool), internal_stringslite_HasPrefix p0 p1 = some o → PCall Tryd.prog 98 [sV p0, sV p1] (t_internal_stringslite_HasPrefix o) := by
  intro p0 p1 o h
  unfold internal_stringslite_HasPrefix at h
  refine PCall.ofB mixed tbOk internal_stringslite_HasPrefix_lv Tryd.func98 rfl (by kernel_rfl) (Nat.le_of_ble_eq_true rfl) ?_
  refine st_bind h (fun o1 ho hk => ?_)
  refine Exists.intro (JP1 _ _ o1 .normal (internal_stringslite_HasPrefix_J0_0 )) (And.intro ?_ (join1 ?_))
  · have h := ho
    refine vrfl ?_
    refine vrfl ?_
    refine st_test h (fun hb h => ?_) (fun hb h => ?_)
    · refine vrfl ?_
      refine st_cuts none (some (p1.length : Int)) h (fun x2 hi h => ?_)
      refine JP1.a h ?_
      exact Le.tow 0 0 rfl (.cons rfl (.refl _) (.nil)) (.refl _) rfl
    · refine JP1.a h ?_
      exact Le.tow 0 0 rfl (.cons rfl (.refl _) (.nil)) (.refl _) rfl
  · have h := hk
    refine st_ret (t := t_internal_stringslite_HasPrefix) h ?_
    exact .refl _
noncomputable def internal_stringslite_Index (p0 : (List UInt8)) (p1 : (List UInt8)) : Option (Int) :=
  need (p0.length < 4294967281) >>= fun _ =>
  some (Lib.index p0 p1)
set_option maxRecDepth 100000 in
set_option maxHeartbeats 4000000 in
theorem internal_stringslite_Index_ok : ∀ (p0 : (List UInt8)) (p1 : (List UInt8)) (o : Int), internal_stringslite_Index p0 p1 = some o → PCall Tryd.prog 74 [sV p0, sV p1] (t_internal_stringslite_Index o) := by
  intro p0 p1 o h
  unfold internal_stringslite_Index at h
  obtain ⟨h1, h⟩ := need_some h
  cases h
  exact index_ok _ _ h1
noncomputable def internal_stringslite_IndexByte (p0 : (List UInt8)) (p1 : Int) : Option (Int) :=
  some (Lib.indexByte p0 p1.toNat.toUInt8)
set_option maxRecDepth 100000 in
set_option maxHeartbeats 4000000 in
theorem internal_stringslite_IndexByte_ok : ∀ (p0 : (List UInt8)) (p1 : Int) (o : Int), internal_stringslite_IndexByte p0 p1 = some o → PCall Tryd.prog 85 [sV p0, nV .u8 p1] (t_internal_stringslite_IndexByte o) := by
  intro p0 p1 o h
  unfold internal_stringslite_IndexByte at h
  cases h
  exact indexByte_ok _ _
noncomputable def lex_Quote_L1 (p0 : (List UInt8)) (v4 : (List Int)) (v18 : Int) : Option ((List Int)) :=
  if (decide (v18 < (p0.length : Int))) then
    idx p0 v18 >>= fun x5 =>
    if ((x5.toNat : Int) == 10) then
      appL 1 v4 (s2b [92, 110]) >>= fun x6 =>
      lex_Quote_L1 p0 x6 (wr (v18 + 1))
    else
      if ((x5.toNat : Int) == 9) then
        appL 1 v4 (s2b [92, 116]) >>= fun x7 =>
        lex_Quote_L1 p0 x7 (wr (v18 + 1))
      else
        ( if ((x5.toNat : Int) == 34) then
            some ((x5.toNat : Int) == 34)
          else
            some ((x5.toNat : Int) == 92) : Option (Bool)) >>= fun o8 =>
        if o8 then
          appL 1 v4 [92, (x5.toNat : Int)] >>= fun x9 =>
          lex_Quote_L1 p0 x9 (wr (v18 + 1))
        else
          appL 1 v4 [(x5.toNat : Int)] >>= fun x10 =>
          lex_Quote_L1 p0 x10 (wr (v18 + 1))
  else
    some v4
  partial_fixpoint
set_option maxRecDepth 100000 in
set_option maxHeartbeats 4000000 in
theorem lex_Quote_L1_grp : ∀ (p0 : (List UInt8)), (∀ (v4 : (List Int)) (v18 : Int) (o4 : (List Int)), lex_Quote_L1 p0 v4 v18 = some o4 → TL (0, 0) Tryd.prog 49 lex_Quote_L1_c (JP1 (0, 0) 49 o4 (.exit 0) (lex_Quote_L1_x0 p0)) (lex_Quote_L1_st p0 v4 v18)) := by
  intro p0
  refine lex_Quote_L1.partial_correctness p0 _ ?_
  intro lex_Quote_L1' ih_lex_Quote_L1 v4 v18 o4 h
  refine TL.round (bwp_sound mixed tbOk (lv := lex_Quote_lv) _ _ _ ?_)
  refine st_test h (fun hb h => ?_) (fun hb h => ?_)
  · refine st_sidx h (fun x5 hi h => ?_)
    refine st_test h (fun hb h => ?_) (fun hb h => ?_)
    · refine st_appso (a := v4) (b := [92, 110]) h rfl (fun x6 hi h => ?_)
      refine TL.le (τ := lex_Quote_L1_st p0 x6 (wr (v18 + 1))) ?_ ((ih_lex_Quote_L1 x6 (wr (v18 + 1)) _ h))
      exact Le.tow 0 1 rfl (.cons rfl (.refl _) (.cons rfl (.refl _) (.cons rfl (.refl _) (.cons rfl (.refl _) (.nil))))) (.refl _) rfl
    · refine st_test h (fun hb h => ?_) (fun hb h => ?_)
      · refine st_appso (a := v4) (b := [92, 116]) h rfl (fun x7 hi h => ?_)
        refine TL.le (τ := lex_Quote_L1_st p0 x7 (wr (v18 + 1))) ?_ ((ih_lex_Quote_L1 x7 (wr (v18 + 1)) _ h))
        exact Le.tow 0 1 rfl (.cons rfl (.refl _) (.cons rfl (.refl _) (.cons rfl (.refl _) (.cons rfl (.refl _) (.nil))))) (.refl _) rfl
      · refine st_bind h (fun o8 ho hk => ?_)
        refine Exists.intro (JP1 _ _ o8 .normal (lex_Quote_J1_0 p0 v4 v18 x5)) (And.intro ?_ (join1 ?_))
        · have h := ho
          refine st_test h (fun hb h => ?_) (fun hb h => ?_)
          · refine JP1.a h ?_
            exact Le.tow 0 1 rfl (.cons rfl (.refl _) (.cons rfl (.refl _) (.cons rfl (.refl _) (.cons rfl (.refl _) (.cons rfl (.refl _) (.cons rfl (.refl _) (.nil))))))) (.refl _) rfl
          · refine JP1.a h ?_
            exact Le.tow 0 1 rfl (.cons rfl (.refl _) (.cons rfl (.refl _) (.cons rfl (.refl _) (.cons rfl (.refl _) (.cons rfl (.refl _) (.cons rfl (.refl _) (.nil))))))) (.refl _) rfl
        · have h := hk
          refine st_test h (fun hb h => ?_) (fun hb h => ?_)
          · refine st_appo (a := v4) (b := [92, (x5.toNat : Int)]) (c := (cNum .u8)) h (.refl _) (fun _ => rfl) rfl (fun x9 hi h => ?_)
            refine TL.le (τ := lex_Quote_L1_st p0 x9 (wr (v18 + 1))) ?_ ((ih_lex_Quote_L1 x9 (wr (v18 + 1)) _ h))
            exact Le.tow 0 1 rfl (.cons rfl (.refl _) (.cons rfl (.refl _) (.cons rfl (.refl _) (.cons rfl (.refl _) (.nil))))) (.refl _) rfl
          · refine st_appo (a := v4) (b := [(x5.toNat : Int)]) (c := (cNum .u8)) h (.refl _) (fun _ => rfl) rfl (fun x10 hi h => ?_)
            refine TL.le (τ := lex_Quote_L1_st p0 x10 (wr (v18 + 1))) ?_ ((ih_lex_Quote_L1 x10 (wr (v18 + 1)) _ h))
            exact Le.tow 0 1 rfl (.cons rfl (.refl _) (.cons rfl (.refl _) (.cons rfl (.refl _) (.cons rfl (.refl _) (.nil))))) (.refl _) rfl
  · exact JP1.a h (Le.tow 0 1 rfl (.cons rfl (.refl _) (.nil)) (.refl _) rfl)
theorem lex_Quote_L1_ok : ∀ (p0 : (List UInt8)) (v4 : (List Int)) (v18 : Int) (o4 : (List Int)), lex_Quote_L1 p0 v4 v18 = some o4 → TL (0, 0) Tryd.prog 49 lex_Quote_L1_c (JP1 (0, 0) 49 o4 (.exit 0) (lex_Quote_L1_x0 p0)) (lex_Quote_L1_st p0 v4 v18) := fun p0 v4 v18 o4 h => (lex_Quote_L1_grp p0) v4 v18 o4 h
noncomputable def strings_IndexByte (p0 : (List UInt8)) (p1 : Int) : Option (Int) :=
  internal_stringslite_IndexByte p0 p1 >>= fun x1 =>
  some x1
set_option maxRecDepth 100000 in
set_option maxHeartbeats 4000000 in
theorem strings_IndexByte_ok : ∀ (p0 : (List UInt8)) (p1 : Int) (o : Int), strings_IndexByte p0 p1 = some o → PCall Tryd.prog 61 [sV p0, nV .u8 p1] (t_strings_IndexByte o) := by
  intro p0 p1 o h
  unfold strings_IndexByte at h
  refine PCall.ofB mixed tbOk strings_IndexByte_lv Tryd.func61 rfl (by kernel_rfl) (Nat.le_of_ble_eq_true rfl) ?_
  refine st_call [sV p0, nV .u8 p1] t_internal_stringslite_IndexByte h (fun x1 hy => (internal_stringslite_IndexByte_ok p0 p1 x1 hy)) (fun x1 hy h => ?_)
  refine st_ret (t := t_strings_IndexByte) h ?_
  exact .refl _
noncomputable def utf_Is_L1 (x1 : (List UInt8)) (l4 : (List (Int × Int))) : Option (Unit ⊕ Unit) :=
  match l4 with
  | [] =>
    some (.inl ())
  | x2 :: r3 =>
    ( if (x2.1 == 65533) then
        some (x2.2 == 1)
      else
        some false : Option (Bool)) >>= fun o9 =>
    if o9 then
      some (.inr ())
    else
      utf_Is_L1 x1 r3 
  partial_fixpoint
set_option maxRecDepth 100000 in
set_option maxHeartbeats 4000000 in
theorem utf_Is_L1_grp : ∀ (x1 : (List UInt8)), (∀ (l4 : (List (Int × Int))) (o6 : Unit ⊕ Unit), utf_Is_L1 x1 l4 = some o6 → RL 1 0 Tryd.prog 15 (rgP utf_Is_L1_c) (rgA utf_Is_L1_c) (rgB utf_Is_L1_c) (utf_Is_L1_st x1).env (JP2 (0, 0) 15 o6 .normal (utf_Is_L1_x0 x1) .ret (utf_Is_L1_x1 x1)) (l4.map e_utf_all_1) (utf_Is_L1_st x1).s) := by
  intro x1
  refine utf_Is_L1.partial_correctness x1 _ ?_
  intro utf_Is_L1' ih_utf_Is_L1 l4 o6 h
  cases l4 with
  | nil =>
    refine rl_nil ?_
    exact JP2.a h (Le.tow 1 0 rfl (.cons rfl (.refl _) (.cons rfl (.refl _) (.nil))) (.refl _) rfl)
  | cons x2 r3 =>
    refine rl_cons (bwp_sound mixed tbOk (lv := utf_Is_lv) _ _ _ ?_)
    refine And.intro rfl (bwp_sound mixed tbOk (lv := utf_Is_lv) _ _ _ ?_)
    refine st_bind h (fun o9 ho hk => ?_)
    refine Exists.intro (JP1 _ _ o9 .normal (utf_Is_J0_0 x1 x2)) (And.intro ?_ (join1 ?_))
    · have h := ho
      refine st_test h (fun hb h => ?_) (fun hb h => ?_)
      · refine JP1.a h ?_
        exact Le.tow 1 0 rfl (.cons rfl (.refl _) (.cons rfl (.refl _) (.cons rfl (.refl _) (.cons rfl (.refl _) (.cons rfl (.refl _) (.nil)))))) (.refl _) rfl
      · refine JP1.a h ?_
        exact Le.tow 1 0 rfl (.cons rfl (.refl _) (.cons rfl (.refl _) (.cons rfl (.refl _) (.cons rfl (.refl _) (.cons rfl (.refl _) (.nil)))))) (.refl _) rfl
    · have h := hk
      refine st_test h (fun hb h => ?_) (fun hb h => ?_)
      · exact Exists.intro (⟨[[.p (bV false)]], []⟩ : S) (And.intro (Le.tow 1 0 rfl .nil (.refl _) rfl) (And.intro rfl (And.intro rfl (JP2.b h (Le.tow 1 0 rfl (.cons rfl (.refl _) (.nil)) (.refl _) rfl)))))
      · exact Exists.intro (utf_Is_L1_st x1 ).s (And.intro (Le.tow 1 0 rfl (.nil) (.refl _) rfl) (And.intro rfl (And.intro rfl ((ih_utf_Is_L1 r3 _ h)))))
theorem utf_Is_L1_ok : ∀ (x1 : (List UInt8)) (l4 : (List (Int × Int))) (o6 : Unit ⊕ Unit), utf_Is_L1 x1 l4 = some o6 → RL 1 0 Tryd.prog 15 (rgP utf_Is_L1_c) (rgA utf_Is_L1_c) (rgB utf_Is_L1_c) (utf_Is_L1_st x1).env (JP2 (0, 0) 15 o6 .normal (utf_Is_L1_x0 x1) .ret (utf_Is_L1_x1 x1)) (l4.map e_utf_all_1) (utf_Is_L1_st x1).s := fun x1 l4 o6 h => (utf_Is_L1_grp x1) l4 o6 h
noncomputable def utf_all (p0 : (List UInt8)) : Option ((List UInt8)) :=
  some p0
set_option maxRecDepth 100000 in
set_option maxHeartbeats 4000000 in
theorem utf_all_ok : ∀ (p0 : (List UInt8)) (o : (List UInt8)), utf_all p0 = some o → PCall Tryd.prog 65 [sV p0] (t_utf_all o) := by
  intro p0 o h
  unfold utf_all at h
  refine PCall.ofM mixed tbOk utf_all_lv Tryd.func65 rfl (by kernel_rfl) (Nat.le_of_ble_eq_true rfl) ?_
  refine st_ret (t := t_utf_all) h ?_
  exact .refl _
noncomputable def utf_is (p0 : Int) : Option (Bool) :=
  ( if (decide (p0 ≥ 0)) then
      if (decide (p0 ≤ 1114111)) then
        if (decide (p0 < 55296)) then
          some true
        else
          some (decide (p0 > 57343))
      else
        some false
    else
      some false : Option (Bool)) >>= fun o1 =>
  some o1
set_option maxRecDepth 100000 in
set_option maxHeartbeats 4000000 in
theorem utf_is_ok : ∀ (p0 : Int) (o : Bool), utf_is p0 = some o → PCall Tryd.prog 73 [nV .i32 p0] (t_utf_is o) := by
  intro p0 o h
  unfold utf_is at h
  refine PCall.ofB mixed tbOk utf_is_lv Tryd.func73 rfl (by kernel_rfl) (Nat.le_of_ble_eq_true rfl) ?_
  refine st_bind h (fun o1 ho hk => ?_)
  refine Exists.intro (JP1 _ _ o1 .normal (utf_is_J0_0 )) (And.intro ?_ (join1 ?_))
  · have h := ho
    refine st_test h (fun hb h => ?_) (fun hb h => ?_)
    · refine st_test h (fun hb h => ?_) (fun hb h => ?_)
      · refine st_test h (fun hb h => ?_) (fun hb h => ?_)
        · refine JP1.a h ?_
          exact Le.tow 0 0 rfl (.cons rfl (.refl _) (.nil)) (.refl _) rfl
        · refine JP1.a h ?_
          exact Le.tow 0 0 rfl (.cons rfl (.refl _) (.nil)) (.refl _) rfl
      · refine JP1.a h ?_
        exact Le.tow 0 0 rfl (.cons rfl (.refl _) (.nil)) (.refl _) rfl
    · refine bF ?_
      refine JP1.a h ?_
      exact Le.tow 0 0 rfl (.cons rfl (.refl _) (.nil)) (.refl _) rfl
  · have h := hk
    refine st_ret (t := t_utf_is) h ?_
    exact .refl _
noncomputable def utf_tail_L1 (p0 : (List UInt8)) (p2 : Int) (v1 : Int) (v14 : Int) : Option (Int ⊕ Unit) :=
  if (decide (v14 < p2)) then
    idx p0 v14 >>= fun x4 =>
    if ((bits .and .u8 (x4.toNat : Int) 192) != 128) then
      some (.inr ())
    else
      idx p0 v14 >>= fun x5 =>
      utf_tail_L1 p0 p2 (bits .or .i32 (IntKind.i32.wrap (v1 * 2 ^ (min (6 : Int).toNat (IntKind.i32.bits)))) (IntKind.i32.wrap (bits .and .u8 (x5.toNat : Int) 63))) (wr (v14 + 1))
  else
    some (.inl v1)
  partial_fixpoint
set_option maxRecDepth 100000 in
set_option maxHeartbeats 4000000 in
theorem utf_tail_L1_grp : ∀ (p0 : (List UInt8)) (p2 : Int), (∀ (v1 : Int) (v14 : Int) (o1 : Int ⊕ Unit), utf_tail_L1 p0 p2 v1 v14 = some o1 → TL (0, 0) Tryd.prog 32 utf_tail_L1_c (JP2 (0, 0) 32 o1 (.exit 0) (utf_tail_L1_x0 p0 p2) .ret (utf_tail_L1_x1 p0 p2)) (utf_tail_L1_st p0 p2 v1 v14)) := by
  intro p0 p2
  refine utf_tail_L1.partial_correctness p0 p2 _ ?_
  intro utf_tail_L1' ih_utf_tail_L1 v1 v14 o1 h
  refine TL.round (bwp_sound mixed tbOk (lv := utf_tail_lv) _ _ _ ?_)
  refine st_test h (fun hb h => ?_) (fun hb h => ?_)
  · refine st_sidx h (fun x4 hi h => ?_)
    refine st_test h (fun hb h => ?_) (fun hb h => ?_)
    · exact JP2.b h (Le.tow 0 0 rfl (.cons rfl (.refl _) (.cons rfl (.refl _) (.nil))) (.refl _) rfl)
    · refine And.intro (by decide) ?_
      refine st_sidx h (fun x5 hi h => ?_)
      refine vrfl ?_
      refine TL.le (τ := utf_tail_L1_st p0 p2 (bits .or .i32 (IntKind.i32.wrap (v1 * 2 ^ (min (6 : Int).toNat (IntKind.i32.bits)))) (IntKind.i32.wrap (bits .and .u8 (x5.toNat : Int) 63))) (wr (v14 + 1))) ?_ ((ih_utf_tail_L1 (bits .or .i32 (IntKind.i32.wrap (v1 * 2 ^ (min (6 : Int).toNat (IntKind.i32.bits)))) (IntKind.i32.wrap (bits .and .u8 (x5.toNat : Int) 63))) (wr (v14 + 1)) _ h))
      exact Le.tow 0 0 rfl (.cons rfl (.refl _) (.cons rfl (.refl _) (.cons rfl (.refl _) (.cons rfl (.refl _) (.nil))))) (.refl _) rfl
  · exact JP2.a h (Le.tow 0 0 rfl (.cons rfl (.refl _) (.nil)) (.refl _) rfl)
theorem utf_tail_L1_ok : ∀ (p0 : (List UInt8)) (p2 : Int) (v1 : Int) (v14 : Int) (o1 : Int ⊕ Unit), utf_tail_L1 p0 p2 v1 v14 = some o1 → TL (0, 0) Tryd.prog 32 utf_tail_L1_c (JP2 (0, 0) 32 o1 (.exit 0) (utf_tail_L1_x0 p0 p2) .ret (utf_tail_L1_x1 p0 p2)) (utf_tail_L1_st p0 p2 v1 v14) := fun p0 p2 v1 v14 o1 h => (utf_tail_L1_grp p0 p2) v1 v14 o1 h
noncomputable def utf_tail (p0 : (List UInt8)) (p1 : Int) (p2 : Int) : Option (Int × Bool) :=
  if (decide ((p0.length : Int) < p2)) then
    some (0, false)
  else
    (utf_tail_L1 p0 p2 p1 0) >>= fun o1 =>
    match o1 with
    | .inl y2 =>
      some (y2, true)
    | .inr y3 =>
      some (0, false)
set_option maxRecDepth 100000 in
set_option maxHeartbeats 4000000 in
theorem utf_tail_ok : ∀ (p0 : (List UInt8)) (p1 : Int) (p2 : Int) (o : Int × Bool), utf_tail p0 p1 p2 = some o → PCall Tryd.prog 72 [sV p0, nV .i32 p1, iV p2] (t_utf_tail o) := by
  intro p0 p1 p2 o h
  unfold utf_tail at h
  refine PCall.ofB mixed tbOk utf_tail_lv Tryd.func72 rfl (by kernel_rfl) (Nat.le_of_ble_eq_true rfl) ?_
  refine vrfl ?_
  refine st_test h (fun hb h => ?_) (fun hb h => ?_)
  · refine st_ret (t := t_utf_tail) h ?_
    exact .refl _
  · refine st_bind h (fun o1 ho hk => ?_)
    refine Exists.intro (JP2 _ _ o1 (.exit 0) (utf_tail_L1_x0 p0 p2) .ret (utf_tail_L1_x1 p0 p2)) (And.intro (T_le (τ := utf_tail_L1_st p0 p2 p1 0) ?_ (TL.loop (utf_tail_L1_ok p0 p2 p1 0 o1 ho))) (join2 (fun y2 hy => ?_) (fun y3 hy => ?_)))
    · exact Le.tow 0 0 rfl (.cons rfl (.refl _) (.cons rfl (.refl _) (.cons rfl (.refl _) (.cons rfl (.refl _) (.nil))))) (.refl _) rfl
    · have h := (by rw [hy] at hk; exact hk)
      refine st_ret (t := t_utf_tail) h ?_
      exact .refl _
    · have h := (by rw [hy] at hk; exact hk)
      refine st_ret (t := t_utf_tail) h ?_
      exact .refl _
noncomputable def utf_Next (p0 : (List UInt8)) (p1 : Int) : Option (Int × Int) :=
  ( if (decide (p1 < 0)) then
      some true
    else
      some (decide (p1 ≥ (p0.length : Int))) : Option (Bool)) >>= fun o1 =>
  if o1 then
    some (0, 0)
  else
    idx p0 p1 >>= fun x2 =>
    ( if (decide ((x2.toNat : Int) < 128)) then
        some (.inr (IntKind.i32.wrap (x2.toNat : Int)))
      else
        ( if (decide ((x2.toNat : Int) ≥ 192)) then
            some (decide ((x2.toNat : Int) < 224))
          else
            some false : Option (Bool)) >>= fun o6 =>
        if o6 then
          some (.inl ((IntKind.i32.wrap (bits .and .u8 (x2.toNat : Int) 31)), 128, 1))
        else
          ( if (decide ((x2.toNat : Int) ≥ 224)) then
              some (decide ((x2.toNat : Int) < 240))
            else
              some false : Option (Bool)) >>= fun o7 =>
          if o7 then
            some (.inl ((IntKind.i32.wrap (bits .and .u8 (x2.toNat : Int) 15)), 2048, 2))
          else
            ( if (decide ((x2.toNat : Int) ≥ 240)) then
                some (decide ((x2.toNat : Int) < 248))
              else
                some false : Option (Bool)) >>= fun o8 =>
            if o8 then
              some (.inl ((IntKind.i32.wrap (bits .and .u8 (x2.toNat : Int) 7)), 65536, 3))
            else
              some (.inr 65533) : Option ((Int × Int × Int) ⊕ Int)) >>= fun o3 =>
    match o3 with
    | .inl y4 =>
      cutL p0 (wr (p1 + 1)) (p0.length : Int) >>= fun x9 =>
      utf_tail x9 y4.1 y4.2.2 >>= fun x10 =>
      ( if (!x10.2) then
          some true
        else
          if (decide (x10.1 < y4.2.1)) then
            some true
          else
            utf_is x10.1 >>= fun x12 =>
            some (!x12) : Option (Bool)) >>= fun o11 =>
      if o11 then
        some (65533, 1)
      else
        some (x10.1, (wr (y4.2.2 + 1)))
    | .inr y5 =>
      some (y5, 1)
set_option maxRecDepth 100000 in
set_option maxHeartbeats 4000000 in
theorem utf_Next_ok : ∀ (p0 : (List UInt8)) (p1 : Int) (o : Int × Int), utf_Next p0 p1 = some o → PCall Tryd.prog 43 [sV p0, iV p1] (t_utf_Next o) := by
  intro p0 p1 o h
  unfold utf_Next at h
  refine PCall.ofB mixed tbOk utf_Next_lv Tryd.func43 rfl (by kernel_rfl) (Nat.le_of_ble_eq_true rfl) ?_
  refine st_bind h (fun o1 ho hk => ?_)
  refine Exists.intro (JP1 _ _ o1 .normal (utf_Next_J0_0 p0 p1)) (And.intro ?_ (join1 ?_))
  · have h := ho
    refine st_test h (fun hb h => ?_) (fun hb h => ?_)
    · refine JP1.a h ?_
      exact Le.tow 0 0 rfl (.cons rfl (.refl _) (.cons rfl (.refl _) (.cons rfl (.refl _) (.nil)))) (.refl _) rfl
    · refine vrfl ?_
      refine JP1.a h ?_
      exact Le.tow 0 0 rfl (.cons rfl (.refl _) (.cons rfl (.refl _) (.cons rfl (.refl _) (.nil)))) (.refl _) rfl
  · have h := hk
    refine st_test h (fun hb h => ?_) (fun hb h => ?_)
    · refine st_ret (t := t_utf_Next) h ?_
      exact .refl _
    · refine st_sidx h (fun x2 hi h => ?_)
      refine st_bind h (fun o3 ho hk => ?_)
      refine Exists.intro (JP2 _ _ o3 .normal (utf_Next_J1_0 p0 p1) .ret (utf_Next_J1_1 p0 p1)) (And.intro ?_ (join2 (fun y4 hy => ?_) (fun y5 hy => ?_)))
      · have h := ho
        refine st_test h (fun hb h => ?_) (fun hb h => ?_)
        · refine vrfl ?_
          refine JP2.b h ?_
          exact Le.tow 0 0 rfl (.cons rfl (.refl _) (.cons rfl (.refl _) (.nil))) (.refl _) rfl
        · refine st_bind h (fun o6 ho hk => ?_)
          refine Exists.intro (JP1 _ _ o6 .normal (utf_Next_J2_0 p0 p1 x2)) (And.intro ?_ (join1 ?_))
          · have h := ho
            refine st_test h (fun hb h => ?_) (fun hb h => ?_)
            · refine JP1.a h ?_
              exact Le.tow 0 0 rfl (.cons rfl (.refl _) (.cons rfl (.refl _) (.cons rfl (.refl _) (.cons rfl (.refl _) (.nil))))) (.refl _) rfl
            · refine JP1.a h ?_
              exact Le.tow 0 0 rfl (.cons rfl (.refl _) (.cons rfl (.refl _) (.cons rfl (.refl _) (.cons rfl (.refl _) (.nil))))) (.refl _) rfl
          · have h := hk
            refine st_test h (fun hb h => ?_) (fun hb h => ?_)
            · refine vrfl ?_
              refine JP2.a h ?_
              exact Le.tow 0 0 rfl (.cons rfl (.refl _) (.cons rfl (.refl _) (.cons rfl (.refl _) (.cons rfl (.refl _) (.cons rfl (.refl _) (.nil)))))) (.refl _) rfl
            · refine st_bind h (fun o7 ho hk => ?_)
              refine Exists.intro (JP1 _ _ o7 .normal (utf_Next_J3_0 p0 p1 x2)) (And.intro ?_ (join1 ?_))
              · have h := ho
                refine st_test h (fun hb h => ?_) (fun hb h => ?_)
                · refine JP1.a h ?_
                  exact Le.tow 0 0 rfl (.cons rfl (.refl _) (.cons rfl (.refl _) (.cons rfl (.refl _) (.cons rfl (.refl _) (.nil))))) (.refl _) rfl
                · refine JP1.a h ?_
                  exact Le.tow 0 0 rfl (.cons rfl (.refl _) (.cons rfl (.refl _) (.cons rfl (.refl _) (.cons rfl (.refl _) (.nil))))) (.refl _) rfl
              · have h := hk
                refine st_test h (fun hb h => ?_) (fun hb h => ?_)
                · refine vrfl ?_
                  refine JP2.a h ?_
                  exact Le.tow 0 0 rfl (.cons rfl (.refl _) (.cons rfl (.refl _) (.cons rfl (.refl _) (.cons rfl (.refl _) (.cons rfl (.refl _) (.nil)))))) (.refl _) rfl
                · refine st_bind h (fun o8 ho hk => ?_)
                  refine Exists.intro (JP1 _ _ o8 .normal (utf_Next_J4_0 p0 p1 x2)) (And.intro ?_ (join1 ?_))
                  · have h := ho
                    refine st_test h (fun hb h => ?_) (fun hb h => ?_)
                    · refine JP1.a h ?_
                      exact Le.tow 0 0 rfl (.cons rfl (.refl _) (.cons rfl (.refl _) (.cons rfl (.refl _) (.cons rfl (.refl _) (.nil))))) (.refl _) rfl
                    · refine JP1.a h ?_
                      exact Le.tow 0 0 rfl (.cons rfl (.refl _) (.cons rfl (.refl _) (.cons rfl (.refl _) (.cons rfl (.refl _) (.nil))))) (.refl _) rfl
                  · have h := hk
                    refine st_test h (fun hb h => ?_) (fun hb h => ?_)
                    · refine vrfl ?_
                      refine JP2.a h ?_
                      exact Le.tow 0 0 rfl (.cons rfl (.refl _) (.cons rfl (.refl _) (.cons rfl (.refl _) (.cons rfl (.refl _) (.cons rfl (.refl _) (.nil)))))) (.refl _) rfl
                    · refine JP2.b h ?_
                      exact Le.tow 0 0 rfl (.cons rfl (.refl _) (.cons rfl (.refl _) (.nil))) (.refl _) rfl
      · have h := (by rw [hy] at hk; exact hk)
        refine st_cuts (some (wr (p1 + 1))) none h (fun x9 hi h => ?_)
        refine st_call [sV x9, nV .i32 y4.1, iV y4.2.2] t_utf_tail h (fun x10 hy => (utf_tail_ok x9 y4.1 y4.2.2 x10 hy)) (fun x10 hy h => ?_)
        refine st_bind h (fun o11 ho hk => ?_)
        refine Exists.intro (JP1 _ _ o11 .normal (utf_Next_J5_0 y4 x10)) (And.intro ?_ (join1 ?_))
        · have h := ho
          refine st_test h (fun hb h => ?_) (fun hb h => ?_)
          · refine bT ?_
            refine JP1.a h ?_
            exact Le.tow 0 0 rfl (.cons rfl (.refl _) (.cons rfl (.refl _) (.cons rfl (.refl _) (.nil)))) (.refl _) rfl
          · refine st_test h (fun hb h => ?_) (fun hb h => ?_)
            · refine JP1.a h ?_
              exact Le.tow 0 0 rfl (.cons rfl (.refl _) (.cons rfl (.refl _) (.cons rfl (.refl _) (.nil)))) (.refl _) rfl
            · refine st_call [nV .i32 x10.1] t_utf_is h (fun x12 hy => (utf_is_ok x10.1 x12 hy)) (fun x12 hy h => ?_)
              refine JP1.a h ?_
              exact Le.tow 0 0 rfl (.cons rfl (.refl _) (.cons rfl (.refl _) (.cons rfl (.refl _) (.nil)))) (.refl _) rfl
        · have h := hk
          refine st_test h (fun hb h => ?_) (fun hb h => ?_)
          · refine st_ret (t := t_utf_Next) h ?_
            exact .refl _
          · refine st_ret (t := t_utf_Next) h ?_
            exact .refl _
      · have h := (by rw [hy] at hk; exact hk)
        refine st_ret (t := t_utf_Next) h ?_
        exact .refl _
noncomputable def utf_all_1_L1 (p0 : (List UInt8)) (v3 : Int) : Option ((List (Int × Int)) × (Unit)) :=
  if (decide (v3 < (p0.length : Int))) then
    utf_Next p0 v3 >>= fun x3 =>
    ( utf_all_1_L1 p0 (wr (v3 + x3.2))) >>= fun q => some ((x3.1, x3.2) :: q.1, q.2)
  else
    some ([], ())
  partial_fixpoint
set_option maxRecDepth 100000 in
set_option maxHeartbeats 4000000 in
theorem utf_all_1_L1_grp : ∀ (p0 : (List UInt8)), (∀ (v3 : Int) (o2 : (List (Int × Int)) × (Unit)), utf_all_1_L1 p0 v3 = some o2 → ∀ (gxs gp gpost gq1 : List (List V)), gxs = gp ++ (o2.1.map e_utf_all_1 ++ gpost) → gxs = gq1 ++ gpost → TL (0, 1) Tryd.prog 24 utf_all_1_L1_c (Qs (0, 1) 24 gxs (JP1 (0, 1) 24 o2.2 (.exit 0) (utf_all_1_L1_x0 p0 gxs gq1))) (utf_all_1_L1_st p0 v3 gxs gp)) := by
  intro p0
  refine utf_all_1_L1.partial_correctness p0 _ ?_
  intro utf_all_1_L1' ih_utf_all_1_L1 v3 o2 h
  intro gxs gp gpost gq1 hx hq
  refine TL.round (bwp_sound mixed tbOk (lv := utf_all_1_lv) _ _ _ ?_)
  refine vrfl ?_
  refine st_test h (fun hb h => ?_) (fun hb h => ?_)
  · refine st_call [sV p0, iV v3] t_utf_Next h (fun x3 hy => (utf_Next_ok p0 v3 x3 hy)) (fun x3 hy h => ?_)
    refine st_yld (c := e_utf_all_1) h hx (.refl _) (by exact rfl) (by exact rfl) (fun _ h hx => ?_) ?_
    · refine bF ?_
      refine TL.le (τ := utf_all_1_L1_st p0 (wr (v3 + x3.2)) gxs (gp ++ [e_utf_all_1 (x3.1, x3.2)])) ?_ ((ih_utf_all_1_L1 (wr (v3 + x3.2)) _ h) _ _ _ _ hx hq)
      exact Le.tow 0 1 rfl (.cons rfl (.refl _) (.cons rfl (.refl _) (.cons rfl (.refl _) (.nil)))) (.refl _) rfl
    · refine bT ?_
      exact .inr ⟨rfl, _, (Le.env0 _).trans (Le.tow 0 1 rfl .nil (.refl _) rfl), rfl, rfl, rfl⟩
  · exact .inl (JP1.a (sndI h) (Le.tow 0 1 rfl (.nil) (.refl _) (liveQ h hx hq rfl)))
theorem utf_all_1_L1_ok : ∀ (p0 : (List UInt8)) (v3 : Int) (o2 : (List (Int × Int)) × (Unit)), utf_all_1_L1 p0 v3 = some o2 → ∀ (gxs gp gpost gq1 : List (List V)), gxs = gp ++ (o2.1.map e_utf_all_1 ++ gpost) → gxs = gq1 ++ gpost → TL (0, 1) Tryd.prog 24 utf_all_1_L1_c (Qs (0, 1) 24 gxs (JP1 (0, 1) 24 o2.2 (.exit 0) (utf_all_1_L1_x0 p0 gxs gq1))) (utf_all_1_L1_st p0 v3 gxs gp) := fun p0 v3 o2 h => (utf_all_1_L1_grp p0) v3 o2 h
noncomputable def utf_all_1 (p0 : (List UInt8)) : Option ((List (Int × Int)) × Unit) :=
  ( utf_all_1_L1 p0 0) >>= fun o2 => (
    some ([], ())) >>= fun q => some (o2.1 ++ q.1, q.2)
set_option maxRecDepth 100000 in
set_option maxHeartbeats 4000000 in
theorem utf_all_1_ok : ∀ (p0 : (List UInt8)) (o : (List (Int × Int)) × Unit), utf_all_1 p0 = some o → ∀ gxs : List (List V), gxs = o.1.map e_utf_all_1 → IterOK Tryd.prog 86 [.ep [sV p0]] gxs := by
  intro p0 o h
  unfold utf_all_1 at h
  intro gxs hg
  have hx : gxs = [] ++ (o.1.map e_utf_all_1 ++ []) := by simp [hg]
  refine IterOK.ofB mixed tbOk utf_all_1_lv Tryd.func86 rfl (by kernel_rfl) (Nat.le_of_ble_eq_true rfl) rfl ?_
  refine st_bindI h hx (fun o2 lgq1 gq1 ho hk hxa hjgq1 => ?_)
  refine Exists.intro (Qs _ _ gxs (JP1 _ _ o2.2 (.exit 0) (utf_all_1_L1_x0 p0 gxs gq1))) (And.intro (T_le (τ := utf_all_1_L1_st p0 0 gxs ([] : List (List V))) ?_ (TL.loop ((utf_all_1_L1_ok p0 0 o2 ho) _ _ _ _ hxa hjgq1))) (joinS (join1 ?_) ?_))
  · exact Le.tow 0 1 rfl (.cons rfl (.refl _) (.cons rfl (.refl _) (.cons rfl (.refl _) (.nil)))) (.refl _) rfl
  · have h := hk
    have hx := hjgq1
    exact st_iend h hx (.inl rfl) rfl
  · exact fun s1 h1 h2 hs => st_istop (.inr rfl) hs
noncomputable def utf_Is (p0 : (List UInt8)) : Option (Bool) :=
  utf_all p0 >>= fun x1 =>
  utf_all_1 x1 >>= fun y5 =>
  (utf_Is_L1 x1 y5.1) >>= fun o6 =>
  match o6 with
  | .inl y7 =>
    some true
  | .inr y8 =>
    some false
set_option maxRecDepth 100000 in
set_option maxHeartbeats 4000000 in
theorem utf_Is_ok : ∀ (p0 : (List UInt8)) (o : Bool), utf_Is p0 = some o → PCall Tryd.prog 60 [sV p0] (t_utf_Is o) := by
  intro p0 o h
  unfold utf_Is at h
  refine PCall.ofB mixed tbOk utf_Is_lv Tryd.func60 rfl (by kernel_rfl) (Nat.le_of_ble_eq_true rfl) ?_
  refine st_call [sV p0] t_utf_all h (fun x1 hy => (utf_all_ok p0 x1 hy)) (fun x1 hy h => ?_)
  refine st_bind h (fun y5 hy5 h => ?_)
  refine st_bind h (fun o6 ho hk => ?_)
  refine Exists.intro (JP2 _ _ o6 .normal (utf_Is_L1_x0 x1) .ret (utf_Is_L1_x1 x1)) (And.intro (T_le (τ := utf_Is_L1_st x1) ?_ (T_range (g := 86) (cap := [.ep [sV x1]]) rfl ((utf_all_1_ok x1 y5 hy5) _ rfl) (mapSize fun _ => rfl) rfl (Nat.le_of_ble_eq_true rfl) (Nat.le_of_ble_eq_true rfl) (utf_Is_L1_ok x1 y5.1 o6 ho))) (join2 (fun y7 hy => ?_) (fun y8 hy => ?_)))
  · exact Le.tow 1 0 rfl (.cons rfl (.refl _) (.cons rfl (.refl _) (.nil))) (.refl _) rfl
  · have h := (by rw [hy] at hk; exact hk)
    refine st_ret (t := t_utf_Is) h ?_
    exact .refl _
  · have h := (by rw [hy] at hk; exact hk)
    refine st_ret (t := t_utf_Is) h ?_
    exact .refl _
noncomputable def lex_Quote (p0 : (List UInt8)) : Option ((List UInt8) × Bool) :=
  ( utf_Is p0 >>= fun x2 =>
    if (!x2) then
      some true
    else
      strings_IndexByte p0 13 >>= fun x3 =>
      some (decide (x3 ≥ 0)) : Option (Bool)) >>= fun o1 =>
  if o1 then
    some ([], false)
  else
    (lex_Quote_L1 p0 [34] 0) >>= fun o4 =>
    appL 1 o4 [34] >>= fun x11 =>
    b2s x11 >>= fun x12 =>
    some (x12, true)
set_option maxRecDepth 100000 in
set_option maxHeartbeats 4000000 in
theorem lex_Quote_ok : ∀ (p0 : (List UInt8)) (o : (List UInt8) × Bool), lex_Quote p0 = some o → PCall Tryd.prog 32 [sV p0] (t_lex_Quote o) := by
  intro p0 o h
  unfold lex_Quote at h
  refine PCall.ofB mixed tbOk lex_Quote_lv Tryd.func32 rfl (by kernel_rfl) (Nat.le_of_ble_eq_true rfl) ?_
  refine st_bind h (fun o1 ho hk => ?_)
  refine Exists.intro (JP1 _ _ o1 .normal (lex_Quote_J0_0 p0)) (And.intro ?_ (join1 ?_))
  · have h := ho
    refine st_call [sV p0] t_utf_Is h (fun x2 hy => (utf_Is_ok p0 x2 hy)) (fun x2 hy h => ?_)
    refine st_test h (fun hb h => ?_) (fun hb h => ?_)
    · refine JP1.a h ?_
      exact Le.tow 0 0 rfl (.cons rfl (.refl _) (.cons rfl (.refl _) (.nil))) (.refl _) rfl
    · refine st_call [sV p0, nV .u8 13] t_strings_IndexByte h (fun x3 hy => (strings_IndexByte_ok p0 13 x3 hy)) (fun x3 hy h => ?_)
      refine JP1.a h ?_
      exact Le.tow 0 0 rfl (.cons rfl (.refl _) (.cons rfl (.refl _) (.nil))) (.refl _) rfl
  · have h := hk
    refine st_test h (fun hb h => ?_) (fun hb h => ?_)
    · refine st_ret (t := t_lex_Quote) h ?_
      exact .refl _
    · refine vrfl ?_
      refine st_bind h (fun o4 ho hk => ?_)
      refine Exists.intro (JP1 _ _ o4 (.exit 0) (lex_Quote_L1_x0 p0)) (And.intro (T_le (τ := lex_Quote_L1_st p0 [34] 0) ?_ (TL.loop (lex_Quote_L1_ok p0 [34] 0 o4 ho))) (join1 ?_))
      · exact Le.trans (τ := ⟨[(0, .p (sV p0)), (4, .p (.sl true ([34].map (cNum .u8)))), (17, .p (iV (p0.length : Int))), (18, .p (iV 0))], ⟨[], []⟩⟩) (Le.tow 0 0 rfl (.cons rfl (.refl _) (.cons rfl (.refl _) (.cons rfl (.refl _) (.cons rfl (.refl _) (.nil))))) (.refl _) rfl) ((Le.ownW 4 5 1 rfl (mapSize fun _ => rfl)).trans (Le.tow 0 1 rfl (.cons rfl (.refl _) (.cons rfl (.refl _) (.cons rfl (.refl _) (.cons rfl (.refl _) (.nil))))) (.refl _) rfl))
      have h := hk
      refine st_appo (a := o4) (b := [34]) (c := (cNum .u8)) h (.refl _) (fun _ => rfl) rfl (fun x11 hi h => ?_)
      refine st_b2s (l := x11) h (fun x12 hi h => ?_)
      refine st_ret (t := t_lex_Quote) h ?_
      exact .refl _
noncomputable def strings_TrimLeft (p0 : (List UInt8)) (p1 : (List UInt8)) : Option ((List UInt8)) :=
  need (p1.length < 4294967281) >>= fun _ =>
  need (p1.all (fun b => decide (b.toNat < 128)) = true) >>= fun _ =>
  some (Lib.trimLeftS p0 p1)
set_option maxRecDepth 100000 in
set_option maxHeartbeats 4000000 in
theorem strings_TrimLeft_ok : ∀ (p0 : (List UInt8)) (p1 : (List UInt8)) (o : (List UInt8)), strings_TrimLeft p0 p1 = some o → PCall Tryd.prog 75 [sV p0, sV p1] (t_strings_TrimLeft o) := by
  intro p0 p1 o h
  unfold strings_TrimLeft at h
  obtain ⟨h1, h⟩ := need_some h
  obtain ⟨h2, h⟩ := need_some h
  cases h
  exact trimLeft_ok _ _ h1 h2
noncomputable def lex_machine_blanks_2 (h0_0 : (List UInt8)) (h0_1 : Int) (h0_2 : (List api_Token)) : Option (Int) :=
  cutL h0_0 h0_1 (h0_0.length : Int) >>= fun x1 =>
  strings_TrimLeft x1 [32, 9, 10, 13] >>= fun x2 =>
  some (wr ((h0_0.length : Int) - (x2.length : Int)))
set_option maxRecDepth 100000 in
set_option maxHeartbeats 4000000 in
theorem lex_machine_blanks_2_ok : ∀ (h0_0 : (List UInt8)) (h0_1 : Int) (h0_2 : (List api_Token)) (o : Int), lex_machine_blanks_2 h0_0 h0_1 h0_2 = some o → CallOK Tryd.prog 51 [.ptr 0 0] ⟨[[.p (sV h0_0), .p (iV h0_1), .own 0 42 5 (h0_2.map c_api_Token)]], [(h0_2.map c_api_Token).length]⟩ (t_lex_machine_blanks_2 o) ⟨[[.p (sV h0_0), .p (iV o), .own 0 42 5 (h0_2.map c_api_Token)]], [(h0_2.map c_api_Token).length]⟩ := by
  intro h0_0 h0_1 h0_2 o h
  unfold lex_machine_blanks_2 at h
  refine CallOK.ofB mixed tbOk lex_machine_blanks_2_lv Tryd.func51 rfl (by kernel_rfl) (Nat.le_of_ble_eq_true rfl) rfl rfl rfl ?_
  refine And.intro (by decide +kernel) (And.intro rfl ?_)
  refine vrfl ?_
  refine st_cuts (some h0_1) none h (fun x1 hi h => ?_)
  refine st_calld [sV x1, sV [32, 9, 10, 13]] t_strings_TrimLeft h (fun x2 hy => (strings_TrimLeft_ok x1 [32, 9, 10, 13] x2 hy)) (fun x2 hy h => ?_)
  refine vrfl ?_
  refine Exists.intro _ (And.intro (Le.refl _ _ _) ?_)
  exact st_retc (t := t_lex_machine_blanks_2) (ss := fun o => ⟨[[.p (sV h0_0), .p (iV o), .own 0 42 5 (h0_2.map c_api_Token)]], [(h0_2.map c_api_Token).length]⟩) h ⟨[0], rfl, .refl _, .refl _, rfl⟩
noncomputable def lex_machine_put_2 (p1 : Int) (p2 : (List UInt8)) (p3 : Int) (p4 : Int) (h0_0 : (List UInt8)) (h0_1 : Int) (h0_2 : (List api_Token)) : Option (Int × (List api_Token)) :=
  appL 48 h0_2 [(api_Token.mk p1 p2 p3 h0_1 (wr (h0_1 + p4)))] >>= fun x1 =>
  some ((wr (h0_1 + p4)), x1)
set_option maxRecDepth 100000 in
set_option maxHeartbeats 4000000 in
theorem lex_machine_put_2_ok : ∀ (p1 : Int) (p2 : (List UInt8)) (p3 : Int) (p4 : Int) (h0_0 : (List UInt8)) (h0_1 : Int) (h0_2 : (List api_Token)) (o : Int × (List api_Token)), lex_machine_put_2 p1 p2 p3 p4 h0_0 h0_1 h0_2 = some o → CallOK Tryd.prog 50 [.ptr 0 0, .p (iV p1), .p (sV p2), .p (iV p3), .p (iV p4)] ⟨[[.p (sV h0_0), .p (iV h0_1), .own 0 42 5 (h0_2.map c_api_Token)]], [(h0_2.map c_api_Token).length]⟩ (t_lex_machine_put_2 o) ⟨[[.p (sV h0_0), .p (iV o.1), .own 0 42 5 (o.2.map c_api_Token)]], [(o.2.map c_api_Token).length]⟩ := by
  intro p1 p2 p3 p4 h0_0 h0_1 h0_2 o h
  unfold lex_machine_put_2 at h
  refine CallOK.ofB mixed tbOk lex_machine_put_2_lv Tryd.func50 rfl (by kernel_rfl) (Nat.le_of_ble_eq_true rfl) rfl rfl rfl ?_
  refine And.intro (by decide +kernel) (And.intro rfl ?_)
  refine st_appo (a := h0_2) (b := [(api_Token.mk p1 p2 p3 h0_1 (wr (h0_1 + p4)))]) (c := c_api_Token) h (.refl _) (fun _ => rfl) rfl (fun x1 hi h => ?_)
  refine Exists.intro _ (And.intro (Le.refl _ _ _) ?_)
  exact st_retc (t := t_lex_machine_put_2) (ss := fun o => ⟨[[.p (sV h0_0), .p (iV o.1), .own 0 42 5 (o.2.map c_api_Token)]], [(o.2.map c_api_Token).length]⟩) h ⟨[0], rfl, .refl _, .refl _, rfl⟩
noncomputable def lex_digit (p0 : Int) : Option (Bool) :=
  ( if (decide (p0 ≥ 48)) then
      some (decide (p0 ≤ 57))
    else
      some false : Option (Bool)) >>= fun o1 =>
  some o1
set_option maxRecDepth 100000 in
set_option maxHeartbeats 4000000 in
theorem lex_digit_ok : ∀ (p0 : Int) (o : Bool), lex_digit p0 = some o → PCall Tryd.prog 78 [nV .u8 p0] (t_lex_digit o) := by
  intro p0 o h
  unfold lex_digit at h
  refine PCall.ofB mixed tbOk lex_digit_lv Tryd.func78 rfl (by kernel_rfl) (Nat.le_of_ble_eq_true rfl) ?_
  refine st_bind h (fun o1 ho hk => ?_)
  refine Exists.intro (JP1 _ _ o1 .normal (lex_digit_J0_0 )) (And.intro ?_ (join1 ?_))
  · have h := ho
    refine st_test h (fun hb h => ?_) (fun hb h => ?_)
    · refine JP1.a h ?_
      exact Le.tow 0 0 rfl (.cons rfl (.refl _) (.nil)) (.refl _) rfl
    · refine JP1.a h ?_
      exact Le.tow 0 0 rfl (.cons rfl (.refl _) (.nil)) (.refl _) rfl
  · have h := hk
    refine st_ret (t := t_lex_digit) h ?_
    exact .refl _
noncomputable def lex_letter (p0 : Int) : Option (Bool) :=
  ( if (decide (p0 ≥ 97)) then
      if (decide (p0 ≤ 122)) then
        some true
      else
        lex_digit p0 >>= fun x2 =>
        if x2 then
          some true
        else
          some (p0 == 95)
    else
      lex_digit p0 >>= fun x3 =>
      if x3 then
        some true
      else
        some (p0 == 95) : Option (Bool)) >>= fun o1 =>
  some o1
set_option maxRecDepth 100000 in
set_option maxHeartbeats 4000000 in
theorem lex_letter_ok : ∀ (p0 : Int) (o : Bool), lex_letter p0 = some o → PCall Tryd.prog 62 [nV .u8 p0] (t_lex_letter o) := by
  intro p0 o h
  unfold lex_letter at h
  refine PCall.ofB mixed tbOk lex_letter_lv Tryd.func62 rfl (by kernel_rfl) (Nat.le_of_ble_eq_true rfl) ?_
  refine st_bind h (fun o1 ho hk => ?_)
  refine Exists.intro (JP1 _ _ o1 .normal (lex_letter_J0_0 )) (And.intro ?_ (join1 ?_))
  · have h := ho
    refine st_test h (fun hb h => ?_) (fun hb h => ?_)
    · refine st_test h (fun hb h => ?_) (fun hb h => ?_)
      · refine bT ?_
        refine JP1.a h ?_
        exact Le.tow 0 0 rfl (.cons rfl (.refl _) (.nil)) (.refl _) rfl
      · refine st_call [nV .u8 p0] t_lex_digit h (fun x2 hy => (lex_digit_ok p0 x2 hy)) (fun x2 hy h => ?_)
        refine st_test h (fun hb h => ?_) (fun hb h => ?_)
        · refine JP1.a h ?_
          exact Le.tow 0 0 rfl (.cons rfl (.refl _) (.nil)) (.refl _) rfl
        · refine JP1.a h ?_
          exact Le.tow 0 0 rfl (.cons rfl (.refl _) (.nil)) (.refl _) rfl
    · refine bF ?_
      refine st_call [nV .u8 p0] t_lex_digit h (fun x3 hy => (lex_digit_ok p0 x3 hy)) (fun x3 hy h => ?_)
      refine st_test h (fun hb h => ?_) (fun hb h => ?_)
      · refine JP1.a h ?_
        exact Le.tow 0 0 rfl (.cons rfl (.refl _) (.nil)) (.refl _) rfl
      · refine JP1.a h ?_
        exact Le.tow 0 0 rfl (.cons rfl (.refl _) (.nil)) (.refl _) rfl
  · have h := hk
    refine st_ret (t := t_lex_letter) h ?_
    exact .refl _
noncomputable def lex_machine_run_lex_digit_L1 (h0_0 : (List UInt8)) (h0_1 : Int) (h0_2 : (List api_Token)) (v7 : Int) : Option (Int) :=
  ( if (decide (v7 < (h0_0.length : Int))) then
      idx h0_0 v7 >>= fun x3 =>
      lex_digit (x3.toNat : Int) >>= fun x4 =>
      some x4
    else
      some false : Option (Bool)) >>= fun o2 =>
  if o2 then
    lex_machine_run_lex_digit_L1 h0_0 h0_1 h0_2 (wr (v7 + 1))
  else
    some v7
  partial_fixpoint
set_option maxRecDepth 100000 in
set_option maxHeartbeats 4000000 in
theorem lex_machine_run_lex_digit_L1_grp : ∀ (h0_0 : (List UInt8)) (h0_1 : Int) (h0_2 : (List api_Token)), (∀ (v7 : Int) (o1 : Int), lex_machine_run_lex_digit_L1 h0_0 h0_1 h0_2 v7 = some o1 → TL (1, 1) Tryd.prog 38 lex_machine_run_lex_digit_L1_c (JP1 (1, 1) 38 o1 (.exit 0) (lex_machine_run_lex_digit_L1_x0 h0_0 h0_1 h0_2)) (lex_machine_run_lex_digit_L1_st h0_0 h0_1 h0_2 v7)) := by
  intro h0_0 h0_1 h0_2
  refine lex_machine_run_lex_digit_L1.partial_correctness h0_0 h0_1 h0_2 _ ?_
  intro lex_machine_run_lex_digit_L1' ih_lex_machine_run_lex_digit_L1 v7 o1 h
  refine TL.round (bwp_sound mixed tbOk (lv := lex_machine_run_lex_digit_lv) _ _ _ ?_)
  refine st_bind h (fun o2 ho hk => ?_)
  refine Exists.intro (JP1 _ _ o2 .normal (lex_machine_run_lex_digit_J0_0 h0_0 h0_1 h0_2 v7)) (And.intro ?_ (join1 ?_))
  · have h := ho
    refine vrfl ?_
    refine st_test h (fun hb h => ?_) (fun hb h => ?_)
    · refine st_sidx h (fun x3 hi h => ?_)
      refine st_call [nV .u8 (x3.toNat : Int)] t_lex_digit h (fun x4 hy => (lex_digit_ok (x3.toNat : Int) x4 hy)) (fun x4 hy h => ?_)
      refine JP1.a h ?_
      exact Le.tow 1 1 rfl (.cons rfl (.refl _) (.cons rfl (.refl _) (.cons rfl (.refl _) (.cons rfl (.refl _) (.nil))))) (.refl _) rfl
    · refine JP1.a h ?_
      exact Le.tow 1 1 rfl (.cons rfl (.refl _) (.cons rfl (.refl _) (.cons rfl (.refl _) (.cons rfl (.refl _) (.nil))))) (.refl _) rfl
  · have h := hk
    refine st_test h (fun hb h => ?_) (fun hb h => ?_)
    · refine TL.le (τ := lex_machine_run_lex_digit_L1_st h0_0 h0_1 h0_2 (wr (v7 + 1))) ?_ ((ih_lex_machine_run_lex_digit_L1 (wr (v7 + 1)) _ h))
      exact Le.tow 1 1 rfl (.cons rfl (.refl _) (.cons rfl (.refl _) (.cons rfl (.refl _) (.nil)))) (.refl _) rfl
    · exact JP1.a h (Le.tow 1 1 rfl (.cons rfl (.refl _) (.cons rfl (.refl _) (.nil))) (.refl _) rfl)
theorem lex_machine_run_lex_digit_L1_ok : ∀ (h0_0 : (List UInt8)) (h0_1 : Int) (h0_2 : (List api_Token)) (v7 : Int) (o1 : Int), lex_machine_run_lex_digit_L1 h0_0 h0_1 h0_2 v7 = some o1 → TL (1, 1) Tryd.prog 38 lex_machine_run_lex_digit_L1_c (JP1 (1, 1) 38 o1 (.exit 0) (lex_machine_run_lex_digit_L1_x0 h0_0 h0_1 h0_2)) (lex_machine_run_lex_digit_L1_st h0_0 h0_1 h0_2 v7) := fun h0_0 h0_1 h0_2 v7 o1 h => (lex_machine_run_lex_digit_L1_grp h0_0 h0_1 h0_2) v7 o1 h
noncomputable def lex_machine_run_lex_digit (p1 : Int) (h0_0 : (List UInt8)) (h0_1 : Int) (h0_2 : (List api_Token)) : Option ((List UInt8)) :=
  (lex_machine_run_lex_digit_L1 h0_0 h0_1 h0_2 p1) >>= fun o1 =>
  cutL h0_0 h0_1 o1 >>= fun x5 =>
  some x5
set_option maxRecDepth 100000 in
set_option maxHeartbeats 4000000 in
theorem lex_machine_run_lex_digit_ok : ∀ (p1 : Int) (h0_0 : (List UInt8)) (h0_1 : Int) (h0_2 : (List api_Token)) (o : (List UInt8)), lex_machine_run_lex_digit p1 h0_0 h0_1 h0_2 = some o → CallOK Tryd.prog 101 [.ptr 0 0, .p (iV p1), .fn (.func 78) [] []] ⟨[[.p (sV h0_0), .p (iV h0_1), .own 0 42 5 (h0_2.map c_api_Token)]], [(h0_2.map c_api_Token).length]⟩ (t_lex_machine_run_lex_digit o) ⟨[[.p (sV h0_0), .p (iV h0_1), .own 0 42 5 (h0_2.map c_api_Token)]], [(h0_2.map c_api_Token).length]⟩ := by
  intro p1 h0_0 h0_1 h0_2 o h
  unfold lex_machine_run_lex_digit at h
  refine CallOK.ofB mixed tbOk lex_machine_run_lex_digit_lv Tryd.func101 rfl (by kernel_rfl) (Nat.le_of_ble_eq_true rfl) rfl rfl rfl ?_
  refine st_bind h (fun o1 ho hk => ?_)
  refine Exists.intro (JP1 _ _ o1 (.exit 0) (lex_machine_run_lex_digit_L1_x0 h0_0 h0_1 h0_2)) (And.intro (T_le (τ := lex_machine_run_lex_digit_L1_st h0_0 h0_1 h0_2 p1) ?_ (TL.loop (lex_machine_run_lex_digit_L1_ok h0_0 h0_1 h0_2 p1 o1 ho))) (join1 ?_))
  · exact Le.tow 1 1 rfl (.cons rfl (.refl _) (.cons rfl (.refl _) (.cons rfl (.refl _) (.nil)))) (.refl _) rfl
  have h := hk
  refine And.intro (by decide +kernel) (And.intro rfl ?_)
  refine st_cuts (some h0_1) (some o1) h (fun x5 hi h => ?_)
  refine Exists.intro _ (And.intro (Le.refl _ _ _) ?_)
  exact st_retc (t := t_lex_machine_run_lex_digit) (ss := fun o => ⟨[[.p (sV h0_0), .p (iV h0_1), .own 0 42 5 (h0_2.map c_api_Token)]], [(h0_2.map c_api_Token).length]⟩) h ⟨[0], rfl, .refl _, .refl _, rfl⟩
noncomputable def octet_Number (p0 : (List UInt8)) : Option (Int × Bool) :=
  need (p0.length ≤ 9223372036854775807) >>= fun _ =>
  some (numP p0)
set_option maxRecDepth 100000 in
set_option maxHeartbeats 4000000 in
theorem octet_Number_ok : ∀ (p0 : (List UInt8)) (o : Int × Bool), octet_Number p0 = some o → PCall Tryd.prog 102 [sV p0] (t_octet_Number o) := by
  intro p0 o h
  unfold octet_Number at h
  obtain ⟨h1, h⟩ := need_some h
  cases h
  exact number_ok _ h1
noncomputable def lex_machine_number (h0_0 : (List UInt8)) (h0_1 : Int) (h0_2 : (List api_Token)) : Option (Bool × Int × (List api_Token)) :=
  lex_machine_run_lex_digit (wr (h0_1 + 1)) h0_0 h0_1 h0_2 >>= fun x1 =>
  octet_Number x1 >>= fun x2 =>
  if x2.2 then
    lex_machine_put_2 6 [] x2.1 (x1.length : Int) h0_0 h0_1 h0_2 >>= fun x3 =>
    some (x2.2, x3.1, x3.2)
  else
    some (x2.2, h0_1, h0_2)
set_option maxRecDepth 100000 in
set_option maxHeartbeats 4000000 in
theorem lex_machine_number_ok : ∀ (h0_0 : (List UInt8)) (h0_1 : Int) (h0_2 : (List api_Token)) (o : Bool × Int × (List api_Token)), lex_machine_number h0_0 h0_1 h0_2 = some o → CallOK Tryd.prog 79 [.ptr 0 0] ⟨[[.p (sV h0_0), .p (iV h0_1), .own 0 42 5 (h0_2.map c_api_Token)]], [(h0_2.map c_api_Token).length]⟩ (t_lex_machine_number o) ⟨[[.p (sV h0_0), .p (iV o.2.1), .own 0 42 5 (o.2.2.map c_api_Token)]], [(o.2.2.map c_api_Token).length]⟩ := by
  intro h0_0 h0_1 h0_2 o h
  unfold lex_machine_number at h
  refine CallOK.ofB mixed tbOk lex_machine_number_lv Tryd.func79 rfl (by kernel_rfl) (Nat.le_of_ble_eq_true rfl) rfl rfl rfl ?_
  refine st_callc _ _ h (fun x1 hy => ((lex_machine_run_lex_digit_ok (wr (h0_1 + 1)) h0_0 h0_1 h0_2 x1 hy).fr [0] [0] rfl rfl rfl)) (fun x1 hy h => ?_)
  refine st_call [sV x1] t_octet_Number h (fun x2 hy => (octet_Number_ok x1 x2 hy)) (fun x2 hy h => ?_)
  refine st_test h (fun hb h => ?_) (fun hb h => ?_)
  · refine vrfl ?_
    refine st_callc _ _ h (fun x3 hy => ((lex_machine_put_2_ok 6 [] x2.1 (x1.length : Int) h0_0 h0_1 h0_2 x3 hy).fr [0] [0] rfl rfl rfl)) (fun x3 hy h => ?_)
    refine Exists.intro _ (And.intro (Le.refl _ _ _) ?_)
    exact st_retc (t := t_lex_machine_number) (ss := fun o => ⟨[[.p (sV h0_0), .p (iV o.2.1), .own 0 42 5 (o.2.2.map c_api_Token)]], [(o.2.2.map c_api_Token).length]⟩) h ⟨[0], rfl, .refl _, .refl _, rfl⟩
  · refine Exists.intro _ (And.intro (Le.refl _ _ _) ?_)
    exact st_retc (t := t_lex_machine_number) (ss := fun o => ⟨[[.p (sV h0_0), .p (iV o.2.1), .own 0 42 5 (o.2.2.map c_api_Token)]], [(o.2.2.map c_api_Token).length]⟩) h ⟨[0], rfl, .refl _, .refl _, rfl⟩
noncomputable def lex_machine_sign_L1 (h0_0 : (List UInt8)) (h0_1 : Int) (h0_2 : (List api_Token)) (v13 : Int) : Option (Unit ⊕ (Int × (List api_Token))) :=
  if (decide (v13 < 5)) then
    idx ([(S_c__k_.mk 46 7), (S_c__k_.mk 40 8), (S_c__k_.mk 41 9), (S_c__k_.mk 44 10), (S_c__k_.mk 61 11)] : List S_c__k_) v13 >>= fun x4 =>
    idx h0_0 h0_1 >>= fun x5 =>
    if ((x5.toNat : Int) == x4.c_) then
      lex_machine_put_2 x4.k_ [] 0 1 h0_0 h0_1 h0_2 >>= fun x6 =>
      some (.inr (x6.1, x6.2))
    else
      lex_machine_sign_L1 h0_0 h0_1 h0_2 (wr (v13 + 1))
  else
    some (.inl ())
  partial_fixpoint
set_option maxRecDepth 100000 in
set_option maxHeartbeats 4000000 in
theorem lex_machine_sign_L1_grp : ∀ (h0_0 : (List UInt8)) (h0_1 : Int) (h0_2 : (List api_Token)), (∀ (v13 : Int) (o1 : Unit ⊕ (Int × (List api_Token))), lex_machine_sign_L1 h0_0 h0_1 h0_2 v13 = some o1 → TL (1, 1) Tryd.prog 33 lex_machine_sign_L1_c (JP2 (1, 1) 33 o1 (.exit 0) (lex_machine_sign_L1_x0 h0_0 h0_1 h0_2) .ret (lex_machine_sign_L1_x1 h0_0 h0_1 h0_2)) (lex_machine_sign_L1_st h0_0 h0_1 h0_2 v13)) := by
  intro h0_0 h0_1 h0_2
  refine lex_machine_sign_L1.partial_correctness h0_0 h0_1 h0_2 _ ?_
  intro lex_machine_sign_L1' ih_lex_machine_sign_L1 v13 o1 h
  refine TL.round (bwp_sound mixed tbOk (lv := lex_machine_sign_lv) _ _ _ ?_)
  refine st_test h (fun hb h => ?_) (fun hb h => ?_)
  · refine st_aidx2 (l := ([(S_c__k_.mk 46 7), (S_c__k_.mk 40 8), (S_c__k_.mk 41 9), (S_c__k_.mk 44 10), (S_c__k_.mk 61 11)] : List S_c__k_)) (c := fun x4 => [nV .u8 x4.c_, iV x4.k_]) h rfl rfl rfl (fun _ => rfl) rfl (fun x4 hi h => ?_)
    refine And.intro (by decide +kernel) (And.intro rfl ?_)
    refine st_sidx h (fun x5 hi h => ?_)
    refine st_test h (fun hb h => ?_) (fun hb h => ?_)
    · refine st_callc _ _ h (fun x6 hy => ((lex_machine_put_2_ok x4.k_ [] 0 1 h0_0 h0_1 h0_2 x6 hy).fr [0] [0] rfl rfl rfl)) (fun x6 hy h => ?_)
      exact JP2.b h (Le.tow 2 1 rfl (.cons rfl (.refl _) (.nil)) (.refl _) rfl)
    · refine TL.le (τ := lex_machine_sign_L1_st h0_0 h0_1 h0_2 (wr (v13 + 1))) ?_ ((ih_lex_machine_sign_L1 (wr (v13 + 1)) _ h))
      exact Le.tow 2 1 rfl (.cons rfl (.refl _) (.cons rfl (.refl _) (.cons rfl (.refl _) (.nil)))) (.refl _) rfl
  · exact JP2.a h (Le.tow 2 1 rfl (.nil) (.refl _) rfl)
theorem lex_machine_sign_L1_ok : ∀ (h0_0 : (List UInt8)) (h0_1 : Int) (h0_2 : (List api_Token)) (v13 : Int) (o1 : Unit ⊕ (Int × (List api_Token))), lex_machine_sign_L1 h0_0 h0_1 h0_2 v13 = some o1 → TL (1, 1) Tryd.prog 33 lex_machine_sign_L1_c (JP2 (1, 1) 33 o1 (.exit 0) (lex_machine_sign_L1_x0 h0_0 h0_1 h0_2) .ret (lex_machine_sign_L1_x1 h0_0 h0_1 h0_2)) (lex_machine_sign_L1_st h0_0 h0_1 h0_2 v13) := fun h0_0 h0_1 h0_2 v13 o1 h => (lex_machine_sign_L1_grp h0_0 h0_1 h0_2) v13 o1 h
noncomputable def lex_machine_sign (h0_0 : (List UInt8)) (h0_1 : Int) (h0_2 : (List api_Token)) : Option (Bool × Int × (List api_Token)) :=
  (lex_machine_sign_L1 h0_0 h0_1 h0_2 0) >>= fun o1 =>
  match o1 with
  | .inl y2 =>
    some (false, h0_1, h0_2)
  | .inr y3 =>
    some (true, y3.1, y3.2)
set_option maxRecDepth 100000 in
set_option maxHeartbeats 4000000 in
theorem lex_machine_sign_ok : ∀ (h0_0 : (List UInt8)) (h0_1 : Int) (h0_2 : (List api_Token)) (o : Bool × Int × (List api_Token)), lex_machine_sign h0_0 h0_1 h0_2 = some o → CallOK Tryd.prog 81 [.ptr 0 0] ⟨[[.p (sV h0_0), .p (iV h0_1), .own 0 42 5 (h0_2.map c_api_Token)]], [(h0_2.map c_api_Token).length]⟩ (t_lex_machine_sign o) ⟨[[.p (sV h0_0), .p (iV o.2.1), .own 0 42 5 (o.2.2.map c_api_Token)]], [(o.2.2.map c_api_Token).length]⟩ := by
  intro h0_0 h0_1 h0_2 o h
  unfold lex_machine_sign at h
  refine CallOK.ofB mixed tbOk lex_machine_sign_lv Tryd.func81 rfl (by kernel_rfl) (Nat.le_of_ble_eq_true rfl) rfl rfl rfl ?_
  refine st_bind h (fun o1 ho hk => ?_)
  refine Exists.intro (JP2 _ _ o1 (.exit 0) (lex_machine_sign_L1_x0 h0_0 h0_1 h0_2) .ret (lex_machine_sign_L1_x1 h0_0 h0_1 h0_2)) (And.intro (T_le (τ := lex_machine_sign_L1_st h0_0 h0_1 h0_2 0) ?_ (TL.loop (lex_machine_sign_L1_ok h0_0 h0_1 h0_2 0 o1 ho))) (join2 (fun y2 hy => ?_) (fun y3 hy => ?_)))
  · exact Le.tow 2 1 rfl (.cons rfl (.refl _) (.cons rfl (.refl _) (.cons rfl (.refl _) (.nil)))) (.refl _) rfl
  · have h := (by rw [hy] at hk; exact hk)
    refine Exists.intro _ (And.intro (Le.refl _ _ _) ?_)
    exact st_retc (t := t_lex_machine_sign) (ss := fun o => ⟨[[.p (sV h0_0), .p (iV o.2.1), .own 0 42 5 (o.2.2.map c_api_Token)]], [(o.2.2.map c_api_Token).length]⟩) h ⟨[0], rfl, .refl _, .refl _, rfl⟩
  · have h := (by rw [hy] at hk; exact hk)
    refine Exists.intro _ (And.intro (Le.refl _ _ _) ?_)
    exact st_retc (t := t_lex_machine_sign) (ss := fun o => ⟨[[.p (sV h0_0), .p (iV o.2.1), .own 0 42 5 (o.2.2.map c_api_Token)]], [(o.2.2.map c_api_Token).length]⟩) h ⟨[0], rfl, .refl _, .refl _, rfl⟩
noncomputable def lex_escaped (p0 : Int) : Option (Int × Bool) :=
  if (p0 == 110) then
    some (10, true)
  else
    if (p0 == 116) then
      some (9, true)
    else
      ( if (p0 == 34) then
          some true
        else
          some (p0 == 92) : Option (Bool)) >>= fun o1 =>
      some (p0, o1)
set_option maxRecDepth 100000 in
set_option maxHeartbeats 4000000 in
theorem lex_escaped_ok : ∀ (p0 : Int) (o : Int × Bool), lex_escaped p0 = some o → PCall Tryd.prog 99 [nV .u8 p0] (t_lex_escaped o) := by
  intro p0 o h
  unfold lex_escaped at h
  refine PCall.ofB mixed tbOk lex_escaped_lv Tryd.func99 rfl (by kernel_rfl) (Nat.le_of_ble_eq_true rfl) ?_
  refine st_test h (fun hb h => ?_) (fun hb h => ?_)
  · refine st_ret (t := t_lex_escaped) h ?_
    exact .refl _
  · refine st_test h (fun hb h => ?_) (fun hb h => ?_)
    · refine st_ret (t := t_lex_escaped) h ?_
      exact .refl _
    · refine st_bind h (fun o1 ho hk => ?_)
      refine Exists.intro (JP1 _ _ o1 .normal (lex_escaped_J0_0 p0)) (And.intro ?_ (join1 ?_))
      · have h := ho
        refine st_test h (fun hb h => ?_) (fun hb h => ?_)
        · refine JP1.a h ?_
          exact Le.tow 0 0 rfl (.cons rfl (.refl _) (.cons rfl (.refl _) (.nil))) (.refl _) rfl
        · refine JP1.a h ?_
          exact Le.tow 0 0 rfl (.cons rfl (.refl _) (.cons rfl (.refl _) (.nil))) (.refl _) rfl
      · have h := hk
        refine st_ret (t := t_lex_escaped) h ?_
        exact .refl _
noncomputable def strings_Builder_copyCheck_2 (h0_0 : Bool) (h0_1 : (List Int)) : Option (Bool) :=
  some true
set_option maxRecDepth 100000 in
set_option maxHeartbeats 4000000 in
theorem strings_Builder_copyCheck_2_ok : ∀ (h0_0 : Bool) (h0_1 : (List Int)) (o : Bool), strings_Builder_copyCheck_2 h0_0 h0_1 = some o → CallOK Tryd.prog 89 [.ptr 0 0] ⟨[[.sp Tryd.prog 80 h0_0 0 0, .own 0 5 1 (h0_1.map (cNum .u8))]], [(h0_1.map (cNum .u8)).length]⟩ (t_strings_Builder_copyCheck_2 o) ⟨[[.sp Tryd.prog 80 o 0 0, .own 0 5 1 (h0_1.map (cNum .u8))]], [(h0_1.map (cNum .u8)).length]⟩ := by
  intro h0_0 h0_1 o h
  unfold strings_Builder_copyCheck_2 at h
  cases h
  exact copyCheck_ok [[.sp Tryd.prog 80 h0_0 0 0, .own 0 5 1 (h0_1.map (cNum .u8))]] _ 0 [.sp Tryd.prog 80 h0_0 0 0, .own 0 5 1 (h0_1.map (cNum .u8))] rfl rfl
noncomputable def strings_Builder_WriteByte_2 (p1 : Int) (h0_0 : Bool) (h0_1 : (List Int)) : Option (Unit × Bool × (List Int)) :=
  strings_Builder_copyCheck_2 h0_0 h0_1 >>= fun x1 =>
  appL 1 h0_1 [p1] >>= fun x2 =>
  some ((), x1, x2)
set_option maxRecDepth 100000 in
set_option maxHeartbeats 4000000 in
theorem strings_Builder_WriteByte_2_ok : ∀ (p1 : Int) (h0_0 : Bool) (h0_1 : (List Int)) (o : Unit × Bool × (List Int)), strings_Builder_WriteByte_2 p1 h0_0 h0_1 = some o → CallOK Tryd.prog 100 [.ptr 0 0, .p (nV .u8 p1)] ⟨[[.sp Tryd.prog 80 h0_0 0 0, .own 0 5 1 (h0_1.map (cNum .u8))]], [(h0_1.map (cNum .u8)).length]⟩ (t_strings_Builder_WriteByte_2 o) ⟨[[.sp Tryd.prog 80 o.2.1 0 0, .own 0 5 1 (o.2.2.map (cNum .u8))]], [(o.2.2.map (cNum .u8)).length]⟩ := by
  intro p1 h0_0 h0_1 o h
  unfold strings_Builder_WriteByte_2 at h
  refine CallOK.ofB mixed tbOk strings_Builder_WriteByte_2_lv Tryd.func100 rfl (by kernel_rfl) (Nat.le_of_ble_eq_true rfl) rfl rfl rfl ?_
  refine st_callc _ _ h (fun x1 hy => ((strings_Builder_copyCheck_2_ok h0_0 h0_1 x1 hy).fr [0] [0] rfl rfl rfl)) (fun x1 hy h => ?_)
  refine st_appo (a := h0_1) (b := [p1]) (c := (cNum .u8)) h (.refl _) (fun _ => rfl) rfl (fun x2 hi h => ?_)
  refine Exists.intro _ (And.intro (Le.refl _ _ _) ?_)
  exact st_retc (t := t_strings_Builder_WriteByte_2) (ss := fun o => ⟨[[.sp Tryd.prog 80 o.2.1 0 0, .own 0 5 1 (o.2.2.map (cNum .u8))]], [(o.2.2.map (cNum .u8)).length]⟩) h ⟨[0], rfl, .refl _, .refl _, rfl⟩
noncomputable def strings_Builder_WriteString_2 (p1 : (List UInt8)) (h0_0 : Bool) (h0_1 : (List Int)) : Option (Int × Unit × Bool × (List Int)) :=
  strings_Builder_copyCheck_2 h0_0 h0_1 >>= fun x1 =>
  appL 1 h0_1 (s2b p1) >>= fun x2 =>
  some ((p1.length : Int), (), x1, x2)
set_option maxRecDepth 100000 in
set_option maxHeartbeats 4000000 in
theorem strings_Builder_WriteString_2_ok : ∀ (p1 : (List UInt8)) (h0_0 : Bool) (h0_1 : (List Int)) (o : Int × Unit × Bool × (List Int)), strings_Builder_WriteString_2 p1 h0_0 h0_1 = some o → CallOK Tryd.prog 70 [.ptr 0 0, .p (sV p1)] ⟨[[.sp Tryd.prog 80 h0_0 0 0, .own 0 5 1 (h0_1.map (cNum .u8))]], [(h0_1.map (cNum .u8)).length]⟩ (t_strings_Builder_WriteString_2 o) ⟨[[.sp Tryd.prog 80 o.2.2.1 0 0, .own 0 5 1 (o.2.2.2.map (cNum .u8))]], [(o.2.2.2.map (cNum .u8)).length]⟩ := by
  intro p1 h0_0 h0_1 o h
  unfold strings_Builder_WriteString_2 at h
  refine CallOK.ofB mixed tbOk strings_Builder_WriteString_2_lv Tryd.func70 rfl (by kernel_rfl) (Nat.le_of_ble_eq_true rfl) rfl rfl rfl ?_
  refine st_callc _ _ h (fun x1 hy => ((strings_Builder_copyCheck_2_ok h0_0 h0_1 x1 hy).fr [0] [0] rfl rfl rfl)) (fun x1 hy h => ?_)
  refine st_appso (a := h0_1) (b := p1) h rfl (fun x2 hi h => ?_)
  refine vrfl ?_
  refine Exists.intro _ (And.intro (Le.refl _ _ _) ?_)
  exact st_retc (t := t_strings_Builder_WriteString_2) (ss := fun o => ⟨[[.sp Tryd.prog 80 o.2.2.1 0 0, .own 0 5 1 (o.2.2.2.map (cNum .u8))]], [(o.2.2.2.map (cNum .u8)).length]⟩) h ⟨[0], rfl, .refl _, .refl _, rfl⟩
noncomputable def lex_machine_text_L1 (h0_0 : (List UInt8)) (h0_1 : Int) (h0_2 : (List api_Token)) (v4 : Int) (h1_0 : Bool) (h1_1 : (List Int)) : Option ((Int × Bool × (List Int)) ⊕ (Bool × (List Int))) :=
  ( if (decide (v4 < (h0_0.length : Int))) then
      idx h0_0 v4 >>= fun x5 =>
      some ((x5.toNat : Int) != 34)
    else
      some false : Option (Bool)) >>= fun o4 =>
  if o4 then
    utf_Next h0_0 v4 >>= fun x6 =>
    if (x6.1 == 92) then
      if ((wr (v4 + 1)) == (h0_0.length : Int)) then
        some (.inr (h1_0, h1_1))
      else
        idx h0_0 (wr (v4 + 1)) >>= fun x7 =>
        lex_escaped (x7.toNat : Int) >>= fun x8 =>
        if (!x8.2) then
          some (.inr (h1_0, h1_1))
        else
          strings_Builder_WriteByte_2 x8.1 h1_0 h1_1 >>= fun x9 =>
          lex_machine_text_L1 h0_0 h0_1 h0_2 (wr (v4 + 2)) x9.2.1 x9.2.2
    else
      ( if (x6.1 == 10) then
          some true
        else
          if (x6.1 == 13) then
            some true
          else
            if (x6.1 == 65533) then
              some (x6.2 == 1)
            else
              some false : Option (Bool)) >>= fun o10 =>
      if o10 then
        some (.inr (h1_0, h1_1))
      else
        cutL h0_0 v4 (wr (v4 + x6.2)) >>= fun x11 =>
        strings_Builder_WriteString_2 x11 h1_0 h1_1 >>= fun x12 =>
        lex_machine_text_L1 h0_0 h0_1 h0_2 (wr (v4 + x6.2)) x12.2.2.1 x12.2.2.2
  else
    some (.inl (v4, h1_0, h1_1))
  partial_fixpoint
set_option maxRecDepth 100000 in
set_option maxHeartbeats 4000000 in
theorem lex_machine_text_L1_grp : ∀ (h0_0 : (List UInt8)) (h0_1 : Int) (h0_2 : (List api_Token)), (∀ (v4 : Int) (h1_0 : Bool) (h1_1 : (List Int)) (o1 : (Int × Bool × (List Int)) ⊕ (Bool × (List Int))), lex_machine_text_L1 h0_0 h0_1 h0_2 v4 h1_0 h1_1 = some o1 → TL (1, 1) Tryd.prog 112 lex_machine_text_L1_c (JP2 (1, 1) 112 o1 (.exit 0) (lex_machine_text_L1_x0 h0_0 h0_1 h0_2) .ret (lex_machine_text_L1_x1 h0_0 h0_1 h0_2)) (lex_machine_text_L1_st h0_0 h0_1 h0_2 v4 h1_0 h1_1)) := by
  intro h0_0 h0_1 h0_2
  refine lex_machine_text_L1.partial_correctness h0_0 h0_1 h0_2 _ ?_
  intro lex_machine_text_L1' ih_lex_machine_text_L1 v4 h1_0 h1_1 o1 h
  refine TL.round (bwp_sound mixed tbOk (lv := lex_machine_text_lv) _ _ _ ?_)
  refine st_bind h (fun o4 ho hk => ?_)
  refine Exists.intro (JP1 _ _ o4 .normal (lex_machine_text_J0_0 h0_0 h0_1 h0_2 v4 h1_0 h1_1)) (And.intro ?_ (join1 ?_))
  · have h := ho
    refine vrfl ?_
    refine st_test h (fun hb h => ?_) (fun hb h => ?_)
    · refine st_sidx h (fun x5 hi h => ?_)
      refine JP1.a h ?_
      exact Le.tow 2 2 rfl (.cons rfl (.refl _) (.cons rfl (.refl _) (.cons rfl (.refl _) (.cons rfl (.refl _) (.nil))))) (.refl _) rfl
    · refine JP1.a h ?_
      exact Le.tow 2 2 rfl (.cons rfl (.refl _) (.cons rfl (.refl _) (.cons rfl (.refl _) (.cons rfl (.refl _) (.nil))))) (.refl _) rfl
  · have h := hk
    refine st_test h (fun hb h => ?_) (fun hb h => ?_)
    · refine st_call [sV h0_0, iV v4] t_utf_Next h (fun x6 hy => (utf_Next_ok h0_0 v4 x6 hy)) (fun x6 hy h => ?_)
      refine st_test h (fun hb h => ?_) (fun hb h => ?_)
      · refine vrfl ?_
        refine st_test h (fun hb h => ?_) (fun hb h => ?_)
        · exact JP2.b h (Le.tow 2 2 rfl (.cons rfl (.refl _) (.nil)) (.refl _) rfl)
        · refine st_sidx h (fun x7 hi h => ?_)
          refine st_call [nV .u8 (x7.toNat : Int)] t_lex_escaped h (fun x8 hy => (lex_escaped_ok (x7.toNat : Int) x8 hy)) (fun x8 hy h => ?_)
          refine st_test h (fun hb h => ?_) (fun hb h => ?_)
          · exact JP2.b h (Le.tow 2 2 rfl (.cons rfl (.refl _) (.nil)) (.refl _) rfl)
          · refine st_callc _ _ h (fun x9 hy => ((strings_Builder_WriteByte_2_ok x8.1 h1_0 h1_1 x9 hy).fr [1] [1] rfl rfl rfl)) (fun x9 hy h => ?_)
            refine TL.le (τ := lex_machine_text_L1_st h0_0 h0_1 h0_2 (wr (v4 + 2)) x9.2.1 x9.2.2) ?_ ((ih_lex_machine_text_L1 (wr (v4 + 2)) x9.2.1 x9.2.2 _ h))
            exact Le.tow 2 2 rfl (.cons rfl (.refl _) (.cons rfl (.refl _) (.cons rfl (.refl _) (.nil)))) (.refl _) rfl
      · refine st_bind h (fun o10 ho hk => ?_)
        refine Exists.intro (JP1 _ _ o10 .normal (lex_machine_text_J1_0 h0_0 h0_1 h0_2 v4 h1_0 h1_1 x6)) (And.intro ?_ (join1 ?_))
        · have h := ho
          refine st_test h (fun hb h => ?_) (fun hb h => ?_)
          · refine bT ?_
            refine JP1.a h ?_
            exact Le.tow 2 2 rfl (.cons rfl (.refl _) (.cons rfl (.refl _) (.cons rfl (.refl _) (.cons rfl (.refl _) (.cons rfl (.refl _) (.nil)))))) (.refl _) rfl
          · refine st_test h (fun hb h => ?_) (fun hb h => ?_)
            · refine JP1.a h ?_
              exact Le.tow 2 2 rfl (.cons rfl (.refl _) (.cons rfl (.refl _) (.cons rfl (.refl _) (.cons rfl (.refl _) (.cons rfl (.refl _) (.nil)))))) (.refl _) rfl
            · refine st_test h (fun hb h => ?_) (fun hb h => ?_)
              · refine JP1.a h ?_
                exact Le.tow 2 2 rfl (.cons rfl (.refl _) (.cons rfl (.refl _) (.cons rfl (.refl _) (.cons rfl (.refl _) (.cons rfl (.refl _) (.nil)))))) (.refl _) rfl
              · refine JP1.a h ?_
                exact Le.tow 2 2 rfl (.cons rfl (.refl _) (.cons rfl (.refl _) (.cons rfl (.refl _) (.cons rfl (.refl _) (.cons rfl (.refl _) (.nil)))))) (.refl _) rfl
        · have h := hk
          refine st_test h (fun hb h => ?_) (fun hb h => ?_)
          · exact JP2.b h (Le.tow 2 2 rfl (.cons rfl (.refl _) (.nil)) (.refl _) rfl)
          · refine st_cuts (some v4) (some (wr (v4 + x6.2))) h (fun x11 hi h => ?_)
            refine st_callc _ _ h (fun x12 hy => ((strings_Builder_WriteString_2_ok x11 h1_0 h1_1 x12 hy).fr [1] [1] rfl rfl rfl)) (fun x12 hy h => ?_)
            refine TL.le (τ := lex_machine_text_L1_st h0_0 h0_1 h0_2 (wr (v4 + x6.2)) x12.2.2.1 x12.2.2.2) ?_ ((ih_lex_machine_text_L1 (wr (v4 + x6.2)) x12.2.2.1 x12.2.2.2 _ h))
            exact Le.tow 2 2 rfl (.cons rfl (.refl _) (.cons rfl (.refl _) (.cons rfl (.refl _) (.nil)))) (.refl _) rfl
    · exact JP2.a h (Le.tow 2 2 rfl (.cons rfl (.refl _) (.cons rfl (.refl _) (.cons rfl (.refl _) (.nil)))) (.refl _) rfl)
theorem lex_machine_text_L1_ok : ∀ (h0_0 : (List UInt8)) (h0_1 : Int) (h0_2 : (List api_Token)) (v4 : Int) (h1_0 : Bool) (h1_1 : (List Int)) (o1 : (Int × Bool × (List Int)) ⊕ (Bool × (List Int))), lex_machine_text_L1 h0_0 h0_1 h0_2 v4 h1_0 h1_1 = some o1 → TL (1, 1) Tryd.prog 112 lex_machine_text_L1_c (JP2 (1, 1) 112 o1 (.exit 0) (lex_machine_text_L1_x0 h0_0 h0_1 h0_2) .ret (lex_machine_text_L1_x1 h0_0 h0_1 h0_2)) (lex_machine_text_L1_st h0_0 h0_1 h0_2 v4 h1_0 h1_1) := fun h0_0 h0_1 h0_2 v4 h1_0 h1_1 o1 h => (lex_machine_text_L1_grp h0_0 h0_1 h0_2) v4 h1_0 h1_1 o1 h
noncomputable def strings_Builder_String_2 (h0_0 : Bool) (h0_1 : (List Int)) : Option ((List UInt8)) :=
  b2s h0_1
set_option maxRecDepth 100000 in
set_option maxHeartbeats 4000000 in
theorem strings_Builder_String_2_ok : ∀ (h0_0 : Bool) (h0_1 : (List Int)) (o : (List UInt8)), strings_Builder_String_2 h0_0 h0_1 = some o → CallOK Tryd.prog 71 [.ptr 0 0] ⟨[[.sp Tryd.prog 80 h0_0 0 0, .own 0 5 1 (h0_1.map (cNum .u8))]], [(h0_1.map (cNum .u8)).length]⟩ (t_strings_Builder_String_2 o) ⟨[[.sp Tryd.prog 80 h0_0 0 0, .p (.sl false (h0_1.map (cNum .u8)))]], [((h0_1.map (cNum .u8)).length + 1)]⟩ := by
  intro h0_0 h0_1 o h
  unfold strings_Builder_String_2 at h
  exact builderString_ok [[.sp Tryd.prog 80 h0_0 0 0, .own 0 5 1 (h0_1.map (cNum .u8))]] [(h0_1.map (cNum .u8)).length] 0 0 [.sp Tryd.prog 80 h0_0 0 0, .own 0 5 1 (h0_1.map (cNum .u8))] (h0_1.map (cNum .u8)) rfl rfl rfl (b2s_cells h)
noncomputable def lex_machine_text (h0_0 : (List UInt8)) (h0_1 : Int) (h0_2 : (List api_Token)) : Option (Bool × Int × (List api_Token)) :=
  (lex_machine_text_L1 h0_0 h0_1 h0_2 (wr (h0_1 + 1)) false []) >>= fun o1 =>
  match o1 with
  | .inl y2 =>
    if (decide (y2.1 ≥ (h0_0.length : Int))) then
      some (false, h0_1, h0_2)
    else
      strings_Builder_String_2 y2.2.1 y2.2.2 >>= fun x13 =>
      lex_machine_put_2 5 x13 0 (wr ((wr (y2.1 + 1)) - h0_1)) h0_0 h0_1 h0_2 >>= fun x14 =>
      some (true, x14.1, x14.2)
  | .inr y3 =>
    some (false, h0_1, h0_2)
set_option maxRecDepth 100000 in
set_option maxHeartbeats 4000000 in
theorem lex_machine_text_ok : ∀ (h0_0 : (List UInt8)) (h0_1 : Int) (h0_2 : (List api_Token)) (o : Bool × Int × (List api_Token)), lex_machine_text h0_0 h0_1 h0_2 = some o → CallOK Tryd.prog 77 [.ptr 0 0] ⟨[[.p (sV h0_0), .p (iV h0_1), .own 0 42 5 (h0_2.map c_api_Token)]], [(h0_2.map c_api_Token).length]⟩ (t_lex_machine_text o) ⟨[[.p (sV h0_0), .p (iV o.2.1), .own 0 42 5 (o.2.2.map c_api_Token)]], [(o.2.2.map c_api_Token).length]⟩ := by
  intro h0_0 h0_1 h0_2 o h
  unfold lex_machine_text at h
  refine CallOK.ofB mixed tbOk lex_machine_text_lv Tryd.func77 rfl (by kernel_rfl) (Nat.le_of_ble_eq_true rfl) rfl rfl rfl ?_
  refine st_bind h (fun o1 ho hk => ?_)
  refine Exists.intro (JP2 _ _ o1 (.exit 0) (lex_machine_text_L1_x0 h0_0 h0_1 h0_2) .ret (lex_machine_text_L1_x1 h0_0 h0_1 h0_2)) (And.intro (T_le (τ := lex_machine_text_L1_st h0_0 h0_1 h0_2 (wr (h0_1 + 1)) false []) ?_ (TL.loop (lex_machine_text_L1_ok h0_0 h0_1 h0_2 (wr (h0_1 + 1)) false [] o1 ho))) (join2 (fun y2 hy => ?_) (fun y3 hy => ?_)))
  · exact (Le.ownH 1 1 5 1 rfl rfl sizeNil).trans (Le.tow 2 2 rfl (.cons rfl (.refl _) (.cons rfl (.refl _) (.cons rfl (.refl _) (.nil)))) (.refl _) rfl)
  · have h := (by rw [hy] at hk; exact hk)
    refine vrfl ?_
    refine st_test h (fun hb h => ?_) (fun hb h => ?_)
    · refine Exists.intro _ (And.intro (Le.refl _ _ _) ?_)
      exact st_retc (t := t_lex_machine_text) (ss := fun o => ⟨[[.p (sV h0_0), .p (iV o.2.1), .own 0 42 5 (o.2.2.map c_api_Token)]], [(o.2.2.map c_api_Token).length]⟩) h ⟨[0], rfl, .refl _, .refl _, rfl⟩
    · refine And.intro (by decide +kernel) (And.intro rfl ?_)
      refine st_callf _ _ h (fun x13 hy => ((strings_Builder_String_2_ok y2.2.1 y2.2.2 x13 hy).ff [1] [1] rfl rfl rfl rfl (Nat.le_of_ble_eq_true rfl))) (fun x13 hy h => ?_)
      refine st_callh _ _ h (fun x14 hy => ((lex_machine_put_2_ok 5 x13 0 (wr ((wr (y2.1 + 1)) - h0_1)) h0_0 h0_1 h0_2 x14 hy).fr [0] [0] rfl rfl rfl)) (fun x14 => Nat.le_of_ble_eq_true rfl) (fun x14 hy h => ?_)
      refine Exists.intro _ (And.intro (Le.refl _ _ _) ?_)
      exact st_retc (t := t_lex_machine_text) (ss := fun o => ⟨[[.p (sV h0_0), .p (iV o.2.1), .own 0 42 5 (o.2.2.map c_api_Token)]], [(o.2.2.map c_api_Token).length]⟩) h ⟨[0], rfl, .refl _, .refl _, rfl⟩
  · have h := (by rw [hy] at hk; exact hk)
    refine Exists.intro _ (And.intro (Le.refl _ _ _) ?_)
    exact st_retc (t := t_lex_machine_text) (ss := fun o => ⟨[[.p (sV h0_0), .p (iV o.2.1), .own 0 42 5 (o.2.2.map c_api_Token)]], [(o.2.2.map c_api_Token).length]⟩) h ⟨[0], rfl, .refl _, .refl _, rfl⟩
noncomputable def lex_Word_L1 (p0 : (List UInt8)) (v6 : Int) : Option (Unit ⊕ Unit) :=
  if (decide (v6 < (p0.length : Int))) then
    idx p0 v6 >>= fun x4 =>
    lex_letter (x4.toNat : Int) >>= fun x5 =>
    if (!x5) then
      some (.inr ())
    else
      lex_Word_L1 p0 (wr (v6 + 1))
  else
    some (.inl ())
  partial_fixpoint
set_option maxRecDepth 100000 in
set_option maxHeartbeats 4000000 in
theorem lex_Word_L1_grp : ∀ (p0 : (List UInt8)), (∀ (v6 : Int) (o1 : Unit ⊕ Unit), lex_Word_L1 p0 v6 = some o1 → TL (0, 0) Tryd.prog 27 lex_Word_L1_c (JP2 (0, 0) 27 o1 (.exit 0) (lex_Word_L1_x0 p0) .ret (lex_Word_L1_x1 p0)) (lex_Word_L1_st p0 v6)) := by
  intro p0
  refine lex_Word_L1.partial_correctness p0 _ ?_
  intro lex_Word_L1' ih_lex_Word_L1 v6 o1 h
  refine TL.round (bwp_sound mixed tbOk (lv := lex_Word_lv) _ _ _ ?_)
  refine st_test h (fun hb h => ?_) (fun hb h => ?_)
  · refine st_sidx h (fun x4 hi h => ?_)
    refine st_call [nV .u8 (x4.toNat : Int)] t_lex_letter h (fun x5 hy => (lex_letter_ok (x4.toNat : Int) x5 hy)) (fun x5 hy h => ?_)
    refine st_test h (fun hb h => ?_) (fun hb h => ?_)
    · exact JP2.b h (Le.tow 0 0 rfl (.cons rfl (.refl _) (.nil)) (.refl _) rfl)
    · refine TL.le (τ := lex_Word_L1_st p0 (wr (v6 + 1))) ?_ ((ih_lex_Word_L1 (wr (v6 + 1)) _ h))
      exact Le.tow 0 0 rfl (.cons rfl (.refl _) (.cons rfl (.refl _) (.cons rfl (.refl _) (.nil)))) (.refl _) rfl
  · exact JP2.a h (Le.tow 0 0 rfl (.cons rfl (.refl _) (.nil)) (.refl _) rfl)
theorem lex_Word_L1_ok : ∀ (p0 : (List UInt8)) (v6 : Int) (o1 : Unit ⊕ Unit), lex_Word_L1 p0 v6 = some o1 → TL (0, 0) Tryd.prog 27 lex_Word_L1_c (JP2 (0, 0) 27 o1 (.exit 0) (lex_Word_L1_x0 p0) .ret (lex_Word_L1_x1 p0)) (lex_Word_L1_st p0 v6) := fun p0 v6 o1 h => (lex_Word_L1_grp p0) v6 o1 h
noncomputable def lex_Word (p0 : (List UInt8)) : Option (Bool) :=
  (lex_Word_L1 p0 0) >>= fun o1 =>
  match o1 with
  | .inl y2 =>
    ( if (!(p0 == [])) then
        if (decide ((p0.length : Int) ≤ 32)) then
          idx p0 0 >>= fun x7 =>
          some (decide ((x7.toNat : Int) ≥ 97))
        else
          some false
      else
        some false : Option (Bool)) >>= fun o6 =>
    some o6
  | .inr y3 =>
    some false
set_option maxRecDepth 100000 in
set_option maxHeartbeats 4000000 in
theorem lex_Word_ok : ∀ (p0 : (List UInt8)) (o : Bool), lex_Word p0 = some o → PCall Tryd.prog 34 [sV p0] (t_lex_Word o) := by
  intro p0 o h
  unfold lex_Word at h
  refine PCall.ofB mixed tbOk lex_Word_lv Tryd.func34 rfl (by kernel_rfl) (Nat.le_of_ble_eq_true rfl) ?_
  refine vrfl ?_
  refine st_bind h (fun o1 ho hk => ?_)
  refine Exists.intro (JP2 _ _ o1 (.exit 0) (lex_Word_L1_x0 p0) .ret (lex_Word_L1_x1 p0)) (And.intro (T_le (τ := lex_Word_L1_st p0 0) ?_ (TL.loop (lex_Word_L1_ok p0 0 o1 ho))) (join2 (fun y2 hy => ?_) (fun y3 hy => ?_)))
  · exact Le.tow 0 0 rfl (.cons rfl (.refl _) (.cons rfl (.refl _) (.cons rfl (.refl _) (.nil)))) (.refl _) rfl
  · have h := (by rw [hy] at hk; exact hk)
    refine st_bind h (fun o6 ho hk => ?_)
    refine Exists.intro (JP1 _ _ o6 .normal (lex_Word_J0_0 )) (And.intro ?_ (join1 ?_))
    · have h := ho
      refine st_test h (fun hb h => ?_) (fun hb h => ?_)
      · refine vrfl ?_
        refine st_test h (fun hb h => ?_) (fun hb h => ?_)
        · refine st_sidx h (fun x7 hi h => ?_)
          refine JP1.a h ?_
          exact Le.tow 0 0 rfl (.cons rfl (.refl _) (.nil)) (.refl _) rfl
        · refine JP1.a h ?_
          exact Le.tow 0 0 rfl (.cons rfl (.refl _) (.nil)) (.refl _) rfl
      · refine bF ?_
        refine JP1.a h ?_
        exact Le.tow 0 0 rfl (.cons rfl (.refl _) (.nil)) (.refl _) rfl
    · have h := hk
      refine st_ret (t := t_lex_Word) h ?_
      exact .refl _
  · have h := (by rw [hy] at hk; exact hk)
    refine st_ret (t := t_lex_Word) h ?_
    exact .refl _
noncomputable def lex_machine_run_lex_letter_L1 (h0_0 : (List UInt8)) (h0_1 : Int) (h0_2 : (List api_Token)) (v7 : Int) : Option (Int) :=
  ( if (decide (v7 < (h0_0.length : Int))) then
      idx h0_0 v7 >>= fun x3 =>
      lex_letter (x3.toNat : Int) >>= fun x4 =>
      some x4
    else
      some false : Option (Bool)) >>= fun o2 =>
  if o2 then
    lex_machine_run_lex_letter_L1 h0_0 h0_1 h0_2 (wr (v7 + 1))
  else
    some v7
  partial_fixpoint
set_option maxRecDepth 100000 in
set_option maxHeartbeats 4000000 in
theorem lex_machine_run_lex_letter_L1_grp : ∀ (h0_0 : (List UInt8)) (h0_1 : Int) (h0_2 : (List api_Token)), (∀ (v7 : Int) (o1 : Int), lex_machine_run_lex_letter_L1 h0_0 h0_1 h0_2 v7 = some o1 → TL (1, 1) Tryd.prog 38 lex_machine_run_lex_letter_L1_c (JP1 (1, 1) 38 o1 (.exit 0) (lex_machine_run_lex_letter_L1_x0 h0_0 h0_1 h0_2)) (lex_machine_run_lex_letter_L1_st h0_0 h0_1 h0_2 v7)) := by
  intro h0_0 h0_1 h0_2
  refine lex_machine_run_lex_letter_L1.partial_correctness h0_0 h0_1 h0_2 _ ?_
  intro lex_machine_run_lex_letter_L1' ih_lex_machine_run_lex_letter_L1 v7 o1 h
  refine TL.round (bwp_sound mixed tbOk (lv := lex_machine_run_lex_letter_lv) _ _ _ ?_)
  refine st_bind h (fun o2 ho hk => ?_)
  refine Exists.intro (JP1 _ _ o2 .normal (lex_machine_run_lex_letter_J0_0 h0_0 h0_1 h0_2 v7)) (And.intro ?_ (join1 ?_))
  · have h := ho
    refine vrfl ?_
    refine st_test h (fun hb h => ?_) (fun hb h => ?_)
    · refine st_sidx h (fun x3 hi h => ?_)
      refine st_call [nV .u8 (x3.toNat : Int)] t_lex_letter h (fun x4 hy => (lex_letter_ok (x3.toNat : Int) x4 hy)) (fun x4 hy h => ?_)
      refine JP1.a h ?_
      exact Le.tow 1 1 rfl (.cons rfl (.refl _) (.cons rfl (.refl _) (.cons rfl (.refl _) (.cons rfl (.refl _) (.nil))))) (.refl _) rfl
    · refine JP1.a h ?_
      exact Le.tow 1 1 rfl (.cons rfl (.refl _) (.cons rfl (.refl _) (.cons rfl (.refl _) (.cons rfl (.refl _) (.nil))))) (.refl _) rfl
  · have h := hk
    refine st_test h (fun hb h => ?_) (fun hb h => ?_)
    · refine TL.le (τ := lex_machine_run_lex_letter_L1_st h0_0 h0_1 h0_2 (wr (v7 + 1))) ?_ ((ih_lex_machine_run_lex_letter_L1 (wr (v7 + 1)) _ h))
      exact Le.tow 1 1 rfl (.cons rfl (.refl _) (.cons rfl (.refl _) (.cons rfl (.refl _) (.nil)))) (.refl _) rfl
    · exact JP1.a h (Le.tow 1 1 rfl (.cons rfl (.refl _) (.cons rfl (.refl _) (.nil))) (.refl _) rfl)
end Go.Proofs.YtebkhehjfkmdiaaDoor
end
