/- The proof's texts, part 7 of 8: the walks by a logic in which data are by value, the plain laws, and at the end the law, for every input. -/
import Derived.Test.YtebkhehjfkmdiaaDoorMgLexSames6

section
set_option linter.unusedVariables false
set_option linter.unusedSimpArgs false
namespace Go.Proofs.YtebkhehjfkmdiaaDoor
open Go.RowKit

structure api_Token where
  Kind : Int
  Text : (List UInt8)
  N : Int
  From : Int
  To : Int
noncomputable def c_api_Token (x : api_Token) : List V := [iV x.Kind, sV x.Text, iV x.N, iV x.From, iV x.To]
structure S_c__k_ where
  c_ : Int
  k_ : Int
noncomputable def t_R18_Same (y : Bool) : D := .p (bV y)
noncomputable def R18_Same_lv : List (Nat × List Nat) := [(0, [0, 1]), (1, [0, 1, 10]), (2, [4]), (3, [0, 1, 5]), (4, [0, 1, 5, 14]), (5, [0, 1, 5]), (6, [0, 1, 5, 53]), (7, [4]), (8, [4]), (1000004, [0, 1, 5]), (3000006, [])]
noncomputable def R18_Same_J0_0 (p0 : (List api_Token)) (p1 : (List api_Token)) (v5 : Int) (o4 : Bool) : St := ⟨[(0, .p (.sl false (p0.map c_api_Token))), (1, .p (.sl false (p1.map c_api_Token))), (5, .p (iV v5)), (53, .p (bV o4))], ⟨[], []⟩⟩
noncomputable def R18_Same_L1_st (p0 : (List api_Token)) (p1 : (List api_Token)) (v5 : Int) : St := ⟨[(0, .p (.sl false (p0.map c_api_Token))), (1, .p (.sl false (p1.map c_api_Token))), (5, .p (iV v5))], ⟨[], []⟩⟩
noncomputable def R18_Same_L1_x0 (p0 : (List api_Token)) (p1 : (List api_Token)) (y2 : Unit) : St := ⟨[], ⟨[], []⟩⟩
noncomputable def R18_Same_L1_x1 (p0 : (List api_Token)) (p1 : (List api_Token)) (y3 : Unit) : St := ⟨[(4, .p (bV false))], ⟨[], []⟩⟩
noncomputable def R18_Same_L1_c : Code := ((loopsOf (Tryd.f31.body.getD .skip)).getD 0 .skip)
noncomputable def t_internal_stringslite_HasPrefix (y : Bool) : D := .p (bV y)
noncomputable def internal_stringslite_HasPrefix_lv : List (Nat × List Nat) := [(0, [0, 1]), (1, [4]), (3000001, [])]
noncomputable def internal_stringslite_HasPrefix_J0_0  (o1 : Bool) : St := ⟨[(4, .p (bV o1))], ⟨[], []⟩⟩
noncomputable def t_internal_stringslite_Index (y : Int) : D := .p (iV y)
noncomputable def t_lex_Same (y : Bool) : D := .p (bV y)
noncomputable def lex_Same_lv : List (Nat × List Nat) := [(0, [0, 1]), (1, [4])]
noncomputable def t_lex_Same_1 (y : Bool) : D := .p (bV y)
noncomputable def lex_Same_1_lv : List (Nat × List Nat) := [(0, [2, 3]), (1, [4]), (3000001, [])]
noncomputable def lex_Same_1_J0_0 (p0 : api_Token) (p1 : api_Token) (o1 : Bool) : St := ⟨[(4, .p (bV o1))], ⟨[[.p (iV p0.Kind), .p (sV p0.Text), .p (iV p0.N), .p (iV p0.From), .p (iV p0.To)], [.p (iV p1.Kind), .p (sV p1.Text), .p (iV p1.N), .p (iV p1.From), .p (iV p1.To)]], []⟩⟩
noncomputable def t_lex_Tokens (y : (List api_Token) × Int × Int) : D := .tup [.p (.sl false (y.1.map c_api_Token)), .p (iV y.2.1), .p (iV y.2.2)]
noncomputable def lex_Tokens_lv : List (Nat × List Nat) := [(0, [0]), (1, [0, 9]), (2, [2, 3, 4]), (3, [0, 5]), (4, [0, 5]), (5, [0, 5, 6]), (6, [0, 5, 6, 21]), (7, [0, 5, 6]), (8, [0, 5, 6, 30]), (9, [0, 5]), (10, [0, 5, 52]), (11, [2, 3, 4]), (12, [0, 5]), (13, [0, 5]), (14, [0, 5, 66]), (15, [0, 5, 6]), (16, [0, 5, 6, 75]), (17, [2, 3, 4]), (18, [0, 5]), (19, [0, 5]), (20, [0, 5, 93]), (21, [0, 5]), (22, [0, 5, 107]), (23, [2, 3, 4]), (2006005, []), (2008005, []), (2014015, []), (3000022, []), (5000009, [14])]
noncomputable def lex_Tokens_J0_0 (p0 : (List UInt8)) (w0 : Int × (List api_Token)) (o4 : Int) : St := ⟨[(0, .p (sV p0)), (5, .ptr 0 0), (6, .p (iV o4))], ⟨[[.p (sV p0), .p (iV w0.1), .own 0 42 5 (w0.2.map c_api_Token)]], [(w0.2.map c_api_Token).length]⟩⟩
noncomputable def lex_Tokens_J1_0 (p0 : (List UInt8)) (o5 : Int × (List api_Token)) : St := ⟨[(0, .p (sV p0)), (5, .ptr 0 0)], ⟨[[.p (sV p0), .p (iV o5.1), .own 0 42 5 (o5.2.map c_api_Token)]], [(o5.2.map c_api_Token).length]⟩⟩
noncomputable def lex_Tokens_J2_0 (p0 : (List UInt8)) (x8 : Int × (List api_Token)) (x9 : Int) (y11 : Int) : St := ⟨[(0, .p (sV p0)), (5, .ptr 0 0)], ⟨[[.p (sV p0), .p (iV y11), .own 0 42 5 (x8.2.map c_api_Token)]], [(x8.2.map c_api_Token).length]⟩⟩
noncomputable def lex_Tokens_J2_1 (p0 : (List UInt8)) (x8 : Int × (List api_Token)) (x9 : Int) (y12 : Unit) : St := ⟨[(2, .p (.sl true [])), (3, .p (iV (p0.length : Int))), (4, .p (iV 7))], ⟨[[.p (sV p0), .p (iV x9), .own 0 42 5 (x8.2.map c_api_Token)]], [(x8.2.map c_api_Token).length]⟩⟩
noncomputable def lex_Tokens_J3_0 (p0 : (List UInt8)) (o19 : Bool × Int × (List api_Token)) : St := ⟨[(0, .p (sV p0)), (5, .ptr 0 0), (107, .p (bV o19.1))], ⟨[[.p (sV p0), .p (iV o19.2.1), .own 0 42 5 (o19.2.2.map c_api_Token)]], [(o19.2.2.map c_api_Token).length]⟩⟩
noncomputable def lex_Tokens_S1_0_st (p0 : (List UInt8)) (w0 : Int × (List api_Token)) : St := ⟨[(0, .p (sV p0)), (5, .ptr 0 0)], ⟨[[.p (sV p0), .p (iV w0.1), .own 0 42 5 (w0.2.map c_api_Token)]], [(w0.2.map c_api_Token).length]⟩⟩
noncomputable def lex_Tokens_S1_1_st (p0 : (List UInt8)) (w1 : Int × (List api_Token)) : St := ⟨[(0, .p (sV p0)), (5, .ptr 0 0)], ⟨[[.p (sV p0), .p (iV w1.1), .own 0 42 5 (w1.2.map c_api_Token)]], [(w1.2.map c_api_Token).length]⟩⟩
noncomputable def lex_Tokens_S1_x0 (p0 : (List UInt8)) (o1 : (List api_Token) × Int × Int) : St := ⟨[(2, .p (.sl false (o1.1.map c_api_Token))), (3, .p (iV o1.2.1)), (4, .p (iV o1.2.2))], ⟨[], []⟩⟩
noncomputable def lex_Tokens_S1_c : Code := ((scopesOf (Tryd.f26.body.getD .skip)).getD 0 .skip)
noncomputable def t_lex_Word (y : Bool) : D := .p (bV y)
noncomputable def lex_Word_lv : List (Nat × List Nat) := [(0, [0]), (1, [0, 5, 6]), (2, [0, 5, 6, 7]), (3, [0, 3, 5, 6]), (4, [0, 5, 6, 13]), (5, [2]), (6, [0, 5, 6]), (7, [2]), (1000002, [0, 5, 6]), (3000007, [])]
noncomputable def lex_Word_L1_st (p0 : (List UInt8)) (v6 : Int) : St := ⟨[(0, .p (sV p0)), (5, .p (iV (p0.length : Int))), (6, .p (iV v6))], ⟨[], []⟩⟩
noncomputable def lex_Word_L1_x0 (p0 : (List UInt8)) (y2 : Unit) : St := ⟨[(0, .p (sV p0))], ⟨[], []⟩⟩
noncomputable def lex_Word_L1_x1 (p0 : (List UInt8)) (y3 : Unit) : St := ⟨[(2, .p (bV false))], ⟨[], []⟩⟩
noncomputable def lex_Word_L1_c : Code := ((loopsOf (Tryd.f34.body.getD .skip)).getD 0 .skip)
noncomputable def lex_Word_J0_0  (o6 : Bool) : St := ⟨[(2, .p (bV o6))], ⟨[], []⟩⟩
noncomputable def t_lex_digit (y : Bool) : D := .p (bV y)
noncomputable def lex_digit_lv : List (Nat × List Nat) := [(0, [0]), (1, [2]), (3000001, [])]
noncomputable def lex_digit_J0_0  (o1 : Bool) : St := ⟨[(2, .p (bV o1))], ⟨[], []⟩⟩
noncomputable def t_lex_escaped (y : Int × Bool) : D := .tup [.p (nV .u8 y.1), .p (bV y.2)]
noncomputable def lex_escaped_lv : List (Nat × List Nat) := [(0, [0]), (1, [0, 4]), (2, [0, 4, 5]), (3, [2, 3]), (4, [0, 7]), (5, [2, 3]), (6, [2, 3]), (3000006, [])]
noncomputable def lex_escaped_J0_0 (p0 : Int) (o1 : Bool) : St := ⟨[(2, .p (nV .u8 p0)), (3, .p (bV o1))], ⟨[], []⟩⟩
noncomputable def t_lex_letter (y : Bool) : D := .p (bV y)
noncomputable def lex_letter_lv : List (Nat × List Nat) := [(0, [0]), (1, [2]), (3000001, [])]
noncomputable def lex_letter_J0_0  (o1 : Bool) : St := ⟨[(2, .p (bV o1))], ⟨[], []⟩⟩
noncomputable def t_lex_machine_blanks_2 (_ : Int) : D := .tup []
noncomputable def lex_machine_blanks_2_lv : List (Nat × List Nat) := [(0, [])]
noncomputable def t_lex_machine_number (y : Bool × Int × (List api_Token)) : D := .p (bV y.1)
noncomputable def lex_machine_number_lv : List (Nat × List Nat) := [(0, [0]), (1, [0, 3]), (2, [0, 3, 4, 5]), (3, [0, 3, 4, 5, 18]), (4, [5]), (5, [2])]
noncomputable def t_lex_machine_put_2 (_ : Int × (List api_Token)) : D := .tup []
noncomputable def lex_machine_put_2_lv : List (Nat × List Nat) := [(0, [0, 4]), (1, [])]
noncomputable def t_lex_machine_run_lex_digit (y : (List UInt8)) : D := .p (sV y)
noncomputable def lex_machine_run_lex_digit_lv : List (Nat × List Nat) := [(0, [0, 1, 2]), (1, [0, 2, 7]), (2, [0, 2, 7, 25]), (3, [0, 2, 7]), (4, [6]), (1000002, [0, 2, 7]), (3000002, [])]
noncomputable def lex_machine_run_lex_digit_J0_0 (h0_0 : (List UInt8)) (h0_1 : Int) (h0_2 : (List api_Token)) (v7 : Int) (o2 : Bool) : St := ⟨[(0, .ptr 0 0), (2, .fn (.func 78) [] []), (7, .p (iV v7)), (25, .p (bV o2))], ⟨[[.p (sV h0_0), .p (iV h0_1), .own 0 42 5 (h0_2.map c_api_Token)]], [(h0_2.map c_api_Token).length]⟩⟩
noncomputable def lex_machine_run_lex_digit_L1_st (h0_0 : (List UInt8)) (h0_1 : Int) (h0_2 : (List api_Token)) (v7 : Int) : St := ⟨[(0, .ptr 0 0), (2, .fn (.func 78) [] []), (7, .p (iV v7))], ⟨[[.p (sV h0_0), .p (iV h0_1), .own 0 42 5 (h0_2.map c_api_Token)]], [(h0_2.map c_api_Token).length]⟩⟩
noncomputable def lex_machine_run_lex_digit_L1_x0 (h0_0 : (List UInt8)) (h0_1 : Int) (h0_2 : (List api_Token)) (o1 : Int) : St := ⟨[(0, .ptr 0 0), (7, .p (iV o1))], ⟨[[.p (sV h0_0), .p (iV h0_1), .own 0 42 5 (h0_2.map c_api_Token)]], [(h0_2.map c_api_Token).length]⟩⟩
noncomputable def lex_machine_run_lex_digit_L1_c : Code := ((loopsOf (Tryd.f101.body.getD .skip)).getD 0 .skip)
noncomputable def t_lex_machine_run_lex_letter (y : (List UInt8)) : D := .p (sV y)
noncomputable def lex_machine_run_lex_letter_lv : List (Nat × List Nat) := [(0, [0, 1, 2]), (1, [0, 2, 7]), (2, [0, 2, 7, 25]), (3, [0, 2, 7]), (4, [6]), (1000002, [0, 2, 7]), (3000002, [])]
noncomputable def lex_machine_run_lex_letter_J0_0 (h0_0 : (List UInt8)) (h0_1 : Int) (h0_2 : (List api_Token)) (v7 : Int) (o2 : Bool) : St := ⟨[(0, .ptr 0 0), (2, .fn (.func 62) [] []), (7, .p (iV v7)), (25, .p (bV o2))], ⟨[[.p (sV h0_0), .p (iV h0_1), .own 0 42 5 (h0_2.map c_api_Token)]], [(h0_2.map c_api_Token).length]⟩⟩
noncomputable def lex_machine_run_lex_letter_L1_st (h0_0 : (List UInt8)) (h0_1 : Int) (h0_2 : (List api_Token)) (v7 : Int) : St := ⟨[(0, .ptr 0 0), (2, .fn (.func 62) [] []), (7, .p (iV v7))], ⟨[[.p (sV h0_0), .p (iV h0_1), .own 0 42 5 (h0_2.map c_api_Token)]], [(h0_2.map c_api_Token).length]⟩⟩
noncomputable def lex_machine_run_lex_letter_L1_x0 (h0_0 : (List UInt8)) (h0_1 : Int) (h0_2 : (List api_Token)) (o1 : Int) : St := ⟨[(0, .ptr 0 0), (7, .p (iV o1))], ⟨[[.p (sV h0_0), .p (iV h0_1), .own 0 42 5 (h0_2.map c_api_Token)]], [(h0_2.map c_api_Token).length]⟩⟩
noncomputable def lex_machine_run_lex_letter_L1_c : Code := ((loopsOf (Tryd.f101.body.getD .skip)).getD 0 .skip)
noncomputable def t_lex_machine_sign (y : Bool × Int × (List api_Token)) : D := .p (bV y.1)
noncomputable def lex_machine_sign_lv : List (Nat × List Nat) := [(0, [0]), (1, [0, 3]), (2, [0, 12, 13]), (3, [0, 12, 13, 14]), (4, [0, 5, 12, 13]), (5, [0, 5, 12, 13, 27]), (6, []), (7, [2]), (8, [0, 12, 13]), (9, [2]), (1000003, [0, 12, 13])]
noncomputable def lex_machine_sign_L1_st (h0_0 : (List UInt8)) (h0_1 : Int) (h0_2 : (List api_Token)) (v13 : Int) : St := ⟨[(0, .ptr 0 0), (12, .p (.agg [nV .u8 46, iV 7, nV .u8 40, iV 8, nV .u8 41, iV 9, nV .u8 44, iV 10, nV .u8 61, iV 11])), (13, .p (iV v13))], ⟨[[.p (sV h0_0), .p (iV h0_1), .own 0 42 5 (h0_2.map c_api_Token)], [.p (nV .u8 46), .p (iV 7), .p (nV .u8 40), .p (iV 8), .p (nV .u8 41), .p (iV 9), .p (nV .u8 44), .p (iV 10), .p (nV .u8 61), .p (iV 11)]], [(h0_2.map c_api_Token).length]⟩⟩
noncomputable def lex_machine_sign_L1_x0 (h0_0 : (List UInt8)) (h0_1 : Int) (h0_2 : (List api_Token)) (y2 : Unit) : St := ⟨[], ⟨[[.p (sV h0_0), .p (iV h0_1), .own 0 42 5 (h0_2.map c_api_Token)], [.p (nV .u8 46), .p (iV 7), .p (nV .u8 40), .p (iV 8), .p (nV .u8 41), .p (iV 9), .p (nV .u8 44), .p (iV 10), .p (nV .u8 61), .p (iV 11)]], [(h0_2.map c_api_Token).length]⟩⟩
noncomputable def lex_machine_sign_L1_x1 (h0_0 : (List UInt8)) (h0_1 : Int) (h0_2 : (List api_Token)) (y3 : Int × (List api_Token)) : St := ⟨[(2, .p (bV true))], ⟨[[.p (sV h0_0), .p (iV y3.1), .own 0 42 5 (y3.2.map c_api_Token)], [.p (nV .u8 46), .p (iV 7), .p (nV .u8 40), .p (iV 8), .p (nV .u8 41), .p (iV 9), .p (nV .u8 44), .p (iV 10), .p (nV .u8 61), .p (iV 11)]], [(y3.2.map c_api_Token).length]⟩⟩
noncomputable def lex_machine_sign_L1_c : Code := ((loopsOf (Tryd.f81.body.getD .skip)).getD 0 .skip)
noncomputable def t_lex_machine_text (y : Bool × Int × (List api_Token)) : D := .p (bV y.1)
noncomputable def lex_machine_text_lv : List (Nat × List Nat) := [(0, [0]), (1, [0, 3]), (2, [0, 3, 4]), (3, [0, 3, 4, 29]), (4, [0, 3, 4, 5, 6]), (5, [0, 3, 4, 5, 6, 39]), (6, [0, 3, 4, 49]), (7, [2]), (8, [0, 3, 4, 7, 8]), (9, [0, 3, 4, 7, 62]), (10, [2]), (11, [0, 3, 4]), (12, [0, 3, 4]), (13, [0, 3, 4, 6, 67]), (14, [2]), (15, [0, 3, 4, 6]), (16, [0, 3, 4]), (17, [0, 3, 4, 101]), (18, [2]), (19, []), (20, [2]), (1000003, [0, 3, 4]), (3000003, []), (3000013, []), (5000019, [1, 9, 1001]), (8000019, [1])]
noncomputable def lex_machine_text_J0_0 (h0_0 : (List UInt8)) (h0_1 : Int) (h0_2 : (List api_Token)) (v4 : Int) (h1_0 : Bool) (h1_1 : (List Int)) (o4 : Bool) : St := ⟨[(0, .ptr 0 0), (3, .ptr 1 0), (4, .p (iV v4)), (29, .p (bV o4))], ⟨[[.p (sV h0_0), .p (iV h0_1), .own 0 42 5 (h0_2.map c_api_Token)], [.sp Tryd.prog 80 h1_0 1 0, .own 1 5 1 (h1_1.map (cNum .u8))]], [(h0_2.map c_api_Token).length, (h1_1.map (cNum .u8)).length]⟩⟩
noncomputable def lex_machine_text_J1_0 (h0_0 : (List UInt8)) (h0_1 : Int) (h0_2 : (List api_Token)) (v4 : Int) (h1_0 : Bool) (h1_1 : (List Int)) (x6 : Int × Int) (o10 : Bool) : St := ⟨[(0, .ptr 0 0), (3, .ptr 1 0), (4, .p (iV v4)), (6, .p (iV x6.2)), (67, .p (bV o10))], ⟨[[.p (sV h0_0), .p (iV h0_1), .own 0 42 5 (h0_2.map c_api_Token)], [.sp Tryd.prog 80 h1_0 1 0, .own 1 5 1 (h1_1.map (cNum .u8))]], [(h0_2.map c_api_Token).length, (h1_1.map (cNum .u8)).length]⟩⟩
noncomputable def lex_machine_text_L1_st (h0_0 : (List UInt8)) (h0_1 : Int) (h0_2 : (List api_Token)) (v4 : Int) (h1_0 : Bool) (h1_1 : (List Int)) : St := ⟨[(0, .ptr 0 0), (3, .ptr 1 0), (4, .p (iV v4))], ⟨[[.p (sV h0_0), .p (iV h0_1), .own 0 42 5 (h0_2.map c_api_Token)], [.sp Tryd.prog 80 h1_0 1 0, .own 1 5 1 (h1_1.map (cNum .u8))]], [(h0_2.map c_api_Token).length, (h1_1.map (cNum .u8)).length]⟩⟩
noncomputable def lex_machine_text_L1_x0 (h0_0 : (List UInt8)) (h0_1 : Int) (h0_2 : (List api_Token)) (y2 : Int × Bool × (List Int)) : St := ⟨[(0, .ptr 0 0), (3, .ptr 1 0), (4, .p (iV y2.1))], ⟨[[.p (sV h0_0), .p (iV h0_1), .own 0 42 5 (h0_2.map c_api_Token)], [.sp Tryd.prog 80 y2.2.1 1 0, .own 1 5 1 (y2.2.2.map (cNum .u8))]], [(h0_2.map c_api_Token).length, (y2.2.2.map (cNum .u8)).length]⟩⟩
noncomputable def lex_machine_text_L1_x1 (h0_0 : (List UInt8)) (h0_1 : Int) (h0_2 : (List api_Token)) (y3 : Bool × (List Int)) : St := ⟨[(2, .p (bV false))], ⟨[[.p (sV h0_0), .p (iV h0_1), .own 0 42 5 (h0_2.map c_api_Token)], [.sp Tryd.prog 80 y3.1 1 0, .own 1 5 1 (y3.2.map (cNum .u8))]], [(h0_2.map c_api_Token).length, (y3.2.map (cNum .u8)).length]⟩⟩
noncomputable def lex_machine_text_L1_c : Code := ((loopsOf (Tryd.f77.body.getD .skip)).getD 0 .skip)
noncomputable def t_lex_machine_token_2 (y : Bool × Int × (List api_Token)) : D := .p (bV y.1)
noncomputable def lex_machine_token_2_lv : List (Nat × List Nat) := [(0, [0]), (1, [0, 3]), (2, [0, 3, 13]), (3, [2]), (4, [0, 3, 18]), (5, [2]), (6, [0, 27]), (7, [2]), (8, [2]), (3000004, [])]
noncomputable def lex_machine_token_2_J0_0 (h0_0 : (List UInt8)) (h0_1 : Int) (h0_2 : (List api_Token)) (x1 : UInt8) (o3 : Bool) : St := ⟨[(0, .ptr 0 0), (3, .p (nV .u8 (x1.toNat : Int))), (18, .p (bV o3))], ⟨[[.p (sV h0_0), .p (iV h0_1), .own 0 42 5 (h0_2.map c_api_Token)]], [(h0_2.map c_api_Token).length]⟩⟩
noncomputable def t_lex_machine_word (y : Bool × Int × (List api_Token)) : D := .p (bV y.1)
noncomputable def lex_machine_word_lv : List (Nat × List Nat) := [(0, [0]), (1, [0, 3]), (2, [0, 3, 12]), (3, [2]), (4, []), (5, [2])]
noncomputable def t_nunciolaw18_LexSames (y : Bool) : D := .p (bV y)
noncomputable def nunciolaw18_LexSames_lv : List (Nat × List Nat) := [(0, [0, 1]), (1, [0, 1]), (2, [4]), (3000002, [])]
noncomputable def nunciolaw18_LexSames_J0_0  (o3 : Bool) : St := ⟨[(4, .p (bV o3))], ⟨[], []⟩⟩
noncomputable def t_nunciolaw18_awake (y : Bool) : D := .p (bV y)
noncomputable def nunciolaw18_awake_lv : List (Nat × List Nat) := [(0, []), (1, [1, 2, 3]), (2, [1, 2, 3, 5, 6]), (3, [1, 2, 3, 5, 6, 7, 9]), (4, [0]), (3000004, [])]
noncomputable def nunciolaw18_awake_J0_0  (o4 : Bool) : St := ⟨[(0, .p (bV o4))], ⟨[], []⟩⟩
noncomputable def t_octet_Begins (y : Bool) : D := .p (bV y)
noncomputable def octet_Begins_lv : List (Nat × List Nat) := [(0, [0, 1, 2]), (1, [6]), (3000001, [])]
noncomputable def octet_Begins_J0_0  (o1 : Bool) : St := ⟨[(6, .p (bV o1))], ⟨[], []⟩⟩
noncomputable def t_octet_Number (y : Int × Bool) : D := .tup [.p (iV y.1), .p (bV y.2)]
noncomputable def t_slices_EqualFunc_api_Token_api_Token_api_Token_api_Token_lex_Same_1 (y : Bool) : D := .p (bV y)
noncomputable def slices_EqualFunc_api_Token_api_Token_api_Token_api_Token_lex_Same_1_lv : List (Nat × List Nat) := [(0, [0, 1, 2]), (1, [0, 1, 2, 14]), (2, [6]), (3, [1, 2, 15, 16, 17]), (4, [1, 2, 15, 16, 17, 18]), (5, [1, 2, 7, 8, 15, 16, 17]), (6, [1, 2, 8, 9, 15, 16, 17]), (7, [1, 2, 15, 16, 17, 30]), (8, [6]), (9, [1, 2, 15, 16, 17]), (10, [6]), (1000004, [1, 2, 15, 16, 17])]
noncomputable def slices_EqualFunc_api_Token_api_Token_api_Token_api_Token_lex_Same_1_L1_st (p0 : (List api_Token)) (p1 : (List api_Token)) (v17 : Int) : St := ⟨[(1, .p (.sl false (p1.map c_api_Token))), (2, .fn (.func 59) [] []), (15, .p (.sl false (p0.map c_api_Token))), (16, .p (iV (p0.length : Int))), (17, .p (iV v17))], ⟨[], []⟩⟩
noncomputable def slices_EqualFunc_api_Token_api_Token_api_Token_api_Token_lex_Same_1_L1_x0 (p0 : (List api_Token)) (p1 : (List api_Token)) (y2 : Unit) : St := ⟨[], ⟨[], []⟩⟩
noncomputable def slices_EqualFunc_api_Token_api_Token_api_Token_api_Token_lex_Same_1_L1_x1 (p0 : (List api_Token)) (p1 : (List api_Token)) (y3 : Unit) : St := ⟨[(6, .p (bV false))], ⟨[], []⟩⟩
noncomputable def slices_EqualFunc_api_Token_api_Token_api_Token_api_Token_lex_Same_1_L1_c : Code := ((loopsOf (Tryd.f58.body.getD .skip)).getD 0 .skip)
noncomputable def t_strings_Builder_String_2 (y : (List UInt8)) : D := .p (sV y)
noncomputable def t_strings_Builder_WriteByte_2 (y : Unit × Bool × (List Int)) : D := .p (.v .nilIface)
noncomputable def strings_Builder_WriteByte_2_lv : List (Nat × List Nat) := [(0, [0, 1]), (1, [0, 1]), (2, []), (3, [4])]
noncomputable def t_strings_Builder_WriteString_2 (y : Int × Unit × Bool × (List Int)) : D := .tup [.p (iV y.1), .p (.v .nilIface)]
noncomputable def strings_Builder_WriteString_2_lv : List (Nat × List Nat) := [(0, [0, 1]), (1, [0, 1]), (2, [1]), (3, [4, 5])]
noncomputable def t_strings_Builder_copyCheck_2 (_ : Bool) : D := .tup []
noncomputable def t_strings_HasPrefix (y : Bool) : D := .p (bV y)
noncomputable def strings_HasPrefix_lv : List (Nat × List Nat) := [(0, [0, 1]), (1, [4])]
noncomputable def t_strings_Index (y : Int) : D := .p (iV y)
noncomputable def strings_Index_lv : List (Nat × List Nat) := [(0, [0, 1]), (1, [4])]
noncomputable def t_strings_TrimLeft (y : (List UInt8)) : D := .p (sV y)
noncomputable def t_utf_Next (y : Int × Int) : D := .tup [.p (nV .i32 y.1), .p (iV y.2)]
noncomputable def utf_Next_lv : List (Nat × List Nat) := [(0, [0, 1]), (1, [0, 1, 17]), (2, [4, 5]), (3, [0, 1, 6]), (4, [4, 5]), (5, [0, 1, 6, 21]), (6, [4, 5]), (7, [0, 1, 6, 26]), (8, [0, 1, 4, 7, 8]), (9, [0, 1, 6, 36]), (10, [0, 1, 4, 7, 8]), (11, [0, 1, 6, 46]), (12, [0, 1, 4, 7, 8]), (13, [4, 7, 8, 9]), (14, [4, 8, 77]), (15, [4, 5]), (16, [4, 5]), (2004022, []), (3000001, []), (3000007, []), (3000009, []), (3000011, []), (3000014, [])]
noncomputable def utf_Next_J0_0 (p0 : (List UInt8)) (p1 : Int) (o1 : Bool) : St := ⟨[(0, .p (sV p0)), (1, .p (iV p1)), (17, .p (bV o1))], ⟨[], []⟩⟩
noncomputable def utf_Next_J1_0 (p0 : (List UInt8)) (p1 : Int) (y4 : Int × Int × Int) : St := ⟨[(0, .p (sV p0)), (1, .p (iV p1)), (4, .p (nV .i32 y4.1)), (7, .p (nV .i32 y4.2.1)), (8, .p (iV y4.2.2))], ⟨[], []⟩⟩
noncomputable def utf_Next_J1_1 (p0 : (List UInt8)) (p1 : Int) (y5 : Int) : St := ⟨[(4, .p (nV .i32 y5)), (5, .p (iV 1))], ⟨[], []⟩⟩
noncomputable def utf_Next_J2_0 (p0 : (List UInt8)) (p1 : Int) (x2 : UInt8) (o6 : Bool) : St := ⟨[(0, .p (sV p0)), (1, .p (iV p1)), (6, .p (nV .u8 (x2.toNat : Int))), (26, .p (bV o6))], ⟨[], []⟩⟩
noncomputable def utf_Next_J3_0 (p0 : (List UInt8)) (p1 : Int) (x2 : UInt8) (o7 : Bool) : St := ⟨[(0, .p (sV p0)), (1, .p (iV p1)), (6, .p (nV .u8 (x2.toNat : Int))), (36, .p (bV o7))], ⟨[], []⟩⟩
noncomputable def utf_Next_J4_0 (p0 : (List UInt8)) (p1 : Int) (x2 : UInt8) (o8 : Bool) : St := ⟨[(0, .p (sV p0)), (1, .p (iV p1)), (6, .p (nV .u8 (x2.toNat : Int))), (46, .p (bV o8))], ⟨[], []⟩⟩
noncomputable def utf_Next_J5_0 (y4 : Int × Int × Int) (x10 : Int × Bool) (o11 : Bool) : St := ⟨[(4, .p (nV .i32 x10.1)), (8, .p (iV y4.2.2)), (77, .p (bV o11))], ⟨[], []⟩⟩
noncomputable def t_utf_is (y : Bool) : D := .p (bV y)
noncomputable def utf_is_lv : List (Nat × List Nat) := [(0, [0]), (1, [2]), (3000001, [])]
noncomputable def utf_is_J0_0  (o1 : Bool) : St := ⟨[(2, .p (bV o1))], ⟨[], []⟩⟩
noncomputable def t_utf_tail (y : Int × Bool) : D := .tup [.p (nV .i32 y.1), .p (bV y.2)]
noncomputable def utf_tail_lv : List (Nat × List Nat) := [(0, [0, 1, 2]), (1, [0, 1, 2, 12]), (2, [6, 7]), (3, [0, 1, 13, 14]), (4, [0, 1, 13, 14, 15]), (5, [0, 1, 8, 13, 14]), (6, [0, 1, 8, 13, 14, 21]), (7, [6, 7]), (8, [0, 1, 13, 14]), (9, [0, 1, 13, 14]), (10, [6, 7]), (1000004, [0, 1, 13, 14])]
noncomputable def utf_tail_L1_st (p0 : (List UInt8)) (p2 : Int) (v1 : Int) (v14 : Int) : St := ⟨[(0, .p (sV p0)), (1, .p (nV .i32 v1)), (13, .p (iV p2)), (14, .p (iV v14))], ⟨[], []⟩⟩
noncomputable def utf_tail_L1_x0 (p0 : (List UInt8)) (p2 : Int) (y2 : Int) : St := ⟨[(1, .p (nV .i32 y2))], ⟨[], []⟩⟩
noncomputable def utf_tail_L1_x1 (p0 : (List UInt8)) (p2 : Int) (y3 : Unit) : St := ⟨[(6, .p (nV .i32 0)), (7, .p (bV false))], ⟨[], []⟩⟩
noncomputable def utf_tail_L1_c : Code := ((loopsOf (Tryd.f72.body.getD .skip)).getD 0 .skip)
noncomputable def R18_Same_L1 (p0 : (List api_Token)) (p1 : (List api_Token)) (v5 : Int) : Option (Unit ⊕ Unit) :=
  if (decide (v5 < (p0.length : Int))) then
    ( idx p0 v5 >>= fun x5 =>
      idx p1 v5 >>= fun x6 =>
      if (x5.Kind != x6.Kind) then
        some true
      else
        idx p0 v5 >>= fun x7 =>
        idx p1 v5 >>= fun x8 =>
        if (!(x7.Text == x8.Text)) then
          some true
        else
          idx p0 v5 >>= fun x9 =>
          idx p1 v5 >>= fun x10 =>
          some (x9.N != x10.N) : Option (Bool)) >>= fun o4 =>
    if o4 then
      some (.inr ())
    else
      R18_Same_L1 p0 p1 (wr (v5 + 1))
  else
    some (.inl ())
  partial_fixpoint
set_option maxRecDepth 100000 in
set_option maxHeartbeats 4000000 in
theorem R18_Same_L1_grp : ∀ (p0 : (List api_Token)) (p1 : (List api_Token)), (∀ (v5 : Int) (o1 : Unit ⊕ Unit), R18_Same_L1 p0 p1 v5 = some o1 → TL (0, 0) Tryd.prog 54 R18_Same_L1_c (JP2 (0, 0) 54 o1 (.exit 0) (R18_Same_L1_x0 p0 p1) .ret (R18_Same_L1_x1 p0 p1)) (R18_Same_L1_st p0 p1 v5)) := by
  intro p0 p1
  refine R18_Same_L1.partial_correctness p0 p1 _ ?_
  intro R18_Same_L1' ih_R18_Same_L1 v5 o1 h
  refine TL.round (bwp_sound mixed tbOk (lv := R18_Same_lv) _ _ _ ?_)
  refine view (lenMap _ _) rfl ?_
  refine st_test h (fun hb h => ?_) (fun hb h => ?_)
  · refine st_bind h (fun o4 ho hk => ?_)
    refine Exists.intro (JP1 _ _ o4 .normal (R18_Same_J0_0 p0 p1 v5)) (And.intro ?_ (join1 ?_))
    · have h := ho
      refine And.intro (by decide +kernel) (And.intro rfl ?_)
      refine st_idx (l := p0) (c := c_api_Token) (c' := c_api_Token) h (fun _ => rfl) (fun _ => rfl) (by decide) (fun x5 hi h => ?_)
      refine st_idx (l := p1) (c := c_api_Token) (c' := c_api_Token) h (fun _ => rfl) (fun _ => rfl) (by decide) (fun x6 hi h => ?_)
      refine st_test h (fun hb h => ?_) (fun hb h => ?_)
      · refine bT ?_
        refine JP1.a h ?_
        exact Le.tow 0 0 rfl (.cons rfl (.refl _) (.cons rfl (.refl _) (.cons rfl (.refl _) (.cons rfl (.refl _) (.nil))))) (.refl _) rfl
      · refine st_idx (l := p0) (c := c_api_Token) (c' := c_api_Token) h (fun _ => rfl) (fun _ => rfl) (by decide) (fun x7 hi h => ?_)
        refine st_idx (l := p1) (c := c_api_Token) (c' := c_api_Token) h (fun _ => rfl) (fun _ => rfl) (by decide) (fun x8 hi h => ?_)
        refine st_test h (fun hb h => ?_) (fun hb h => ?_)
        · refine JP1.a h ?_
          exact Le.tow 0 0 rfl (.cons rfl (.refl _) (.cons rfl (.refl _) (.cons rfl (.refl _) (.cons rfl (.refl _) (.nil))))) (.refl _) rfl
        · refine st_idx (l := p0) (c := c_api_Token) (c' := c_api_Token) h (fun _ => rfl) (fun _ => rfl) (by decide) (fun x9 hi h => ?_)
          refine st_idx (l := p1) (c := c_api_Token) (c' := c_api_Token) h (fun _ => rfl) (fun _ => rfl) (by decide) (fun x10 hi h => ?_)
          refine JP1.a h ?_
          exact Le.tow 0 0 rfl (.cons rfl (.refl _) (.cons rfl (.refl _) (.cons rfl (.refl _) (.cons rfl (.refl _) (.nil))))) (.refl _) rfl
    · have h := hk
      refine st_test h (fun hb h => ?_) (fun hb h => ?_)
      · exact JP2.b h (Le.tow 0 0 rfl (.cons rfl (.refl _) (.nil)) (.refl _) rfl)
      · refine TL.le (τ := R18_Same_L1_st p0 p1 (wr (v5 + 1))) ?_ ((ih_R18_Same_L1 (wr (v5 + 1)) _ h))
        exact Le.tow 0 0 rfl (.cons rfl (.refl _) (.cons rfl (.refl _) (.cons rfl (.refl _) (.nil)))) (.refl _) rfl
  · exact JP2.a h (Le.tow 0 0 rfl (.nil) (.refl _) rfl)
theorem R18_Same_L1_ok : ∀ (p0 : (List api_Token)) (p1 : (List api_Token)) (v5 : Int) (o1 : Unit ⊕ Unit), R18_Same_L1 p0 p1 v5 = some o1 → TL (0, 0) Tryd.prog 54 R18_Same_L1_c (JP2 (0, 0) 54 o1 (.exit 0) (R18_Same_L1_x0 p0 p1) .ret (R18_Same_L1_x1 p0 p1)) (R18_Same_L1_st p0 p1 v5) := fun p0 p1 v5 o1 h => (R18_Same_L1_grp p0 p1) v5 o1 h
noncomputable def R18_Same (p0 : (List api_Token)) (p1 : (List api_Token)) : Option (Bool) :=
  if ((p0.length : Int) != (p1.length : Int)) then
    some false
  else
    (R18_Same_L1 p0 p1 0) >>= fun o1 =>
    match o1 with
    | .inl y2 =>
      some true
    | .inr y3 =>
      some false
set_option maxRecDepth 100000 in
set_option maxHeartbeats 4000000 in
theorem R18_Same_ok : ∀ (p0 : (List api_Token)) (p1 : (List api_Token)) (o : Bool), R18_Same p0 p1 = some o → PCall Tryd.prog 31 [.sl false (p0.map c_api_Token), .sl false (p1.map c_api_Token)] (t_R18_Same o) := by
  intro p0 p1 o h
  unfold R18_Same at h
  refine PCall.ofB mixed tbOk R18_Same_lv Tryd.func31 rfl (by kernel_rfl) (Nat.le_of_ble_eq_true rfl) ?_
  refine view (lenMap _ _) rfl ?_
  refine view (lenMap _ _) rfl ?_
  refine st_test h (fun hb h => ?_) (fun hb h => ?_)
  · refine st_ret (t := t_R18_Same) h ?_
    exact .refl _
  · refine st_bind h (fun o1 ho hk => ?_)
    refine Exists.intro (JP2 _ _ o1 (.exit 0) (R18_Same_L1_x0 p0 p1) .ret (R18_Same_L1_x1 p0 p1)) (And.intro (T_le (τ := R18_Same_L1_st p0 p1 0) ?_ (TL.loop (R18_Same_L1_ok p0 p1 0 o1 ho))) (join2 (fun y2 hy => ?_) (fun y3 hy => ?_)))
    · exact Le.tow 0 0 rfl (.cons rfl (.refl _) (.cons rfl (.refl _) (.cons rfl (.refl _) (.nil)))) (.refl _) rfl
    · have h := (by rw [hy] at hk; exact hk)
      refine st_ret (t := t_R18_Same) h ?_
      exact .refl _
    · have h := (by rw [hy] at hk; exact hk)
      refine st_ret (t := t_R18_Same) h ?_
      exact .refl _
noncomputable def internal_stringslite_HasPrefix (p0 : (List UInt8)) (p1 : (List UInt8)) : Option (Bool) :=
  ( if (decide ((p0.length : Int) ≥ (p1.length : Int))) then
      cutL p0 0 (p1.length : Int) >>= fun x2 =>
      some (x2 == p1)
    else
      some false : Option (Bool)) >>= fun o1 =>
  some o1
set_option maxRecDepth 100000 in
set_option maxHeartbeats 4000000 in
theorem internal_stringslite_HasPrefix_ok : ∀ (p0 : (List UInt8)) (p1 : (List UInt8)) (o : Bool), internal_stringslite_HasPrefix p0 p1 = some o → PCall Tryd.prog 98 [sV p0, sV p1] (t_internal_stringslite_HasPrefix o) := by
  intro p0 p1 o h
  unfold internal_stringslite_HasPrefix at h
  refine PCall.ofB mixed tbOk internal_stringslite_HasPrefix_lv Tryd.func98 rfl (by kernel_rfl) (Nat.le_of_ble_eq_true rfl) ?_
  refine st_bind h (fun o1 ho hk => ?_)
  refine Exists.intro (JP1 _ _ o1 .normal (internal_stringslite_HasPrefix_J0_0 )) (And.intro ?_ (join1 ?_))
  · have h := ho
    refine vrfl ?_
    refine vrfl ?_
    refine st_test h (fun hb h => ?_) (fun hb h => ?_)
    · refine vrfl ?_
      refine st_cuts none (some (p1.length : Int)) h (fun x2 hi h => ?_)
      refine JP1.a h ?_
      exact Le.tow 0 0 rfl (.cons rfl (.refl _) (.nil)) (.refl _) rfl
    · refine JP1.a h ?_
      exact Le.tow 0 0 rfl (.cons rfl (.refl _) (.nil)) (.refl _) rfl
  · have h := hk
    refine st_ret (t := t_internal_stringslite_HasPrefix) h ?_
    exact .refl _
noncomputable def internal_stringslite_Index (p0 : (List UInt8)) (p1 : (List UInt8)) : Option (Int) :=
  need (p0.length < 4294967281) >>= fun _ =>
  some (Lib.index p0 p1)
set_option maxRecDepth 100000 in
set_option maxHeartbeats 4000000 in
theorem internal_stringslite_Index_ok : ∀ (p0 : (List UInt8)) (p1 : (List UInt8)) (o : Int), internal_stringslite_Index p0 p1 = some o → PCall Tryd.prog 74 [sV p0, sV p1] (t_internal_stringslite_Index o) := by
  intro p0 p1 o h
  unfold internal_stringslite_Index at h
  obtain ⟨h1, h⟩ := need_some h
  cases h
  exact index_ok _ _ h1
noncomputable def utf_is (p0 : Int) : Option (Bool) :=
  ( if (decide (p0 ≥ 0)) then
      if (decide (p0 ≤ 1114111)) then
        if (decide (p0 < 55296)) then
          some true
        else
          some (decide (p0 > 57343))
      else
        some false
    else
      some false : Option (Bool)) >>= fun o1 =>
  some o1
set_option maxRecDepth 100000 in
set_option maxHeartbeats 4000000 in
theorem utf_is_ok : ∀ (p0 : Int) (o : Bool), utf_is p0 = some o → PCall Tryd.prog 73 [nV .i32 p0] (t_utf_is o) := by
  intro p0 o h
  unfold utf_is at h
  refine PCall.ofB mixed tbOk utf_is_lv Tryd.func73 rfl (by kernel_rfl) (Nat.le_of_ble_eq_true rfl) ?_
  refine st_bind h (fun o1 ho hk => ?_)
  refine Exists.intro (JP1 _ _ o1 .normal (utf_is_J0_0 )) (And.intro ?_ (join1 ?_))
  · have h := ho
    refine st_test h (fun hb h => ?_) (fun hb h => ?_)
    · refine st_test h (fun hb h => ?_) (fun hb h => ?_)
      · refine st_test h (fun hb h => ?_) (fun hb h => ?_)
        · refine JP1.a h ?_
          exact Le.tow 0 0 rfl (.cons rfl (.refl _) (.nil)) (.refl _) rfl
        · refine JP1.a h ?_
          exact Le.tow 0 0 rfl (.cons rfl (.refl _) (.nil)) (.refl _) rfl
      · refine JP1.a h ?_
        exact Le.tow 0 0 rfl (.cons rfl (.refl _) (.nil)) (.refl _) rfl
    · refine bF ?_
      refine JP1.a h ?_
      exact Le.tow 0 0 rfl (.cons rfl (.refl _) (.nil)) (.refl _) rfl
  · have h := hk
    refine st_ret (t := t_utf_is) h ?_
    exact .refl _
noncomputable def utf_tail_L1 (p0 : (List UInt8)) (p2 : Int) (v1 : Int) (v14 : Int) : Option (Int ⊕ Unit) :=
  if (decide (v14 < p2)) then
    idx p0 v14 >>= fun x4 =>
    if ((bits .and .u8 (x4.toNat : Int) 192) != 128) then
      some (.inr ())
    else
      idx p0 v14 >>= fun x5 =>
      utf_tail_L1 p0 p2 (bits .or .i32 (IntKind.i32.wrap (v1 * 2 ^ (min (6 : Int).toNat (IntKind.i32.bits)))) (IntKind.i32.wrap (bits .and .u8 (x5.toNat : Int) 63))) (wr (v14 + 1))
  else
    some (.inl v1)
  partial_fixpoint
set_option maxRecDepth 100000 in
set_option maxHeartbeats 4000000 in
theorem utf_tail_L1_grp : ∀ (p0 : (List UInt8)) (p2 : Int), (∀ (v1 : Int) (v14 : Int) (o1 : Int ⊕ Unit), utf_tail_L1 p0 p2 v1 v14 = some o1 → TL (0, 0) Tryd.prog 32 utf_tail_L1_c (JP2 (0, 0) 32 o1 (.exit 0) (utf_tail_L1_x0 p0 p2) .ret (utf_tail_L1_x1 p0 p2)) (utf_tail_L1_st p0 p2 v1 v14)) := by
  intro p0 p2
  refine utf_tail_L1.partial_correctness p0 p2 _ ?_
  intro utf_tail_L1' ih_utf_tail_L1 v1 v14 o1 h
  refine TL.round (bwp_sound mixed tbOk (lv := utf_tail_lv) _ _ _ ?_)
  refine st_test h (fun hb h => ?_) (fun hb h => ?_)
  · refine st_sidx h (fun x4 hi h => ?_)
    refine st_test h (fun hb h => ?_) (fun hb h => ?_)
    · exact JP2.b h (Le.tow 0 0 rfl (.cons rfl (.refl _) (.cons rfl (.refl _) (.nil))) (.refl _) rfl)
    · refine And.intro (by decide) ?_
      refine st_sidx h (fun x5 hi h => ?_)
      refine vrfl ?_
      refine TL.le (τ := utf_tail_L1_st p0 p2 (bits .or .i32 (IntKind.i32.wrap (v1 * 2 ^ (min (6 : Int).toNat (IntKind.i32.bits)))) (IntKind.i32.wrap (bits .and .u8 (x5.toNat : Int) 63))) (wr (v14 + 1))) ?_ ((ih_utf_tail_L1 (bits .or .i32 (IntKind.i32.wrap (v1 * 2 ^ (min (6 : Int).toNat (IntKind.i32.bits)))) (IntKind.i32.wrap (bits .and .u8 (x5.toNat : Int) 63))) (wr (v14 + 1)) _ h))
      exact Le.tow 0 0 rfl (.cons rfl (.refl _) (.cons rfl (.refl _) (.cons rfl (.refl _) (.cons rfl (.refl _) (.nil))))) (.refl _) rfl
  · exact JP2.a h (Le.tow 0 0 rfl (.cons rfl (.refl _) (.nil)) (.refl _) rfl)
theorem utf_tail_L1_ok : ∀ (p0 : (List UInt8)) (p2 : Int) (v1 : Int) (v14 : Int) (o1 : Int ⊕ Unit), utf_tail_L1 p0 p2 v1 v14 = some o1 → TL (0, 0) Tryd.prog 32 utf_tail_L1_c (JP2 (0, 0) 32 o1 (.exit 0) (utf_tail_L1_x0 p0 p2) .ret (utf_tail_L1_x1 p0 p2)) (utf_tail_L1_st p0 p2 v1 v14) := fun p0 p2 v1 v14 o1 h => (utf_tail_L1_grp p0 p2) v1 v14 o1 h
noncomputable def utf_tail (p0 : (List UInt8)) (p1 : Int) (p2 : Int) : Option (Int × Bool) :=
  if (decide ((p0.length : Int) < p2)) then
    some (0, false)
  else
    (utf_tail_L1 p0 p2 p1 0) >>= fun o1 =>
    match o1 with
    | .inl y2 =>
      some (y2, true)
    | .inr y3 =>
      some (0, false)
set_option maxRecDepth 100000 in
set_option maxHeartbeats 4000000 in
theorem utf_tail_ok : ∀ (p0 : (List UInt8)) (p1 : Int) (p2 : Int) (o : Int × Bool), utf_tail p0 p1 p2 = some o → PCall Tryd.prog 72 [sV p0, nV .i32 p1, iV p2] (t_utf_tail o) := by
  intro p0 p1 p2 o h
  unfold utf_tail at h
  refine PCall.ofB mixed tbOk utf_tail_lv Tryd.func72 rfl (by kernel_rfl) (Nat.le_of_ble_eq_true rfl) ?_
  refine vrfl ?_
  refine st_test h (fun hb h => ?_) (fun hb h => ?_)
  · refine st_ret (t := t_utf_tail) h ?_
    exact .refl _
  · refine st_bind h (fun o1 ho hk => ?_)
    refine Exists.intro (JP2 _ _ o1 (.exit 0) (utf_tail_L1_x0 p0 p2) .ret (utf_tail_L1_x1 p0 p2)) (And.intro (T_le (τ := utf_tail_L1_st p0 p2 p1 0) ?_ (TL.loop (utf_tail_L1_ok p0 p2 p1 0 o1 ho))) (join2 (fun y2 hy => ?_) (fun y3 hy => ?_)))
    · exact Le.tow 0 0 rfl (.cons rfl (.refl _) (.cons rfl (.refl _) (.cons rfl (.refl _) (.cons rfl (.refl _) (.nil))))) (.refl _) rfl
    · have h := (by rw [hy] at hk; exact hk)
      refine st_ret (t := t_utf_tail) h ?_
      exact .refl _
    · have h := (by rw [hy] at hk; exact hk)
      refine st_ret (t := t_utf_tail) h ?_
      exact .refl _
noncomputable def utf_Next (p0 : (List UInt8)) (p1 : Int) : Option (Int × Int) :=
  ( if (decide (p1 < 0)) then
      some true
    else
      some (decide (p1 ≥ (p0.length : Int))) : Option (Bool)) >>= fun o1 =>
  if o1 then
    some (0, 0)
  else
    idx p0 p1 >>= fun x2 =>
    ( if (decide ((x2.toNat : Int) < 128)) then
        some (.inr (IntKind.i32.wrap (x2.toNat : Int)))
      else
        ( if (decide ((x2.toNat : Int) ≥ 192)) then
            some (decide ((x2.toNat : Int) < 224))
          else
            some false : Option (Bool)) >>= fun o6 =>
        if o6 then
          some (.inl ((IntKind.i32.wrap (bits .and .u8 (x2.toNat : Int) 31)), 128, 1))
        else
          ( if (decide ((x2.toNat : Int) ≥ 224)) then
              some (decide ((x2.toNat : Int) < 240))
            else
              some false : Option (Bool)) >>= fun o7 =>
          if o7 then
            some (.inl ((IntKind.i32.wrap (bits .and .u8 (x2.toNat : Int) 15)), 2048, 2))
          else
            ( if (decide ((x2.toNat : Int) ≥ 240)) then
                some (decide ((x2.toNat : Int) < 248))
              else
                some false : Option (Bool)) >>= fun o8 =>
            if o8 then
              some (.inl ((IntKind.i32.wrap (bits .and .u8 (x2.toNat : Int) 7)), 65536, 3))
            else
              some (.inr 65533) : Option ((Int × Int × Int) ⊕ Int)) >>= fun o3 =>
    match o3 with
    | .inl y4 =>
      cutL p0 (wr (p1 + 1)) (p0.length : Int) >>= fun x9 =>
      utf_tail x9 y4.1 y4.2.2 >>= fun x10 =>
      ( if (!x10.2) then
          some true
        else
          if (decide (x10.1 < y4.2.1)) then
            some true
          else
            utf_is x10.1 >>= fun x12 =>
            some (!x12) : Option (Bool)) >>= fun o11 =>
      if o11 then
        some (65533, 1)
      else
        some (x10.1, (wr (y4.2.2 + 1)))
    | .inr y5 =>
      some (y5, 1)
set_option maxRecDepth 100000 in
set_option maxHeartbeats 4000000 in
theorem utf_Next_ok : ∀ (p0 : (List UInt8)) (p1 : Int) (o : Int × Int), utf_Next p0 p1 = some o → PCall Tryd.prog 43 [sV p0, iV p1] (t_utf_Next o) := by
  intro p0 p1 o h
  unfold utf_Next at h
  refine PCall.ofB mixed tbOk utf_Next_lv Tryd.func43 rfl (by kernel_rfl) (Nat.le_of_ble_eq_true rfl) ?_
  refine st_bind h (fun o1 ho hk => ?_)
  refine Exists.intro (JP1 _ _ o1 .normal (utf_Next_J0_0 p0 p1)) (And.intro ?_ (join1 ?_))
  · have h := ho
    refine st_test h (fun hb h => ?_) (fun hb h => ?_)
    · refine JP1.a h ?_
      exact Le.tow 0 0 rfl (.cons rfl (.refl _) (.cons rfl (.refl _) (.cons rfl (.refl _) (.nil)))) (.refl _) rfl
    · refine vrfl ?_
      refine JP1.a h ?_
      exact Le.tow 0 0 rfl (.cons rfl (.refl _) (.cons rfl (.refl _) (.cons rfl (.refl _) (.nil)))) (.refl _) rfl
  · have h := hk
    refine st_test h (fun hb h => ?_) (fun hb h => ?_)
    · refine st_ret (t := t_utf_Next) h ?_
      exact .refl _
    · refine st_sidx h (fun x2 hi h => ?_)
      refine st_bind h (fun o3 ho hk => ?_)
      refine Exists.intro (JP2 _ _ o3 .normal (utf_Next_J1_0 p0 p1) .ret (utf_Next_J1_1 p0 p1)) (And.intro ?_ (join2 (fun y4 hy => ?_) (fun y5 hy => ?_)))
      · have h := ho
        refine st_test h (fun hb h => ?_) (fun hb h => ?_)
        · refine vrfl ?_
          refine JP2.b h ?_
          exact Le.tow 0 0 rfl (.cons rfl (.refl _) (.cons rfl (.refl _) (.nil))) (.refl _) rfl
        · refine st_bind h (fun o6 ho hk => ?_)
          refine Exists.intro (JP1 _ _ o6 .normal (utf_Next_J2_0 p0 p1 x2)) (And.intro ?_ (join1 ?_))
          · have h := ho
            refine st_test h (fun hb h => ?_) (fun hb h => ?_)
            · refine JP1.a h ?_
              exact Le.tow 0 0 rfl (.cons rfl (.refl _) (.cons rfl (.refl _) (.cons rfl (.refl _) (.cons rfl (.refl _) (.nil))))) (.refl _) rfl
            · refine JP1.a h ?_
              exact Le.tow 0 0 rfl (.cons rfl (.refl _) (.cons rfl (.refl _) (.cons rfl (.refl _) (.cons rfl (.refl _) (.nil))))) (.refl _) rfl
          · have h := hk
            refine st_test h (fun hb h => ?_) (fun hb h => ?_)
            · refine vrfl ?_
              refine JP2.a h ?_
              exact Le.tow 0 0 rfl (.cons rfl (.refl _) (.cons rfl (.refl _) (.cons rfl (.refl _) (.cons rfl (.refl _) (.cons rfl (.refl _) (.nil)))))) (.refl _) rfl
            · refine st_bind h (fun o7 ho hk => ?_)
              refine Exists.intro (JP1 _ _ o7 .normal (utf_Next_J3_0 p0 p1 x2)) (And.intro ?_ (join1 ?_))
              · have h := ho
                refine st_test h (fun hb h => ?_) (fun hb h => ?_)
                · refine JP1.a h ?_
                  exact Le.tow 0 0 rfl (.cons rfl (.refl _) (.cons rfl (.refl _) (.cons rfl (.refl _) (.cons rfl (.refl _) (.nil))))) (.refl _) rfl
                · refine JP1.a h ?_
                  exact Le.tow 0 0 rfl (.cons rfl (.refl _) (.cons rfl (.refl _) (.cons rfl (.refl _) (.cons rfl (.refl _) (.nil))))) (.refl _) rfl
              · have h := hk
                refine st_test h (fun hb h => ?_) (fun hb h => ?_)
                · refine vrfl ?_
                  refine JP2.a h ?_
                  exact Le.tow 0 0 rfl (.cons rfl (.refl _) (.cons rfl (.refl _) (.cons rfl (.refl _) (.cons rfl (.refl _) (.cons rfl (.refl _) (.nil)))))) (.refl _) rfl
                · refine st_bind h (fun o8 ho hk => ?_)
                  refine Exists.intro (JP1 _ _ o8 .normal (utf_Next_J4_0 p0 p1 x2)) (And.intro ?_ (join1 ?_))
                  · have h := ho
                    refine st_test h (fun hb h => ?_) (fun hb h => ?_)
                    · refine JP1.a h ?_
                      exact Le.tow 0 0 rfl (.cons rfl (.refl _) (.cons rfl (.refl _) (.cons rfl (.refl _) (.cons rfl (.refl _) (.nil))))) (.refl _) rfl
                    · refine JP1.a h ?_
                      exact Le.tow 0 0 rfl (.cons rfl (.refl _) (.cons rfl (.refl _) (.cons rfl (.refl _) (.cons rfl (.refl _) (.nil))))) (.refl _) rfl
                  · have h := hk
                    refine st_test h (fun hb h => ?_) (fun hb h => ?_)
                    · refine vrfl ?_
                      refine JP2.a h ?_
                      exact Le.tow 0 0 rfl (.cons rfl (.refl _) (.cons rfl (.refl _) (.cons rfl (.refl _) (.cons rfl (.refl _) (.cons rfl (.refl _) (.nil)))))) (.refl _) rfl
                    · refine JP2.b h ?_
                      exact Le.tow 0 0 rfl (.cons rfl (.refl _) (.cons rfl (.refl _) (.nil))) (.refl _) rfl
      · have h := (by rw [hy] at hk; exact hk)
        refine st_cuts (some (wr (p1 + 1))) none h (fun x9 hi h => ?_)
        refine st_call [sV x9, nV .i32 y4.1, iV y4.2.2] t_utf_tail h (fun x10 hy => (utf_tail_ok x9 y4.1 y4.2.2 x10 hy)) (fun x10 hy h => ?_)
        refine st_bind h (fun o11 ho hk => ?_)
        refine Exists.intro (JP1 _ _ o11 .normal (utf_Next_J5_0 y4 x10)) (And.intro ?_ (join1 ?_))
        · have h := ho
          refine st_test h (fun hb h => ?_) (fun hb h => ?_)
          · refine bT ?_
            refine JP1.a h ?_
            exact Le.tow 0 0 rfl (.cons rfl (.refl _) (.cons rfl (.refl _) (.cons rfl (.refl _) (.nil)))) (.refl _) rfl
          · refine st_test h (fun hb h => ?_) (fun hb h => ?_)
            · refine JP1.a h ?_
              exact Le.tow 0 0 rfl (.cons rfl (.refl _) (.cons rfl (.refl _) (.cons rfl (.refl _) (.nil)))) (.refl _) rfl
            · refine st_call [nV .i32 x10.1] t_utf_is h (fun x12 hy => (utf_is_ok x10.1 x12 hy)) (fun x12 hy h => ?_)
              refine JP1.a h ?_
              exact Le.tow 0 0 rfl (.cons rfl (.refl _) (.cons rfl (.refl _) (.cons rfl (.refl _) (.nil)))) (.refl _) rfl
        · have h := hk
          refine st_test h (fun hb h => ?_) (fun hb h => ?_)
          · refine st_ret (t := t_utf_Next) h ?_
            exact .refl _
          · refine st_ret (t := t_utf_Next) h ?_
            exact .refl _
      · have h := (by rw [hy] at hk; exact hk)
        refine st_ret (t := t_utf_Next) h ?_
        exact .refl _
noncomputable def lex_Same_1 (p0 : api_Token) (p1 : api_Token) : Option (Bool) :=
  ( if (p0.Kind == p1.Kind) then
      if (p0.Text == p1.Text) then
        some (p0.N == p1.N)
      else
        some false
    else
      some false : Option (Bool)) >>= fun o1 =>
  some o1
set_option maxRecDepth 100000 in
set_option maxHeartbeats 4000000 in
theorem lex_Same_1_ok : ∀ (p0 : api_Token) (p1 : api_Token) (o : Bool), lex_Same_1 p0 p1 = some o → PCall Tryd.prog 59 [.agg [iV p0.Kind, sV p0.Text, iV p0.N, iV p0.From, iV p0.To], .agg [iV p1.Kind, sV p1.Text, iV p1.N, iV p1.From, iV p1.To]] (t_lex_Same_1 o) := by
  intro p0 p1 o h
  unfold lex_Same_1 at h
  refine PCall.ofB mixed tbOk lex_Same_1_lv Tryd.func59 rfl (by kernel_rfl) (Nat.le_of_ble_eq_true rfl) ?_
  refine st_bind h (fun o1 ho hk => ?_)
  refine Exists.intro (JP1 _ _ o1 .normal (lex_Same_1_J0_0 p0 p1)) (And.intro ?_ (join1 ?_))
  · have h := ho
    refine st_test h (fun hb h => ?_) (fun hb h => ?_)
    · refine st_test h (fun hb h => ?_) (fun hb h => ?_)
      · refine JP1.a h ?_
        exact Le.tow 2 0 rfl (.cons rfl (.refl _) (.nil)) (.refl _) rfl
      · refine JP1.a h ?_
        exact Le.tow 2 0 rfl (.cons rfl (.refl _) (.nil)) (.refl _) rfl
    · refine bF ?_
      refine JP1.a h ?_
      exact Le.tow 2 0 rfl (.cons rfl (.refl _) (.nil)) (.refl _) rfl
  · have h := hk
    refine st_ret (t := t_lex_Same_1) h ?_
    exact .refl _
noncomputable def slices_EqualFunc_api_Token_api_Token_api_Token_api_Token_lex_Same_1_L1 (p0 : (List api_Token)) (p1 : (List api_Token)) (v17 : Int) : Option (Unit ⊕ Unit) :=
  if (decide (v17 < (p0.length : Int))) then
    idx p0 v17 >>= fun x4 =>
    idx p1 v17 >>= fun x5 =>
    lex_Same_1 x4 x5 >>= fun x6 =>
    if (!x6) then
      some (.inr ())
    else
      slices_EqualFunc_api_Token_api_Token_api_Token_api_Token_lex_Same_1_L1 p0 p1 (wr (v17 + 1))
  else
    some (.inl ())
  partial_fixpoint
set_option maxRecDepth 100000 in
set_option maxHeartbeats 4000000 in
theorem slices_EqualFunc_api_Token_api_Token_api_Token_api_Token_lex_Same_1_L1_grp : ∀ (p0 : (List api_Token)) (p1 : (List api_Token)), (∀ (v17 : Int) (o1 : Unit ⊕ Unit), slices_EqualFunc_api_Token_api_Token_api_Token_api_Token_lex_Same_1_L1 p0 p1 v17 = some o1 → TL (0, 0) Tryd.prog 32 slices_EqualFunc_api_Token_api_Token_api_Token_api_Token_lex_Same_1_L1_c (JP2 (0, 0) 32 o1 (.exit 0) (slices_EqualFunc_api_Token_api_Token_api_Token_api_Token_lex_Same_1_L1_x0 p0 p1) .ret (slices_EqualFunc_api_Token_api_Token_api_Token_api_Token_lex_Same_1_L1_x1 p0 p1)) (slices_EqualFunc_api_Token_api_Token_api_Token_api_Token_lex_Same_1_L1_st p0 p1 v17)) := by
  intro p0 p1
  refine slices_EqualFunc_api_Token_api_Token_api_Token_api_Token_lex_Same_1_L1.partial_correctness p0 p1 _ ?_
  intro slices_EqualFunc_api_Token_api_Token_api_Token_api_Token_lex_Same_1_L1' ih_slices_EqualFunc_api_Token_api_Token_api_Token_api_Token_lex_Same_1_L1 v17 o1 h
  refine TL.round (bwp_sound mixed tbOk (lv := slices_EqualFunc_api_Token_api_Token_api_Token_api_Token_lex_Same_1_lv) _ _ _ ?_)
  refine st_test h (fun hb h => ?_) (fun hb h => ?_)
  · refine st_idx (l := p0) (c := c_api_Token) (c' := c_api_Token) h (fun _ => rfl) (fun _ => rfl) (by decide) (fun x4 hi h => ?_)
    refine st_idx (l := p1) (c := c_api_Token) (c' := c_api_Token) h (fun _ => rfl) (fun _ => rfl) (by decide) (fun x5 hi h => ?_)
    refine st_call [.agg [iV x4.Kind, sV x4.Text, iV x4.N, iV x4.From, iV x4.To], .agg [iV x5.Kind, sV x5.Text, iV x5.N, iV x5.From, iV x5.To]] t_lex_Same_1 h (fun x6 hy => (lex_Same_1_ok x4 x5 x6 hy)) (fun x6 hy h => ?_)
    refine st_test h (fun hb h => ?_) (fun hb h => ?_)
    · exact JP2.b h (Le.tow 0 0 rfl (.cons rfl (.refl _) (.nil)) (.refl _) rfl)
    · refine TL.le (τ := slices_EqualFunc_api_Token_api_Token_api_Token_api_Token_lex_Same_1_L1_st p0 p1 (wr (v17 + 1))) ?_ ((ih_slices_EqualFunc_api_Token_api_Token_api_Token_api_Token_lex_Same_1_L1 (wr (v17 + 1)) _ h))
      exact Le.tow 0 0 rfl (.cons rfl (.refl _) (.cons rfl (.refl _) (.cons rfl (.refl _) (.cons rfl (.refl _) (.cons rfl (.refl _) (.nil)))))) (.refl _) rfl
  · exact JP2.a h (Le.tow 0 0 rfl (.nil) (.refl _) rfl)
theorem slices_EqualFunc_api_Token_api_Token_api_Token_api_Token_lex_Same_1_L1_ok : ∀ (p0 : (List api_Token)) (p1 : (List api_Token)) (v17 : Int) (o1 : Unit ⊕ Unit), slices_EqualFunc_api_Token_api_Token_api_Token_api_Token_lex_Same_1_L1 p0 p1 v17 = some o1 → TL (0, 0) Tryd.prog 32 slices_EqualFunc_api_Token_api_Token_api_Token_api_Token_lex_Same_1_L1_c (JP2 (0, 0) 32 o1 (.exit 0) (slices_EqualFunc_api_Token_api_Token_api_Token_api_Token_lex_Same_1_L1_x0 p0 p1) .ret (slices_EqualFunc_api_Token_api_Token_api_Token_api_Token_lex_Same_1_L1_x1 p0 p1)) (slices_EqualFunc_api_Token_api_Token_api_Token_api_Token_lex_Same_1_L1_st p0 p1 v17) := fun p0 p1 v17 o1 h => (slices_EqualFunc_api_Token_api_Token_api_Token_api_Token_lex_Same_1_L1_grp p0 p1) v17 o1 h
noncomputable def slices_EqualFunc_api_Token_api_Token_api_Token_api_Token_lex_Same_1 (p0 : (List api_Token)) (p1 : (List api_Token)) : Option (Bool) :=
  if ((p0.length : Int) != (p1.length : Int)) then
    some false
  else
    (slices_EqualFunc_api_Token_api_Token_api_Token_api_Token_lex_Same_1_L1 p0 p1 0) >>= fun o1 =>
    match o1 with
    | .inl y2 =>
      some true
    | .inr y3 =>
      some false
set_option maxRecDepth 100000 in
set_option maxHeartbeats 4000000 in
theorem slices_EqualFunc_api_Token_api_Token_api_Token_api_Token_lex_Same_1_ok : ∀ (p0 : (List api_Token)) (p1 : (List api_Token)) (o : Bool), slices_EqualFunc_api_Token_api_Token_api_Token_api_Token_lex_Same_1 p0 p1 = some o → CallOK Tryd.prog 58 [.p (.sl false (p0.map c_api_Token)), .p (.sl false (p1.map c_api_Token)), .fn (.func 59) [] []] ⟨[], []⟩ (t_slices_EqualFunc_api_Token_api_Token_api_Token_api_Token_lex_Same_1 o) ⟨[], []⟩ := by
  intro p0 p1 o h
  unfold slices_EqualFunc_api_Token_api_Token_api_Token_api_Token_lex_Same_1 at h
  refine CallOK.ofB mixed tbOk slices_EqualFunc_api_Token_api_Token_api_Token_api_Token_lex_Same_1_lv Tryd.func58 rfl (by kernel_rfl) (Nat.le_of_ble_eq_true rfl) rfl rfl rfl ?_
  refine view (lenMap _ _) rfl ?_
  refine view (lenMap _ _) rfl ?_
  refine st_test h (fun hb h => ?_) (fun hb h => ?_)
  · refine Exists.intro _ (And.intro (Le.refl _ _ _) ?_)
    exact st_retc (t := t_slices_EqualFunc_api_Token_api_Token_api_Token_api_Token_lex_Same_1) (ss := fun o => ⟨[], []⟩) h ⟨[], rfl, .refl _, .refl _, rfl⟩
  · refine view (lenMap _ _) rfl ?_
    refine st_bind h (fun o1 ho hk => ?_)
    refine Exists.intro (JP2 _ _ o1 (.exit 0) (slices_EqualFunc_api_Token_api_Token_api_Token_api_Token_lex_Same_1_L1_x0 p0 p1) .ret (slices_EqualFunc_api_Token_api_Token_api_Token_api_Token_lex_Same_1_L1_x1 p0 p1)) (And.intro (T_le (τ := slices_EqualFunc_api_Token_api_Token_api_Token_api_Token_lex_Same_1_L1_st p0 p1 0) ?_ (TL.loop (slices_EqualFunc_api_Token_api_Token_api_Token_api_Token_lex_Same_1_L1_ok p0 p1 0 o1 ho))) (join2 (fun y2 hy => ?_) (fun y3 hy => ?_)))
    · exact Le.tow 0 0 rfl (.cons rfl (.refl _) (.cons rfl (.refl _) (.cons rfl (.refl _) (.cons rfl (.refl _) (.cons rfl (.refl _) (.nil)))))) (.refl _) rfl
    · have h := (by rw [hy] at hk; exact hk)
      refine Exists.intro _ (And.intro (Le.refl _ _ _) ?_)
      exact st_retc (t := t_slices_EqualFunc_api_Token_api_Token_api_Token_api_Token_lex_Same_1) (ss := fun o => ⟨[], []⟩) h ⟨[], rfl, .refl _, .refl _, rfl⟩
    · have h := (by rw [hy] at hk; exact hk)
      refine Exists.intro _ (And.intro (Le.refl _ _ _) ?_)
      exact st_retc (t := t_slices_EqualFunc_api_Token_api_Token_api_Token_api_Token_lex_Same_1) (ss := fun o => ⟨[], []⟩) h ⟨[], rfl, .refl _, .refl _, rfl⟩
noncomputable def lex_Same (p0 : (List api_Token)) (p1 : (List api_Token)) : Option (Bool) :=
  slices_EqualFunc_api_Token_api_Token_api_Token_api_Token_lex_Same_1 p0 p1 >>= fun x1 =>
  some x1
set_option maxRecDepth 100000 in
set_option maxHeartbeats 4000000 in
theorem lex_Same_ok : ∀ (p0 : (List api_Token)) (p1 : (List api_Token)) (o : Bool), lex_Same p0 p1 = some o → PCall Tryd.prog 30 [.sl false (p0.map c_api_Token), .sl false (p1.map c_api_Token)] (t_lex_Same o) := by
  intro p0 p1 o h
  unfold lex_Same at h
  refine PCall.ofB mixed tbOk lex_Same_lv Tryd.func30 rfl (by kernel_rfl) (Nat.le_of_ble_eq_true rfl) ?_
  refine st_callc _ _ h (fun x1 hy => ((slices_EqualFunc_api_Token_api_Token_api_Token_api_Token_lex_Same_1_ok p0 p1 x1 hy).fr [] [] rfl rfl rfl)) (fun x1 hy h => ?_)
  refine st_ret (t := t_lex_Same) h ?_
  exact .refl _
noncomputable def strings_TrimLeft (p0 : (List UInt8)) (p1 : (List UInt8)) : Option ((List UInt8)) :=
  need (p1.length < 4294967281) >>= fun _ =>
  need (p1.all (fun b => decide (b.toNat < 128)) = true) >>= fun _ =>
  some (Lib.trimLeftS p0 p1)
set_option maxRecDepth 100000 in
set_option maxHeartbeats 4000000 in
theorem strings_TrimLeft_ok : ∀ (p0 : (List UInt8)) (p1 : (List UInt8)) (o : (List UInt8)), strings_TrimLeft p0 p1 = some o → PCall Tryd.prog 75 [sV p0, sV p1] (t_strings_TrimLeft o) := by
  intro p0 p1 o h
  unfold strings_TrimLeft at h
  obtain ⟨h1, h⟩ := need_some h
  obtain ⟨h2, h⟩ := need_some h
  cases h
  exact trimLeft_ok _ _ h1 h2
noncomputable def lex_machine_blanks_2 (h0_0 : (List UInt8)) (h0_1 : Int) (h0_2 : (List api_Token)) : Option (Int) :=
  cutL h0_0 h0_1 (h0_0.length : Int) >>= fun x1 =>
  strings_TrimLeft x1 [32, 9, 10, 13] >>= fun x2 =>
  some (wr ((h0_0.length : Int) - (x2.length : Int)))
set_option maxRecDepth 100000 in
set_option maxHeartbeats 4000000 in
theorem lex_machine_blanks_2_ok : ∀ (h0_0 : (List UInt8)) (h0_1 : Int) (h0_2 : (List api_Token)) (o : Int), lex_machine_blanks_2 h0_0 h0_1 h0_2 = some o → CallOK Tryd.prog 51 [.ptr 0 0] ⟨[[.p (sV h0_0), .p (iV h0_1), .own 0 42 5 (h0_2.map c_api_Token)]], [(h0_2.map c_api_Token).length]⟩ (t_lex_machine_blanks_2 o) ⟨[[.p (sV h0_0), .p (iV o), .own 0 42 5 (h0_2.map c_api_Token)]], [(h0_2.map c_api_Token).length]⟩ := by
  intro h0_0 h0_1 h0_2 o h
  unfold lex_machine_blanks_2 at h
  refine CallOK.ofB mixed tbOk lex_machine_blanks_2_lv Tryd.func51 rfl (by kernel_rfl) (Nat.le_of_ble_eq_true rfl) rfl rfl rfl ?_
  refine And.intro (by decide +kernel) (And.intro rfl ?_)
  refine vrfl ?_
  refine st_cuts (some h0_1) none h (fun x1 hi h => ?_)
  refine st_calld [sV x1, sV [32, 9, 10, 13]] t_strings_TrimLeft h (fun x2 hy => (strings_TrimLeft_ok x1 [32, 9, 10, 13] x2 hy)) (fun x2 hy h => ?_)
  refine vrfl ?_
  refine Exists.intro _ (And.intro (Le.refl _ _ _) ?_)
  exact st_retc (t := t_lex_machine_blanks_2) (ss := fun o => ⟨[[.p (sV h0_0), .p (iV o), .own 0 42 5 (h0_2.map c_api_Token)]], [(h0_2.map c_api_Token).length]⟩) h ⟨[0], rfl, .refl _, .refl _, rfl⟩
noncomputable def lex_machine_put_2 (p1 : Int) (p2 : (List UInt8)) (p3 : Int) (p4 : Int) (h0_0 : (List UInt8)) (h0_1 : Int) (h0_2 : (List api_Token)) : Option (Int × (List api_Token)) :=
  appL 48 h0_2 [(api_Token.mk p1 p2 p3 h0_1 (wr (h0_1 + p4)))] >>= fun x1 =>
  some ((wr (h0_1 + p4)), x1)
set_option maxRecDepth 100000 in
set_option maxHeartbeats 4000000 in
theorem lex_machine_put_2_ok : ∀ (p1 : Int) (p2 : (List UInt8)) (p3 : Int) (p4 : Int) (h0_0 : (List UInt8)) (h0_1 : Int) (h0_2 : (List api_Token)) (o : Int × (List api_Token)), lex_machine_put_2 p1 p2 p3 p4 h0_0 h0_1 h0_2 = some o → CallOK Tryd.prog 50 [.ptr 0 0, .p (iV p1), .p (sV p2), .p (iV p3), .p (iV p4)] ⟨[[.p (sV h0_0), .p (iV h0_1), .own 0 42 5 (h0_2.map c_api_Token)]], [(h0_2.map c_api_Token).length]⟩ (t_lex_machine_put_2 o) ⟨[[.p (sV h0_0), .p (iV o.1), .own 0 42 5 (o.2.map c_api_Token)]], [(o.2.map c_api_Token).length]⟩ := by
  intro p1 p2 p3 p4 h0_0 h0_1 h0_2 o h
  unfold lex_machine_put_2 at h
  refine CallOK.ofB mixed tbOk lex_machine_put_2_lv Tryd.func50 rfl (by kernel_rfl) (Nat.le_of_ble_eq_true rfl) rfl rfl rfl ?_
  refine And.intro (by decide +kernel) (And.intro rfl ?_)
  refine st_appo (a := h0_2) (b := [(api_Token.mk p1 p2 p3 h0_1 (wr (h0_1 + p4)))]) (c := c_api_Token) h (.refl _) (fun _ => rfl) rfl (fun x1 hi h => ?_)
  refine Exists.intro _ (And.intro (Le.refl _ _ _) ?_)
  exact st_retc (t := t_lex_machine_put_2) (ss := fun o => ⟨[[.p (sV h0_0), .p (iV o.1), .own 0 42 5 (o.2.map c_api_Token)]], [(o.2.map c_api_Token).length]⟩) h ⟨[0], rfl, .refl _, .refl _, rfl⟩
noncomputable def lex_digit (p0 : Int) : Option (Bool) :=
  ( if (decide (p0 ≥ 48)) then
      some (decide (p0 ≤ 57))
    else
      some false : Option (Bool)) >>= fun o1 =>
  some o1
set_option maxRecDepth 100000 in
set_option maxHeartbeats 4000000 in
theorem lex_digit_ok : ∀ (p0 : Int) (o : Bool), lex_digit p0 = some o → PCall Tryd.prog 78 [nV .u8 p0] (t_lex_digit o) := by
  intro p0 o h
  unfold lex_digit at h
  refine PCall.ofB mixed tbOk lex_digit_lv Tryd.func78 rfl (by kernel_rfl) (Nat.le_of_ble_eq_true rfl) ?_
  refine st_bind h (fun o1 ho hk => ?_)
  refine Exists.intro (JP1 _ _ o1 .normal (lex_digit_J0_0 )) (And.intro ?_ (join1 ?_))
  · have h := ho
    refine st_test h (fun hb h => ?_) (fun hb h => ?_)
    · refine JP1.a h ?_
      exact Le.tow 0 0 rfl (.cons rfl (.refl _) (.nil)) (.refl _) rfl
    · refine JP1.a h ?_
      exact Le.tow 0 0 rfl (.cons rfl (.refl _) (.nil)) (.refl _) rfl
  · have h := hk
    refine st_ret (t := t_lex_digit) h ?_
    exact .refl _
noncomputable def lex_letter (p0 : Int) : Option (Bool) :=
  ( if (decide (p0 ≥ 97)) then
      if (decide (p0 ≤ 122)) then
        some true
      else
        lex_digit p0 >>= fun x2 =>
        if x2 then
          some true
        else
          some (p0 == 95)
    else
      lex_digit p0 >>= fun x3 =>
      if x3 then
        some true
      else
        some (p0 == 95) : Option (Bool)) >>= fun o1 =>
  some o1
set_option maxRecDepth 100000 in
set_option maxHeartbeats 4000000 in
theorem lex_letter_ok : ∀ (p0 : Int) (o : Bool), lex_letter p0 = some o → PCall Tryd.prog 62 [nV .u8 p0] (t_lex_letter o) := by
  intro p0 o h
  unfold lex_letter at h
  refine PCall.ofB mixed tbOk lex_letter_lv Tryd.func62 rfl (by kernel_rfl) (Nat.le_of_ble_eq_true rfl) ?_
  refine st_bind h (fun o1 ho hk => ?_)
  refine Exists.intro (JP1 _ _ o1 .normal (lex_letter_J0_0 )) (And.intro ?_ (join1 ?_))
  · have h := ho
    refine st_test h (fun hb h => ?_) (fun hb h => ?_)
    · refine st_test h (fun hb h => ?_) (fun hb h => ?_)
      · refine bT ?_
        refine JP1.a h ?_
        exact Le.tow 0 0 rfl (.cons rfl (.refl _) (.nil)) (.refl _) rfl
      · refine st_call [nV .u8 p0] t_lex_digit h (fun x2 hy => (lex_digit_ok p0 x2 hy)) (fun x2 hy h => ?_)
        refine st_test h (fun hb h => ?_) (fun hb h => ?_)
        · refine JP1.a h ?_
          exact Le.tow 0 0 rfl (.cons rfl (.refl _) (.nil)) (.refl _) rfl
        · refine JP1.a h ?_
          exact Le.tow 0 0 rfl (.cons rfl (.refl _) (.nil)) (.refl _) rfl
    · refine bF ?_
      refine st_call [nV .u8 p0] t_lex_digit h (fun x3 hy => (lex_digit_ok p0 x3 hy)) (fun x3 hy h => ?_)
      refine st_test h (fun hb h => ?_) (fun hb h => ?_)
      · refine JP1.a h ?_
        exact Le.tow 0 0 rfl (.cons rfl (.refl _) (.nil)) (.refl _) rfl
      · refine JP1.a h ?_
        exact Le.tow 0 0 rfl (.cons rfl (.refl _) (.nil)) (.refl _) rfl
  · have h := hk
    refine st_ret (t := t_lex_letter) h ?_
    exact .refl _
noncomputable def lex_machine_run_lex_digit_L1 (h0_0 : (List UInt8)) (h0_1 : Int) (h0_2 : (List api_Token)) (v7 : Int) : Option (Int) :=
  ( if (decide (v7 < (h0_0.length : Int))) then
      idx h0_0 v7 >>= fun x3 =>
      lex_digit (x3.toNat : Int) >>= fun x4 =>
      some x4
    else
      some false : Option (Bool)) >>= fun o2 =>
  if o2 then
    lex_machine_run_lex_digit_L1 h0_0 h0_1 h0_2 (wr (v7 + 1))
  else
    some v7
  partial_fixpoint
set_option maxRecDepth 100000 in
set_option maxHeartbeats 4000000 in
theorem lex_machine_run_lex_digit_L1_grp : ∀ (h0_0 : (List UInt8)) (h0_1 : Int) (h0_2 : (List api_Token)), (∀ (v7 : Int) (o1 : Int), lex_machine_run_lex_digit_L1 h0_0 h0_1 h0_2 v7 = some o1 → TL (1, 1) Tryd.prog 38 lex_machine_run_lex_digit_L1_c (JP1 (1, 1) 38 o1 (.exit 0) (lex_machine_run_lex_digit_L1_x0 h0_0 h0_1 h0_2)) (lex_machine_run_lex_digit_L1_st h0_0 h0_1 h0_2 v7)) := by
  intro h0_0 h0_1 h0_2
  refine lex_machine_run_lex_digit_L1.partial_correctness h0_0 h0_1 h0_2 _ ?_
  intro lex_machine_run_lex_digit_L1' ih_lex_machine_run_lex_digit_L1 v7 o1 h
  refine TL.round (bwp_sound mixed tbOk (lv := lex_machine_run_lex_digit_lv) _ _ _ ?_)
  refine st_bind h (fun o2 ho hk => ?_)
  refine Exists.intro (JP1 _ _ o2 .normal (lex_machine_run_lex_digit_J0_0 h0_0 h0_1 h0_2 v7)) (And.intro ?_ (join1 ?_))
  · have h := ho
    refine vrfl ?_
    refine st_test h (fun hb h => ?_) (fun hb h => ?_)
    · refine st_sidx h (fun x3 hi h => ?_)
      refine st_call [nV .u8 (x3.toNat : Int)] t_lex_digit h (fun x4 hy => (lex_digit_ok (x3.toNat : Int) x4 hy)) (fun x4 hy h => ?_)
      refine JP1.a h ?_
      exact Le.tow 1 1 rfl (.cons rfl (.refl _) (.cons rfl (.refl _) (.cons rfl (.refl _) (.cons rfl (.refl _) (.nil))))) (.refl _) rfl
    · refine JP1.a h ?_
      exact Le.tow 1 1 rfl (.cons rfl (.refl _) (.cons rfl (.refl _) (.cons rfl (.refl _) (.cons rfl (.refl _) (.nil))))) (.refl _) rfl
  · have h := hk
    refine st_test h (fun hb h => ?_) (fun hb h => ?_)
    · refine TL.le (τ := lex_machine_run_lex_digit_L1_st h0_0 h0_1 h0_2 (wr (v7 + 1))) ?_ ((ih_lex_machine_run_lex_digit_L1 (wr (v7 + 1)) _ h))
      exact Le.tow 1 1 rfl (.cons rfl (.refl _) (.cons rfl (.refl _) (.cons rfl (.refl _) (.nil)))) (.refl _) rfl
    · exact JP1.a h (Le.tow 1 1 rfl (.cons rfl (.refl _) (.cons rfl (.refl _) (.nil))) (.refl _) rfl)
theorem lex_machine_run_lex_digit_L1_ok : ∀ (h0_0 : (List UInt8)) (h0_1 : Int) (h0_2 : (List api_Token)) (v7 : Int) (o1 : Int), lex_machine_run_lex_digit_L1 h0_0 h0_1 h0_2 v7 = some o1 → TL (1, 1) Tryd.prog 38 lex_machine_run_lex_digit_L1_c (JP1 (1, 1) 38 o1 (.exit 0) (lex_machine_run_lex_digit_L1_x0 h0_0 h0_1 h0_2)) (lex_machine_run_lex_digit_L1_st h0_0 h0_1 h0_2 v7) := fun h0_0 h0_1 h0_2 v7 o1 h => (lex_machine_run_lex_digit_L1_grp h0_0 h0_1 h0_2) v7 o1 h
noncomputable def lex_machine_run_lex_digit (p1 : Int) (h0_0 : (List UInt8)) (h0_1 : Int) (h0_2 : (List api_Token)) : Option ((List UInt8)) :=
  (lex_machine_run_lex_digit_L1 h0_0 h0_1 h0_2 p1) >>= fun o1 =>
  cutL h0_0 h0_1 o1 >>= fun x5 =>
  some x5
set_option maxRecDepth 100000 in
set_option maxHeartbeats 4000000 in
theorem lex_machine_run_lex_digit_ok : ∀ (p1 : Int) (h0_0 : (List UInt8)) (h0_1 : Int) (h0_2 : (List api_Token)) (o : (List UInt8)), lex_machine_run_lex_digit p1 h0_0 h0_1 h0_2 = some o → CallOK Tryd.prog 101 [.ptr 0 0, .p (iV p1), .fn (.func 78) [] []] ⟨[[.p (sV h0_0), .p (iV h0_1), .own 0 42 5 (h0_2.map c_api_Token)]], [(h0_2.map c_api_Token).length]⟩ (t_lex_machine_run_lex_digit o) ⟨[[.p (sV h0_0), .p (iV h0_1), .own 0 42 5 (h0_2.map c_api_Token)]], [(h0_2.map c_api_Token).length]⟩ := by
  intro p1 h0_0 h0_1 h0_2 o h
  unfold lex_machine_run_lex_digit at h
  refine CallOK.ofB mixed tbOk lex_machine_run_lex_digit_lv Tryd.func101 rfl (by kernel_rfl) (Nat.le_of_ble_eq_true rfl) rfl rfl rfl ?_
  refine st_bind h (fun o1 ho hk => ?_)
  refine Exists.intro (JP1 _ _ o1 (.exit 0) (lex_machine_run_lex_digit_L1_x0 h0_0 h0_1 h0_2)) (And.intro (T_le (τ := lex_machine_run_lex_digit_L1_st h0_0 h0_1 h0_2 p1) ?_ (TL.loop (lex_machine_run_lex_digit_L1_ok h0_0 h0_1 h0_2 p1 o1 ho))) (join1 ?_))
  · exact Le.tow 1 1 rfl (.cons rfl (.refl _) (.cons rfl (.refl _) (.cons rfl (.refl _) (.nil)))) (.refl _) rfl
  have h := hk
  refine And.intro (by decide +kernel) (And.intro rfl ?_)
  refine st_cuts (some h0_1) (some o1) h (fun x5 hi h => ?_)
  refine Exists.intro _ (And.intro (Le.refl _ _ _) ?_)
  exact st_retc (t := t_lex_machine_run_lex_digit) (ss := fun o => ⟨[[.p (sV h0_0), .p (iV h0_1), .own 0 42 5 (h0_2.map c_api_Token)]], [(h0_2.map c_api_Token).length]⟩) h ⟨[0], rfl, .refl _, .refl _, rfl⟩
noncomputable def octet_Number (p0 : (List UInt8)) : Option (Int × Bool) :=
  need (p0.length ≤ 9223372036854775807) >>= fun _ =>
  some (numP p0)
set_option maxRecDepth 100000 in
set_option maxHeartbeats 4000000 in
theorem octet_Number_ok : ∀ (p0 : (List UInt8)) (o : Int × Bool), octet_Number p0 = some o → PCall Tryd.prog 102 [sV p0] (t_octet_Number o) := by
  intro p0 o h
  unfold octet_Number at h
  obtain ⟨h1, h⟩ := need_some h
  cases h
  exact number_ok _ h1
noncomputable def lex_machine_number (h0_0 : (List UInt8)) (h0_1 : Int) (h0_2 : (List api_Token)) : Option (Bool × Int × (List api_Token)) :=
  lex_machine_run_lex_digit (wr (h0_1 + 1)) h0_0 h0_1 h0_2 >>= fun x1 =>
  octet_Number x1 >>= fun x2 =>
  if x2.2 then
    lex_machine_put_2 6 [] x2.1 (x1.length : Int) h0_0 h0_1 h0_2 >>= fun x3 =>
    some (x2.2, x3.1, x3.2)
  else
    some (x2.2, h0_1, h0_2)
set_option maxRecDepth 100000 in
set_option maxHeartbeats 4000000 in
theorem lex_machine_number_ok : ∀ (h0_0 : (List UInt8)) (h0_1 : Int) (h0_2 : (List api_Token)) (o : Bool × Int × (List api_Token)), lex_machine_number h0_0 h0_1 h0_2 = some o → CallOK Tryd.prog 79 [.ptr 0 0] ⟨[[.p (sV h0_0), .p (iV h0_1), .own 0 42 5 (h0_2.map c_api_Token)]], [(h0_2.map c_api_Token).length]⟩ (t_lex_machine_number o) ⟨[[.p (sV h0_0), .p (iV o.2.1), .own 0 42 5 (o.2.2.map c_api_Token)]], [(o.2.2.map c_api_Token).length]⟩ := by
  intro h0_0 h0_1 h0_2 o h
  unfold lex_machine_number at h
  refine CallOK.ofB mixed tbOk lex_machine_number_lv Tryd.func79 rfl (by kernel_rfl) (Nat.le_of_ble_eq_true rfl) rfl rfl rfl ?_
  refine st_callc _ _ h (fun x1 hy => ((lex_machine_run_lex_digit_ok (wr (h0_1 + 1)) h0_0 h0_1 h0_2 x1 hy).fr [0] [0] rfl rfl rfl)) (fun x1 hy h => ?_)
  refine st_call [sV x1] t_octet_Number h (fun x2 hy => (octet_Number_ok x1 x2 hy)) (fun x2 hy h => ?_)
  refine st_test h (fun hb h => ?_) (fun hb h => ?_)
  · refine vrfl ?_
    refine st_callc _ _ h (fun x3 hy => ((lex_machine_put_2_ok 6 [] x2.1 (x1.length : Int) h0_0 h0_1 h0_2 x3 hy).fr [0] [0] rfl rfl rfl)) (fun x3 hy h => ?_)
    refine Exists.intro _ (And.intro (Le.refl _ _ _) ?_)
    exact st_retc (t := t_lex_machine_number) (ss := fun o => ⟨[[.p (sV h0_0), .p (iV o.2.1), .own 0 42 5 (o.2.2.map c_api_Token)]], [(o.2.2.map c_api_Token).length]⟩) h ⟨[0], rfl, .refl _, .refl _, rfl⟩
  · refine Exists.intro _ (And.intro (Le.refl _ _ _) ?_)
    exact st_retc (t := t_lex_machine_number) (ss := fun o => ⟨[[.p (sV h0_0), .p (iV o.2.1), .own 0 42 5 (o.2.2.map c_api_Token)]], [(o.2.2.map c_api_Token).length]⟩) h ⟨[0], rfl, .refl _, .refl _, rfl⟩
noncomputable def lex_machine_sign_L1 (h0_0 : (List UInt8)) (h0_1 : Int) (h0_2 : (List api_Token)) (v13 : Int) : Option (Unit ⊕ (Int × (List api_Token))) :=
  if (decide (v13 < 5)) then
    idx ([(S_c__k_.mk 46 7), (S_c__k_.mk 40 8), (S_c__k_.mk 41 9), (S_c__k_.mk 44 10), (S_c__k_.mk 61 11)] : List S_c__k_) v13 >>= fun x4 =>
    idx h0_0 h0_1 >>= fun x5 =>
    if ((x5.toNat : Int) == x4.c_) then
      lex_machine_put_2 x4.k_ [] 0 1 h0_0 h0_1 h0_2 >>= fun x6 =>
      some (.inr (x6.1, x6.2))
    else
      lex_machine_sign_L1 h0_0 h0_1 h0_2 (wr (v13 + 1))
  else
    some (.inl ())
  partial_fixpoint
set_option maxRecDepth 100000 in
set_option maxHeartbeats 4000000 in
theorem lex_machine_sign_L1_grp : ∀ (h0_0 : (List UInt8)) (h0_1 : Int) (h0_2 : (List api_Token)), (∀ (v13 : Int) (o1 : Unit ⊕ (Int × (List api_Token))), lex_machine_sign_L1 h0_0 h0_1 h0_2 v13 = some o1 → TL (1, 1) Tryd.prog 33 lex_machine_sign_L1_c (JP2 (1, 1) 33 o1 (.exit 0) (lex_machine_sign_L1_x0 h0_0 h0_1 h0_2) .ret (lex_machine_sign_L1_x1 h0_0 h0_1 h0_2)) (lex_machine_sign_L1_st h0_0 h0_1 h0_2 v13)) := by
  intro h0_0 h0_1 h0_2
  refine lex_machine_sign_L1.partial_correctness h0_0 h0_1 h0_2 _ ?_
  intro lex_machine_sign_L1' ih_lex_machine_sign_L1 v13 o1 h
  refine TL.round (bwp_sound mixed tbOk (lv := lex_machine_sign_lv) _ _ _ ?_)
  refine st_test h (fun hb h => ?_) (fun hb h => ?_)
  · refine st_aidx2 (l := ([(S_c__k_.mk 46 7), (S_c__k_.mk 40 8), (S_c__k_.mk 41 9), (S_c__k_.mk 44 10), (S_c__k_.mk 61 11)] : List S_c__k_)) (c := fun x4 => [nV .u8 x4.c_, iV x4.k_]) h rfl rfl rfl (fun _ => rfl) rfl (fun x4 hi h => ?_)
    refine And.intro (by decide +kernel) (And.intro rfl ?_)
    refine st_sidx h (fun x5 hi h => ?_)
    refine st_test h (fun hb h => ?_) (fun hb h => ?_)
    · refine st_callc _ _ h (fun x6 hy => ((lex_machine_put_2_ok x4.k_ [] 0 1 h0_0 h0_1 h0_2 x6 hy).fr [0] [0] rfl rfl rfl)) (fun x6 hy h => ?_)
      exact JP2.b h (Le.tow 2 1 rfl (.cons rfl (.refl _) (.nil)) (.refl _) rfl)
    · refine TL.le (τ := lex_machine_sign_L1_st h0_0 h0_1 h0_2 (wr (v13 + 1))) ?_ ((ih_lex_machine_sign_L1 (wr (v13 + 1)) _ h))
      exact Le.tow 2 1 rfl (.cons rfl (.refl _) (.cons rfl (.refl _) (.cons rfl (.refl _) (.nil)))) (.refl _) rfl
  · exact JP2.a h (Le.tow 2 1 rfl (.nil) (.refl _) rfl)
theorem lex_machine_sign_L1_ok : ∀ (h0_0 : (List UInt8)) (h0_1 : Int) (h0_2 : (List api_Token)) (v13 : Int) (o1 : Unit ⊕ (Int × (List api_Token))), lex_machine_sign_L1 h0_0 h0_1 h0_2 v13 = some o1 → TL (1, 1) Tryd.prog 33 lex_machine_sign_L1_c (JP2 (1, 1) 33 o1 (.exit 0) (lex_machine_sign_L1_x0 h0_0 h0_1 h0_2) .ret (lex_machine_sign_L1_x1 h0_0 h0_1 h0_2)) (lex_machine_sign_L1_st h0_0 h0_1 h0_2 v13) := fun h0_0 h0_1 h0_2 v13 o1 h => (lex_machine_sign_L1_grp h0_0 h0_1 h0_2) v13 o1 h
noncomputable def lex_machine_sign (h0_0 : (List UInt8)) (h0_1 : Int) (h0_2 : (List api_Token)) : Option (Bool × Int × (List api_Token)) :=
  (lex_machine_sign_L1 h0_0 h0_1 h0_2 0) >>= fun o1 =>
  match o1 with
  | .inl y2 =>
    some (false, h0_1, h0_2)
  | .inr y3 =>
    some (true, y3.1, y3.2)
set_option maxRecDepth 100000 in
set_option maxHeartbeats 4000000 in
theorem lex_machine_sign_ok : ∀ (h0_0 : (List UInt8)) (h0_1 : Int) (h0_2 : (List api_Token)) (o : Bool × Int × (List api_Token)), lex_machine_sign h0_0 h0_1 h0_2 = some o → CallOK Tryd.prog 81 [.ptr 0 0] ⟨[[.p (sV h0_0), .p (iV h0_1), .own 0 42 5 (h0_2.map c_api_Token)]], [(h0_2.map c_api_Token).length]⟩ (t_lex_machine_sign o) ⟨[[.p (sV h0_0), .p (iV o.2.1), .own 0 42 5 (o.2.2.map c_api_Token)]], [(o.2.2.map c_api_Token).length]⟩ := by
  intro h0_0 h0_1 h0_2 o h
  unfold lex_machine_sign at h
  refine CallOK.ofB mixed tbOk lex_machine_sign_lv Tryd.func81 rfl (by kernel_rfl) (Nat.le_of_ble_eq_true rfl) rfl rfl rfl ?_
  refine st_bind h (fun o1 ho hk => ?_)
  refine Exists.intro (JP2 _ _ o1 (.exit 0) (lex_machine_sign_L1_x0 h0_0 h0_1 h0_2) .ret (lex_machine_sign_L1_x1 h0_0 h0_1 h0_2)) (And.intro (T_le (τ := lex_machine_sign_L1_st h0_0 h0_1 h0_2 0) ?_ (TL.loop (lex_machine_sign_L1_ok h0_0 h0_1 h0_2 0 o1 ho))) (join2 (fun y2 hy => ?_) (fun y3 hy => ?_)))
  · exact Le.tow 2 1 rfl (.cons rfl (.refl _) (.cons rfl (.refl _) (.cons rfl (.refl _) (.nil)))) (.refl _) rfl
  · have h := (by rw [hy] at hk; exact hk)
    refine Exists.intro _ (And.intro (Le.refl _ _ _) ?_)
    exact st_retc (t := t_lex_machine_sign) (ss := fun o => ⟨[[.p (sV h0_0), .p (iV o.2.1), .own 0 42 5 (o.2.2.map c_api_Token)]], [(o.2.2.map c_api_Token).length]⟩) h ⟨[0], rfl, .refl _, .refl _, rfl⟩
  · have h := (by rw [hy] at hk; exact hk)
    refine Exists.intro _ (And.intro (Le.refl _ _ _) ?_)
    exact st_retc (t := t_lex_machine_sign) (ss := fun o => ⟨[[.p (sV h0_0), .p (iV o.2.1), .own 0 42 5 (o.2.2.map c_api_Token)]], [(o.2.2.map c_api_Token).length]⟩) h ⟨[0], rfl, .refl _, .refl _, rfl⟩
noncomputable def lex_escaped (p0 : Int) : Option (Int × Bool) :=
  if (p0 == 110) then
    some (10, true)
  else
    if (p0 == 116) then
      some (9, true)
    else
      ( if (p0 == 34) then
          some true
        else
          some (p0 == 92) : Option (Bool)) >>= fun o1 =>
      some (p0, o1)
set_option maxRecDepth 100000 in
set_option maxHeartbeats 4000000 in
theorem lex_escaped_ok : ∀ (p0 : Int) (o : Int × Bool), lex_escaped p0 = some o → PCall Tryd.prog 99 [nV .u8 p0] (t_lex_escaped o) := by
  intro p0 o h
  unfold lex_escaped at h
  refine PCall.ofB mixed tbOk lex_escaped_lv Tryd.func99 rfl (by kernel_rfl) (Nat.le_of_ble_eq_true rfl) ?_
  refine st_test h (fun hb h => ?_) (fun hb h => ?_)
  · refine st_ret (t := t_lex_escaped) h ?_
    exact .refl _
  · refine st_test h (fun hb h => ?_) (fun hb h => ?_)
    · refine st_ret (t := t_lex_escaped) h ?_
      exact .refl _
    · refine st_bind h (fun o1 ho hk => ?_)
      refine Exists.intro (JP1 _ _ o1 .normal (lex_escaped_J0_0 p0)) (And.intro ?_ (join1 ?_))
      · have h := ho
        refine st_test h (fun hb h => ?_) (fun hb h => ?_)
        · refine JP1.a h ?_
          exact Le.tow 0 0 rfl (.cons rfl (.refl _) (.cons rfl (.refl _) (.nil))) (.refl _) rfl
        · refine JP1.a h ?_
          exact Le.tow 0 0 rfl (.cons rfl (.refl _) (.cons rfl (.refl _) (.nil))) (.refl _) rfl
      · have h := hk
        refine st_ret (t := t_lex_escaped) h ?_
        exact .refl _
noncomputable def strings_Builder_copyCheck_2 (h0_0 : Bool) (h0_1 : (List Int)) : Option (Bool) :=
  some true
set_option maxRecDepth 100000 in
set_option maxHeartbeats 4000000 in
theorem strings_Builder_copyCheck_2_ok : ∀ (h0_0 : Bool) (h0_1 : (List Int)) (o : Bool), strings_Builder_copyCheck_2 h0_0 h0_1 = some o → CallOK Tryd.prog 89 [.ptr 0 0] ⟨[[.sp Tryd.prog 80 h0_0 0 0, .own 0 5 1 (h0_1.map (cNum .u8))]], [(h0_1.map (cNum .u8)).length]⟩ (t_strings_Builder_copyCheck_2 o) ⟨[[.sp Tryd.prog 80 o 0 0, .own 0 5 1 (h0_1.map (cNum .u8))]], [(h0_1.map (cNum .u8)).length]⟩ := by
  intro h0_0 h0_1 o h
  unfold strings_Builder_copyCheck_2 at h
  cases h
  exact copyCheck_ok [[.sp Tryd.prog 80 h0_0 0 0, .own 0 5 1 (h0_1.map (cNum .u8))]] _ 0 [.sp Tryd.prog 80 h0_0 0 0, .own 0 5 1 (h0_1.map (cNum .u8))] rfl rfl
noncomputable def strings_Builder_WriteByte_2 (p1 : Int) (h0_0 : Bool) (h0_1 : (List Int)) : Option (Unit × Bool × (List Int)) :=
  strings_Builder_copyCheck_2 h0_0 h0_1 >>= fun x1 =>
  appL 1 h0_1 [p1] >>= fun x2 =>
  some ((), x1, x2)
set_option maxRecDepth 100000 in
set_option maxHeartbeats 4000000 in
theorem strings_Builder_WriteByte_2_ok : ∀ (p1 : Int) (h0_0 : Bool) (h0_1 : (List Int)) (o : Unit × Bool × (List Int)), strings_Builder_WriteByte_2 p1 h0_0 h0_1 = some o → CallOK Tryd.prog 100 [.ptr 0 0, .p (nV .u8 p1)] ⟨[[.sp Tryd.prog 80 h0_0 0 0, .own 0 5 1 (h0_1.map (cNum .u8))]], [(h0_1.map (cNum .u8)).length]⟩ (t_strings_Builder_WriteByte_2 o) ⟨[[.sp Tryd.prog 80 o.2.1 0 0, .own 0 5 1 (o.2.2.map (cNum .u8))]], [(o.2.2.map (cNum .u8)).length]⟩ := by
  intro p1 h0_0 h0_1 o h
  unfold strings_Builder_WriteByte_2 at h
  refine CallOK.ofB mixed tbOk strings_Builder_WriteByte_2_lv Tryd.func100 rfl (by kernel_rfl) (Nat.le_of_ble_eq_true rfl) rfl rfl rfl ?_
  refine st_callc _ _ h (fun x1 hy => ((strings_Builder_copyCheck_2_ok h0_0 h0_1 x1 hy).fr [0] [0] rfl rfl rfl)) (fun x1 hy h => ?_)
  refine st_appo (a := h0_1) (b := [p1]) (c := (cNum .u8)) h (.refl _) (fun _ => rfl) rfl (fun x2 hi h => ?_)
  refine Exists.intro _ (And.intro (Le.refl _ _ _) ?_)
  exact st_retc (t := t_strings_Builder_WriteByte_2) (ss := fun o => ⟨[[.sp Tryd.prog 80 o.2.1 0 0, .own 0 5 1 (o.2.2.map (cNum .u8))]], [(o.2.2.map (cNum .u8)).length]⟩) h ⟨[0], rfl, .refl _, .refl _, rfl⟩
noncomputable def strings_Builder_WriteString_2 (p1 : (List UInt8)) (h0_0 : Bool) (h0_1 : (List Int)) : Option (Int × Unit × Bool × (List Int)) :=
  strings_Builder_copyCheck_2 h0_0 h0_1 >>= fun x1 =>
  appL 1 h0_1 (s2b p1) >>= fun x2 =>
  some ((p1.length : Int), (), x1, x2)
set_option maxRecDepth 100000 in
set_option maxHeartbeats 4000000 in
theorem strings_Builder_WriteString_2_ok : ∀ (p1 : (List UInt8)) (h0_0 : Bool) (h0_1 : (List Int)) (o : Int × Unit × Bool × (List Int)), strings_Builder_WriteString_2 p1 h0_0 h0_1 = some o → CallOK Tryd.prog 70 [.ptr 0 0, .p (sV p1)] ⟨[[.sp Tryd.prog 80 h0_0 0 0, .own 0 5 1 (h0_1.map (cNum .u8))]], [(h0_1.map (cNum .u8)).length]⟩ (t_strings_Builder_WriteString_2 o) ⟨[[.sp Tryd.prog 80 o.2.2.1 0 0, .own 0 5 1 (o.2.2.2.map (cNum .u8))]], [(o.2.2.2.map (cNum .u8)).length]⟩ := by
  intro p1 h0_0 h0_1 o h
  unfold strings_Builder_WriteString_2 at h
  refine CallOK.ofB mixed tbOk strings_Builder_WriteString_2_lv Tryd.func70 rfl (by kernel_rfl) (Nat.le_of_ble_eq_true rfl) rfl rfl rfl ?_
  refine st_callc _ _ h (fun x1 hy => ((strings_Builder_copyCheck_2_ok h0_0 h0_1 x1 hy).fr [0] [0] rfl rfl rfl)) (fun x1 hy h => ?_)
  refine st_appso (a := h0_1) (b := p1) h rfl (fun x2 hi h => ?_)
  refine vrfl ?_
  refine Exists.intro _ (And.intro (Le.refl _ _ _) ?_)
  exact st_retc (t := t_strings_Builder_WriteString_2) (ss := fun o => ⟨[[.sp Tryd.prog 80 o.2.2.1 0 0, .own 0 5 1 (o.2.2.2.map (cNum .u8))]], [(o.2.2.2.map (cNum .u8)).length]⟩) h ⟨[0], rfl, .refl _, .refl _, rfl⟩
noncomputable def lex_machine_text_L1 (h0_0 : (List UInt8)) (h0_1 : Int) (h0_2 : (List api_Token)) (v4 : Int) (h1_0 : Bool) (h1_1 : (List Int)) : Option ((Int × Bool × (List Int)) ⊕ (Bool × (List Int))) :=
  ( if (decide (v4 < (h0_0.length : Int))) then
      idx h0_0 v4 >>= fun x5 =>
      some ((x5.toNat : Int) != 34)
    else
      some false : Option (Bool)) >>= fun o4 =>
  if o4 then
    utf_Next h0_0 v4 >>= fun x6 =>
    if (x6.1 == 92) then
      if ((wr (v4 + 1)) == (h0_0.length : Int)) then
        some (.inr (h1_0, h1_1))
      else
        idx h0_0 (wr (v4 + 1)) >>= fun x7 =>
        lex_escaped (x7.toNat : Int) >>= fun x8 =>
        if (!x8.2) then
          some (.inr (h1_0, h1_1))
        else
          strings_Builder_WriteByte_2 x8.1 h1_0 h1_1 >>= fun x9 =>
          lex_machine_text_L1 h0_0 h0_1 h0_2 (wr (v4 + 2)) x9.2.1 x9.2.2
    else
      ( if (x6.1 == 10) then
          some true
        else
          if (x6.1 == 13) then
            some true
          else
            if (x6.1 == 65533) then
              some (x6.2 == 1)
            else
              some false : Option (Bool)) >>= fun o10 =>
      if o10 then
        some (.inr (h1_0, h1_1))
      else
        cutL h0_0 v4 (wr (v4 + x6.2)) >>= fun x11 =>
        strings_Builder_WriteString_2 x11 h1_0 h1_1 >>= fun x12 =>
        lex_machine_text_L1 h0_0 h0_1 h0_2 (wr (v4 + x6.2)) x12.2.2.1 x12.2.2.2
  else
    some (.inl (v4, h1_0, h1_1))
  partial_fixpoint
set_option maxRecDepth 100000 in
set_option maxHeartbeats 4000000 in
theorem lex_machine_text_L1_grp : ∀ (h0_0 : (List UInt8)) (h0_1 : Int) (h0_2 : (List api_Token)), (∀ (v4 : Int) (h1_0 : Bool) (h1_1 : (List Int)) (o1 : (Int × Bool × (List Int)) ⊕ (Bool × (List Int))), lex_machine_text_L1 h0_0 h0_1 h0_2 v4 h1_0 h1_1 = some o1 → TL (1, 1) Tryd.prog 112 lex_machine_text_L1_c (JP2 (1, 1) 112 o1 (.exit 0) (lex_machine_text_L1_x0 h0_0 h0_1 h0_2) .ret (lex_machine_text_L1_x1 h0_0 h0_1 h0_2)) (lex_machine_text_L1_st h0_0 h0_1 h0_2 v4 h1_0 h1_1)) := by
  intro h0_0 h0_1 h0_2
  refine lex_machine_text_L1.partial_correctness h0_0 h0_1 h0_2 _ ?_
  intro lex_machine_text_L1' ih_lex_machine_text_L1 v4 h1_0 h1_1 o1 h
  refine TL.round (bwp_sound mixed tbOk (lv := lex_machine_text_lv) _ _ _ ?_)
  refine st_bind h (fun o4 ho hk => ?_)
  refine Exists.intro (JP1 _ _ o4 .normal (lex_machine_text_J0_0 h0_0 h0_1 h0_2 v4 h1_0 h1_1)) (And.intro ?_ (join1 ?_))
  · have h := ho
    refine vrfl ?_
    refine st_test h (fun hb h => ?_) (fun hb h => ?_)
    · refine st_sidx h (fun x5 hi h => ?_)
      refine JP1.a h ?_
      exact Le.tow 2 2 rfl (.cons rfl (.refl _) (.cons rfl (.refl _) (.cons rfl (.refl _) (.cons rfl (.refl _) (.nil))))) (.refl _) rfl
    · refine JP1.a h ?_
      exact Le.tow 2 2 rfl (.cons rfl (.refl _) (.cons rfl (.refl _) (.cons rfl (.refl _) (.cons rfl (.refl _) (.nil))))) (.refl _) rfl
  · have h := hk
    refine st_test h (fun hb h => ?_) (fun hb h => ?_)
    · refine st_call [sV h0_0, iV v4] t_utf_Next h (fun x6 hy => (utf_Next_ok h0_0 v4 x6 hy)) (fun x6 hy h => ?_)
      refine st_test h (fun hb h => ?_) (fun hb h => ?_)
      · refine vrfl ?_
        refine st_test h (fun hb h => ?_) (fun hb h => ?_)
        · exact JP2.b h (Le.tow 2 2 rfl (.cons rfl (.refl _) (.nil)) (.refl _) rfl)
        · refine st_sidx h (fun x7 hi h => ?_)
          refine st_call [nV .u8 (x7.toNat : Int)] t_lex_escaped h (fun x8 hy => (lex_escaped_ok (x7.toNat : Int) x8 hy)) (fun x8 hy h => ?_)
          refine st_test h (fun hb h => ?_) (fun hb h => ?_)
          · exact JP2.b h (Le.tow 2 2 rfl (.cons rfl (.refl _) (.nil)) (.refl _) rfl)
          · refine st_callc _ _ h (fun x9 hy => ((strings_Builder_WriteByte_2_ok x8.1 h1_0 h1_1 x9 hy).fr [1] [1] rfl rfl rfl)) (fun x9 hy h => ?_)
            refine TL.le (τ := lex_machine_text_L1_st h0_0 h0_1 h0_2 (wr (v4 + 2)) x9.2.1 x9.2.2) ?_ ((ih_lex_machine_text_L1 (wr (v4 + 2)) x9.2.1 x9.2.2 _ h))
            exact Le.tow 2 2 rfl (.cons rfl (.refl _) (.cons rfl (.refl _) (.cons rfl (.refl _) (.nil)))) (.refl _) rfl
      · refine st_bind h (fun o10 ho hk => ?_)
        refine Exists.intro (JP1 _ _ o10 .normal (lex_machine_text_J1_0 h0_0 h0_1 h0_2 v4 h1_0 h1_1 x6)) (And.intro ?_ (join1 ?_))
        · have h := ho
          refine st_test h (fun hb h => ?_) (fun hb h => ?_)
          · refine bT ?_
            refine JP1.a h ?_
            exact Le.tow 2 2 rfl (.cons rfl (.refl _) (.cons rfl (.refl _) (.cons rfl (.refl _) (.cons rfl (.refl _) (.cons rfl (.refl _) (.nil)))))) (.refl _) rfl
          · refine st_test h (fun hb h => ?_) (fun hb h => ?_)
            · refine JP1.a h ?_
              exact Le.tow 2 2 rfl (.cons rfl (.refl _) (.cons rfl (.refl _) (.cons rfl (.refl _) (.cons rfl (.refl _) (.cons rfl (.refl _) (.nil)))))) (.refl _) rfl
            · refine st_test h (fun hb h => ?_) (fun hb h => ?_)
              · refine JP1.a h ?_
                exact Le.tow 2 2 rfl (.cons rfl (.refl _) (.cons rfl (.refl _) (.cons rfl (.refl _) (.cons rfl (.refl _) (.cons rfl (.refl _) (.nil)))))) (.refl _) rfl
              · refine JP1.a h ?_
                exact Le.tow 2 2 rfl (.cons rfl (.refl _) (.cons rfl (.refl _) (.cons rfl (.refl _) (.cons rfl (.refl _) (.cons rfl (.refl _) (.nil)))))) (.refl _) rfl
        · have h := hk
          refine st_test h (fun hb h => ?_) (fun hb h => ?_)
          · exact JP2.b h (Le.tow 2 2 rfl (.cons rfl (.refl _) (.nil)) (.refl _) rfl)
          · refine st_cuts (some v4) (some (wr (v4 + x6.2))) h (fun x11 hi h => ?_)
            refine st_callc _ _ h (fun x12 hy => ((strings_Builder_WriteString_2_ok x11 h1_0 h1_1 x12 hy).fr [1] [1] rfl rfl rfl)) (fun x12 hy h => ?_)
            refine TL.le (τ := lex_machine_text_L1_st h0_0 h0_1 h0_2 (wr (v4 + x6.2)) x12.2.2.1 x12.2.2.2) ?_ ((ih_lex_machine_text_L1 (wr (v4 + x6.2)) x12.2.2.1 x12.2.2.2 _ h))
            exact Le.tow 2 2 rfl (.cons rfl (.refl _) (.cons rfl (.refl _) (.cons rfl (.refl _) (.nil)))) (.refl _) rfl
    · exact JP2.a h (Le.tow 2 2 rfl (.cons rfl (.refl _) (.cons rfl (.refl _) (.cons rfl (.refl _) (.nil)))) (.refl _) rfl)
theorem lex_machine_text_L1_ok : ∀ (h0_0 : (List UInt8)) (h0_1 : Int) (h0_2 : (List api_Token)) (v4 : Int) (h1_0 : Bool) (h1_1 : (List Int)) (o1 : (Int × Bool × (List Int)) ⊕ (Bool × (List Int))), lex_machine_text_L1 h0_0 h0_1 h0_2 v4 h1_0 h1_1 = some o1 → TL (1, 1) Tryd.prog 112 lex_machine_text_L1_c (JP2 (1, 1) 112 o1 (.exit 0) (lex_machine_text_L1_x0 h0_0 h0_1 h0_2) .ret (lex_machine_text_L1_x1 h0_0 h0_1 h0_2)) (lex_machine_text_L1_st h0_0 h0_1 h0_2 v4 h1_0 h1_1) := fun h0_0 h0_1 h0_2 v4 h1_0 h1_1 o1 h => (lex_machine_text_L1_grp h0_0 h0_1 h0_2) v4 h1_0 h1_1 o1 h
noncomputable def strings_Builder_String_2 (h0_0 : Bool) (h0_1 : (List Int)) : Option ((List UInt8)) :=
  b2s h0_1
set_option maxRecDepth 100000 in
set_option maxHeartbeats 4000000 in
theorem strings_Builder_String_2_ok : ∀ (h0_0 : Bool) (h0_1 : (List Int)) (o : (List UInt8)), strings_Builder_String_2 h0_0 h0_1 = some o → CallOK Tryd.prog 71 [.ptr 0 0] ⟨[[.sp Tryd.prog 80 h0_0 0 0, .own 0 5 1 (h0_1.map (cNum .u8))]], [(h0_1.map (cNum .u8)).length]⟩ (t_strings_Builder_String_2 o) ⟨[[.sp Tryd.prog 80 h0_0 0 0, .p (.sl false (h0_1.map (cNum .u8)))]], [((h0_1.map (cNum .u8)).length + 1)]⟩ := by
  intro h0_0 h0_1 o h
  unfold strings_Builder_String_2 at h
  exact builderString_ok [[.sp Tryd.prog 80 h0_0 0 0, .own 0 5 1 (h0_1.map (cNum .u8))]] [(h0_1.map (cNum .u8)).length] 0 0 [.sp Tryd.prog 80 h0_0 0 0, .own 0 5 1 (h0_1.map (cNum .u8))] (h0_1.map (cNum .u8)) rfl rfl rfl (b2s_cells h)
noncomputable def lex_machine_text (h0_0 : (List UInt8)) (h0_1 : Int) (h0_2 : (List api_Token)) : Option (Bool × Int × (List api_Token)) :=
  (lex_machine_text_L1 h0_0 h0_1 h0_2 (wr (h0_1 + 1)) false []) >>= fun o1 =>
  match o1 with
  | .inl y2 =>
    if (decide (y2.1 ≥ (h0_0.length : Int))) then
      some (false, h0_1, h0_2)
    else
      strings_Builder_String_2 y2.2.1 y2.2.2 >>= fun x13 =>
      lex_machine_put_2 5 x13 0 (wr ((wr (y2.1 + 1)) - h0_1)) h0_0 h0_1 h0_2 >>= fun x14 =>
      some (true, x14.1, x14.2)
  | .inr y3 =>
    some (false, h0_1, h0_2)
set_option maxRecDepth 100000 in
set_option maxHeartbeats 4000000 in
theorem lex_machine_text_ok : ∀ (h0_0 : (List UInt8)) (h0_1 : Int) (h0_2 : (List api_Token)) (o : Bool × Int × (List api_Token)), lex_machine_text h0_0 h0_1 h0_2 = some o → CallOK Tryd.prog 77 [.ptr 0 0] ⟨[[.p (sV h0_0), .p (iV h0_1), .own 0 42 5 (h0_2.map c_api_Token)]], [(h0_2.map c_api_Token).length]⟩ (t_lex_machine_text o) ⟨[[.p (sV h0_0), .p (iV o.2.1), .own 0 42 5 (o.2.2.map c_api_Token)]], [(o.2.2.map c_api_Token).length]⟩ := by
  intro h0_0 h0_1 h0_2 o h
  unfold lex_machine_text at h
  refine CallOK.ofB mixed tbOk lex_machine_text_lv Tryd.func77 rfl (by kernel_rfl) (Nat.le_of_ble_eq_true rfl) rfl rfl rfl ?_
  refine st_bind h (fun o1 ho hk => ?_)
  refine Exists.intro (JP2 _ _ o1 (.exit 0) (lex_machine_text_L1_x0 h0_0 h0_1 h0_2) .ret (lex_machine_text_L1_x1 h0_0 h0_1 h0_2)) (And.intro (T_le (τ := lex_machine_text_L1_st h0_0 h0_1 h0_2 (wr (h0_1 + 1)) false []) ?_ (TL.loop (lex_machine_text_L1_ok h0_0 h0_1 h0_2 (wr (h0_1 + 1)) false [] o1 ho))) (join2 (fun y2 hy => ?_) (fun y3 hy => ?_)))
  · exact (Le.ownH 1 1 5 1 rfl rfl sizeNil).trans (Le.tow 2 2 rfl (.cons rfl (.refl _) (.cons rfl (.refl _) (.cons rfl (.refl _) (.nil)))) (.refl _) rfl)
  · have h := (by rw [hy] at hk; exact hk)
    refine vrfl ?_
    refine st_test h (fun hb h => ?_) (fun hb h => ?_)
    · refine Exists.intro _ (And.intro (Le.refl _ _ _) ?_)
      exact st_retc (t := t_lex_machine_text) (ss := fun o => ⟨[[.p (sV h0_0), .p (iV o.2.1), .own 0 42 5 (o.2.2.map c_api_Token)]], [(o.2.2.map c_api_Token).length]⟩) h ⟨[0], rfl, .refl _, .refl _, rfl⟩
    · refine And.intro (by decide +kernel) (And.intro rfl ?_)
      refine st_callf _ _ h (fun x13 hy => ((strings_Builder_String_2_ok y2.2.1 y2.2.2 x13 hy).ff [1] [1] rfl rfl rfl rfl (Nat.le_of_ble_eq_true rfl))) (fun x13 hy h => ?_)
      refine st_callh _ _ h (fun x14 hy => ((lex_machine_put_2_ok 5 x13 0 (wr ((wr (y2.1 + 1)) - h0_1)) h0_0 h0_1 h0_2 x14 hy).fr [0] [0] rfl rfl rfl)) (fun x14 => Nat.le_of_ble_eq_true rfl) (fun x14 hy h => ?_)
      refine Exists.intro _ (And.intro (Le.refl _ _ _) ?_)
      exact st_retc (t := t_lex_machine_text) (ss := fun o => ⟨[[.p (sV h0_0), .p (iV o.2.1), .own 0 42 5 (o.2.2.map c_api_Token)]], [(o.2.2.map c_api_Token).length]⟩) h ⟨[0], rfl, .refl _, .refl _, rfl⟩
  · have h := (by rw [hy] at hk; exact hk)
    refine Exists.intro _ (And.intro (Le.refl _ _ _) ?_)
    exact st_retc (t := t_lex_machine_text) (ss := fun o => ⟨[[.p (sV h0_0), .p (iV o.2.1), .own 0 42 5 (o.2.2.map c_api_Token)]], [(o.2.2.map c_api_Token).length]⟩) h ⟨[0], rfl, .refl _, .refl _, rfl⟩
noncomputable def lex_Word_L1 (p0 : (List UInt8)) (v6 : Int) : Option (Unit ⊕ Unit) :=
  if (decide (v6 < (p0.length : Int))) then
    idx p0 v6 >>= fun x4 =>
    lex_letter (x4.toNat : Int) >>= fun x5 =>
    if (!x5) then
      some (.inr ())
    else
      lex_Word_L1 p0 (wr (v6 + 1))
  else
    some (.inl ())
  partial_fixpoint
set_option maxRecDepth 100000 in
set_option maxHeartbeats 4000000 in
theorem lex_Word_L1_grp : ∀ (p0 : (List UInt8)), (∀ (v6 : Int) (o1 : Unit ⊕ Unit), lex_Word_L1 p0 v6 = some o1 → TL (0, 0) Tryd.prog 27 lex_Word_L1_c (JP2 (0, 0) 27 o1 (.exit 0) (lex_Word_L1_x0 p0) .ret (lex_Word_L1_x1 p0)) (lex_Word_L1_st p0 v6)) := by
  intro p0
  refine lex_Word_L1.partial_correctness p0 _ ?_
  intro lex_Word_L1' ih_lex_Word_L1 v6 o1 h
  refine TL.round (bwp_sound mixed tbOk (lv := lex_Word_lv) _ _ _ ?_)
  refine st_test h (fun hb h => ?_) (fun hb h => ?_)
  · refine st_sidx h (fun x4 hi h => ?_)
    refine st_call [nV .u8 (x4.toNat : Int)] t_lex_letter h (fun x5 hy => (lex_letter_ok (x4.toNat : Int) x5 hy)) (fun x5 hy h => ?_)
    refine st_test h (fun hb h => ?_) (fun hb h => ?_)
    · exact JP2.b h (Le.tow 0 0 rfl (.cons rfl (.refl _) (.nil)) (.refl _) rfl)
    · refine TL.le (τ := lex_Word_L1_st p0 (wr (v6 + 1))) ?_ ((ih_lex_Word_L1 (wr (v6 + 1)) _ h))
      exact Le.tow 0 0 rfl (.cons rfl (.refl _) (.cons rfl (.refl _) (.cons rfl (.refl _) (.nil)))) (.refl _) rfl
  · exact JP2.a h (Le.tow 0 0 rfl (.cons rfl (.refl _) (.nil)) (.refl _) rfl)
theorem lex_Word_L1_ok : ∀ (p0 : (List UInt8)) (v6 : Int) (o1 : Unit ⊕ Unit), lex_Word_L1 p0 v6 = some o1 → TL (0, 0) Tryd.prog 27 lex_Word_L1_c (JP2 (0, 0) 27 o1 (.exit 0) (lex_Word_L1_x0 p0) .ret (lex_Word_L1_x1 p0)) (lex_Word_L1_st p0 v6) := fun p0 v6 o1 h => (lex_Word_L1_grp p0) v6 o1 h
noncomputable def lex_Word (p0 : (List UInt8)) : Option (Bool) :=
  (lex_Word_L1 p0 0) >>= fun o1 =>
  match o1 with
  | .inl y2 =>
    ( if (!(p0 == [])) then
        if (decide ((p0.length : Int) ≤ 32)) then
          idx p0 0 >>= fun x7 =>
          some (decide ((x7.toNat : Int) ≥ 97))
        else
          some false
      else
        some false : Option (Bool)) >>= fun o6 =>
    some o6
  | .inr y3 =>
    some false
set_option maxRecDepth 100000 in
set_option maxHeartbeats 4000000 in
theorem lex_Word_ok : ∀ (p0 : (List UInt8)) (o : Bool), lex_Word p0 = some o → PCall Tryd.prog 34 [sV p0] (t_lex_Word o) := by
  intro p0 o h
  unfold lex_Word at h
  refine PCall.ofB mixed tbOk lex_Word_lv Tryd.func34 rfl (by kernel_rfl) (Nat.le_of_ble_eq_true rfl) ?_
  refine vrfl ?_
  refine st_bind h (fun o1 ho hk => ?_)
  refine Exists.intro (JP2 _ _ o1 (.exit 0) (lex_Word_L1_x0 p0) .ret (lex_Word_L1_x1 p0)) (And.intro (T_le (τ := lex_Word_L1_st p0 0) ?_ (TL.loop (lex_Word_L1_ok p0 0 o1 ho))) (join2 (fun y2 hy => ?_) (fun y3 hy => ?_)))
  · exact Le.tow 0 0 rfl (.cons rfl (.refl _) (.cons rfl (.refl _) (.cons rfl (.refl _) (.nil)))) (.refl _) rfl
  · have h := (by rw [hy] at hk; exact hk)
    refine st_bind h (fun o6 ho hk => ?_)
    refine Exists.intro (JP1 _ _ o6 .normal (lex_Word_J0_0 )) (And.intro ?_ (join1 ?_))
    · have h := ho
      refine st_test h (fun hb h => ?_) (fun hb h => ?_)
      · refine vrfl ?_
        refine st_test h (fun hb h => ?_) (fun hb h => ?_)
        · refine st_sidx h (fun x7 hi h => ?_)
          refine JP1.a h ?_
          exact Le.tow 0 0 rfl (.cons rfl (.refl _) (.nil)) (.refl _) rfl
        · refine JP1.a h ?_
          exact Le.tow 0 0 rfl (.cons rfl (.refl _) (.nil)) (.refl _) rfl
      · refine bF ?_
        refine JP1.a h ?_
        exact Le.tow 0 0 rfl (.cons rfl (.refl _) (.nil)) (.refl _) rfl
    · have h := hk
      refine st_ret (t := t_lex_Word) h ?_
      exact .refl _
  · have h := (by rw [hy] at hk; exact hk)
    refine st_ret (t := t_lex_Word) h ?_
    exact .refl _
noncomputable def lex_machine_run_lex_letter_L1 (h0_0 : (List UInt8)) (h0_1 : Int) (h0_2 : (List api_Token)) (v7 : Int) : Option (Int) :=
  ( if (decide (v7 < (h0_0.length : Int))) then
      idx h0_0 v7 >>= fun x3 =>
      lex_letter (x3.toNat : Int) >>= fun x4 =>
      some x4
    else
      some false : Option (Bool)) >>= fun o2 =>
  if o2 then
    lex_machine_run_lex_letter_L1 h0_0 h0_1 h0_2 (wr (v7 + 1))
  else
    some v7
  partial_fixpoint
set_option maxRecDepth 100000 in
set_option maxHeartbeats 4000000 in
theorem lex_machine_run_lex_letter_L1_grp : ∀ (h0_0 : (List UInt8)) (h0_1 : Int) (h0_2 : (List api_Token)), (∀ (v7 : Int) (o1 : Int), lex_machine_run_lex_letter_L1 h0_0 h0_1 h0_2 v7 = some o1 → TL (1, 1) Tryd.prog 38 lex_machine_run_lex_letter_L1_c (JP1 (1, 1) 38 o1 (.exit 0) (lex_machine_run_lex_letter_L1_x0 h0_0 h0_1 h0_2)) (lex_machine_run_lex_letter_L1_st h0_0 h0_1 h0_2 v7)) := by
  intro h0_0 h0_1 h0_2
  refine lex_machine_run_lex_letter_L1.partial_correctness h0_0 h0_1 h0_2 _ ?_
  intro lex_machine_run_lex_letter_L1' ih_lex_machine_run_lex_letter_L1 v7 o1 h
  refine TL.round (bwp_sound mixed tbOk (lv := lex_machine_run_lex_letter_lv) _ _ _ ?_)
  refine st_bind h (fun o2 ho hk => ?_)
  refine Exists.intro (JP1 _ _ o2 .normal (lex_machine_run_lex_letter_J0_0 h0_0 h0_1 h0_2 v7)) (And.intro ?_ (join1 ?_))
  · have h := ho
    refine vrfl ?_
    refine st_test h (fun hb h => ?_) (fun hb h => ?_)
    · refine st_sidx h (fun x3 hi h => ?_)
      refine st_call [nV .u8 (x3.toNat : Int)] t_lex_letter h (fun x4 hy => (lex_letter_ok (x3.toNat : Int) x4 hy)) (fun x4 hy h => ?_)
      refine JP1.a h ?_
      exact Le.tow 1 1 rfl (.cons rfl (.refl _) (.cons rfl (.refl _) (.cons rfl (.refl _) (.cons rfl (.refl _) (.nil))))) (.refl _) rfl
    · refine JP1.a h ?_
      exact Le.tow 1 1 rfl (.cons rfl (.refl _) (.cons rfl (.refl _) (.cons rfl (.refl _) (.cons rfl (.refl _) (.nil))))) (.refl _) rfl
  · have h := hk
    refine st_test h (fun hb h => ?_) (fun hb h => ?_)
    · refine TL.le (τ := lex_machine_run_lex_letter_L1_st h0_0 h0_1 h0_2 (wr (v7 + 1))) ?_ ((ih_lex_machine_run_lex_letter_L1 (wr (v7 + 1)) _ h))
      exact Le.tow 1 1 rfl (.cons rfl (.refl _) (.cons rfl (.refl _) (.cons rfl (.refl _) (.nil)))) (.refl _) rfl
    · exact JP1.a h (Le.tow 1 1 rfl (.cons rfl (.refl _) (.cons rfl (.refl _) (.nil))) (.refl _) rfl)
theorem lex_machine_run_lex_letter_L1_ok : ∀ (h0_0 : (List UInt8)) (h0_1 : Int) (h0_2 : (List api_Token)) (v7 : Int) (o1 : Int), lex_machine_run_lex_letter_L1 h0_0 h0_1 h0_2 v7 = some o1 → TL (1, 1) Tryd.prog 38 lex_machine_run_lex_letter_L1_c (JP1 (1, 1) 38 o1 (.exit 0) (lex_machine_run_lex_letter_L1_x0 h0_0 h0_1 h0_2)) (lex_machine_run_lex_letter_L1_st h0_0 h0_1 h0_2 v7) := fun h0_0 h0_1 h0_2 v7 o1 h => (lex_machine_run_lex_letter_L1_grp h0_0 h0_1 h0_2) v7 o1 h
noncomputable def lex_machine_run_lex_letter (p1 : Int) (h0_0 : (List UInt8)) (h0_1 : Int) (h0_2 : (List api_Token)) : Option ((List UInt8)) :=
  (lex_machine_run_lex_letter_L1 h0_0 h0_1 h0_2 p1) >>= fun o1 =>
  cutL h0_0 h0_1 o1 >>= fun x5 =>
  some x5
set_option maxRecDepth 100000 in
set_option maxHeartbeats 4000000 in
theorem lex_machine_run_lex_letter_ok : ∀ (p1 : Int) (h0_0 : (List UInt8)) (h0_1 : Int) (h0_2 : (List api_Token)) (o : (List UInt8)), lex_machine_run_lex_letter p1 h0_0 h0_1 h0_2 = some o → CallOK Tryd.prog 101 [.ptr 0 0, .p (iV p1), .fn (.func 62) [] []] ⟨[[.p (sV h0_0), .p (iV h0_1), .own 0 42 5 (h0_2.map c_api_Token)]], [(h0_2.map c_api_Token).length]⟩ (t_lex_machine_run_lex_letter o) ⟨[[.p (sV h0_0), .p (iV h0_1), .own 0 42 5 (h0_2.map c_api_Token)]], [(h0_2.map c_api_Token).length]⟩ := by
  intro p1 h0_0 h0_1 h0_2 o h
  unfold lex_machine_run_lex_letter at h
  refine CallOK.ofB mixed tbOk lex_machine_run_lex_letter_lv Tryd.func101 rfl (by kernel_rfl) (Nat.le_of_ble_eq_true rfl) rfl rfl rfl ?_
  refine st_bind h (fun o1 ho hk => ?_)
  refine Exists.intro (JP1 _ _ o1 (.exit 0) (lex_machine_run_lex_letter_L1_x0 h0_0 h0_1 h0_2)) (And.intro (T_le (τ := lex_machine_run_lex_letter_L1_st h0_0 h0_1 h0_2 p1) ?_ (TL.loop (lex_machine_run_lex_letter_L1_ok h0_0 h0_1 h0_2 p1 o1 ho))) (join1 ?_))
  · exact Le.tow 1 1 rfl (.cons rfl (.refl _) (.cons rfl (.refl _) (.cons rfl (.refl _) (.nil)))) (.refl _) rfl
  have h := hk
  refine And.intro (by decide +kernel) (And.intro rfl ?_)
  refine st_cuts (some h0_1) (some o1) h (fun x5 hi h => ?_)
  refine Exists.intro _ (And.intro (Le.refl _ _ _) ?_)
  exact st_retc (t := t_lex_machine_run_lex_letter) (ss := fun o => ⟨[[.p (sV h0_0), .p (iV h0_1), .own 0 42 5 (h0_2.map c_api_Token)]], [(h0_2.map c_api_Token).length]⟩) h ⟨[0], rfl, .refl _, .refl _, rfl⟩
noncomputable def lex_machine_word (h0_0 : (List UInt8)) (h0_1 : Int) (h0_2 : (List api_Token)) : Option (Bool × Int × (List api_Token)) :=
  lex_machine_run_lex_letter h0_1 h0_0 h0_1 h0_2 >>= fun x1 =>
  lex_Word x1 >>= fun x2 =>
  if (!x2) then
    some (false, h0_1, h0_2)
  else
    lex_machine_put_2 4 x1 0 (x1.length : Int) h0_0 h0_1 h0_2 >>= fun x3 =>
    some (true, x3.1, x3.2)
set_option maxRecDepth 100000 in
set_option maxHeartbeats 4000000 in
theorem lex_machine_word_ok : ∀ (h0_0 : (List UInt8)) (h0_1 : Int) (h0_2 : (List api_Token)) (o : Bool × Int × (List api_Token)), lex_machine_word h0_0 h0_1 h0_2 = some o → CallOK Tryd.prog 80 [.ptr 0 0] ⟨[[.p (sV h0_0), .p (iV h0_1), .own 0 42 5 (h0_2.map c_api_Token)]], [(h0_2.map c_api_Token).length]⟩ (t_lex_machine_word o) ⟨[[.p (sV h0_0), .p (iV o.2.1), .own 0 42 5 (o.2.2.map c_api_Token)]], [(o.2.2.map c_api_Token).length]⟩ := by
  intro h0_0 h0_1 h0_2 o h
  unfold lex_machine_word at h
  refine CallOK.ofB mixed tbOk lex_machine_word_lv Tryd.func80 rfl (by kernel_rfl) (Nat.le_of_ble_eq_true rfl) rfl rfl rfl ?_
  refine st_callc _ _ h (fun x1 hy => ((lex_machine_run_lex_letter_ok h0_1 h0_0 h0_1 h0_2 x1 hy).fr [0] [0] rfl rfl rfl)) (fun x1 hy h => ?_)
  refine st_call [sV x1] t_lex_Word h (fun x2 hy => (lex_Word_ok x1 x2 hy)) (fun x2 hy h => ?_)
  refine st_test h (fun hb h => ?_) (fun hb h => ?_)
  · refine Exists.intro _ (And.intro (Le.refl _ _ _) ?_)
    exact st_retc (t := t_lex_machine_word) (ss := fun o => ⟨[[.p (sV h0_0), .p (iV o.2.1), .own 0 42 5 (o.2.2.map c_api_Token)]], [(o.2.2.map c_api_Token).length]⟩) h ⟨[0], rfl, .refl _, .refl _, rfl⟩
  · refine vrfl ?_
    refine st_callc _ _ h (fun x3 hy => ((lex_machine_put_2_ok 4 x1 0 (x1.length : Int) h0_0 h0_1 h0_2 x3 hy).fr [0] [0] rfl rfl rfl)) (fun x3 hy h => ?_)
    refine Exists.intro _ (And.intro (Le.refl _ _ _) ?_)
    exact st_retc (t := t_lex_machine_word) (ss := fun o => ⟨[[.p (sV h0_0), .p (iV o.2.1), .own 0 42 5 (o.2.2.map c_api_Token)]], [(o.2.2.map c_api_Token).length]⟩) h ⟨[0], rfl, .refl _, .refl _, rfl⟩
noncomputable def lex_machine_token_2 (h0_0 : (List UInt8)) (h0_1 : Int) (h0_2 : (List api_Token)) : Option (Bool × Int × (List api_Token)) :=
  idx h0_0 h0_1 >>= fun x1 =>
  if ((x1.toNat : Int) == 34) then
    lex_machine_text h0_0 h0_1 h0_2 >>= fun x2 =>
    some (x2.1, x2.2.1, x2.2.2)
  else
    ( if ((x1.toNat : Int) == 45) then
        some true
      else
        lex_digit (x1.toNat : Int) >>= fun x4 =>
        some x4 : Option (Bool)) >>= fun o3 =>
    if o3 then
      lex_machine_number h0_0 h0_1 h0_2 >>= fun x5 =>
      some (x5.1, x5.2.1, x5.2.2)
    else
      lex_letter (x1.toNat : Int) >>= fun x6 =>
      if x6 then
        lex_machine_word h0_0 h0_1 h0_2 >>= fun x7 =>
        some (x7.1, x7.2.1, x7.2.2)
      else
        lex_machine_sign h0_0 h0_1 h0_2 >>= fun x8 =>
        some (x8.1, x8.2.1, x8.2.2)
set_option maxRecDepth 100000 in
set_option maxHeartbeats 4000000 in
theorem lex_machine_token_2_ok : ∀ (h0_0 : (List UInt8)) (h0_1 : Int) (h0_2 : (List api_Token)) (o : Bool × Int × (List api_Token)), lex_machine_token_2 h0_0 h0_1 h0_2 = some o → CallOK Tryd.prog 53 [.ptr 0 0] ⟨[[.p (sV h0_0), .p (iV h0_1), .own 0 42 5 (h0_2.map c_api_Token)]], [(h0_2.map c_api_Token).length]⟩ (t_lex_machine_token_2 o) ⟨[[.p (sV h0_0), .p (iV o.2.1), .own 0 42 5 (o.2.2.map c_api_Token)]], [(o.2.2.map c_api_Token).length]⟩ := by
  intro h0_0 h0_1 h0_2 o h
  unfold lex_machine_token_2 at h
  refine CallOK.ofB mixed tbOk lex_machine_token_2_lv Tryd.func53 rfl (by kernel_rfl) (Nat.le_of_ble_eq_true rfl) rfl rfl rfl ?_
  refine And.intro (by decide +kernel) (And.intro rfl ?_)
  refine st_sidx h (fun x1 hi h => ?_)
  refine st_test h (fun hb h => ?_) (fun hb h => ?_)
  · refine st_callc _ _ h (fun x2 hy => ((lex_machine_text_ok h0_0 h0_1 h0_2 x2 hy).fr [0] [0] rfl rfl rfl)) (fun x2 hy h => ?_)
    refine Exists.intro _ (And.intro (Le.refl _ _ _) ?_)
    exact st_retc (t := t_lex_machine_token_2) (ss := fun o => ⟨[[.p (sV h0_0), .p (iV o.2.1), .own 0 42 5 (o.2.2.map c_api_Token)]], [(o.2.2.map c_api_Token).length]⟩) h ⟨[0], rfl, .refl _, .refl _, rfl⟩
  · refine st_bind h (fun o3 ho hk => ?_)
    refine Exists.intro (JP1 _ _ o3 .normal (lex_machine_token_2_J0_0 h0_0 h0_1 h0_2 x1)) (And.intro ?_ (join1 ?_))
    · have h := ho
      refine st_test h (fun hb h => ?_) (fun hb h => ?_)
      · refine JP1.a h ?_
        exact Le.tow 1 1 rfl (.cons rfl (.refl _) (.cons rfl (.refl _) (.cons rfl (.refl _) (.nil)))) (.refl _) rfl
      · refine st_call [nV .u8 (x1.toNat : Int)] t_lex_digit h (fun x4 hy => (lex_digit_ok (x1.toNat : Int) x4 hy)) (fun x4 hy h => ?_)
        refine JP1.a h ?_
        exact Le.tow 1 1 rfl (.cons rfl (.refl _) (.cons rfl (.refl _) (.cons rfl (.refl _) (.nil)))) (.refl _) rfl
    · have h := hk
      refine st_test h (fun hb h => ?_) (fun hb h => ?_)
      · refine st_callc _ _ h (fun x5 hy => ((lex_machine_number_ok h0_0 h0_1 h0_2 x5 hy).fr [0] [0] rfl rfl rfl)) (fun x5 hy h => ?_)
        refine Exists.intro _ (And.intro (Le.refl _ _ _) ?_)
        exact st_retc (t := t_lex_machine_token_2) (ss := fun o => ⟨[[.p (sV h0_0), .p (iV o.2.1), .own 0 42 5 (o.2.2.map c_api_Token)]], [(o.2.2.map c_api_Token).length]⟩) h ⟨[0], rfl, .refl _, .refl _, rfl⟩
      · refine st_call [nV .u8 (x1.toNat : Int)] t_lex_letter h (fun x6 hy => (lex_letter_ok (x1.toNat : Int) x6 hy)) (fun x6 hy h => ?_)
        refine st_test h (fun hb h => ?_) (fun hb h => ?_)
        · refine st_callc _ _ h (fun x7 hy => ((lex_machine_word_ok h0_0 h0_1 h0_2 x7 hy).fr [0] [0] rfl rfl rfl)) (fun x7 hy h => ?_)
          refine Exists.intro _ (And.intro (Le.refl _ _ _) ?_)
          exact st_retc (t := t_lex_machine_token_2) (ss := fun o => ⟨[[.p (sV h0_0), .p (iV o.2.1), .own 0 42 5 (o.2.2.map c_api_Token)]], [(o.2.2.map c_api_Token).length]⟩) h ⟨[0], rfl, .refl _, .refl _, rfl⟩
        · refine st_callc _ _ h (fun x8 hy => ((lex_machine_sign_ok h0_0 h0_1 h0_2 x8 hy).fr [0] [0] rfl rfl rfl)) (fun x8 hy h => ?_)
          refine Exists.intro _ (And.intro (Le.refl _ _ _) ?_)
          exact st_retc (t := t_lex_machine_token_2) (ss := fun o => ⟨[[.p (sV h0_0), .p (iV o.2.1), .own 0 42 5 (o.2.2.map c_api_Token)]], [(o.2.2.map c_api_Token).length]⟩) h ⟨[0], rfl, .refl _, .refl _, rfl⟩
noncomputable def strings_HasPrefix (p0 : (List UInt8)) (p1 : (List UInt8)) : Option (Bool) :=
  internal_stringslite_HasPrefix p0 p1 >>= fun x1 =>
  some x1
set_option maxRecDepth 100000 in
set_option maxHeartbeats 4000000 in
theorem strings_HasPrefix_ok : ∀ (p0 : (List UInt8)) (p1 : (List UInt8)) (o : Bool), strings_HasPrefix p0 p1 = some o → PCall Tryd.prog 76 [sV p0, sV p1] (t_strings_HasPrefix o) := by
  intro p0 p1 o h
  unfold strings_HasPrefix at h
  refine PCall.ofB mixed tbOk strings_HasPrefix_lv Tryd.func76 rfl (by kernel_rfl) (Nat.le_of_ble_eq_true rfl) ?_
  refine st_call [sV p0, sV p1] t_internal_stringslite_HasPrefix h (fun x1 hy => (internal_stringslite_HasPrefix_ok p0 p1 x1 hy)) (fun x1 hy h => ?_)
  refine st_ret (t := t_strings_HasPrefix) h ?_
  exact .refl _
noncomputable def octet_Begins (p0 : (List UInt8)) (p1 : (List UInt8)) (p2 : Int) : Option (Bool) :=
  ( if (decide (p2 ≥ 0)) then
      if (decide (p2 ≤ (p0.length : Int))) then
        cutL p0 p2 (p0.length : Int) >>= fun x2 =>
        strings_HasPrefix x2 p1 >>= fun x3 =>
        some x3
      else
        some false
    else
      some false : Option (Bool)) >>= fun o1 =>
  some o1
set_option maxRecDepth 100000 in
set_option maxHeartbeats 4000000 in
theorem octet_Begins_ok : ∀ (p0 : (List UInt8)) (p1 : (List UInt8)) (p2 : Int) (o : Bool), octet_Begins p0 p1 p2 = some o → PCall Tryd.prog 52 [sV p0, sV p1, iV p2] (t_octet_Begins o) := by
  intro p0 p1 p2 o h
  unfold octet_Begins at h
  refine PCall.ofB mixed tbOk octet_Begins_lv Tryd.func52 rfl (by kernel_rfl) (Nat.le_of_ble_eq_true rfl) ?_
  refine st_bind h (fun o1 ho hk => ?_)
  refine Exists.intro (JP1 _ _ o1 .normal (octet_Begins_J0_0 )) (And.intro ?_ (join1 ?_))
  · have h := ho
    refine st_test h (fun hb h => ?_) (fun hb h => ?_)
    · refine vrfl ?_
      refine st_test h (fun hb h => ?_) (fun hb h => ?_)
      · refine st_cuts (some p2) none h (fun x2 hi h => ?_)
        refine st_call [sV x2, sV p1] t_strings_HasPrefix h (fun x3 hy => (strings_HasPrefix_ok x2 p1 x3 hy)) (fun x3 hy h => ?_)
        refine JP1.a h ?_
        exact Le.tow 0 0 rfl (.cons rfl (.refl _) (.nil)) (.refl _) rfl
      · refine JP1.a h ?_
        exact Le.tow 0 0 rfl (.cons rfl (.refl _) (.nil)) (.refl _) rfl
    · refine bF ?_
      refine JP1.a h ?_
      exact Le.tow 0 0 rfl (.cons rfl (.refl _) (.nil)) (.refl _) rfl
  · have h := hk
    refine st_ret (t := t_octet_Begins) h ?_
    exact .refl _
noncomputable def strings_Index (p0 : (List UInt8)) (p1 : (List UInt8)) : Option (Int) :=
  internal_stringslite_Index p0 p1 >>= fun x1 =>
  some x1
set_option maxRecDepth 100000 in
set_option maxHeartbeats 4000000 in
theorem strings_Index_ok : ∀ (p0 : (List UInt8)) (p1 : (List UInt8)) (o : Int), strings_Index p0 p1 = some o → PCall Tryd.prog 49 [sV p0, sV p1] (t_strings_Index o) := by
  intro p0 p1 o h
  unfold strings_Index at h
  refine PCall.ofB mixed tbOk strings_Index_lv Tryd.func49 rfl (by kernel_rfl) (Nat.le_of_ble_eq_true rfl) ?_
  refine st_call [sV p0, sV p1] t_internal_stringslite_Index h (fun x1 hy => (internal_stringslite_Index_ok p0 p1 x1 hy)) (fun x1 hy h => ?_)
  refine st_ret (t := t_strings_Index) h ?_
  exact .refl _
mutual
noncomputable def lex_Tokens_S1_0 (p0 : (List UInt8)) (w0 : Int × (List api_Token)) : Option (((List api_Token) × Int × Int)) :=
  cutL p0 w0.1 (p0.length : Int) >>= fun x2 =>
  strings_Index x2 [123, 123] >>= fun x3 =>
  ( if (decide (x3 < 0)) then
      some (wr ((p0.length : Int) - w0.1))
    else
      some x3 : Option (Int)) >>= fun o4 =>
  ( if (decide (o4 > 0)) then
      cutL p0 w0.1 (wr (w0.1 + o4)) >>= fun x6 =>
      lex_machine_put_2 1 x6 0 o4 p0 w0.1 w0.2 >>= fun x7 =>
      some (x7.1, x7.2)
    else
      some (w0.1, w0.2) : Option ((Int × (List api_Token)))) >>= fun o5 =>
  if (o5.1 == (p0.length : Int)) then
    some (o5.2, 0, 0)
  else
    lex_machine_put_2 2 [] 0 2 p0 o5.1 o5.2 >>= fun x8 =>
    lex_machine_blanks_2 p0 x8.1 x8.2 >>= fun x9 =>
    ( octet_Begins p0 [35] x9 >>= fun x13 =>
      if x13 then
        cutL p0 x9 (p0.length : Int) >>= fun x14 =>
        strings_Index x14 [125, 125] >>= fun x15 =>
        if (decide (x15 < 0)) then
          some (.inr ())
        else
          some (.inl (wr (x9 + x15)))
      else
        some (.inl x9) : Option (Int ⊕ Unit)) >>= fun o10 =>
    match o10 with
    | .inl y11 =>
      lex_Tokens_S1_1 p0 (y11, x8.2)
    | .inr y12 =>
      some ([], (p0.length : Int), 7)
  partial_fixpoint
noncomputable def lex_Tokens_S1_1 (p0 : (List UInt8)) (w1 : Int × (List api_Token)) : Option (((List api_Token) × Int × Int)) :=
  lex_machine_blanks_2 p0 w1.1 w1.2 >>= fun x16 =>
  octet_Begins p0 [125, 125] x16 >>= fun x17 =>
  if x17 then
    lex_machine_put_2 3 [] 0 2 p0 x16 w1.2 >>= fun x18 =>
    lex_Tokens_S1_0 p0 (x18.1, x18.2)
  else
    ( if (x16 == (p0.length : Int)) then
        some (true, x16, w1.2)
      else
        lex_machine_token_2 p0 x16 w1.2 >>= fun x20 =>
        some ((!x20.1), x20.2.1, x20.2.2) : Option ((Bool × Int × (List api_Token)))) >>= fun o19 =>
    if o19.1 then
      some ([], o19.2.1, 7)
    else
      lex_Tokens_S1_1 p0 (o19.2.1, o19.2.2)
  partial_fixpoint
end
set_option maxRecDepth 100000 in
set_option maxHeartbeats 4000000 in
theorem lex_Tokens_S1_0_grp : ∀ (p0 : (List UInt8)), (∀ (w0 : Int × (List api_Token)) (o1 : ((List api_Token) × Int × Int)), lex_Tokens_S1_0 p0 w0 = some o1 → TG (0, 0) Tryd.prog 112 lex_Tokens_S1_c (behind lex_Tokens_S1_c 0) (JP1 (0, 0) 112 o1 .ret (lex_Tokens_S1_x0 p0)) (lex_Tokens_S1_0_st p0 w0)) ∧ (∀ (w1 : Int × (List api_Token)) (o1 : ((List api_Token) × Int × Int)), lex_Tokens_S1_1 p0 w1 = some o1 → TG (0, 0) Tryd.prog 112 lex_Tokens_S1_c (behind lex_Tokens_S1_c 1) (JP1 (0, 0) 112 o1 .ret (lex_Tokens_S1_x0 p0)) (lex_Tokens_S1_1_st p0 w1)) := by
  intro p0
  refine lex_Tokens_S1_0.mutual_partial_correctness p0 _ _ ?_ ?_
  · intro lex_Tokens_S1_1' ih_lex_Tokens_S1_1 w0 o1 h
    refine TG.seqb mixed tbOk (lv := lex_Tokens_lv) ?_
    refine st_cuts (some w0.1) none h (fun x2 hi h => ?_)
    refine st_call [sV x2, sV [123, 123]] t_strings_Index h (fun x3 hy => (strings_Index_ok x2 [123, 123] x3 hy)) (fun x3 hy h => ?_)
    refine TG.seqj mixed tbOk (lv := lex_Tokens_lv) ?_
    refine st_bind h (fun o4 ho hk => ?_)
    refine Exists.intro (JP1 _ _ o4 .normal (lex_Tokens_J0_0 p0 w0)) (And.intro ?_ (join1 ?_))
    · have h := ho
      refine st_test h (fun hb h => ?_) (fun hb h => ?_)
      · refine vrfl ?_
        refine JP1.a h ?_
        exact Le.tow 1 1 rfl (.cons rfl (.refl _) (.cons rfl (.refl _) (.cons rfl (.refl _) (.nil)))) (.refl _) rfl
      · refine JP1.a h ?_
        exact Le.tow 1 1 rfl (.cons rfl (.refl _) (.cons rfl (.refl _) (.cons rfl (.refl _) (.nil)))) (.refl _) rfl
    · have h := hk
      refine TG.seqj mixed tbOk (lv := lex_Tokens_lv) ?_
      refine st_bind h (fun o5 ho hk => ?_)
      refine Exists.intro (JP1 _ _ o5 .normal (lex_Tokens_J1_0 p0)) (And.intro ?_ (join1 ?_))
      · have h := ho
        refine st_test h (fun hb h => ?_) (fun hb h => ?_)
        · refine And.intro (by decide +kernel) (And.intro rfl ?_)
          refine st_cuts (some w0.1) (some (wr (w0.1 + o4))) h (fun x6 hi h => ?_)
          refine st_callh _ _ h (fun x7 hy => ((lex_machine_put_2_ok 1 x6 0 o4 p0 w0.1 w0.2 x7 hy).fr [0] [0] rfl rfl rfl)) (fun x7 => Nat.le_of_ble_eq_true rfl) (fun x7 hy h => ?_)
          refine JP1.a h ?_
          exact Le.tow 1 1 rfl (.cons rfl (.refl _) (.cons rfl (.refl _) (.nil))) (.refl _) rfl
        · refine JP1.a h ?_
          exact Le.tow 1 1 rfl (.cons rfl (.refl _) (.cons rfl (.refl _) (.nil))) (.refl _) rfl
      · have h := hk
        refine TG.seqb mixed tbOk (lv := lex_Tokens_lv) ?_
        refine vrfl ?_
        refine st_test h (fun hb h => ?_) (fun hb h => ?_)
        · refine JP1.a h ?_
          exact Le.tow 0 0 rfl (.cons rfl (.refl _) (.cons rfl (.refl _) (.cons rfl (.refl _) (.nil)))) (.refl _) rfl
        · refine TG.seqb mixed tbOk (lv := lex_Tokens_lv) ?_
          refine st_callc _ _ h (fun x8 hy => ((lex_machine_put_2_ok 2 [] 0 2 p0 o5.1 o5.2 x8 hy).fr [0] [0] rfl rfl rfl)) (fun x8 hy h => ?_)
          refine TG.seqb mixed tbOk (lv := lex_Tokens_lv) ?_
          refine st_callc _ _ h (fun x9 hy => ((lex_machine_blanks_2_ok p0 x8.1 x8.2 x9 hy).fr [0] [0] rfl rfl rfl)) (fun x9 hy h => ?_)
          refine TG.seqj mixed tbOk (lv := lex_Tokens_lv) ?_
          refine st_bind h (fun o10 ho hk => ?_)
          refine Exists.intro (JP2 _ _ o10 .normal (lex_Tokens_J2_0 p0 x8 x9) .ret (lex_Tokens_J2_1 p0 x8 x9)) (And.intro ?_ (join2 (fun y11 hy => ?_) (fun y12 hy => ?_)))
          · have h := ho
            refine st_call [sV p0, sV [35], iV x9] t_octet_Begins h (fun x13 hy => (octet_Begins_ok p0 [35] x9 x13 hy)) (fun x13 hy h => ?_)
            refine st_test h (fun hb h => ?_) (fun hb h => ?_)
            · refine st_cuts (some x9) none h (fun x14 hi h => ?_)
              refine st_call [sV x14, sV [125, 125]] t_strings_Index h (fun x15 hy => (strings_Index_ok x14 [125, 125] x15 hy)) (fun x15 hy h => ?_)
              refine st_test h (fun hb h => ?_) (fun hb h => ?_)
              · refine vrfl ?_
                refine JP2.b h ?_
                exact Le.tow 1 1 rfl (.cons rfl (.refl _) (.cons rfl (.refl _) (.cons rfl (.refl _) (.nil)))) (.refl _) rfl
              · refine JP2.a h ?_
                exact Le.tow 1 1 rfl (.cons rfl (.refl _) (.cons rfl (.refl _) (.nil))) (.refl _) rfl
            · refine JP2.a h ?_
              exact Le.tow 1 1 rfl (.cons rfl (.refl _) (.cons rfl (.refl _) (.nil))) (.refl _) rfl
          · have h := (by rw [hy] at hk; exact hk)
            refine TG.label (TG.le (τ := lex_Tokens_S1_1_st p0 (y11, x8.2)) ?_ ((ih_lex_Tokens_S1_1 (y11, x8.2) _ h)))
            exact Le.tow 1 1 rfl (.cons rfl (.refl _) (.cons rfl (.refl _) (.nil))) (.refl _) rfl
          · have h := (by rw [hy] at hk; exact hk)
            refine JP1.a h ?_
            exact Le.tow 0 0 rfl (.cons rfl (.p (.not)) (.cons rfl (.refl _) (.cons rfl (.refl _) (.nil)))) (.refl _) rfl
  · intro lex_Tokens_S1_0' lex_Tokens_S1_1' ih_lex_Tokens_S1_0 ih_lex_Tokens_S1_1 w1 o1 h
    refine TG.seqb mixed tbOk (lv := lex_Tokens_lv) ?_
    refine st_callc _ _ h (fun x16 hy => ((lex_machine_blanks_2_ok p0 w1.1 w1.2 x16 hy).fr [0] [0] rfl rfl rfl)) (fun x16 hy h => ?_)
    refine TG.seqb mixed tbOk (lv := lex_Tokens_lv) ?_
    refine st_call [sV p0, sV [125, 125], iV x16] t_octet_Begins h (fun x17 hy => (octet_Begins_ok p0 [125, 125] x16 x17 hy)) (fun x17 hy h => ?_)
    refine st_test h (fun hb h => ?_) (fun hb h => ?_)
    · refine st_callc _ _ h (fun x18 hy => ((lex_machine_put_2_ok 3 [] 0 2 p0 x16 w1.2 x18 hy).fr [0] [0] rfl rfl rfl)) (fun x18 hy h => ?_)
      refine Exists.intro _ (And.intro rfl (TG.skip (TG.le (τ := lex_Tokens_S1_0_st p0 (x18.1, x18.2)) ?_ ((ih_lex_Tokens_S1_0 (x18.1, x18.2) _ h)))))
      exact Le.tow 1 1 rfl (.cons rfl (.refl _) (.cons rfl (.refl _) (.nil))) (.refl _) rfl
    · refine TG.seqb mixed tbOk (lv := lex_Tokens_lv) ?_
      refine st_bind h (fun o19 ho hk => ?_)
      refine Exists.intro (JP1 _ _ o19 .normal (lex_Tokens_J3_0 p0)) (And.intro ?_ (join1 ?_))
      · have h := ho
        refine vrfl ?_
        refine st_test h (fun hb h => ?_) (fun hb h => ?_)
        · refine JP1.a h ?_
          exact Le.tow 1 1 rfl (.cons rfl (.refl _) (.cons rfl (.refl _) (.cons rfl (.refl _) (.nil)))) (.refl _) rfl
        · refine st_callc _ _ h (fun x20 hy => ((lex_machine_token_2_ok p0 x16 w1.2 x20 hy).fr [0] [0] rfl rfl rfl)) (fun x20 hy h => ?_)
          refine JP1.a h ?_
          exact Le.tow 1 1 rfl (.cons rfl (.refl _) (.cons rfl (.refl _) (.cons rfl (.refl _) (.nil)))) (.refl _) rfl
      · have h := hk
        refine st_test h (fun hb h => ?_) (fun hb h => ?_)
        · refine And.intro (by decide +kernel) (And.intro rfl ?_)
          refine JP1.a h ?_
          exact Le.tow 0 0 rfl (.cons rfl (.p (.not)) (.cons rfl (.refl _) (.cons rfl (.refl _) (.nil)))) (.refl _) rfl
        · refine TG.lastb mixed tbOk (lv := lex_Tokens_lv) ?_
          refine Exists.intro _ (And.intro rfl (TG.skip (TG.le (τ := lex_Tokens_S1_1_st p0 (o19.2.1, o19.2.2)) ?_ ((ih_lex_Tokens_S1_1 (o19.2.1, o19.2.2) _ h)))))
          exact Le.tow 1 1 rfl (.cons rfl (.refl _) (.cons rfl (.refl _) (.nil))) (.refl _) rfl
theorem lex_Tokens_S1_0_ok : ∀ (p0 : (List UInt8)) (w0 : Int × (List api_Token)) (o1 : ((List api_Token) × Int × Int)), lex_Tokens_S1_0 p0 w0 = some o1 → TG (0, 0) Tryd.prog 112 lex_Tokens_S1_c (behind lex_Tokens_S1_c 0) (JP1 (0, 0) 112 o1 .ret (lex_Tokens_S1_x0 p0)) (lex_Tokens_S1_0_st p0 w0) := fun p0 w0 o1 h => (lex_Tokens_S1_0_grp p0).1 w0 o1 h
noncomputable def lex_Tokens (p0 : (List UInt8)) : Option ((List api_Token) × Int × Int) :=
  ( if (decide ((p0.length : Int) > 65536)) then
      some ([], 0, 6)
    else
      lex_Tokens_S1_0 p0 (0, []) : Option (((List api_Token) × Int × Int))) >>= fun o1 =>
  some (o1.1, o1.2.1, o1.2.2)
set_option maxRecDepth 100000 in
set_option maxHeartbeats 4000000 in
theorem lex_Tokens_ok : ∀ (p0 : (List UInt8)) (o : (List api_Token) × Int × Int), lex_Tokens p0 = some o → PCall Tryd.prog 26 [sV p0] (t_lex_Tokens o) := by
  intro p0 o h
  unfold lex_Tokens at h
  refine PCall.ofB mixed tbOk lex_Tokens_lv Tryd.func26 rfl (by kernel_rfl) (Nat.le_of_ble_eq_true rfl) ?_
  refine st_bind h (fun o1 ho hk => ?_)
  refine Exists.intro (JP1 _ _ o1 .ret (lex_Tokens_S1_x0 p0)) (And.intro (TG.scope ?_) (join1 ?_))
  · have h := ho
    refine TG.seqb mixed tbOk (lv := lex_Tokens_lv) ?_
    refine vrfl ?_
    refine st_test h (fun hb h => ?_) (fun hb h => ?_)
    · refine JP1.a h ?_
      exact Le.tow 0 0 rfl (.cons rfl (.p (.not)) (.cons rfl (.refl _) (.cons rfl (.refl _) (.nil)))) (.refl _) rfl
    · refine TG.seqb mixed tbOk (lv := lex_Tokens_lv) ?_
      refine TG.seqb mixed tbOk (lv := lex_Tokens_lv) ?_
      refine TG.label (TG.le (τ := lex_Tokens_S1_0_st p0 (0, [])) ?_ ((lex_Tokens_S1_0_ok p0 (0, []) _ h)))
      exact (Le.ownH 0 2 42 5 rfl rfl sizeNil).trans (Le.tow 1 1 rfl (.cons rfl (.refl _) (.cons rfl (.refl _) (.nil))) (.refl _) rfl)
  · have h := hk
    refine st_ret (t := t_lex_Tokens) h ?_
    exact .refl _
noncomputable def nunciolaw18_awake : Option (Bool) :=
  lex_Tokens [97, 123, 123, 32, 98, 32, 46, 32, 99, 32, 125, 125] >>= fun x1 =>
  lex_Tokens [123, 123, 32, 63, 32, 125, 125] >>= fun x2 =>
  lex_Tokens [123, 123, 32, 45, 53, 32, 34, 120, 92, 110, 34, 32, 125, 125] >>= fun x3 =>
  ( if (x1.2.2 == 0) then
      if (x1.2.1 == 0) then
        if ((x1.1.length : Int) == 6) then
          idx x1.1 0 >>= fun x5 =>
          if (x5.Text == [97]) then
            idx x1.1 3 >>= fun x6 =>
            if (x6.Kind == 7) then
              if (x2.2.2 == 7) then
                if (x2.2.1 == 3) then
                  if (x3.2.2 == 0) then
                    if ((x3.1.length : Int) == 4) then
                      idx x3.1 1 >>= fun x7 =>
                      if (x7.N == (-5)) then
                        idx x3.1 2 >>= fun x8 =>
                        some (x8.Text == [120, 10])
                      else
                        some false
                    else
                      some false
                  else
                    some false
                else
                  some false
              else
                some false
            else
              some false
          else
            some false
        else
          some false
      else
        some false
    else
      some false : Option (Bool)) >>= fun o4 =>
  some o4
set_option maxRecDepth 100000 in
set_option maxHeartbeats 4000000 in
theorem nunciolaw18_awake_ok : ∀ (o : Bool), nunciolaw18_awake  = some o → PCall Tryd.prog 29 [] (t_nunciolaw18_awake o) := by
  intro o h
  unfold nunciolaw18_awake at h
  refine PCall.ofB mixed tbOk nunciolaw18_awake_lv Tryd.func29 rfl (by kernel_rfl) (Nat.le_of_ble_eq_true rfl) ?_
  refine st_call [sV [97, 123, 123, 32, 98, 32, 46, 32, 99, 32, 125, 125]] t_lex_Tokens h (fun x1 hy => (lex_Tokens_ok [97, 123, 123, 32, 98, 32, 46, 32, 99, 32, 125, 125] x1 hy)) (fun x1 hy h => ?_)
  refine st_call [sV [123, 123, 32, 63, 32, 125, 125]] t_lex_Tokens h (fun x2 hy => (lex_Tokens_ok [123, 123, 32, 63, 32, 125, 125] x2 hy)) (fun x2 hy h => ?_)
  refine st_call [sV [123, 123, 32, 45, 53, 32, 34, 120, 92, 110, 34, 32, 125, 125]] t_lex_Tokens h (fun x3 hy => (lex_Tokens_ok [123, 123, 32, 45, 53, 32, 34, 120, 92, 110, 34, 32, 125, 125] x3 hy)) (fun x3 hy h => ?_)
  refine st_bind h (fun o4 ho hk => ?_)
  refine Exists.intro (JP1 _ _ o4 .normal (nunciolaw18_awake_J0_0 )) (And.intro ?_ (join1 ?_))
  · have h := ho
    refine st_test h (fun hb h => ?_) (fun hb h => ?_)
    · refine st_test h (fun hb h => ?_) (fun hb h => ?_)
      · refine view (lenMap _ _) rfl ?_
        refine st_test h (fun hb h => ?_) (fun hb h => ?_)
        · refine st_idx (l := x1.1) (c := c_api_Token) (c' := c_api_Token) h (fun _ => rfl) (fun _ => rfl) (by decide) (fun x5 hi h => ?_)
          refine st_test h (fun hb h => ?_) (fun hb h => ?_)
          · refine st_idx (l := x1.1) (c := c_api_Token) (c' := c_api_Token) h (fun _ => rfl) (fun _ => rfl) (by decide) (fun x6 hi h => ?_)
            refine st_test h (fun hb h => ?_) (fun hb h => ?_)
            · refine st_test h (fun hb h => ?_) (fun hb h => ?_)
              · refine st_test h (fun hb h => ?_) (fun hb h => ?_)
                · refine st_test h (fun hb h => ?_) (fun hb h => ?_)
                  · refine view (lenMap _ _) rfl ?_
                    refine st_test h (fun hb h => ?_) (fun hb h => ?_)
                    · refine st_idx (l := x3.1) (c := c_api_Token) (c' := c_api_Token) h (fun _ => rfl) (fun _ => rfl) (by decide) (fun x7 hi h => ?_)
                      refine st_test h (fun hb h => ?_) (fun hb h => ?_)
                      · refine st_idx (l := x3.1) (c := c_api_Token) (c' := c_api_Token) h (fun _ => rfl) (fun _ => rfl) (by decide) (fun x8 hi h => ?_)
                        refine JP1.a h ?_
                        exact Le.tow 0 0 rfl (.cons rfl (.refl _) (.nil)) (.refl _) rfl
                      · refine JP1.a h ?_
                        exact Le.tow 0 0 rfl (.cons rfl (.refl _) (.nil)) (.refl _) rfl
                    · refine bF ?_
                      refine JP1.a h ?_
                      exact Le.tow 0 0 rfl (.cons rfl (.refl _) (.nil)) (.refl _) rfl
                  · refine bF ?_
                    refine bF ?_
                    refine JP1.a h ?_
                    exact Le.tow 0 0 rfl (.cons rfl (.refl _) (.nil)) (.refl _) rfl
                · refine bF ?_
                  refine bF ?_
                  refine bF ?_
                  refine JP1.a h ?_
                  exact Le.tow 0 0 rfl (.cons rfl (.refl _) (.nil)) (.refl _) rfl
              · refine bF ?_
                refine bF ?_
                refine bF ?_
                refine bF ?_
                refine JP1.a h ?_
                exact Le.tow 0 0 rfl (.cons rfl (.refl _) (.nil)) (.refl _) rfl
            · refine bF ?_
              refine bF ?_
              refine bF ?_
              refine bF ?_
              refine bF ?_
              refine JP1.a h ?_
              exact Le.tow 0 0 rfl (.cons rfl (.refl _) (.nil)) (.refl _) rfl
          · refine bF ?_
            refine bF ?_
            refine bF ?_
            refine bF ?_
            refine bF ?_
            refine bF ?_
            refine JP1.a h ?_
            exact Le.tow 0 0 rfl (.cons rfl (.refl _) (.nil)) (.refl _) rfl
        · refine bF ?_
          refine bF ?_
          refine bF ?_
          refine bF ?_
          refine bF ?_
          refine bF ?_
          refine bF ?_
          refine JP1.a h ?_
          exact Le.tow 0 0 rfl (.cons rfl (.refl _) (.nil)) (.refl _) rfl
      · refine bF ?_
        refine bF ?_
        refine bF ?_
        refine bF ?_
        refine bF ?_
        refine bF ?_
        refine bF ?_
        refine bF ?_
        refine JP1.a h ?_
        exact Le.tow 0 0 rfl (.cons rfl (.refl _) (.nil)) (.refl _) rfl
    · refine bF ?_
      refine bF ?_
      refine bF ?_
      refine bF ?_
      refine bF ?_
      refine bF ?_
      refine bF ?_
      refine bF ?_
      refine bF ?_
      refine JP1.a h ?_
      exact Le.tow 0 0 rfl (.cons rfl (.refl _) (.nil)) (.refl _) rfl
  · have h := hk
    refine st_ret (t := t_nunciolaw18_awake) h ?_
    exact .refl _
noncomputable def nunciolaw18_LexSames (p0 : (List api_Token)) (p1 : (List api_Token)) : Option (Bool) :=
  cutL p0 0 (if 60 < (p0.length : Int) then 60 else (p0.length : Int)) >>= fun x1 =>
  cutL p1 0 (if 60 < (p1.length : Int) then 60 else (p1.length : Int)) >>= fun x2 =>
  ( lex_Same x1 x2 >>= fun x4 =>
    R18_Same x1 x2 >>= fun x5 =>
    if (x4 == x5) then
      lex_Same x1 x1 >>= fun x6 =>
      if x6 then
        nunciolaw18_awake >>= fun x7 =>
        some x7
      else
        some false
    else
      some false : Option (Bool)) >>= fun o3 =>
  some o3
set_option maxRecDepth 100000 in
set_option maxHeartbeats 4000000 in
theorem nunciolaw18_LexSames_ok : ∀ (p0 : (List api_Token)) (p1 : (List api_Token)) (o : Bool), nunciolaw18_LexSames p0 p1 = some o → PCall Tryd.prog 9 [.sl false (p0.map c_api_Token), .sl false (p1.map c_api_Token)] (t_nunciolaw18_LexSames o) := by
  intro p0 p1 o h
  unfold nunciolaw18_LexSames at h
  refine PCall.ofB mixed tbOk nunciolaw18_LexSames_lv Tryd.func9 rfl (by kernel_rfl) (Nat.le_of_ble_eq_true rfl) ?_
  refine And.intro (by decide +kernel) (And.intro rfl ?_)
  refine view (lenMap _ _) rfl ?_
  refine st_cut (c := c_api_Token) none (some (if 60 < (p0.length : Int) then 60 else (p0.length : Int))) h (fun _ => rfl) (fun x1 hi h => ?_)
  refine view (lenMap _ _) rfl ?_
  refine st_cut (c := c_api_Token) none (some (if 60 < (p1.length : Int) then 60 else (p1.length : Int))) h (fun _ => rfl) (fun x2 hi h => ?_)
  refine st_bind h (fun o3 ho hk => ?_)
  refine Exists.intro (JP1 _ _ o3 .normal (nunciolaw18_LexSames_J0_0 )) (And.intro ?_ (join1 ?_))
  · have h := ho
    refine st_call [.sl false (x1.map c_api_Token), .sl false (x2.map c_api_Token)] t_lex_Same h (fun x4 hy => (lex_Same_ok x1 x2 x4 hy)) (fun x4 hy h => ?_)
    refine st_call [.sl false (x1.map c_api_Token), .sl false (x2.map c_api_Token)] t_R18_Same h (fun x5 hy => (R18_Same_ok x1 x2 x5 hy)) (fun x5 hy h => ?_)
    refine st_test h (fun hb h => ?_) (fun hb h => ?_)
    · refine st_call [.sl false (x1.map c_api_Token), .sl false (x1.map c_api_Token)] t_lex_Same h (fun x6 hy => (lex_Same_ok x1 x1 x6 hy)) (fun x6 hy h => ?_)
      refine st_test h (fun hb h => ?_) (fun hb h => ?_)
      · refine st_call [] t_nunciolaw18_awake h (fun x7 hy => (nunciolaw18_awake_ok x7 hy)) (fun x7 hy h => ?_)
        refine JP1.a h ?_
        exact Le.tow 0 0 rfl (.cons rfl (.refl _) (.nil)) (.refl _) rfl
      · refine JP1.a h ?_
        exact Le.tow 0 0 rfl (.cons rfl (.refl _) (.nil)) (.refl _) rfl
    · refine bF ?_
      refine JP1.a h ?_
      exact Le.tow 0 0 rfl (.cons rfl (.refl _) (.nil)) (.refl _) rfl
  · have h := hk
    refine st_ret (t := t_nunciolaw18_LexSames) h ?_
    exact .refl _
end Go.Proofs.YtebkhehjfkmdiaaDoor
end

section
namespace Go.Proofs.YtebkhehjfkmdiaaDoor
open Go.RowKit

def contB (c : UInt8) : Bool := decide (128 ≤ c.toNat) && decide (c.toNat < 192)
def runeB (n : Nat) : Bool := decide (n ≤ 1114111) && !(decide (55296 ≤ n) && decide (n ≤ 57343))
/-- The rune at the head, and how many bytes it has. -/
def nextC (c : UInt8) (r : List UInt8) : Nat × Nat :=
    if c.toNat < 128 then (c.toNat, 1)
    else if 192 ≤ c.toNat ∧ c.toNat < 224 then
      match r with
      | c1 :: _ => if contB c1 = true ∧ 128 ≤ (c.toNat - 192) * 64 + (c1.toNat - 128) then ((c.toNat - 192) * 64 + (c1.toNat - 128), 2) else (65533, 1)
      | _ => (65533, 1)
    else if 224 ≤ c.toNat ∧ c.toNat < 240 then
      match r with
      | c1 :: c2 :: _ => if contB c1 = true ∧ contB c2 = true ∧ 2048 ≤ ((c.toNat - 224) * 64 + (c1.toNat - 128)) * 64 + (c2.toNat - 128) ∧ runeB (((c.toNat - 224) * 64 + (c1.toNat - 128)) * 64 + (c2.toNat - 128)) = true then (((c.toNat - 224) * 64 + (c1.toNat - 128)) * 64 + (c2.toNat - 128), 3) else (65533, 1)
      | _ => (65533, 1)
    else if 240 ≤ c.toNat ∧ c.toNat < 248 then
      match r with
      | c1 :: c2 :: c3 :: _ => if contB c1 = true ∧ contB c2 = true ∧ contB c3 = true ∧ 65536 ≤ (((c.toNat - 240) * 64 + (c1.toNat - 128)) * 64 + (c2.toNat - 128)) * 64 + (c3.toNat - 128) ∧ runeB ((((c.toNat - 240) * 64 + (c1.toNat - 128)) * 64 + (c2.toNat - 128)) * 64 + (c3.toNat - 128)) = true then ((((c.toNat - 240) * 64 + (c1.toNat - 128)) * 64 + (c2.toNat - 128)) * 64 + (c3.toNat - 128), 4) else (65533, 1)
      | _ => (65533, 1)
    else (65533, 1)
def nextP : List UInt8 → Nat × Nat
  | [] => (0, 0)
  | c :: r => nextC c r
theorem i32_in {n : Int} (h1 : -2147483648 ≤ n) (h2 : n ≤ 2147483647) : IntKind.i32.wrap n = n := by
  simp [IntKind.wrap, IntKind.bits, IntKind.signed]
  omega
theorem and63 : ∀ c : Fin 256, bits .and .u8 ((c.1 : Nat) : Int) 63 = ((c.1 % 64 : Nat) : Int) := by decide +kernel
theorem and192 : ∀ c : Fin 256, (bits .and .u8 ((c.1 : Nat) : Int) 192 != 128) = !(decide (128 ≤ c.1) && decide (c.1 < 192)) := by decide +kernel
theorem and31 : ∀ c : Fin 256, bits .and .u8 ((c.1 : Nat) : Int) 31 = ((c.1 % 32 : Nat) : Int) := by decide +kernel
theorem and15 : ∀ c : Fin 256, bits .and .u8 ((c.1 : Nat) : Int) 15 = ((c.1 % 16 : Nat) : Int) := by decide +kernel
theorem and7 : ∀ c : Fin 256, bits .and .u8 ((c.1 : Nat) : Int) 7 = ((c.1 % 8 : Nat) : Int) := by decide +kernel
theorem or64 (a b : Nat) (ha : a < 1000000) (hb : b < 64) : bits .or .i32 (IntKind.i32.wrap ((a : Int) * 2 ^ (min (6 : Int).toNat (IntKind.i32.bits)))) (IntKind.i32.wrap (b : Int)) = ((a * 64 + b : Nat) : Int) := by
  have e1 : IntKind.i32.wrap ((a : Int) * 2 ^ (min (6 : Int).toNat (IntKind.i32.bits))) = ((a * 64 : Nat) : Int) := by
    have : (min (6 : Int).toNat (IntKind.i32.bits)) = 6 := rfl
    rw [this, i32_in (by omega) (by omega)]; omega
  rw [e1, i32_in (by omega) (by omega)]
  have e2 : (2 : Nat) ^ 6 * a + b = 2 ^ 6 * a ||| b := Nat.two_pow_add_eq_or_of_lt (by omega) a
  have e3 : a * 64 ||| b = a * 64 + b := by
    have : (2 : Nat) ^ 6 * a = a * 64 := by omega
    rw [this] at e2; omega
  show IntKind.i32.wrap ((BitVec.ofInt 32 ((a * 64 : Nat) : Int) ||| BitVec.ofInt 32 (b : Int)).toNat : Int) = _
  rw [BitVec.toNat_or, BitVec.ofInt_natCast, BitVec.ofInt_natCast, BitVec.toNat_ofNat, BitVec.toNat_ofNat, Nat.mod_eq_of_lt (by omega), Nat.mod_eq_of_lt (by omega), e3, i32_in (by omega) (by omega)]
theorem b63 (c : UInt8) : bits .and .u8 (c.toNat : Int) 63 = ((c.toNat % 64 : Nat) : Int) := and63 ⟨c.toNat, c.toNat_lt⟩
theorem b192 (c : UInt8) : (bits .and .u8 (c.toNat : Int) 192 != 128) = !contB c := and192 ⟨c.toNat, c.toNat_lt⟩
theorem b31 (c : UInt8) : bits .and .u8 (c.toNat : Int) 31 = ((c.toNat % 32 : Nat) : Int) := and31 ⟨c.toNat, c.toNat_lt⟩
theorem b15 (c : UInt8) : bits .and .u8 (c.toNat : Int) 15 = ((c.toNat % 16 : Nat) : Int) := and15 ⟨c.toNat, c.toNat_lt⟩
theorem b7 (c : UInt8) : bits .and .u8 (c.toNat : Int) 7 = ((c.toNat % 8 : Nat) : Int) := and7 ⟨c.toNat, c.toNat_lt⟩
theorem cont_mod {c : UInt8} (h : contB c = true) : c.toNat % 64 = c.toNat - 128 := by
  unfold contB at h
  simp at h
  omega
/-- What follows: so many bytes. -/
def tailP : Nat → List UInt8 → Nat → Option Nat
  | 0, _, v => some v
  | _ + 1, [], _ => none
  | m + 1, c :: r, v => if contB c = true then tailP m r (v * 64 + (c.toNat - 128)) else none
set_option maxRecDepth 20000 in
theorem tTailL (l : List UInt8) (m : Nat) (hm : m ≤ l.length) (hm3 : m ≤ 3) : ∀ (d k v : Nat), k + d = m → ((k = 0 → v < 64) ∧ (k ≤ 1 → v < 4096) ∧ (k ≤ 2 → v < 262144)) →
    utf_tail_L1 l m v k = some (match tailP d (l.drop k) v with | some n => .inl (n : Int) | none => .inr ()) := by
  intro d
  induction d with
  | zero =>
    intro k v hk _
    rw [utf_tail_L1, ltI, decide_eq_false (by omega : ¬ k < m)]
    rfl
  | succ d ih =>
    intro k v hk hv
    have hkl : k < l.length := by omega
    have : decide ((k : Int) < (m : Int)) = true := decide_eq_true (by omega)
    rw [utf_tail_L1]
    simp only [this, if_true, idx_nat, getE hkl, bind_some', b192, b63]
    rw [or64 v _ (by omega) (Nat.mod_lt _ (by omega)), wr_succ (by omega), dropE hkl]
    unfold tailP
    cases hc : contB l[k] with
    | false => rfl
    | true =>
      rw [cont_mod hc]
      have hlt : l[k].toNat - 128 < 64 := by unfold contB at hc; simp at hc; omega
      have hv2 : (k + 1 = 0 → v * 64 + (l[k].toNat - 128) < 64) ∧ (k + 1 ≤ 1 → v * 64 + (l[k].toNat - 128) < 4096) ∧ (k + 1 ≤ 2 → v * 64 + (l[k].toNat - 128) < 262144) := by omega
      simp only [Bool.not_true, Bool.false_eq_true, if_false, if_true]
      exact ih (k + 1) _ (by omega) hv2
theorem tTail (l : List UInt8) (m v : Nat) (hm3 : m ≤ 3) (hv : v < 64) : utf_tail l v m = some (match (if l.length < m then none else tailP m l v) with | some n => ((n : Int), true) | none => (0, false)) := by
  rw [utf_tail, ltI]
  by_cases h : l.length < m
  · rw [decide_eq_true h, if_pos h]; rfl
  · rw [decide_eq_false h, if_neg h]
    have := tTailL l m (by omega) hm3 m 0 v (by omega) (by omega)
    rw [List.drop_zero] at this
    rw [show (0 : Int) = ((0 : Nat) : Int) from rfl, this]
    cases tailP m l v <;> rfl
theorem tIsR (n : Nat) : utf_is (n : Int) = some (runeB n) := by
  have a : decide ((n : Int) ≥ 0) = true := decide_eq_true (by omega)
  have b : decide ((n : Int) ≤ 1114111) = decide (n ≤ 1114111) := by
    by_cases h : n ≤ 1114111
    · rw [decide_eq_true h, decide_eq_true (by omega)]
    · rw [decide_eq_false h, decide_eq_false (by omega)]
  rw [utf_is, a, b, runeB]
  by_cases h1 : n < 55296
  · rw [decide_eq_true (show (n : Int) < 55296 by omega), decide_eq_true (show n ≤ 1114111 by omega), decide_eq_false (show ¬ 55296 ≤ n by omega)]; rfl
  · rw [decide_eq_false (show ¬ (n : Int) < 55296 by omega), decide_eq_true (show 55296 ≤ n by omega)]
    by_cases h2 : n ≤ 57343
    · rw [decide_eq_false (show ¬ (n : Int) > 57343 by omega), decide_eq_true h2, decide_eq_true (show n ≤ 1114111 by omega)]; rfl
    · rw [decide_eq_true (show (n : Int) > 57343 by omega), decide_eq_false h2]
      cases decide (n ≤ 1114111) <;> rfl
theorem ltC (c : UInt8) (k : Nat) : decide ((c.toNat : Int) < (k : Int)) = decide (c.toNat < k) := ltI _ _
theorem geC (c : UInt8) (k : Nat) : decide ((c.toNat : Int) ≥ (k : Int)) = decide (k ≤ c.toNat) := by
  by_cases h : k ≤ c.toNat
  · rw [decide_eq_true h, decide_eq_true (by omega)]
  · rw [decide_eq_false h, decide_eq_false (by omega)]
/-- What Next makes of a tail. -/
def endP (o : Option Nat) (least m : Nat) : Nat × Nat := match o with
  | some n => if least ≤ n ∧ runeB n = true then (n, m + 1) else (65533, 1)
  | none => (65533, 1)
set_option maxRecDepth 20000 in
theorem tNext (s : List UInt8) (k : Nat) (hk : k < s.length) (hs : s.length < 9223372036854775807) : utf_Next s k = some (((nextP (s.drop k)).1 : Int), ((nextP (s.drop k)).2 : Int)) := by
  have d1 : decide ((k : Int) < 0) = false := decide_eq_false (by omega)
  have d2 : decide ((k : Int) ≥ (s.length : Int)) = false := decide_eq_false (by omega)
  have hc := s[k].toNat_lt
  have hr : cutL s (wr ((k : Int) + 1)) (s.length : Int) = some (s.drop (k + 1)) := by
    rw [wr_succ (by omega), cutL_ok (by omega) (by omega) (by omega)]
    simp
  rw [utf_Next, d1, d2, hr, dropE hk]
  have l128 := ltC s[k] 128
  have g192 := geC s[k] 192
  have l224 := ltC s[k] 224
  have g224 := geC s[k] 224
  have l240 := ltC s[k] 240
  have g240 := geC s[k] 240
  have l248 := ltC s[k] 248
  have b1 : ∀ a b : Bool, (if a = true then some b else some false : Option Bool) = some (a && b) := fun a b => by cases a <;> rfl
  simp only [Bool.false_eq_true, if_false, bind_some', idx_nat, getE hk]
  rw [show (128 : Int) = ((128 : Nat) : Int) from rfl, show (192 : Int) = ((192 : Nat) : Int) from rfl, show (224 : Int) = ((224 : Nat) : Int) from rfl, show (240 : Int) = ((240 : Nat) : Int) from rfl, show (248 : Int) = ((248 : Nat) : Int) from rfl, l128, g192, l224, g224, l240, g240, l248]
  simp only [b1, bind_some']
  rw [nextP]
  unfold nextC
  have fin : ∀ (v least m : Nat), m ≤ 3 → v < 64 → (utf_tail (s.drop (k + 1)) (v : Int) (m : Int) >>= fun x10 =>
      (if (!x10.2) = true then some true else if decide (x10.1 < (least : Int)) = true then some true else utf_is x10.1 >>= fun x12 => some (!x12) : Option Bool) >>= fun o11 =>
      if o11 = true then some ((65533 : Int), (1 : Int)) else some (x10.1, wr ((m : Int) + 1))) =
      some (((endP (if (s.drop (k + 1)).length < m then none else tailP m (s.drop (k + 1)) v) least m).1 : Int), ((endP (if (s.drop (k + 1)).length < m then none else tailP m (s.drop (k + 1)) v) least m).2 : Int)) := fun v least m hm hv => by
    rw [tTail _ m v hm hv]
    cases (if (s.drop (k + 1)).length < m then none else tailP m (s.drop (k + 1)) v) with
    | none => rfl
    | some n =>
      simp only [bind_some', Bool.not_true, Bool.false_eq_true, if_false, ltI, tIsR, endP]
      by_cases h1 : n < least
      · rw [decide_eq_true h1, if_neg (fun h => absurd h.1 (by omega) : ¬ (least ≤ n ∧ runeB n = true))]; rfl
      · rw [decide_eq_false h1]
        cases hrn : runeB n with
        | true => rw [if_pos (⟨by omega, rfl⟩ : least ≤ n ∧ true = true), wr_succ (by omega)]; rfl
        | false => rw [if_neg (fun h => by cases h.2 : ¬ (least ≤ n ∧ false = true))]; rfl
  by_cases h1 : s[k].toNat < 128
  · rw [decide_eq_true h1, if_pos h1]
    simp only [if_true, bind_some']
    rw [i32_in (by omega) (by omega)]; rfl
  rw [decide_eq_false h1, if_neg h1]
  simp only [Bool.false_eq_true, if_false]
  have cc : ∀ c : UInt8, contB c = true → c.toNat - 128 < 64 := fun c h => by unfold contB at h; simp at h; omega
  by_cases h2 : 192 ≤ s[k].toNat ∧ s[k].toNat < 224
  · rw [decide_eq_true h2.1, decide_eq_true h2.2, if_pos h2, b31]
    simp only [Bool.and_true, if_true, bind_some']
    rw [i32_in (by omega) (by omega)]
    have f := fin (s[k].toNat % 32) 128 1 (by omega) (by omega)
    rw [show ((1 : Nat) : Int) = 1 from rfl] at f
    rw [f]
    have e : s[k].toNat % 32 = s[k].toNat - 192 := by omega
    rw [e]
    cases s.drop (k + 1) with
    | nil => rfl
    | cons c1 r1 =>
      simp only [List.length_cons, if_neg (by omega : ¬ r1.length + 1 < 1), tailP]
      cases h : contB c1 with
      | false => rfl
      | true =>
        have := cc c1 h
        have hr : runeB ((s[k].toNat - 192) * 64 + (c1.toNat - 128)) = true := by unfold runeB; rw [decide_eq_true (by omega), decide_eq_false (by omega)]; rfl
        simp only [if_true, endP, hr, and_true, true_and]
  rw [if_neg h2]
  have d2 : (decide (192 ≤ s[k].toNat) && decide (s[k].toNat < 224)) = false := by
    rw [Bool.and_eq_false_iff]
    by_cases h : 192 ≤ s[k].toNat
    · exact .inr (decide_eq_false (by omega))
    · exact .inl (decide_eq_false h)
  rw [d2]
  simp only [Bool.false_eq_true, if_false]
  by_cases h3 : 224 ≤ s[k].toNat ∧ s[k].toNat < 240
  · rw [decide_eq_true h3.1, decide_eq_true h3.2, if_pos h3, b15]
    simp only [Bool.and_true, if_true, bind_some']
    rw [i32_in (by omega) (by omega)]
    have f := fin (s[k].toNat % 16) 2048 2 (by omega) (by omega)
    rw [show ((2 : Nat) : Int) = 2 from rfl, show ((2048 : Nat) : Int) = 2048 from rfl] at f
    rw [f]
    have e : s[k].toNat % 16 = s[k].toNat - 224 := by omega
    rw [e]
    match s.drop (k + 1) with
    | [] => rfl
    | [c1] => rfl
    | c1 :: c2 :: r1 =>
      simp only [List.length_cons, if_neg (by omega : ¬ r1.length + 1 + 1 < 2), tailP]
      cases h : contB c1 with
      | false => rfl
      | true =>
        cases h' : contB c2 with
        | false => simp [endP]
        | true => simp only [if_true, endP, true_and]
  rw [if_neg h3]
  have d3 : (decide (224 ≤ s[k].toNat) && decide (s[k].toNat < 240)) = false := by
    rw [Bool.and_eq_false_iff]
    by_cases h : 224 ≤ s[k].toNat
    · exact .inr (decide_eq_false (by omega))
    · exact .inl (decide_eq_false h)
  rw [d3]
  simp only [Bool.false_eq_true, if_false]
  by_cases h4 : 240 ≤ s[k].toNat ∧ s[k].toNat < 248
  · rw [decide_eq_true h4.1, decide_eq_true h4.2, if_pos h4, b7]
    simp only [Bool.and_true, if_true, bind_some']
    rw [i32_in (by omega) (by omega)]
    have f := fin (s[k].toNat % 8) 65536 3 (by omega) (by omega)
    rw [show ((3 : Nat) : Int) = 3 from rfl, show ((65536 : Nat) : Int) = 65536 from rfl] at f
    rw [f]
    have e : s[k].toNat % 8 = s[k].toNat - 240 := by omega
    rw [e]
    match s.drop (k + 1) with
    | [] => rfl
    | [c1] => rfl
    | [c1, c2] => rfl
    | c1 :: c2 :: c3 :: r1 =>
      simp only [List.length_cons, if_neg (by omega : ¬ r1.length + 1 + 1 + 1 < 3), tailP]
      cases h : contB c1 with
      | false => rfl
      | true =>
        cases h' : contB c2 with
        | false => simp [endP]
        | true =>
          cases h'' : contB c3 with
          | false => simp [endP]
          | true => simp only [if_true, endP, true_and]
  rw [if_neg h4]
  have d4 : (decide (240 ≤ s[k].toNat) && decide (s[k].toNat < 248)) = false := by
    rw [Bool.and_eq_false_iff]
    by_cases h : 240 ≤ s[k].toNat
    · exact .inr (decide_eq_false (by omega))
    · exact .inl (decide_eq_false h)
  rw [d4]
  rfl
theorem nextP_size (l : List UInt8) (h : l ≠ []) : 1 ≤ (nextP l).2 ∧ (nextP l).2 ≤ l.length := by
  cases l with
  | nil => exact absurd rfl h
  | cons c r =>
    rw [nextP]
    unfold nextC
    split
    · simp
    · split
      · split
        · split <;> simp
        · simp
      · split
        · split
          · split <;> simp
          · simp
        · split
          · split
            · split <;> simp
            · simp
          · simp
end Go.Proofs.YtebkhehjfkmdiaaDoor
end

section
namespace Go.Proofs.YtebkhehjfkmdiaaDoor
open Go.RowKit

theorem td (n k : Nat) : ((n : Int).tdiv (k : Int)) = ((n / k : Nat) : Int) := by rw [Int.tdiv_eq_ediv_of_nonneg (by omega)]; rfl
theorem tm (n k : Nat) : ((n : Int).tmod (k : Int)) = ((n % k : Nat) : Int) := by rw [Int.tmod_eq_emod_of_nonneg (by omega)]; rfl
end Go.Proofs.YtebkhehjfkmdiaaDoor
end
