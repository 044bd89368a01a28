/- The proof's texts, part 8 of 9: the walks by a logic in which data are by value, the plain laws, and at the end the law, for every input. -/
import Derived.Test.YtlhjieapkcnghaaMgTreePrints7
import Derived.ProofKit

section
set_option linter.unusedVariables false
set_option linter.unusedSimpArgs false
namespace Go.Proofs.Ytlhjieapkcnghaa
open Go.RowKit

structure api_Token where
  Kind : Int
  Text : (List UInt8)
  N : Int
  From : Int
  To : Int
noncomputable def c_api_Token (x : api_Token) : List V := [iV x.Kind, sV x.Text, iV x.N, iV x.From, iV x.To]
noncomputable def t_R01_Join (y : (List UInt8)) : D := .p (sV y)
noncomputable def R01_Join_lv : List (Nat × List Nat) := [(0, [0, 1]), (1, [0, 1, 5]), (2, [0, 1, 5, 6]), (3, [0, 1, 5, 6, 10]), (4, [0, 1, 5, 6]), (5, [0, 1, 5, 6, 14]), (6, [0, 1, 5, 6]), (7, [0, 1, 5, 6]), (8, [4]), (1000003, [0, 1, 5, 6])]
noncomputable def R01_Join_L1_st (p0 : (List (List UInt8))) (p1 : (List UInt8)) (v5 : (List UInt8)) (v6 : Int) : St := ⟨[(0, .p (.sl false (p0.map cStr))), (1, .p (sV p1)), (5, .p (sV v5)), (6, .p (iV v6))], ⟨[], []⟩⟩
noncomputable def R01_Join_L1_x0 (p0 : (List (List UInt8))) (p1 : (List UInt8)) (o1 : (List UInt8)) : St := ⟨[(5, .p (sV o1))], ⟨[], []⟩⟩
noncomputable def R01_Join_L1_c : Code := ((loopsOf (Try.f113.body.getD .skip)).getD 0 .skip)
noncomputable def t_R01_Number (y : Int × Bool) : D := .tup [.p (iV y.1), .p (bV y.2)]
noncomputable def t_R01_Text (y : (List UInt8)) : D := .p (sV y)
noncomputable def t_R18_Tokens (y : (List api_Token) × Int × Int) : D := .tup [.p (.sl false (y.1.map c_api_Token)), .p (iV y.2.1), .p (iV y.2.2)]
noncomputable def R18_Tokens_lv : List (Nat × List Nat) := [(0, [0]), (1, [0, 12]), (2, [2, 3, 4]), (3, [0, 5]), (4, [0, 5, 6]), (5, [0, 5, 6, 17]), (6, [0, 5, 6, 7]), (7, [0, 5, 6, 7, 23]), (8, [0, 5, 7]), (9, [0, 5, 7, 37]), (10, [2, 3, 4]), (11, [0, 5, 7]), (12, [0, 5, 6]), (13, [0, 5, 6, 52]), (14, [0, 5, 6]), (15, [0, 5, 6]), (16, [0, 5, 6, 62]), (17, [2, 3, 4]), (18, [0, 5, 6, 8, 9]), (19, [0, 5, 6, 8, 71]), (20, [2, 3, 4]), (21, [0, 5, 8]), (22, [0, 5, 6, 8]), (23, [0, 5, 6, 81]), (24, [2, 3, 4]), (1000005, [0, 5, 6]), (1000015, [0, 5, 6]), (2007005, []), (2013005, [])]
noncomputable def R18_Tokens_J0_0 (p0 : (List UInt8)) (x4 : Int) (o5 : (List api_Token)) : St := ⟨[(0, .p (sV p0)), (5, .own 0 91 5 (o5.map c_api_Token)), (7, .p (iV x4))], ⟨[], [(o5.map c_api_Token).length]⟩⟩
noncomputable def R18_Tokens_J1_0 (p0 : (List UInt8)) (x8 : (List api_Token)) (o10 : Int) : St := ⟨[(0, .p (sV p0)), (5, .own 0 91 5 (x8.map c_api_Token)), (6, .p (iV o10))], ⟨[], [(x8.map c_api_Token).length]⟩⟩
noncomputable def R18_Tokens_L2_st (p0 : (List UInt8)) (v5_ : (List api_Token)) (v6_ : Int) : St := ⟨[(0, .p (sV p0)), (5, .own 0 91 5 (v5_.map c_api_Token)), (6, .p (iV v6_))], ⟨[], [(v5_.map c_api_Token).length]⟩⟩
noncomputable def R18_Tokens_L2_x0 (p0 : (List UInt8)) (y14 : (List api_Token) × Int) : St := ⟨[(0, .p (sV p0)), (5, .own 0 91 5 (y14.1.map c_api_Token)), (6, .p (iV y14.2))], ⟨[], [(y14.1.map c_api_Token).length]⟩⟩
noncomputable def R18_Tokens_L2_x1 (p0 : (List UInt8)) (y15 : Int) : St := ⟨[(2, .p (.sl true [])), (3, .p (iV y15)), (4, .p (iV 7))], ⟨[], []⟩⟩
noncomputable def R18_Tokens_L2_c : Code := ((loopsOf (Try.f30.body.getD .skip)).getD 1 .skip)
noncomputable def R18_Tokens_L1_st (p0 : (List UInt8)) (v5 : (List api_Token)) (v6 : Int) : St := ⟨[(0, .p (sV p0)), (5, .own 0 91 5 (v5.map c_api_Token)), (6, .p (iV v6))], ⟨[], [(v5.map c_api_Token).length]⟩⟩
noncomputable def R18_Tokens_L1_x0 (p0 : (List UInt8)) (y2 : (List api_Token)) : St := ⟨[(5, .own 0 91 5 (y2.map c_api_Token))], ⟨[], [(y2.map c_api_Token).length]⟩⟩
noncomputable def R18_Tokens_L1_x1 (p0 : (List UInt8)) (y3 : (List api_Token) × Int × Int) : St := ⟨[(2, .p (.sl false (y3.1.map c_api_Token))), (3, .p (iV y3.2.1)), (4, .p (iV y3.2.2))], ⟨[], []⟩⟩
noncomputable def R18_Tokens_L1_c : Code := ((loopsOf (Try.f30.body.getD .skip)).getD 0 .skip)
noncomputable def t_R18_blank (y : Bool) : D := .p (bV y)
noncomputable def R18_blank_lv : List (Nat × List Nat) := [(0, [0]), (1, [2]), (3000001, [])]
noncomputable def R18_blank_J0_0  (o1 : Bool) : St := ⟨[(2, .p (bV o1))], ⟨[], []⟩⟩
noncomputable def t_R18_blanks (y : Int) : D := .p (iV y)
noncomputable def R18_blanks_lv : List (Nat × List Nat) := [(0, [0, 1]), (1, [0, 1, 14]), (2, [0, 1]), (3, [4]), (1000001, [0, 1]), (3000001, [])]
noncomputable def R18_blanks_J0_0 (p0 : (List UInt8)) (v1 : Int) (o2 : Bool) : St := ⟨[(0, .p (sV p0)), (1, .p (iV v1)), (14, .p (bV o2))], ⟨[], []⟩⟩
noncomputable def R18_blanks_L1_st (p0 : (List UInt8)) (v1 : Int) : St := ⟨[(0, .p (sV p0)), (1, .p (iV v1))], ⟨[], []⟩⟩
noncomputable def R18_blanks_L1_x0 (p0 : (List UInt8)) (o1 : Int) : St := ⟨[(1, .p (iV o1))], ⟨[], []⟩⟩
noncomputable def R18_blanks_L1_c : Code := ((loopsOf (Try.f57.body.getD .skip)).getD 0 .skip)
noncomputable def t_R18_find (y : Int) : D := .p (iV y)
noncomputable def R18_find_lv : List (Nat × List Nat) := [(0, [0, 1, 2]), (1, [0, 1, 2, 17]), (2, [0, 1, 2]), (3, [6]), (1000001, [0, 1, 2]), (3000001, [])]
noncomputable def R18_find_J0_0 (p0 : (List UInt8)) (p1 : (List UInt8)) (v2 : Int) (o2 : Bool) : St := ⟨[(0, .p (sV p0)), (1, .p (sV p1)), (2, .p (iV v2)), (17, .p (bV o2))], ⟨[], []⟩⟩
noncomputable def R18_find_L1_st (p0 : (List UInt8)) (p1 : (List UInt8)) (v2 : Int) : St := ⟨[(0, .p (sV p0)), (1, .p (sV p1)), (2, .p (iV v2))], ⟨[], []⟩⟩
noncomputable def R18_find_L1_x0 (p0 : (List UInt8)) (p1 : (List UInt8)) (o1 : Int) : St := ⟨[(2, .p (iV o1))], ⟨[], []⟩⟩
noncomputable def R18_find_L1_c : Code := ((loopsOf (Try.f56.body.getD .skip)).getD 0 .skip)
noncomputable def t_R18_one (y : api_Token × Bool) : D := .tup [.p (.agg [iV y.1.Kind, sV y.1.Text, iV y.1.N, iV y.1.From, iV y.1.To]), .p (bV y.2)]
noncomputable def R18_one_lv : List (Nat × List Nat) := [(0, [0, 1, 4]), (1, [0, 1, 4, 6]), (2, [0, 1, 4, 6, 7]), (3, [0, 1, 4, 6, 7, 24]), (4, [1, 4, 6]), (5, [4, 6]), (6, [4, 5]), (7, [0, 1, 4, 6, 7, 8]), (8, [0, 1, 4, 6, 7, 8, 9]), (9, [0, 1, 4, 6, 7, 8, 9, 33]), (10, [0, 1, 4, 6, 7, 8, 9]), (11, [0, 1, 4, 6, 7, 8, 9, 40]), (12, [4, 6]), (13, [4, 5]), (14, [0, 1, 4, 6, 7, 48]), (15, [1, 4, 10, 11]), (16, [4, 5]), (17, [0, 1, 4, 6, 7, 12]), (18, [0, 1, 4, 6, 7, 12, 64]), (19, [0, 1, 4, 12, 86]), (20, [0, 1, 4, 12]), (21, [4, 5]), (22, [0, 1, 4, 6, 12, 106]), (23, [0, 1, 4, 12, 116]), (24, [0, 1, 4, 12]), (25, [1, 4, 12, 13, 14]), (26, [4, 5]), (27, [4, 5]), (1000009, [0, 1, 4, 6, 7, 8, 9]), (1000019, [0, 1, 4, 12]), (1000023, [0, 1, 4, 12]), (3000019, []), (3000022, []), (3000023, [])]
noncomputable def R18_one_L1_st (p0 : (List UInt8)) (p1 : Int) (x1 : UInt8) (v9 : Int) : St := ⟨[(0, .p (sV p0)), (1, .p (iV p1)), (4, .ptr 0 0), (6, .ptr 1 0), (7, .p (nV .u8 (x1.toNat : Int))), (8, .p (sV [46, 40, 41, 44, 61])), (9, .p (iV v9))], ⟨[[.p (iV 0), .p (sV []), .p (iV 0), .p (iV 0), .p (iV 0)], [.p (iV 0), .p (sV []), .p (iV 0), .p (iV p1), .p (iV (wr (p1 + 1)))]], []⟩⟩
noncomputable def R18_one_L1_x0 (p0 : (List UInt8)) (p1 : Int) (x1 : UInt8) (y4 : Unit) : St := ⟨[(0, .p (sV p0)), (1, .p (iV p1)), (4, .ptr 0 0), (6, .ptr 1 0), (7, .p (nV .u8 (x1.toNat : Int)))], ⟨[[.p (iV 0), .p (sV []), .p (iV 0), .p (iV 0), .p (iV 0)], [.p (iV 0), .p (sV []), .p (iV 0), .p (iV p1), .p (iV (wr (p1 + 1)))]], []⟩⟩
noncomputable def R18_one_L1_x1 (p0 : (List UInt8)) (p1 : Int) (x1 : UInt8) (y5 : Int × Int) : St := ⟨[(4, .ptr 0 0), (5, .p (bV true))], ⟨[[.p (iV y5.1), .p (sV []), .p (iV 0), .p (iV p1), .p (iV (wr (p1 + 1)))], [.p (iV y5.2), .p (sV []), .p (iV 0), .p (iV p1), .p (iV (wr (p1 + 1)))]], []⟩⟩
noncomputable def R18_one_L1_c : Code := ((loopsOf (Try.f58.body.getD .skip)).getD 0 .skip)
noncomputable def R18_one_J0_0 (p0 : (List UInt8)) (p1 : Int) (v12 : Int) (o11 : Bool) : St := ⟨[(0, .p (sV p0)), (1, .p (iV p1)), (4, .ptr 0 0), (12, .p (iV v12)), (86, .p (bV o11))], ⟨[[.p (iV 0), .p (sV []), .p (iV 0), .p (iV 0), .p (iV 0)], [.p (iV 0), .p (sV []), .p (iV 0), .p (iV p1), .p (iV (wr (p1 + 1)))]], []⟩⟩
noncomputable def R18_one_L2_st (p0 : (List UInt8)) (p1 : Int) (v12 : Int) : St := ⟨[(0, .p (sV p0)), (1, .p (iV p1)), (4, .ptr 0 0), (12, .p (iV v12))], ⟨[[.p (iV 0), .p (sV []), .p (iV 0), .p (iV 0), .p (iV 0)], [.p (iV 0), .p (sV []), .p (iV 0), .p (iV p1), .p (iV (wr (p1 + 1)))]], []⟩⟩
noncomputable def R18_one_L2_x0 (p0 : (List UInt8)) (p1 : Int) (o10 : Int) : St := ⟨[(0, .p (sV p0)), (1, .p (iV p1)), (4, .ptr 0 0), (12, .p (iV o10))], ⟨[[.p (iV 0), .p (sV []), .p (iV 0), .p (iV 0), .p (iV 0)], [.p (iV 0), .p (sV []), .p (iV 0), .p (iV p1), .p (iV (wr (p1 + 1)))]], []⟩⟩
noncomputable def R18_one_L2_c : Code := ((loopsOf (Try.f58.body.getD .skip)).getD 1 .skip)
noncomputable def R18_one_J1_0 (p0 : (List UInt8)) (p1 : Int) (o20 : Bool) : St := ⟨[(0, .p (sV p0)), (1, .p (iV p1)), (4, .ptr 0 0), (6, .ptr 1 0), (12, .p (iV (wr (p1 + 1)))), (106, .p (bV o20))], ⟨[[.p (iV 0), .p (sV []), .p (iV 0), .p (iV 0), .p (iV 0)], [.p (iV 0), .p (sV []), .p (iV 0), .p (iV p1), .p (iV (wr (p1 + 1)))]], []⟩⟩
noncomputable def R18_one_J2_0 (p0 : (List UInt8)) (p1 : Int) (v12 : Int) (o23 : Bool) : St := ⟨[(0, .p (sV p0)), (1, .p (iV p1)), (4, .ptr 0 0), (12, .p (iV v12)), (116, .p (bV o23))], ⟨[[.p (iV 0), .p (sV []), .p (iV 0), .p (iV 0), .p (iV 0)], [.p (iV 0), .p (sV []), .p (iV 0), .p (iV p1), .p (iV (wr (p1 + 1)))]], []⟩⟩
noncomputable def R18_one_L3_st (p0 : (List UInt8)) (p1 : Int) (v12 : Int) : St := ⟨[(0, .p (sV p0)), (1, .p (iV p1)), (4, .ptr 0 0), (12, .p (iV v12))], ⟨[[.p (iV 0), .p (sV []), .p (iV 0), .p (iV 0), .p (iV 0)], [.p (iV 0), .p (sV []), .p (iV 0), .p (iV p1), .p (iV (wr (p1 + 1)))]], []⟩⟩
noncomputable def R18_one_L3_x0 (p0 : (List UInt8)) (p1 : Int) (o22 : Int) : St := ⟨[(0, .p (sV p0)), (1, .p (iV p1)), (4, .ptr 0 0), (12, .p (iV o22))], ⟨[[.p (iV 0), .p (sV []), .p (iV 0), .p (iV 0), .p (iV 0)], [.p (iV 0), .p (sV []), .p (iV 0), .p (iV p1), .p (iV (wr (p1 + 1)))]], []⟩⟩
noncomputable def R18_one_L3_c : Code := ((loopsOf (Try.f58.body.getD .skip)).getD 2 .skip)
noncomputable def t_R18_quoted (y : (List UInt8) × Int) : D := .tup [.p (sV y.1), .p (iV y.2)]
noncomputable def R18_quoted_lv : List (Nat × List Nat) := [(0, [0, 1]), (1, [0, 1, 6]), (2, [0, 1, 6]), (3, [0, 1, 6, 15]), (4, [0, 1, 6, 19]), (5, [4, 5]), (6, [0, 1, 6, 26]), (7, [0, 1, 6, 31]), (8, [4, 5]), (9, [0, 1, 6, 7]), (10, [0, 1, 6, 7, 37]), (11, [0, 1, 6]), (12, [0, 1, 6, 7, 41]), (13, [0, 1, 6]), (14, [0, 1, 6, 49]), (15, [0, 1, 6]), (16, [4, 5]), (17, [0, 1, 6]), (18, [0, 1, 6, 8, 9]), (19, [0, 1, 6, 9, 79]), (20, [4, 5]), (21, [0, 1, 6, 9]), (22, [0, 1, 6]), (23, [4, 5]), (1000003, [0, 1, 6]), (3000009, []), (3000014, []), (3000019, [])]
noncomputable def R18_quoted_J0_0 (p0 : (List UInt8)) (v1 : Int) (v6 : (List UInt8)) (o6 : Int) : St := ⟨[(0, .p (sV p0)), (1, .p (iV v1)), (6, .p (sV v6)), (7, .p (nV .u8 o6))], ⟨[], []⟩⟩
noncomputable def R18_quoted_J1_0 (p0 : (List UInt8)) (v1 : Int) (v6 : (List UInt8)) (o8 : Bool) : St := ⟨[(0, .p (sV p0)), (1, .p (iV v1)), (6, .p (sV v6)), (49, .p (bV o8))], ⟨[], []⟩⟩
noncomputable def R18_quoted_J2_0 (p0 : (List UInt8)) (v1 : Int) (v6 : (List UInt8)) (x10 : Int × Int) (o11 : Bool) : St := ⟨[(0, .p (sV p0)), (1, .p (iV v1)), (6, .p (sV v6)), (9, .p (iV x10.2)), (79, .p (bV o11))], ⟨[], []⟩⟩
noncomputable def R18_quoted_L1_st (p0 : (List UInt8)) (v1 : Int) (v6 : (List UInt8)) : St := ⟨[(0, .p (sV p0)), (1, .p (iV v1)), (6, .p (sV v6))], ⟨[], []⟩⟩
noncomputable def R18_quoted_L1_x0 (p0 : (List UInt8)) (y2 : Unit) : St := ⟨[], ⟨[], []⟩⟩
noncomputable def R18_quoted_L1_x1 (p0 : (List UInt8)) (y3 : (List UInt8) × Int) : St := ⟨[(4, .p (sV y3.1)), (5, .p (iV y3.2))], ⟨[], []⟩⟩
noncomputable def R18_quoted_L1_c : Code := ((loopsOf (Try.f88.body.getD .skip)).getD 0 .skip)
noncomputable def t_R19_Expr (y : (List UInt8)) : D := .p (sV y)
noncomputable def R19_Expr_lv : List (Nat × List Nat) := [(0, [1]), (1, [1, 8]), (2, [1, 8, 9]), (3, [3]), (4, [2]), (5, [1, 8, 18]), (6, [2]), (7, [1, 8, 23]), (8, [27]), (9, [2]), (10, [2]), (11, [1, 8, 28]), (12, [2]), (13, [1, 8, 32]), (14, [2]), (15, [1, 43]), (16, [2]), (17, [1, 5]), (18, [1, 5, 6]), (19, [1, 5, 6, 54]), (20, [1, 5, 6]), (21, [1, 5, 6]), (22, [2]), (1000019, [1, 5, 6])]
noncomputable def R19_Expr_L1_st (p0 : api_Node) (v5 : (List (List UInt8))) (v6 : Int) : St := ⟨[(1, .ptr 0 0), (5, .own 0 9 1 (v5.map cStr)), (6, .p (iV v6))], ⟨[[.p (iV p0.Kind), .p (sV p0.Name), .p (sV p0.Text), .p (iV p0.N), .p (.sl false (p0.L.map c_api_Node)), .p (.sl false (p0.Then.map c_api_Node)), .p (.sl false (p0.Else.map c_api_Node))]], [(v5.map cStr).length]⟩⟩
noncomputable def R19_Expr_L1_x0 (p0 : api_Node) (o5 : (List (List UInt8))) : St := ⟨[(1, .ptr 0 0), (5, .own 0 9 1 (o5.map cStr))], ⟨[[.p (iV p0.Kind), .p (sV p0.Name), .p (sV p0.Text), .p (iV p0.N), .p (.sl false (p0.L.map c_api_Node)), .p (.sl false (p0.Then.map c_api_Node)), .p (.sl false (p0.Else.map c_api_Node))]], [(o5.map cStr).length]⟩⟩
noncomputable def R19_Expr_L1_c : Code := ((loopsOf (Try.f86.body.getD .skip)).getD 0 .skip)
noncomputable def t_R19_Print (y : (List UInt8) × Bool) : D := .tup [.p (sV y.1), .p (bV y.2)]
noncomputable def R19_Print_lv : List (Nat × List Nat) := [(0, [0]), (1, [0, 7]), (2, [2, 3]), (3, [4]), (4, [4, 12]), (5, [2, 3]), (6, [2, 3])]
noncomputable def t_R19_Write (y : (List UInt8)) : D := .p (sV y)
noncomputable def R19_Write_lv : List (Nat × List Nat) := [(0, [0]), (1, [0, 3]), (2, [0, 3, 4]), (3, [0, 3, 4, 9]), (4, [0, 3, 4]), (5, [0, 3, 4, 5]), (6, [0, 3, 4, 5, 17]), (7, [0, 3, 4]), (8, [0, 3, 4, 5, 17, 36]), (9, [0, 3, 4]), (10, [0, 3, 4, 5, 17, 42]), (11, [0, 3, 4]), (12, [0, 3, 4, 5, 17, 53]), (13, [0, 3, 4]), (14, [0, 3, 4, 5, 17, 68]), (15, [0, 3, 4, 5]), (16, [0, 3, 4, 5, 86]), (17, [0, 3, 4]), (18, [0, 3, 4]), (19, [0, 3, 4, 5, 95]), (20, [0, 3, 4]), (21, [2]), (1000003, [0, 3, 4])]
noncomputable def R19_Write_L1_st (p0 : (List api_Node)) (v3 : (List UInt8)) (v4 : Int) : St := ⟨[(0, .p (.sl false (p0.map c_api_Node))), (3, .p (sV v3)), (4, .p (iV v4))], ⟨[], []⟩⟩
noncomputable def R19_Write_L1_x0 (p0 : (List api_Node)) (o1 : (List UInt8)) : St := ⟨[(3, .p (sV o1))], ⟨[], []⟩⟩
noncomputable def R19_Write_L1_c : Code := ((loopsOf (Try.f55.body.getD .skip)).getD 0 .skip)
noncomputable def t_nunciolaw19_TreePrints (y : Bool) : D := .p (bV y)
noncomputable def nunciolaw19_TreePrints_lv : List (Nat × List Nat) := [(0, [0]), (1, [0]), (2, [0, 3, 4]), (3, [3, 4, 5, 6]), (4, [3, 4, 5, 6, 9]), (5, [2]), (3000005, [])]
noncomputable def nunciolaw19_TreePrints_J0_0  (o5 : Bool) : St := ⟨[(2, .p (bV o5))], ⟨[], []⟩⟩
noncomputable def R01_Join_L1 (p0 : (List (List UInt8))) (p1 : (List UInt8)) (v5 : (List UInt8)) (v6 : Int) : Option ((List UInt8)) :=
  if (decide (v6 < (p0.length : Int))) then
    if (decide (v6 > 0)) then
      need (v5.length + p1.length ≤ 9223372036854775807) >>= fun _ =>
      idx p0 v6 >>= fun x2 =>
      need ((v5 ++ p1).length + x2.length ≤ 9223372036854775807) >>= fun _ =>
      R01_Join_L1 p0 p1 ((v5 ++ p1) ++ x2) (wr (v6 + 1))
    else
      idx p0 v6 >>= fun x3 =>
      need (v5.length + x3.length ≤ 9223372036854775807) >>= fun _ =>
      R01_Join_L1 p0 p1 (v5 ++ x3) (wr (v6 + 1))
  else
    some v5
  partial_fixpoint
set_option maxRecDepth 100000 in
set_option maxHeartbeats 4000000 in
theorem R01_Join_L1_grp : ∀ (p0 : (List (List UInt8))) (p1 : (List UInt8)), (∀ (v5 : (List UInt8)) (v6 : Int) (o1 : (List UInt8)), R01_Join_L1 p0 p1 v5 v6 = some o1 → TL (0, 0) Try.prog 25 R01_Join_L1_c (JP1 (0, 0) 25 o1 (.exit 0) (R01_Join_L1_x0 p0 p1)) (R01_Join_L1_st p0 p1 v5 v6)) := by
  intro p0 p1
  refine R01_Join_L1.partial_correctness p0 p1 _ ?_
  intro R01_Join_L1' ih_R01_Join_L1 v5 v6 o1 h
  refine TL.round (bwp_sound mixed tbOk (lv := R01_Join_lv) _ _ _ ?_)
  refine view (lenMap _ _) rfl ?_
  refine st_test h (fun hb h => ?_) (fun hb h => ?_)
  · refine st_test h (fun hb h => ?_) (fun hb h => ?_)
    · refine st_need h (fun h => ?_)
      refine st_idx (l := p0) (c := cStr) (c' := cStr) h (fun _ => rfl) (fun _ => rfl) (by decide) (fun x2 hi h => ?_)
      refine st_need h (fun h => ?_)
      refine TL.le (τ := R01_Join_L1_st p0 p1 ((v5 ++ p1) ++ x2) (wr (v6 + 1))) ?_ ((ih_R01_Join_L1 ((v5 ++ p1) ++ x2) (wr (v6 + 1)) _ h))
      exact Le.tow 0 0 rfl (.cons rfl (.refl _) (.cons rfl (.refl _) (.cons rfl (.refl _) (.cons rfl (.refl _) (.nil))))) (.refl _) rfl
    · refine st_idx (l := p0) (c := cStr) (c' := cStr) h (fun _ => rfl) (fun _ => rfl) (by decide) (fun x3 hi h => ?_)
      refine st_need h (fun h => ?_)
      refine TL.le (τ := R01_Join_L1_st p0 p1 (v5 ++ x3) (wr (v6 + 1))) ?_ ((ih_R01_Join_L1 (v5 ++ x3) (wr (v6 + 1)) _ h))
      exact Le.tow 0 0 rfl (.cons rfl (.refl _) (.cons rfl (.refl _) (.cons rfl (.refl _) (.cons rfl (.refl _) (.nil))))) (.refl _) rfl
  · exact JP1.a h (Le.tow 0 0 rfl (.cons rfl (.refl _) (.nil)) (.refl _) rfl)
theorem R01_Join_L1_ok : ∀ (p0 : (List (List UInt8))) (p1 : (List UInt8)) (v5 : (List UInt8)) (v6 : Int) (o1 : (List UInt8)), R01_Join_L1 p0 p1 v5 v6 = some o1 → TL (0, 0) Try.prog 25 R01_Join_L1_c (JP1 (0, 0) 25 o1 (.exit 0) (R01_Join_L1_x0 p0 p1)) (R01_Join_L1_st p0 p1 v5 v6) := fun p0 p1 v5 v6 o1 h => (R01_Join_L1_grp p0 p1) v5 v6 o1 h
noncomputable def R01_Join (p0 : (List (List UInt8))) (p1 : (List UInt8)) : Option ((List UInt8)) :=
  (R01_Join_L1 p0 p1 [] 0) >>= fun o1 =>
  some o1
set_option maxRecDepth 100000 in
set_option maxHeartbeats 4000000 in
theorem R01_Join_ok : ∀ (p0 : (List (List UInt8))) (p1 : (List UInt8)) (o : (List UInt8)), R01_Join p0 p1 = some o → PCall Try.prog 113 [.sl false (p0.map cStr), sV p1] (t_R01_Join o) := by
  intro p0 p1 o h
  unfold R01_Join at h
  refine PCall.ofB mixed tbOk R01_Join_lv Try.func113 rfl (by kernel_rfl) (Nat.le_of_ble_eq_true rfl) ?_
  refine st_bind h (fun o1 ho hk => ?_)
  refine Exists.intro (JP1 _ _ o1 (.exit 0) (R01_Join_L1_x0 p0 p1)) (And.intro (T_le (τ := R01_Join_L1_st p0 p1 [] 0) ?_ (TL.loop (R01_Join_L1_ok p0 p1 [] 0 o1 ho))) (join1 ?_))
  · exact Le.tow 0 0 rfl (.cons rfl (.refl _) (.cons rfl (.refl _) (.cons rfl (.refl _) (.cons rfl (.refl _) (.nil))))) (.refl _) rfl
  have h := hk
  refine st_ret (t := t_R01_Join) h ?_
  exact .refl _
noncomputable def R01_Number (p0 : (List UInt8)) : Option (Int × Bool) :=
  need (p0.length ≤ 9223372036854775807) >>= fun _ =>
  some (rnumP p0)
set_option maxRecDepth 100000 in
set_option maxHeartbeats 4000000 in
theorem R01_Number_ok : ∀ (p0 : (List UInt8)) (o : Int × Bool), R01_Number p0 = some o → PCall Try.prog 89 [sV p0] (t_R01_Number o) := by
  intro p0 o h
  unfold R01_Number at h
  obtain ⟨h1, h⟩ := need_some h
  cases h
  exact rnumber_ok _ h1
noncomputable def R01_Text (p0 : Int) : Option ((List UInt8)) :=
  need (-9223372036854775808 ≤ p0) >>= fun _ =>
  need (p0 ≤ 9223372036854775807) >>= fun _ =>
  some (textL p0)
set_option maxRecDepth 100000 in
set_option maxHeartbeats 4000000 in
theorem R01_Text_ok : ∀ (p0 : Int) (o : (List UInt8)), R01_Text p0 = some o → PCall Try.prog 112 [iV p0] (t_R01_Text o) := by
  intro p0 o h
  unfold R01_Text at h
  obtain ⟨h1, h⟩ := need_some h
  obtain ⟨h2, h⟩ := need_some h
  cases h
  exact rtext_ok _ h1 h2
noncomputable def R18_blank (p0 : Int) : Option (Bool) :=
  ( if (p0 == 32) then
      some true
    else
      if (p0 == 9) then
        some true
      else
        if (p0 == 10) then
          some true
        else
          some (p0 == 13) : Option (Bool)) >>= fun o1 =>
  some o1
set_option maxRecDepth 100000 in
set_option maxHeartbeats 4000000 in
theorem R18_blank_ok : ∀ (p0 : Int) (o : Bool), R18_blank p0 = some o → PCall Try.prog 87 [nV .u8 p0] (t_R18_blank o) := by
  intro p0 o h
  unfold R18_blank at h
  refine PCall.ofB mixed tbOk R18_blank_lv Try.func87 rfl (by kernel_rfl) (Nat.le_of_ble_eq_true rfl) ?_
  refine st_bind h (fun o1 ho hk => ?_)
  refine Exists.intro (JP1 _ _ o1 .normal (R18_blank_J0_0 )) (And.intro ?_ (join1 ?_))
  · have h := ho
    refine st_test h (fun hb h => ?_) (fun hb h => ?_)
    · refine bT ?_
      refine bT ?_
      exact JP1.a h (Le.tow 0 0 rfl (.cons rfl (.refl _) (.nil)) (.refl _) rfl)
    · refine st_test h (fun hb h => ?_) (fun hb h => ?_)
      · refine bT ?_
        exact JP1.a h (Le.tow 0 0 rfl (.cons rfl (.refl _) (.nil)) (.refl _) rfl)
      · refine st_test h (fun hb h => ?_) (fun hb h => ?_)
        · exact JP1.a h (Le.tow 0 0 rfl (.cons rfl (.refl _) (.nil)) (.refl _) rfl)
        · exact JP1.a h (Le.tow 0 0 rfl (.cons rfl (.refl _) (.nil)) (.refl _) rfl)
  · have h := hk
    refine st_ret (t := t_R18_blank) h ?_
    exact .refl _
noncomputable def R18_blanks_L1 (p0 : (List UInt8)) (v1 : Int) : Option (Int) :=
  ( if (decide (v1 < (p0.length : Int))) then
      idx p0 v1 >>= fun x3 =>
      R18_blank (x3.toNat : Int) >>= fun x4 =>
      some x4
    else
      some false : Option (Bool)) >>= fun o2 =>
  if o2 then
    R18_blanks_L1 p0 (wr (v1 + 1))
  else
    some v1
  partial_fixpoint
set_option maxRecDepth 100000 in
set_option maxHeartbeats 4000000 in
theorem R18_blanks_L1_grp : ∀ (p0 : (List UInt8)), (∀ (v1 : Int) (o1 : Int), R18_blanks_L1 p0 v1 = some o1 → TL (0, 0) Try.prog 18 R18_blanks_L1_c (JP1 (0, 0) 18 o1 (.exit 0) (R18_blanks_L1_x0 p0)) (R18_blanks_L1_st p0 v1)) := by
  intro p0
  refine R18_blanks_L1.partial_correctness p0 _ ?_
  intro R18_blanks_L1' ih_R18_blanks_L1 v1 o1 h
  refine TL.round (bwp_sound mixed tbOk (lv := R18_blanks_lv) _ _ _ ?_)
  refine st_bind h (fun o2 ho hk => ?_)
  refine Exists.intro (JP1 _ _ o2 .normal (R18_blanks_J0_0 p0 v1)) (And.intro ?_ (join1 ?_))
  · have h := ho
    refine vrfl ?_
    refine st_test h (fun hb h => ?_) (fun hb h => ?_)
    · refine st_sidx h (fun x3 hi h => ?_)
      refine st_call [nV .u8 (x3.toNat : Int)] t_R18_blank h (fun x4 hy => (R18_blank_ok (x3.toNat : Int) x4 hy)) (fun x4 hy h => ?_)
      exact JP1.a h (Le.tow 0 0 rfl (.cons rfl (.refl _) (.cons rfl (.refl _) (.cons rfl (.refl _) (.nil)))) (.refl _) rfl)
    · exact JP1.a h (Le.tow 0 0 rfl (.cons rfl (.refl _) (.cons rfl (.refl _) (.cons rfl (.refl _) (.nil)))) (.refl _) rfl)
  · have h := hk
    refine st_test h (fun hb h => ?_) (fun hb h => ?_)
    · refine TL.le (τ := R18_blanks_L1_st p0 (wr (v1 + 1))) ?_ ((ih_R18_blanks_L1 (wr (v1 + 1)) _ h))
      exact Le.tow 0 0 rfl (.cons rfl (.refl _) (.cons rfl (.refl _) (.nil))) (.refl _) rfl
    · exact JP1.a h (Le.tow 0 0 rfl (.cons rfl (.refl _) (.nil)) (.refl _) rfl)
theorem R18_blanks_L1_ok : ∀ (p0 : (List UInt8)) (v1 : Int) (o1 : Int), R18_blanks_L1 p0 v1 = some o1 → TL (0, 0) Try.prog 18 R18_blanks_L1_c (JP1 (0, 0) 18 o1 (.exit 0) (R18_blanks_L1_x0 p0)) (R18_blanks_L1_st p0 v1) := fun p0 v1 o1 h => (R18_blanks_L1_grp p0) v1 o1 h
noncomputable def R18_blanks (p0 : (List UInt8)) (p1 : Int) : Option (Int) :=
  (R18_blanks_L1 p0 p1) >>= fun o1 =>
  some o1
set_option maxRecDepth 100000 in
set_option maxHeartbeats 4000000 in
theorem R18_blanks_ok : ∀ (p0 : (List UInt8)) (p1 : Int) (o : Int), R18_blanks p0 p1 = some o → PCall Try.prog 57 [sV p0, iV p1] (t_R18_blanks o) := by
  intro p0 p1 o h
  unfold R18_blanks at h
  refine PCall.ofB mixed tbOk R18_blanks_lv Try.func57 rfl (by kernel_rfl) (Nat.le_of_ble_eq_true rfl) ?_
  refine st_bind h (fun o1 ho hk => ?_)
  refine Exists.intro (JP1 _ _ o1 (.exit 0) (R18_blanks_L1_x0 p0)) (And.intro (T_le (τ := R18_blanks_L1_st p0 p1) ?_ (TL.loop (R18_blanks_L1_ok p0 p1 o1 ho))) (join1 ?_))
  · exact Le.tow 0 0 rfl (.cons rfl (.refl _) (.cons rfl (.refl _) (.nil))) (.refl _) rfl
  have h := hk
  refine st_ret (t := t_R18_blanks) h ?_
  exact .refl _
noncomputable def R18_one_L1 (p0 : (List UInt8)) (p1 : Int) (x1 : UInt8) (v9 : Int) : Option (Unit ⊕ (Int × Int)) :=
  if (decide (v9 < ([46, 40, 41, 44, 61].length : Int))) then
    idx ([46, 40, 41, 44, 61] : List UInt8) v9 >>= fun x6 =>
    if ((x6.toNat : Int) == (x1.toNat : Int)) then
      idx ([7, 8, 9, 10, 11] : List Int) v9 >>= fun x7 =>
      some (.inr (x7, x7))
    else
      R18_one_L1 p0 p1 x1 (wr (v9 + 1))
  else
    some (.inl ())
  partial_fixpoint
set_option maxRecDepth 100000 in
set_option maxHeartbeats 4000000 in
theorem R18_one_L1_grp : ∀ (p0 : (List UInt8)) (p1 : Int) (x1 : UInt8), (∀ (v9 : Int) (o3 : Unit ⊕ (Int × Int)), R18_one_L1 p0 p1 x1 v9 = some o3 → TL (0, 0) Try.prog 133 R18_one_L1_c (JP2 (0, 0) 133 o3 (.exit 0) (R18_one_L1_x0 p0 p1 x1) .ret (R18_one_L1_x1 p0 p1 x1)) (R18_one_L1_st p0 p1 x1 v9)) := by
  intro p0 p1 x1
  refine R18_one_L1.partial_correctness p0 p1 x1 _ ?_
  intro R18_one_L1' ih_R18_one_L1 v9 o3 h
  refine TL.round (bwp_sound mixed tbOk (lv := R18_one_lv) _ _ _ ?_)
  refine vrfl ?_
  refine st_test h (fun hb h => ?_) (fun hb h => ?_)
  · refine st_sidx h (fun x6 hi h => ?_)
    refine st_test h (fun hb h => ?_) (fun hb h => ?_)
    · refine st_idx (l := [7, 8, 9, 10, 11]) (c := cInt) (c' := cInt) h (fun _ => rfl) (fun _ => rfl) (by decide) (fun x7 hi h => ?_)
      exact JP2.b h (Le.tow 2 0 rfl (.cons rfl (.refl _) (.cons rfl (.refl _) (.nil))) (.refl _) rfl)
    · refine TL.le (τ := R18_one_L1_st p0 p1 x1 (wr (v9 + 1))) ?_ ((ih_R18_one_L1 (wr (v9 + 1)) _ h))
      exact Le.tow 2 0 rfl (.cons rfl (.refl _) (.cons rfl (.refl _) (.cons rfl (.refl _) (.cons rfl (.refl _) (.cons rfl (.refl _) (.cons rfl (.refl _) (.cons rfl (.refl _) (.nil)))))))) (.refl _) rfl
  · exact JP2.a h (Le.tow 2 0 rfl (.cons rfl (.refl _) (.cons rfl (.refl _) (.cons rfl (.refl _) (.cons rfl (.refl _) (.cons rfl (.refl _) (.nil)))))) (.refl _) rfl)
theorem R18_one_L1_ok : ∀ (p0 : (List UInt8)) (p1 : Int) (x1 : UInt8) (v9 : Int) (o3 : Unit ⊕ (Int × Int)), R18_one_L1 p0 p1 x1 v9 = some o3 → TL (0, 0) Try.prog 133 R18_one_L1_c (JP2 (0, 0) 133 o3 (.exit 0) (R18_one_L1_x0 p0 p1 x1) .ret (R18_one_L1_x1 p0 p1 x1)) (R18_one_L1_st p0 p1 x1 v9) := fun p0 p1 x1 v9 o3 h => (R18_one_L1_grp p0 p1 x1) v9 o3 h
noncomputable def R18_one_L2 (p0 : (List UInt8)) (p1 : Int) (v12 : Int) : Option (Int) :=
  ( if (decide (v12 < (p0.length : Int))) then
      idx p0 v12 >>= fun x12 =>
      R18_small (x12.toNat : Int) >>= fun x13 =>
      if x13 then
        some true
      else
        idx p0 v12 >>= fun x14 =>
        R18_digit (x14.toNat : Int) >>= fun x15 =>
        if x15 then
          some true
        else
          idx p0 v12 >>= fun x16 =>
          some ((x16.toNat : Int) == 95)
    else
      some false : Option (Bool)) >>= fun o11 =>
  if o11 then
    R18_one_L2 p0 p1 (wr (v12 + 1))
  else
    some v12
  partial_fixpoint
set_option maxRecDepth 100000 in
set_option maxHeartbeats 4000000 in
theorem R18_one_L2_grp : ∀ (p0 : (List UInt8)) (p1 : Int), (∀ (v12 : Int) (o10 : Int), R18_one_L2 p0 p1 v12 = some o10 → TL (0, 0) Try.prog 133 R18_one_L2_c (JP1 (0, 0) 133 o10 (.exit 2) (R18_one_L2_x0 p0 p1)) (R18_one_L2_st p0 p1 v12)) := by
  intro p0 p1
  refine R18_one_L2.partial_correctness p0 p1 _ ?_
  intro R18_one_L2' ih_R18_one_L2 v12 o10 h
  refine TL.round (bwp_sound mixed tbOk (lv := R18_one_lv) _ _ _ ?_)
  refine st_bind h (fun o11 ho hk => ?_)
  refine Exists.intro (JP1 _ _ o11 .normal (R18_one_J0_0 p0 p1 v12)) (And.intro ?_ (join1 ?_))
  · have h := ho
    refine vrfl ?_
    refine st_test h (fun hb h => ?_) (fun hb h => ?_)
    · refine st_sidx h (fun x12 hi h => ?_)
      refine st_call [nV .u8 (x12.toNat : Int)] t_R18_small h (fun x13 hy => (R18_small_ok (x12.toNat : Int) x13 hy)) (fun x13 hy h => ?_)
      refine st_test h (fun hb h => ?_) (fun hb h => ?_)
      · refine bT ?_
        exact JP1.a h (Le.tow 2 0 rfl (.cons rfl (.refl _) (.cons rfl (.refl _) (.cons rfl (.refl _) (.cons rfl (.refl _) (.cons rfl (.refl _) (.nil)))))) (.refl _) rfl)
      · refine st_sidx h (fun x14 hi h => ?_)
        refine st_call [nV .u8 (x14.toNat : Int)] t_R18_digit h (fun x15 hy => (R18_digit_ok (x14.toNat : Int) x15 hy)) (fun x15 hy h => ?_)
        refine st_test h (fun hb h => ?_) (fun hb h => ?_)
        · exact JP1.a h (Le.tow 2 0 rfl (.cons rfl (.refl _) (.cons rfl (.refl _) (.cons rfl (.refl _) (.cons rfl (.refl _) (.cons rfl (.refl _) (.nil)))))) (.refl _) rfl)
        · refine st_sidx h (fun x16 hi h => ?_)
          exact JP1.a h (Le.tow 2 0 rfl (.cons rfl (.refl _) (.cons rfl (.refl _) (.cons rfl (.refl _) (.cons rfl (.refl _) (.cons rfl (.refl _) (.nil)))))) (.refl _) rfl)
    · exact JP1.a h (Le.tow 2 0 rfl (.cons rfl (.refl _) (.cons rfl (.refl _) (.cons rfl (.refl _) (.cons rfl (.refl _) (.cons rfl (.refl _) (.nil)))))) (.refl _) rfl)
  · have h := hk
    refine st_test h (fun hb h => ?_) (fun hb h => ?_)
    · refine TL.le (τ := R18_one_L2_st p0 p1 (wr (v12 + 1))) ?_ ((ih_R18_one_L2 (wr (v12 + 1)) _ h))
      exact Le.tow 2 0 rfl (.cons rfl (.refl _) (.cons rfl (.refl _) (.cons rfl (.refl _) (.cons rfl (.refl _) (.nil))))) (.refl _) rfl
    · exact JP1.a h (Le.tow 2 0 rfl (.cons rfl (.refl _) (.cons rfl (.refl _) (.cons rfl (.refl _) (.cons rfl (.refl _) (.nil))))) (.refl _) rfl)
theorem R18_one_L2_ok : ∀ (p0 : (List UInt8)) (p1 : Int) (v12 : Int) (o10 : Int), R18_one_L2 p0 p1 v12 = some o10 → TL (0, 0) Try.prog 133 R18_one_L2_c (JP1 (0, 0) 133 o10 (.exit 2) (R18_one_L2_x0 p0 p1)) (R18_one_L2_st p0 p1 v12) := fun p0 p1 v12 o10 h => (R18_one_L2_grp p0 p1) v12 o10 h
noncomputable def R18_one_L3 (p0 : (List UInt8)) (p1 : Int) (v12 : Int) : Option (Int) :=
  ( if (decide (v12 < (p0.length : Int))) then
      idx p0 v12 >>= fun x24 =>
      R18_digit (x24.toNat : Int) >>= fun x25 =>
      some x25
    else
      some false : Option (Bool)) >>= fun o23 =>
  if o23 then
    R18_one_L3 p0 p1 (wr (v12 + 1))
  else
    some v12
  partial_fixpoint
set_option maxRecDepth 100000 in
set_option maxHeartbeats 4000000 in
theorem R18_one_L3_grp : ∀ (p0 : (List UInt8)) (p1 : Int), (∀ (v12 : Int) (o22 : Int), R18_one_L3 p0 p1 v12 = some o22 → TL (0, 0) Try.prog 133 R18_one_L3_c (JP1 (0, 0) 133 o22 (.exit 4) (R18_one_L3_x0 p0 p1)) (R18_one_L3_st p0 p1 v12)) := by
  intro p0 p1
  refine R18_one_L3.partial_correctness p0 p1 _ ?_
  intro R18_one_L3' ih_R18_one_L3 v12 o22 h
  refine TL.round (bwp_sound mixed tbOk (lv := R18_one_lv) _ _ _ ?_)
  refine st_bind h (fun o23 ho hk => ?_)
  refine Exists.intro (JP1 _ _ o23 .normal (R18_one_J2_0 p0 p1 v12)) (And.intro ?_ (join1 ?_))
  · have h := ho
    refine vrfl ?_
    refine st_test h (fun hb h => ?_) (fun hb h => ?_)
    · refine st_sidx h (fun x24 hi h => ?_)
      refine st_call [nV .u8 (x24.toNat : Int)] t_R18_digit h (fun x25 hy => (R18_digit_ok (x24.toNat : Int) x25 hy)) (fun x25 hy h => ?_)
      exact JP1.a h (Le.tow 2 0 rfl (.cons rfl (.refl _) (.cons rfl (.refl _) (.cons rfl (.refl _) (.cons rfl (.refl _) (.cons rfl (.refl _) (.nil)))))) (.refl _) rfl)
    · exact JP1.a h (Le.tow 2 0 rfl (.cons rfl (.refl _) (.cons rfl (.refl _) (.cons rfl (.refl _) (.cons rfl (.refl _) (.cons rfl (.refl _) (.nil)))))) (.refl _) rfl)
  · have h := hk
    refine st_test h (fun hb h => ?_) (fun hb h => ?_)
    · refine TL.le (τ := R18_one_L3_st p0 p1 (wr (v12 + 1))) ?_ ((ih_R18_one_L3 (wr (v12 + 1)) _ h))
      exact Le.tow 2 0 rfl (.cons rfl (.refl _) (.cons rfl (.refl _) (.cons rfl (.refl _) (.cons rfl (.refl _) (.nil))))) (.refl _) rfl
    · exact JP1.a h (Le.tow 2 0 rfl (.cons rfl (.refl _) (.cons rfl (.refl _) (.cons rfl (.refl _) (.cons rfl (.refl _) (.nil))))) (.refl _) rfl)
theorem R18_one_L3_ok : ∀ (p0 : (List UInt8)) (p1 : Int) (v12 : Int) (o22 : Int), R18_one_L3 p0 p1 v12 = some o22 → TL (0, 0) Try.prog 133 R18_one_L3_c (JP1 (0, 0) 133 o22 (.exit 4) (R18_one_L3_x0 p0 p1)) (R18_one_L3_st p0 p1 v12) := fun p0 p1 v12 o22 h => (R18_one_L3_grp p0 p1) v12 o22 h
noncomputable def R18_quoted_L1 (p0 : (List UInt8)) (v1 : Int) (v6 : (List UInt8)) : Option (Unit ⊕ ((List UInt8) × Int)) :=
  if (decide (v1 < (p0.length : Int))) then
    idx p0 v1 >>= fun x4 =>
    if ((x4.toNat : Int) == 34) then
      some (.inr (v6, (wr (v1 + 1))))
    else
      idx p0 v1 >>= fun x5 =>
      if ((x5.toNat : Int) == 92) then
        if ((wr (v1 + 1)) == (p0.length : Int)) then
          some (.inr ([], (-1)))
        else
          ( idx p0 (wr (v1 + 1)) >>= fun x7 =>
            some (x7.toNat : Int) : Option (Int)) >>= fun o6 =>
          if (o6 == 110) then
            need (v6.length + [10].length ≤ 9223372036854775807) >>= fun _ =>
            R18_quoted_L1 p0 (wr (v1 + 2)) (v6 ++ [10])
          else
            if (o6 == 116) then
              need (v6.length + [9].length ≤ 9223372036854775807) >>= fun _ =>
              R18_quoted_L1 p0 (wr (v1 + 2)) (v6 ++ [9])
            else
              ( if (o6 == 34) then
                  some true
                else
                  some (o6 == 92) : Option (Bool)) >>= fun o8 =>
              if o8 then
                cutL p0 (wr (v1 + 1)) (wr (v1 + 2)) >>= fun x9 =>
                need (v6.length + x9.length ≤ 9223372036854775807) >>= fun _ =>
                R18_quoted_L1 p0 (wr (v1 + 2)) (v6 ++ x9)
              else
                some (.inr ([], (-1)))
      else
        R02_Next p0 v1 >>= fun x10 =>
        ( if (x10.1 == 10) then
            some true
          else
            if (x10.1 == 13) then
              some true
            else
              if (x10.1 == 65533) then
                some (x10.2 == 1)
              else
                some false : Option (Bool)) >>= fun o11 =>
        if o11 then
          some (.inr ([], (-1)))
        else
          cutL p0 v1 (wr (v1 + x10.2)) >>= fun x12 =>
          need (v6.length + x12.length ≤ 9223372036854775807) >>= fun _ =>
          R18_quoted_L1 p0 (wr (v1 + x10.2)) (v6 ++ x12)
  else
    some (.inl ())
  partial_fixpoint
set_option maxRecDepth 100000 in
set_option maxHeartbeats 4000000 in
theorem R18_quoted_L1_grp : ∀ (p0 : (List UInt8)), (∀ (v1 : Int) (v6 : (List UInt8)) (o1 : Unit ⊕ ((List UInt8) × Int)), R18_quoted_L1 p0 v1 v6 = some o1 → TL (0, 0) Try.prog 91 R18_quoted_L1_c (JP2 (0, 0) 91 o1 (.exit 0) (R18_quoted_L1_x0 p0) .ret (R18_quoted_L1_x1 p0)) (R18_quoted_L1_st p0 v1 v6)) := by
  intro p0
  refine R18_quoted_L1.partial_correctness p0 _ ?_
  intro R18_quoted_L1' ih_R18_quoted_L1 v1 v6 o1 h
  refine TL.round (bwp_sound mixed tbOk (lv := R18_quoted_lv) _ _ _ ?_)
  refine vrfl ?_
  refine st_test h (fun hb h => ?_) (fun hb h => ?_)
  · refine st_sidx h (fun x4 hi h => ?_)
    refine st_test h (fun hb h => ?_) (fun hb h => ?_)
    · exact JP2.b h (Le.tow 0 0 rfl (.cons rfl (.refl _) (.cons rfl (.refl _) (.nil))) (.refl _) rfl)
    · refine st_sidx h (fun x5 hi h => ?_)
      refine st_test h (fun hb h => ?_) (fun hb h => ?_)
      · refine vrfl ?_
        refine st_test h (fun hb h => ?_) (fun hb h => ?_)
        · exact JP2.b h (Le.tow 0 0 rfl (.cons rfl (.refl _) (.cons rfl (.refl _) (.nil))) (.refl _) rfl)
        · refine st_bind h (fun o6 ho hk => ?_)
          refine Exists.intro (JP1 _ _ o6 .normal (R18_quoted_J0_0 p0 v1 v6)) (And.intro ?_ (join1 ?_))
          · have h := ho
            refine st_sidx h (fun x7 hi h => ?_)
            exact JP1.a h (Le.tow 0 0 rfl (.cons rfl (.refl _) (.cons rfl (.refl _) (.cons rfl (.refl _) (.cons rfl (.refl _) (.nil))))) (.refl _) rfl)
          · have h := hk
            refine st_test h (fun hb h => ?_) (fun hb h => ?_)
            · refine st_need h (fun h => ?_)
              refine TL.le (τ := R18_quoted_L1_st p0 (wr (v1 + 2)) (v6 ++ [10])) ?_ ((ih_R18_quoted_L1 (wr (v1 + 2)) (v6 ++ [10]) _ h))
              exact Le.tow 0 0 rfl (.cons rfl (.refl _) (.cons rfl (.refl _) (.cons rfl (.refl _) (.nil)))) (.refl _) rfl
            · refine st_test h (fun hb h => ?_) (fun hb h => ?_)
              · refine st_need h (fun h => ?_)
                refine TL.le (τ := R18_quoted_L1_st p0 (wr (v1 + 2)) (v6 ++ [9])) ?_ ((ih_R18_quoted_L1 (wr (v1 + 2)) (v6 ++ [9]) _ h))
                exact Le.tow 0 0 rfl (.cons rfl (.refl _) (.cons rfl (.refl _) (.cons rfl (.refl _) (.nil)))) (.refl _) rfl
              · refine st_bind h (fun o8 ho hk => ?_)
                refine Exists.intro (JP1 _ _ o8 .normal (R18_quoted_J1_0 p0 v1 v6)) (And.intro ?_ (join1 ?_))
                · have h := ho
                  refine st_test h (fun hb h => ?_) (fun hb h => ?_)
                  · exact JP1.a h (Le.tow 0 0 rfl (.cons rfl (.refl _) (.cons rfl (.refl _) (.cons rfl (.refl _) (.cons rfl (.refl _) (.nil))))) (.refl _) rfl)
                  · exact JP1.a h (Le.tow 0 0 rfl (.cons rfl (.refl _) (.cons rfl (.refl _) (.cons rfl (.refl _) (.cons rfl (.refl _) (.nil))))) (.refl _) rfl)
                · have h := hk
                  refine st_test h (fun hb h => ?_) (fun hb h => ?_)
                  · refine st_cuts (some (wr (v1 + 1))) (some (wr (v1 + 2))) h (fun x9 hi h => ?_)
                    refine st_need h (fun h => ?_)
                    refine TL.le (τ := R18_quoted_L1_st p0 (wr (v1 + 2)) (v6 ++ x9)) ?_ ((ih_R18_quoted_L1 (wr (v1 + 2)) (v6 ++ x9) _ h))
                    exact Le.tow 0 0 rfl (.cons rfl (.refl _) (.cons rfl (.refl _) (.cons rfl (.refl _) (.nil)))) (.refl _) rfl
                  · exact JP2.b h (Le.tow 0 0 rfl (.cons rfl (.refl _) (.cons rfl (.refl _) (.nil))) (.refl _) rfl)
      · refine st_call [sV p0, iV v1] t_R02_Next h (fun x10 hy => (R02_Next_ok p0 v1 x10 hy)) (fun x10 hy h => ?_)
        refine st_bind h (fun o11 ho hk => ?_)
        refine Exists.intro (JP1 _ _ o11 .normal (R18_quoted_J2_0 p0 v1 v6 x10)) (And.intro ?_ (join1 ?_))
        · have h := ho
          refine st_test h (fun hb h => ?_) (fun hb h => ?_)
          · refine bT ?_
            exact JP1.a h (Le.tow 0 0 rfl (.cons rfl (.refl _) (.cons rfl (.refl _) (.cons rfl (.refl _) (.cons rfl (.refl _) (.cons rfl (.refl _) (.nil)))))) (.refl _) rfl)
          · refine st_test h (fun hb h => ?_) (fun hb h => ?_)
            · exact JP1.a h (Le.tow 0 0 rfl (.cons rfl (.refl _) (.cons rfl (.refl _) (.cons rfl (.refl _) (.cons rfl (.refl _) (.cons rfl (.refl _) (.nil)))))) (.refl _) rfl)
            · refine st_test h (fun hb h => ?_) (fun hb h => ?_)
              · exact JP1.a h (Le.tow 0 0 rfl (.cons rfl (.refl _) (.cons rfl (.refl _) (.cons rfl (.refl _) (.cons rfl (.refl _) (.cons rfl (.refl _) (.nil)))))) (.refl _) rfl)
              · exact JP1.a h (Le.tow 0 0 rfl (.cons rfl (.refl _) (.cons rfl (.refl _) (.cons rfl (.refl _) (.cons rfl (.refl _) (.cons rfl (.refl _) (.nil)))))) (.refl _) rfl)
        · have h := hk
          refine st_test h (fun hb h => ?_) (fun hb h => ?_)
          · exact JP2.b h (Le.tow 0 0 rfl (.cons rfl (.refl _) (.cons rfl (.refl _) (.nil))) (.refl _) rfl)
          · refine st_cuts (some v1) (some (wr (v1 + x10.2))) h (fun x12 hi h => ?_)
            refine st_need h (fun h => ?_)
            refine TL.le (τ := R18_quoted_L1_st p0 (wr (v1 + x10.2)) (v6 ++ x12)) ?_ ((ih_R18_quoted_L1 (wr (v1 + x10.2)) (v6 ++ x12) _ h))
            exact Le.tow 0 0 rfl (.cons rfl (.refl _) (.cons rfl (.refl _) (.cons rfl (.refl _) (.nil)))) (.refl _) rfl
  · exact JP2.a h (Le.tow 0 0 rfl (.nil) (.refl _) rfl)
theorem R18_quoted_L1_ok : ∀ (p0 : (List UInt8)) (v1 : Int) (v6 : (List UInt8)) (o1 : Unit ⊕ ((List UInt8) × Int)), R18_quoted_L1 p0 v1 v6 = some o1 → TL (0, 0) Try.prog 91 R18_quoted_L1_c (JP2 (0, 0) 91 o1 (.exit 0) (R18_quoted_L1_x0 p0) .ret (R18_quoted_L1_x1 p0)) (R18_quoted_L1_st p0 v1 v6) := fun p0 v1 v6 o1 h => (R18_quoted_L1_grp p0) v1 v6 o1 h
noncomputable def R18_quoted (p0 : (List UInt8)) (p1 : Int) : Option ((List UInt8) × Int) :=
  (R18_quoted_L1 p0 (wr (p1 + 1)) []) >>= fun o1 =>
  match o1 with
  | .inl y2 =>
    some ([], (-1))
  | .inr y3 =>
    some (y3.1, y3.2)
set_option maxRecDepth 100000 in
set_option maxHeartbeats 4000000 in
theorem R18_quoted_ok : ∀ (p0 : (List UInt8)) (p1 : Int) (o : (List UInt8) × Int), R18_quoted p0 p1 = some o → PCall Try.prog 88 [sV p0, iV p1] (t_R18_quoted o) := by
  intro p0 p1 o h
  unfold R18_quoted at h
  refine PCall.ofB mixed tbOk R18_quoted_lv Try.func88 rfl (by kernel_rfl) (Nat.le_of_ble_eq_true rfl) ?_
  refine st_bind h (fun o1 ho hk => ?_)
  refine Exists.intro (JP2 _ _ o1 (.exit 0) (R18_quoted_L1_x0 p0) .ret (R18_quoted_L1_x1 p0)) (And.intro (T_le (τ := R18_quoted_L1_st p0 (wr (p1 + 1)) []) ?_ (TL.loop (R18_quoted_L1_ok p0 (wr (p1 + 1)) [] o1 ho))) (join2 (fun y2 hy => ?_) (fun y3 hy => ?_)))
  · exact Le.tow 0 0 rfl (.cons rfl (.refl _) (.cons rfl (.refl _) (.cons rfl (.refl _) (.nil)))) (.refl _) rfl
  · have h := (by rw [hy] at hk; exact hk)
    refine st_ret (t := t_R18_quoted) h ?_
    exact .refl _
  · have h := (by rw [hy] at hk; exact hk)
    refine st_ret (t := t_R18_quoted) h ?_
    exact .refl _
noncomputable def R18_one (p0 : (List UInt8)) (p1 : Int) : Option (api_Token × Bool) :=
  idx p0 p1 >>= fun x1 =>
  R01_Begins p0 [125, 125] p1 >>= fun x2 =>
  if x2 then
    some ((api_Token.mk 3 [] 0 p1 (wr (p1 + 2))), true)
  else
    (R18_one_L1 p0 p1 x1 0) >>= fun o3 =>
    match o3 with
    | .inl y4 =>
      if ((x1.toNat : Int) == 34) then
        R18_quoted p0 p1 >>= fun x8 =>
        some ((api_Token.mk 5 x8.1 0 p1 x8.2), (decide (x8.2 > 0)))
      else
        R18_small (x1.toNat : Int) >>= fun x9 =>
        if x9 then
          (R18_one_L2 p0 p1 (wr (p1 + 1))) >>= fun o10 =>
          cutL p0 p1 o10 >>= fun x17 =>
          cutL p0 p1 o10 >>= fun x18 =>
          R18_Word x18 >>= fun x19 =>
          some ((api_Token.mk 4 x17 0 p1 o10), x19)
        else
          ( if ((x1.toNat : Int) == 45) then
              some true
            else
              R18_digit (x1.toNat : Int) >>= fun x21 =>
              some x21 : Option (Bool)) >>= fun o20 =>
          if o20 then
            (R18_one_L3 p0 p1 (wr (p1 + 1))) >>= fun o22 =>
            cutL p0 p1 o22 >>= fun x26 =>
            R01_Number x26 >>= fun x27 =>
            some ((api_Token.mk 6 [] x27.1 p1 o22), x27.2)
          else
            some ((api_Token.mk 0 [] 0 p1 (wr (p1 + 1))), false)
    | .inr y5 =>
      some ((api_Token.mk y5.1 [] 0 p1 (wr (p1 + 1))), true)
set_option maxRecDepth 100000 in
set_option maxHeartbeats 4000000 in
theorem R18_one_ok : ∀ (p0 : (List UInt8)) (p1 : Int) (o : api_Token × Bool), R18_one p0 p1 = some o → PCall Try.prog 58 [sV p0, iV p1] (t_R18_one o) := by
  intro p0 p1 o h
  unfold R18_one at h
  refine PCall.ofB mixed tbOk R18_one_lv Try.func58 rfl (by kernel_rfl) (Nat.le_of_ble_eq_true rfl) ?_
  refine st_sidx h (fun x1 hi h => ?_)
  refine st_call [sV p0, sV [125, 125], iV p1] t_R01_Begins h (fun x2 hy => (R01_Begins_ok p0 [125, 125] p1 x2 hy)) (fun x2 hy h => ?_)
  refine st_test h (fun hb h => ?_) (fun hb h => ?_)
  · refine st_ret (t := t_R18_one) h ?_
    exact .refl _
  · refine st_bind h (fun o3 ho hk => ?_)
    refine Exists.intro (JP2 _ _ o3 (.exit 0) (R18_one_L1_x0 p0 p1 x1) .ret (R18_one_L1_x1 p0 p1 x1)) (And.intro (T_le (τ := R18_one_L1_st p0 p1 x1 0) ?_ (TL.loop (R18_one_L1_ok p0 p1 x1 0 o3 ho))) (join2 (fun y4 hy => ?_) (fun y5 hy => ?_)))
    · exact Le.tow 2 0 rfl (.cons rfl (.refl _) (.cons rfl (.refl _) (.cons rfl (.refl _) (.cons rfl (.refl _) (.cons rfl (.refl _) (.cons rfl (.refl _) (.cons rfl (.refl _) (.nil)))))))) (.refl _) rfl
    · have h := (by rw [hy] at hk; exact hk)
      refine st_test h (fun hb h => ?_) (fun hb h => ?_)
      · refine st_call [sV p0, iV p1] t_R18_quoted h (fun x8 hy => (R18_quoted_ok p0 p1 x8 hy)) (fun x8 hy h => ?_)
        refine st_ret (t := t_R18_one) h ?_
        exact .refl _
      · refine st_call [nV .u8 (x1.toNat : Int)] t_R18_small h (fun x9 hy => (R18_small_ok (x1.toNat : Int) x9 hy)) (fun x9 hy h => ?_)
        refine st_test h (fun hb h => ?_) (fun hb h => ?_)
        · refine st_bind h (fun o10 ho hk => ?_)
          refine Exists.intro (JP1 _ _ o10 (.exit 2) (R18_one_L2_x0 p0 p1)) (And.intro (T_le (τ := R18_one_L2_st p0 p1 (wr (p1 + 1))) ?_ (TL.loop (R18_one_L2_ok p0 p1 (wr (p1 + 1)) o10 ho))) (join1 ?_))
          · exact Le.tow 2 0 rfl (.cons rfl (.refl _) (.cons rfl (.refl _) (.cons rfl (.refl _) (.cons rfl (.refl _) (.nil))))) (.refl _) rfl
          have h := hk
          refine And.intro (by decide +kernel) (And.intro rfl ?_)
          refine st_cuts (some p1) (some o10) h (fun x17 hi h => ?_)
          refine st_cuts (some p1) (some o10) h (fun x18 hi h => ?_)
          refine st_calld [sV x18] t_R18_Word h (fun x19 hy => (R18_Word_ok x18 x19 hy)) (fun x19 hy h => ?_)
          refine st_ret (t := t_R18_one) h ?_
          exact .refl _
        · refine st_bind h (fun o20 ho hk => ?_)
          refine Exists.intro (JP1 _ _ o20 .normal (R18_one_J1_0 p0 p1)) (And.intro ?_ (join1 ?_))
          · have h := ho
            refine st_test h (fun hb h => ?_) (fun hb h => ?_)
            · exact JP1.a h (Le.tow 2 0 rfl (.cons rfl (.refl _) (.cons rfl (.refl _) (.cons rfl (.refl _) (.cons rfl (.refl _) (.cons rfl (.refl _) (.cons rfl (.refl _) (.nil))))))) (.refl _) rfl)
            · refine st_call [nV .u8 (x1.toNat : Int)] t_R18_digit h (fun x21 hy => (R18_digit_ok (x1.toNat : Int) x21 hy)) (fun x21 hy h => ?_)
              exact JP1.a h (Le.tow 2 0 rfl (.cons rfl (.refl _) (.cons rfl (.refl _) (.cons rfl (.refl _) (.cons rfl (.refl _) (.cons rfl (.refl _) (.cons rfl (.refl _) (.nil))))))) (.refl _) rfl)
          · have h := hk
            refine st_test h (fun hb h => ?_) (fun hb h => ?_)
            · refine st_bind h (fun o22 ho hk => ?_)
              refine Exists.intro (JP1 _ _ o22 (.exit 4) (R18_one_L3_x0 p0 p1)) (And.intro (T_le (τ := R18_one_L3_st p0 p1 (wr (p1 + 1))) ?_ (TL.loop (R18_one_L3_ok p0 p1 (wr (p1 + 1)) o22 ho))) (join1 ?_))
              · exact Le.tow 2 0 rfl (.cons rfl (.refl _) (.cons rfl (.refl _) (.cons rfl (.refl _) (.cons rfl (.refl _) (.nil))))) (.refl _) rfl
              have h := hk
              refine st_cuts (some p1) (some o22) h (fun x26 hi h => ?_)
              refine st_call [sV x26] t_R01_Number h (fun x27 hy => (R01_Number_ok x26 x27 hy)) (fun x27 hy h => ?_)
              refine st_ret (t := t_R18_one) h ?_
              exact .refl _
            · refine st_ret (t := t_R18_one) h ?_
              exact .refl _
    · have h := (by rw [hy] at hk; exact hk)
      refine st_ret (t := t_R18_one) h ?_
      exact .refl _
noncomputable def R18_Tokens_L2 (p0 : (List UInt8)) (v5_ : (List api_Token)) (v6_ : Int) : Option (((List api_Token) × Int) ⊕ Int) :=
  R18_blanks p0 v6_ >>= fun x16 =>
  if (x16 == (p0.length : Int)) then
    some (.inr x16)
  else
    R18_one p0 x16 >>= fun x17 =>
    if (!x17.2) then
      some (.inr x16)
    else
      appL 48 v5_ [x17.1] >>= fun x18 =>
      if (x17.1.Kind == 3) then
        some (.inl (x18, x17.1.To))
      else
        R18_Tokens_L2 p0 x18 x17.1.To
  partial_fixpoint
set_option maxRecDepth 100000 in
set_option maxHeartbeats 4000000 in
theorem R18_Tokens_L2_grp : ∀ (p0 : (List UInt8)), (∀ (v5_ : (List api_Token)) (v6_ : Int) (o13 : ((List api_Token) × Int) ⊕ Int), R18_Tokens_L2 p0 v5_ v6_ = some o13 → TL (0, 0) Try.prog 83 R18_Tokens_L2_c (JP2 (0, 0) 83 o13 (.exit 2) (R18_Tokens_L2_x0 p0) .ret (R18_Tokens_L2_x1 p0)) (R18_Tokens_L2_st p0 v5_ v6_)) := by
  intro p0
  refine R18_Tokens_L2.partial_correctness p0 _ ?_
  intro R18_Tokens_L2' ih_R18_Tokens_L2 v5_ v6_ o13 h
  refine TL.round (bwp_sound mixed tbOk (lv := R18_Tokens_lv) _ _ _ ?_)
  refine st_call [sV p0, iV v6_] t_R18_blanks h (fun x16 hy => (R18_blanks_ok p0 v6_ x16 hy)) (fun x16 hy h => ?_)
  refine vrfl ?_
  refine st_test h (fun hb h => ?_) (fun hb h => ?_)
  · exact JP2.b h (Le.tow 0 0 rfl (.cons rfl (.refl _) (.cons rfl (.refl _) (.cons rfl (.refl _) (.nil)))) (.refl _) rfl)
  · refine st_call [sV p0, iV x16] t_R18_one h (fun x17 hy => (R18_one_ok p0 x16 x17 hy)) (fun x17 hy h => ?_)
    refine st_test h (fun hb h => ?_) (fun hb h => ?_)
    · exact JP2.b h (Le.tow 0 0 rfl (.cons rfl (.refl _) (.cons rfl (.refl _) (.cons rfl (.refl _) (.nil)))) (.refl _) rfl)
    · refine st_appo (a := v5_) (b := [x17.1]) (c := c_api_Token) h (.refl _) (fun _ => rfl) rfl (fun x18 hi h => ?_)
      refine st_test h (fun hb h => ?_) (fun hb h => ?_)
      · exact JP2.a h (Le.tow 0 1 rfl (.cons rfl (.refl _) (.cons rfl (.refl _) (.cons rfl (.refl _) (.nil)))) (.refl _) rfl)
      · refine TL.le (τ := R18_Tokens_L2_st p0 x18 x17.1.To) ?_ ((ih_R18_Tokens_L2 x18 x17.1.To _ h))
        exact Le.tow 0 1 rfl (.cons rfl (.refl _) (.cons rfl (.refl _) (.cons rfl (.refl _) (.nil)))) (.refl _) rfl
theorem R18_Tokens_L2_ok : ∀ (p0 : (List UInt8)) (v5_ : (List api_Token)) (v6_ : Int) (o13 : ((List api_Token) × Int) ⊕ Int), R18_Tokens_L2 p0 v5_ v6_ = some o13 → TL (0, 0) Try.prog 83 R18_Tokens_L2_c (JP2 (0, 0) 83 o13 (.exit 2) (R18_Tokens_L2_x0 p0) .ret (R18_Tokens_L2_x1 p0)) (R18_Tokens_L2_st p0 v5_ v6_) := fun p0 v5_ v6_ o13 h => (R18_Tokens_L2_grp p0) v5_ v6_ o13 h
noncomputable def R18_find_L1 (p0 : (List UInt8)) (p1 : (List UInt8)) (v2 : Int) : Option (Int) :=
  ( if (decide (v2 < (p0.length : Int))) then
      R01_Begins p0 p1 v2 >>= fun x3 =>
      some (!x3)
    else
      some false : Option (Bool)) >>= fun o2 =>
  if o2 then
    R18_find_L1 p0 p1 (wr (v2 + 1))
  else
    some v2
  partial_fixpoint
set_option maxRecDepth 100000 in
set_option maxHeartbeats 4000000 in
theorem R18_find_L1_grp : ∀ (p0 : (List UInt8)) (p1 : (List UInt8)), (∀ (v2 : Int) (o1 : Int), R18_find_L1 p0 p1 v2 = some o1 → TL (0, 0) Try.prog 21 R18_find_L1_c (JP1 (0, 0) 21 o1 (.exit 0) (R18_find_L1_x0 p0 p1)) (R18_find_L1_st p0 p1 v2)) := by
  intro p0 p1
  refine R18_find_L1.partial_correctness p0 p1 _ ?_
  intro R18_find_L1' ih_R18_find_L1 v2 o1 h
  refine TL.round (bwp_sound mixed tbOk (lv := R18_find_lv) _ _ _ ?_)
  refine st_bind h (fun o2 ho hk => ?_)
  refine Exists.intro (JP1 _ _ o2 .normal (R18_find_J0_0 p0 p1 v2)) (And.intro ?_ (join1 ?_))
  · have h := ho
    refine vrfl ?_
    refine st_test h (fun hb h => ?_) (fun hb h => ?_)
    · refine st_call [sV p0, sV p1, iV v2] t_R01_Begins h (fun x3 hy => (R01_Begins_ok p0 p1 v2 x3 hy)) (fun x3 hy h => ?_)
      exact JP1.a h (Le.tow 0 0 rfl (.cons rfl (.refl _) (.cons rfl (.refl _) (.cons rfl (.refl _) (.cons rfl (.refl _) (.nil))))) (.refl _) rfl)
    · exact JP1.a h (Le.tow 0 0 rfl (.cons rfl (.refl _) (.cons rfl (.refl _) (.cons rfl (.refl _) (.cons rfl (.refl _) (.nil))))) (.refl _) rfl)
  · have h := hk
    refine st_test h (fun hb h => ?_) (fun hb h => ?_)
    · refine TL.le (τ := R18_find_L1_st p0 p1 (wr (v2 + 1))) ?_ ((ih_R18_find_L1 (wr (v2 + 1)) _ h))
      exact Le.tow 0 0 rfl (.cons rfl (.refl _) (.cons rfl (.refl _) (.cons rfl (.refl _) (.nil)))) (.refl _) rfl
    · exact JP1.a h (Le.tow 0 0 rfl (.cons rfl (.refl _) (.nil)) (.refl _) rfl)
theorem R18_find_L1_ok : ∀ (p0 : (List UInt8)) (p1 : (List UInt8)) (v2 : Int) (o1 : Int), R18_find_L1 p0 p1 v2 = some o1 → TL (0, 0) Try.prog 21 R18_find_L1_c (JP1 (0, 0) 21 o1 (.exit 0) (R18_find_L1_x0 p0 p1)) (R18_find_L1_st p0 p1 v2) := fun p0 p1 v2 o1 h => (R18_find_L1_grp p0 p1) v2 o1 h
noncomputable def R18_find (p0 : (List UInt8)) (p1 : (List UInt8)) (p2 : Int) : Option (Int) :=
  (R18_find_L1 p0 p1 p2) >>= fun o1 =>
  some o1
set_option maxRecDepth 100000 in
set_option maxHeartbeats 4000000 in
theorem R18_find_ok : ∀ (p0 : (List UInt8)) (p1 : (List UInt8)) (p2 : Int) (o : Int), R18_find p0 p1 p2 = some o → PCall Try.prog 56 [sV p0, sV p1, iV p2] (t_R18_find o) := by
  intro p0 p1 p2 o h
  unfold R18_find at h
  refine PCall.ofB mixed tbOk R18_find_lv Try.func56 rfl (by kernel_rfl) (Nat.le_of_ble_eq_true rfl) ?_
  refine st_bind h (fun o1 ho hk => ?_)
  refine Exists.intro (JP1 _ _ o1 (.exit 0) (R18_find_L1_x0 p0 p1)) (And.intro (T_le (τ := R18_find_L1_st p0 p1 p2) ?_ (TL.loop (R18_find_L1_ok p0 p1 p2 o1 ho))) (join1 ?_))
  · exact Le.tow 0 0 rfl (.cons rfl (.refl _) (.cons rfl (.refl _) (.cons rfl (.refl _) (.nil)))) (.refl _) rfl
  have h := hk
  refine st_ret (t := t_R18_find) h ?_
  exact .refl _
noncomputable def R18_Tokens_L1 (p0 : (List UInt8)) (v5 : (List api_Token)) (v6 : Int) : Option ((List api_Token) ⊕ ((List api_Token) × Int × Int)) :=
  if (decide (v6 < (p0.length : Int))) then
    R18_find p0 [123, 123] v6 >>= fun x4 =>
    ( if (decide (x4 > v6)) then
        cutL p0 v6 x4 >>= fun x6 =>
        appL 48 v5 [(api_Token.mk 1 x6 0 v6 x4)] >>= fun x7 =>
        some x7
      else
        some v5 : Option ((List api_Token))) >>= fun o5 =>
    if (x4 == (p0.length : Int)) then
      some (.inr (o5, 0, 0))
    else
      appL 48 o5 ([(api_Token.mk 2 [] 0 x4 (wr (x4 + 2)))]) >>= fun x8 =>
      R18_blanks p0 (wr (x4 + 2)) >>= fun x9 =>
      ( R01_Begins p0 [35] x9 >>= fun x11 =>
        if x11 then
          R18_find p0 [125, 125] x9 >>= fun x12 =>
          some x12
        else
          some x9 : Option (Int)) >>= fun o10 =>
      (R18_Tokens_L2 p0 x8 o10) >>= fun o13 =>
      match o13 with
      | .inl y14 =>
        R18_Tokens_L1 p0 y14.1 y14.2
      | .inr y15 =>
        some (.inr ([], y15, 7))
  else
    some (.inl v5)
  partial_fixpoint
set_option maxRecDepth 100000 in
set_option maxHeartbeats 4000000 in
theorem R18_Tokens_L1_grp : ∀ (p0 : (List UInt8)), (∀ (v5 : (List api_Token)) (v6 : Int) (o1 : (List api_Token) ⊕ ((List api_Token) × Int × Int)), R18_Tokens_L1 p0 v5 v6 = some o1 → TL (0, 0) Try.prog 83 R18_Tokens_L1_c (JP2 (0, 0) 83 o1 (.exit 0) (R18_Tokens_L1_x0 p0) .ret (R18_Tokens_L1_x1 p0)) (R18_Tokens_L1_st p0 v5 v6)) := by
  intro p0
  refine R18_Tokens_L1.partial_correctness p0 _ ?_
  intro R18_Tokens_L1' ih_R18_Tokens_L1 v5 v6 o1 h
  refine TL.round (bwp_sound mixed tbOk (lv := R18_Tokens_lv) _ _ _ ?_)
  refine vrfl ?_
  refine st_test h (fun hb h => ?_) (fun hb h => ?_)
  · refine st_call [sV p0, sV [123, 123], iV v6] t_R18_find h (fun x4 hy => (R18_find_ok p0 [123, 123] v6 x4 hy)) (fun x4 hy h => ?_)
    refine st_bind h (fun o5 ho hk => ?_)
    refine Exists.intro (JP1 _ _ o5 .normal (R18_Tokens_J0_0 p0 x4)) (And.intro ?_ (join1 ?_))
    · have h := ho
      refine st_test h (fun hb h => ?_) (fun hb h => ?_)
      · refine st_cuts (some v6) (some x4) h (fun x6 hi h => ?_)
        refine st_appo (a := v5) (b := [(api_Token.mk 1 x6 0 v6 x4)]) (c := c_api_Token) h (.refl _) (fun _ => rfl) rfl (fun x7 hi h => ?_)
        exact JP1.a h (Le.tow 0 1 rfl (.cons rfl (.refl _) (.cons rfl (.refl _) (.cons rfl (.refl _) (.nil)))) (.refl _) rfl)
      · exact JP1.a h (Le.tow 0 1 rfl (.cons rfl (.refl _) (.cons rfl (.refl _) (.cons rfl (.refl _) (.nil)))) (.refl _) rfl)
    · have h := hk
      refine vrfl ?_
      refine st_test h (fun hb h => ?_) (fun hb h => ?_)
      · exact JP2.b h (Le.tow 0 0 rfl (.cons rfl (.refl _) (.cons rfl (.refl _) (.cons rfl (.refl _) (.nil)))) (.refl _) rfl)
      · refine st_appo (a := o5) (b := [(api_Token.mk 2 [] 0 x4 (wr (x4 + 2)))]) (c := c_api_Token) h (.refl _) (fun _ => rfl) rfl (fun x8 hi h => ?_)
        refine st_call [sV p0, iV (wr (x4 + 2))] t_R18_blanks h (fun x9 hy => (R18_blanks_ok p0 (wr (x4 + 2)) x9 hy)) (fun x9 hy h => ?_)
        refine st_bind h (fun o10 ho hk => ?_)
        refine Exists.intro (JP1 _ _ o10 .normal (R18_Tokens_J1_0 p0 x8)) (And.intro ?_ (join1 ?_))
        · have h := ho
          refine st_call [sV p0, sV [35], iV x9] t_R01_Begins h (fun x11 hy => (R01_Begins_ok p0 [35] x9 x11 hy)) (fun x11 hy h => ?_)
          refine st_test h (fun hb h => ?_) (fun hb h => ?_)
          · refine st_call [sV p0, sV [125, 125], iV x9] t_R18_find h (fun x12 hy => (R18_find_ok p0 [125, 125] x9 x12 hy)) (fun x12 hy h => ?_)
            exact JP1.a h (Le.tow 0 1 rfl (.cons rfl (.refl _) (.cons rfl (.refl _) (.cons rfl (.refl _) (.nil)))) (.refl _) rfl)
          · exact JP1.a h (Le.tow 0 1 rfl (.cons rfl (.refl _) (.cons rfl (.refl _) (.cons rfl (.refl _) (.nil)))) (.refl _) rfl)
        · have h := hk
          refine st_bind h (fun o13 ho hk => ?_)
          refine Exists.intro (JP2 _ _ o13 (.exit 2) (R18_Tokens_L2_x0 p0) .ret (R18_Tokens_L2_x1 p0)) (And.intro (T_le (τ := R18_Tokens_L2_st p0 x8 o10) ?_ (TL.loop (R18_Tokens_L2_ok p0 x8 o10 o13 ho))) (join2 (fun y14 hy => ?_) (fun y15 hy => ?_)))
          · exact Le.tow 0 1 rfl (.cons rfl (.refl _) (.cons rfl (.refl _) (.cons rfl (.refl _) (.nil)))) (.refl _) rfl
          · have h := (by rw [hy] at hk; exact hk)
            refine TL.le (τ := R18_Tokens_L1_st p0 y14.1 y14.2) ?_ ((ih_R18_Tokens_L1 y14.1 y14.2 _ h))
            exact Le.tow 0 1 rfl (.cons rfl (.refl _) (.cons rfl (.refl _) (.cons rfl (.refl _) (.nil)))) (.refl _) rfl
          · have h := (by rw [hy] at hk; exact hk)
            exact JP2.b h (Le.tow 0 0 rfl (.cons rfl (.p (.not)) (.cons rfl (.refl _) (.cons rfl (.refl _) (.nil)))) (.refl _) rfl)
  · exact JP2.a h (Le.tow 0 1 rfl (.cons rfl (.refl _) (.nil)) (.refl _) rfl)
theorem R18_Tokens_L1_ok : ∀ (p0 : (List UInt8)) (v5 : (List api_Token)) (v6 : Int) (o1 : (List api_Token) ⊕ ((List api_Token) × Int × Int)), R18_Tokens_L1 p0 v5 v6 = some o1 → TL (0, 0) Try.prog 83 R18_Tokens_L1_c (JP2 (0, 0) 83 o1 (.exit 0) (R18_Tokens_L1_x0 p0) .ret (R18_Tokens_L1_x1 p0)) (R18_Tokens_L1_st p0 v5 v6) := fun p0 v5 v6 o1 h => (R18_Tokens_L1_grp p0) v5 v6 o1 h
noncomputable def R18_Tokens (p0 : (List UInt8)) : Option ((List api_Token) × Int × Int) :=
  if (decide ((p0.length : Int) > 65536)) then
    some ([], 0, 6)
  else
    (R18_Tokens_L1 p0 [] 0) >>= fun o1 =>
    match o1 with
    | .inl y2 =>
      some (y2, 0, 0)
    | .inr y3 =>
      some (y3.1, y3.2.1, y3.2.2)
set_option maxRecDepth 100000 in
set_option maxHeartbeats 4000000 in
theorem R18_Tokens_ok : ∀ (p0 : (List UInt8)) (o : (List api_Token) × Int × Int), R18_Tokens p0 = some o → PCall Try.prog 30 [sV p0] (t_R18_Tokens o) := by
  intro p0 o h
  unfold R18_Tokens at h
  refine PCall.ofB mixed tbOk R18_Tokens_lv Try.func30 rfl (by kernel_rfl) (Nat.le_of_ble_eq_true rfl) ?_
  refine vrfl ?_
  refine st_test h (fun hb h => ?_) (fun hb h => ?_)
  · refine st_ret (t := t_R18_Tokens) h ?_
    exact .tup (xs := [.sl true [], iV 0, iV 6]) (ys := [.sl false [], iV 0, iV 6]) (.cons (.not) (.cons (.refl _) (.cons (.refl _) (.nil))))
  · refine st_bind h (fun o1 ho hk => ?_)
    refine Exists.intro (JP2 _ _ o1 (.exit 0) (R18_Tokens_L1_x0 p0) .ret (R18_Tokens_L1_x1 p0)) (And.intro (T_le (τ := R18_Tokens_L1_st p0 [] 0) ?_ (TL.loop (R18_Tokens_L1_ok p0 [] 0 o1 ho))) (join2 (fun y2 hy => ?_) (fun y3 hy => ?_)))
    · exact Le.trans (τ := ⟨[(0, .p (sV p0)), (5, .p (.sl true [])), (6, .p (iV 0))], ⟨[], []⟩⟩) (Le.tow 0 0 rfl (.cons rfl (.refl _) (.cons rfl (.refl _) (.cons rfl (.refl _) (.nil)))) (.refl _) rfl) ((Le.own 5 91 5 rfl sizeNil).trans (Le.tow 0 1 rfl (.cons rfl (.refl _) (.cons rfl (.refl _) (.cons rfl (.refl _) (.nil)))) (.refl _) rfl))
    · have h := (by rw [hy] at hk; exact hk)
      refine st_ret (t := t_R18_Tokens) h ?_
      exact .refl _
    · have h := (by rw [hy] at hk; exact hk)
      refine st_ret (t := t_R18_Tokens) h ?_
      exact .refl _
mutual
noncomputable def R19_Expr (p0 : api_Node) : Option ((List UInt8)) :=
  if (p0.Kind == 1) then
    R18_Quote p0.Text >>= fun x1 =>
    some x1.1
  else
    if (p0.Kind == 2) then
      R01_Text p0.N >>= fun x2 =>
      some x2
    else
      if (p0.Kind == 3) then
        if (p0.N == 1) then
          some [116, 114, 117, 101]
        else
          some [102, 97, 108, 115, 101]
      else
        if (p0.Kind == 4) then
          some p0.Name
        else
          if (p0.Kind == 5) then
            idx p0.L 0 >>= fun x3 =>
            R19_Expr x3 >>= fun x4 =>
            need (x4.length + [46].length ≤ 9223372036854775807) >>= fun _ =>
            need ((x4 ++ [46]).length + p0.Name.length ≤ 9223372036854775807) >>= fun _ =>
            some ((x4 ++ [46]) ++ p0.Name)
          else
            if (p0.Kind == 7) then
              need ([115, 101, 99, 114, 101, 116, 40, 34].length + p0.Name.length ≤ 9223372036854775807) >>= fun _ =>
              need (([115, 101, 99, 114, 101, 116, 40, 34] ++ p0.Name).length + [34, 41].length ≤ 9223372036854775807) >>= fun _ =>
              some (([115, 101, 99, 114, 101, 116, 40, 34] ++ p0.Name) ++ [34, 41])
            else
              (R19_Expr_L1 p0 [] 0) >>= fun o5 =>
              need (p0.Name.length + [40].length ≤ 9223372036854775807) >>= fun _ =>
              R01_Join o5 [44, 32] >>= fun x9 =>
              need ((p0.Name ++ [40]).length + x9.length ≤ 9223372036854775807) >>= fun _ =>
              need (((p0.Name ++ [40]) ++ x9).length + [41].length ≤ 9223372036854775807) >>= fun _ =>
              some (((p0.Name ++ [40]) ++ x9) ++ [41])
  partial_fixpoint
noncomputable def R19_Expr_L1 (p0 : api_Node) (v5 : (List (List UInt8))) (v6 : Int) : Option ((List (List UInt8))) :=
  if (decide (v6 < (p0.L.length : Int))) then
    idx p0.L v6 >>= fun x6 =>
    R19_Expr x6 >>= fun x7 =>
    appL 16 v5 [x7] >>= fun x8 =>
    R19_Expr_L1 p0 x8 (wr (v6 + 1))
  else
    some v5
  partial_fixpoint
end
set_option maxRecDepth 100000 in
set_option maxHeartbeats 4000000 in
theorem R19_Expr_grp : (∀ (p0 : api_Node) (o : (List UInt8)), R19_Expr p0 = some o → PCall Try.prog 86 [.agg [iV p0.Kind, sV p0.Name, sV p0.Text, iV p0.N, .sl false (p0.L.map c_api_Node), .sl false (p0.Then.map c_api_Node), .sl false (p0.Else.map c_api_Node)]] (t_R19_Expr o)) ∧ (∀ (p0 : api_Node) (v5 : (List (List UInt8))) (v6 : Int) (o5 : (List (List UInt8))), R19_Expr_L1 p0 v5 v6 = some o5 → TL (0, 0) Try.prog 73 R19_Expr_L1_c (JP1 (0, 0) 73 o5 (.exit 1) (R19_Expr_L1_x0 p0)) (R19_Expr_L1_st p0 v5 v6)) := by
  refine R19_Expr.mutual_partial_correctness _ _ ?_ ?_
  · intro R19_Expr' R19_Expr_L1' ih_R19_Expr ih_R19_Expr_L1 p0 o h
    refine PCall.ofB mixed tbOk R19_Expr_lv Try.func86 rfl (by kernel_rfl) (Nat.le_of_ble_eq_true rfl) ?_
    refine st_test h (fun hb h => ?_) (fun hb h => ?_)
    · refine st_call [sV p0.Text] t_R18_Quote h (fun x1 hy => (R18_Quote_ok p0.Text x1 hy)) (fun x1 hy h => ?_)
      refine st_ret (t := t_R19_Expr) h ?_
      exact .refl _
    · refine st_test h (fun hb h => ?_) (fun hb h => ?_)
      · refine st_call [iV p0.N] t_R01_Text h (fun x2 hy => (R01_Text_ok p0.N x2 hy)) (fun x2 hy h => ?_)
        refine st_ret (t := t_R19_Expr) h ?_
        exact .refl _
      · refine st_test h (fun hb h => ?_) (fun hb h => ?_)
        · refine st_test h (fun hb h => ?_) (fun hb h => ?_)
          · refine st_ret (t := t_R19_Expr) h ?_
            exact .refl _
          · refine st_ret (t := t_R19_Expr) h ?_
            exact .refl _
        · refine st_test h (fun hb h => ?_) (fun hb h => ?_)
          · refine st_ret (t := t_R19_Expr) h ?_
            exact .refl _
          · refine st_test h (fun hb h => ?_) (fun hb h => ?_)
            · refine And.intro (by decide +kernel) (And.intro rfl ?_)
              refine st_idx (l := p0.L) (c := c_api_Node) (c' := l_api_Node) h c_api_Node_eq (fun _ => rfl) (by decide) (fun x3 hi h => ?_)
              refine st_calld [.agg [iV x3.Kind, sV x3.Name, sV x3.Text, iV x3.N, .sl false (x3.L.map c_api_Node), .sl false (x3.Then.map c_api_Node), .sl false (x3.Else.map c_api_Node)]] t_R19_Expr h (fun x4 hy => (ih_R19_Expr x3 x4 hy)) (fun x4 hy h => ?_)
              refine st_need h (fun h => ?_)
              refine st_need h (fun h => ?_)
              refine st_ret (t := t_R19_Expr) h ?_
              exact .refl _
            · refine st_test h (fun hb h => ?_) (fun hb h => ?_)
              · refine st_need h (fun h => ?_)
                refine st_need h (fun h => ?_)
                refine st_ret (t := t_R19_Expr) h ?_
                exact .refl _
              · refine st_bind h (fun o5 ho hk => ?_)
                refine Exists.intro (JP1 _ _ o5 (.exit 1) (R19_Expr_L1_x0 p0)) (And.intro (T_le (τ := R19_Expr_L1_st p0 [] 0) ?_ (TL.loop (ih_R19_Expr_L1 p0 [] 0 o5 ho))) (join1 ?_))
                · exact Le.trans (τ := ⟨[(1, .ptr 0 0), (5, .p (.sl true [])), (6, .p (iV 0))], ⟨[[.p (iV p0.Kind), .p (sV p0.Name), .p (sV p0.Text), .p (iV p0.N), .p (.sl false (p0.L.map c_api_Node)), .p (.sl false (p0.Then.map c_api_Node)), .p (.sl false (p0.Else.map c_api_Node))]], []⟩⟩) (Le.tow 1 0 rfl (.cons rfl (.refl _) (.cons rfl (.refl _) (.cons rfl (.refl _) (.nil)))) (.refl _) rfl) ((Le.own 5 9 1 rfl sizeNil).trans (Le.tow 1 1 rfl (.cons rfl (.refl _) (.cons rfl (.refl _) (.cons rfl (.refl _) (.nil)))) (.refl _) rfl))
                have h := hk
                refine And.intro (by decide +kernel) (And.intro rfl ?_)
                refine st_need h (fun h => ?_)
                refine st_calld [.sl false (o5.map cStr), sV [44, 32]] t_R01_Join h (fun x9 hy => (R01_Join_ok o5 [44, 32] x9 hy)) (fun x9 hy h => ?_)
                refine st_need h (fun h => ?_)
                refine st_need h (fun h => ?_)
                refine st_ret (t := t_R19_Expr) h ?_
                exact .refl _
  · intro R19_Expr' R19_Expr_L1' ih_R19_Expr ih_R19_Expr_L1 p0 v5 v6 o5 h
    refine TL.round (bwp_sound mixed tbOk (lv := R19_Expr_lv) _ _ _ ?_)
    refine view (lenMap _ _) rfl ?_
    refine st_test h (fun hb h => ?_) (fun hb h => ?_)
    · refine st_idx (l := p0.L) (c := c_api_Node) (c' := l_api_Node) h c_api_Node_eq (fun _ => rfl) (by decide) (fun x6 hi h => ?_)
      refine st_call [.agg [iV x6.Kind, sV x6.Name, sV x6.Text, iV x6.N, .sl false (x6.L.map c_api_Node), .sl false (x6.Then.map c_api_Node), .sl false (x6.Else.map c_api_Node)]] t_R19_Expr h (fun x7 hy => (ih_R19_Expr x6 x7 hy)) (fun x7 hy h => ?_)
      refine st_appo (a := v5) (b := [x7]) (c := cStr) h (.refl _) (fun _ => rfl) rfl (fun x8 hi h => ?_)
      refine TL.le (τ := R19_Expr_L1_st p0 x8 (wr (v6 + 1))) ?_ ((ih_R19_Expr_L1 p0 x8 (wr (v6 + 1)) _ h))
      exact Le.tow 1 1 rfl (.cons rfl (.refl _) (.cons rfl (.refl _) (.cons rfl (.refl _) (.nil)))) (.refl _) rfl
    · exact JP1.a h (Le.tow 1 1 rfl (.cons rfl (.refl _) (.cons rfl (.refl _) (.nil))) (.refl _) rfl)
theorem R19_Expr_ok : ∀ (p0 : api_Node) (o : (List UInt8)), R19_Expr p0 = some o → PCall Try.prog 86 [.agg [iV p0.Kind, sV p0.Name, sV p0.Text, iV p0.N, .sl false (p0.L.map c_api_Node), .sl false (p0.Then.map c_api_Node), .sl false (p0.Else.map c_api_Node)]] (t_R19_Expr o) := fun p0 o h => R19_Expr_grp.1 p0 o h
mutual
noncomputable def R19_Write (p0 : (List api_Node)) : Option ((List UInt8)) :=
  (R19_Write_L1 p0 [] 0) >>= fun o1 =>
  some o1
  partial_fixpoint
noncomputable def R19_Write_L1 (p0 : (List api_Node)) (v3 : (List UInt8)) (v4 : Int) : Option ((List UInt8)) :=
  if (decide (v4 < (p0.length : Int))) then
    idx p0 v4 >>= fun x2 =>
    if (x2.Kind == 8) then
      need (v3.length + x2.Text.length ≤ 9223372036854775807) >>= fun _ =>
      R19_Write_L1 p0 (v3 ++ x2.Text) (wr (v4 + 1))
    else
      if (x2.Kind == 9) then
        need (v3.length + [123, 123, 32].length ≤ 9223372036854775807) >>= fun _ =>
        idx x2.L 0 >>= fun x3 =>
        R19_Expr x3 >>= fun x4 =>
        need ((v3 ++ [123, 123, 32]).length + x4.length ≤ 9223372036854775807) >>= fun _ =>
        need (((v3 ++ [123, 123, 32]) ++ x4).length + [32, 125, 125].length ≤ 9223372036854775807) >>= fun _ =>
        R19_Write_L1 p0 (((v3 ++ [123, 123, 32]) ++ x4) ++ [32, 125, 125]) (wr (v4 + 1))
      else
        if (x2.Kind == 13) then
          need (v3.length + [123, 123, 32, 117, 115, 101, 32].length ≤ 9223372036854775807) >>= fun _ =>
          need ((v3 ++ [123, 123, 32, 117, 115, 101, 32]).length + x2.Name.length ≤ 9223372036854775807) >>= fun _ =>
          need (((v3 ++ [123, 123, 32, 117, 115, 101, 32]) ++ x2.Name).length + [32].length ≤ 9223372036854775807) >>= fun _ =>
          idx x2.L 0 >>= fun x5 =>
          R19_Expr x5 >>= fun x6 =>
          need ((((v3 ++ [123, 123, 32, 117, 115, 101, 32]) ++ x2.Name) ++ [32]).length + x6.length ≤ 9223372036854775807) >>= fun _ =>
          need (((((v3 ++ [123, 123, 32, 117, 115, 101, 32]) ++ x2.Name) ++ [32]) ++ x6).length + [32, 125, 125].length ≤ 9223372036854775807) >>= fun _ =>
          R19_Write_L1 p0 (((((v3 ++ [123, 123, 32, 117, 115, 101, 32]) ++ x2.Name) ++ [32]) ++ x6) ++ [32, 125, 125]) (wr (v4 + 1))
        else
          if (x2.Kind == 10) then
            need (v3.length + [123, 123, 32, 105, 102, 32].length ≤ 9223372036854775807) >>= fun _ =>
            idx x2.L 0 >>= fun x7 =>
            R19_Expr x7 >>= fun x8 =>
            need ((v3 ++ [123, 123, 32, 105, 102, 32]).length + x8.length ≤ 9223372036854775807) >>= fun _ =>
            need (((v3 ++ [123, 123, 32, 105, 102, 32]) ++ x8).length + [32, 125, 125].length ≤ 9223372036854775807) >>= fun _ =>
            R19_Write x2.Then >>= fun x9 =>
            need ((((v3 ++ [123, 123, 32, 105, 102, 32]) ++ x8) ++ [32, 125, 125]).length + x9.length ≤ 9223372036854775807) >>= fun _ =>
            if (decide ((x2.Else.length : Int) > 0)) then
              need (((((v3 ++ [123, 123, 32, 105, 102, 32]) ++ x8) ++ [32, 125, 125]) ++ x9).length + [123, 123, 32, 101, 108, 115, 101, 32, 125, 125].length ≤ 9223372036854775807) >>= fun _ =>
              R19_Write x2.Else >>= fun x10 =>
              need ((((((v3 ++ [123, 123, 32, 105, 102, 32]) ++ x8) ++ [32, 125, 125]) ++ x9) ++ [123, 123, 32, 101, 108, 115, 101, 32, 125, 125]).length + x10.length ≤ 9223372036854775807) >>= fun _ =>
              need (((((((v3 ++ [123, 123, 32, 105, 102, 32]) ++ x8) ++ [32, 125, 125]) ++ x9) ++ [123, 123, 32, 101, 108, 115, 101, 32, 125, 125]) ++ x10).length + [123, 123, 32, 101, 110, 100, 32, 125, 125].length ≤ 9223372036854775807) >>= fun _ =>
              R19_Write_L1 p0 (((((((v3 ++ [123, 123, 32, 105, 102, 32]) ++ x8) ++ [32, 125, 125]) ++ x9) ++ [123, 123, 32, 101, 108, 115, 101, 32, 125, 125]) ++ x10) ++ [123, 123, 32, 101, 110, 100, 32, 125, 125]) (wr (v4 + 1))
            else
              need (((((v3 ++ [123, 123, 32, 105, 102, 32]) ++ x8) ++ [32, 125, 125]) ++ x9).length + [123, 123, 32, 101, 110, 100, 32, 125, 125].length ≤ 9223372036854775807) >>= fun _ =>
              R19_Write_L1 p0 (((((v3 ++ [123, 123, 32, 105, 102, 32]) ++ x8) ++ [32, 125, 125]) ++ x9) ++ [123, 123, 32, 101, 110, 100, 32, 125, 125]) (wr (v4 + 1))
          else
            if (x2.Kind == 11) then
              need (v3.length + [123, 123, 32, 101, 97, 99, 104, 32].length ≤ 9223372036854775807) >>= fun _ =>
              need ((v3 ++ [123, 123, 32, 101, 97, 99, 104, 32]).length + x2.Name.length ≤ 9223372036854775807) >>= fun _ =>
              need (((v3 ++ [123, 123, 32, 101, 97, 99, 104, 32]) ++ x2.Name).length + [32, 105, 110, 32].length ≤ 9223372036854775807) >>= fun _ =>
              idx x2.L 0 >>= fun x11 =>
              R19_Expr x11 >>= fun x12 =>
              need ((((v3 ++ [123, 123, 32, 101, 97, 99, 104, 32]) ++ x2.Name) ++ [32, 105, 110, 32]).length + x12.length ≤ 9223372036854775807) >>= fun _ =>
              need (((((v3 ++ [123, 123, 32, 101, 97, 99, 104, 32]) ++ x2.Name) ++ [32, 105, 110, 32]) ++ x12).length + [32, 125, 125].length ≤ 9223372036854775807) >>= fun _ =>
              R19_Write x2.Then >>= fun x13 =>
              need ((((((v3 ++ [123, 123, 32, 101, 97, 99, 104, 32]) ++ x2.Name) ++ [32, 105, 110, 32]) ++ x12) ++ [32, 125, 125]).length + x13.length ≤ 9223372036854775807) >>= fun _ =>
              need (((((((v3 ++ [123, 123, 32, 101, 97, 99, 104, 32]) ++ x2.Name) ++ [32, 105, 110, 32]) ++ x12) ++ [32, 125, 125]) ++ x13).length + [123, 123, 32, 101, 110, 100, 32, 125, 125].length ≤ 9223372036854775807) >>= fun _ =>
              R19_Write_L1 p0 (((((((v3 ++ [123, 123, 32, 101, 97, 99, 104, 32]) ++ x2.Name) ++ [32, 105, 110, 32]) ++ x12) ++ [32, 125, 125]) ++ x13) ++ [123, 123, 32, 101, 110, 100, 32, 125, 125]) (wr (v4 + 1))
            else
              need (v3.length + [123, 123, 32, 108, 101, 116, 32].length ≤ 9223372036854775807) >>= fun _ =>
              need ((v3 ++ [123, 123, 32, 108, 101, 116, 32]).length + x2.Name.length ≤ 9223372036854775807) >>= fun _ =>
              need (((v3 ++ [123, 123, 32, 108, 101, 116, 32]) ++ x2.Name).length + [32, 61, 32].length ≤ 9223372036854775807) >>= fun _ =>
              idx x2.L 0 >>= fun x14 =>
              R19_Expr x14 >>= fun x15 =>
              need ((((v3 ++ [123, 123, 32, 108, 101, 116, 32]) ++ x2.Name) ++ [32, 61, 32]).length + x15.length ≤ 9223372036854775807) >>= fun _ =>
              need (((((v3 ++ [123, 123, 32, 108, 101, 116, 32]) ++ x2.Name) ++ [32, 61, 32]) ++ x15).length + [32, 125, 125].length ≤ 9223372036854775807) >>= fun _ =>
              R19_Write x2.Then >>= fun x16 =>
              need ((((((v3 ++ [123, 123, 32, 108, 101, 116, 32]) ++ x2.Name) ++ [32, 61, 32]) ++ x15) ++ [32, 125, 125]).length + x16.length ≤ 9223372036854775807) >>= fun _ =>
              need (((((((v3 ++ [123, 123, 32, 108, 101, 116, 32]) ++ x2.Name) ++ [32, 61, 32]) ++ x15) ++ [32, 125, 125]) ++ x16).length + [123, 123, 32, 101, 110, 100, 32, 125, 125].length ≤ 9223372036854775807) >>= fun _ =>
              R19_Write_L1 p0 (((((((v3 ++ [123, 123, 32, 108, 101, 116, 32]) ++ x2.Name) ++ [32, 61, 32]) ++ x15) ++ [32, 125, 125]) ++ x16) ++ [123, 123, 32, 101, 110, 100, 32, 125, 125]) (wr (v4 + 1))
  else
    some v3
  partial_fixpoint
end
set_option maxRecDepth 100000 in
set_option maxHeartbeats 4000000 in
theorem R19_Write_grp : (∀ (p0 : (List api_Node)) (o : (List UInt8)), R19_Write p0 = some o → PCall Try.prog 55 [.sl false (p0.map c_api_Node)] (t_R19_Write o)) ∧ (∀ (p0 : (List api_Node)) (v3 : (List UInt8)) (v4 : Int) (o1 : (List UInt8)), R19_Write_L1 p0 v3 v4 = some o1 → TL (0, 0) Try.prog 116 R19_Write_L1_c (JP1 (0, 0) 116 o1 (.exit 0) (R19_Write_L1_x0 p0)) (R19_Write_L1_st p0 v3 v4)) := by
  refine R19_Write.mutual_partial_correctness _ _ ?_ ?_
  · intro R19_Write_L1' ih_R19_Write_L1 p0 o h
    refine PCall.ofB mixed tbOk R19_Write_lv Try.func55 rfl (by kernel_rfl) (Nat.le_of_ble_eq_true rfl) ?_
    refine st_bind h (fun o1 ho hk => ?_)
    refine Exists.intro (JP1 _ _ o1 (.exit 0) (R19_Write_L1_x0 p0)) (And.intro (T_le (τ := R19_Write_L1_st p0 [] 0) ?_ (TL.loop (ih_R19_Write_L1 p0 [] 0 o1 ho))) (join1 ?_))
    · exact Le.tow 0 0 rfl (.cons rfl (.refl _) (.cons rfl (.refl _) (.cons rfl (.refl _) (.nil)))) (.refl _) rfl
    have h := hk
    refine st_ret (t := t_R19_Write) h ?_
    exact .refl _
  · intro R19_Write' R19_Write_L1' ih_R19_Write ih_R19_Write_L1 p0 v3 v4 o1 h
    refine TL.round (bwp_sound mixed tbOk (lv := R19_Write_lv) _ _ _ ?_)
    refine view (lenMap _ _) rfl ?_
    refine st_test h (fun hb h => ?_) (fun hb h => ?_)
    · refine st_idx (l := p0) (c := c_api_Node) (c' := l_api_Node) h c_api_Node_eq (fun _ => rfl) (by decide) (fun x2 hi h => ?_)
      refine st_test h (fun hb h => ?_) (fun hb h => ?_)
      · refine st_need h (fun h => ?_)
        refine TL.le (τ := R19_Write_L1_st p0 (v3 ++ x2.Text) (wr (v4 + 1))) ?_ ((ih_R19_Write_L1 p0 (v3 ++ x2.Text) (wr (v4 + 1)) _ h))
        exact Le.tow 0 0 rfl (.cons rfl (.refl _) (.cons rfl (.refl _) (.cons rfl (.refl _) (.nil)))) (.refl _) rfl
      · refine st_test h (fun hb h => ?_) (fun hb h => ?_)
        · refine st_need h (fun h => ?_)
          refine st_idx (l := x2.L) (c := c_api_Node) (c' := l_api_Node) h c_api_Node_eq (fun _ => rfl) (by decide) (fun x3 hi h => ?_)
          refine st_call [.agg [iV x3.Kind, sV x3.Name, sV x3.Text, iV x3.N, .sl false (x3.L.map c_api_Node), .sl false (x3.Then.map c_api_Node), .sl false (x3.Else.map c_api_Node)]] t_R19_Expr h (fun x4 hy => (R19_Expr_ok x3 x4 hy)) (fun x4 hy h => ?_)
          refine st_need h (fun h => ?_)
          refine st_need h (fun h => ?_)
          refine TL.le (τ := R19_Write_L1_st p0 (((v3 ++ [123, 123, 32]) ++ x4) ++ [32, 125, 125]) (wr (v4 + 1))) ?_ ((ih_R19_Write_L1 p0 (((v3 ++ [123, 123, 32]) ++ x4) ++ [32, 125, 125]) (wr (v4 + 1)) _ h))
          exact Le.tow 0 0 rfl (.cons rfl (.refl _) (.cons rfl (.refl _) (.cons rfl (.refl _) (.nil)))) (.refl _) rfl
        · refine st_test h (fun hb h => ?_) (fun hb h => ?_)
          · refine And.intro (by decide +kernel) (And.intro rfl ?_)
            refine st_need h (fun h => ?_)
            refine st_need h (fun h => ?_)
            refine st_need h (fun h => ?_)
            refine st_idx (l := x2.L) (c := c_api_Node) (c' := l_api_Node) h c_api_Node_eq (fun _ => rfl) (by decide) (fun x5 hi h => ?_)
            refine st_calld [.agg [iV x5.Kind, sV x5.Name, sV x5.Text, iV x5.N, .sl false (x5.L.map c_api_Node), .sl false (x5.Then.map c_api_Node), .sl false (x5.Else.map c_api_Node)]] t_R19_Expr h (fun x6 hy => (R19_Expr_ok x5 x6 hy)) (fun x6 hy h => ?_)
            refine st_need h (fun h => ?_)
            refine st_need h (fun h => ?_)
            refine TL.le (τ := R19_Write_L1_st p0 (((((v3 ++ [123, 123, 32, 117, 115, 101, 32]) ++ x2.Name) ++ [32]) ++ x6) ++ [32, 125, 125]) (wr (v4 + 1))) ?_ ((ih_R19_Write_L1 p0 (((((v3 ++ [123, 123, 32, 117, 115, 101, 32]) ++ x2.Name) ++ [32]) ++ x6) ++ [32, 125, 125]) (wr (v4 + 1)) _ h))
            exact Le.tow 0 0 rfl (.cons rfl (.refl _) (.cons rfl (.refl _) (.cons rfl (.refl _) (.nil)))) (.refl _) rfl
          · refine st_test h (fun hb h => ?_) (fun hb h => ?_)
            · refine And.intro (by decide +kernel) (And.intro rfl ?_)
              refine st_need h (fun h => ?_)
              refine st_idx (l := x2.L) (c := c_api_Node) (c' := l_api_Node) h c_api_Node_eq (fun _ => rfl) (by decide) (fun x7 hi h => ?_)
              refine st_calld [.agg [iV x7.Kind, sV x7.Name, sV x7.Text, iV x7.N, .sl false (x7.L.map c_api_Node), .sl false (x7.Then.map c_api_Node), .sl false (x7.Else.map c_api_Node)]] t_R19_Expr h (fun x8 hy => (R19_Expr_ok x7 x8 hy)) (fun x8 hy h => ?_)
              refine st_need h (fun h => ?_)
              refine st_need h (fun h => ?_)
              refine st_calld [.sl false (x2.Then.map c_api_Node)] t_R19_Write h (fun x9 hy => (ih_R19_Write x2.Then x9 hy)) (fun x9 hy h => ?_)
              refine st_need h (fun h => ?_)
              refine view (lenMap _ _) rfl ?_
              refine st_test h (fun hb h => ?_) (fun hb h => ?_)
              · refine st_need h (fun h => ?_)
                refine st_call [.sl false (x2.Else.map c_api_Node)] t_R19_Write h (fun x10 hy => (ih_R19_Write x2.Else x10 hy)) (fun x10 hy h => ?_)
                refine st_need h (fun h => ?_)
                refine st_need h (fun h => ?_)
                refine TL.le (τ := R19_Write_L1_st p0 (((((((v3 ++ [123, 123, 32, 105, 102, 32]) ++ x8) ++ [32, 125, 125]) ++ x9) ++ [123, 123, 32, 101, 108, 115, 101, 32, 125, 125]) ++ x10) ++ [123, 123, 32, 101, 110, 100, 32, 125, 125]) (wr (v4 + 1))) ?_ ((ih_R19_Write_L1 p0 (((((((v3 ++ [123, 123, 32, 105, 102, 32]) ++ x8) ++ [32, 125, 125]) ++ x9) ++ [123, 123, 32, 101, 108, 115, 101, 32, 125, 125]) ++ x10) ++ [123, 123, 32, 101, 110, 100, 32, 125, 125]) (wr (v4 + 1)) _ h))
                exact Le.tow 0 0 rfl (.cons rfl (.refl _) (.cons rfl (.refl _) (.cons rfl (.refl _) (.nil)))) (.refl _) rfl
              · refine st_need h (fun h => ?_)
                refine TL.le (τ := R19_Write_L1_st p0 (((((v3 ++ [123, 123, 32, 105, 102, 32]) ++ x8) ++ [32, 125, 125]) ++ x9) ++ [123, 123, 32, 101, 110, 100, 32, 125, 125]) (wr (v4 + 1))) ?_ ((ih_R19_Write_L1 p0 (((((v3 ++ [123, 123, 32, 105, 102, 32]) ++ x8) ++ [32, 125, 125]) ++ x9) ++ [123, 123, 32, 101, 110, 100, 32, 125, 125]) (wr (v4 + 1)) _ h))
                exact Le.tow 0 0 rfl (.cons rfl (.refl _) (.cons rfl (.refl _) (.cons rfl (.refl _) (.nil)))) (.refl _) rfl
            · refine st_test h (fun hb h => ?_) (fun hb h => ?_)
              · refine And.intro (by decide +kernel) (And.intro rfl ?_)
                refine st_need h (fun h => ?_)
                refine st_need h (fun h => ?_)
                refine st_need h (fun h => ?_)
                refine st_idx (l := x2.L) (c := c_api_Node) (c' := l_api_Node) h c_api_Node_eq (fun _ => rfl) (by decide) (fun x11 hi h => ?_)
                refine st_calld [.agg [iV x11.Kind, sV x11.Name, sV x11.Text, iV x11.N, .sl false (x11.L.map c_api_Node), .sl false (x11.Then.map c_api_Node), .sl false (x11.Else.map c_api_Node)]] t_R19_Expr h (fun x12 hy => (R19_Expr_ok x11 x12 hy)) (fun x12 hy h => ?_)
                refine st_need h (fun h => ?_)
                refine st_need h (fun h => ?_)
                refine st_calld [.sl false (x2.Then.map c_api_Node)] t_R19_Write h (fun x13 hy => (ih_R19_Write x2.Then x13 hy)) (fun x13 hy h => ?_)
                refine st_need h (fun h => ?_)
                refine st_need h (fun h => ?_)
                refine TL.le (τ := R19_Write_L1_st p0 (((((((v3 ++ [123, 123, 32, 101, 97, 99, 104, 32]) ++ x2.Name) ++ [32, 105, 110, 32]) ++ x12) ++ [32, 125, 125]) ++ x13) ++ [123, 123, 32, 101, 110, 100, 32, 125, 125]) (wr (v4 + 1))) ?_ ((ih_R19_Write_L1 p0 (((((((v3 ++ [123, 123, 32, 101, 97, 99, 104, 32]) ++ x2.Name) ++ [32, 105, 110, 32]) ++ x12) ++ [32, 125, 125]) ++ x13) ++ [123, 123, 32, 101, 110, 100, 32, 125, 125]) (wr (v4 + 1)) _ h))
                exact Le.tow 0 0 rfl (.cons rfl (.refl _) (.cons rfl (.refl _) (.cons rfl (.refl _) (.nil)))) (.refl _) rfl
              · refine And.intro (by decide +kernel) (And.intro rfl ?_)
                refine st_need h (fun h => ?_)
                refine st_need h (fun h => ?_)
                refine st_need h (fun h => ?_)
                refine st_idx (l := x2.L) (c := c_api_Node) (c' := l_api_Node) h c_api_Node_eq (fun _ => rfl) (by decide) (fun x14 hi h => ?_)
                refine st_calld [.agg [iV x14.Kind, sV x14.Name, sV x14.Text, iV x14.N, .sl false (x14.L.map c_api_Node), .sl false (x14.Then.map c_api_Node), .sl false (x14.Else.map c_api_Node)]] t_R19_Expr h (fun x15 hy => (R19_Expr_ok x14 x15 hy)) (fun x15 hy h => ?_)
                refine st_need h (fun h => ?_)
                refine st_need h (fun h => ?_)
                refine st_calld [.sl false (x2.Then.map c_api_Node)] t_R19_Write h (fun x16 hy => (ih_R19_Write x2.Then x16 hy)) (fun x16 hy h => ?_)
                refine st_need h (fun h => ?_)
                refine st_need h (fun h => ?_)
                refine TL.le (τ := R19_Write_L1_st p0 (((((((v3 ++ [123, 123, 32, 108, 101, 116, 32]) ++ x2.Name) ++ [32, 61, 32]) ++ x15) ++ [32, 125, 125]) ++ x16) ++ [123, 123, 32, 101, 110, 100, 32, 125, 125]) (wr (v4 + 1))) ?_ ((ih_R19_Write_L1 p0 (((((((v3 ++ [123, 123, 32, 108, 101, 116, 32]) ++ x2.Name) ++ [32, 61, 32]) ++ x15) ++ [32, 125, 125]) ++ x16) ++ [123, 123, 32, 101, 110, 100, 32, 125, 125]) (wr (v4 + 1)) _ h))
                exact Le.tow 0 0 rfl (.cons rfl (.refl _) (.cons rfl (.refl _) (.cons rfl (.refl _) (.nil)))) (.refl _) rfl
    · exact JP1.a h (Le.tow 0 0 rfl (.cons rfl (.refl _) (.nil)) (.refl _) rfl)
theorem R19_Write_ok : ∀ (p0 : (List api_Node)) (o : (List UInt8)), R19_Write p0 = some o → PCall Try.prog 55 [.sl false (p0.map c_api_Node)] (t_R19_Write o) := fun p0 o h => R19_Write_grp.1 p0 o h
noncomputable def R19_Print (p0 : (List api_Node)) : Option ((List UInt8) × Bool) :=
  R19_Is p0 >>= fun x1 =>
  if (!x1) then
    some ([], false)
  else
    R19_Write p0 >>= fun x2 =>
    if (decide ((x2.length : Int) > 65536)) then
      some ([], false)
    else
      some (x2, true)
set_option maxRecDepth 100000 in
set_option maxHeartbeats 4000000 in
theorem R19_Print_ok : ∀ (p0 : (List api_Node)) (o : (List UInt8) × Bool), R19_Print p0 = some o → PCall Try.prog 29 [.sl false (p0.map c_api_Node)] (t_R19_Print o) := by
  intro p0 o h
  unfold R19_Print at h
  refine PCall.ofB mixed tbOk R19_Print_lv Try.func29 rfl (by kernel_rfl) (Nat.le_of_ble_eq_true rfl) ?_
  refine st_call [.sl false (p0.map c_api_Node)] t_R19_Is h (fun x1 hy => (R19_Is_ok p0 x1 hy)) (fun x1 hy h => ?_)
  refine st_test h (fun hb h => ?_) (fun hb h => ?_)
  · refine st_ret (t := t_R19_Print) h ?_
    exact .refl _
  · refine st_call [.sl false (p0.map c_api_Node)] t_R19_Write h (fun x2 hy => (R19_Write_ok p0 x2 hy)) (fun x2 hy h => ?_)
    refine vrfl ?_
    refine st_test h (fun hb h => ?_) (fun hb h => ?_)
    · refine st_ret (t := t_R19_Print) h ?_
      exact .refl _
    · refine st_ret (t := t_R19_Print) h ?_
      exact .refl _
noncomputable def nunciolaw19_TreePrints (p0 : (List api_Node)) : Option (Bool) :=
  nunciolaw19_light p0 >>= fun x1 =>
  tree_Print x1 >>= fun x2 =>
  R19_Print x1 >>= fun x3 =>
  R18_Tokens x2.1 >>= fun x4 =>
  ( if (x2.1 == x3.1) then
      if (x2.2 == x3.2) then
        if (x4.2.2 == 0) then
          nunciolaw19_awake >>= fun x6 =>
          some x6
        else
          some false
      else
        some false
    else
      some false : Option (Bool)) >>= fun o5 =>
  some o5
set_option maxRecDepth 100000 in
set_option maxHeartbeats 4000000 in
theorem nunciolaw19_TreePrints_ok : ∀ (p0 : (List api_Node)) (o : Bool), nunciolaw19_TreePrints p0 = some o → PCall Try.prog 6 [.sl false (p0.map c_api_Node)] (t_nunciolaw19_TreePrints o) := by
  intro p0 o h
  unfold nunciolaw19_TreePrints at h
  refine PCall.ofB mixed tbOk nunciolaw19_TreePrints_lv Try.func6 rfl (by kernel_rfl) (Nat.le_of_ble_eq_true rfl) ?_
  refine st_call [.sl false (p0.map c_api_Node)] t_nunciolaw19_light h (fun x1 hy => (nunciolaw19_light_ok p0 x1 hy)) (fun x1 hy h => ?_)
  refine st_call [.sl false (x1.map c_api_Node)] t_tree_Print h (fun x2 hy => (tree_Print_ok x1 x2 hy)) (fun x2 hy h => ?_)
  refine st_call [.sl false (x1.map c_api_Node)] t_R19_Print h (fun x3 hy => (R19_Print_ok x1 x3 hy)) (fun x3 hy h => ?_)
  refine st_call [sV x2.1] t_R18_Tokens h (fun x4 hy => (R18_Tokens_ok x2.1 x4 hy)) (fun x4 hy h => ?_)
  refine st_bind h (fun o5 ho hk => ?_)
  refine Exists.intro (JP1 _ _ o5 .normal (nunciolaw19_TreePrints_J0_0 )) (And.intro ?_ (join1 ?_))
  · have h := ho
    refine st_test h (fun hb h => ?_) (fun hb h => ?_)
    · refine st_test h (fun hb h => ?_) (fun hb h => ?_)
      · refine st_test h (fun hb h => ?_) (fun hb h => ?_)
        · refine st_call [] t_nunciolaw19_awake h (fun x6 hy => (nunciolaw19_awake_ok x6 hy)) (fun x6 hy h => ?_)
          exact JP1.a h (Le.tow 0 0 rfl (.cons rfl (.refl _) (.nil)) (.refl _) rfl)
        · exact JP1.a h (Le.tow 0 0 rfl (.cons rfl (.refl _) (.nil)) (.refl _) rfl)
      · refine bF ?_
        exact JP1.a h (Le.tow 0 0 rfl (.cons rfl (.refl _) (.nil)) (.refl _) rfl)
    · refine bF ?_
      refine bF ?_
      exact JP1.a h (Le.tow 0 0 rfl (.cons rfl (.refl _) (.nil)) (.refl _) rfl)
  · have h := hk
    refine st_ret (t := t_nunciolaw19_TreePrints) h ?_
    exact .refl _
end Go.Proofs.Ytlhjieapkcnghaa
end

section
namespace Go.Proofs.Ytlhjieapkcnghaa
open Go.RowKit

def blB (c : UInt8) : Bool := c.toNat == 32 || (c.toNat == 9 || (c.toNat == 10 || c.toNat == 13))
theorem rBlank (c : UInt8) : R18_blank (c.toNat : Int) = some (blB c) := by
  have a := eqN c.toNat 32
  have b := eqN c.toNat 9
  have d := eqN c.toNat 10
  have e := eqN c.toNat 13
  rw [R18_blank]
  rw [show (32 : Int) = ((32 : Nat) : Int) from rfl, show (9 : Int) = ((9 : Nat) : Int) from rfl, show (10 : Int) = ((10 : Nat) : Int) from rfl, show (13 : Int) = ((13 : Nat) : Int) from rfl, a, b, d, e, blB]
  cases (c.toNat == 32) <;> cases (c.toNat == 9) <;> cases (c.toNat == 10) <;> cases (c.toNat == 13) <;> rfl
theorem blanks_skip (s : List UInt8) (k : Nat) (hk : k < s.length) (hs : s.length ≤ 65536) (h : blB s[k] = true) : R18_blanks s k = R18_blanks s ((k + 1 : Nat) : Int) := by
  rw [R18_blanks, R18_blanks, R18_blanks_L1, ltI, decide_eq_true hk, wr_succ (by omega)]
  simp only [if_true, bind_some', idx_nat, getE hk, rBlank, h]
theorem blanks_stay (s : List UInt8) (k : Nat) (hk : k < s.length) (h : blB s[k] = false) : R18_blanks s k = some (k : Int) := by
  rw [R18_blanks, R18_blanks_L1, ltI, decide_eq_true hk]
  simp only [if_true, bind_some', idx_nat, getE hk, rBlank, h, Bool.false_eq_true, if_false]
/-- Do two bytes stand at the head? -/
def two (a b : UInt8) : List UInt8 → Bool
  | c :: d :: _ => c == a && d == b
  | _ => false
theorem rBegins2 (a b : UInt8) (s : List UInt8) (k : Nat) (hk : k < s.length) (hs : s.length ≤ 65536) : R01_Begins s [a, b] k = some (two a b (s.drop k)) := by
  have e1 : decide ((k : Int) ≥ 0) = true := decide_eq_true (by omega)
  have e2 : decide ((k : Int) ≤ (s.length : Int)) = true := decide_eq_true (by omega)
  have e3 : wr ((s.length : Int) - k) = ((s.length - k : Nat) : Int) := by rw [wr_in (by omega) (by omega)]; omega
  have e4 : wr ((k : Int) + (([a, b] : List UInt8).length : Int)) = ((k + 2 : Nat) : Int) := by rw [wr_in (by simp; omega) (by simp; omega)]; simp
  rw [R01_Begins, e1, e2, e3, e4]
  simp only [if_true]
  by_cases h2 : 2 ≤ s.length - k
  · have e5 : decide (((([a, b] : List UInt8).length : Nat) : Int) ≤ ((s.length - k : Nat) : Int)) = true := decide_eq_true (by simp; omega)
    rw [e5, cutL_ok (by omega) (by omega) (by omega)]
    simp only [if_true, bind_some']
    have hk1 : k + 1 < s.length := by omega
    have e6 : (s.take (k + 2)).drop k = [s[k], s[k + 1]] := by
      rw [List.drop_take, dropE hk, dropE hk1]
      have : k + 2 - k = 2 := by omega
      rw [this]; rfl
    rw [Int.toNat_natCast, Int.toNat_natCast, e6, dropE hk, dropE hk1]
    rw [List.cons_beq_cons, List.cons_beq_cons]
    show some (s[k] == a && (s[k + 1] == b && true)) = _
    rw [Bool.and_true]; rfl
  · have e5 : decide (((([a, b] : List UInt8).length : Nat) : Int) ≤ ((s.length - k : Nat) : Int)) = false := decide_eq_false (by simp; omega)
    rw [e5, dropE hk]
    have : s.drop (k + 1) = [] := List.drop_eq_nil_of_le (by omega)
    rw [this]
    rfl
theorem rBegins1 (a : UInt8) (s : List UInt8) (k : Nat) (hk : k < s.length) (hs : s.length ≤ 65536) : R01_Begins s [a] k = some (s[k] == a) := by
  have e1 : decide ((k : Int) ≥ 0) = true := decide_eq_true (by omega)
  have e2 : decide ((k : Int) ≤ (s.length : Int)) = true := decide_eq_true (by omega)
  have e3 : wr ((s.length : Int) - k) = ((s.length - k : Nat) : Int) := by rw [wr_in (by omega) (by omega)]; omega
  have e4 : wr ((k : Int) + (([a] : List UInt8).length : Int)) = ((k + 1 : Nat) : Int) := by rw [wr_in (by simp; omega) (by simp; omega)]; simp
  have e5 : decide (((([a] : List UInt8).length : Nat) : Int) ≤ ((s.length - k : Nat) : Int)) = true := decide_eq_true (by simp; omega)
  rw [R01_Begins, e1, e2, e3, e4, e5, cutL_ok (by omega) (by omega) (by omega)]
  simp only [if_true, bind_some']
  have e6 : (s.take (k + 1)).drop k = [s[k]] := by
    rw [List.drop_take, dropE hk]
    have : k + 1 - k = 1 := by omega
    rw [this]; rfl
  rw [Int.toNat_natCast, Int.toNat_natCast, e6, List.cons_beq_cons]
  show some (s[k] == a && true) = _
  rw [Bool.and_true]
theorem drop_head {s : List UInt8} {k : Nat} {c : UInt8} {r : List UInt8} (h : s.drop k = c :: r) : ∃ hk : k < s.length, s[k] = c ∧ s.drop (k + 1) = r := by
  have hk : k < s.length := by
    rcases Nat.lt_or_ge k s.length with h' | h'
    · exact h'
    · rw [List.drop_eq_nil_of_le h'] at h; cases h
  rw [dropE hk] at h
  cases h
  exact ⟨hk, rfl, rfl⟩
theorem drop_app {s : List UInt8} {k : Nat} {t r : List UInt8} (h : s.drop k = t ++ r) : s.drop (k + t.length) = r ∧ (k ≤ s.length → k + t.length ≤ s.length) := by
  constructor
  · rw [← List.drop_drop, h, List.drop_left]
  · intro hk
    have := congrArg List.length h
    rw [List.length_drop, List.length_append] at this
    omega
/-- From here on Tokens ends well, outside of actions. -/
def Ao (r : List UInt8) : Prop := ∀ (s : List UInt8) (k : Nat) (toks : List api_Token), s.length ≤ 65536 → k ≤ s.length → s.drop k = r → toks.length ≤ 2 * k →
  ∃ o, R18_Tokens_L1 s toks k = some o ∧ match o with | .inl _ => True | .inr t => t.2.2 = 0
/-- The same within an action. -/
def Ai (r : List UInt8) : Prop := ∀ (s : List UInt8) (k : Nat) (toks : List api_Token), s.length ≤ 65536 → k ≤ s.length → s.drop k = r → toks.length ≤ 2 * k + 2 →
  ∃ (toks' : List api_Token) (k' : Nat), R18_Tokens_L2 s toks k = some (.inl (toks', (k' : Int))) ∧ k' ≤ s.length ∧ toks'.length ≤ 2 * k' ∧ Ao (s.drop k')
theorem Ao.nil : Ao [] := fun s k toks hs hk h ht => by
  have : s.length ≤ k := List.drop_eq_nil_iff.1 h
  rw [R18_Tokens_L1, ltI, decide_eq_false (by omega : ¬ k < s.length)]
  exact ⟨.inl toks, rfl, trivial⟩
/-- Where the next action begins. -/
theorem find_lit (s : List UInt8) (hs : s.length ≤ 65536) (r : List UInt8) (hr : r = [] ∨ ∃ r', r = 123 :: r') : ∀ (t : List UInt8) (k : Nat), k ≤ s.length → s.drop k = t ++ r → hasB t = false → (r ≠ [] → endB t = false) → (r = [] ∨ two 123 123 r = true) → R18_find_L1 s [123, 123] k = some ((k + t.length : Nat) : Int)
  | [], k, hk, h, _, _, h2 => by
    rw [R18_find_L1]
    rcases h2 with h2 | h2
    · subst h2
      have : s.length ≤ k := List.drop_eq_nil_iff.1 h
      rw [ltI, decide_eq_false (by omega : ¬ k < s.length)]
      rfl
    · have hne : r ≠ [] := fun e => by subst e; cases h2
      obtain ⟨c, r', e⟩ := List.exists_cons_of_ne_nil hne
      obtain ⟨hk', -, -⟩ := drop_head (h.trans (by rw [List.nil_append, e]))
      rw [List.nil_append] at h
      rw [ltI, decide_eq_true hk', rBegins2 123 123 s k hk' hs, h, h2]
      rfl
  | c :: t, k, hk, h, hb, he, h2 => by
    obtain ⟨hk', e1, e2⟩ := drop_head h
    rw [hasB, Bool.or_eq_false_iff] at hb
    have hno : two 123 123 (s.drop k) = false := by
      rw [h]
      cases t with
      | cons d t' =>
        have := hb.1
        show (c == 123 && d == 123) = false
        rw [List.head?_cons] at this
        exact this
      | nil =>
        cases r with
        | nil => rfl
        | cons d r' =>
          have := he (List.cons_ne_nil _ _)
          show (c == 123 && d == 123) = false
          unfold endB at this
          have hc : (c == 123) = false := by
            cases hcc : (c == 123) with
            | false => rfl
            | true => rw [beq_iff_eq] at hcc; subst hcc; cases this
          rw [hc]; rfl
    have he' : r ≠ [] → endB t = false := fun hr' => by
      have := he hr'
      cases t with
      | nil => rfl
      | cons d t' => unfold endB at this ⊢; rwa [List.getLast?_cons_cons] at this
    have ih := find_lit s hs r hr t (k + 1) (by omega) e2 hb.2 he' h2
    rw [R18_find_L1, ltI, decide_eq_true hk', rBegins2 123 123 s k hk' hs, hno, wr_succ (by omega)]
    simp only [if_true, bind_some', Bool.not_false]
    rw [ih]
    congr 2
    simp; omega
/-- A literal up to the end. -/
theorem Ao.last (t : List UInt8) (hb : hasB t = false) : Ao t := fun s k toks hs hk h ht => by
  by_cases hlt : k < s.length
  · have hf := find_lit s hs [] (.inl rfl) t k hk (by rw [List.append_nil]; exact h) hb (fun q => absurd rfl q) (.inl rfl)
    have hl : k + t.length = s.length := by have := congrArg List.length h; rw [List.length_drop] at this; omega
    rw [hl] at hf
    have e1 : decide ((s.length : Int) > (k : Int)) = true := decide_eq_true (by omega)
    rw [R18_Tokens_L1, ltI, decide_eq_true hlt, R18_find, hf]
    simp only [if_true, bind_some', e1]
    rw [cutL_ok (by omega) (by omega) (by omega), bind_some', appL_ok (by simp; omega) (by simp; omega)]
    simp only [bind_some', beq_self_eq_true, if_true]
    exact ⟨_, rfl, rfl⟩
  · rw [R18_Tokens_L1, ltI, decide_eq_false hlt]
    exact ⟨.inl toks, rfl, trivial⟩
/-- An action begins: two braces, a blank, something. -/
def Op (r : List UInt8) : Prop := ∃ c r', r = 123 :: 123 :: 32 :: c :: r' ∧ blB c = false ∧ (c == 35) = false ∧ Ai (c :: r')
theorem Op.ao (t : List UInt8) {r : List UInt8} (h : Op r) (hb : hasB t = false) (he : endB t = false) : Ao (t ++ r) := fun s k toks hs hk hd ht => by
  obtain ⟨c, r', rfl, hc, h35, hA⟩ := h
  obtain ⟨d1, d2⟩ := drop_app hd
  have hk0 := d2 hk
  have hf := find_lit s hs (123 :: 123 :: 32 :: c :: r') (.inr ⟨_, rfl⟩) t k hk hd hb (fun _ => he) (.inr rfl)
  have hkm : k ≤ k + t.length := Nat.le_add_right _ _
  generalize k + t.length = m at d1 hk0 hf hkm
  obtain ⟨q1, -, d3⟩ := drop_head d1
  obtain ⟨q2, -, d4⟩ := drop_head d3
  obtain ⟨q3, e3, d5⟩ := drop_head d4
  obtain ⟨q4, e4, -⟩ := drop_head d5
  have hb1 : blB s[m + 1 + 1] = true := by rw [e3]; rfl
  have ew : wr ((m : Int) + 2) = ((m + 1 + 1 : Nat) : Int) := by rw [wr_in (by omega) (by omega)]; omega
  have hbl : R18_blanks s ((m + 1 + 1 : Nat) : Int) = some ((m + 1 + 1 + 1 : Nat) : Int) := by
    rw [blanks_skip s (m + 1 + 1) q3 hs hb1]
    exact blanks_stay s (m + 1 + 1 + 1) q4 (by rw [e4]; exact hc)
  have hbg : R01_Begins s [35] ((m + 1 + 1 + 1 : Nat) : Int) = some false := by rw [rBegins1 35 s _ q4 hs, e4, h35]
  have e2 : ((m : Int) == (s.length : Int)) = false := beq_eq_false_iff_ne.2 (by omega)
  -- the tokens so far
  have htk : ∀ tk : List api_Token, tk.length ≤ 2 * k + 1 → ∃ o, (appL 48 tk ([(api_Token.mk 2 [] 0 (m : Int) (wr ((m : Int) + 2)))]) >>= fun x8 => R18_blanks s (wr ((m : Int) + 2)) >>= fun x9 => (R01_Begins s [35] x9 >>= fun x11 => if x11 = true then R18_find s [125, 125] x9 >>= fun x12 => some x12 else some x9 : Option Int) >>= fun o10 =>
      R18_Tokens_L2 s x8 o10 >>= fun o13 => match o13 with | .inl y14 => R18_Tokens_L1 s y14.1 y14.2 | .inr y15 => some (.inr ([], y15, 7))) = some o ∧ match o with | .inl _ => True | .inr t => t.2.2 = 0 := fun tk htk => by
    rw [appL_ok (by simp; omega) (by simp; omega), bind_some', ew, hbl, bind_some', hbg]
    simp only [bind_some', Bool.false_eq_true, if_false]
    obtain ⟨tk', k', g1, g2, g3, g4⟩ := hA s (m + 1 + 1 + 1) (tk ++ [api_Token.mk 2 [] 0 (m : Int) ((m + 1 + 1 : Nat) : Int)]) hs (by omega) d5 (by simp; omega)
    rw [g1]
    simp only [bind_some']
    exact g4 s k' tk' hs g2 rfl g3
  rw [R18_Tokens_L1, ltI, decide_eq_true (by omega : k < s.length), R18_find, hf]
  simp only [if_true, bind_some', e2, Bool.false_eq_true, if_false]
  by_cases hgt : (m : Int) > (k : Int)
  · rw [decide_eq_true hgt, cutL_ok (by omega) (by omega) (by omega)]
    simp only [if_true, bind_some']
    rw [appL_ok (by simp; omega) (by simp; omega)]
    exact htk _ (by simp; omega)
  · rw [decide_eq_false hgt]
    exact htk toks (by omega)
theorem Ai.blank {r : List UInt8} (h : Ai r) : Ai (32 :: r) := fun s k toks hs hk hd ht => by
  obtain ⟨q1, e1, d1⟩ := drop_head hd
  obtain ⟨tk', k', g1, g2, g3, g4⟩ := h s (k + 1) toks hs (by omega) d1 (by omega)
  refine ⟨tk', k', ?_, g2, g3, g4⟩
  rw [R18_Tokens_L2] at g1 ⊢
  rw [blanks_skip s k q1 hs (by rw [e1]; rfl)]
  exact g1
/-- One token. -/
theorem Ai.one {w r : List UInt8} (hw : ∀ (s : List UInt8) (k : Nat), s.length ≤ 65536 → s.drop k = w ++ r → k < s.length ∧ blB (s[k]?.getD 32) = false ∧ ∃ (t : api_Token), R18_one s k = some (t, true) ∧ t.Kind ≠ 3 ∧ t.To = ((k + w.length : Nat) : Int)) (hpos : 1 ≤ w.length) (h : Ai r) : Ai (w ++ r) := fun s k toks hs hk hd ht => by
  obtain ⟨q1, hbl, t, ho, hk3, hto⟩ := hw s k hs hd
  obtain ⟨d1, d2⟩ := drop_app hd
  rw [getE q1, Option.getD_some] at hbl
  obtain ⟨tk', k', g1, g2, g3, g4⟩ := h s (k + w.length) (toks ++ [t]) hs (d2 hk) d1 (by simp; omega)
  refine ⟨tk', k', ?_, g2, g3, g4⟩
  have e1 : ((k : Int) == (s.length : Int)) = false := beq_eq_false_iff_ne.2 (by omega)
  have e3 : (t.Kind == 3) = false := beq_eq_false_iff_ne.2 hk3
  rw [R18_Tokens_L2, blanks_stay s k q1 hbl]
  simp only [bind_some', e1, Bool.false_eq_true, if_false, ho, Bool.not_true]
  rw [appL_ok (by simp; omega) (by simp; omega)]
  simp only [bind_some', e3, Bool.false_eq_true, if_false, hto]
  exact g1
theorem Ai.close {r : List UInt8} (h : Ao r) : Ai (125 :: 125 :: r) := fun s k toks hs hk hd ht => by
  obtain ⟨q1, e1, d1⟩ := drop_head hd
  obtain ⟨q2, e2, d2⟩ := drop_head d1
  have hbg : R01_Begins s [125, 125] k = some true := by rw [rBegins2 125 125 s k q1 hs, hd]; rfl
  have ew : wr ((k : Int) + 2) = ((k + 2 : Nat) : Int) := by rw [wr_in (by omega) (by omega)]; rfl
  have en : ((k : Int) == (s.length : Int)) = false := beq_eq_false_iff_ne.2 (by omega)
  refine ⟨toks ++ [api_Token.mk 3 [] 0 (k : Int) ((k + 2 : Nat) : Int)], k + 2, ?_, by omega, by simp; omega, by rw [show k + 2 = k + 1 + 1 from rfl, d2]; exact h⟩
  rw [R18_Tokens_L2, blanks_stay s k q1 (by rw [e1]; rfl)]
  simp only [bind_some', en, Bool.false_eq_true, if_false]
  rw [R18_one]
  simp only [idx_nat, getE q1, bind_some', hbg, if_true, Bool.not_true, Bool.false_eq_true, if_false, ew]
  rw [appL_ok (by simp; omega) (by simp; omega)]
  rfl
end Go.Proofs.Ytlhjieapkcnghaa
end

section
namespace Go.Proofs.Ytlhjieapkcnghaa
open Go.RowKit

/-- The words of an action. -/
def wordsW (k : Int) (s : List UInt8) : List UInt8 :=
  if k == 9 then [] else if k == 13 then ([117, 115, 101, 32] ++ s) ++ [32] else if k == 10 then [105, 102, 32] else if k == 11 then ([101, 97, 99, 104, 32] ++ s) ++ [32, 105, 110, 32] else ([108, 101, 116, 32] ++ s) ++ [32, 61, 32]
noncomputable def actW (k : Int) (s : List UInt8) (a : List api_Node) : List UInt8 := ([123, 123, 32] ++ wordsW k s) ++ (headW a ++ [32, 125, 125])
mutual
noncomputable def stmtW : api_Node → List UInt8
  | ⟨k, s, t, _, a, b, c⟩ =>
    if k == 8 then t else
    if k == 9 || k == 13 then actW k s a else
    actW k s a ++ (blockW b ++ ((if zl c then [] else [123, 123, 32, 101, 108, 115, 101, 32, 125, 125] ++ blockW c) ++ [123, 123, 32, 101, 110, 100, 32, 125, 125]))
noncomputable def blockW : List api_Node → List UInt8
  | [] => []
  | x :: r => stmtW x ++ blockW r
end
theorem stmtW_eq (x : api_Node) : stmtW x =
    if x.Kind == 8 then x.Text else
    if x.Kind == 9 || x.Kind == 13 then actW x.Kind x.Name x.L else
    actW x.Kind x.Name x.L ++ (blockW x.Then ++ ((if zl x.Else then [] else [123, 123, 32, 101, 108, 115, 101, 32, 125, 125] ++ blockW x.Else) ++ [123, 123, 32, 101, 110, 100, 32, 125, 125])) := by cases x; rw [stmtW]
theorem putAct (n : Nat) (hn : n ≤ 900000000) (w : List UInt8) (y : api_Node) (hy : nn y ≤ n) (ho : allN okT y) (he : exprP y = true) (f : Bool) (acc : List Int) (hr : acc.length + (([123, 123, 32] ++ w) ++ (exprW y ++ [32, 125, 125])).length ≤ room) :
    Puts (([123, 123, 32] ++ w) ++ (exprW y ++ [32, 125, 125])) acc (tree_printer_action_2 w y f acc) := by
  simp only [List.length_append, List.length_cons, List.length_nil] at hr
  rw [tree_printer_action_2]
  have p1 := put [[123, 123, 32], w] (by simp) f acc (by simp; omega)
  simp only [List.flatten_cons, List.flatten_nil, List.append_nil] at p1
  refine p1.seq fun f' => ?_
  refine (putExpr n y f' _ hn hy ho he (by simp only [List.length_append, s2b_len, List.length_cons, List.length_nil]; omega)).seq fun f'' => ?_
  have p3 := put [[32, 125, 125]] (by simp) f'' (acc ++ s2b ([123, 123, 32] ++ w) ++ s2b (exprW y)) (by simp only [List.length_append, s2b_len, List.length_cons, List.length_nil, List.flatten_cons, List.flatten_nil]; omega)
  simp only [List.flatten_cons, List.flatten_nil, List.append_nil] at p3
  exact p3.ret
/-- What one statement's round does: how it goes on. -/
theorem putStmt (n : Nat) (hn : n ≤ 800000000) (x : api_Node) (hx : nn x ≤ n + 1) (ho : allN okT x) (hs : stmtP x = true) (f : Bool) (acc : List Int) (hr : acc.length + (stmtW x).length ≤ room)
    (ih : ∀ (l : List api_Node) (b : Bool) (f : Bool) (acc : List Int), nns l ≤ n → allL okT l → blockP l b = true → acc.length + (blockW l).length ≤ room → Puts (blockW l) acc (tree_printer_block_2 l f acc))
    (g : Bool → List Int → Option (Bool × List Int)) {w : List UInt8} (k : ∀ f, Puts w (acc ++ s2b (stmtW x)) (g f (acc ++ s2b (stmtW x)))) :
    Puts (stmtW x ++ w) acc (( if (x.Kind == 8) then
        tree_printer_put_2 [x.Text] f acc >>= fun x6 =>
        some (.inr (x6.1, x6.2))
      else
        if (x.Kind == 9) then
          idx x.L 0 >>= fun x7 =>
          tree_printer_action_2 [] x7 f acc >>= fun x8 =>
          some (.inr (x8.1, x8.2))
        else
          if (x.Kind == 13) then
            need ([117, 115, 101, 32].length + x.Name.length ≤ 9223372036854775807) >>= fun _ =>
            need (([117, 115, 101, 32] ++ x.Name).length + [32].length ≤ 9223372036854775807) >>= fun _ =>
            idx x.L 0 >>= fun x9 =>
            tree_printer_action_2 (([117, 115, 101, 32] ++ x.Name) ++ [32]) x9 f acc >>= fun x10 =>
            some (.inr (x10.1, x10.2))
          else
            if (x.Kind == 10) then
              idx x.L 0 >>= fun x11 =>
              tree_printer_action_2 [105, 102, 32] x11 f acc >>= fun x12 =>
              some (.inl (x12.1, x12.2))
            else
              if (x.Kind == 11) then
                need ([101, 97, 99, 104, 32].length + x.Name.length ≤ 9223372036854775807) >>= fun _ =>
                need (([101, 97, 99, 104, 32] ++ x.Name).length + [32, 105, 110, 32].length ≤ 9223372036854775807) >>= fun _ =>
                idx x.L 0 >>= fun x13 =>
                tree_printer_action_2 (([101, 97, 99, 104, 32] ++ x.Name) ++ [32, 105, 110, 32]) x13 f acc >>= fun x14 =>
                some (.inl (x14.1, x14.2))
              else
                if (x.Kind == 12) then
                  need ([108, 101, 116, 32].length + x.Name.length ≤ 9223372036854775807) >>= fun _ =>
                  need (([108, 101, 116, 32] ++ x.Name).length + [32, 61, 32].length ≤ 9223372036854775807) >>= fun _ =>
                  idx x.L 0 >>= fun x15 =>
                  tree_printer_action_2 (([108, 101, 116, 32] ++ x.Name) ++ [32, 61, 32]) x15 f acc >>= fun x16 =>
                  some (.inl (x16.1, x16.2))
                else
                  some (.inl (f, acc)) : Option ((Bool × (List Int)) ⊕ (Bool × (List Int)))) >>= fun o3 =>
    match o3 with
    | .inl y4 =>
      tree_printer_block_2 x.Then y4.1 y4.2 >>= fun x17 =>
      ( if (decide ((x.Else.length : Int) > 0)) then
          tree_printer_put_2 ([[123, 123, 32, 101, 108, 115, 101, 32, 125, 125]]) x17.1 x17.2 >>= fun x19 =>
          tree_printer_block_2 x.Else x19.1 x19.2 >>= fun x20 =>
          some (x20.1, x20.2)
        else
          some (x17.1, x17.2) : Option ((Bool × (List Int)))) >>= fun o18 =>
      tree_printer_put_2 ([[123, 123, 32, 101, 110, 100, 32, 125, 125]]) o18.1 o18.2 >>= fun x21 =>
      g x21.1 x21.2
    | .inr y5 =>
      g y5.1 y5.2) := by
  rw [nn_eq] at hx
  obtain ⟨hq, ho1, ho2, ho3⟩ := (allN_eq okT x).1 ho
  have hnm := hq.nm
  by_cases k8 : x.Kind = 8
  · rw [stmtW_eq] at hr k ⊢
    simp only [k8, beq_self_eq_true, if_true] at hr k ⊢
    have p1 := put [x.Text] (by simp) f acc (by simpa using hr)
    simp only [List.flatten_cons, List.flatten_nil, List.append_nil] at p1
    obtain ⟨f', hf⟩ := p1
    obtain ⟨f'', hg⟩ := k f'
    refine ⟨f'', ?_⟩
    rw [hf]
    simp only [bind_some', hg, s2b_app, List.append_assoc]
  have b8 : (x.Kind == 8) = false := beq_eq_false_iff_ne.2 k8
  rw [stmtP_eq] at hs
  simp only [b8, Bool.false_eq_true, if_false] at hs
  -- the one expression
  have hone : ∃ y, x.L = [y] ∧ exprP y = true := by
    have : (x.L.length == 1 && exprsP x.L) = true := by
      revert hs
      generalize (x.L.length == 1 && exprsP x.L) = b
      cases b with
      | true => intro _; rfl
      | false =>
        cases (x.Kind == 9) <;> cases (x.Kind == 10) <;> cases (x.Kind == 11 || x.Kind == 12) <;> cases (x.Kind == 13) <;> cases nameP x.Name <;> intro h <;> first | cases h | simp at h
    rw [Bool.and_eq_true] at this
    obtain ⟨y, hy⟩ := List.length_eq_one_iff.1 (by simpa using this.1 : x.L.length = 1)
    refine ⟨y, hy, ?_⟩
    have h2 := this.2
    rw [hy, exprsP, Bool.and_eq_true] at h2
    exact h2.1
  obtain ⟨y, hy, hye⟩ := hone
  have hy1 : nn y ≤ n := by have := nns_mem (show y ∈ x.L by rw [hy]; simp); omega
  have hy2 : allN okT y := allL_mem (show y ∈ x.L by rw [hy]; simp) ho1
  have hidx : ∀ {β : Type} (g : api_Node → Option β), (idx x.L 0 >>= g) = g y := fun g => by rw [hy]; rfl
  have hact : ∀ k, actW k x.Name x.L = ([123, 123, 32] ++ wordsW k x.Name) ++ (exprW y ++ [32, 125, 125]) := fun k => by rw [actW, hy, headW]
  have act : acc.length + (actW x.Kind x.Name x.L).length ≤ room → ∃ f', tree_printer_action_2 (wordsW x.Kind x.Name) y f acc = some (f', acc ++ s2b (actW x.Kind x.Name x.L)) := fun h => by
    rw [hact] at h ⊢
    exact putAct n (by omega) _ y hy1 hy2 hye f acc h
  rw [stmtW_eq] at hr k ⊢
  simp only [b8, Bool.false_eq_true, if_false, hidx] at hr k ⊢
  have n1 : need ([117, 115, 101, 32].length + x.Name.length ≤ 9223372036854775807) = some () := need_ok (by simp; omega)
  have n2 : need (([117, 115, 101, 32] ++ x.Name).length + [32].length ≤ 9223372036854775807) = some () := need_ok (by simp; omega)
  have n3 : need ([101, 97, 99, 104, 32].length + x.Name.length ≤ 9223372036854775807) = some () := need_ok (by simp; omega)
  have n4 : need (([101, 97, 99, 104, 32] ++ x.Name).length + [32, 105, 110, 32].length ≤ 9223372036854775807) = some () := need_ok (by simp; omega)
  have n5 : need ([108, 101, 116, 32].length + x.Name.length ≤ 9223372036854775807) = some () := need_ok (by simp; omega)
  have n6 : need (([108, 101, 116, 32] ++ x.Name).length + [32, 61, 32].length ≤ 9223372036854775807) = some () := need_ok (by simp; omega)
  simp only [n1, n2, n3, n4, n5, n6, bind_some']
  by_cases k9 : x.Kind = 9
  · simp only [k9, beq_self_eq_true, if_true, Bool.true_or] at hr k act ⊢
    obtain ⟨f', hf⟩ := act hr
    have ew : wordsW 9 x.Name = [] := rfl
    rw [ew] at hf
    obtain ⟨f'', hg⟩ := k f'
    refine ⟨f'', ?_⟩
    rw [hf]
    simp only [bind_some', hg, s2b_app, List.append_assoc]
  have b9 : (x.Kind == 9) = false := beq_eq_false_iff_ne.2 k9
  simp only [b9, Bool.false_eq_true, if_false, Bool.false_or] at hr k hs ⊢
  by_cases k13 : x.Kind = 13
  · simp only [k13, beq_self_eq_true, if_true] at hr k act ⊢
    obtain ⟨f', hf⟩ := act hr
    have ew : wordsW 13 x.Name = ([117, 115, 101, 32] ++ x.Name) ++ [32] := rfl
    rw [ew] at hf
    obtain ⟨f'', hg⟩ := k f'
    refine ⟨f'', ?_⟩
    rw [hf]
    simp only [bind_some', hg, s2b_app, List.append_assoc]
  have b13 : (x.Kind == 13) = false := beq_eq_false_iff_ne.2 k13
  simp only [b13, Bool.false_eq_true, if_false] at hr k hs ⊢
  -- blocks
  have hbl : blockP x.Then true = true ∧ (zl x.Else = false → blockP x.Else true = true) ∧ (x.Kind = 10 ∨ x.Kind = 11 ∨ x.Kind = 12) := by
    by_cases k10 : x.Kind = 10
    · simp only [k10, beq_self_eq_true, if_true, Bool.and_eq_true] at hs
      exact ⟨hs.2.1.1, fun _ => hs.2.1.2, .inl k10⟩
    · have b10 : (x.Kind == 10) = false := beq_eq_false_iff_ne.2 k10
      simp only [b10, Bool.false_eq_true, if_false] at hs
      cases h11 : (x.Kind == 11 || x.Kind == 12) with
      | false => rw [h11] at hs; cases hs
      | true =>
        rw [h11] at hs
        simp only [if_true, Bool.and_eq_true] at hs
        refine ⟨hs.2.2.1, fun hz => ?_, .inr (by simpa using h11)⟩
        have := hs.2.2.2.2.2
        rw [hz] at this; cases this
  obtain ⟨hb1, hb2, hk⟩ := hbl
  simp only [List.length_append, List.length_cons, List.length_nil] at hr
  obtain ⟨f1, hf1⟩ := act (by omega)
  have e1 : ∀ {β : Type} (h : (Bool × List Int) ⊕ (Bool × List Int) → Option β), ((if (x.Kind == 10) = true then tree_printer_action_2 [105, 102, 32] y f acc >>= fun x12 => some (.inl (x12.1, x12.2)) else
      if (x.Kind == 11) = true then tree_printer_action_2 (([101, 97, 99, 104, 32] ++ x.Name) ++ [32, 105, 110, 32]) y f acc >>= fun x14 => some (.inl (x14.1, x14.2)) else
      if (x.Kind == 12) = true then tree_printer_action_2 (([108, 101, 116, 32] ++ x.Name) ++ [32, 61, 32]) y f acc >>= fun x16 => some (.inl (x16.1, x16.2)) else some (.inl (f, acc)) : Option ((Bool × List Int) ⊕ (Bool × List Int))) >>= h) =
      h (.inl (f1, acc ++ s2b (actW x.Kind x.Name x.L))) := fun h => by
    rcases hk with hk | hk | hk <;> rw [hk] at hf1 ⊢
    · have ew : wordsW 10 x.Name = [105, 102, 32] := rfl
      rw [ew] at hf1
      rw [if_pos (by rfl), hf1]; rfl
    · have ew : wordsW 11 x.Name = ([101, 97, 99, 104, 32] ++ x.Name) ++ [32, 105, 110, 32] := rfl
      rw [ew] at hf1
      rw [if_neg (by decide), if_pos (by rfl), hf1]; rfl
    · have ew : wordsW 12 x.Name = ([108, 101, 116, 32] ++ x.Name) ++ [32, 61, 32] := rfl
      rw [ew] at hf1
      rw [if_neg (by decide), if_neg (by decide), if_pos (by rfl), hf1]; rfl
  rw [e1]
  simp only
  rw [List.append_assoc, List.append_assoc]
  refine Puts.seq (w1 := actW x.Kind x.Name x.L) (g := fun p => tree_printer_block_2 x.Then p.1 p.2 >>= _) ⟨f1, rfl⟩ fun f2 => ?_
  refine (ih x.Then true f2 _ (by omega) ho2 hb1 (by simp only [List.length_append, s2b_len]; omega)).seq fun f3 => ?_
  rw [List.append_assoc]
  refine Puts.seq (w1 := if zl x.Else = true then [] else [123, 123, 32, 101, 108, 115, 101, 32, 125, 125] ++ blockW x.Else) (g := fun o18 => tree_printer_put_2 ([[123, 123, 32, 101, 110, 100, 32, 125, 125]]) o18.1 o18.2 >>= fun x21 => g x21.1 x21.2) ?_ fun f4 => ?_
  · rw [gI]
    cases hz : zl x.Else with
    | true => exact ⟨f3, by simp [s2b]⟩
    | false =>
      rw [hz] at hr
      simp only [Bool.false_eq_true, if_false, List.length_append, List.length_cons, List.length_nil] at hr
      simp only [Bool.not_false, if_true, Bool.false_eq_true, if_false]
      have p1 := put [[123, 123, 32, 101, 108, 115, 101, 32, 125, 125]] (by simp) f3 (acc ++ s2b (actW x.Kind x.Name x.L) ++ s2b (blockW x.Then)) (by simp only [List.length_append, s2b_len, List.length_cons, List.length_nil, List.flatten_cons, List.flatten_nil]; omega)
      simp only [List.flatten_cons, List.flatten_nil, List.append_nil] at p1
      refine p1.seq fun f5 => ?_
      exact (ih x.Else true f5 _ (by omega) ho3 (hb2 hz) (by simp only [List.length_append, s2b_len, List.length_cons, List.length_nil]; omega)).ret
  · have p1 := put [[123, 123, 32, 101, 110, 100, 32, 125, 125]] (by simp) f4 (acc ++ s2b (actW x.Kind x.Name x.L) ++ s2b (blockW x.Then) ++ s2b (if zl x.Else = true then [] else [123, 123, 32, 101, 108, 115, 101, 32, 125, 125] ++ blockW x.Else)) (by
      simp only [List.length_append, s2b_len, List.length_cons, List.length_nil, List.flatten_cons, List.flatten_nil]
      revert hr
      cases zl x.Else <;> intro hr <;> simp only [Bool.false_eq_true, if_false, if_true, List.length_append, List.length_cons, List.length_nil] at hr ⊢ <;> omega)
    simp only [List.flatten_cons, List.flatten_nil, List.append_nil] at p1
    refine p1.seq fun f5 => ?_
    have := k f5
    simp only [s2b_app, List.append_assoc] at this ⊢
    exact this
theorem putBlock : ∀ n (l : List api_Node) (b : Bool) (f : Bool) (acc : List Int), n ≤ 800000000 → nns l ≤ n → allL okT l → blockP l b = true → acc.length + (blockW l).length ≤ room → Puts (blockW l) acc (tree_printer_block_2 l f acc) := by
  intro n
  induction n with
  | zero =>
    intro l b f acc _ h
    have hl : l = [] := List.eq_nil_of_length_eq_zero (by have := nns_len l; omega)
    subst hl
    intro _ _ _
    rw [tree_printer_block_2, tree_printer_block_2_L1]
    exact ⟨f, by simp [blockW, s2b]⟩
  | succ n ih =>
    intro l b f acc hn h ho hb hr
    have hl := nns_len l
    have key : ∀ k, k ≤ l.length → blockP (l.drop k) b = true → ∀ f acc, acc.length + (blockW (l.drop k)).length ≤ room → Puts (blockW (l.drop k)) acc (tree_printer_block_2_L1 l k f acc) := by
      refine upto ?_ fun k hk ihk => ?_
      · intro _ f acc _
        rw [tree_printer_block_2_L1, List.drop_length]
        exact ⟨f, by simp [blockW, s2b]⟩
      · intro hb f acc hr
        have hx := nns_mem (List.getElem_mem hk)
        have hxo := allL_mem (List.getElem_mem hk) ho
        rw [dropE hk, blockP, Bool.and_eq_true, Bool.and_eq_true] at hb
        rw [dropE hk, blockW, List.length_append] at hr
        rw [dropE hk, blockW, tree_printer_block_2_L1, wr_succ (by omega)]
        simp only [ltI, hk, decide_true, if_true, idx_nat, getE hk, bind_some']
        exact putStmt n (by omega) l[k] (by omega) hxo hb.1 f acc (by omega) (fun l b f acc => ih l b f acc (by omega)) (fun f a => tree_printer_block_2_L1 l ((k + 1 : Nat) : Int) f a) fun f' => ihk hb.2.2 f' _ (by rw [List.length_append, s2b_len]; omega)
    obtain ⟨f', hf⟩ := key 0 (by omega) (by rw [List.drop_zero]; exact hb) f acc (by rw [List.drop_zero]; exact hr)
    rw [List.drop_zero] at hf
    rw [tree_printer_block_2, show (0 : Int) = ((0 : Nat) : Int) from rfl, hf]
    exact ⟨f', rfl⟩
theorem putTop (n : Nat) (hn : n ≤ 800000000) (l : List api_Node) (b : Bool) (h : nns l ≤ n) (ho : allL okT l) (hb : blockP l b = true) (hr : (blockW l).length ≤ room) : Puts (blockW l) [] (tree_printer_block l false) := by
  have hl := nns_len l
  have key : ∀ k, k ≤ l.length → blockP (l.drop k) b = true → ∀ f acc, acc.length + (blockW (l.drop k)).length ≤ room → Puts (blockW (l.drop k)) acc (tree_printer_block_L1 l k f acc) := by
    refine upto ?_ fun k hk ihk => ?_
    · intro _ f acc _
      rw [tree_printer_block_L1, List.drop_length]
      exact ⟨f, by simp [blockW, s2b]⟩
    · intro hb f acc hr
      have hx := nns_mem (List.getElem_mem hk)
      have hxo := allL_mem (List.getElem_mem hk) ho
      rw [dropE hk, blockP, Bool.and_eq_true, Bool.and_eq_true] at hb
      rw [dropE hk, blockW, List.length_append] at hr
      rw [dropE hk, blockW, tree_printer_block_L1, wr_succ (by omega)]
      simp only [ltI, hk, decide_true, if_true, idx_nat, getE hk, bind_some']
      exact putStmt n (by omega) l[k] (by omega) hxo hb.1 f acc (by omega) (fun l b f acc h1 => putBlock n l b f acc hn h1) (fun f a => tree_printer_block_L1 l ((k + 1 : Nat) : Int) f a) fun f' => ihk hb.2.2 f' _ (by rw [List.length_append, s2b_len]; omega)
  obtain ⟨f', hf⟩ := key 0 (by omega) (by rw [List.drop_zero]; exact hb) false [] (by rw [List.drop_zero]; simpa using hr)
  rw [List.drop_zero] at hf
  rw [tree_printer_block, show (0 : Int) = ((0 : Nat) : Int) from rfl, hf]
  exact ⟨f', rfl⟩
/-- What Print hands back. -/
noncomputable def printP (l : List api_Node) : List UInt8 × Bool := if isP l = true then (if (blockW l).length ≤ 65536 then (blockW l, true) else ([], false)) else ([], false)
theorem tPrint (l : List api_Node) (h : nns l ≤ 800000000) (ho : allL okT l) (hr : isP l = true → (blockW l).length ≤ room) : tree_Print l = some (printP l) := by
  rw [tree_Print, tIs l h ho, printP]
  cases hi : isP l with
  | false => rfl
  | true =>
    have hb : blockP l false = true := by
      have := hi
      rw [isP, Bool.and_eq_true, Bool.and_eq_true] at this
      exact this.2.2
    obtain ⟨f, hf⟩ := putTop 800000000 (by omega) l false h ho hb (hr hi)
    have e : decide ((((s2b (blockW l)).length : Nat) : Int) > 65536) = !decide ((blockW l).length ≤ 65536) := by
      rw [s2b_len]
      by_cases h1 : (blockW l).length ≤ 65536
      · rw [decide_eq_true h1, decide_eq_false (by omega)]; rfl
      · rw [decide_eq_false h1, decide_eq_true (by omega)]; rfl
    simp only [bind_some', Bool.not_true, Bool.false_eq_true, if_false, hf, List.nil_append, strings_Builder_Len_2, e, strings_Builder_String_2, b2s_s2b, if_true]
    by_cases h1 : (blockW l).length ≤ 65536
    · rw [decide_eq_true h1, if_pos h1]; rfl
    · rw [decide_eq_false h1, if_neg h1]; rfl
theorem okT_of {x : api_Node} (h1 : x.Name.length ≤ 1000000) (h2 : x.Text.length ≤ 1000000) (h3 : x.Kind ≠ 1) (h4 : -9223372036854775808 ≤ x.N) (h5 : x.N ≤ 9223372036854775807) : okT x := ⟨h1, h2, ⟨h4, h5⟩, fun h => absurd h h3⟩
def ex1 : List api_Node := [(api_Node.mk 9 [] [] 0 ([(api_Node.mk 5 [108, 97, 98, 101, 108, 115] [] 0 ([(api_Node.mk 4 [97] [] 0 [] [] [])]) [] [])]) [] [])]
def ex2 : List api_Node := [(api_Node.mk 10 [] [] 0 ([(api_Node.mk 3 [] [] 1 [] [] [])]) ([(api_Node.mk 8 [] [120] 0 [] [] [])]) [])]
theorem awake19 : nunciolaw19_awake = some true := by
  have o1 : allL okT ex1 := by
    simp only [ex1, allL, allN, and_true]
    refine ⟨?_, ?_, ?_⟩ <;> exact okT_of (by simp) (by simp) (by decide) (by decide) (by decide)
  have o2 : allL okT ex2 := by
    simp only [ex2, allL, allN, and_true]
    refine ⟨?_, ?_, ?_⟩ <;> exact okT_of (by simp) (by simp) (by decide) (by decide) (by decide)
  have i1 : isP ex1 = true := by simp [isP, ex1, dps, dp, nns, nn, blockP, stmtP_eq, exprsP, exprP_eq, badB, zl, wordP, nameP, kws, headB, letB, smallB, digB]
  have i2 : isP ex2 = true := by simp [isP, ex2, dps, dp, nns, nn, blockP, stmtP_eq, exprsP, exprP_eq, badB, zl, wordP, nameP, kws, headB, letB, smallB, digB, hasB, litB, endB]
  have w1 : blockW ex1 = [123, 123, 32, 97, 46, 108, 97, 98, 101, 108, 115, 32, 125, 125] := by simp [ex1, blockW, stmtW_eq, actW, wordsW, headW, exprW_eq]
  have w2 : blockW ex2 = [123, 123, 32, 105, 102, 32, 116, 114, 117, 101, 32, 125, 125, 120, 123, 123, 32, 101, 110, 100, 32, 125, 125] := by simp [ex2, blockW, stmtW_eq, actW, wordsW, headW, exprW_eq, zl]
  have p1 := tPrint ex1 (by simp [ex1, nns, nn]) o1 (fun _ => by rw [w1]; decide)
  have p2 := tPrint ex2 (by simp [ex2, nns, nn]) o2 (fun _ => by rw [w2]; decide)
  rw [printP, if_pos i1, w1, if_pos (by decide)] at p1
  rw [printP, if_pos i2, w2, if_pos (by decide)] at p2
  unfold nunciolaw19_awake
  show (tree_Print ex1 >>= fun x1 => tree_Print ex2 >>= fun x2 => _) = _
  rw [p1, p2]
  rfl
end Go.Proofs.Ytlhjieapkcnghaa
end

section
namespace Go.Proofs.Ytlhjieapkcnghaa
open Go.RowKit

def rngN (x : api_Node) : Prop := -9223372036854775808 ≤ x.N ∧ x.N ≤ 9223372036854775807
def KeepsN (g : List api_Node → Nat → List api_Node × Nat) : Prop := ∀ (l : List api_Node) (n : Nat), allL rngN l → allL rngN (g l n).1
theorem lightG_rng {g : List api_Node → Nat → List api_Node × Nat} (hg : KeepsN g) : KeepsN (lightG g) := fun l => by
  induction l with
  | nil => intro n _; simp [lightG, allL]
  | cons x r ih =>
    intro n h
    rw [allL, allN_eq] at h
    obtain ⟨⟨hq, h1, h2, h3⟩, h4⟩ := h
    unfold lightG
    split
    · simp [allL]
    · rw [allL, allN_eq]
      exact ⟨⟨hq, hg _ _ h1, hg _ _ h2, hg _ _ h3⟩, ih _ h4⟩
theorem lightP_rng : ∀ d, KeepsN (lightP d)
  | 0 => fun l n _ => by simp [lightP, allL]
  | d + 1 => lightG_rng (lightP_rng d)
theorem okT_light (x : api_Node) (h1 : x.Name.length ≤ 40) (h2 : x.Text.length ≤ 60) (h3 : rngN x) : okT x := by
  refine ⟨by omega, by omega, h3, fun _ => ?_⟩
  obtain ⟨q, q1, q2, -⟩ := quoteBoth x.Text (by omega)
  exact ⟨q, q1, q2⟩
theorem light_ok (l : List api_Node) (h : allL rngN l) : allL okT (lightP 15 l 60).1 := by
  obtain ⟨h1, -, h3⟩ := light_small l
  exact sms_all okT_light 60 _ h1 h3 (lightP_rng 15 l 60 h)
end Go.Proofs.Ytlhjieapkcnghaa
end

section
namespace Go.Proofs.Ytlhjieapkcnghaa
open Go.RowKit

theorem eqS (a c : UInt8) : (((a.toNat : Nat) : Int) == ((c.toNat : Nat) : Int)) = decide (c = a) := by
  rw [eqN]
  by_cases h : c = a
  · subst h; simp
  · rw [decide_eq_false h, beq_eq_false_iff_ne]
    intro q
    exact h (UInt8.toNat_inj.1 q.symm)
theorem sgStep (s : List UInt8) (p : Int) (c : UInt8) (j : Nat) (hj : j < 5) : R18_one_L1 s p c (j : Int) =
    if c = ([46, 40, 41, 44, 61] : List UInt8)[j] then some (.inr (((7 + j : Nat) : Int), ((7 + j : Nat) : Int))) else R18_one_L1 s p c ((j + 1 : Nat) : Int) := by
  have e1 : decide ((j : Int) < ((([46, 40, 41, 44, 61] : List Nat).length : Nat) : Int)) = true := decide_eq_true (by simp; omega)
  have e2 : ([7, 8, 9, 10, 11] : List Int)[j]? = some ((7 + j : Nat) : Int) := by
    obtain rfl | rfl | rfl | rfl | rfl : j = 0 ∨ j = 1 ∨ j = 2 ∨ j = 3 ∨ j = 4 := by omega
    all_goals rfl
  rw [R18_one_L1, e1, wr_succ (by omega)]
  simp only [if_true, idx_nat, getE (show j < ([46, 40, 41, 44, 61] : List UInt8).length from hj), bind_some', eqS, e2]
  by_cases h : c = ([46, 40, 41, 44, 61] : List UInt8)[j]
  · rw [if_pos h, decide_eq_true h]; rfl
  · rw [if_neg h, decide_eq_false h]; rfl
/-- Which sign it is. -/
def sgP (c : UInt8) : Option Int := if c = 46 then some 7 else if c = 40 then some 8 else if c = 41 then some 9 else if c = 44 then some 10 else if c = 61 then some 11 else none
theorem rSigns (s : List UInt8) (p : Int) (c : UInt8) : R18_one_L1 s p c 0 = some (match sgP c with | some k => .inr (k, k) | none => .inl ()) := by
  have h5 : R18_one_L1 s p c ((5 : Nat) : Int) = some (.inl ()) := by rw [R18_one_L1]; rfl
  rw [show (0 : Int) = ((0 : Nat) : Int) from rfl, sgStep s p c 0 (by omega), sgStep s p c 1 (by omega), sgStep s p c 2 (by omega), sgStep s p c 3 (by omega), sgStep s p c 4 (by omega), h5, sgP]
  simp only [List.getElem_cons_zero, List.getElem_cons_succ]
  by_cases a : c = 46
  · subst a; rfl
  by_cases b : c = 40
  · subst b; rfl
  by_cases d : c = 41
  · subst d; rfl
  by_cases e : c = 44
  · subst e; rfl
  by_cases f : c = 61
  · subst f; rfl
  simp only [a, b, d, e, f, if_false]
/-- What 'one' does at a place where the action does not end. -/
theorem oneAt {s : List UInt8} {k : Nat} {c : UInt8} {r : List UInt8} (hs : s.length ≤ 65536) (h : s.drop k = c :: r) (h125 : c ≠ 125) (o : api_Token × Bool)
    (hk : (match sgP c with
      | some j => some ((api_Token.mk j [] 0 k ((k + 1 : Nat) : Int)), true)
      | none =>
        if c = 34 then R18_quoted s k >>= fun x8 => some ((api_Token.mk 5 x8.1 0 k x8.2), (decide (x8.2 > 0)))
        else if smallB c = true then
          (R18_one_L2 s k ((k + 1 : Nat) : Int)) >>= fun o10 => cutL s k o10 >>= fun x17 => R18_Word x17 >>= fun x19 => some ((api_Token.mk 4 x17 0 k o10), x19)
        else if c = 45 ∨ digB c = true then
          (R18_one_L3 s k ((k + 1 : Nat) : Int)) >>= fun o22 => cutL s k o22 >>= fun x26 => R01_Number x26 >>= fun x27 => some ((api_Token.mk 6 [] x27.1 k o22), x27.2)
        else some ((api_Token.mk 0 [] 0 k ((k + 1 : Nat) : Int)), false)) = some o) : R18_one s k = some o := by
  obtain ⟨q1, e1, -⟩ := drop_head h
  have hbg : R01_Begins s [125, 125] k = some false := by
    rw [rBegins2 125 125 s k q1 hs, h]
    have : (c == 125) = false := beq_eq_false_iff_ne.2 h125
    cases r with
    | nil => rfl
    | cons d r' => show some (c == 125 && d == 125) = _; rw [this]; rfl
  have e34 : (((c.toNat : Nat) : Int) == 34) = decide (c = 34) := eqC c 34 (by omega)
  have e45 : (((c.toNat : Nat) : Int) == 45) = decide (c = 45) := eqC c 45 (by omega)
  rw [R18_one]
  simp only [idx_nat, getE q1, bind_some', e1, hbg, Bool.false_eq_true, if_false, rSigns, rSmall, rDigit, e34, e45, wr_succ (by omega : k < 9223372036854775807)]
  cases hsg : sgP c with
  | some j => rw [hsg] at hk; exact hk
  | none =>
    rw [hsg] at hk
    simp only at hk ⊢
    by_cases h34 : c = 34
    · rw [if_pos h34] at hk
      rw [decide_eq_true h34, if_pos rfl]; exact hk
    rw [if_neg h34] at hk
    rw [decide_eq_false h34]
    simp only [Bool.false_eq_true, if_false]
    by_cases hsm : smallB c = true
    · rw [if_pos hsm] at hk
      rw [hsm, if_pos rfl]
      cases hL : R18_one_L2 s k ((k + 1 : Nat) : Int) with
      | none => rw [hL] at hk; cases hk
      | some v =>
        rw [hL] at hk
        simp only [bind_some'] at hk ⊢
        cases hC : cutL s k v with
        | none => rw [hC] at hk; cases hk
        | some v' => rw [hC] at hk; simp only [bind_some'] at hk ⊢; exact hk
    rw [if_neg hsm] at hk
    rw [Bool.eq_false_iff.2 hsm]
    simp only [Bool.false_eq_true, if_false]
    by_cases h45 : c = 45
    · rw [if_pos (.inl h45)] at hk
      rw [decide_eq_true h45]
      simp only [if_true, bind_some']
      exact hk
    · rw [decide_eq_false h45]
      simp only [Bool.false_eq_true, if_false, bind_some']
      by_cases hd : digB c = true
      · rw [if_pos (.inr hd)] at hk
        rw [hd, if_pos rfl]; exact hk
      · rw [if_neg (by intro q; rcases q with q | q; exact h45 q; exact hd q)] at hk
        rw [Bool.eq_false_iff.2 hd]; exact hk
theorem Ai.sign {c : UInt8} {j : Int} (hc : sgP c = some j) (hj : j ≠ 3) (hb : blB c = false) (h125 : c ≠ 125) {r : List UInt8} (h : Ai r) : Ai (c :: r) :=
  Ai.one (w := [c]) (r := r) (fun s k hs hd => by
    obtain ⟨q1, e1, -⟩ := drop_head hd
    exact ⟨q1, by rw [getE q1, Option.getD_some, e1]; exact hb, _, oneAt hs hd h125 _ (by rw [hc]), hj, rfl⟩) (by simp) h
theorem Ai.dot {r : List UInt8} (h : Ai r) : Ai (46 :: r) := Ai.sign (j := 7) (by rfl) (by decide) (by rfl) (by decide) h
theorem Ai.opn {r : List UInt8} (h : Ai r) : Ai (40 :: r) := Ai.sign (j := 8) (by rfl) (by decide) (by rfl) (by decide) h
theorem Ai.cls {r : List UInt8} (h : Ai r) : Ai (41 :: r) := Ai.sign (j := 9) (by rfl) (by decide) (by rfl) (by decide) h
theorem Ai.comma {r : List UInt8} (h : Ai r) : Ai (44 :: r) := Ai.sign (j := 10) (by rfl) (by decide) (by rfl) (by decide) h
theorem Ai.eq {r : List UInt8} (h : Ai r) : Ai (61 :: r) := Ai.sign (j := 11) (by rfl) (by decide) (by rfl) (by decide) h
/-- No letter follows. -/
def NoLet (r : List UInt8) : Prop := ∃ c r', r = c :: r' ∧ letB c = false
theorem NoLet.cons {c : UInt8} {r : List UInt8} (h : letB c = false) : NoLet (c :: r) := ⟨c, r, rfl, h⟩
theorem letOr (c : UInt8) : (R18_small (c.toNat : Int) >>= fun x13 => if x13 = true then some true else R18_digit (c.toNat : Int) >>= fun x15 => if x15 = true then some true else some ((c.toNat : Int) == 95)) = some (letB c) := by
  have e := eqN c.toNat 95
  rw [rSmall, rDigit, letB]
  simp only [bind_some', show ((95 : Nat) : Int) = 95 from rfl] at e ⊢
  rw [e]
  cases smallB c <;> cases digB c <;> rfl
theorem lettersL (s : List UInt8) (p : Int) (hs : s.length ≤ 65536) (r : List UInt8) (hr : NoLet r) : ∀ (t : List UInt8) (k : Nat), s.drop k = t ++ r → t.all letB = true → R18_one_L2 s p (k : Int) = some ((k + t.length : Nat) : Int)
  | [], k, h, _ => by
    obtain ⟨c, r', rfl, hc⟩ := hr
    obtain ⟨q1, e1, -⟩ := drop_head h
    have hl := letOr c
    rw [hc] at hl
    rw [R18_one_L2, ltI, decide_eq_true q1]
    simp only [if_true, idx_nat, getE q1, bind_some', e1]
    rw [show (R18_small (c.toNat : Int) >>= fun x13 => if x13 = true then some true else R18_digit (c.toNat : Int) >>= fun x15 => if x15 = true then some true else some ((c.toNat : Int) == 95)) = some false from hl]
    rfl
  | c :: t, k, h, ha => by
    obtain ⟨q1, e1, e2⟩ := drop_head h
    rw [List.all_cons, Bool.and_eq_true] at ha
    have hl := letOr c
    rw [ha.1] at hl
    have ih := lettersL s p hs r hr t (k + 1) e2 ha.2
    rw [R18_one_L2, ltI, decide_eq_true q1, wr_succ (by omega)]
    simp only [if_true, idx_nat, getE q1, bind_some', e1]
    rw [show (R18_small (c.toNat : Int) >>= fun x13 => if x13 = true then some true else R18_digit (c.toNat : Int) >>= fun x15 => if x15 = true then some true else some ((c.toNat : Int) == 95)) = some true from hl]
    simp only [bind_some', if_true]
    rw [ih]
    congr 2
    simp; omega
theorem digitsL (s : List UInt8) (p : Int) (hs : s.length ≤ 65536) (r : List UInt8) (hr : NoLet r) : ∀ (t : List UInt8) (k : Nat), s.drop k = t ++ r → t.all digB = true → R18_one_L3 s p (k : Int) = some ((k + t.length : Nat) : Int)
  | [], k, h, _ => by
    obtain ⟨c, r', rfl, hc⟩ := hr
    obtain ⟨q1, e1, -⟩ := drop_head h
    have hd : digB c = false := by
      rw [letB, Bool.or_eq_false_iff, Bool.or_eq_false_iff] at hc
      exact hc.2.1
    rw [R18_one_L3, ltI, decide_eq_true q1]
    simp only [if_true, idx_nat, getE q1, bind_some', e1, rDigit, hd]
    rfl
  | c :: t, k, h, ha => by
    obtain ⟨q1, e1, e2⟩ := drop_head h
    rw [List.all_cons, Bool.and_eq_true] at ha
    have ih := digitsL s p hs r hr t (k + 1) e2 ha.2
    rw [R18_one_L3, ltI, decide_eq_true q1, wr_succ (by omega)]
    simp only [if_true, idx_nat, getE q1, bind_some', e1, rDigit, ha.1]
    rw [ih]
    congr 2
    simp; omega
theorem cutW {s : List UInt8} {k : Nat} {w r : List UInt8} (h : s.drop k = w ++ r) (hk : k ≤ s.length) : cutL s k ((k + w.length : Nat) : Int) = some w := by
  have hl := congrArg List.length h
  rw [List.length_drop, List.length_append] at hl
  rw [cutL_ok (by omega) (by omega) (by omega), Int.toNat_natCast, Int.toNat_natCast, List.drop_take, h]
  have : k + w.length - k = w.length := by omega
  rw [this, List.take_left]
theorem small_props {c : UInt8} (h : smallB c = true) : blB c = false ∧ c ≠ 125 ∧ sgP c = none ∧ c ≠ 34 ∧ c ≠ 35 := by
  have h1 : 97 ≤ c.toNat ∧ c.toNat ≤ 122 := by simpa [smallB] using h
  have ne : ∀ d : UInt8, (d.toNat < 97 ∨ 122 < d.toNat) → c ≠ d := fun d hd e => by subst e; omega
  have f1 := ne 46 (by decide)
  have f2 := ne 40 (by decide)
  have f3 := ne 41 (by decide)
  have f4 := ne 44 (by decide)
  have f5 := ne 61 (by decide)
  refine ⟨?_, ne 125 (by decide), by simp [sgP, f1, f2, f3, f4, f5], ne 34 (by decide), ne 35 (by decide)⟩
  simp only [blB, Bool.or_eq_false_iff, beq_eq_false_iff_ne]
  omega
theorem word_cons {w : List UInt8} (h : wordP w = true) : ∃ c t, w = c :: t ∧ smallB c = true ∧ t.all letB = true ∧ w.length ≤ 32 := by
  rw [wordP, Bool.and_eq_true, Bool.and_eq_true, Bool.and_eq_true] at h
  obtain ⟨h1, h2, h3, h4⟩ := h
  cases w with
  | nil => cases h1
  | cons c t =>
    rw [List.all_cons, Bool.and_eq_true] at h4
    refine ⟨c, t, rfl, ?_, h4.2, of_decide_eq_true h2⟩
    rw [letSmall h4.1]
    exact h3
theorem Ai.word {w r : List UInt8} (hw : wordP w = true) (hr : NoLet r) (h : Ai r) : Ai (w ++ r) := by
  obtain ⟨c, t, rfl, hc, ht, hl⟩ := word_cons hw
  obtain ⟨p1, p2, p3, p4, -⟩ := small_props hc
  refine Ai.one (fun s k hs hd => ?_) (by simp) h
  obtain ⟨q1, e1, e2⟩ := drop_head hd
  have hcut := cutW hd (by omega)
  have hL := lettersL s k hs r hr t (k + 1) e2 ht
  have el : k + 1 + t.length = k + (c :: t).length := by simp; omega
  rw [el] at hL
  refine ⟨q1, by rw [getE q1, Option.getD_some, e1]; exact p1, api_Token.mk 4 (c :: t) 0 k ((k + (c :: t).length : Nat) : Int), oneAt hs hd p2 _ ?_, (show (4 : Int) ≠ 3 by decide), rfl⟩
  rw [p3, if_neg p4, if_pos hc, hL]
  simp only [bind_some']
  rw [hcut, bind_some', rWord (c :: t) (by omega), hw]
  rfl
theorem textL_cons (n : Int) : ∃ c t, textL n = c :: t ∧ (c = 45 ∨ digB c = true) ∧ t.all digB = true := by
  unfold textL
  split
  · exact ⟨45, _, rfl, .inl rfl, digs_all _⟩
  · have h := digs_all n.natAbs
    cases hd : digs n.natAbs with
    | nil => exact absurd hd (digs_ne _)
    | cons c t =>
      rw [hd, List.all_cons, Bool.and_eq_true] at h
      exact ⟨c, t, rfl, .inr h.1, h.2⟩
theorem num_props {c : UInt8} (h : c = 45 ∨ digB c = true) : blB c = false ∧ c ≠ 125 ∧ sgP c = none ∧ c ≠ 34 ∧ ¬ smallB c = true ∧ c ≠ 35 := by
  have h1 : c.toNat = 45 ∨ (48 ≤ c.toNat ∧ c.toNat ≤ 57) := by
    rcases h with rfl | h
    · exact .inl rfl
    · exact .inr (by simpa [digB] using h)
  have ne : ∀ d : UInt8, (d.toNat < 45 ∨ 57 < d.toNat ∨ 46 = d.toNat) → c ≠ d := fun d hd e => by subst e; omega
  have f1 := ne 46 (by decide)
  have f2 := ne 40 (by decide)
  have f3 := ne 41 (by decide)
  have f4 := ne 44 (by decide)
  have f5 := ne 61 (by decide)
  refine ⟨?_, ne 125 (by decide), by simp [sgP, f1, f2, f3, f4, f5], ne 34 (by decide), ?_, ne 35 (by decide)⟩
  · simp only [blB, Bool.or_eq_false_iff, beq_eq_false_iff_ne]
    omega
  · intro q
    have : 97 ≤ c.toNat ∧ c.toNat ≤ 122 := by simpa [smallB] using q
    omega
theorem Ai.num {n : Int} (hn : inI64 n) {r : List UInt8} (hr : NoLet r) (h : Ai r) : Ai (textL n ++ r) := by
  obtain ⟨c, t, e, hc, ht⟩ := textL_cons n
  obtain ⟨p1, p2, p3, p4, p5, -⟩ := num_props hc
  have hnum : rnumP (textL n) = (n, true) := by rw [rnumP_eq]; exact numP_text n hn
  have hlen := (textL_len n hn).2
  rw [e] at hnum hlen ⊢
  refine Ai.one (fun s k hs hd => ?_) (by simp) h
  obtain ⟨q1, e1, e2⟩ := drop_head hd
  have hcut := cutW hd (by omega)
  have hL := digitsL s k hs r hr t (k + 1) e2 ht
  have el : k + 1 + t.length = k + (c :: t).length := by simp; omega
  rw [el] at hL
  refine ⟨q1, by rw [getE q1, Option.getD_some, e1]; exact p1, api_Token.mk 6 [] n k ((k + (c :: t).length : Nat) : Int), oneAt hs hd p2 _ ?_, (show (6 : Int) ≠ 3 by decide), rfl⟩
  rw [p3, if_neg p4, if_neg p5, if_pos hc, hL]
  simp only [bind_some']
  rw [hcut, bind_some', R01_Number, need_ok (by omega), bind_some', hnum]
  rfl
theorem contI {c : UInt8} (h : contB c = true) : 128 ≤ c.toNat ∧ c.toNat < 192 := by simpa [contB] using h
/-- A rune of more than one byte stands alone. -/
theorem nextC_local (c : UInt8) (t : List UInt8) (hc : 128 ≤ c.toNat) (hg : ¬ ((nextC c t).1 = 65533 ∧ (nextC c t).2 = 1)) : ∃ w rest, c :: t = w ++ rest ∧ (nextC c t).2 = w.length ∧ 2 ≤ w.length ∧ (∀ b ∈ w, 128 ≤ b.toNat) ∧ 128 ≤ (nextC c t).1 ∧ ∀ r, nextP (w ++ r) = nextC c t := by
  have hn : ¬ c.toNat < 128 := by omega
  by_cases h2 : 192 ≤ c.toNat ∧ c.toNat < 224
  · cases t with
    | nil => exfalso; apply hg; unfold nextC; rw [if_neg hn, if_pos h2]; exact ⟨rfl, rfl⟩
    | cons c1 t =>
      by_cases hk : contB c1 = true ∧ 128 ≤ (c.toNat - 192) * 64 + (c1.toNat - 128)
      · have e : ∀ r, nextC c (c1 :: r) = ((c.toNat - 192) * 64 + (c1.toNat - 128), 2) := fun r => by unfold nextC; rw [if_neg hn, if_pos h2]; simp only; rw [if_pos hk]
        have := contI hk.1
        refine ⟨[c, c1], t, rfl, by rw [e]; rfl, by simp, ?_, by rw [e]; exact hk.2, fun r => (e r).trans (e t).symm⟩
        intro b hb
        simp at hb
        rcases hb with rfl | rfl <;> omega
      · exfalso; apply hg; unfold nextC; rw [if_neg hn, if_pos h2]; simp only; rw [if_neg hk]; exact ⟨rfl, rfl⟩
  by_cases h3 : 224 ≤ c.toNat ∧ c.toNat < 240
  · rcases t with _ | ⟨c1, _ | ⟨c2, t⟩⟩
    · exfalso; apply hg; unfold nextC; rw [if_neg hn, if_neg h2, if_pos h3]; exact ⟨rfl, rfl⟩
    · exfalso; apply hg; unfold nextC; rw [if_neg hn, if_neg h2, if_pos h3]; exact ⟨rfl, rfl⟩
    · by_cases hk : contB c1 = true ∧ contB c2 = true ∧ 2048 ≤ ((c.toNat - 224) * 64 + (c1.toNat - 128)) * 64 + (c2.toNat - 128) ∧ runeB (((c.toNat - 224) * 64 + (c1.toNat - 128)) * 64 + (c2.toNat - 128)) = true
      · have e : ∀ r, nextC c (c1 :: c2 :: r) = (((c.toNat - 224) * 64 + (c1.toNat - 128)) * 64 + (c2.toNat - 128), 3) := fun r => by unfold nextC; rw [if_neg hn, if_neg h2, if_pos h3]; simp only; rw [if_pos hk]
        have := contI hk.1
        have := contI hk.2.1
        refine ⟨[c, c1, c2], t, rfl, by rw [e]; rfl, by simp, ?_, by rw [e]; have := hk.2.2.1; simp only; omega, fun r => (e r).trans (e t).symm⟩
        intro b hb
        simp at hb
        rcases hb with rfl | rfl | rfl <;> omega
      · exfalso; apply hg; unfold nextC; rw [if_neg hn, if_neg h2, if_pos h3]; simp only; rw [if_neg hk]; exact ⟨rfl, rfl⟩
  by_cases h4 : 240 ≤ c.toNat ∧ c.toNat < 248
  · rcases t with _ | ⟨c1, _ | ⟨c2, _ | ⟨c3, t⟩⟩⟩
    · exfalso; apply hg; unfold nextC; rw [if_neg hn, if_neg h2, if_neg h3, if_pos h4]; exact ⟨rfl, rfl⟩
    · exfalso; apply hg; unfold nextC; rw [if_neg hn, if_neg h2, if_neg h3, if_pos h4]; exact ⟨rfl, rfl⟩
    · exfalso; apply hg; unfold nextC; rw [if_neg hn, if_neg h2, if_neg h3, if_pos h4]; exact ⟨rfl, rfl⟩
    · by_cases hk : contB c1 = true ∧ contB c2 = true ∧ contB c3 = true ∧ 65536 ≤ (((c.toNat - 240) * 64 + (c1.toNat - 128)) * 64 + (c2.toNat - 128)) * 64 + (c3.toNat - 128) ∧ runeB ((((c.toNat - 240) * 64 + (c1.toNat - 128)) * 64 + (c2.toNat - 128)) * 64 + (c3.toNat - 128)) = true
      · have e : ∀ r, nextC c (c1 :: c2 :: c3 :: r) = ((((c.toNat - 240) * 64 + (c1.toNat - 128)) * 64 + (c2.toNat - 128)) * 64 + (c3.toNat - 128), 4) := fun r => by unfold nextC; rw [if_neg hn, if_neg h2, if_neg h3, if_pos h4]; simp only; rw [if_pos hk]
        have := contI hk.1
        have := contI hk.2.1
        have := contI hk.2.2.1
        refine ⟨[c, c1, c2, c3], t, rfl, by rw [e]; rfl, by simp, ?_, by rw [e]; have := hk.2.2.2.1; simp only; omega, fun r => (e r).trans (e t).symm⟩
        intro b hb
        simp at hb
        rcases hb with rfl | rfl | rfl | rfl <;> omega
      · exfalso; apply hg; unfold nextC; rw [if_neg hn, if_neg h2, if_neg h3, if_pos h4]; simp only; rw [if_neg hk]; exact ⟨rfl, rfl⟩
  · exfalso; apply hg; unfold nextC; rw [if_neg hn, if_neg h2, if_neg h3, if_neg h4]; exact ⟨rfl, rfl⟩
theorem qs_app (a b : List UInt8) : qs (a ++ b) = qs a ++ qs b := by simp [qs]
theorem qs_high : ∀ w : List UInt8, (∀ b ∈ w, 128 ≤ b.toNat) → qs w = w
  | [], _ => rfl
  | c :: t, h => by
    have hc := h c (List.mem_cons_self ..)
    have e : qb c = [c] := by
      unfold qb
      have ne : ∀ d : UInt8, d.toNat < 128 → c ≠ d := fun d hd e => by subst e; omega
      rw [if_neg (ne 10 (by decide)), if_neg (ne 9 (by decide)), if_neg (by intro q; rcases q with q | q; exact ne 34 (by decide) q; exact ne 92 (by decide) q)]
    have ih := qs_high t fun b hb => h b (List.mem_cons_of_mem _ hb)
    show qb c ++ qs t = _
    rw [e, ih]; rfl
end Go.Proofs.Ytlhjieapkcnghaa
end

section
namespace Go.Proofs.Ytlhjieapkcnghaa
open Go.RowKit

theorem qEnd {s : List UInt8} {k : Nat} {r : List UInt8} (hs : s.length ≤ 65536) (h : s.drop k = 34 :: r) (acc : List UInt8) : R18_quoted_L1 s k acc = some (.inr (acc, ((k + 1 : Nat) : Int))) := by
  obtain ⟨q1, e1, -⟩ := drop_head h
  rw [R18_quoted_L1, ltI, decide_eq_true q1, wr_succ (by omega)]
  simp only [if_true, idx_nat, getE q1, bind_some', e1]
  rfl
theorem qEsc {s : List UInt8} {k : Nat} {d : UInt8} {r : List UInt8} (hs : s.length ≤ 65536) (h : s.drop k = 92 :: d :: r) (hd : d = 110 ∨ d = 116 ∨ d = 34 ∨ d = 92) (acc : List UInt8) (ha : acc.length ≤ k) :
    ∃ x, R18_quoted_L1 s k acc = R18_quoted_L1 s ((k + 2 : Nat) : Int) (acc ++ [x]) := by
  obtain ⟨q1, e1, h1⟩ := drop_head h
  obtain ⟨q2, e2, -⟩ := drop_head h1
  have e34 : (((92 : UInt8).toNat : Int) == 34) = false := by decide
  have e92 : (((92 : UInt8).toNat : Int) == 92) = true := by decide
  have en : (((k + 1 : Nat) : Int) == (s.length : Int)) = false := beq_eq_false_iff_ne.2 (by omega)
  have ew : wr ((k : Int) + 2) = ((k + 2 : Nat) : Int) := by rw [wr_in (by omega) (by omega)]; rfl
  rw [R18_quoted_L1, ltI, decide_eq_true q1, wr_succ (by omega), ew]
  simp only [if_true, idx_nat, getE q1, getE q2, bind_some', e1, e2, e34, e92, en, Bool.false_eq_true, if_false]
  rcases hd with rfl | rfl | rfl | rfl
  · refine ⟨10, ?_⟩
    rw [if_pos (by decide), need_ok (by simp; omega), bind_some']
  · refine ⟨9, ?_⟩
    rw [if_neg (by decide), if_pos (by decide), need_ok (by simp; omega), bind_some']
  · refine ⟨34, ?_⟩
    have hc : cutL s ((k + 1 : Nat) : Int) ((k + 2 : Nat) : Int) = some [34] := cutW (w := [34]) h1 (by omega)
    rw [if_neg (by decide), if_neg (by decide), if_pos (by decide), bind_some', if_pos rfl, hc, bind_some', need_ok (by simp; omega), bind_some']
  · refine ⟨92, ?_⟩
    have hc : cutL s ((k + 1 : Nat) : Int) ((k + 2 : Nat) : Int) = some [92] := cutW (w := [92]) h1 (by omega)
    rw [if_neg (by decide), if_neg (by decide), if_neg (by decide), show (((92 : UInt8).toNat : Int) == 92) = true by decide, bind_some', if_pos rfl, hc, bind_some', need_ok (by simp; omega), bind_some']
theorem qRun {s : List UInt8} {k : Nat} {c : UInt8} {w r : List UInt8} (hs : s.length ≤ 65536) (h : s.drop k = (c :: w) ++ r) (h34 : c ≠ 34) (h92 : c ≠ 92) {v : Nat} (hv : nextP ((c :: w) ++ r) = (v, (c :: w).length)) (h10 : v ≠ 10) (h13 : v ≠ 13) (hb : ¬ (v = 65533 ∧ (c :: w).length = 1)) (acc : List UInt8) (ha : acc.length ≤ k) :
    R18_quoted_L1 s k acc = R18_quoted_L1 s ((k + (c :: w).length : Nat) : Int) (acc ++ (c :: w)) := by
  obtain ⟨q1, e1, -⟩ := drop_head h
  have hl := congrArg List.length h
  rw [List.length_drop, List.length_append] at hl
  have e34 : ((c.toNat : Int) == 34) = false := (eqC c 34 (by omega)).trans (decide_eq_false h34)
  have e92 : ((c.toNat : Int) == 92) = false := (eqC c 92 (by omega)).trans (decide_eq_false h92)
  have hN := rNext s k q1 (by omega)
  rw [h, hv] at hN
  have e10 : (((v : Nat) : Int) == 10) = false := beq_eq_false_iff_ne.2 (by omega)
  have e13 : (((v : Nat) : Int) == 13) = false := beq_eq_false_iff_ne.2 (by omega)
  have hbad := badI (v, (c :: w).length)
  rw [decide_eq_false hb] at hbad
  have ew : wr ((k : Int) + (((c :: w).length : Nat) : Int)) = ((k + (c :: w).length : Nat) : Int) := by rw [wr_in (by omega) (by omega)]; rfl
  rw [R18_quoted_L1, ltI, decide_eq_true q1]
  simp only [if_true, idx_nat, getE q1, bind_some', e1, e34, e92, Bool.false_eq_true, if_false, hN, e10, e13]
  simp only at hbad
  rw [hbad]
  simp only [bind_some', Bool.false_eq_true, if_false]
  rw [ew, cutW h (by omega), bind_some', need_ok (by omega), bind_some']
/-- A quoted text is read to its end. -/
theorem qRead (s : List UInt8) (hs : s.length ≤ 65536) (r : List UInt8) : ∀ (n : Nat) (t : List UInt8) (k : Nat) (acc : List UInt8), t.length ≤ n → utfF n t = true → t.any (· == 13) = false → s.drop k = qs t ++ 34 :: r → acc.length ≤ k →
    ∃ acc', R18_quoted_L1 s k acc = some (.inr (acc', ((k + (qs t).length + 1 : Nat) : Int))) := by
  intro n
  induction n with
  | zero =>
    intro t k acc hn _ _ h _
    have : t = [] := List.eq_nil_of_length_eq_zero (by omega)
    subst this
    exact ⟨acc, qEnd hs h acc⟩
  | succ n ih =>
    intro t k acc hn hu h13 h ha
    cases t with
    | nil => exact ⟨acc, qEnd hs h acc⟩
    | cons c t =>
      rw [utfF_step n _ (List.cons_ne_nil _ _)] at hu
      have hg : ¬ ((nextP (c :: t)).1 = 65533 ∧ (nextP (c :: t)).2 = 1) := fun q => by rw [if_pos q] at hu; cases hu
      rw [if_neg hg] at hu
      by_cases hc : 128 ≤ c.toNat
      · obtain ⟨w, rest, e, e2, hw2, hwb, hv, hloc⟩ := nextC_local c t hc hg
        have hq : qs (c :: t) = w ++ qs rest := by rw [e, qs_app, qs_high w hwb]
        have hdr : (c :: t).drop (nextP (c :: t)).2 = rest := by
          show (c :: t).drop (nextC c t).2 = rest
          rw [e2, e, List.drop_left]
        rw [hdr] at hu
        rw [hq, List.append_assoc] at h
        have h13r : rest.any (· == 13) = false := by
          rw [e, List.any_append, Bool.or_eq_false_iff] at h13; exact h13.2
        cases w with
        | nil => simp at hw2
        | cons d w =>
          have hdc : d = c := by rw [List.cons_append] at e; cases e; rfl
          have hlen := congrArg List.length e
          rw [List.length_append] at hlen
          have hstep := qRun (v := (nextC c t).1) hs h (by subst hdc; intro q; subst q; revert hc; decide) (by subst hdc; intro q; subst q; revert hc; decide) (by rw [hloc, ← e2]) (by omega) (by omega) (by rw [← e2]; exact hg) acc ha
          obtain ⟨d1, -⟩ := drop_app h
          obtain ⟨acc', ha'⟩ := ih rest (k + (d :: w).length) (acc ++ (d :: w)) (by simp at hlen hn hw2 ⊢; omega) hu h13r d1 (by rw [List.length_append]; omega)
          refine ⟨acc', ?_⟩
          rw [hstep, ha', hq, List.length_append]
          congr 4
          omega
      · have hlt : c.toNat < 128 := by omega
        have hn1 : ∀ r, nextP (c :: r) = (c.toNat, 1) := fun r => by rw [nextP]; unfold nextC; rw [if_pos hlt]
        rw [hn1] at hu
        simp only [List.drop_succ_cons, List.drop_zero] at hu
        have hc13 : c ≠ 13 := fun q => by subst q; simp at h13
        have h13t : t.any (· == 13) = false := by rw [List.any_cons, Bool.or_eq_false_iff] at h13; exact h13.2
        have hq : qs (c :: t) = qb c ++ qs t := rfl
        rw [List.length_cons] at hn
        have esc : ∀ d, qb c = [92, d] → (d = 110 ∨ d = 116 ∨ d = 34 ∨ d = 92) → ∃ acc', R18_quoted_L1 s k acc = some (.inr (acc', ((k + (qs (c :: t)).length + 1 : Nat) : Int))) := fun d hd hd4 => by
          rw [hq, hd] at h
          obtain ⟨x, hx⟩ := qEsc hs h hd4 acc ha
          have d1 : s.drop (k + 2) = qs t ++ 34 :: r := by
            obtain ⟨-, -, z1⟩ := drop_head h
            obtain ⟨-, -, z2⟩ := drop_head z1
            exact z2
          obtain ⟨acc', ha'⟩ := ih t (k + 2) (acc ++ [x]) (by omega) hu h13t d1 (by simp; omega)
          refine ⟨acc', ?_⟩
          rw [hx, ha', hq, hd, List.length_append]
          congr 4
          simp; omega
        by_cases a : c = 10
        · exact esc 110 (by subst a; rfl) (.inl rfl)
        by_cases b : c = 9
        · exact esc 116 (by subst b; rfl) (.inr (.inl rfl))
        by_cases d : c = 34 ∨ c = 92
        · exact esc c (by unfold qb; rw [if_neg a, if_neg b, if_pos d]) (by rcases d with d | d; exact .inr (.inr (.inl d)); exact .inr (.inr (.inr d)))
        · have e : qb c = [c] := by unfold qb; rw [if_neg a, if_neg b, if_neg d]
          rw [hq, e] at h
          have hne : ∀ x : UInt8, c ≠ x → c.toNat ≠ x.toNat := fun x hx q => hx (UInt8.toNat_inj.1 q)
          have hstep := qRun (w := []) (v := c.toNat) hs h (fun q => d (.inl q)) (fun q => d (.inr q)) (hn1 _) (hne 10 a) (hne 13 hc13) (by omega) acc ha
          obtain ⟨-, -, d1⟩ := drop_head h
          obtain ⟨acc', ha'⟩ := ih t (k + 1) (acc ++ [c]) (by omega) hu h13t d1 (by simp; omega)
          refine ⟨acc', ?_⟩
          rw [hstep]
          rw [show ((k + [c].length : Nat) : Int) = ((k + 1 : Nat) : Int) from rfl, ha', hq, e, List.length_append]
          congr 4
          simp; omega
theorem Ai.quoted {t r : List UInt8} (hu : utfF t.length t = true) (h13 : t.any (· == 13) = false) (h : Ai r) : Ai ((34 :: qs t ++ [34]) ++ r) := by
  refine Ai.one (fun s k hs hd => ?_) (by simp) h
  have hd' : s.drop k = 34 :: (qs t ++ 34 :: r) := by rw [hd]; simp
  obtain ⟨q1, e1, e2⟩ := drop_head hd'
  obtain ⟨acc', ha⟩ := qRead s hs r t.length t (k + 1) [] (by omega) hu h13 e2 (by simp)
  have el : ((k + 1 + (qs t).length + 1 : Nat) : Int) = ((k + (34 :: qs t ++ [34]).length : Nat) : Int) := by simp; omega
  rw [el] at ha
  refine ⟨q1, by rw [getE q1, Option.getD_some, e1]; rfl, api_Token.mk 5 acc' 0 k ((k + (34 :: qs t ++ [34]).length : Nat) : Int), oneAt hs hd' (by decide) _ ?_, (show (5 : Int) ≠ 3 by decide), rfl⟩
  have hqd : R18_quoted s k = some (acc', ((k + (34 :: qs t ++ [34]).length : Nat) : Int)) := by
    rw [R18_quoted, wr_succ (by omega), ha]
    rfl
  have hgt : decide (((k + (34 :: qs t ++ [34]).length : Nat) : Int) > 0) = true := decide_eq_true (by simp; omega)
  rw [show sgP 34 = none from rfl]
  simp only
  rw [if_pos trivial, hqd, bind_some', hgt]
theorem word_quotes : ∀ w : List UInt8, w.all letB = true → qs w = w ∧ w.any (· == 13) = false ∧ ∀ n, w.length ≤ n → utfF n w = true
  | [], _ => ⟨rfl, rfl, fun n _ => by cases n <;> rfl⟩
  | c :: t, h => by
    rw [List.all_cons, Bool.and_eq_true] at h
    obtain ⟨i1, i2, i3⟩ := word_quotes t h.2
    have hl : (97 ≤ c.toNat ∧ c.toNat ≤ 122) ∨ (48 ≤ c.toNat ∧ c.toNat ≤ 57) ∨ c.toNat = 95 := by simpa [letB, smallB, digB] using h.1
    have ne : ∀ d : UInt8, (d.toNat < 48 ∨ d.toNat = 92) → c ≠ d := fun d hd e => by subst e; omega
    have e : qb c = [c] := by
      unfold qb
      rw [if_neg (ne 10 (by decide)), if_neg (ne 9 (by decide)), if_neg (by intro q; rcases q with q | q; exact ne 34 (by decide) q; exact ne 92 (by decide) q)]
    refine ⟨?_, ?_, fun n hn => ?_⟩
    · show qb c ++ qs t = _
      rw [e, i1]; rfl
    · rw [List.any_cons, i2, Bool.or_false, beq_eq_false_iff_ne]
      exact ne 13 (by decide)
    · cases n with
      | zero => simp at hn
      | succ n =>
        have hn1 : nextP (c :: t) = (c.toNat, 1) := by rw [nextP]; unfold nextC; rw [if_pos (by omega)]
        rw [utfF_step n _ (List.cons_ne_nil _ _), hn1]
        rw [if_neg (by intro q; have := q.1; simp only at this; omega)]
        exact i3 n (by simp at hn; omega)
end Go.Proofs.Ytlhjieapkcnghaa
end

section
namespace Go.Proofs.Ytlhjieapkcnghaa
open Go.RowKit

/-- A text that an action may begin with, and that is taken in one, where no letter follows. -/
structure Tk (w : List UInt8) : Prop where
  hd : ∃ c t, w = c :: t ∧ blB c = false ∧ (c == 35) = false
  ok : ∀ r, NoLet r → Ai r → Ai (w ++ r)
theorem quoteP_eq {s : List UInt8} (hs : s.length ≤ 1000000) (h : (quoteP s).2 = true) : (quoteP s).1 = 34 :: qs s ++ [34] ∧ utfF s.length s = true ∧ s.any (· == 13) = false := by
  have t := tQuoteL s hs 0 (by omega) [34] (by simp)
  have hl := qs_len s
  rw [List.drop_zero] at t
  have e13 : decide (Lib.indexByte s (13 : Int).toNat.toUInt8 ≥ 0) = s.any (· == 13) := idx13 s
  have key : lex_Quote s = some (if utfF s.length s = true ∧ s.any (· == 13) = false then ([34] ++ qs s ++ [34], true) else ([], false)) := by
    rw [lex_Quote, tUtf s (by omega), strings_IndexByte, internal_stringslite_IndexByte]
    simp only [bind_some', e13]
    cases hu : utfF s.length s with
    | false => rfl
    | true =>
      cases ha : s.any (· == 13) with
      | true => rfl
      | false =>
        simp only [Bool.not_true, Bool.false_eq_true, if_false, bind_some', if_true, and_self]
        rw [show (0 : Int) = ((0 : Nat) : Int) from rfl, t]
        simp only [bind_some']
        rw [appL_ok (by simp [s2b_len]; omega) (by simp [s2b_len]; omega), bind_some']
        have e : [34] ++ s2b (qs s) ++ [34] = s2b ([34] ++ qs s ++ [34]) := by simp [s2b]
        rw [e, b2s_s2b]
        rfl
  rw [quoteP, key, Option.getD_some] at h ⊢
  by_cases hc : utfF s.length s = true ∧ s.any (· == 13) = false
  · rw [if_pos hc]; exact ⟨rfl, hc⟩
  · rw [if_neg hc] at h; cases h
theorem word_hd {w : List UInt8} (h : wordP w = true) : ∃ c t, w = c :: t ∧ blB c = false ∧ (c == 35) = false := by
  obtain ⟨c, t, e, hc, -⟩ := word_cons h
  obtain ⟨p1, -, -, -, p5⟩ := small_props hc
  exact ⟨c, t, e, p1, beq_eq_false_iff_ne.2 p5⟩
theorem app_hd {w v : List UInt8} (h : ∃ c t, w = c :: t ∧ blB c = false ∧ (c == 35) = false) : ∃ c t, w ++ v = c :: t ∧ blB c = false ∧ (c == 35) = false := by
  obtain ⟨c, t, rfl, h⟩ := h
  exact ⟨c, t ++ v, rfl, h⟩
theorem Tk.word {w : List UInt8} (h : wordP w = true) : Tk w := ⟨word_hd h, fun _ hr ha => Ai.word h hr ha⟩
theorem secretW : wordP [115, 101, 99, 114, 101, 116] = true := by decide
theorem tkArgs : ∀ (l : List api_Node), (∀ x ∈ l, Tk (exprW x)) → ∀ (more : Bool) (r : List UInt8), Ai r → Ai (argsW l more ++ (41 :: r)) ∧ (more = true → NoLet (argsW l more ++ (41 :: r)))
  | [], _, more, r, h => by
    rw [argsW, List.nil_append]
    exact ⟨Ai.cls h, fun _ => NoLet.cons (by rfl)⟩
  | x :: l, hx, more, r, h => by
    obtain ⟨i1, i2⟩ := tkArgs l (fun y hy => hx y (List.mem_cons_of_mem _ hy)) true r h
    have hA := (hx x (List.mem_cons_self ..)).ok _ (i2 rfl) i1
    rw [argsW]
    cases more with
    | false =>
      simp only [Bool.false_eq_true, if_false, List.nil_append, List.append_assoc]
      exact ⟨hA, fun q => by cases q⟩
    | true =>
      simp only [if_true, List.append_assoc, List.cons_append, List.nil_append]
      exact ⟨Ai.comma (Ai.blank hA), fun _ => NoLet.cons (by rfl)⟩
theorem tkExpr : ∀ n (x : api_Node), nn x ≤ n → allN okT x → exprP x = true → Tk (exprW x) := by
  intro n
  induction n with
  | zero => intro x h; have := nn_pos x; omega
  | succ n ih =>
    intro x h ho he
    rw [nn_eq] at h
    obtain ⟨hq, ho1, -, -⟩ := (allN_eq okT x).1 ho
    rw [exprW_eq]
    rw [exprP_eq] at he
    by_cases k1 : x.Kind = 1
    · simp only [k1, beq_self_eq_true, if_true, Bool.and_eq_true] at he ⊢
      obtain ⟨e, hu, h13⟩ := quoteP_eq hq.tx he.1
      rw [e]
      exact ⟨⟨34, _, rfl, by rfl, by rfl⟩, fun r _ ha => Ai.quoted hu h13 ha⟩
    have b1 : (x.Kind == 1) = false := beq_eq_false_iff_ne.2 k1
    simp only [b1, Bool.false_eq_true, if_false] at he ⊢
    by_cases k2 : x.Kind = 2
    · simp only [k2, beq_self_eq_true, if_true] at he ⊢
      refine ⟨?_, fun r hr ha => Ai.num hq.rg hr ha⟩
      obtain ⟨c, t, e, hc, -⟩ := textL_cons x.N
      obtain ⟨p1, -, -, -, -, p6⟩ := num_props hc
      exact ⟨c, t, e, p1, beq_eq_false_iff_ne.2 p6⟩
    have b2 : (x.Kind == 2) = false := beq_eq_false_iff_ne.2 k2
    simp only [b2, Bool.false_eq_true, if_false] at he ⊢
    by_cases k3 : x.Kind = 3
    · simp only [k3, beq_self_eq_true, if_true] at he ⊢
      split
      · exact Tk.word (by decide)
      · exact Tk.word (by decide)
    have b3 : (x.Kind == 3) = false := beq_eq_false_iff_ne.2 k3
    simp only [b3, Bool.false_eq_true, if_false] at he ⊢
    by_cases k4 : x.Kind = 4
    · simp only [k4, beq_self_eq_true, if_true, Bool.and_eq_true] at he ⊢
      exact Tk.word (name_word he.1)
    have b4 : (x.Kind == 4) = false := beq_eq_false_iff_ne.2 k4
    simp only [b4, Bool.false_eq_true, if_false] at he ⊢
    by_cases k7 : x.Kind = 7
    · have c5 : (x.Kind == 5) = false := by rw [k7]; rfl
      have c6 : (x.Kind == 6) = false := by rw [k7]; rfl
      rw [c5, c6] at he
      simp only [k7, beq_self_eq_true, if_true, Bool.false_eq_true, if_false, Bool.and_eq_true] at he ⊢
      have hw := he.1
      obtain ⟨-, -, -, -, -⟩ := word_cons hw
      have hall : x.Name.all letB = true := by
        rw [wordP, Bool.and_eq_true, Bool.and_eq_true, Bool.and_eq_true] at hw
        exact hw.2.2.2
      obtain ⟨z1, z2, z3⟩ := word_quotes _ hall
      refine ⟨⟨115, _, rfl, by rfl, by rfl⟩, fun r _ ha => ?_⟩
      have hQ := Ai.quoted (t := x.Name) (z3 _ (by omega)) z2 (Ai.cls ha)
      rw [z1] at hQ
      have hS := Ai.word secretW (NoLet.cons (by rfl)) (Ai.opn hQ)
      have e : ([115, 101, 99, 114, 101, 116, 40, 34] ++ (x.Name ++ [34, 41])) ++ r = [115, 101, 99, 114, 101, 116] ++ 40 :: (34 :: x.Name ++ [34] ++ 41 :: r) := by simp
      rw [e]
      exact hS
    have b7 : (x.Kind == 7) = false := beq_eq_false_iff_ne.2 k7
    simp only [b7, Bool.false_eq_true, if_false] at he ⊢
    by_cases k5 : x.Kind = 5
    · simp only [k5, beq_self_eq_true, if_true, Bool.and_eq_true] at he ⊢
      obtain ⟨hw, hl, hex, -⟩ := he
      obtain ⟨y, hy⟩ := List.length_eq_one_iff.1 (by simpa using hl : x.L.length = 1)
      have hy1 : nn y ≤ n := by have := nns_mem (show y ∈ x.L by rw [hy]; simp); omega
      have hy2 : allN okT y := allL_mem (show y ∈ x.L by rw [hy]; simp) ho1
      have hy3 : exprP y = true := by rw [hy, exprsP, Bool.and_eq_true] at hex; exact hex.1
      have ty := ih y hy1 hy2 hy3
      rw [hy, headW]
      refine ⟨app_hd ty.hd, fun r hr ha => ?_⟩
      have := ty.ok (46 :: (x.Name ++ r)) (NoLet.cons (by rfl)) (Ai.dot (Ai.word hw hr ha))
      simpa using this
    have b5 : (x.Kind == 5) = false := beq_eq_false_iff_ne.2 k5
    simp only [b5, Bool.false_eq_true, if_false] at he ⊢
    by_cases k6 : x.Kind = 6
    · simp only [k6, beq_self_eq_true, if_true, Bool.and_eq_true] at he ⊢
      obtain ⟨hw, -, hex, -⟩ := he
      have hall : ∀ (l : List api_Node), exprsP l = true → ∀ y ∈ l, exprP y = true := by
        intro l
        induction l with
        | nil => intro _ y hy; cases hy
        | cons z l ihl =>
          intro hz y hy
          rw [exprsP, Bool.and_eq_true] at hz
          rcases List.mem_cons.1 hy with rfl | hy
          · exact hz.1
          · exact ihl hz.2 y hy
      have hT : ∀ y ∈ x.L, Tk (exprW y) := fun y hy => ih y (by have := nns_mem hy; omega) (allL_mem hy ho1) (hall _ hex y hy)
      refine ⟨app_hd (app_hd (word_hd (name_word hw))), fun r hr ha => ?_⟩
      have := Ai.word (name_word hw) (NoLet.cons (by rfl)) (Ai.opn (tkArgs x.L hT false r ha).1)
      simpa using this
    have b6 : (x.Kind == 6) = false := beq_eq_false_iff_ne.2 k6
    simp only [b6, Bool.false_eq_true, if_false] at he
theorem aWords (k : Int) (s : List UInt8) (hk : k = 9 ∨ k = 10 ∨ nameP s = true) {v : List UInt8} (hv : Tk v) {r : List UInt8} (h : Ao r) : Op (([123, 123, 32] ++ wordsW k s) ++ (v ++ [32, 125, 125]) ++ r) := by
  have hA : Ai (v ++ 32 :: 125 :: 125 :: r) := hv.ok _ (NoLet.cons (by rfl)) (Ai.blank (Ai.close h))
  have mk : ∀ w : List UInt8, (∃ c t, w ++ (v ++ 32 :: 125 :: 125 :: r) = c :: t ∧ blB c = false ∧ (c == 35) = false) → Ai (w ++ (v ++ 32 :: 125 :: 125 :: r)) → Op (([123, 123, 32] ++ w) ++ (v ++ [32, 125, 125]) ++ r) := fun w ⟨c, t, e, h1, h2⟩ h3 => by
    refine ⟨c, t, ?_, h1, h2, by rw [← e]; exact h3⟩
    rw [← e]; simp
  have kw : ∀ w0 : List UInt8, wordP w0 = true → ∀ w1 : List UInt8, Ai (32 :: (w1 ++ (v ++ 32 :: 125 :: 125 :: r))) → ∀ w, w = w0 ++ 32 :: w1 → Op (([123, 123, 32] ++ w) ++ (v ++ [32, 125, 125]) ++ r) := fun w0 h0 w1 h1 w e => by
    subst e
    refine mk _ ?_ ?_
    · rw [List.append_assoc]; exact app_hd (word_hd h0)
    · rw [List.append_assoc, List.cons_append]
      exact Ai.word h0 (NoLet.cons (by rfl)) h1
  unfold wordsW
  by_cases k9 : k = 9
  · subst k9
    rw [if_pos (by decide)]
    refine mk [] ?_ hA
    rw [List.nil_append]; exact app_hd hv.hd
  rw [if_neg (by simpa using k9)]
  by_cases k13 : k = 13
  · subst k13
    have hs : nameP s = true := by rcases hk with h | h | h; exact absurd h (by decide); exact absurd h (by decide); exact h
    rw [if_pos (by decide)]
    refine kw [117, 115, 101] (by decide) (s ++ [32]) ?_ _ (by simp)
    have := Ai.blank (Ai.word (name_word hs) (NoLet.cons (by rfl)) (Ai.blank hA))
    simpa using this
  rw [if_neg (by simpa using k13)]
  by_cases k10 : k = 10
  · subst k10
    rw [if_pos (by decide)]
    exact kw [105, 102] (by decide) [] (Ai.blank hA) _ (by simp)
  rw [if_neg (by simpa using k10)]
  have hs : nameP s = true := by rcases hk with h | h | h; exact absurd h k9; exact absurd h k10; exact h
  by_cases k11 : k = 11
  · subst k11
    rw [if_pos (by decide)]
    refine kw [101, 97, 99, 104] (by decide) (s ++ [32, 105, 110, 32]) ?_ _ (by simp)
    have := Ai.blank (Ai.word (name_word hs) (NoLet.cons (by rfl)) (Ai.blank (Ai.word (show wordP [105, 110] = true by decide) (NoLet.cons (by rfl)) (Ai.blank hA))))
    simpa using this
  rw [if_neg (by simpa using k11)]
  refine kw [108, 101, 116] (by decide) (s ++ [32, 61, 32]) ?_ _ (by simp)
  have := Ai.blank (Ai.word (name_word hs) (NoLet.cons (by rfl)) (Ai.blank (Ai.eq (Ai.blank hA))))
  simpa using this
theorem aPlain {w : List UInt8} (hw : wordP w = true) {r : List UInt8} (h : Ao r) : Op (([123, 123, 32] ++ w ++ [32, 125, 125]) ++ r) := by
  have hA := Ai.word hw (NoLet.cons (r := 125 :: 125 :: r) (c := 32) (by rfl)) (Ai.blank (Ai.close h))
  obtain ⟨c, t, e, h1, h2⟩ := word_hd hw
  exact ⟨c, t ++ (32 :: 125 :: 125 :: r), by rw [e]; simp, h1, h2, by rw [e] at hA; exact hA⟩
theorem Op.ao0 {r : List UInt8} (h : Op r) : Ao r := by
  have := Op.ao [] h (by rfl) (by rfl)
  simpa using this
/-- What follows a block: an action's beginning within one, nothing at the end of a template. -/
def After (b : Bool) (r : List UInt8) : Prop := if b then Op r else r = []
theorem After.ao {b : Bool} {r : List UInt8} (h : After b r) : Ao r := by
  cases b with
  | true => exact Op.ao0 h
  | false => rw [show r = [] from h]; exact Ao.nil
theorem tkBlock : ∀ n (l : List api_Node) (b : Bool) (r : List UInt8), nns l ≤ n → allL okT l → blockP l b = true → After b r → Ao (blockW l ++ r) ∧ (l ≠ [] → litB l = false → Op (blockW l ++ r)) := by
  intro n
  induction n with
  | zero =>
    intro l b r h ho hb ha
    cases l with
    | nil => rw [blockW, List.nil_append]; exact ⟨ha.ao, fun q => absurd rfl q⟩
    | cons x l => have := nn_pos x; rw [nns] at h; omega
  | succ n ih =>
    intro l b r h ho hb ha
    cases l with
    | nil => rw [blockW, List.nil_append]; exact ⟨ha.ao, fun q => absurd rfl q⟩
    | cons x l =>
      have hp := nn_pos x
      rw [nns] at h
      rw [allL] at ho
      rw [blockP, Bool.and_eq_true, Bool.and_eq_true] at hb
      obtain ⟨hs, hbad, hbl⟩ := hb
      obtain ⟨i1, i2⟩ := ih l b r (by omega) ho.2 hbl ha
      obtain ⟨hq, ho1, ho2, ho3⟩ := (allN_eq okT x).1 ho.1
      have hx := nn_eq x
      rw [blockW, List.append_assoc]
      rw [stmtP_eq] at hs
      rw [stmtW_eq]
      by_cases k8 : x.Kind = 8
      · have hlit : litB (x :: l) = true := by rw [litB, k8]; rfl
        refine ⟨?_, fun _ q => by rw [hlit] at q; cases q⟩
        simp only [k8, beq_self_eq_true, if_true, Bool.and_eq_true] at hs ⊢
        have hB : hasB x.Text = false := by have := hs.2.1; simpa using this
        rw [badB, k8] at hbad
        simp only [beq_self_eq_true, Bool.true_and, Bool.not_eq_true', Bool.or_eq_false_iff] at hbad
        obtain ⟨hnl, hend⟩ := hbad
        cases l with
        | cons y l =>
          refine Op.ao x.Text (i2 (List.cons_ne_nil _ _) hnl) hB ?_
          simpa using hend
        | nil =>
          rw [blockW, List.nil_append]
          cases b with
          | true => exact Op.ao x.Text ha hB (by simpa using hend)
          | false =>
            rw [show r = [] from ha, List.append_nil]
            exact Ao.last _ hB
      · have b8 : (x.Kind == 8) = false := beq_eq_false_iff_ne.2 k8
        simp only [b8, Bool.false_eq_true, if_false] at hs ⊢
        -- an action
        have key : Op ((if (x.Kind == 9 || x.Kind == 13) = true then actW x.Kind x.Name x.L else actW x.Kind x.Name x.L ++ (blockW x.Then ++ ((if zl x.Else = true then [] else [123, 123, 32, 101, 108, 115, 101, 32, 125, 125] ++ blockW x.Else) ++ [123, 123, 32, 101, 110, 100, 32, 125, 125]))) ++ (blockW l ++ r)) := by
          have one : (x.L.length == 1 && exprsP x.L) = true → Tk (headW x.L) := fun h1 => by
            rw [Bool.and_eq_true] at h1
            obtain ⟨y, hy⟩ := List.length_eq_one_iff.1 (by simpa using h1.1 : x.L.length = 1)
            have hex := h1.2
            rw [hy, exprsP, Bool.and_eq_true] at hex
            have hym : y ∈ x.L := by rw [hy]; simp
            rw [hy, headW]
            exact tkExpr n y (by have := nns_mem hym; omega) (allL_mem hym ho1) hex.1
          have hend : ∀ R, Ao R → Op ([123, 123, 32, 101, 110, 100, 32, 125, 125] ++ R) := fun R hR => aPlain (w := [101, 110, 100]) (by decide) hR
          have helse : ∀ R, Ao R → Op ([123, 123, 32, 101, 108, 115, 101, 32, 125, 125] ++ R) := fun R hR => aPlain (w := [101, 108, 115, 101]) (by decide) hR
          by_cases k9 : x.Kind = 9
          · simp only [k9, beq_self_eq_true, if_true, Bool.true_or, Bool.and_eq_true] at hs ⊢
            exact aWords 9 x.Name (.inl rfl) (one (by rw [Bool.and_eq_true]; exact hs.1)) i1
          have b9 : (x.Kind == 9) = false := beq_eq_false_iff_ne.2 k9
          simp only [b9, Bool.false_eq_true, if_false, Bool.false_or] at hs ⊢
          have blk : ∀ (hn : x.Kind = 10 ∨ nameP x.Name = true) (h1 : Tk (headW x.L)) (hT : blockP x.Then true = true) (hE : blockP x.Else true = true), Op ((actW x.Kind x.Name x.L ++ (blockW x.Then ++ ((if zl x.Else = true then [] else [123, 123, 32, 101, 108, 115, 101, 32, 125, 125] ++ blockW x.Else) ++ [123, 123, 32, 101, 110, 100, 32, 125, 125]))) ++ (blockW l ++ r)) := fun hn h1 hT hE => by
            have eE := hend _ i1
            have hR : Op ((if zl x.Else = true then [] else [123, 123, 32, 101, 108, 115, 101, 32, 125, 125] ++ blockW x.Else) ++ ([123, 123, 32, 101, 110, 100, 32, 125, 125] ++ (blockW l ++ r))) := by
              by_cases hz : zl x.Else = true
              · rw [if_pos hz, List.nil_append]; exact eE
              · rw [if_neg hz, List.append_assoc]
                exact helse _ (ih x.Else true _ (by omega) ho3 hE eE).1
            have hT2 := (ih x.Then true _ (by omega) ho2 hT hR).1
            have := aWords x.Kind x.Name (.inr hn) h1 hT2
            unfold actW
            simpa only [List.append_assoc] using this
          by_cases k10 : x.Kind = 10
          · have b13 : (x.Kind == 13) = false := by rw [k10]; rfl
            rw [b13]
            simp only [k10, beq_self_eq_true, if_true, Bool.and_eq_true, Bool.false_eq_true, if_false] at hs
            simp only [Bool.false_eq_true, if_false]
            exact blk (.inl k10) (one (by rw [Bool.and_eq_true]; exact hs.1)) hs.2.1.1 hs.2.1.2
          have b10 : (x.Kind == 10) = false := beq_eq_false_iff_ne.2 k10
          simp only [b10, Bool.false_eq_true, if_false] at hs
          by_cases k11 : (x.Kind == 11 || x.Kind == 12) = true
          · have b13 : (x.Kind == 13) = false := by
              rw [beq_eq_false_iff_ne]; intro q; rw [q] at k11; exact absurd k11 (by decide)
            rw [b13]
            rw [if_pos k11] at hs
            simp only [Bool.and_eq_true] at hs
            simp only [Bool.false_eq_true, if_false]
            refine blk (.inr hs.1) (one (by rw [Bool.and_eq_true]; exact hs.2.1)) hs.2.2.1 ?_
            rw [zl_nil hs.2.2.2.2.2]; exact block_nil true
          rw [if_neg k11] at hs
          by_cases k13 : x.Kind = 13
          · simp only [k13, beq_self_eq_true, if_true, Bool.and_eq_true] at hs ⊢
            exact aWords 13 x.Name (.inr (.inr hs.1)) (one (by rw [Bool.and_eq_true]; exact hs.2.1)) i1
          have b13 : (x.Kind == 13) = false := beq_eq_false_iff_ne.2 k13
          simp only [b13, Bool.false_eq_true, if_false] at hs
        exact ⟨key.ao0, fun _ _ => key⟩
/-- What is written is taken. -/
theorem tokens_ok (s : List UInt8) (hs : s.length ≤ 65536) (h : Ao s) : ∃ y, R18_Tokens s = some y ∧ y.2.2 = 0 := by
  obtain ⟨o, h1, h2⟩ := h s 0 [] hs (by omega) rfl (by simp)
  rw [R18_Tokens, decide_eq_false (by omega : ¬ ((s.length : Int) > 65536)), show (0 : Int) = ((0 : Nat) : Int) from rfl, h1]
  cases o with
  | inl t => exact ⟨_, rfl, rfl⟩
  | inr t => exact ⟨_, rfl, h2⟩
end Go.Proofs.Ytlhjieapkcnghaa
end

section
namespace Go.Proofs.Ytlhjieapkcnghaa
open Go.RowKit

structure smB (B : Nat) (x : api_Node) : Prop where
  nm : x.Name.length ≤ B
  tx : x.Text.length ≤ B
  qt : x.Kind = 1 → (quoteP x.Text).1.length ≤ B
  rg : -9223372036854775808 ≤ x.N ∧ x.N ≤ 9223372036854775807
theorem textL_le (n : Int) (h1 : -9223372036854775808 ≤ n) (h2 : n ≤ 9223372036854775807) : (textL n).length ≤ 20 := by
  have := digs_len n.natAbs 18 (by omega)
  unfold textL
  split <;> simp <;> omega
theorem exprW_len (B : Nat) : ∀ n (x : api_Node), nn x ≤ n → allN (smB B) x → (exprW x).length + 2 ≤ (B + 30) * nn x := by
  intro n
  induction n with
  | zero => intro x h; have := nn_pos x; omega
  | succ n ih =>
    intro x h ho
    rw [nn_eq] at h
    obtain ⟨hq, ho1, -, -⟩ := (allN_eq _ x).1 ho
    have hnm := hq.nm
    have args : ∀ (l : List api_Node) (more : Bool), nns l ≤ n → allL (smB B) l → (argsW l more).length ≤ (B + 30) * nns l := by
      intro l
      induction l with
      | nil => intro more _ _; simp [argsW]
      | cons y r ihr =>
        intro more hl ho
        rw [nns] at hl
        rw [allL] at ho
        have h1 := ih y (by omega) ho.1
        have h2 := ihr true (by omega) ho.2
        rw [argsW, nns, Nat.mul_add]
        cases more <;> simp <;> omega
    have head : ∀ (l : List api_Node), nns l ≤ n → allL (smB B) l → (headW l).length ≤ (B + 30) * nns l := by
      intro l hl ho
      cases l with
      | nil => simp [headW]
      | cons y r =>
        rw [nns] at hl
        rw [allL] at ho
        have h1 := ih y (by omega) ho.1
        rw [headW, nns, Nat.mul_add]
        omega
    have ha := args x.L false (by omega) ho1
    have hh := head x.L (by omega) ho1
    have ht := textL_le x.N hq.rg.1 hq.rg.2
    rw [exprW_eq, nn_eq]
    have e : (B + 30) * (1 + nns x.L + nns x.Then + nns x.Else) = (B + 30) + (B + 30) * nns x.L + (B + 30) * nns x.Then + (B + 30) * nns x.Else := by
      rw [Nat.mul_add, Nat.mul_add, Nat.mul_add, Nat.mul_one]
    rw [e]
    by_cases k1 : x.Kind = 1
    · have := hq.qt k1
      simp only [k1, beq_self_eq_true, if_true]; omega
    have b1 : (x.Kind == 1) = false := beq_eq_false_iff_ne.2 k1
    simp only [b1, Bool.false_eq_true, if_false]
    cases (x.Kind == 2) with
    | true => simp only [if_true]; omega
    | false =>
      cases (x.Kind == 3) with
      | true => cases (x.N == 1) <;> simp <;> omega
      | false =>
        cases (x.Kind == 4) with
        | true => simp; omega
        | false =>
          cases (x.Kind == 7) with
          | true => simp; omega
          | false =>
            cases (x.Kind == 5) with
            | true => simp; omega
            | false =>
              cases (x.Kind == 6) with
              | true => simp; omega
              | false => simp; omega
theorem actW_len (B : Nat) (k : Int) (s : List UInt8) (l : List api_Node) (hs : s.length ≤ B) (ho : allL (smB B) l) : (actW k s l).length ≤ B + 16 + (B + 30) * nns l := by
  have hh : (headW l).length ≤ (B + 30) * nns l := by
    cases l with
    | nil => simp [headW]
    | cons y r =>
      rw [allL] at ho
      have h1 := exprW_len B (nn y) y (Nat.le_refl _) ho.1
      rw [headW, nns, Nat.mul_add]
      omega
  have hw : (wordsW k s).length ≤ B + 9 := by
    unfold wordsW
    cases (k == 9) <;> cases (k == 13) <;> cases (k == 10) <;> cases (k == 11) <;> simp <;> omega
  unfold actW
  simp only [List.length_append, List.length_cons, List.length_nil]
  omega
theorem blockW_len (B : Nat) : ∀ n (l : List api_Node), nns l ≤ n → allL (smB B) l → (blockW l).length ≤ (B + 60) * nns l := by
  intro n
  induction n with
  | zero => intro l h _; cases l with
    | nil => simp [blockW]
    | cons x r => have := nn_pos x; simp [nns] at h; omega
  | succ n ih =>
    intro l
    induction l with
    | nil => intro _ _; simp [blockW]
    | cons x r ihr =>
      intro h ho
      rw [nns, nn_eq] at h
      rw [allL, allN_eq] at ho
      obtain ⟨⟨hq, ho1, ho2, ho3⟩, ho4⟩ := ho
      have hr := ihr (by omega) ho4
      have ht := ih x.Then (by omega) ho2
      have he := ih x.Else (by omega) ho3
      have ha := actW_len B x.Kind x.Name x.L hq.nm ho1
      have htx := hq.tx
      have hm : (B + 30) * nns x.L ≤ (B + 60) * nns x.L := Nat.mul_le_mul_right _ (by omega)
      have e : (B + 60) * (1 + nns x.L + nns x.Then + nns x.Else + nns r) = (B + 60) + (B + 60) * nns x.L + (B + 60) * nns x.Then + (B + 60) * nns x.Else + (B + 60) * nns r := by
        rw [Nat.mul_add, Nat.mul_add, Nat.mul_add, Nat.mul_add, Nat.mul_one]
      rw [blockW, stmtW_eq, nns, nn_eq, e, List.length_append]
      cases (x.Kind == 8) with
      | true => simp only [if_true]; omega
      | false =>
        cases (x.Kind == 9 || x.Kind == 13) with
        | true => simp only [if_true, Bool.false_eq_true, if_false]; omega
        | false => cases zl x.Else <;> simp <;> omega
end Go.Proofs.Ytlhjieapkcnghaa
end

section
namespace Go.Proofs.Ytlhjieapkcnghaa
open Go.RowKit

/-- The texts of a list's expressions, one by one. -/
noncomputable def argsL : List api_Node → List (List UInt8)
  | [] => []
  | x :: l => exprW x :: argsL l
theorem argsL_len : ∀ l, (argsL l).length = l.length
  | [] => rfl
  | x :: l => by rw [argsL, List.length_cons, List.length_cons, argsL_len l]
theorem rJoinL (l : List (List UInt8)) (hl : l.length < 1000000000) : ∀ k, k ≤ l.length → ∀ acc : List UInt8, acc.length + (l.drop k).flatten.length + 2 * (l.length - k) ≤ room + 100 →
    R01_Join_L1 l [44, 32] acc k = some (acc ++ ((l.drop k).zipIdx k).flatMap fun p => (if decide (0 < p.2) = true then [44, 32] else []) ++ p.1) := by
  have hroom : room = 100000000000 := rfl
  refine upto ?_ fun k hk ih => ?_
  · intro acc _
    rw [R01_Join_L1]; simp
  · intro acc h
    rw [dropE hk, List.flatten_cons, List.length_append] at h
    have e2 : decide ((k : Int) > 0) = decide (0 < k) := by
      by_cases h0 : 0 < k
      · rw [decide_eq_true h0, decide_eq_true (by omega)]
      · rw [decide_eq_false h0, decide_eq_false (by omega)]
    rw [R01_Join_L1, ltI, decide_eq_true hk, wr_succ (by omega), e2, dropE hk, List.zipIdx_cons, List.flatMap_cons]
    simp only [if_true, idx_nat, getE hk, bind_some']
    cases hd : decide (0 < k) with
    | false =>
      simp only [Bool.false_eq_true, if_false, List.nil_append]
      rw [need_ok (by omega), bind_some', ih _ (by rw [List.length_append]; omega), List.append_assoc]
    | true =>
      simp only [if_true]
      rw [need_ok (by simp; omega), bind_some', need_ok (by simp; omega), bind_some', ih _ (by simp only [List.length_append, List.length_cons, List.length_nil]; omega)]
      simp only [List.append_assoc]
theorem join_args : ∀ (l : List api_Node) (k : Nat), ((argsL l).zipIdx k).flatMap (fun p => (if decide (0 < p.2) = true then [44, 32] else []) ++ p.1) = argsW l (decide (0 < k))
  | [], _ => by rw [argsL, argsW]; rfl
  | x :: l, k => by
    rw [argsL, List.zipIdx_cons, List.flatMap_cons, join_args l (k + 1), argsW, decide_eq_true (by omega : 0 < k + 1), List.append_assoc]
theorem args_len : ∀ (l : List api_Node) (b : Bool), (argsL l).flatten.length ≤ (argsW l b).length
  | [], _ => by simp [argsL]
  | x :: l, b => by
    have := args_len l true
    rw [argsL, argsW, List.flatten_cons, List.length_append, List.length_append, List.length_append]
    omega
section
variable (n : Nat) (ih : ∀ (x : api_Node), nn x ≤ n → allN okT x → exprP x = true → (exprW x).length ≤ room → R19_Expr x = some (exprW x))
include ih
theorem rArgsL (p : api_Node) (h : nns p.L ≤ n) (ho : allL okT p.L) (hl : p.L.length ≤ 3) : ∀ k, k ≤ p.L.length → exprsP (p.L.drop k) = true → (argsL (p.L.drop k)).flatten.length ≤ room → ∀ acc : List (List UInt8), acc.length ≤ k →
    R19_Expr_L1 p acc k = some (acc ++ argsL (p.L.drop k)) := by
  refine upto ?_ fun k hk ihk => ?_
  · intro _ _ acc _
    rw [R19_Expr_L1]; simp [argsL]
  · intro he hrr acc ha
    rw [dropE hk, exprsP, Bool.and_eq_true] at he
    rw [dropE hk, argsL, List.flatten_cons, List.length_append] at hrr
    have hx := nns_mem (List.getElem_mem hk)
    rw [R19_Expr_L1, ltI, decide_eq_true hk, wr_succ (by omega)]
    simp only [if_true, idx_nat, getE hk, bind_some']
    rw [ih p.L[k] (by omega) (allL_mem (List.getElem_mem hk) ho) he.1 (by omega)]
    simp only [bind_some']
    rw [appL_ok (by simp; omega) (by simp; omega), bind_some', ihk he.2 (by omega) _ (by simp; omega), dropE hk, argsL, List.append_assoc]
    rfl
end
theorem rExprW : ∀ n (x : api_Node), n ≤ 900000000 → nn x ≤ n → allN okT x → exprP x = true → (exprW x).length ≤ room → R19_Expr x = some (exprW x) := by
  have hroom : room = 100000000000 := rfl
  intro n
  induction n with
  | zero => intro x _ h; have := nn_pos x; omega
  | succ n ih =>
    intro x hn h ho he hr
    rw [nn_eq] at h
    obtain ⟨hq, ho1, -, -⟩ := (allN_eq okT x).1 ho
    rw [exprW_eq] at hr ⊢
    rw [exprP_eq] at he
    rw [R19_Expr]
    by_cases k1 : x.Kind = 1
    · obtain ⟨q, q1, q2⟩ := hq.qt k1
      simp only [k1, beq_self_eq_true, if_true] at hr ⊢
      have e : quoteP x.Text = q := by rw [quoteP, q1]; rfl
      rw [q2, bind_some', e]
    have b1 : (x.Kind == 1) = false := beq_eq_false_iff_ne.2 k1
    simp only [b1, Bool.false_eq_true, if_false] at hr he ⊢
    by_cases k2 : x.Kind = 2
    · simp only [k2, beq_self_eq_true, if_true] at hr ⊢
      rw [R01_Text, need_ok hq.rg.1, bind_some', need_ok hq.rg.2, bind_some', bind_some']
    have b2 : (x.Kind == 2) = false := beq_eq_false_iff_ne.2 k2
    simp only [b2, Bool.false_eq_true, if_false] at hr he ⊢
    by_cases k3 : x.Kind = 3
    · simp only [k3, beq_self_eq_true, if_true] at hr ⊢
      cases hN : (x.N == 1) <;> rfl
    have b3 : (x.Kind == 3) = false := beq_eq_false_iff_ne.2 k3
    simp only [b3, Bool.false_eq_true, if_false] at hr he ⊢
    by_cases k4 : x.Kind = 4
    · simp only [k4, beq_self_eq_true, if_true] at hr ⊢
    have b4 : (x.Kind == 4) = false := beq_eq_false_iff_ne.2 k4
    simp only [b4, Bool.false_eq_true, if_false] at hr he ⊢
    by_cases k7 : x.Kind = 7
    · have c5 : (x.Kind == 5) = false := by rw [k7]; rfl
      rw [c5]
      simp only [k7, beq_self_eq_true, if_true, Bool.false_eq_true, if_false] at hr ⊢
      simp only [List.length_append, List.length_cons, List.length_nil] at hr
      rw [need_ok (by simp; omega), bind_some', need_ok (by simp; omega), bind_some', List.append_assoc]
    have b7 : (x.Kind == 7) = false := beq_eq_false_iff_ne.2 k7
    simp only [b7, Bool.false_eq_true, if_false] at hr he ⊢
    by_cases k5 : x.Kind = 5
    · simp only [k5, beq_self_eq_true, if_true, Bool.and_eq_true] at hr he ⊢
      obtain ⟨-, hl, hex, -⟩ := he
      obtain ⟨y, hy⟩ := List.length_eq_one_iff.1 (by simpa using hl : x.L.length = 1)
      have hy1 : nn y ≤ n := by have := nns_mem (show y ∈ x.L by rw [hy]; simp); omega
      have hy2 : allN okT y := allL_mem (show y ∈ x.L by rw [hy]; simp) ho1
      have hy3 : exprP y = true := by rw [hy, exprsP, Bool.and_eq_true] at hex; exact hex.1
      rw [hy, headW, List.length_append, List.length_append] at hr
      simp only [List.length_cons, List.length_nil] at hr
      rw [hy, headW]
      simp only [idx_0, List.getElem?_cons_zero, bind_some']
      rw [ih y (by omega) hy1 hy2 hy3 (by omega), bind_some', need_ok (by simp; omega), bind_some', need_ok (by simp; omega), bind_some', List.append_assoc]
    have b5 : (x.Kind == 5) = false := beq_eq_false_iff_ne.2 k5
    simp only [b5, Bool.false_eq_true, if_false] at hr he ⊢
    by_cases k6 : x.Kind = 6
    · simp only [k6, beq_self_eq_true, if_true, Bool.and_eq_true] at hr he ⊢
      obtain ⟨-, hl3, hex, -⟩ := he
      have hl3' := of_decide_eq_true hl3
      rw [List.length_append, List.length_append, List.length_append] at hr
      simp only [List.length_cons, List.length_nil] at hr
      have hal := args_len x.L false
      have p2 := rArgsL n (fun y h1 => ih y (by omega) h1) x (by omega) ho1 hl3' 0 (by omega) (by rw [List.drop_zero]; exact hex) (by rw [List.drop_zero]; omega) [] (by simp)
      rw [List.drop_zero, List.nil_append] at p2
      have p3 := rJoinL (argsL x.L) (by rw [argsL_len]; omega) 0 (by omega) [] (by rw [List.drop_zero, argsL_len]; simp only [List.length_nil]; omega)
      rw [List.drop_zero, join_args, List.nil_append] at p3
      have hj : R01_Join (argsL x.L) [44, 32] = some (argsW x.L false) := by
        rw [R01_Join, show (0 : Int) = ((0 : Nat) : Int) from rfl, p3]
        rfl
      rw [show (0 : Int) = ((0 : Nat) : Int) from rfl, p2, bind_some', need_ok (by simp; omega), bind_some', hj, bind_some', need_ok (by simp; omega), bind_some', need_ok (by simp; omega), bind_some']
      simp only [List.append_assoc]
    have b6 : (x.Kind == 6) = false := beq_eq_false_iff_ne.2 k6
    simp only [b6, Bool.false_eq_true, if_false] at he
section
variable (n : Nat) (hn : n ≤ 800000000) (ih : ∀ (l : List api_Node) (b : Bool), nns l ≤ n → allL okT l → blockP l b = true → (blockW l).length ≤ room → R19_Write l = some (blockW l))
include hn ih
/-- One statement's round. -/
theorem rStmtW (l : List api_Node) (k : Nat) (hk : k < l.length) (hk2 : k < 900000000) (hx : nn l[k] ≤ n + 1) (ho : allN okT l[k]) (hs : stmtP l[k] = true) (acc : List UInt8) (hr : acc.length + (stmtW l[k]).length ≤ room) :
    R19_Write_L1 l acc k = R19_Write_L1 l (acc ++ stmtW l[k]) ((k + 1 : Nat) : Int) := by
  have hroom : room = 100000000000 := rfl
  obtain ⟨hq, ho1, ho2, ho3⟩ := (allN_eq okT l[k]).1 ho
  have hxn := nn_eq l[k]
  rw [R19_Write_L1, ltI, decide_eq_true hk, wr_succ (by omega)]
  simp only [if_true, idx_nat, getE hk, bind_some']
  generalize l[k] = x at *
  rw [stmtP_eq] at hs
  rw [stmtW_eq] at hr ⊢
  have one : (x.L.length == 1 && exprsP x.L) = true → (headW x.L).length ≤ room → ∃ y, idx x.L 0 = some y ∧ R19_Expr y = some (headW x.L) := fun h1 hl => by
    rw [Bool.and_eq_true] at h1
    obtain ⟨y, hy⟩ := List.length_eq_one_iff.1 (by simpa using h1.1 : x.L.length = 1)
    have hex := h1.2
    rw [hy, exprsP, Bool.and_eq_true] at hex
    have hym : y ∈ x.L := by rw [hy]; simp
    rw [hy, headW] at hl ⊢
    exact ⟨y, rfl, rExprW n y (by omega) (by have := nns_mem hym; omega) (allL_mem hym ho1) hex.1 hl⟩
  by_cases k8 : x.Kind = 8
  · simp only [k8, beq_self_eq_true, if_true] at hr ⊢
    rw [need_ok (by omega), bind_some']
  have b8 : (x.Kind == 8) = false := beq_eq_false_iff_ne.2 k8
  simp only [b8, Bool.false_eq_true, if_false] at hs hr ⊢
  by_cases k9 : x.Kind = 9
  · simp only [k9, beq_self_eq_true, if_true, Bool.true_or, Bool.and_eq_true, actW, wordsW, List.length_append, List.length_cons, List.length_nil] at hs hr ⊢
    obtain ⟨y, hy, he⟩ := one (by rw [Bool.and_eq_true]; exact hs.1) (by omega)
    rw [need_ok (by omega), bind_some', hy, bind_some', he, bind_some', need_ok (by first | omega | (simp only [List.length_append, List.length_cons, List.length_nil]; omega)), bind_some', need_ok (by first | omega | (simp only [List.length_append, List.length_cons, List.length_nil]; omega)), bind_some']
    simp only [List.append_assoc, List.nil_append, List.cons_append]
  have b9 : (x.Kind == 9) = false := beq_eq_false_iff_ne.2 k9
  simp only [b9, Bool.false_eq_true, if_false, Bool.false_or] at hs hr ⊢
  by_cases k13 : x.Kind = 13
  · have c10 : (x.Kind == 10) = false := by rw [k13]; rfl
    have c11 : (x.Kind == 11 || x.Kind == 12) = false := by rw [k13]; rfl
    rw [c10, c11] at hs
    simp only [k13, beq_self_eq_true, if_true, Bool.and_eq_true, Bool.false_eq_true, if_false, actW, wordsW, List.length_append, List.length_cons, List.length_nil, show ((13 : Int) == 9) = false from rfl] at hs hr ⊢
    obtain ⟨y, hy, he⟩ := one (by rw [Bool.and_eq_true]; exact hs.2.1) (by omega)
    rw [need_ok (by omega), bind_some', need_ok (by first | omega | (simp only [List.length_append, List.length_cons, List.length_nil]; omega)), bind_some', need_ok (by first | omega | (simp only [List.length_append, List.length_cons, List.length_nil]; omega)), bind_some', hy, bind_some', he, bind_some', need_ok (by first | omega | (simp only [List.length_append, List.length_cons, List.length_nil]; omega)), bind_some', need_ok (by first | omega | (simp only [List.length_append, List.length_cons, List.length_nil]; omega)), bind_some']
    simp only [List.append_assoc, List.nil_append, List.cons_append]
  have b13 : (x.Kind == 13) = false := beq_eq_false_iff_ne.2 k13
  simp only [b13, Bool.false_eq_true, if_false] at hs hr ⊢
  by_cases k10 : x.Kind = 10
  · simp only [k10, beq_self_eq_true, if_true, Bool.and_eq_true, actW, wordsW, List.length_append, List.length_cons, List.length_nil, Bool.false_eq_true, if_false, show ((10 : Int) == 9) = false from rfl, show ((10 : Int) == 13) = false from rfl] at hs hr ⊢
    obtain ⟨y, hy, he⟩ := one (by rw [Bool.and_eq_true]; exact hs.1) (by omega)
    have hT := ih x.Then true (by omega) ho2 hs.2.1.1 (by omega)
    rw [need_ok (by omega), bind_some', hy, bind_some', he, bind_some', need_ok (by first | omega | (simp only [List.length_append, List.length_cons, List.length_nil]; omega)), bind_some', need_ok (by first | omega | (simp only [List.length_append, List.length_cons, List.length_nil]; omega)), bind_some', hT, bind_some', need_ok (by first | omega | (simp only [List.length_append, List.length_cons, List.length_nil]; omega)), bind_some', gI]
    cases hz : zl x.Else with
    | true =>
      rw [hz] at hr
      simp only [Bool.not_true, Bool.false_eq_true, if_false, if_true, List.length_nil] at hr ⊢
      rw [need_ok (by first | omega | (simp only [List.length_append, List.length_cons, List.length_nil]; omega)), bind_some']
      simp only [List.append_assoc, List.nil_append, List.cons_append]
    | false =>
      rw [hz] at hr
      simp only [Bool.not_false, Bool.false_eq_true, if_false, if_true, List.length_append, List.length_cons, List.length_nil] at hr ⊢
      have hE := ih x.Else true (by omega) ho3 hs.2.1.2 (by omega)
      rw [need_ok (by first | omega | (simp only [List.length_append, List.length_cons, List.length_nil]; omega)), bind_some', hE, bind_some', need_ok (by first | omega | (simp only [List.length_append, List.length_cons, List.length_nil]; omega)), bind_some', need_ok (by first | omega | (simp only [List.length_append, List.length_cons, List.length_nil]; omega)), bind_some']
      simp only [List.append_assoc, List.nil_append, List.cons_append]
  have b10 : (x.Kind == 10) = false := beq_eq_false_iff_ne.2 k10
  simp only [b10, Bool.false_eq_true, if_false] at hs hr ⊢
  by_cases k11 : x.Kind = 11
  · simp only [k11, beq_self_eq_true, if_true, Bool.true_or, Bool.and_eq_true, actW, wordsW, List.length_append, List.length_cons, List.length_nil, Bool.false_eq_true, if_false, show ((11 : Int) == 9) = false from rfl, show ((11 : Int) == 13) = false from rfl, show ((11 : Int) == 10) = false from rfl] at hs hr ⊢
    obtain ⟨y, hy, he⟩ := one (by rw [Bool.and_eq_true]; exact hs.2.1) (by omega)
    have hT := ih x.Then true (by omega) ho2 hs.2.2.1 (by omega)
    have hz := hs.2.2.2.2.2
    rw [hz] at hr ⊢
    simp only [if_true, List.length_nil] at hr ⊢
    rw [need_ok (by omega), bind_some', need_ok (by first | omega | (simp only [List.length_append, List.length_cons, List.length_nil]; omega)), bind_some', need_ok (by first | omega | (simp only [List.length_append, List.length_cons, List.length_nil]; omega)), bind_some', hy, bind_some', he, bind_some', need_ok (by first | omega | (simp only [List.length_append, List.length_cons, List.length_nil]; omega)), bind_some', need_ok (by first | omega | (simp only [List.length_append, List.length_cons, List.length_nil]; omega)), bind_some', hT, bind_some', need_ok (by first | omega | (simp only [List.length_append, List.length_cons, List.length_nil]; omega)), bind_some', need_ok (by first | omega | (simp only [List.length_append, List.length_cons, List.length_nil]; omega)), bind_some']
    simp only [List.append_assoc, List.nil_append, List.cons_append]
  have b11 : (x.Kind == 11) = false := beq_eq_false_iff_ne.2 k11
  simp only [b11, Bool.false_eq_true, if_false, Bool.false_or] at hs hr ⊢
  by_cases k12 : x.Kind = 12
  · simp only [k12, beq_self_eq_true, if_true, Bool.and_eq_true, actW, wordsW, List.length_append, List.length_cons, List.length_nil, Bool.false_eq_true, if_false, show ((12 : Int) == 9) = false from rfl, show ((12 : Int) == 13) = false from rfl, show ((12 : Int) == 10) = false from rfl, show ((12 : Int) == 11) = false from rfl] at hs hr ⊢
    obtain ⟨y, hy, he⟩ := one (by rw [Bool.and_eq_true]; exact hs.2.1) (by omega)
    have hT := ih x.Then true (by omega) ho2 hs.2.2.1 (by omega)
    have hz := hs.2.2.2.2.2
    rw [hz] at hr ⊢
    simp only [if_true, List.length_nil] at hr ⊢
    rw [need_ok (by omega), bind_some', need_ok (by first | omega | (simp only [List.length_append, List.length_cons, List.length_nil]; omega)), bind_some', need_ok (by first | omega | (simp only [List.length_append, List.length_cons, List.length_nil]; omega)), bind_some', hy, bind_some', he, bind_some', need_ok (by first | omega | (simp only [List.length_append, List.length_cons, List.length_nil]; omega)), bind_some', need_ok (by first | omega | (simp only [List.length_append, List.length_cons, List.length_nil]; omega)), bind_some', hT, bind_some', need_ok (by first | omega | (simp only [List.length_append, List.length_cons, List.length_nil]; omega)), bind_some', need_ok (by first | omega | (simp only [List.length_append, List.length_cons, List.length_nil]; omega)), bind_some']
    simp only [List.append_assoc, List.nil_append, List.cons_append]
  have b12 : (x.Kind == 12) = false := beq_eq_false_iff_ne.2 k12
  simp only [b12, Bool.false_eq_true, if_false] at hs
end
theorem rBlockW : ∀ n (l : List api_Node) (b : Bool), n ≤ 800000000 → nns l ≤ n → allL okT l → blockP l b = true → (blockW l).length ≤ room → R19_Write l = some (blockW l)
  | 0, l, b, _, h, _, _, _ => by
    cases l with
    | nil => rw [R19_Write, R19_Write_L1]; rfl
    | cons x r => have := nn_pos x; rw [nns] at h; omega
  | n + 1, l, b, hn, h, ho, hb, hr => by
    have hroom : room = 100000000000 := rfl
    have hl := nns_len l
    have key : ∀ k, k ≤ l.length → blockP (l.drop k) b = true → ∀ acc : List UInt8, acc.length + (blockW (l.drop k)).length ≤ room → R19_Write_L1 l acc k = some (acc ++ blockW (l.drop k)) := by
      refine upto ?_ fun k hk ihk => ?_
      · intro _ acc _
        rw [R19_Write_L1]; simp [blockW]
      · intro hb acc hr
        rw [dropE hk, blockP, Bool.and_eq_true, Bool.and_eq_true] at hb
        rw [dropE hk, blockW, List.length_append] at hr
        have hx := nns_mem (List.getElem_mem hk)
        rw [rStmtW n (by omega) (fun l b h1 => rBlockW n l b (by omega) h1) l k hk (by omega) (by omega) (allL_mem (List.getElem_mem hk) ho) hb.1 acc (by omega), ihk hb.2.2 _ (by rw [List.length_append]; omega), dropE hk, blockW, List.append_assoc]
    have k0 := key 0 (by omega) (by rw [List.drop_zero]; exact hb) [] (by rw [List.drop_zero]; simpa using hr)
    rw [R19_Write, show (0 : Int) = ((0 : Nat) : Int) from rfl, k0, List.drop_zero]
    rfl
theorem rPrint (l : List api_Node) (h : nns l ≤ 800000000) (ho : allL okT l) (hr : isP l = true → (blockW l).length ≤ room) : R19_Print l = some (printP l) := by
  rw [R19_Print, rIs l h ho, printP]
  cases hi : isP l with
  | false => rfl
  | true =>
    have hb : blockP l false = true := by
      have := hi
      rw [isP, Bool.and_eq_true, Bool.and_eq_true] at this
      exact this.2.2
    have e : decide ((((blockW l).length : Nat) : Int) > 65536) = !decide ((blockW l).length ≤ 65536) := by
      by_cases h1 : (blockW l).length ≤ 65536
      · rw [decide_eq_true h1, decide_eq_false (by omega)]; rfl
      · rw [decide_eq_false h1, decide_eq_true (by omega)]; rfl
    simp only [bind_some', Bool.not_true, Bool.false_eq_true, if_false, rBlockW 800000000 l false (by omega) h ho hb (hr hi), e, if_true]
    by_cases h1 : (blockW l).length ≤ 65536
    · rw [decide_eq_true h1, if_pos h1]; rfl
    · rw [decide_eq_false h1, if_neg h1]; rfl
/-- What Print hands back is taken. -/
theorem print_tokens (l : List api_Node) (h : nns l ≤ 800000000) (ho : allL okT l) : ∃ y, R18_Tokens (printP l).1 = some y ∧ y.2.2 = 0 := by
  rw [printP]
  cases hi : isP l with
  | false => exact tokens_ok [] (by simp) Ao.nil
  | true =>
    have hb : blockP l false = true := by
      rw [isP, Bool.and_eq_true, Bool.and_eq_true] at hi
      exact hi.2.2
    simp only [if_true]
    by_cases h1 : (blockW l).length ≤ 65536
    · rw [if_pos h1]
      have := (tkBlock 800000000 l false [] h ho hb rfl).1
      rw [List.append_nil] at this
      exact tokens_ok _ h1 this
    · rw [if_neg h1]; exact tokens_ok [] (by simp) Ao.nil
theorem sm_light (x : api_Node) (h1 : x.Name.length ≤ 40) (h2 : x.Text.length ≤ 60) (h3 : rngN x) : smB 200 x := by
  refine ⟨by omega, by omega, fun _ => ?_, h3⟩
  obtain ⟨q, q1, q2, q3⟩ := quoteBoth x.Text (by omega)
  rw [quoteP, q1]
  show q.1.length ≤ 200
  omega
theorem lawTreePrints (l : List api_Node) (h : allL rngN l) : nunciolaw19_TreePrints l = some true := by
  obtain ⟨h1, h2, h3⟩ := light_small l
  have ho := light_ok l h
  have hs : allL (smB 200) (lightP 15 l 60).1 := sms_all sm_light 60 _ h1 h3 (lightP_rng 15 l 60 h)
  have hw := blockW_len 200 60 _ h1 hs
  have hr : isP (lightP 15 l 60).1 = true → (blockW (lightP 15 l 60).1).length ≤ room := fun _ => by
    show _ ≤ 100000000000
    omega
  obtain ⟨y, y1, y2⟩ := print_tokens _ (by omega : nns (lightP 15 l 60).1 ≤ 800000000) ho
  rw [nunciolaw19_TreePrints, light_some]
  simp only [bind_some', tPrint _ (by omega : nns (lightP 15 l 60).1 ≤ 800000000) ho hr, rPrint _ (by omega : nns (lightP 15 l 60).1 ≤ 800000000) ho hr, y1, y2, beq_self_eq_true, if_true, awake19]
end Go.Proofs.Ytlhjieapkcnghaa
end

section
namespace Go.Proofs.Ytlhjieapkcnghaa
open Go.ChangeShapes Go.WideShapes Go.ChangeAt Go.RowKit

theorem Try.own : ownKnob Try.prog.godebug = none := by kernel_rfl
end Go.Proofs.Ytlhjieapkcnghaa
end
