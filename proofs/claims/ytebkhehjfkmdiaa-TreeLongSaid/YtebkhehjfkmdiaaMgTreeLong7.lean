/- The proof's texts, part 7 of 10: the walks by a logic in which data are by value, the plain laws, and at the end the law, for every input. -/
import Derived.Test.YtebkhehjfkmdiaaMgTreeLong6

section
set_option linter.unusedVariables false
set_option linter.unusedSimpArgs false
namespace Go.Proofs.Ytebkhehjfkmdiaa
open Go.RowKit

structure api_Node where
  Kind : Int
  Name : (List UInt8)
  Text : (List UInt8)
  N : Int
  L : (List api_Node)
  Then : (List api_Node)
  Else : (List api_Node)
mutual
noncomputable def c_api_Node : api_Node → List V
  | ⟨x0, x1, x2, x3, x4, x5, x6⟩ => [iV x0, sV x1, sV x2, iV x3, .sl false (cs_api_Node x4), .sl false (cs_api_Node x5), .sl false (cs_api_Node x6)]
noncomputable def cs_api_Node : List api_Node → List (List V)
  | [] => []
  | x :: r => c_api_Node x :: cs_api_Node r
end
theorem cs_api_Node_map : ∀ l : List api_Node, cs_api_Node l = l.map c_api_Node
  | [] => rfl
  | x :: r => by rw [cs_api_Node, cs_api_Node_map r]; rfl
noncomputable def l_api_Node (x : api_Node) : List V := [iV x.Kind, sV x.Name, sV x.Text, iV x.N, .sl false (x.L.map c_api_Node), .sl false (x.Then.map c_api_Node), .sl false (x.Else.map c_api_Node)]
theorem c_api_Node_eq (x : api_Node) : c_api_Node x = l_api_Node x := by cases x; simp [c_api_Node, l_api_Node, cs_api_Node_map]
structure tree_plan where
  name_ : Bool
  text_ : Bool
  num_ : Bool
  then_ : Bool
  other_ : Bool
  l_ : Int
noncomputable def t_R01_Begins (y : Bool) : D := .p (bV y)
noncomputable def R01_Begins_lv : List (Nat × List Nat) := [(0, [0, 1, 2]), (1, [6]), (3000001, [])]
noncomputable def R01_Begins_J0_0  (o1 : Bool) : St := ⟨[(6, .p (bV o1))], ⟨[], []⟩⟩
noncomputable def t_R01_Join (y : (List UInt8)) : D := .p (sV y)
noncomputable def R01_Join_lv : List (Nat × List Nat) := [(0, [0, 1]), (1, [0, 1, 5]), (2, [0, 1, 5, 6]), (3, [0, 1, 5, 6, 10]), (4, [0, 1, 5, 6]), (5, [0, 1, 5, 6, 14]), (6, [0, 1, 5, 6]), (7, [0, 1, 5, 6]), (8, [4]), (1000003, [0, 1, 5, 6])]
noncomputable def R01_Join_L1_st (p0 : (List (List UInt8))) (p1 : (List UInt8)) (v5 : (List UInt8)) (v6 : Int) : St := ⟨[(0, .p (.sl false (p0.map cStr))), (1, .p (sV p1)), (5, .p (sV v5)), (6, .p (iV v6))], ⟨[], []⟩⟩
noncomputable def R01_Join_L1_x0 (p0 : (List (List UInt8))) (p1 : (List UInt8)) (o1 : (List UInt8)) : St := ⟨[(5, .p (sV o1))], ⟨[], []⟩⟩
noncomputable def R01_Join_L1_c : Code := ((loopsOf (Try.f59.body.getD .skip)).getD 0 .skip)
noncomputable def t_R01_Text (y : (List UInt8)) : D := .p (sV y)
noncomputable def t_R02_Bytes (y : (List UInt8)) : D := .p (sV y)
noncomputable def R02_Bytes_lv : List (Nat × List Nat) := [(0, [0]), (1, [0, 5]), (2, [0]), (3, [0, 7]), (4, [2]), (5, [0, 13]), (6, [2]), (7, [0, 25]), (8, [2]), (9, [2]), (2001005, [])]
noncomputable def R02_Bytes_J0_0  (o1 : Int) : St := ⟨[(0, .p (iV o1))], ⟨[], []⟩⟩
noncomputable def t_R02_Is (y : Bool) : D := .p (bV y)
noncomputable def R02_Is_lv : List (Nat × List Nat) := [(0, [0]), (1, [0, 3]), (2, [0, 3, 9]), (3, [0, 3, 4, 5]), (4, [0, 3, 5, 21]), (5, [2]), (6, [0, 3]), (7, [2]), (1000002, [0, 3]), (3000004, [])]
noncomputable def R02_Is_J0_0 (p0 : (List UInt8)) (v3 : Int) (x4 : Int × Int) (o5 : Bool) : St := ⟨[(0, .p (sV p0)), (3, .p (iV v3)), (5, .p (iV x4.2)), (21, .p (bV o5))], ⟨[], []⟩⟩
noncomputable def R02_Is_L1_st (p0 : (List UInt8)) (v3 : Int) : St := ⟨[(0, .p (sV p0)), (3, .p (iV v3))], ⟨[], []⟩⟩
noncomputable def R02_Is_L1_x0 (p0 : (List UInt8)) (y2 : Unit) : St := ⟨[], ⟨[], []⟩⟩
noncomputable def R02_Is_L1_x1 (p0 : (List UInt8)) (y3 : Unit) : St := ⟨[(2, .p (bV false))], ⟨[], []⟩⟩
noncomputable def R02_Is_L1_c : Code := ((loopsOf (Try.f73.body.getD .skip)).getD 0 .skip)
noncomputable def t_R02_Next (y : Int × Int) : D := .tup [.p (iV y.1), .p (iV y.2)]
noncomputable def R02_Next_lv : List (Nat × List Nat) := [(0, [0, 1]), (1, [0, 1, 17]), (2, [4, 5]), (3, [0, 1, 6]), (4, [0, 1, 6, 7]), (5, [0, 1, 6, 7, 28]), (6, [0, 1, 6, 7]), (7, [0, 1, 6, 7, 8]), (8, [0, 1, 6, 7, 8, 9]), (9, [0, 1, 6, 7, 8, 9, 42]), (10, [0, 1, 6, 7, 8, 9]), (11, [0, 1, 6, 7, 8, 9]), (12, [0, 1, 6, 7, 8, 71]), (13, [4, 5]), (14, [4, 5]), (1000005, [0, 1, 6, 7]), (1000009, [0, 1, 6, 7, 8, 9]), (3000001, []), (3000005, []), (3000012, [])]
noncomputable def R02_Next_J0_0 (p0 : (List UInt8)) (p1 : Int) (o1 : Bool) : St := ⟨[(0, .p (sV p0)), (1, .p (iV p1)), (17, .p (bV o1))], ⟨[], []⟩⟩
noncomputable def R02_Next_J1_0 (p0 : (List UInt8)) (p1 : Int) (v6 : (List Int)) (v7 : Int) (o5 : Bool) : St := ⟨[(0, .p (sV p0)), (1, .p (iV p1)), (6, .p (.sl true (v6.map cInt))), (7, .p (iV v7)), (28, .p (bV o5))], ⟨[], []⟩⟩
noncomputable def R02_Next_L2_st (p0 : (List UInt8)) (p1 : Int) (v6 : (List Int)) (v7 : Int) (v8 : Int) (v9 : Int) : St := ⟨[(0, .p (sV p0)), (1, .p (iV p1)), (6, .p (.sl true (v6.map cInt))), (7, .p (iV v7)), (8, .p (iV v8)), (9, .p (iV v9))], ⟨[], []⟩⟩
noncomputable def R02_Next_L2_x0 (p0 : (List UInt8)) (p1 : Int) (v6 : (List Int)) (v7 : Int) (o8 : Int) : St := ⟨[(0, .p (sV p0)), (1, .p (iV p1)), (6, .p (.sl true (v6.map cInt))), (7, .p (iV v7)), (8, .p (iV o8))], ⟨[], []⟩⟩
noncomputable def R02_Next_L2_c : Code := ((loopsOf (Try.f86.body.getD .skip)).getD 1 .skip)
noncomputable def R02_Next_J2_0 (p0 : (List UInt8)) (p1 : Int) (v6 : (List Int)) (v7 : Int) (o8 : Int) (o10 : Bool) : St := ⟨[(0, .p (sV p0)), (1, .p (iV p1)), (6, .p (.sl true (v6.map cInt))), (7, .p (iV v7)), (8, .p (iV o8)), (71, .p (bV o10))], ⟨[], []⟩⟩
noncomputable def R02_Next_L1_st (p0 : (List UInt8)) (p1 : Int) (v6 : (List Int)) (v7 : Int) : St := ⟨[(0, .p (sV p0)), (1, .p (iV p1)), (6, .p (.sl true (v6.map cInt))), (7, .p (iV v7))], ⟨[], []⟩⟩
noncomputable def R02_Next_L1_x0 (p0 : (List UInt8)) (p1 : Int) (y3 : Unit) : St := ⟨[], ⟨[], []⟩⟩
noncomputable def R02_Next_L1_x1 (p0 : (List UInt8)) (p1 : Int) (y4 : Int × Int) : St := ⟨[(4, .p (iV y4.1)), (5, .p (iV y4.2))], ⟨[], []⟩⟩
noncomputable def R02_Next_L1_c : Code := ((loopsOf (Try.f86.body.getD .skip)).getD 0 .skip)
noncomputable def t_R02_Rune (y : Bool) : D := .p (bV y)
noncomputable def R02_Rune_lv : List (Nat × List Nat) := [(0, [0]), (1, [2]), (3000001, [])]
noncomputable def R02_Rune_J0_0  (o1 : Bool) : St := ⟨[(2, .p (bV o1))], ⟨[], []⟩⟩
noncomputable def t_R18_Quote (y : (List UInt8) × Bool) : D := .tup [.p (sV y.1), .p (bV y.2)]
noncomputable def R18_Quote_lv : List (Nat × List Nat) := [(0, [0]), (1, [0, 9]), (2, [2, 3]), (3, [0, 4]), (4, [0, 4, 5]), (5, [0, 4, 5, 13]), (6, [0, 4, 5]), (7, [0, 4, 5, 6]), (8, [0, 4, 5, 6, 22]), (9, [2, 3]), (10, [0, 4, 5, 6, 24]), (11, [0, 4, 5, 6]), (12, [0, 4, 5, 6, 26]), (13, [0, 4, 5, 6]), (14, [0, 4, 5, 6, 32]), (15, [0, 4, 5, 6]), (16, [0, 4, 5]), (17, [2, 3]), (1000005, [0, 4, 5]), (2010013, []), (3000014, [])]
noncomputable def R18_Quote_J0_0 (p0 : (List UInt8)) (v4 : (List UInt8)) (v5 : Int) (o6 : (List UInt8)) : St := ⟨[(0, .p (sV p0)), (4, .p (sV v4)), (5, .p (iV v5)), (6, .p (sV o6))], ⟨[], []⟩⟩
noncomputable def R18_Quote_J1_0 (p0 : (List UInt8)) (v4 : (List UInt8)) (v5 : Int) (x5 : (List UInt8)) (o7 : Bool) : St := ⟨[(0, .p (sV p0)), (4, .p (sV v4)), (5, .p (iV v5)), (6, .p (sV x5)), (32, .p (bV o7))], ⟨[], []⟩⟩
noncomputable def R18_Quote_L1_st (p0 : (List UInt8)) (v4 : (List UInt8)) (v5 : Int) : St := ⟨[(0, .p (sV p0)), (4, .p (sV v4)), (5, .p (iV v5))], ⟨[], []⟩⟩
noncomputable def R18_Quote_L1_x0 (p0 : (List UInt8)) (y3 : (List UInt8)) : St := ⟨[(4, .p (sV y3))], ⟨[], []⟩⟩
noncomputable def R18_Quote_L1_x1 (p0 : (List UInt8)) (y4 : Unit) : St := ⟨[(2, .p (sV [])), (3, .p (bV false))], ⟨[], []⟩⟩
noncomputable def R18_Quote_L1_c : Code := ((loopsOf (Try.f57.body.getD .skip)).getD 0 .skip)
noncomputable def t_R18_Word (y : Bool) : D := .p (bV y)
noncomputable def R18_Word_lv : List (Nat × List Nat) := [(0, [0]), (1, [0, 17]), (2, [2]), (3, [0, 3]), (4, [0, 3, 21]), (5, [0, 3]), (6, [0, 3, 41]), (7, [2]), (8, [2]), (1000004, [0, 3]), (3000001, []), (3000006, [])]
noncomputable def R18_Word_J0_0 (p0 : (List UInt8)) (o1 : Bool) : St := ⟨[(0, .p (sV p0)), (17, .p (bV o1))], ⟨[], []⟩⟩
noncomputable def R18_Word_J1_0 (p0 : (List UInt8)) (v3 : Int) (o7 : Bool) : St := ⟨[(0, .p (sV p0)), (3, .p (iV v3)), (41, .p (bV o7))], ⟨[], []⟩⟩
noncomputable def R18_Word_L1_st (p0 : (List UInt8)) (v3 : Int) : St := ⟨[(0, .p (sV p0)), (3, .p (iV v3))], ⟨[], []⟩⟩
noncomputable def R18_Word_L1_x0 (p0 : (List UInt8)) (y5 : Unit) : St := ⟨[], ⟨[], []⟩⟩
noncomputable def R18_Word_L1_x1 (p0 : (List UInt8)) (y6 : Unit) : St := ⟨[(2, .p (bV false))], ⟨[], []⟩⟩
noncomputable def R18_Word_L1_c : Code := ((loopsOf (Try.f85.body.getD .skip)).getD 0 .skip)
noncomputable def t_R18_digit (y : Bool) : D := .p (bV y)
noncomputable def R18_digit_lv : List (Nat × List Nat) := [(0, [0]), (1, [2]), (3000001, [])]
noncomputable def R18_digit_J0_0  (o1 : Bool) : St := ⟨[(2, .p (bV o1))], ⟨[], []⟩⟩
noncomputable def t_R18_small (y : Bool) : D := .p (bV y)
noncomputable def R18_small_lv : List (Nat × List Nat) := [(0, [0]), (1, [2]), (3000001, [])]
noncomputable def R18_small_J0_0  (o1 : Bool) : St := ⟨[(2, .p (bV o1))], ⟨[], []⟩⟩
noncomputable def t_R19_Count (y : Int) : D := .p (iV y)
noncomputable def R19_Count_lv : List (Nat × List Nat) := [(0, [0]), (1, [0, 3]), (2, [0, 3, 4]), (3, [0, 3, 4, 8]), (4, [0, 3, 4]), (5, [0, 3, 4]), (6, [2]), (1000003, [0, 3, 4])]
noncomputable def R19_Count_L1_st (p0 : (List api_Node)) (v3 : Int) (v4 : Int) : St := ⟨[(0, .p (.sl false (p0.map c_api_Node))), (3, .p (iV v3)), (4, .p (iV v4))], ⟨[], []⟩⟩
noncomputable def R19_Count_L1_x0 (p0 : (List api_Node)) (o1 : Int) : St := ⟨[(3, .p (iV o1))], ⟨[], []⟩⟩
noncomputable def R19_Count_L1_c : Code := ((loopsOf (Try.f45.body.getD .skip)).getD 0 .skip)
noncomputable def t_R19_Deep (y : Int) : D := .p (iV y)
noncomputable def R19_Deep_lv : List (Nat × List Nat) := [(0, [0]), (1, [0, 3]), (2, [0, 3, 4]), (3, [0, 3, 4, 8]), (4, [0, 3, 4]), (5, [0, 3, 4]), (6, [2]), (1000003, [0, 3, 4])]
noncomputable def R19_Deep_L1_st (p0 : (List api_Node)) (v3 : Int) (v4 : Int) : St := ⟨[(0, .p (.sl false (p0.map c_api_Node))), (3, .p (iV v3)), (4, .p (iV v4))], ⟨[], []⟩⟩
noncomputable def R19_Deep_L1_x0 (p0 : (List api_Node)) (o1 : Int) : St := ⟨[(3, .p (iV o1))], ⟨[], []⟩⟩
noncomputable def R19_Deep_L1_c : Code := ((loopsOf (Try.f44.body.getD .skip)).getD 0 .skip)
noncomputable def t_R19_Expr (y : (List UInt8)) : D := .p (sV y)
noncomputable def R19_Expr_lv : List (Nat × List Nat) := [(0, [1]), (1, [1, 8]), (2, [1, 8, 9]), (3, [3]), (4, [2]), (5, [1, 8, 18]), (6, [2]), (7, [1, 8, 23]), (8, [27]), (9, [2]), (10, [2]), (11, [1, 8, 28]), (12, [2]), (13, [1, 8, 32]), (14, [2]), (15, [1, 43]), (16, [2]), (17, [1, 5]), (18, [1, 5, 6]), (19, [1, 5, 6, 54]), (20, [1, 5, 6]), (21, [1, 5, 6]), (22, [2]), (1000019, [1, 5, 6])]
noncomputable def R19_Expr_L1_st (p0 : api_Node) (v5 : (List (List UInt8))) (v6 : Int) : St := ⟨[(1, .ptr 0 0), (5, .own 0 9 1 (v5.map cStr)), (6, .p (iV v6))], ⟨[[.p (iV p0.Kind), .p (sV p0.Name), .p (sV p0.Text), .p (iV p0.N), .p (.sl false (p0.L.map c_api_Node)), .p (.sl false (p0.Then.map c_api_Node)), .p (.sl false (p0.Else.map c_api_Node))]], [(v5.map cStr).length]⟩⟩
noncomputable def R19_Expr_L1_x0 (p0 : api_Node) (o5 : (List (List UInt8))) : St := ⟨[(1, .ptr 0 0), (5, .own 0 9 1 (o5.map cStr))], ⟨[[.p (iV p0.Kind), .p (sV p0.Name), .p (sV p0.Text), .p (iV p0.N), .p (.sl false (p0.L.map c_api_Node)), .p (.sl false (p0.Then.map c_api_Node)), .p (.sl false (p0.Else.map c_api_Node))]], [(o5.map cStr).length]⟩⟩
noncomputable def R19_Expr_L1_c : Code := ((loopsOf (Try.f46.body.getD .skip)).getD 0 .skip)
noncomputable def t_R19_Is (y : Bool) : D := .p (bV y)
noncomputable def R19_Is_lv : List (Nat × List Nat) := [(0, [0]), (1, [2]), (3000001, [])]
noncomputable def R19_Is_J0_0  (o1 : Bool) : St := ⟨[(2, .p (bV o1))], ⟨[], []⟩⟩
noncomputable def t_R19_Name (y : Bool) : D := .p (bV y)
noncomputable def R19_Name_lv : List (Nat × List Nat) := [(0, [0]), (1, [0, 3]), (2, [0, 3, 4]), (3, [0, 3, 4, 9]), (4, [0, 3, 4]), (5, [0, 3, 4, 17]), (6, [2]), (7, [2]), (1000003, [0, 3, 4])]
noncomputable def R19_Name_L1_st (p0 : (List UInt8)) (x1 : (List (List UInt8))) (v4 : Int) : St := ⟨[(0, .p (sV p0)), (3, .p (.sl false (x1.map cStr))), (4, .p (iV v4))], ⟨[], []⟩⟩
noncomputable def R19_Name_L1_x0 (p0 : (List UInt8)) (x1 : (List (List UInt8))) (y3 : Unit) : St := ⟨[(0, .p (sV p0))], ⟨[], []⟩⟩
noncomputable def R19_Name_L1_x1 (p0 : (List UInt8)) (x1 : (List (List UInt8))) (y4 : Unit) : St := ⟨[(2, .p (bV false))], ⟨[], []⟩⟩
noncomputable def R19_Name_L1_c : Code := ((loopsOf (Try.f72.body.getD .skip)).getD 0 .skip)
noncomputable def t_R19_Print (y : (List UInt8) × Bool) : D := .tup [.p (sV y.1), .p (bV y.2)]
noncomputable def R19_Print_lv : List (Nat × List Nat) := [(0, [0]), (1, [0, 7]), (2, [2, 3]), (3, [4]), (4, [4, 12]), (5, [2, 3]), (6, [2, 3])]
noncomputable def t_R19_Words (y : (List (List UInt8))) : D := .p (.sl false (y.map cStr))
noncomputable def R19_Words_lv : List (Nat × List Nat) := [(0, []), (1, [0])]
noncomputable def t_R19_Write (y : (List UInt8)) : D := .p (sV y)
noncomputable def R19_Write_lv : List (Nat × List Nat) := [(0, [0]), (1, [0, 3]), (2, [0, 3, 4]), (3, [0, 3, 4, 9]), (4, [0, 3, 4]), (5, [0, 3, 4, 5]), (6, [0, 3, 4, 5, 17]), (7, [0, 3, 4]), (8, [0, 3, 4, 5, 17, 36]), (9, [0, 3, 4]), (10, [0, 3, 4, 5, 17, 42]), (11, [0, 3, 4]), (12, [0, 3, 4, 5, 17, 53]), (13, [0, 3, 4]), (14, [0, 3, 4, 5, 17, 68]), (15, [0, 3, 4, 5]), (16, [0, 3, 4, 5, 86]), (17, [0, 3, 4]), (18, [0, 3, 4]), (19, [0, 3, 4, 5, 95]), (20, [0, 3, 4]), (21, [2]), (1000003, [0, 3, 4])]
noncomputable def R19_Write_L1_st (p0 : (List api_Node)) (v3 : (List UInt8)) (v4 : Int) : St := ⟨[(0, .p (.sl false (p0.map c_api_Node))), (3, .p (sV v3)), (4, .p (iV v4))], ⟨[], []⟩⟩
noncomputable def R19_Write_L1_x0 (p0 : (List api_Node)) (o1 : (List UInt8)) : St := ⟨[(3, .p (sV o1))], ⟨[], []⟩⟩
noncomputable def R19_Write_L1_c : Code := ((loopsOf (Try.f24.body.getD .skip)).getD 0 .skip)
noncomputable def t_R19_bare (y : Bool) : D := .p (bV y)
noncomputable def R19_bare_lv : List (Nat × List Nat) := [(0, [1, 2, 3, 4, 5, 6]), (1, [12]), (3000001, [])]
noncomputable def R19_bare_J0_0 (p0 : api_Node) (o1 : Bool) : St := ⟨[(12, .p (bV o1))], ⟨[[.p (iV p0.Kind), .p (sV p0.Name), .p (sV p0.Text), .p (iV p0.N), .p (.sl false (p0.L.map c_api_Node)), .p (.sl false (p0.Then.map c_api_Node)), .p (.sl false (p0.Else.map c_api_Node))]], []⟩⟩
noncomputable def t_R19_block (y : Bool) : D := .p (bV y)
noncomputable def R19_block_lv : List (Nat × List Nat) := [(0, [0, 1]), (1, [0, 1, 5]), (2, [0, 1, 5, 11]), (3, [0, 1, 5]), (4, [0, 1, 5, 19]), (5, [4]), (6, [0, 1, 5, 25]), (7, [0, 1, 5, 6]), (8, [0, 1, 5, 6, 7]), (9, [0, 1, 5, 61]), (10, [4]), (11, [4]), (1000002, [0, 1, 5]), (3000009, [])]
noncomputable def R19_block_J0_0 (p0 : (List api_Node)) (p1 : Bool) (v5 : Int) (o8 : Bool) : St := ⟨[(0, .p (.sl false (p0.map c_api_Node))), (1, .p (bV p1)), (5, .p (iV v5)), (61, .p (bV o8))], ⟨[], []⟩⟩
noncomputable def R19_block_L1_st (p0 : (List api_Node)) (p1 : Bool) (v5 : Int) : St := ⟨[(0, .p (.sl false (p0.map c_api_Node))), (1, .p (bV p1)), (5, .p (iV v5))], ⟨[], []⟩⟩
noncomputable def R19_block_L1_x0 (p0 : (List api_Node)) (p1 : Bool) (y2 : Unit) : St := ⟨[], ⟨[], []⟩⟩
noncomputable def R19_block_L1_x1 (p0 : (List api_Node)) (p1 : Bool) (y3 : Unit) : St := ⟨[(4, .p (bV false))], ⟨[], []⟩⟩
noncomputable def R19_block_L1_c : Code := ((loopsOf (Try.f43.body.getD .skip)).getD 0 .skip)
noncomputable def t_R19_expr (y : Bool) : D := .p (bV y)
noncomputable def R19_expr_lv : List (Nat × List Nat) := [(0, [1]), (1, [1, 6]), (2, [1, 6, 7]), (3, [1, 4]), (4, [2]), (5, [1, 6, 20]), (6, [2]), (7, [1, 6, 24]), (8, [2]), (9, [1, 6, 38]), (10, [2]), (11, [1, 6, 47]), (12, [2]), (13, [1, 6, 67]), (14, [2]), (15, [1, 87]), (16, [2]), (17, [2]), (3000004, []), (3000008, []), (3000010, []), (3000012, []), (3000014, []), (3000016, [])]
noncomputable def R19_expr_J0_0 (p0 : api_Node) (o2 : Bool) : St := ⟨[(2, .p (bV o2))], ⟨[[.p (iV p0.Kind), .p (sV p0.Name), .p (sV p0.Text), .p (iV p0.N), .p (.sl false (p0.L.map c_api_Node)), .p (.sl false (p0.Then.map c_api_Node)), .p (.sl false (p0.Else.map c_api_Node))]], []⟩⟩
noncomputable def R19_expr_J1_0 (p0 : api_Node) (o5 : Bool) : St := ⟨[(2, .p (bV o5))], ⟨[[.p (iV p0.Kind), .p (sV p0.Name), .p (sV p0.Text), .p (iV p0.N), .p (.sl false (p0.L.map c_api_Node)), .p (.sl false (p0.Then.map c_api_Node)), .p (.sl false (p0.Else.map c_api_Node))]], []⟩⟩
noncomputable def R19_expr_J2_0 (p0 : api_Node) (o8 : Bool) : St := ⟨[(2, .p (bV o8))], ⟨[[.p (iV p0.Kind), .p (sV p0.Name), .p (sV p0.Text), .p (iV p0.N), .p (.sl false (p0.L.map c_api_Node)), .p (.sl false (p0.Then.map c_api_Node)), .p (.sl false (p0.Else.map c_api_Node))]], []⟩⟩
noncomputable def R19_expr_J3_0 (p0 : api_Node) (o11 : Bool) : St := ⟨[(2, .p (bV o11))], ⟨[[.p (iV p0.Kind), .p (sV p0.Name), .p (sV p0.Text), .p (iV p0.N), .p (.sl false (p0.L.map c_api_Node)), .p (.sl false (p0.Then.map c_api_Node)), .p (.sl false (p0.Else.map c_api_Node))]], []⟩⟩
noncomputable def R19_expr_J4_0 (p0 : api_Node) (o15 : Bool) : St := ⟨[(2, .p (bV o15))], ⟨[[.p (iV p0.Kind), .p (sV p0.Name), .p (sV p0.Text), .p (iV p0.N), .p (.sl false (p0.L.map c_api_Node)), .p (.sl false (p0.Then.map c_api_Node)), .p (.sl false (p0.Else.map c_api_Node))]], []⟩⟩
noncomputable def R19_expr_J5_0 (p0 : api_Node) (o19 : Bool) : St := ⟨[(2, .p (bV o19))], ⟨[[.p (iV p0.Kind), .p (sV p0.Name), .p (sV p0.Text), .p (iV p0.N), .p (.sl false (p0.L.map c_api_Node)), .p (.sl false (p0.Then.map c_api_Node)), .p (.sl false (p0.Else.map c_api_Node))]], []⟩⟩
noncomputable def t_R19_exprs (y : Bool) : D := .p (bV y)
noncomputable def R19_exprs_lv : List (Nat × List Nat) := [(0, [0]), (1, [0, 3]), (2, [0, 3, 7]), (3, [0, 3]), (4, [0, 3, 15]), (5, [2]), (6, [2]), (1000002, [0, 3])]
noncomputable def R19_exprs_L1_st (p0 : (List api_Node)) (v3 : Int) : St := ⟨[(0, .p (.sl false (p0.map c_api_Node))), (3, .p (iV v3))], ⟨[], []⟩⟩
noncomputable def R19_exprs_L1_x0 (p0 : (List api_Node)) (y2 : Unit) : St := ⟨[], ⟨[], []⟩⟩
noncomputable def R19_exprs_L1_x1 (p0 : (List api_Node)) (y3 : Unit) : St := ⟨[(2, .p (bV false))], ⟨[], []⟩⟩
noncomputable def R19_exprs_L1_c : Code := ((loopsOf (Try.f69.body.getD .skip)).getD 0 .skip)
noncomputable def t_R19_stands (y : Bool) : D := .p (bV y)
noncomputable def R19_stands_lv : List (Nat × List Nat) := [(0, [0, 1]), (1, [0, 1, 5]), (2, [0, 1, 5, 9]), (3, [0, 1, 5]), (4, [0, 1, 5, 15]), (5, [4]), (6, [4]), (1000002, [0, 1, 5])]
noncomputable def R19_stands_L1_st (p0 : (List UInt8)) (p1 : (List UInt8)) (v5 : Int) : St := ⟨[(0, .p (sV p0)), (1, .p (sV p1)), (5, .p (iV v5))], ⟨[], []⟩⟩
noncomputable def R19_stands_L1_x0 (p0 : (List UInt8)) (p1 : (List UInt8)) (y2 : Unit) : St := ⟨[], ⟨[], []⟩⟩
noncomputable def R19_stands_L1_x1 (p0 : (List UInt8)) (p1 : (List UInt8)) (y3 : Unit) : St := ⟨[(4, .p (bV true))], ⟨[], []⟩⟩
noncomputable def R19_stands_L1_c : Code := ((loopsOf (Try.f70.body.getD .skip)).getD 0 .skip)
noncomputable def t_R19_stmt (y : Bool) : D := .p (bV y)
noncomputable def R19_stmt_lv : List (Nat × List Nat) := [(0, [1]), (1, [1, 3]), (2, [1, 3, 14]), (3, [1, 3, 14, 15]), (4, [2]), (5, [1, 3, 14, 30]), (6, [2]), (7, [1, 3, 14, 37]), (8, [2]), (9, [1, 3, 14, 54]), (10, [1, 3, 14, 54]), (11, [2]), (12, [1, 3, 72]), (13, [2]), (14, [2]), (2009005, []), (3000001, []), (3000004, []), (3000006, []), (3000008, []), (3000011, []), (3000013, [])]
noncomputable def R19_stmt_J0_0 (p0 : api_Node) (o1 : Bool) : St := ⟨[(1, .ptr 0 0), (3, .p (bV o1))], ⟨[[.p (iV p0.Kind), .p (sV p0.Name), .p (sV p0.Text), .p (iV p0.N), .p (.sl false (p0.L.map c_api_Node)), .p (.sl false (p0.Then.map c_api_Node)), .p (.sl false (p0.Else.map c_api_Node))]], []⟩⟩
noncomputable def R19_stmt_J1_0 (p0 : api_Node) (o3 : Bool) : St := ⟨[(2, .p (bV o3))], ⟨[[.p (iV p0.Kind), .p (sV p0.Name), .p (sV p0.Text), .p (iV p0.N), .p (.sl false (p0.L.map c_api_Node)), .p (.sl false (p0.Then.map c_api_Node)), .p (.sl false (p0.Else.map c_api_Node))]], []⟩⟩
noncomputable def R19_stmt_J2_0 (p0 : api_Node) (o6 : Bool) : St := ⟨[(2, .p (bV o6))], ⟨[[.p (iV p0.Kind), .p (sV p0.Name), .p (sV p0.Text), .p (iV p0.N), .p (.sl false (p0.L.map c_api_Node)), .p (.sl false (p0.Then.map c_api_Node)), .p (.sl false (p0.Else.map c_api_Node))]], []⟩⟩
noncomputable def R19_stmt_J3_0 (p0 : api_Node) (o8 : Bool) : St := ⟨[(2, .p (bV o8))], ⟨[[.p (iV p0.Kind), .p (sV p0.Name), .p (sV p0.Text), .p (iV p0.N), .p (.sl false (p0.L.map c_api_Node)), .p (.sl false (p0.Then.map c_api_Node)), .p (.sl false (p0.Else.map c_api_Node))]], []⟩⟩
noncomputable def R19_stmt_J4_0 (p0 : api_Node) (o1 : Bool) (o12 : Bool) : St := ⟨[(1, .ptr 0 0), (3, .p (bV o1)), (14, .p (iV p0.Kind)), (54, .p (bV o12))], ⟨[[.p (iV p0.Kind), .p (sV p0.Name), .p (sV p0.Text), .p (iV p0.N), .p (.sl false (p0.L.map c_api_Node)), .p (.sl false (p0.Then.map c_api_Node)), .p (.sl false (p0.Else.map c_api_Node))]], []⟩⟩
noncomputable def R19_stmt_J5_0 (p0 : api_Node) (o13 : Bool) : St := ⟨[(2, .p (bV o13))], ⟨[[.p (iV p0.Kind), .p (sV p0.Name), .p (sV p0.Text), .p (iV p0.N), .p (.sl false (p0.L.map c_api_Node)), .p (.sl false (p0.Then.map c_api_Node)), .p (.sl false (p0.Else.map c_api_Node))]], []⟩⟩
noncomputable def R19_stmt_J6_0 (p0 : api_Node) (o17 : Bool) : St := ⟨[(2, .p (bV o17))], ⟨[[.p (iV p0.Kind), .p (sV p0.Name), .p (sV p0.Text), .p (iV p0.N), .p (.sl false (p0.L.map c_api_Node)), .p (.sl false (p0.Then.map c_api_Node)), .p (.sl false (p0.Else.map c_api_Node))]], []⟩⟩
noncomputable def t_internal_stringslite_HasSuffix (y : Bool) : D := .p (bV y)
noncomputable def internal_stringslite_HasSuffix_lv : List (Nat × List Nat) := [(0, [0, 1]), (1, [4]), (3000001, [])]
noncomputable def internal_stringslite_HasSuffix_J0_0  (o1 : Bool) : St := ⟨[(4, .p (bV o1))], ⟨[], []⟩⟩
noncomputable def t_internal_stringslite_Index (y : Int) : D := .p (iV y)
noncomputable def t_internal_stringslite_IndexByte (y : Int) : D := .p (iV y)
noncomputable def t_lex_Quote (y : (List UInt8) × Bool) : D := .tup [.p (sV y.1), .p (bV y.2)]
noncomputable def lex_Quote_lv : List (Nat × List Nat) := [(0, [0]), (1, [0, 14]), (2, [2, 3]), (3, [0, 4]), (4, [0, 4, 17, 18]), (5, [0, 4, 17, 18, 19]), (6, [0, 4, 5, 17, 18]), (7, [0, 4, 6, 17, 18]), (8, [0, 4, 6, 17, 18, 24]), (9, [0, 4, 17, 18]), (10, [0, 4, 6, 17, 18, 24, 29]), (11, [0, 4, 17, 18]), (12, [0, 4, 6, 17, 18, 24, 33]), (13, [0, 4, 17, 18]), (14, [0, 4, 6, 17, 18, 24, 37]), (15, [0, 4, 6, 17, 18, 37]), (16, [0, 4, 17, 18]), (17, [0, 4, 17, 18]), (18, [2, 3]), (1000005, [0, 4, 17, 18]), (2014005, []), (3000001, [])]
noncomputable def lex_Quote_J0_0 (p0 : (List UInt8)) (o1 : Bool) : St := ⟨[(0, .p (sV p0)), (14, .p (bV o1))], ⟨[], []⟩⟩
noncomputable def lex_Quote_J1_0 (p0 : (List UInt8)) (v4 : (List Int)) (v18 : Int) (x5 : UInt8) (o8 : Bool) : St := ⟨[(0, .p (sV p0)), (4, .own 0 1000005 1 (v4.map (cNum .u8))), (6, .p (nV .u8 (x5.toNat : Int))), (17, .p (iV (p0.length : Int))), (18, .p (iV v18)), (37, .p (bV o8))], ⟨[], [(v4.map (cNum .u8)).length]⟩⟩
noncomputable def lex_Quote_L1_st (p0 : (List UInt8)) (v4 : (List Int)) (v18 : Int) : St := ⟨[(0, .p (sV p0)), (4, .own 0 1000005 1 (v4.map (cNum .u8))), (17, .p (iV (p0.length : Int))), (18, .p (iV v18))], ⟨[], [(v4.map (cNum .u8)).length]⟩⟩
noncomputable def lex_Quote_L1_x0 (p0 : (List UInt8)) (o4 : (List Int)) : St := ⟨[(4, .own 0 1000005 1 (o4.map (cNum .u8)))], ⟨[], [(o4.map (cNum .u8)).length]⟩⟩
noncomputable def lex_Quote_L1_c : Code := ((loopsOf (Try.f67.body.getD .skip)).getD 0 .skip)
noncomputable def t_lex_Word (y : Bool) : D := .p (bV y)
noncomputable def lex_Word_lv : List (Nat × List Nat) := [(0, [0]), (1, [0, 5, 6]), (2, [0, 5, 6, 7]), (3, [0, 3, 5, 6]), (4, [0, 5, 6, 13]), (5, [2]), (6, [0, 5, 6]), (7, [2]), (1000002, [0, 5, 6]), (3000007, [])]
noncomputable def lex_Word_L1_st (p0 : (List UInt8)) (v6 : Int) : St := ⟨[(0, .p (sV p0)), (5, .p (iV (p0.length : Int))), (6, .p (iV v6))], ⟨[], []⟩⟩
noncomputable def lex_Word_L1_x0 (p0 : (List UInt8)) (y2 : Unit) : St := ⟨[(0, .p (sV p0))], ⟨[], []⟩⟩
noncomputable def lex_Word_L1_x1 (p0 : (List UInt8)) (y3 : Unit) : St := ⟨[(2, .p (bV false))], ⟨[], []⟩⟩
noncomputable def lex_Word_L1_c : Code := ((loopsOf (Try.f76.body.getD .skip)).getD 0 .skip)
noncomputable def lex_Word_J0_0  (o6 : Bool) : St := ⟨[(2, .p (bV o6))], ⟨[], []⟩⟩
noncomputable def t_lex_digit (y : Bool) : D := .p (bV y)
noncomputable def lex_digit_lv : List (Nat × List Nat) := [(0, [0]), (1, [2]), (3000001, [])]
noncomputable def lex_digit_J0_0  (o1 : Bool) : St := ⟨[(2, .p (bV o1))], ⟨[], []⟩⟩
noncomputable def t_lex_letter (y : Bool) : D := .p (bV y)
noncomputable def lex_letter_lv : List (Nat × List Nat) := [(0, [0]), (1, [2]), (3000001, [])]
noncomputable def lex_letter_J0_0  (o1 : Bool) : St := ⟨[(2, .p (bV o1))], ⟨[], []⟩⟩
noncomputable def t_nunciolaw19_TreeLong (y : Bool) : D := .p (bV y)
noncomputable def nunciolaw19_TreeLong_lv : List (Nat × List Nat) := [(0, [0, 1, 2]), (1, [2, 7]), (2, [2, 7, 8]), (3, [2, 7, 8, 23]), (4, [2, 7, 8]), (5, [2, 7, 8]), (6, [2, 7, 9]), (7, [2, 7, 9, 32]), (8, [2, 9]), (9, [9, 39]), (10, [9]), (11, [9, 10, 11]), (12, [10, 11, 12, 13]), (13, [6]), (1000003, [2, 7, 8]), (2007005, []), (2009005, []), (3000013, []), (9000001, [5, 0, 0, 0]), (9000003, [2, 0, 0, 0]), (9000005, [2, 0, 0, 0, 3, 1, 7, 0]), (9000007, [1, 0, 0, 0]), (9500008, [])]
noncomputable def nunciolaw19_TreeLong_L1_st (p2 : Bool) (v7 : (List Int)) (v8 : Int) : St := ⟨[(2, .p (bV p2)), (7, .x 0 1 (.sl 5 1 (v7.map (cNum .u8)))), (8, .p (iV v8))], ⟨[], [1]⟩⟩
noncomputable def nunciolaw19_TreeLong_L1_x0 (p2 : Bool) (o2 : (List Int)) : St := ⟨[(2, .p (bV p2)), (7, .x 0 1 (.sl 5 1 (o2.map (cNum .u8))))], ⟨[], [1]⟩⟩
noncomputable def nunciolaw19_TreeLong_L1_c : Code := ((loopsOf (Try.f4.body.getD .skip)).getD 0 .skip)
noncomputable def nunciolaw19_TreeLong_J0_0 (p2 : Bool) (o4 : (List api_Node)) : St := ⟨[(2, .p (bV p2)), (9, .own 1 39 7 (o4.map c_api_Node))], ⟨[], [1, (o4.map c_api_Node).length]⟩⟩
noncomputable def nunciolaw19_TreeLong_J1_0  (o7 : (List api_Node)) : St := ⟨[(9, .own 1 39 7 (o7.map c_api_Node))], ⟨[], [1, (o7.map c_api_Node).length]⟩⟩
noncomputable def nunciolaw19_TreeLong_J2_0 (o7 : (List api_Node)) (o11 : Bool) : St := ⟨[(6, .p (bV o11))], ⟨[], [1, (o7.map c_api_Node).length]⟩⟩
noncomputable def t_nunciolaw19_awake (y : Bool) : D := .p (bV y)
noncomputable def nunciolaw19_awake_lv : List (Nat × List Nat) := [(0, []), (1, [1, 2]), (2, [1, 2, 3, 4]), (3, [0]), (3000003, [])]
noncomputable def nunciolaw19_awake_J0_0  (o3 : Bool) : St := ⟨[(0, .p (bV o3))], ⟨[], []⟩⟩
noncomputable def t_octet_Text (y : (List UInt8)) : D := .p (sV y)
noncomputable def t_slices_ContainsFunc_api_Node_api_Node_tree_expr_1 (y : Bool) : D := .p (bV y)
noncomputable def slices_ContainsFunc_api_Node_api_Node_tree_expr_1_lv : List (Nat × List Nat) := [(0, [0, 1]), (1, [4])]
noncomputable def t_slices_IndexFunc_api_Node_api_Node_tree_expr_1 (y : Int) : D := .p (iV y)
noncomputable def slices_IndexFunc_api_Node_api_Node_tree_expr_1_lv : List (Nat × List Nat) := [(0, [0, 1]), (1, [0, 1, 7, 8]), (2, [0, 1, 7, 8, 9]), (3, [0, 1, 5, 7, 8]), (4, [0, 1, 5, 7, 8, 16]), (5, [4]), (6, [0, 1, 7, 8]), (7, [4]), (1000002, [0, 1, 7, 8])]
noncomputable def slices_IndexFunc_api_Node_api_Node_tree_expr_1_L1_st (p0 : (List api_Node)) (v8 : Int) : St := ⟨[(0, .p (.sl false (p0.map c_api_Node))), (1, .fn (.func 78) [] []), (7, .p (iV (p0.length : Int))), (8, .p (iV v8))], ⟨[], []⟩⟩
noncomputable def slices_IndexFunc_api_Node_api_Node_tree_expr_1_L1_x0 (p0 : (List api_Node)) (y2 : Unit) : St := ⟨[], ⟨[], []⟩⟩
noncomputable def slices_IndexFunc_api_Node_api_Node_tree_expr_1_L1_x1 (p0 : (List api_Node)) (y3 : Int) : St := ⟨[(4, .p (iV y3))], ⟨[], []⟩⟩
noncomputable def slices_IndexFunc_api_Node_api_Node_tree_expr_1_L1_c : Code := ((loopsOf (Try.f89.body.getD .skip)).getD 0 .skip)
noncomputable def t_strings_Builder_Len_2 (y : Int) : D := .p (iV y)
noncomputable def strings_Builder_Len_2_lv : List (Nat × List Nat) := [(0, [0]), (1, [2])]
noncomputable def t_strings_Builder_String_2 (y : (List UInt8)) : D := .p (sV y)
noncomputable def t_strings_Builder_WriteString_2 (y : Int × Unit × Bool × (List Int)) : D := .tup [.p (iV y.1), .p (.v .nilIface)]
noncomputable def strings_Builder_WriteString_2_lv : List (Nat × List Nat) := [(0, [0, 1]), (1, [0, 1]), (2, [1]), (3, [4, 5])]
noncomputable def t_strings_Builder_copyCheck_2 (_ : Bool) : D := .tup []
noncomputable def t_strings_Contains (y : Bool) : D := .p (bV y)
noncomputable def strings_Contains_lv : List (Nat × List Nat) := [(0, [0, 1]), (1, [4])]
noncomputable def t_strings_HasSuffix (y : Bool) : D := .p (bV y)
noncomputable def strings_HasSuffix_lv : List (Nat × List Nat) := [(0, [0, 1]), (1, [4])]
noncomputable def t_strings_Index (y : Int) : D := .p (iV y)
noncomputable def strings_Index_lv : List (Nat × List Nat) := [(0, [0, 1]), (1, [4])]
noncomputable def t_strings_IndexByte (y : Int) : D := .p (iV y)
noncomputable def strings_IndexByte_lv : List (Nat × List Nat) := [(0, [0, 1]), (1, [4])]
noncomputable def t_tree_Count (y : Int) : D := .p (iV y)
noncomputable def tree_Count_lv : List (Nat × List Nat) := [(0, [0]), (1, [0, 3]), (2, [3, 5]), (3, [3, 5]), (4, [2]), (4000003, [3, 5])]
noncomputable def tree_Count_L1_st (x1 : (List api_Node) × Int) (h0_0 : Int) : St := ⟨[(3, .ptr 0 0), (5, .fn (.func 60) [] [.p (.ep [.sl false (x1.1.map c_api_Node)]), .p (.ep [iV x1.2])])], ⟨[[.p (iV h0_0)]], []⟩⟩
noncomputable def tree_Count_L1_x0 (x1 : (List api_Node) × Int) (o6 : Int) : St := ⟨[(3, .ptr 0 0), (5, .fn (.func 60) [] [.p (.ep [.sl false (x1.1.map c_api_Node)]), .p (.ep [iV x1.2])])], ⟨[[.p (iV o6)]], []⟩⟩
noncomputable def tree_Count_L1_c : Code := ((loopsOf (Try.f39.body.getD .skip)).getD 0 .skip)
noncomputable def t_tree_Deep (y : Int) : D := .p (iV y)
noncomputable def tree_Deep_lv : List (Nat × List Nat) := [(0, [0, 5]), (1, [0, 3, 5]), (2, [3, 5, 7]), (3, [3, 5, 7]), (4, [3, 5, 7]), (5, [2]), (4000003, [3, 5, 7])]
noncomputable def tree_Deep_L1_st (x1 : (List api_Node) × Int) (h0_0 : Int) : St := ⟨[(3, .ptr 0 0), (7, .fn (.func 60) [] [.p (.ep [.sl false (x1.1.map c_api_Node)]), .p (.ep [iV x1.2])])], ⟨[[.p (iV h0_0)]], []⟩⟩
noncomputable def tree_Deep_L1_x0 (x1 : (List api_Node) × Int) (o6 : Int) : St := ⟨[(3, .ptr 0 0), (7, .fn (.func 60) [] [.p (.ep [.sl false (x1.1.map c_api_Node)]), .p (.ep [iV x1.2])])], ⟨[[.p (iV o6)]], []⟩⟩
noncomputable def tree_Deep_L1_c : Code := ((loopsOf (Try.f38.body.getD .skip)).getD 0 .skip)
noncomputable def t_tree_Is (y : Bool) : D := .p (bV y)
noncomputable def tree_Is_lv : List (Nat × List Nat) := [(0, [0]), (1, [2]), (3000001, [])]
noncomputable def tree_Is_J0_0  (o1 : Bool) : St := ⟨[(2, .p (bV o1))], ⟨[], []⟩⟩
noncomputable def t_tree_Name (y : Bool) : D := .p (bV y)
noncomputable def tree_Name_lv : List (Nat × List Nat) := [(0, [0]), (1, [0, 3]), (2, [0, 3, 4]), (3, [0, 3, 4]), (4, [0, 3, 4]), (5, [0, 3, 4]), (6, [0, 3, 4]), (7, [0, 3, 4]), (8, [0, 3, 4]), (9, [0, 3, 4]), (10, [0, 3, 4]), (11, [0, 4]), (12, [2]), (13, [2]), (2002037, [])]
noncomputable def tree_Name_J0_0 (p0 : (List UInt8)) (o1 : Bool) : St := ⟨[(0, .p (sV p0)), (4, .p (bV o1))], ⟨[], []⟩⟩
noncomputable def t_tree_Print (y : (List UInt8) × Bool) : D := .tup [.p (sV y.1), .p (bV y.2)]
noncomputable def tree_Print_lv : List (Nat × List Nat) := [(0, [0]), (1, [0, 7]), (2, [2, 3]), (3, [0, 4]), (4, [4]), (5, [4, 17]), (6, [2, 3]), (7, [2, 3])]
noncomputable def t_tree_all (y : (List api_Node) × Int) : D := .fn (.func 60) [] [.p (.ep [.sl false (y.1.map c_api_Node)]), .p (.ep [iV y.2])]
noncomputable def tree_all_lv : List (Nat × List Nat) := [(0, [2, 3]), (1, [4])]
noncomputable def e_tree_all_1 (y : (api_Node × Int)) : List V := [.agg [iV y.1.Kind, sV y.1.Name, sV y.1.Text, iV y.1.N, .sl false (y.1.L.map c_api_Node), .sl false (y.1.Then.map c_api_Node), .sl false (y.1.Else.map c_api_Node)], iV y.2]
noncomputable def tree_all_1_lv : List (Nat × List Nat) := [(0, [1, 2, 3, 8, 9]), (1, [2, 3, 8, 9, 10, 11, 12]), (2, [2, 3, 8, 9, 10, 11, 12, 13]), (3, [2, 3, 5, 8, 9, 10, 11, 12]), (4, [2, 3, 5, 8, 9, 10, 11, 12, 20]), (5, [2, 3, 8, 9, 10, 11, 12, 27, 28]), (6, [2, 3, 8, 9, 10, 11, 12, 27, 28, 29]), (7, [2, 3, 7, 8, 9, 10, 11, 12, 27, 28]), (8, [2, 3, 8, 9, 10, 11, 12, 27, 28, 34]), (9, [2, 3, 8, 10, 11, 12, 27, 28, 34, 36]), (10, [2, 3, 8, 9, 10, 11, 12, 27, 28, 34]), (11, [2, 3, 8, 9, 10, 11, 12, 27, 28, 34, 41]), (12, [2, 3, 8, 9, 10, 11, 12, 27, 28]), (13, [2, 3, 8, 9, 10, 11, 12]), (1000002, [2, 3, 8, 9, 10, 11, 12]), (1000006, [2, 3, 8, 9, 10, 11, 12, 27, 28]), (4000009, [2, 3, 8, 9, 10, 11, 12, 27, 28, 34])]
noncomputable def tree_all_1_L3_st (p0 : (List api_Node)) (p1 : Int) (v12 : Int) (x3 : api_Node) (v28 : Int) (x7 : (List api_Node) × Int) (gxs gp : List (List V)) : St := ⟨[(2, .p (.ep [iV p1])), (3, .ptr 0 0), (10, .p (.sl false (p0.map c_api_Node))), (11, .p (iV (p0.length : Int))), (12, .p (iV v12)), (27, .p (.agg [.sl false (x3.L.map c_api_Node), .sl false (x3.Then.map c_api_Node), .sl false (x3.Else.map c_api_Node)])), (28, .p (iV v28)), (34, .fn (.func 60) [] [.p (.ep [.sl false (x7.1.map c_api_Node)]), .p (.ep [iV x7.2])])], ⟨[[.yld Try.prog 0 gxs], [.p (iV x3.Kind), .p (sV x3.Name), .p (sV x3.Text), .p (iV x3.N), .p (.sl false (x3.L.map c_api_Node)), .p (.sl false (x3.Then.map c_api_Node)), .p (.sl false (x3.Else.map c_api_Node))]], [gp.length]⟩⟩
noncomputable def tree_all_1_L3_x0 (p0 : (List api_Node)) (p1 : Int) (v12 : Int) (x3 : api_Node) (v28 : Int) (x7 : (List api_Node) × Int) (gxs : List (List V)) (gq12 : List (List V)) (oy : Unit) : St := ⟨[(2, .p (.ep [iV p1])), (3, .ptr 0 0), (10, .p (.sl false (p0.map c_api_Node))), (11, .p (iV (p0.length : Int))), (12, .p (iV v12)), (27, .p (.agg [.sl false (x3.L.map c_api_Node), .sl false (x3.Then.map c_api_Node), .sl false (x3.Else.map c_api_Node)])), (28, .p (iV v28)), (34, .fn (.func 60) [] [.p (.ep [.sl false (x7.1.map c_api_Node)]), .p (.ep [iV x7.2])])], ⟨[[.yld Try.prog 0 gxs], [.p (iV x3.Kind), .p (sV x3.Name), .p (sV x3.Text), .p (iV x3.N), .p (.sl false (x3.L.map c_api_Node)), .p (.sl false (x3.Then.map c_api_Node)), .p (.sl false (x3.Else.map c_api_Node))]], [gq12.length]⟩⟩
noncomputable def tree_all_1_L3_c : Code := ((loopsOf (Try.f60.body.getD .skip)).getD 2 .skip)
noncomputable def tree_all_1_L2_st (p0 : (List api_Node)) (p1 : Int) (v12 : Int) (x3 : api_Node) (v28 : Int) (gxs gp : List (List V)) : St := ⟨[(2, .p (.ep [iV p1])), (3, .ptr 0 0), (10, .p (.sl false (p0.map c_api_Node))), (11, .p (iV (p0.length : Int))), (12, .p (iV v12)), (27, .p (.agg [.sl false (x3.L.map c_api_Node), .sl false (x3.Then.map c_api_Node), .sl false (x3.Else.map c_api_Node)])), (28, .p (iV v28))], ⟨[[.yld Try.prog 0 gxs], [.p (iV x3.Kind), .p (sV x3.Name), .p (sV x3.Text), .p (iV x3.N), .p (.sl false (x3.L.map c_api_Node)), .p (.sl false (x3.Then.map c_api_Node)), .p (.sl false (x3.Else.map c_api_Node))]], [gp.length]⟩⟩
noncomputable def tree_all_1_L2_x0 (p0 : (List api_Node)) (p1 : Int) (v12 : Int) (x3 : api_Node) (gxs : List (List V)) (gq4 : List (List V)) (oy : Unit) : St := ⟨[(2, .p (.ep [iV p1])), (3, .ptr 0 0), (10, .p (.sl false (p0.map c_api_Node))), (11, .p (iV (p0.length : Int))), (12, .p (iV v12))], ⟨[[.yld Try.prog 0 gxs], [.p (iV x3.Kind), .p (sV x3.Name), .p (sV x3.Text), .p (iV x3.N), .p (.sl false (x3.L.map c_api_Node)), .p (.sl false (x3.Then.map c_api_Node)), .p (.sl false (x3.Else.map c_api_Node))]], [gq4.length]⟩⟩
noncomputable def tree_all_1_L2_c : Code := ((loopsOf (Try.f60.body.getD .skip)).getD 1 .skip)
noncomputable def tree_all_1_L1_st (p0 : (List api_Node)) (p1 : Int) (v12 : Int) (gxs gp : List (List V)) : St := ⟨[(2, .p (.ep [iV p1])), (3, .ptr 0 0), (10, .p (.sl false (p0.map c_api_Node))), (11, .p (iV (p0.length : Int))), (12, .p (iV v12))], ⟨[[.yld Try.prog 0 gxs]], [gp.length]⟩⟩
noncomputable def tree_all_1_L1_x0 (p0 : (List api_Node)) (p1 : Int) (gxs : List (List V)) (gq1 : List (List V)) (oy : Unit) : St := ⟨[], ⟨[[.yld Try.prog 0 gxs]], [gq1.length]⟩⟩
noncomputable def tree_all_1_L1_c : Code := ((loopsOf (Try.f60.body.getD .skip)).getD 0 .skip)
noncomputable def t_tree_block (y : Bool) : D := .p (bV y)
noncomputable def tree_block_lv : List (Nat × List Nat) := [(0, [0, 1]), (1, [0, 1, 8, 9, 10]), (2, [0, 1, 8, 9, 10, 11]), (3, [0, 1, 5, 6, 8, 9, 10]), (4, [0, 1, 5, 6, 8, 9, 10, 17]), (5, [4]), (6, [0, 1, 5, 6, 7, 8, 9, 10]), (7, [0, 1, 8, 9, 10, 50]), (8, [4]), (9, [0, 1, 8, 9, 10]), (10, [4]), (1000002, [0, 1, 8, 9, 10]), (3000007, [])]
noncomputable def tree_block_J0_0 (p0 : (List api_Node)) (p1 : Bool) (v10 : Int) (x4 : api_Node) (o6 : Bool) : St := ⟨[(0, .p (.sl false (p0.map c_api_Node))), (1, .p (bV p1)), (8, .p (.sl false (p0.map c_api_Node))), (9, .p (iV (p0.length : Int))), (10, .p (iV v10)), (50, .p (bV o6))], ⟨[[.p (iV x4.Kind), .p (sV x4.Name), .p (sV x4.Text), .p (iV x4.N), .p (.sl false (x4.L.map c_api_Node)), .p (.sl false (x4.Then.map c_api_Node)), .p (.sl false (x4.Else.map c_api_Node))]], []⟩⟩
noncomputable def tree_block_L1_st (p0 : (List api_Node)) (p1 : Bool) (v10 : Int) : St := ⟨[(0, .p (.sl false (p0.map c_api_Node))), (1, .p (bV p1)), (8, .p (.sl false (p0.map c_api_Node))), (9, .p (iV (p0.length : Int))), (10, .p (iV v10))], ⟨[], []⟩⟩
noncomputable def tree_block_L1_x0 (p0 : (List api_Node)) (p1 : Bool) (y2 : Unit) : St := ⟨[], ⟨[], []⟩⟩
noncomputable def tree_block_L1_x1 (p0 : (List api_Node)) (p1 : Bool) (y3 : Unit) : St := ⟨[(4, .p (bV false))], ⟨[], []⟩⟩
noncomputable def tree_block_L1_c : Code := ((loopsOf (Try.f40.body.getD .skip)).getD 0 .skip)
noncomputable def t_tree_expr (y : Bool) : D := .p (bV y)
noncomputable def tree_expr_lv : List (Nat × List Nat) := [(0, [1]), (1, [1, 3]), (2, [1, 3, 4]), (3, [1, 3, 4, 11]), (4, [1, 3, 4, 11, 12]), (5, [3, 6]), (6, [2]), (7, [1, 3, 4, 11, 28]), (8, [2]), (9, [1, 3, 4, 11, 35]), (10, [2]), (11, [1, 3, 4, 11, 48]), (12, [2]), (13, [1, 3, 4, 11, 58]), (14, [2]), (15, [1, 3, 4, 11, 68]), (16, [1, 3, 4]), (17, [2]), (18, [1, 3, 4, 86]), (19, [1, 3, 4]), (20, [2]), (21, [2]), (3000006, []), (3000010, []), (3000012, []), (3000014, []), (3000017, []), (3000020, [])]
noncomputable def tree_expr_J0_0 (p0 : api_Node) (x1 : tree_plan) (o3 : Bool) : St := ⟨[(2, .p (bV o3))], ⟨[[.p (iV p0.Kind), .p (sV p0.Name), .p (sV p0.Text), .p (iV p0.N), .p (.sl false (p0.L.map c_api_Node)), .p (.sl false (p0.Then.map c_api_Node)), .p (.sl false (p0.Else.map c_api_Node))], [.p (bV x1.name_), .p (bV x1.text_), .p (bV x1.num_), .p (bV x1.then_), .p (bV x1.other_), .p (iV x1.l_)], [.p (bV true), .p (bV false), .p (bV false), .p (bV false), .p (bV false), .p (iV 0)]], []⟩⟩
noncomputable def tree_expr_J1_0 (p0 : api_Node) (x1 : tree_plan) (o4 : Bool) : St := ⟨[(2, .p (bV o4))], ⟨[[.p (iV p0.Kind), .p (sV p0.Name), .p (sV p0.Text), .p (iV p0.N), .p (.sl false (p0.L.map c_api_Node)), .p (.sl false (p0.Then.map c_api_Node)), .p (.sl false (p0.Else.map c_api_Node))], [.p (bV x1.name_), .p (bV x1.text_), .p (bV x1.num_), .p (bV x1.then_), .p (bV x1.other_), .p (iV x1.l_)], [.p (bV true), .p (bV false), .p (bV false), .p (bV false), .p (bV false), .p (iV 0)]], []⟩⟩
noncomputable def tree_expr_J2_0 (p0 : api_Node) (x1 : tree_plan) (o5 : Bool) : St := ⟨[(2, .p (bV o5))], ⟨[[.p (iV p0.Kind), .p (sV p0.Name), .p (sV p0.Text), .p (iV p0.N), .p (.sl false (p0.L.map c_api_Node)), .p (.sl false (p0.Then.map c_api_Node)), .p (.sl false (p0.Else.map c_api_Node))], [.p (bV x1.name_), .p (bV x1.text_), .p (bV x1.num_), .p (bV x1.then_), .p (bV x1.other_), .p (iV x1.l_)], [.p (bV true), .p (bV false), .p (bV false), .p (bV false), .p (bV false), .p (iV 0)]], []⟩⟩
noncomputable def tree_expr_J3_0 (p0 : api_Node) (x1 : tree_plan) (o7 : Bool) : St := ⟨[(2, .p (bV o7))], ⟨[[.p (iV p0.Kind), .p (sV p0.Name), .p (sV p0.Text), .p (iV p0.N), .p (.sl false (p0.L.map c_api_Node)), .p (.sl false (p0.Then.map c_api_Node)), .p (.sl false (p0.Else.map c_api_Node))], [.p (bV x1.name_), .p (bV x1.text_), .p (bV x1.num_), .p (bV x1.then_), .p (bV x1.other_), .p (iV x1.l_)], [.p (bV true), .p (bV false), .p (bV false), .p (bV false), .p (bV false), .p (iV 0)]], []⟩⟩
noncomputable def tree_expr_J4_0 (p0 : api_Node) (x1 : tree_plan) (o9 : Bool) : St := ⟨[(2, .p (bV o9))], ⟨[[.p (iV p0.Kind), .p (sV p0.Name), .p (sV p0.Text), .p (iV p0.N), .p (.sl false (p0.L.map c_api_Node)), .p (.sl false (p0.Then.map c_api_Node)), .p (.sl false (p0.Else.map c_api_Node))], [.p (bV x1.name_), .p (bV x1.text_), .p (bV x1.num_), .p (bV x1.then_), .p (bV x1.other_), .p (iV x1.l_)], [.p (bV true), .p (bV false), .p (bV false), .p (bV false), .p (bV false), .p (iV 1)]], []⟩⟩
noncomputable def tree_expr_J5_0 (p0 : api_Node) (x1 : tree_plan) (o13 : Bool) : St := ⟨[(2, .p (bV o13))], ⟨[[.p (iV p0.Kind), .p (sV p0.Name), .p (sV p0.Text), .p (iV p0.N), .p (.sl false (p0.L.map c_api_Node)), .p (.sl false (p0.Then.map c_api_Node)), .p (.sl false (p0.Else.map c_api_Node))], [.p (bV x1.name_), .p (bV x1.text_), .p (bV x1.num_), .p (bV x1.then_), .p (bV x1.other_), .p (iV x1.l_)], [.p (bV true), .p (bV false), .p (bV false), .p (bV false), .p (bV false), .p (iV (if 3 < x1.l_ then 3 else x1.l_))]], []⟩⟩
noncomputable def t_tree_expr_1 (y : Bool) : D := .p (bV y)
noncomputable def tree_expr_1_lv : List (Nat × List Nat) := [(0, [1]), (1, [2])]
noncomputable def t_tree_planned (y : tree_plan) : D := .p (.agg [bV y.name_, bV y.text_, bV y.num_, bV y.then_, bV y.other_, iV y.l_])
noncomputable def tree_planned_lv : List (Nat × List Nat) := [(0, [1, 2]), (1, [2])]
noncomputable def t_tree_printer_action_2 (_ : Bool × (List Int)) : D := .tup []
noncomputable def tree_printer_action_2_lv : List (Nat × List Nat) := [(0, [0, 1, 5]), (1, [0, 5]), (2, [0]), (3, [])]
noncomputable def t_tree_printer_block (_ : Bool × (List Int)) : D := .tup []
noncomputable def tree_printer_block_lv : List (Nat × List Nat) := [(0, [0, 6, 7, 8]), (1, [0, 6, 7, 8, 9]), (2, [0, 5, 6, 7, 8]), (3, [0, 5, 6, 7, 8, 13]), (4, [0, 5, 6, 7, 8, 13, 14]), (5, [0, 6, 7, 8]), (6, [0, 5, 6, 7, 8, 13, 21]), (7, [0, 6, 7, 8]), (8, [0, 5, 6, 7, 8, 13, 29]), (9, [0, 6, 7, 8]), (10, [0, 5, 6, 7, 8, 13, 41]), (11, [0, 5, 6, 7, 8]), (12, [0, 5, 6, 7, 8, 13, 49]), (13, [0, 5, 6, 7, 8]), (14, [0, 5, 6, 7, 8, 61]), (15, [0, 5, 6, 7, 8]), (16, [0, 5, 6, 7, 8]), (17, [0, 5, 6, 7, 8, 80]), (18, [0, 5, 6, 7, 8]), (19, [0, 6, 7, 8]), (20, [0, 6, 7, 8]), (21, [0, 6, 7, 8]), (1000001, [0, 6, 7, 8]), (2003034, []), (2017007, []), (5000009, [9]), (5000013, [9]), (5000015, [9])]
noncomputable def tree_printer_block_J0_0 (p1 : (List api_Node)) (v8 : Int) (x2 : api_Node) (y4 : Bool × (List Int)) : St := ⟨[(0, .ptr 0 0), (5, .ptr 1 0), (6, .p (.sl false (p1.map c_api_Node))), (7, .p (iV (p1.length : Int))), (8, .p (iV v8))], ⟨[[.sp Try.prog 63 y4.1 0 0, .own 0 5 1 (y4.2.map (cNum .u8))], [.p (iV x2.Kind), .p (sV x2.Name), .p (sV x2.Text), .p (iV x2.N), .p (.sl false (x2.L.map c_api_Node)), .p (.sl false (x2.Then.map c_api_Node)), .p (.sl false (x2.Else.map c_api_Node))]], [(y4.2.map (cNum .u8)).length]⟩⟩
noncomputable def tree_printer_block_J0_1 (p1 : (List api_Node)) (v8 : Int) (x2 : api_Node) (y5 : Bool × (List Int)) : St := ⟨[(0, .ptr 0 0), (6, .p (.sl false (p1.map c_api_Node))), (7, .p (iV (p1.length : Int))), (8, .p (iV v8))], ⟨[[.sp Try.prog 63 y5.1 0 0, .own 0 5 1 (y5.2.map (cNum .u8))], [.p (iV x2.Kind), .p (sV x2.Name), .p (sV x2.Text), .p (iV x2.N), .p (.sl false (x2.L.map c_api_Node)), .p (.sl false (x2.Then.map c_api_Node)), .p (.sl false (x2.Else.map c_api_Node))]], [(y5.2.map (cNum .u8)).length]⟩⟩
noncomputable def tree_printer_block_J1_0 (p1 : (List api_Node)) (v8 : Int) (x2 : api_Node) (o18 : Bool × (List Int)) : St := ⟨[(0, .ptr 0 0), (6, .p (.sl false (p1.map c_api_Node))), (7, .p (iV (p1.length : Int))), (8, .p (iV v8))], ⟨[[.sp Try.prog 63 o18.1 0 0, .own 0 5 1 (o18.2.map (cNum .u8))], [.p (iV x2.Kind), .p (sV x2.Name), .p (sV x2.Text), .p (iV x2.N), .p (.sl false (x2.L.map c_api_Node)), .p (.sl false (x2.Then.map c_api_Node)), .p (.sl false (x2.Else.map c_api_Node))]], [(o18.2.map (cNum .u8)).length]⟩⟩
noncomputable def tree_printer_block_L1_st (p1 : (List api_Node)) (v8 : Int) (h0_0_ : Bool) (h0_1 : (List Int)) : St := ⟨[(0, .ptr 0 0), (6, .p (.sl false (p1.map c_api_Node))), (7, .p (iV (p1.length : Int))), (8, .p (iV v8))], ⟨[[.sp Try.prog 63 h0_0_ 0 0, .own 0 5 1 (h0_1.map (cNum .u8))]], [(h0_1.map (cNum .u8)).length]⟩⟩
noncomputable def tree_printer_block_L1_x0 (p1 : (List api_Node)) (o1 : Bool × (List Int)) : St := ⟨[], ⟨[[.sp Try.prog 63 o1.1 0 0, .own 0 5 1 (o1.2.map (cNum .u8))]], [(o1.2.map (cNum .u8)).length]⟩⟩
noncomputable def tree_printer_block_L1_c : Code := ((loopsOf (Try.f20.body.getD .skip)).getD 0 .skip)
noncomputable def t_tree_printer_block_2 (_ : Bool × (List Int)) : D := .tup []
noncomputable def tree_printer_block_2_lv : List (Nat × List Nat) := [(0, [0, 6, 7, 8]), (1, [0, 6, 7, 8, 9]), (2, [0, 5, 6, 7, 8]), (3, [0, 5, 6, 7, 8, 13]), (4, [0, 5, 6, 7, 8, 13, 14]), (5, [0, 6, 7, 8]), (6, [0, 5, 6, 7, 8, 13, 21]), (7, [0, 6, 7, 8]), (8, [0, 5, 6, 7, 8, 13, 29]), (9, [0, 6, 7, 8]), (10, [0, 5, 6, 7, 8, 13, 41]), (11, [0, 5, 6, 7, 8]), (12, [0, 5, 6, 7, 8, 13, 49]), (13, [0, 5, 6, 7, 8]), (14, [0, 5, 6, 7, 8, 61]), (15, [0, 5, 6, 7, 8]), (16, [0, 5, 6, 7, 8]), (17, [0, 5, 6, 7, 8, 80]), (18, [0, 5, 6, 7, 8]), (19, [0, 6, 7, 8]), (20, [0, 6, 7, 8]), (21, [0, 6, 7, 8]), (1000001, [0, 6, 7, 8]), (2003034, []), (2017007, []), (5000009, [9]), (5000013, [9]), (5000015, [9])]
noncomputable def tree_printer_block_2_J0_0 (p1 : (List api_Node)) (v8 : Int) (x2 : api_Node) (y4 : Bool × (List Int)) : St := ⟨[(0, .ptr 0 0), (5, .ptr 1 0), (6, .p (.sl false (p1.map c_api_Node))), (7, .p (iV (p1.length : Int))), (8, .p (iV v8))], ⟨[[.sp Try.prog 63 y4.1 0 0, .own 0 5 1 (y4.2.map (cNum .u8))], [.p (iV x2.Kind), .p (sV x2.Name), .p (sV x2.Text), .p (iV x2.N), .p (.sl false (x2.L.map c_api_Node)), .p (.sl false (x2.Then.map c_api_Node)), .p (.sl false (x2.Else.map c_api_Node))]], [(y4.2.map (cNum .u8)).length]⟩⟩
noncomputable def tree_printer_block_2_J0_1 (p1 : (List api_Node)) (v8 : Int) (x2 : api_Node) (y5 : Bool × (List Int)) : St := ⟨[(0, .ptr 0 0), (6, .p (.sl false (p1.map c_api_Node))), (7, .p (iV (p1.length : Int))), (8, .p (iV v8))], ⟨[[.sp Try.prog 63 y5.1 0 0, .own 0 5 1 (y5.2.map (cNum .u8))], [.p (iV x2.Kind), .p (sV x2.Name), .p (sV x2.Text), .p (iV x2.N), .p (.sl false (x2.L.map c_api_Node)), .p (.sl false (x2.Then.map c_api_Node)), .p (.sl false (x2.Else.map c_api_Node))]], [(y5.2.map (cNum .u8)).length]⟩⟩
noncomputable def tree_printer_block_2_J1_0 (p1 : (List api_Node)) (v8 : Int) (x2 : api_Node) (o18 : Bool × (List Int)) : St := ⟨[(0, .ptr 0 0), (6, .p (.sl false (p1.map c_api_Node))), (7, .p (iV (p1.length : Int))), (8, .p (iV v8))], ⟨[[.sp Try.prog 63 o18.1 0 0, .own 0 5 1 (o18.2.map (cNum .u8))], [.p (iV x2.Kind), .p (sV x2.Name), .p (sV x2.Text), .p (iV x2.N), .p (.sl false (x2.L.map c_api_Node)), .p (.sl false (x2.Then.map c_api_Node)), .p (.sl false (x2.Else.map c_api_Node))]], [(o18.2.map (cNum .u8)).length]⟩⟩
noncomputable def tree_printer_block_2_L1_st (p1 : (List api_Node)) (v8 : Int) (h0_0_ : Bool) (h0_1_ : (List Int)) : St := ⟨[(0, .ptr 0 0), (6, .p (.sl false (p1.map c_api_Node))), (7, .p (iV (p1.length : Int))), (8, .p (iV v8))], ⟨[[.sp Try.prog 63 h0_0_ 0 0, .own 0 5 1 (h0_1_.map (cNum .u8))]], [(h0_1_.map (cNum .u8)).length]⟩⟩
noncomputable def tree_printer_block_2_L1_x0 (p1 : (List api_Node)) (o1 : Bool × (List Int)) : St := ⟨[], ⟨[[.sp Try.prog 63 o1.1 0 0, .own 0 5 1 (o1.2.map (cNum .u8))]], [(o1.2.map (cNum .u8)).length]⟩⟩
noncomputable def tree_printer_block_2_L1_c : Code := ((loopsOf (Try.f20.body.getD .skip)).getD 0 .skip)
noncomputable def t_tree_printer_expr_2 (_ : Bool × (List Int)) : D := .tup []
noncomputable def tree_printer_expr_2_lv : List (Nat × List Nat) := [(0, [0, 3]), (1, [0, 3, 9]), (2, [0, 3, 9, 10]), (3, [0, 4]), (4, []), (5, [0, 3, 9, 22]), (6, []), (7, [0, 3, 9, 30]), (8, [0, 34]), (9, []), (10, []), (11, [0, 3, 9, 41]), (12, []), (13, [0, 3, 9, 48]), (14, []), (15, [0, 3, 9, 55]), (16, [0, 3]), (17, []), (18, [0, 3, 68]), (19, [0, 3]), (20, [0, 76, 77, 78]), (21, [0, 76, 77, 78, 79]), (22, [0, 6, 7, 76, 77, 78]), (23, [0, 7, 76, 77, 78, 84]), (24, [0, 7, 76, 77, 78]), (25, [0, 76, 77, 78]), (26, [0, 76, 77, 78]), (27, []), (1000021, [0, 76, 77, 78])]
noncomputable def tree_printer_expr_2_L1_st (p1 : api_Node) (v78 : Int) (h0_0_ : Bool) (h0_1_ : (List Int)) : St := ⟨[(0, .ptr 0 0), (76, .p (.sl false (p1.L.map c_api_Node))), (77, .p (iV (p1.L.length : Int))), (78, .p (iV v78))], ⟨[[.sp Try.prog 63 h0_0_ 0 0, .own 0 5 1 (h0_1_.map (cNum .u8))], [.p (iV p1.Kind), .p (sV p1.Name), .p (sV p1.Text), .p (iV p1.N), .p (.sl false (p1.L.map c_api_Node)), .p (.sl false (p1.Then.map c_api_Node)), .p (.sl false (p1.Else.map c_api_Node))]], [(h0_1_.map (cNum .u8)).length]⟩⟩
noncomputable def tree_printer_expr_2_L1_x0 (p1 : api_Node) (o13 : Bool × (List Int)) : St := ⟨[(0, .ptr 0 0)], ⟨[[.sp Try.prog 63 o13.1 0 0, .own 0 5 1 (o13.2.map (cNum .u8))], [.p (iV p1.Kind), .p (sV p1.Name), .p (sV p1.Text), .p (iV p1.N), .p (.sl false (p1.L.map c_api_Node)), .p (.sl false (p1.Then.map c_api_Node)), .p (.sl false (p1.Else.map c_api_Node))]], [(o13.2.map (cNum .u8)).length]⟩⟩
noncomputable def tree_printer_expr_2_L1_c : Code := ((loopsOf (Try.f55.body.getD .skip)).getD 0 .skip)
noncomputable def t_tree_printer_put_2 (_ : Bool × (List Int)) : D := .tup []
noncomputable def tree_printer_put_2_lv : List (Nat × List Nat) := [(0, [0, 6, 7, 8]), (1, [0, 6, 7, 8, 9]), (2, [0, 5, 6, 7, 8]), (3, [0, 6, 7, 8]), (4, [0, 6, 7, 8]), (1000001, [0, 6, 7, 8])]
noncomputable def tree_printer_put_2_L1_st (p1 : (List (List UInt8))) (v8 : Int) (h0_0_ : Bool) (h0_1_ : (List Int)) : St := ⟨[(0, .ptr 0 0), (6, .p (.sl false (p1.map cStr))), (7, .p (iV (p1.length : Int))), (8, .p (iV v8))], ⟨[[.sp Try.prog 63 h0_0_ 0 0, .own 0 5 1 (h0_1_.map (cNum .u8))]], [(h0_1_.map (cNum .u8)).length]⟩⟩
noncomputable def tree_printer_put_2_L1_x0 (p1 : (List (List UInt8))) (o1 : Bool × (List Int)) : St := ⟨[], ⟨[[.sp Try.prog 63 o1.1 0 0, .own 0 5 1 (o1.2.map (cNum .u8))]], [(o1.2.map (cNum .u8)).length]⟩⟩
noncomputable def tree_printer_put_2_L1_c : Code := ((loopsOf (Try.f41.body.getD .skip)).getD 0 .skip)
noncomputable def t_tree_stmt (y : Bool) : D := .p (bV y)
noncomputable def tree_stmt_lv : List (Nat × List Nat) := [(0, [1]), (1, [1, 3]), (2, [1, 3, 4]), (3, [1, 3, 4, 10]), (4, [2]), (5, [1, 3, 4, 10, 11]), (6, [2]), (7, [1, 3, 4, 10, 22]), (8, [1, 3, 4, 10, 24]), (9, [1, 3, 4]), (10, [1, 3, 4, 10, 32]), (11, [1, 3, 4, 10, 32]), (12, [1, 3, 4]), (13, [1, 3, 4, 42]), (14, [1, 3, 4]), (15, [1, 3, 4, 5]), (16, [2]), (2003032, []), (2010005, []), (3000006, []), (3000015, []), (3000016, []), (5000009, [1005, 1007]), (5000012, [1006, 1008]), (8000009, [2]), (8000012, [2])]
noncomputable def tree_stmt_J0_0 (p0 : api_Node) (x1 : tree_plan) (y3 : Bool × Bool × Bool) : St := ⟨[(1, .ptr 0 0), (3, .ptr 1 0), (4, .ptr 2 0)], ⟨[[.p (iV p0.Kind), .p (sV p0.Name), .p (sV p0.Text), .p (iV p0.N), .p (.sl false (p0.L.map c_api_Node)), .p (.sl false (p0.Then.map c_api_Node)), .p (.sl false (p0.Else.map c_api_Node))], [.p (bV x1.name_), .p (bV x1.text_), .p (bV x1.num_), .p (bV x1.then_), .p (bV x1.other_), .p (iV x1.l_)], [.p (bV y3.1), .p (bV false), .p (bV false), .p (bV y3.2.1), .p (bV y3.2.2), .p (iV 1)]], []⟩⟩
noncomputable def tree_stmt_J0_1 (p0 : api_Node) (x1 : tree_plan) (y4 : Bool) : St := ⟨[(2, .p (bV y4))], ⟨[[.p (iV p0.Kind), .p (sV p0.Name), .p (sV p0.Text), .p (iV p0.N), .p (.sl false (p0.L.map c_api_Node)), .p (.sl false (p0.Then.map c_api_Node)), .p (.sl false (p0.Else.map c_api_Node))], [.p (bV x1.name_), .p (bV x1.text_), .p (bV x1.num_), .p (bV x1.then_), .p (bV x1.other_), .p (iV x1.l_)], [.p (bV false), .p (bV false), .p (bV false), .p (bV false), .p (bV false), .p (iV 1)]], []⟩⟩
noncomputable def tree_stmt_J1_0 (p0 : api_Node) (x1 : tree_plan) (o5 : Bool) : St := ⟨[(2, .p (bV o5))], ⟨[[.p (iV p0.Kind), .p (sV p0.Name), .p (sV p0.Text), .p (iV p0.N), .p (.sl false (p0.L.map c_api_Node)), .p (.sl false (p0.Then.map c_api_Node)), .p (.sl false (p0.Else.map c_api_Node))], [.p (bV x1.name_), .p (bV x1.text_), .p (bV x1.num_), .p (bV x1.then_), .p (bV x1.other_), .p (iV x1.l_)], [.p (bV false), .p (bV false), .p (bV false), .p (bV false), .p (bV false), .p (iV 1)]], []⟩⟩
noncomputable def tree_stmt_J2_0 (p0 : api_Node) (x1 : tree_plan) (o7 : Bool) : St := ⟨[(1, .ptr 0 0), (3, .ptr 1 0), (4, .ptr 2 0), (10, .p (iV p0.Kind)), (32, .p (bV o7))], ⟨[[.p (iV p0.Kind), .p (sV p0.Name), .p (sV p0.Text), .p (iV p0.N), .p (.sl false (p0.L.map c_api_Node)), .p (.sl false (p0.Then.map c_api_Node)), .p (.sl false (p0.Else.map c_api_Node))], [.p (bV x1.name_), .p (bV x1.text_), .p (bV x1.num_), .p (bV x1.then_), .p (bV x1.other_), .p (iV x1.l_)], [.p (bV false), .p (bV false), .p (bV false), .p (bV false), .p (bV false), .p (iV 1)]], []⟩⟩
noncomputable def tree_stmt_J3_0 (p0 : api_Node) (x1 : tree_plan) (y3 : Bool × Bool × Bool) (o10 : Bool) : St := ⟨[(1, .ptr 0 0), (3, .ptr 1 0), (4, .ptr 2 0), (5, .p (bV o10))], ⟨[[.p (iV p0.Kind), .p (sV p0.Name), .p (sV p0.Text), .p (iV p0.N), .p (.sl false (p0.L.map c_api_Node)), .p (.sl false (p0.Then.map c_api_Node)), .p (.sl false (p0.Else.map c_api_Node))], [.p (bV x1.name_), .p (bV x1.text_), .p (bV x1.num_), .p (bV x1.then_), .p (bV x1.other_), .p (iV x1.l_)], [.p (bV y3.1), .p (bV false), .p (bV false), .p (bV y3.2.1), .p (bV y3.2.2), .p (iV 1)]], []⟩⟩
noncomputable def tree_stmt_J4_0 (p0 : api_Node) (x1 : tree_plan) (y3 : Bool × Bool × Bool) (o11 : Bool) : St := ⟨[(2, .p (bV o11))], ⟨[[.p (iV p0.Kind), .p (sV p0.Name), .p (sV p0.Text), .p (iV p0.N), .p (.sl false (p0.L.map c_api_Node)), .p (.sl false (p0.Then.map c_api_Node)), .p (.sl false (p0.Else.map c_api_Node))], [.p (bV x1.name_), .p (bV x1.text_), .p (bV x1.num_), .p (bV x1.then_), .p (bV x1.other_), .p (iV x1.l_)], [.p (bV y3.1), .p (bV false), .p (bV false), .p (bV y3.2.1), .p (bV y3.2.2), .p (iV 1)]], []⟩⟩
noncomputable def t_utf_Is (y : Bool) : D := .p (bV y)
noncomputable def utf_Is_lv : List (Nat × List Nat) := [(0, [0, 2, 3, 4]), (1, [2, 3, 4, 6]), (2, [2, 3, 6, 8]), (3, [2, 3, 4, 6]), (4, [2, 3, 4, 6, 14]), (5, [2]), (6, [2]), (4000002, [2, 3, 4, 6]), (3000004, [])]
noncomputable def utf_Is_J0_0 (x1 : (List UInt8)) (x2 : (Int × Int)) (o9 : Bool) : St := ⟨[(2, .ptr 0 0), (3, .p (nV .i32 x2.1)), (4, .p (iV x2.2)), (6, .fn (.func 100) [] [.p (.ep [sV x1])]), (14, .p (bV o9))], ⟨[[.p (bV false)]], []⟩⟩
noncomputable def utf_Is_L1_st (x1 : (List UInt8)) : St := ⟨[(2, .ptr 0 0), (6, .fn (.func 100) [] [.p (.ep [sV x1])])], ⟨[[.p (bV false)]], []⟩⟩
noncomputable def utf_Is_L1_x0 (x1 : (List UInt8)) (y7 : Unit) : St := ⟨[(2, .ptr 0 0), (6, .fn (.func 100) [] [.p (.ep [sV x1])])], ⟨[[.p (bV false)]], []⟩⟩
noncomputable def utf_Is_L1_x1 (x1 : (List UInt8)) (y8 : Unit) : St := ⟨[(2, .ptr 0 0)], ⟨[[.p (bV false)]], []⟩⟩
noncomputable def utf_Is_L1_c : Code := ((loopsOf (Try.f80.body.getD .skip)).getD 0 .skip)
noncomputable def t_utf_Next (y : Int × Int) : D := .tup [.p (nV .i32 y.1), .p (iV y.2)]
noncomputable def utf_Next_lv : List (Nat × List Nat) := [(0, [0, 1]), (1, [0, 1, 17]), (2, [4, 5]), (3, [0, 1, 6]), (4, [4, 5]), (5, [0, 1, 6, 21]), (6, [4, 5]), (7, [0, 1, 6, 26]), (8, [0, 1, 4, 7, 8]), (9, [0, 1, 6, 36]), (10, [0, 1, 4, 7, 8]), (11, [0, 1, 6, 46]), (12, [0, 1, 4, 7, 8]), (13, [4, 7, 8, 9]), (14, [4, 8, 77]), (15, [4, 5]), (16, [4, 5]), (2004022, []), (3000001, []), (3000007, []), (3000009, []), (3000011, []), (3000014, [])]
noncomputable def utf_Next_J0_0 (p0 : (List UInt8)) (p1 : Int) (o1 : Bool) : St := ⟨[(0, .p (sV p0)), (1, .p (iV p1)), (17, .p (bV o1))], ⟨[], []⟩⟩
noncomputable def utf_Next_J1_0 (p0 : (List UInt8)) (p1 : Int) (y4 : Int × Int × Int) : St := ⟨[(0, .p (sV p0)), (1, .p (iV p1)), (4, .p (nV .i32 y4.1)), (7, .p (nV .i32 y4.2.1)), (8, .p (iV y4.2.2))], ⟨[], []⟩⟩
noncomputable def utf_Next_J1_1 (p0 : (List UInt8)) (p1 : Int) (y5 : Int) : St := ⟨[(4, .p (nV .i32 y5)), (5, .p (iV 1))], ⟨[], []⟩⟩
noncomputable def utf_Next_J2_0 (p0 : (List UInt8)) (p1 : Int) (x2 : UInt8) (o6 : Bool) : St := ⟨[(0, .p (sV p0)), (1, .p (iV p1)), (6, .p (nV .u8 (x2.toNat : Int))), (26, .p (bV o6))], ⟨[], []⟩⟩
noncomputable def utf_Next_J3_0 (p0 : (List UInt8)) (p1 : Int) (x2 : UInt8) (o7 : Bool) : St := ⟨[(0, .p (sV p0)), (1, .p (iV p1)), (6, .p (nV .u8 (x2.toNat : Int))), (36, .p (bV o7))], ⟨[], []⟩⟩
noncomputable def utf_Next_J4_0 (p0 : (List UInt8)) (p1 : Int) (x2 : UInt8) (o8 : Bool) : St := ⟨[(0, .p (sV p0)), (1, .p (iV p1)), (6, .p (nV .u8 (x2.toNat : Int))), (46, .p (bV o8))], ⟨[], []⟩⟩
noncomputable def utf_Next_J5_0 (y4 : Int × Int × Int) (x10 : Int × Bool) (o11 : Bool) : St := ⟨[(4, .p (nV .i32 x10.1)), (8, .p (iV y4.2.2)), (77, .p (bV o11))], ⟨[], []⟩⟩
noncomputable def t_utf_all (y : (List UInt8)) : D := .fn (.func 100) [] [.p (.ep [sV y])]
noncomputable def utf_all_lv : List (Nat × List Nat) := [(0, [1]), (1, [2])]
noncomputable def e_utf_all_1 (y : (Int × Int)) : List V := [nV .i32 y.1, iV y.2]
noncomputable def utf_all_1_lv : List (Nat × List Nat) := [(0, [0, 1, 3]), (1, [0, 1, 3, 9]), (2, [0, 1, 3, 4, 5]), (3, [0, 1, 3, 5, 20]), (4, [0, 1, 3]), (1000001, [0, 1, 3])]
noncomputable def utf_all_1_L1_st (p0 : (List UInt8)) (v3 : Int) (gxs gp : List (List V)) : St := ⟨[(0, .yld Try.prog 0 gxs), (1, .p (.ep [sV p0])), (3, .p (iV v3))], ⟨[], [gp.length]⟩⟩
noncomputable def utf_all_1_L1_x0 (p0 : (List UInt8)) (gxs : List (List V)) (gq1 : List (List V)) (oy : Unit) : St := ⟨[], ⟨[], [gq1.length]⟩⟩
noncomputable def utf_all_1_L1_c : Code := ((loopsOf (Try.f100.body.getD .skip)).getD 0 .skip)
noncomputable def t_utf_is (y : Bool) : D := .p (bV y)
noncomputable def utf_is_lv : List (Nat × List Nat) := [(0, [0]), (1, [2]), (3000001, [])]
noncomputable def utf_is_J0_0  (o1 : Bool) : St := ⟨[(2, .p (bV o1))], ⟨[], []⟩⟩
noncomputable def t_utf_tail (y : Int × Bool) : D := .tup [.p (nV .i32 y.1), .p (bV y.2)]
noncomputable def utf_tail_lv : List (Nat × List Nat) := [(0, [0, 1, 2]), (1, [0, 1, 2, 12]), (2, [6, 7]), (3, [0, 1, 13, 14]), (4, [0, 1, 13, 14, 15]), (5, [0, 1, 8, 13, 14]), (6, [0, 1, 8, 13, 14, 21]), (7, [6, 7]), (8, [0, 1, 13, 14]), (9, [0, 1, 13, 14]), (10, [6, 7]), (1000004, [0, 1, 13, 14])]
noncomputable def utf_tail_L1_st (p0 : (List UInt8)) (p2 : Int) (v1 : Int) (v14 : Int) : St := ⟨[(0, .p (sV p0)), (1, .p (nV .i32 v1)), (13, .p (iV p2)), (14, .p (iV v14))], ⟨[], []⟩⟩
noncomputable def utf_tail_L1_x0 (p0 : (List UInt8)) (p2 : Int) (y2 : Int) : St := ⟨[(1, .p (nV .i32 y2))], ⟨[], []⟩⟩
noncomputable def utf_tail_L1_x1 (p0 : (List UInt8)) (p2 : Int) (y3 : Unit) : St := ⟨[(6, .p (nV .i32 0)), (7, .p (bV false))], ⟨[], []⟩⟩
noncomputable def utf_tail_L1_c : Code := ((loopsOf (Try.f104.body.getD .skip)).getD 0 .skip)
noncomputable def R01_Begins (p0 : (List UInt8)) (p1 : (List UInt8)) (p2 : Int) : Option (Bool) :=
  ( if (decide (p2 ≥ 0)) then
      if (decide (p2 ≤ (p0.length : Int))) then
        if (decide ((p1.length : Int) ≤ (wr ((p0.length : Int) - p2)))) then
          cutL p0 p2 (wr (p2 + (p1.length : Int))) >>= fun x2 =>
          some (x2 == p1)
        else
          some false
      else
        some false
    else
      some false : Option (Bool)) >>= fun o1 =>
  some o1
set_option maxRecDepth 100000 in
set_option maxHeartbeats 4000000 in
theorem R01_Begins_ok : ∀ (p0 : (List UInt8)) (p1 : (List UInt8)) (p2 : Int) (o : Bool), R01_Begins p0 p1 p2 = some o → PCall Try.prog 83 [sV p0, sV p1, iV p2] (t_R01_Begins o) := by
  intro p0 p1 p2 o h
  unfold R01_Begins at h
  refine PCall.ofB mixed tbOk R01_Begins_lv Try.func83 rfl (by kernel_rfl) (Nat.le_of_ble_eq_true rfl) ?_
  refine st_bind h (fun o1 ho hk => ?_)
  refine Exists.intro (JP1 _ _ o1 .normal (R01_Begins_J0_0 )) (And.intro ?_ (join1 ?_))
  · have h := ho
    refine st_test h (fun hb h => ?_) (fun hb h => ?_)
    · refine vrfl ?_
      refine st_test h (fun hb h => ?_) (fun hb h => ?_)
      · refine vrfl ?_
        refine vrfl ?_
        refine st_test h (fun hb h => ?_) (fun hb h => ?_)
        · refine vrfl ?_
          refine st_cuts (some p2) (some (wr (p2 + (p1.length : Int)))) h (fun x2 hi h => ?_)
          refine JP1.a h ?_
          exact Le.tow 0 0 rfl (.cons rfl (.refl _) (.nil)) (.refl _) rfl
        · refine JP1.a h ?_
          exact Le.tow 0 0 rfl (.cons rfl (.refl _) (.nil)) (.refl _) rfl
      · refine bF ?_
        refine JP1.a h ?_
        exact Le.tow 0 0 rfl (.cons rfl (.refl _) (.nil)) (.refl _) rfl
    · refine bF ?_
      refine bF ?_
      refine JP1.a h ?_
      exact Le.tow 0 0 rfl (.cons rfl (.refl _) (.nil)) (.refl _) rfl
  · have h := hk
    refine st_ret (t := t_R01_Begins) h ?_
    exact .refl _
noncomputable def R01_Join_L1 (p0 : (List (List UInt8))) (p1 : (List UInt8)) (v5 : (List UInt8)) (v6 : Int) : Option ((List UInt8)) :=
  if (decide (v6 < (p0.length : Int))) then
    if (decide (v6 > 0)) then
      need (v5.length + p1.length ≤ 9223372036854775807) >>= fun _ =>
      idx p0 v6 >>= fun x2 =>
      need ((v5 ++ p1).length + x2.length ≤ 9223372036854775807) >>= fun _ =>
      R01_Join_L1 p0 p1 ((v5 ++ p1) ++ x2) (wr (v6 + 1))
    else
      idx p0 v6 >>= fun x3 =>
      need (v5.length + x3.length ≤ 9223372036854775807) >>= fun _ =>
      R01_Join_L1 p0 p1 (v5 ++ x3) (wr (v6 + 1))
  else
    some v5
  partial_fixpoint
set_option maxRecDepth 100000 in
set_option maxHeartbeats 4000000 in
theorem R01_Join_L1_grp : ∀ (p0 : (List (List UInt8))) (p1 : (List UInt8)), (∀ (v5 : (List UInt8)) (v6 : Int) (o1 : (List UInt8)), R01_Join_L1 p0 p1 v5 v6 = some o1 → TL (0, 0) Try.prog 25 R01_Join_L1_c (JP1 (0, 0) 25 o1 (.exit 0) (R01_Join_L1_x0 p0 p1)) (R01_Join_L1_st p0 p1 v5 v6)) := by
  intro p0 p1
  refine R01_Join_L1.partial_correctness p0 p1 _ ?_
  intro R01_Join_L1' ih_R01_Join_L1 v5 v6 o1 h
  refine TL.round (bwp_sound mixed tbOk (lv := R01_Join_lv) _ _ _ ?_)
  refine view (lenMap _ _) rfl ?_
  refine st_test h (fun hb h => ?_) (fun hb h => ?_)
  · refine st_test h (fun hb h => ?_) (fun hb h => ?_)
    · refine st_need h (fun h => ?_)
      refine st_idx (l := p0) (c := cStr) (c' := cStr) h (fun _ => rfl) (fun _ => rfl) (by decide) (fun x2 hi h => ?_)
      refine st_need h (fun h => ?_)
      refine TL.le (τ := R01_Join_L1_st p0 p1 ((v5 ++ p1) ++ x2) (wr (v6 + 1))) ?_ ((ih_R01_Join_L1 ((v5 ++ p1) ++ x2) (wr (v6 + 1)) _ h))
      exact Le.tow 0 0 rfl (.cons rfl (.refl _) (.cons rfl (.refl _) (.cons rfl (.refl _) (.cons rfl (.refl _) (.nil))))) (.refl _) rfl
    · refine st_idx (l := p0) (c := cStr) (c' := cStr) h (fun _ => rfl) (fun _ => rfl) (by decide) (fun x3 hi h => ?_)
      refine st_need h (fun h => ?_)
      refine TL.le (τ := R01_Join_L1_st p0 p1 (v5 ++ x3) (wr (v6 + 1))) ?_ ((ih_R01_Join_L1 (v5 ++ x3) (wr (v6 + 1)) _ h))
      exact Le.tow 0 0 rfl (.cons rfl (.refl _) (.cons rfl (.refl _) (.cons rfl (.refl _) (.cons rfl (.refl _) (.nil))))) (.refl _) rfl
  · exact JP1.a h (Le.tow 0 0 rfl (.cons rfl (.refl _) (.nil)) (.refl _) rfl)
theorem R01_Join_L1_ok : ∀ (p0 : (List (List UInt8))) (p1 : (List UInt8)) (v5 : (List UInt8)) (v6 : Int) (o1 : (List UInt8)), R01_Join_L1 p0 p1 v5 v6 = some o1 → TL (0, 0) Try.prog 25 R01_Join_L1_c (JP1 (0, 0) 25 o1 (.exit 0) (R01_Join_L1_x0 p0 p1)) (R01_Join_L1_st p0 p1 v5 v6) := fun p0 p1 v5 v6 o1 h => (R01_Join_L1_grp p0 p1) v5 v6 o1 h
noncomputable def R01_Join (p0 : (List (List UInt8))) (p1 : (List UInt8)) : Option ((List UInt8)) :=
  (R01_Join_L1 p0 p1 [] 0) >>= fun o1 =>
  some o1
set_option maxRecDepth 100000 in
set_option maxHeartbeats 4000000 in
theorem R01_Join_ok : ∀ (p0 : (List (List UInt8))) (p1 : (List UInt8)) (o : (List UInt8)), R01_Join p0 p1 = some o → PCall Try.prog 59 [.sl false (p0.map cStr), sV p1] (t_R01_Join o) := by
  intro p0 p1 o h
  unfold R01_Join at h
  refine PCall.ofB mixed tbOk R01_Join_lv Try.func59 rfl (by kernel_rfl) (Nat.le_of_ble_eq_true rfl) ?_
  refine st_bind h (fun o1 ho hk => ?_)
  refine Exists.intro (JP1 _ _ o1 (.exit 0) (R01_Join_L1_x0 p0 p1)) (And.intro (T_le (τ := R01_Join_L1_st p0 p1 [] 0) ?_ (TL.loop (R01_Join_L1_ok p0 p1 [] 0 o1 ho))) (join1 ?_))
  · exact Le.tow 0 0 rfl (.cons rfl (.refl _) (.cons rfl (.refl _) (.cons rfl (.refl _) (.cons rfl (.refl _) (.nil))))) (.refl _) rfl
  have h := hk
  refine st_ret (t := t_R01_Join) h ?_
  exact .refl _
noncomputable def R01_Text (p0 : Int) : Option ((List UInt8)) :=
  need (-9223372036854775808 ≤ p0) >>= fun _ =>
  need (p0 ≤ 9223372036854775807) >>= fun _ =>
  some (textL p0)
set_option maxRecDepth 100000 in
set_option maxHeartbeats 4000000 in
theorem R01_Text_ok : ∀ (p0 : Int) (o : (List UInt8)), R01_Text p0 = some o → PCall Try.prog 58 [iV p0] (t_R01_Text o) := by
  intro p0 o h
  unfold R01_Text at h
  obtain ⟨h1, h⟩ := need_some h
  obtain ⟨h2, h⟩ := need_some h
  cases h
  exact rtext_ok _ h1 h2
noncomputable def R02_Rune (p0 : Int) : Option (Bool) :=
  ( if (decide (p0 ≥ 0)) then
      if (decide (p0 ≤ 1114111)) then
        if (decide (p0 ≥ 55296)) then
          some (!(decide (p0 ≤ 57343)))
        else
          some true
      else
        some false
    else
      some false : Option (Bool)) >>= fun o1 =>
  some o1
set_option maxRecDepth 100000 in
set_option maxHeartbeats 4000000 in
theorem R02_Rune_ok : ∀ (p0 : Int) (o : Bool), R02_Rune p0 = some o → PCall Try.prog 94 [iV p0] (t_R02_Rune o) := by
  intro p0 o h
  unfold R02_Rune at h
  refine PCall.ofB mixed tbOk R02_Rune_lv Try.func94 rfl (by kernel_rfl) (Nat.le_of_ble_eq_true rfl) ?_
  refine st_bind h (fun o1 ho hk => ?_)
  refine Exists.intro (JP1 _ _ o1 .normal (R02_Rune_J0_0 )) (And.intro ?_ (join1 ?_))
  · have h := ho
    refine st_test h (fun hb h => ?_) (fun hb h => ?_)
    · refine st_test h (fun hb h => ?_) (fun hb h => ?_)
      · refine st_test h (fun hb h => ?_) (fun hb h => ?_)
        · refine JP1.a h ?_
          exact Le.tow 0 0 rfl (.cons rfl (.refl _) (.nil)) (.refl _) rfl
        · refine JP1.a h ?_
          exact Le.tow 0 0 rfl (.cons rfl (.refl _) (.nil)) (.refl _) rfl
      · refine JP1.a h ?_
        exact Le.tow 0 0 rfl (.cons rfl (.refl _) (.nil)) (.refl _) rfl
    · refine bF ?_
      refine JP1.a h ?_
      exact Le.tow 0 0 rfl (.cons rfl (.refl _) (.nil)) (.refl _) rfl
  · have h := hk
    refine st_ret (t := t_R02_Rune) h ?_
    exact .refl _
noncomputable def R02_Bytes (p0 : Int) : Option ((List UInt8)) :=
  ( R02_Rune p0 >>= fun x2 =>
    if (!x2) then
      some 65533
    else
      some p0 : Option (Int)) >>= fun o1 =>
  if (decide (o1 < 128)) then
    b2s [(IntKind.u8.wrap o1)] >>= fun x3 =>
    some x3
  else
    if (decide (o1 < 2048)) then
      b2s [(IntKind.u8.wrap (wr (192 + (wr (o1.tdiv 64))))), (IntKind.u8.wrap (wr (128 + (o1.tmod 64))))] >>= fun x4 =>
      some x4
    else
      if (decide (o1 < 65536)) then
        b2s [(IntKind.u8.wrap (wr (224 + (wr (o1.tdiv 4096))))), (IntKind.u8.wrap (wr (128 + ((wr (o1.tdiv 64)).tmod 64)))), (IntKind.u8.wrap (wr (128 + (o1.tmod 64))))] >>= fun x5 =>
        some x5
      else
        b2s [(IntKind.u8.wrap (wr (240 + (wr (o1.tdiv 262144))))), (IntKind.u8.wrap (wr (128 + ((wr (o1.tdiv 4096)).tmod 64)))), (IntKind.u8.wrap (wr (128 + ((wr (o1.tdiv 64)).tmod 64)))), (IntKind.u8.wrap (wr (128 + (o1.tmod 64))))] >>= fun x6 =>
        some x6
set_option maxRecDepth 100000 in
set_option maxHeartbeats 4000000 in
theorem R02_Bytes_ok : ∀ (p0 : Int) (o : (List UInt8)), R02_Bytes p0 = some o → PCall Try.prog 95 [iV p0] (t_R02_Bytes o) := by
  intro p0 o h
  unfold R02_Bytes at h
  refine PCall.ofB mixed tbOk R02_Bytes_lv Try.func95 rfl (by kernel_rfl) (Nat.le_of_ble_eq_true rfl) ?_
  refine st_bind h (fun o1 ho hk => ?_)
  refine Exists.intro (JP1 _ _ o1 .normal (R02_Bytes_J0_0 )) (And.intro ?_ (join1 ?_))
  · have h := ho
    refine st_call [iV p0] t_R02_Rune h (fun x2 hy => (R02_Rune_ok p0 x2 hy)) (fun x2 hy h => ?_)
    refine st_test h (fun hb h => ?_) (fun hb h => ?_)
    · refine JP1.a h ?_
      exact Le.tow 0 0 rfl (.cons rfl (.refl _) (.nil)) (.refl _) rfl
    · refine JP1.a h ?_
      exact Le.tow 0 0 rfl (.cons rfl (.refl _) (.nil)) (.refl _) rfl
  · have h := hk
    refine st_test h (fun hb h => ?_) (fun hb h => ?_)
    · refine vrfl ?_
      refine st_b2s (l := [(IntKind.u8.wrap o1)]) h (fun x3 hi h => ?_)
      refine st_ret (t := t_R02_Bytes) h ?_
      exact .refl _
    · refine st_test h (fun hb h => ?_) (fun hb h => ?_)
      · refine And.intro (by decide) ?_
        refine vrfl ?_
        refine And.intro (by decide) ?_
        refine vrfl ?_
        refine st_b2s (l := [(IntKind.u8.wrap (wr (192 + (wr (o1.tdiv 64))))), (IntKind.u8.wrap (wr (128 + (o1.tmod 64))))]) h (fun x4 hi h => ?_)
        refine st_ret (t := t_R02_Bytes) h ?_
        exact .refl _
      · refine st_test h (fun hb h => ?_) (fun hb h => ?_)
        · refine And.intro (by decide) ?_
          refine vrfl ?_
          refine And.intro (by decide) ?_
          refine And.intro (by decide) ?_
          refine vrfl ?_
          refine And.intro (by decide) ?_
          refine vrfl ?_
          refine st_b2s (l := [(IntKind.u8.wrap (wr (224 + (wr (o1.tdiv 4096))))), (IntKind.u8.wrap (wr (128 + ((wr (o1.tdiv 64)).tmod 64)))), (IntKind.u8.wrap (wr (128 + (o1.tmod 64))))]) h (fun x5 hi h => ?_)
          refine st_ret (t := t_R02_Bytes) h ?_
          exact .refl _
        · refine And.intro (by decide) ?_
          refine vrfl ?_
          refine And.intro (by decide) ?_
          refine And.intro (by decide) ?_
          refine vrfl ?_
          refine And.intro (by decide) ?_
          refine And.intro (by decide) ?_
          refine vrfl ?_
          refine And.intro (by decide) ?_
          refine vrfl ?_
          refine st_b2s (l := [(IntKind.u8.wrap (wr (240 + (wr (o1.tdiv 262144))))), (IntKind.u8.wrap (wr (128 + ((wr (o1.tdiv 4096)).tmod 64)))), (IntKind.u8.wrap (wr (128 + ((wr (o1.tdiv 64)).tmod 64)))), (IntKind.u8.wrap (wr (128 + (o1.tmod 64))))]) h (fun x6 hi h => ?_)
          refine st_ret (t := t_R02_Bytes) h ?_
          exact .refl _
noncomputable def R02_Next_L2 (p0 : (List UInt8)) (p1 : Int) (v6 : (List Int)) (v7 : Int) (v8 : Int) (v9 : Int) : Option (Int) :=
  if (decide (v9 < v7)) then
    idx p0 (wr (p1 + v9)) >>= fun x9 =>
    R02_Next_L2 p0 p1 v6 v7 (wr ((wr ((wr (64 * v8)) + (wr (x9.toNat : Int)))) - 128)) (wr (v9 + 1))
  else
    some v8
  partial_fixpoint
set_option maxRecDepth 100000 in
set_option maxHeartbeats 4000000 in
theorem R02_Next_L2_grp : ∀ (p0 : (List UInt8)) (p1 : Int) (v6 : (List Int)) (v7 : Int), (∀ (v8 : Int) (v9 : Int) (o8 : Int), R02_Next_L2 p0 p1 v6 v7 v8 v9 = some o8 → TL (0, 0) Try.prog 74 R02_Next_L2_c (JP1 (0, 0) 74 o8 (.exit 2) (R02_Next_L2_x0 p0 p1 v6 v7)) (R02_Next_L2_st p0 p1 v6 v7 v8 v9)) := by
  intro p0 p1 v6 v7
  refine R02_Next_L2.partial_correctness p0 p1 v6 v7 _ ?_
  intro R02_Next_L2' ih_R02_Next_L2 v8 v9 o8 h
  refine TL.round (bwp_sound mixed tbOk (lv := R02_Next_lv) _ _ _ ?_)
  refine st_test h (fun hb h => ?_) (fun hb h => ?_)
  · refine st_sidx h (fun x9 hi h => ?_)
    refine vrfl ?_
    refine TL.le (τ := R02_Next_L2_st p0 p1 v6 v7 (wr ((wr ((wr (64 * v8)) + (wr (x9.toNat : Int)))) - 128)) (wr (v9 + 1))) ?_ ((ih_R02_Next_L2 (wr ((wr ((wr (64 * v8)) + (wr (x9.toNat : Int)))) - 128)) (wr (v9 + 1)) _ h))
    exact Le.tow 0 0 rfl (.cons rfl (.refl _) (.cons rfl (.refl _) (.cons rfl (.refl _) (.cons rfl (.refl _) (.cons rfl (.refl _) (.cons rfl (.refl _) (.nil))))))) (.refl _) rfl
  · exact JP1.a h (Le.tow 0 0 rfl (.cons rfl (.refl _) (.cons rfl (.refl _) (.cons rfl (.refl _) (.cons rfl (.refl _) (.cons rfl (.refl _) (.nil)))))) (.refl _) rfl)
theorem R02_Next_L2_ok : ∀ (p0 : (List UInt8)) (p1 : Int) (v6 : (List Int)) (v7 : Int) (v8 : Int) (v9 : Int) (o8 : Int), R02_Next_L2 p0 p1 v6 v7 v8 v9 = some o8 → TL (0, 0) Try.prog 74 R02_Next_L2_c (JP1 (0, 0) 74 o8 (.exit 2) (R02_Next_L2_x0 p0 p1 v6 v7)) (R02_Next_L2_st p0 p1 v6 v7 v8 v9) := fun p0 p1 v6 v7 v8 v9 o8 h => (R02_Next_L2_grp p0 p1 v6 v7) v8 v9 o8 h
noncomputable def R02_Next_L1 (p0 : (List UInt8)) (p1 : Int) (v6 : (List Int)) (v7 : Int) : Option (Unit ⊕ (Int × Int)) :=
  ( if (decide (v7 ≤ 4)) then
      some (decide (v7 ≤ (wr ((p0.length : Int) - p1))))
    else
      some false : Option (Bool)) >>= fun o5 =>
  if o5 then
    idx p0 p1 >>= fun x6 =>
    idx v6 v7 >>= fun x7 =>
    (R02_Next_L2 p0 p1 v6 v7 (wr ((wr (x6.toNat : Int)) - x7)) 1) >>= fun o8 =>
    ( if (decide (o8 ≥ 0)) then
        R02_Rune o8 >>= fun x11 =>
        if x11 then
          R02_Bytes o8 >>= fun x12 =>
          cutL p0 p1 (wr (p1 + v7)) >>= fun x13 =>
          some (x12 == x13)
        else
          some false
      else
        some false : Option (Bool)) >>= fun o10 =>
    if o10 then
      some (.inr (o8, v7))
    else
      R02_Next_L1 p0 p1 v6 (wr (v7 + 1))
  else
    some (.inl ())
  partial_fixpoint
set_option maxRecDepth 100000 in
set_option maxHeartbeats 4000000 in
theorem R02_Next_L1_grp : ∀ (p0 : (List UInt8)) (p1 : Int) (v6 : (List Int)), (∀ (v7 : Int) (o2 : Unit ⊕ (Int × Int)), R02_Next_L1 p0 p1 v6 v7 = some o2 → TL (0, 0) Try.prog 74 R02_Next_L1_c (JP2 (0, 0) 74 o2 (.exit 0) (R02_Next_L1_x0 p0 p1) .ret (R02_Next_L1_x1 p0 p1)) (R02_Next_L1_st p0 p1 v6 v7)) := by
  intro p0 p1 v6
  refine R02_Next_L1.partial_correctness p0 p1 v6 _ ?_
  intro R02_Next_L1' ih_R02_Next_L1 v7 o2 h
  refine TL.round (bwp_sound mixed tbOk (lv := R02_Next_lv) _ _ _ ?_)
  refine st_bind h (fun o5 ho hk => ?_)
  refine Exists.intro (JP1 _ _ o5 .normal (R02_Next_J1_0 p0 p1 v6 v7)) (And.intro ?_ (join1 ?_))
  · have h := ho
    refine st_test h (fun hb h => ?_) (fun hb h => ?_)
    · refine vrfl ?_
      refine JP1.a h ?_
      exact Le.tow 0 0 rfl (.cons rfl (.refl _) (.cons rfl (.refl _) (.cons rfl (.refl _) (.cons rfl (.refl _) (.cons rfl (.refl _) (.nil)))))) (.refl _) rfl
    · refine JP1.a h ?_
      exact Le.tow 0 0 rfl (.cons rfl (.refl _) (.cons rfl (.refl _) (.cons rfl (.refl _) (.cons rfl (.refl _) (.cons rfl (.refl _) (.nil)))))) (.refl _) rfl
  · have h := hk
    refine st_test h (fun hb h => ?_) (fun hb h => ?_)
    · refine And.intro (by decide +kernel) (And.intro rfl ?_)
      refine st_sidx h (fun x6 hi h => ?_)
      refine vrfl ?_
      refine st_idx (l := v6) (c := cInt) (c' := cInt) h (fun _ => rfl) (fun _ => rfl) (by decide) (fun x7 hi h => ?_)
      refine st_bind h (fun o8 ho hk => ?_)
      refine Exists.intro (JP1 _ _ o8 (.exit 2) (R02_Next_L2_x0 p0 p1 v6 v7)) (And.intro (T_le (τ := R02_Next_L2_st p0 p1 v6 v7 (wr ((wr (x6.toNat : Int)) - x7)) 1) ?_ (TL.loop (R02_Next_L2_ok p0 p1 v6 v7 (wr ((wr (x6.toNat : Int)) - x7)) 1 o8 ho))) (join1 ?_))
      · exact Le.tow 0 0 rfl (.cons rfl (.refl _) (.cons rfl (.refl _) (.cons rfl (.refl _) (.cons rfl (.refl _) (.cons rfl (.refl _) (.cons rfl (.refl _) (.nil))))))) (.refl _) rfl
      have h := hk
      refine st_bind h (fun o10 ho hk => ?_)
      refine Exists.intro (JP1 _ _ o10 .normal (R02_Next_J2_0 p0 p1 v6 v7 o8)) (And.intro ?_ (join1 ?_))
      · have h := ho
        refine And.intro (by decide +kernel) (And.intro rfl ?_)
        refine st_test h (fun hb h => ?_) (fun hb h => ?_)
        · refine st_calld [iV o8] t_R02_Rune h (fun x11 hy => (R02_Rune_ok o8 x11 hy)) (fun x11 hy h => ?_)
          refine st_test h (fun hb h => ?_) (fun hb h => ?_)
          · refine st_calld [iV o8] t_R02_Bytes h (fun x12 hy => (R02_Bytes_ok o8 x12 hy)) (fun x12 hy h => ?_)
            refine st_cuts (some p1) (some (wr (p1 + v7))) h (fun x13 hi h => ?_)
            refine JP1.a h ?_
            exact Le.tow 0 0 rfl (.cons rfl (.refl _) (.cons rfl (.refl _) (.cons rfl (.refl _) (.cons rfl (.refl _) (.cons rfl (.refl _) (.cons rfl (.refl _) (.nil))))))) (.refl _) rfl
          · refine JP1.a h ?_
            exact Le.tow 0 0 rfl (.cons rfl (.refl _) (.cons rfl (.refl _) (.cons rfl (.refl _) (.cons rfl (.refl _) (.cons rfl (.refl _) (.cons rfl (.refl _) (.nil))))))) (.refl _) rfl
        · refine bF ?_
          refine JP1.a h ?_
          exact Le.tow 0 0 rfl (.cons rfl (.refl _) (.cons rfl (.refl _) (.cons rfl (.refl _) (.cons rfl (.refl _) (.cons rfl (.refl _) (.cons rfl (.refl _) (.nil))))))) (.refl _) rfl
      · have h := hk
        refine st_test h (fun hb h => ?_) (fun hb h => ?_)
        · exact JP2.b h (Le.tow 0 0 rfl (.cons rfl (.refl _) (.cons rfl (.refl _) (.nil))) (.refl _) rfl)
        · refine TL.le (τ := R02_Next_L1_st p0 p1 v6 (wr (v7 + 1))) ?_ ((ih_R02_Next_L1 (wr (v7 + 1)) _ h))
          exact Le.tow 0 0 rfl (.cons rfl (.refl _) (.cons rfl (.refl _) (.cons rfl (.refl _) (.cons rfl (.refl _) (.nil))))) (.refl _) rfl
    · exact JP2.a h (Le.tow 0 0 rfl (.nil) (.refl _) rfl)
theorem R02_Next_L1_ok : ∀ (p0 : (List UInt8)) (p1 : Int) (v6 : (List Int)) (v7 : Int) (o2 : Unit ⊕ (Int × Int)), R02_Next_L1 p0 p1 v6 v7 = some o2 → TL (0, 0) Try.prog 74 R02_Next_L1_c (JP2 (0, 0) 74 o2 (.exit 0) (R02_Next_L1_x0 p0 p1) .ret (R02_Next_L1_x1 p0 p1)) (R02_Next_L1_st p0 p1 v6 v7) := fun p0 p1 v6 v7 o2 h => (R02_Next_L1_grp p0 p1 v6) v7 o2 h
noncomputable def R02_Next (p0 : (List UInt8)) (p1 : Int) : Option (Int × Int) :=
  ( if (decide (p1 < 0)) then
      some true
    else
      some (decide (p1 ≥ (p0.length : Int))) : Option (Bool)) >>= fun o1 =>
  if o1 then
    some (0, 0)
  else
    (R02_Next_L1 p0 p1 [0, 0, 192, 224, 240] 1) >>= fun o2 =>
    match o2 with
    | .inl y3 =>
      some (65533, 1)
    | .inr y4 =>
      some (y4.1, y4.2)
set_option maxRecDepth 100000 in
set_option maxHeartbeats 4000000 in
theorem R02_Next_ok : ∀ (p0 : (List UInt8)) (p1 : Int) (o : Int × Int), R02_Next p0 p1 = some o → PCall Try.prog 86 [sV p0, iV p1] (t_R02_Next o) := by
  intro p0 p1 o h
  unfold R02_Next at h
  refine PCall.ofB mixed tbOk R02_Next_lv Try.func86 rfl (by kernel_rfl) (Nat.le_of_ble_eq_true rfl) ?_
  refine st_bind h (fun o1 ho hk => ?_)
  refine Exists.intro (JP1 _ _ o1 .normal (R02_Next_J0_0 p0 p1)) (And.intro ?_ (join1 ?_))
  · have h := ho
    refine st_test h (fun hb h => ?_) (fun hb h => ?_)
    · refine JP1.a h ?_
      exact Le.tow 0 0 rfl (.cons rfl (.refl _) (.cons rfl (.refl _) (.cons rfl (.refl _) (.nil)))) (.refl _) rfl
    · refine vrfl ?_
      refine JP1.a h ?_
      exact Le.tow 0 0 rfl (.cons rfl (.refl _) (.cons rfl (.refl _) (.cons rfl (.refl _) (.nil)))) (.refl _) rfl
  · have h := hk
    refine st_test h (fun hb h => ?_) (fun hb h => ?_)
    · refine st_ret (t := t_R02_Next) h ?_
      exact .refl _
    · refine st_bind h (fun o2 ho hk => ?_)
      refine Exists.intro (JP2 _ _ o2 (.exit 0) (R02_Next_L1_x0 p0 p1) .ret (R02_Next_L1_x1 p0 p1)) (And.intro (T_le (τ := R02_Next_L1_st p0 p1 [0, 0, 192, 224, 240] 1) ?_ (TL.loop (R02_Next_L1_ok p0 p1 [0, 0, 192, 224, 240] 1 o2 ho))) (join2 (fun y3 hy => ?_) (fun y4 hy => ?_)))
      · exact Le.tow 0 0 rfl (.cons rfl (.refl _) (.cons rfl (.refl _) (.cons rfl (.refl _) (.cons rfl (.refl _) (.nil))))) (.refl _) rfl
      · have h := (by rw [hy] at hk; exact hk)
        refine st_ret (t := t_R02_Next) h ?_
        exact .refl _
      · have h := (by rw [hy] at hk; exact hk)
        refine st_ret (t := t_R02_Next) h ?_
        exact .refl _
noncomputable def R02_Is_L1 (p0 : (List UInt8)) (v3 : Int) : Option (Unit ⊕ Unit) :=
  if (decide (v3 < (p0.length : Int))) then
    R02_Next p0 v3 >>= fun x4 =>
    ( if (x4.1 == 65533) then
        some (x4.2 == 1)
      else
        some false : Option (Bool)) >>= fun o5 =>
    if o5 then
      some (.inr ())
    else
      R02_Is_L1 p0 (wr (v3 + x4.2))
  else
    some (.inl ())
  partial_fixpoint
set_option maxRecDepth 100000 in
set_option maxHeartbeats 4000000 in
theorem R02_Is_L1_grp : ∀ (p0 : (List UInt8)), (∀ (v3 : Int) (o1 : Unit ⊕ Unit), R02_Is_L1 p0 v3 = some o1 → TL (0, 0) Try.prog 25 R02_Is_L1_c (JP2 (0, 0) 25 o1 (.exit 0) (R02_Is_L1_x0 p0) .ret (R02_Is_L1_x1 p0)) (R02_Is_L1_st p0 v3)) := by
  intro p0
  refine R02_Is_L1.partial_correctness p0 _ ?_
  intro R02_Is_L1' ih_R02_Is_L1 v3 o1 h
  refine TL.round (bwp_sound mixed tbOk (lv := R02_Is_lv) _ _ _ ?_)
  refine vrfl ?_
  refine st_test h (fun hb h => ?_) (fun hb h => ?_)
  · refine st_call [sV p0, iV v3] t_R02_Next h (fun x4 hy => (R02_Next_ok p0 v3 x4 hy)) (fun x4 hy h => ?_)
    refine st_bind h (fun o5 ho hk => ?_)
    refine Exists.intro (JP1 _ _ o5 .normal (R02_Is_J0_0 p0 v3 x4)) (And.intro ?_ (join1 ?_))
    · have h := ho
      refine st_test h (fun hb h => ?_) (fun hb h => ?_)
      · refine JP1.a h ?_
        exact Le.tow 0 0 rfl (.cons rfl (.refl _) (.cons rfl (.refl _) (.cons rfl (.refl _) (.cons rfl (.refl _) (.nil))))) (.refl _) rfl
      · refine JP1.a h ?_
        exact Le.tow 0 0 rfl (.cons rfl (.refl _) (.cons rfl (.refl _) (.cons rfl (.refl _) (.cons rfl (.refl _) (.nil))))) (.refl _) rfl
    · have h := hk
      refine st_test h (fun hb h => ?_) (fun hb h => ?_)
      · exact JP2.b h (Le.tow 0 0 rfl (.cons rfl (.refl _) (.nil)) (.refl _) rfl)
      · refine TL.le (τ := R02_Is_L1_st p0 (wr (v3 + x4.2))) ?_ ((ih_R02_Is_L1 (wr (v3 + x4.2)) _ h))
        exact Le.tow 0 0 rfl (.cons rfl (.refl _) (.cons rfl (.refl _) (.nil))) (.refl _) rfl
  · exact JP2.a h (Le.tow 0 0 rfl (.nil) (.refl _) rfl)
theorem R02_Is_L1_ok : ∀ (p0 : (List UInt8)) (v3 : Int) (o1 : Unit ⊕ Unit), R02_Is_L1 p0 v3 = some o1 → TL (0, 0) Try.prog 25 R02_Is_L1_c (JP2 (0, 0) 25 o1 (.exit 0) (R02_Is_L1_x0 p0) .ret (R02_Is_L1_x1 p0)) (R02_Is_L1_st p0 v3) := fun p0 v3 o1 h => (R02_Is_L1_grp p0) v3 o1 h
noncomputable def R02_Is (p0 : (List UInt8)) : Option (Bool) :=
  (R02_Is_L1 p0 0) >>= fun o1 =>
  match o1 with
  | .inl y2 =>
    some true
  | .inr y3 =>
    some false
set_option maxRecDepth 100000 in
set_option maxHeartbeats 4000000 in
theorem R02_Is_ok : ∀ (p0 : (List UInt8)) (o : Bool), R02_Is p0 = some o → PCall Try.prog 73 [sV p0] (t_R02_Is o) := by
  intro p0 o h
  unfold R02_Is at h
  refine PCall.ofB mixed tbOk R02_Is_lv Try.func73 rfl (by kernel_rfl) (Nat.le_of_ble_eq_true rfl) ?_
  refine st_bind h (fun o1 ho hk => ?_)
  refine Exists.intro (JP2 _ _ o1 (.exit 0) (R02_Is_L1_x0 p0) .ret (R02_Is_L1_x1 p0)) (And.intro (T_le (τ := R02_Is_L1_st p0 0) ?_ (TL.loop (R02_Is_L1_ok p0 0 o1 ho))) (join2 (fun y2 hy => ?_) (fun y3 hy => ?_)))
  · exact Le.tow 0 0 rfl (.cons rfl (.refl _) (.cons rfl (.refl _) (.nil))) (.refl _) rfl
  · have h := (by rw [hy] at hk; exact hk)
    refine st_ret (t := t_R02_Is) h ?_
    exact .refl _
  · have h := (by rw [hy] at hk; exact hk)
    refine st_ret (t := t_R02_Is) h ?_
    exact .refl _
noncomputable def R18_Quote_L1 (p0 : (List UInt8)) (v4 : (List UInt8)) (v5 : Int) : Option ((List UInt8) ⊕ Unit) :=
  if (decide (v5 < (p0.length : Int))) then
    cutL p0 v5 (wr (v5 + 1)) >>= fun x5 =>
    if (x5 == [13]) then
      some (.inr ())
    else
      ( if (x5 == [10]) then
          some [92, 110]
        else
          if (x5 == [9]) then
            some [92, 116]
          else
            ( if (x5 == [34]) then
                some true
              else
                some (x5 == [92]) : Option (Bool)) >>= fun o7 =>
            if o7 then
              need ([92].length + x5.length ≤ 9223372036854775807) >>= fun _ =>
              some ([92] ++ x5)
            else
              some x5 : Option ((List UInt8))) >>= fun o6 =>
      need (v4.length + o6.length ≤ 9223372036854775807) >>= fun _ =>
      R18_Quote_L1 p0 (v4 ++ o6) (wr (v5 + 1))
  else
    some (.inl v4)
  partial_fixpoint
set_option maxRecDepth 100000 in
set_option maxHeartbeats 4000000 in
theorem R18_Quote_L1_grp : ∀ (p0 : (List UInt8)), (∀ (v4 : (List UInt8)) (v5 : Int) (o2 : (List UInt8) ⊕ Unit), R18_Quote_L1 p0 v4 v5 = some o2 → TL (0, 0) Try.prog 40 R18_Quote_L1_c (JP2 (0, 0) 40 o2 (.exit 0) (R18_Quote_L1_x0 p0) .ret (R18_Quote_L1_x1 p0)) (R18_Quote_L1_st p0 v4 v5)) := by
  intro p0
  refine R18_Quote_L1.partial_correctness p0 _ ?_
  intro R18_Quote_L1' ih_R18_Quote_L1 v4 v5 o2 h
  refine TL.round (bwp_sound mixed tbOk (lv := R18_Quote_lv) _ _ _ ?_)
  refine vrfl ?_
  refine st_test h (fun hb h => ?_) (fun hb h => ?_)
  · refine st_cuts (some v5) (some (wr (v5 + 1))) h (fun x5 hi h => ?_)
    refine st_test h (fun hb h => ?_) (fun hb h => ?_)
    · exact JP2.b h (Le.tow 0 0 rfl (.cons rfl (.refl _) (.cons rfl (.refl _) (.nil))) (.refl _) rfl)
    · refine st_bind h (fun o6 ho hk => ?_)
      refine Exists.intro (JP1 _ _ o6 .normal (R18_Quote_J0_0 p0 v4 v5)) (And.intro ?_ (join1 ?_))
      · have h := ho
        refine st_test h (fun hb h => ?_) (fun hb h => ?_)
        · refine JP1.a h ?_
          exact Le.tow 0 0 rfl (.cons rfl (.refl _) (.cons rfl (.refl _) (.cons rfl (.refl _) (.cons rfl (.refl _) (.nil))))) (.refl _) rfl
        · refine st_test h (fun hb h => ?_) (fun hb h => ?_)
          · refine JP1.a h ?_
            exact Le.tow 0 0 rfl (.cons rfl (.refl _) (.cons rfl (.refl _) (.cons rfl (.refl _) (.cons rfl (.refl _) (.nil))))) (.refl _) rfl
          · refine st_bind h (fun o7 ho hk => ?_)
            refine Exists.intro (JP1 _ _ o7 .normal (R18_Quote_J1_0 p0 v4 v5 x5)) (And.intro ?_ (join1 ?_))
            · have h := ho
              refine st_test h (fun hb h => ?_) (fun hb h => ?_)
              · refine JP1.a h ?_
                exact Le.tow 0 0 rfl (.cons rfl (.refl _) (.cons rfl (.refl _) (.cons rfl (.refl _) (.cons rfl (.refl _) (.cons rfl (.refl _) (.nil)))))) (.refl _) rfl
              · refine JP1.a h ?_
                exact Le.tow 0 0 rfl (.cons rfl (.refl _) (.cons rfl (.refl _) (.cons rfl (.refl _) (.cons rfl (.refl _) (.cons rfl (.refl _) (.nil)))))) (.refl _) rfl
            · have h := hk
              refine st_test h (fun hb h => ?_) (fun hb h => ?_)
              · refine st_need h (fun h => ?_)
                refine JP1.a h ?_
                exact Le.tow 0 0 rfl (.cons rfl (.refl _) (.cons rfl (.refl _) (.cons rfl (.refl _) (.cons rfl (.refl _) (.nil))))) (.refl _) rfl
              · refine JP1.a h ?_
                exact Le.tow 0 0 rfl (.cons rfl (.refl _) (.cons rfl (.refl _) (.cons rfl (.refl _) (.cons rfl (.refl _) (.nil))))) (.refl _) rfl
      · have h := hk
        refine st_need h (fun h => ?_)
        refine TL.le (τ := R18_Quote_L1_st p0 (v4 ++ o6) (wr (v5 + 1))) ?_ ((ih_R18_Quote_L1 (v4 ++ o6) (wr (v5 + 1)) _ h))
        exact Le.tow 0 0 rfl (.cons rfl (.refl _) (.cons rfl (.refl _) (.cons rfl (.refl _) (.nil)))) (.refl _) rfl
  · exact JP2.a h (Le.tow 0 0 rfl (.cons rfl (.refl _) (.nil)) (.refl _) rfl)
theorem R18_Quote_L1_ok : ∀ (p0 : (List UInt8)) (v4 : (List UInt8)) (v5 : Int) (o2 : (List UInt8) ⊕ Unit), R18_Quote_L1 p0 v4 v5 = some o2 → TL (0, 0) Try.prog 40 R18_Quote_L1_c (JP2 (0, 0) 40 o2 (.exit 0) (R18_Quote_L1_x0 p0) .ret (R18_Quote_L1_x1 p0)) (R18_Quote_L1_st p0 v4 v5) := fun p0 v4 v5 o2 h => (R18_Quote_L1_grp p0) v4 v5 o2 h
noncomputable def R18_Quote (p0 : (List UInt8)) : Option ((List UInt8) × Bool) :=
  R02_Is p0 >>= fun x1 =>
  if (!x1) then
    some ([], false)
  else
    (R18_Quote_L1 p0 [34] 0) >>= fun o2 =>
    match o2 with
    | .inl y3 =>
      need (y3.length + [34].length ≤ 9223372036854775807) >>= fun _ =>
      some ((y3 ++ [34]), true)
    | .inr y4 =>
      some ([], false)
set_option maxRecDepth 100000 in
set_option maxHeartbeats 4000000 in
theorem R18_Quote_ok : ∀ (p0 : (List UInt8)) (o : (List UInt8) × Bool), R18_Quote p0 = some o → PCall Try.prog 57 [sV p0] (t_R18_Quote o) := by
  intro p0 o h
  unfold R18_Quote at h
  refine PCall.ofB mixed tbOk R18_Quote_lv Try.func57 rfl (by kernel_rfl) (Nat.le_of_ble_eq_true rfl) ?_
  refine st_call [sV p0] t_R02_Is h (fun x1 hy => (R02_Is_ok p0 x1 hy)) (fun x1 hy h => ?_)
  refine st_test h (fun hb h => ?_) (fun hb h => ?_)
  · refine st_ret (t := t_R18_Quote) h ?_
    exact .refl _
  · refine st_bind h (fun o2 ho hk => ?_)
    refine Exists.intro (JP2 _ _ o2 (.exit 0) (R18_Quote_L1_x0 p0) .ret (R18_Quote_L1_x1 p0)) (And.intro (T_le (τ := R18_Quote_L1_st p0 [34] 0) ?_ (TL.loop (R18_Quote_L1_ok p0 [34] 0 o2 ho))) (join2 (fun y3 hy => ?_) (fun y4 hy => ?_)))
    · exact Le.tow 0 0 rfl (.cons rfl (.refl _) (.cons rfl (.refl _) (.cons rfl (.refl _) (.nil)))) (.refl _) rfl
    · have h := (by rw [hy] at hk; exact hk)
      refine st_need h (fun h => ?_)
      refine st_ret (t := t_R18_Quote) h ?_
      exact .refl _
    · have h := (by rw [hy] at hk; exact hk)
      refine st_ret (t := t_R18_Quote) h ?_
      exact .refl _
noncomputable def R18_digit (p0 : Int) : Option (Bool) :=
  ( if (decide (p0 ≥ 48)) then
      some (decide (p0 ≤ 57))
    else
      some false : Option (Bool)) >>= fun o1 =>
  some o1
set_option maxRecDepth 100000 in
set_option maxHeartbeats 4000000 in
theorem R18_digit_ok : ∀ (p0 : Int) (o : Bool), R18_digit p0 = some o → PCall Try.prog 93 [nV .u8 p0] (t_R18_digit o) := by
  intro p0 o h
  unfold R18_digit at h
  refine PCall.ofB mixed tbOk R18_digit_lv Try.func93 rfl (by kernel_rfl) (Nat.le_of_ble_eq_true rfl) ?_
  refine st_bind h (fun o1 ho hk => ?_)
  refine Exists.intro (JP1 _ _ o1 .normal (R18_digit_J0_0 )) (And.intro ?_ (join1 ?_))
  · have h := ho
    refine st_test h (fun hb h => ?_) (fun hb h => ?_)
    · refine JP1.a h ?_
      exact Le.tow 0 0 rfl (.cons rfl (.refl _) (.nil)) (.refl _) rfl
    · refine JP1.a h ?_
      exact Le.tow 0 0 rfl (.cons rfl (.refl _) (.nil)) (.refl _) rfl
  · have h := hk
    refine st_ret (t := t_R18_digit) h ?_
    exact .refl _
noncomputable def R18_small (p0 : Int) : Option (Bool) :=
  ( if (decide (p0 ≥ 97)) then
      some (decide (p0 ≤ 122))
    else
      some false : Option (Bool)) >>= fun o1 =>
  some o1
set_option maxRecDepth 100000 in
set_option maxHeartbeats 4000000 in
theorem R18_small_ok : ∀ (p0 : Int) (o : Bool), R18_small p0 = some o → PCall Try.prog 92 [nV .u8 p0] (t_R18_small o) := by
  intro p0 o h
  unfold R18_small at h
  refine PCall.ofB mixed tbOk R18_small_lv Try.func92 rfl (by kernel_rfl) (Nat.le_of_ble_eq_true rfl) ?_
  refine st_bind h (fun o1 ho hk => ?_)
  refine Exists.intro (JP1 _ _ o1 .normal (R18_small_J0_0 )) (And.intro ?_ (join1 ?_))
  · have h := ho
    refine st_test h (fun hb h => ?_) (fun hb h => ?_)
    · refine JP1.a h ?_
      exact Le.tow 0 0 rfl (.cons rfl (.refl _) (.nil)) (.refl _) rfl
    · refine JP1.a h ?_
      exact Le.tow 0 0 rfl (.cons rfl (.refl _) (.nil)) (.refl _) rfl
  · have h := hk
    refine st_ret (t := t_R18_small) h ?_
    exact .refl _
noncomputable def R18_Word_L1 (p0 : (List UInt8)) (v3 : Int) : Option (Unit ⊕ Unit) :=
  if (decide (v3 < (p0.length : Int))) then
    ( idx p0 v3 >>= fun x8 =>
      R18_small (x8.toNat : Int) >>= fun x9 =>
      if (!x9) then
        idx p0 v3 >>= fun x10 =>
        R18_digit (x10.toNat : Int) >>= fun x11 =>
        if (!x11) then
          idx p0 v3 >>= fun x12 =>
          some ((x12.toNat : Int) != 95)
        else
          some false
      else
        some false : Option (Bool)) >>= fun o7 =>
    if o7 then
      some (.inr ())
    else
      R18_Word_L1 p0 (wr (v3 + 1))
  else
    some (.inl ())
  partial_fixpoint
set_option maxRecDepth 100000 in
set_option maxHeartbeats 4000000 in
theorem R18_Word_L1_grp : ∀ (p0 : (List UInt8)), (∀ (v3 : Int) (o4 : Unit ⊕ Unit), R18_Word_L1 p0 v3 = some o4 → TL (0, 0) Try.prog 42 R18_Word_L1_c (JP2 (0, 0) 42 o4 (.exit 0) (R18_Word_L1_x0 p0) .ret (R18_Word_L1_x1 p0)) (R18_Word_L1_st p0 v3)) := by
  intro p0
  refine R18_Word_L1.partial_correctness p0 _ ?_
  intro R18_Word_L1' ih_R18_Word_L1 v3 o4 h
  refine TL.round (bwp_sound mixed tbOk (lv := R18_Word_lv) _ _ _ ?_)
  refine vrfl ?_
  refine st_test h (fun hb h => ?_) (fun hb h => ?_)
  · refine st_bind h (fun o7 ho hk => ?_)
    refine Exists.intro (JP1 _ _ o7 .normal (R18_Word_J1_0 p0 v3)) (And.intro ?_ (join1 ?_))
    · have h := ho
      refine st_sidx h (fun x8 hi h => ?_)
      refine st_call [nV .u8 (x8.toNat : Int)] t_R18_small h (fun x9 hy => (R18_small_ok (x8.toNat : Int) x9 hy)) (fun x9 hy h => ?_)
      refine st_test h (fun hb h => ?_) (fun hb h => ?_)
      · refine st_sidx h (fun x10 hi h => ?_)
        refine st_call [nV .u8 (x10.toNat : Int)] t_R18_digit h (fun x11 hy => (R18_digit_ok (x10.toNat : Int) x11 hy)) (fun x11 hy h => ?_)
        refine st_test h (fun hb h => ?_) (fun hb h => ?_)
        · refine st_sidx h (fun x12 hi h => ?_)
          refine JP1.a h ?_
          exact Le.tow 0 0 rfl (.cons rfl (.refl _) (.cons rfl (.refl _) (.cons rfl (.refl _) (.nil)))) (.refl _) rfl
        · refine JP1.a h ?_
          exact Le.tow 0 0 rfl (.cons rfl (.refl _) (.cons rfl (.refl _) (.cons rfl (.refl _) (.nil)))) (.refl _) rfl
      · refine bF ?_
        refine JP1.a h ?_
        exact Le.tow 0 0 rfl (.cons rfl (.refl _) (.cons rfl (.refl _) (.cons rfl (.refl _) (.nil)))) (.refl _) rfl
    · have h := hk
      refine st_test h (fun hb h => ?_) (fun hb h => ?_)
      · exact JP2.b h (Le.tow 0 0 rfl (.cons rfl (.refl _) (.nil)) (.refl _) rfl)
      · refine TL.le (τ := R18_Word_L1_st p0 (wr (v3 + 1))) ?_ ((ih_R18_Word_L1 (wr (v3 + 1)) _ h))
        exact Le.tow 0 0 rfl (.cons rfl (.refl _) (.cons rfl (.refl _) (.nil))) (.refl _) rfl
  · exact JP2.a h (Le.tow 0 0 rfl (.nil) (.refl _) rfl)
theorem R18_Word_L1_ok : ∀ (p0 : (List UInt8)) (v3 : Int) (o4 : Unit ⊕ Unit), R18_Word_L1 p0 v3 = some o4 → TL (0, 0) Try.prog 42 R18_Word_L1_c (JP2 (0, 0) 42 o4 (.exit 0) (R18_Word_L1_x0 p0) .ret (R18_Word_L1_x1 p0)) (R18_Word_L1_st p0 v3) := fun p0 v3 o4 h => (R18_Word_L1_grp p0) v3 o4 h
noncomputable def R18_Word (p0 : (List UInt8)) : Option (Bool) :=
  ( if (decide ((p0.length : Int) < 1)) then
      some true
    else
      if (decide ((p0.length : Int) > 32)) then
        some true
      else
        idx p0 0 >>= fun x2 =>
        R18_small (x2.toNat : Int) >>= fun x3 =>
        some (!x3) : Option (Bool)) >>= fun o1 =>
  if o1 then
    some false
  else
    (R18_Word_L1 p0 0) >>= fun o4 =>
    match o4 with
    | .inl y5 =>
      some true
    | .inr y6 =>
      some false
set_option maxRecDepth 100000 in
set_option maxHeartbeats 4000000 in
theorem R18_Word_ok : ∀ (p0 : (List UInt8)) (o : Bool), R18_Word p0 = some o → PCall Try.prog 85 [sV p0] (t_R18_Word o) := by
  intro p0 o h
  unfold R18_Word at h
  refine PCall.ofB mixed tbOk R18_Word_lv Try.func85 rfl (by kernel_rfl) (Nat.le_of_ble_eq_true rfl) ?_
  refine st_bind h (fun o1 ho hk => ?_)
  refine Exists.intro (JP1 _ _ o1 .normal (R18_Word_J0_0 p0)) (And.intro ?_ (join1 ?_))
  · have h := ho
    refine vrfl ?_
    refine st_test h (fun hb h => ?_) (fun hb h => ?_)
    · refine bT ?_
      refine JP1.a h ?_
      exact Le.tow 0 0 rfl (.cons rfl (.refl _) (.cons rfl (.refl _) (.nil))) (.refl _) rfl
    · refine vrfl ?_
      refine st_test h (fun hb h => ?_) (fun hb h => ?_)
      · refine JP1.a h ?_
        exact Le.tow 0 0 rfl (.cons rfl (.refl _) (.cons rfl (.refl _) (.nil))) (.refl _) rfl
      · refine st_sidx h (fun x2 hi h => ?_)
        refine st_call [nV .u8 (x2.toNat : Int)] t_R18_small h (fun x3 hy => (R18_small_ok (x2.toNat : Int) x3 hy)) (fun x3 hy h => ?_)
        refine JP1.a h ?_
        exact Le.tow 0 0 rfl (.cons rfl (.refl _) (.cons rfl (.refl _) (.nil))) (.refl _) rfl
  · have h := hk
    refine st_test h (fun hb h => ?_) (fun hb h => ?_)
    · refine st_ret (t := t_R18_Word) h ?_
      exact .refl _
    · refine st_bind h (fun o4 ho hk => ?_)
      refine Exists.intro (JP2 _ _ o4 (.exit 0) (R18_Word_L1_x0 p0) .ret (R18_Word_L1_x1 p0)) (And.intro (T_le (τ := R18_Word_L1_st p0 0) ?_ (TL.loop (R18_Word_L1_ok p0 0 o4 ho))) (join2 (fun y5 hy => ?_) (fun y6 hy => ?_)))
      · exact Le.tow 0 0 rfl (.cons rfl (.refl _) (.cons rfl (.refl _) (.nil))) (.refl _) rfl
      · have h := (by rw [hy] at hk; exact hk)
        refine st_ret (t := t_R18_Word) h ?_
        exact .refl _
      · have h := (by rw [hy] at hk; exact hk)
        refine st_ret (t := t_R18_Word) h ?_
        exact .refl _
mutual
noncomputable def R19_Count (p0 : (List api_Node)) : Option (Int) :=
  (R19_Count_L1 p0 0 0) >>= fun o1 =>
  some o1
  partial_fixpoint
noncomputable def R19_Count_L1 (p0 : (List api_Node)) (v3 : Int) (v4 : Int) : Option (Int) :=
  if (decide (v4 < (p0.length : Int))) then
    idx p0 v4 >>= fun x2 =>
    R19_Count x2.L >>= fun x3 =>
    idx p0 v4 >>= fun x4 =>
    R19_Count x4.Then >>= fun x5 =>
    idx p0 v4 >>= fun x6 =>
    R19_Count x6.Else >>= fun x7 =>
    R19_Count_L1 p0 (wr ((wr ((wr ((wr (v3 + 1)) + x3)) + x5)) + x7)) (wr (v4 + 1))
  else
    some v3
  partial_fixpoint
end
set_option maxRecDepth 100000 in
set_option maxHeartbeats 4000000 in
theorem R19_Count_grp : (∀ (p0 : (List api_Node)) (o : Int), R19_Count p0 = some o → PCall Try.prog 45 [.sl false (p0.map c_api_Node)] (t_R19_Count o)) ∧ (∀ (p0 : (List api_Node)) (v3 : Int) (v4 : Int) (o1 : Int), R19_Count_L1 p0 v3 v4 = some o1 → TL (0, 0) Try.prog 35 R19_Count_L1_c (JP1 (0, 0) 35 o1 (.exit 0) (R19_Count_L1_x0 p0)) (R19_Count_L1_st p0 v3 v4)) := by
  refine R19_Count.mutual_partial_correctness _ _ ?_ ?_
  · intro R19_Count_L1' ih_R19_Count_L1 p0 o h
    refine PCall.ofB mixed tbOk R19_Count_lv Try.func45 rfl (by kernel_rfl) (Nat.le_of_ble_eq_true rfl) ?_
    refine st_bind h (fun o1 ho hk => ?_)
    refine Exists.intro (JP1 _ _ o1 (.exit 0) (R19_Count_L1_x0 p0)) (And.intro (T_le (τ := R19_Count_L1_st p0 0 0) ?_ (TL.loop (ih_R19_Count_L1 p0 0 0 o1 ho))) (join1 ?_))
    · exact Le.tow 0 0 rfl (.cons rfl (.refl _) (.cons rfl (.refl _) (.cons rfl (.refl _) (.nil)))) (.refl _) rfl
    have h := hk
    refine st_ret (t := t_R19_Count) h ?_
    exact .refl _
  · intro R19_Count' R19_Count_L1' ih_R19_Count ih_R19_Count_L1 p0 v3 v4 o1 h
    refine TL.round (bwp_sound mixed tbOk (lv := R19_Count_lv) _ _ _ ?_)
    refine view (lenMap _ _) rfl ?_
    refine st_test h (fun hb h => ?_) (fun hb h => ?_)
    · refine And.intro (by decide +kernel) (And.intro rfl ?_)
      refine st_idx (l := p0) (c := c_api_Node) (c' := l_api_Node) h c_api_Node_eq (fun _ => rfl) (by decide) (fun x2 hi h => ?_)
      refine st_calld [.sl false (x2.L.map c_api_Node)] t_R19_Count h (fun x3 hy => (ih_R19_Count x2.L x3 hy)) (fun x3 hy h => ?_)
      refine st_idx (l := p0) (c := c_api_Node) (c' := l_api_Node) h c_api_Node_eq (fun _ => rfl) (by decide) (fun x4 hi h => ?_)
      refine st_calld [.sl false (x4.Then.map c_api_Node)] t_R19_Count h (fun x5 hy => (ih_R19_Count x4.Then x5 hy)) (fun x5 hy h => ?_)
      refine st_idx (l := p0) (c := c_api_Node) (c' := l_api_Node) h c_api_Node_eq (fun _ => rfl) (by decide) (fun x6 hi h => ?_)
      refine st_calld [.sl false (x6.Else.map c_api_Node)] t_R19_Count h (fun x7 hy => (ih_R19_Count x6.Else x7 hy)) (fun x7 hy h => ?_)
      refine TL.le (τ := R19_Count_L1_st p0 (wr ((wr ((wr ((wr (v3 + 1)) + x3)) + x5)) + x7)) (wr (v4 + 1))) ?_ ((ih_R19_Count_L1 p0 (wr ((wr ((wr ((wr (v3 + 1)) + x3)) + x5)) + x7)) (wr (v4 + 1)) _ h))
      exact Le.tow 0 0 rfl (.cons rfl (.refl _) (.cons rfl (.refl _) (.cons rfl (.refl _) (.nil)))) (.refl _) rfl
    · exact JP1.a h (Le.tow 0 0 rfl (.cons rfl (.refl _) (.nil)) (.refl _) rfl)
theorem R19_Count_ok : ∀ (p0 : (List api_Node)) (o : Int), R19_Count p0 = some o → PCall Try.prog 45 [.sl false (p0.map c_api_Node)] (t_R19_Count o) := fun p0 o h => R19_Count_grp.1 p0 o h
mutual
noncomputable def R19_Deep (p0 : (List api_Node)) : Option (Int) :=
  (R19_Deep_L1 p0 0 0) >>= fun o1 =>
  some o1
  partial_fixpoint
noncomputable def R19_Deep_L1 (p0 : (List api_Node)) (v3 : Int) (v4 : Int) : Option (Int) :=
  if (decide (v4 < (p0.length : Int))) then
    idx p0 v4 >>= fun x2 =>
    R19_Deep x2.L >>= fun x3 =>
    idx p0 v4 >>= fun x4 =>
    R19_Deep x4.Then >>= fun x5 =>
    idx p0 v4 >>= fun x6 =>
    R19_Deep x6.Else >>= fun x7 =>
    R19_Deep_L1 p0 (if (wr (1 + (if x7 > (if x5 > x3 then x5 else x3) then x7 else (if x5 > x3 then x5 else x3)))) > v3 then (wr (1 + (if x7 > (if x5 > x3 then x5 else x3) then x7 else (if x5 > x3 then x5 else x3)))) else v3) (wr (v4 + 1))
  else
    some v3
  partial_fixpoint
end
set_option maxRecDepth 100000 in
set_option maxHeartbeats 4000000 in
theorem R19_Deep_grp : (∀ (p0 : (List api_Node)) (o : Int), R19_Deep p0 = some o → PCall Try.prog 44 [.sl false (p0.map c_api_Node)] (t_R19_Deep o)) ∧ (∀ (p0 : (List api_Node)) (v3 : Int) (v4 : Int) (o1 : Int), R19_Deep_L1 p0 v3 v4 = some o1 → TL (0, 0) Try.prog 34 R19_Deep_L1_c (JP1 (0, 0) 34 o1 (.exit 0) (R19_Deep_L1_x0 p0)) (R19_Deep_L1_st p0 v3 v4)) := by
  refine R19_Deep.mutual_partial_correctness _ _ ?_ ?_
  · intro R19_Deep_L1' ih_R19_Deep_L1 p0 o h
    refine PCall.ofB mixed tbOk R19_Deep_lv Try.func44 rfl (by kernel_rfl) (Nat.le_of_ble_eq_true rfl) ?_
    refine st_bind h (fun o1 ho hk => ?_)
    refine Exists.intro (JP1 _ _ o1 (.exit 0) (R19_Deep_L1_x0 p0)) (And.intro (T_le (τ := R19_Deep_L1_st p0 0 0) ?_ (TL.loop (ih_R19_Deep_L1 p0 0 0 o1 ho))) (join1 ?_))
    · exact Le.tow 0 0 rfl (.cons rfl (.refl _) (.cons rfl (.refl _) (.cons rfl (.refl _) (.nil)))) (.refl _) rfl
    have h := hk
    refine st_ret (t := t_R19_Deep) h ?_
    exact .refl _
  · intro R19_Deep' R19_Deep_L1' ih_R19_Deep ih_R19_Deep_L1 p0 v3 v4 o1 h
    refine TL.round (bwp_sound mixed tbOk (lv := R19_Deep_lv) _ _ _ ?_)
    refine view (lenMap _ _) rfl ?_
    refine st_test h (fun hb h => ?_) (fun hb h => ?_)
    · refine And.intro (by decide +kernel) (And.intro rfl ?_)
      refine st_idx (l := p0) (c := c_api_Node) (c' := l_api_Node) h c_api_Node_eq (fun _ => rfl) (by decide) (fun x2 hi h => ?_)
      refine st_calld [.sl false (x2.L.map c_api_Node)] t_R19_Deep h (fun x3 hy => (ih_R19_Deep x2.L x3 hy)) (fun x3 hy h => ?_)
      refine st_idx (l := p0) (c := c_api_Node) (c' := l_api_Node) h c_api_Node_eq (fun _ => rfl) (by decide) (fun x4 hi h => ?_)
      refine st_calld [.sl false (x4.Then.map c_api_Node)] t_R19_Deep h (fun x5 hy => (ih_R19_Deep x4.Then x5 hy)) (fun x5 hy h => ?_)
      refine st_idx (l := p0) (c := c_api_Node) (c' := l_api_Node) h c_api_Node_eq (fun _ => rfl) (by decide) (fun x6 hi h => ?_)
      refine st_calld [.sl false (x6.Else.map c_api_Node)] t_R19_Deep h (fun x7 hy => (ih_R19_Deep x6.Else x7 hy)) (fun x7 hy h => ?_)
      refine TL.le (τ := R19_Deep_L1_st p0 (if (wr (1 + (if x7 > (if x5 > x3 then x5 else x3) then x7 else (if x5 > x3 then x5 else x3)))) > v3 then (wr (1 + (if x7 > (if x5 > x3 then x5 else x3) then x7 else (if x5 > x3 then x5 else x3)))) else v3) (wr (v4 + 1))) ?_ ((ih_R19_Deep_L1 p0 (if (wr (1 + (if x7 > (if x5 > x3 then x5 else x3) then x7 else (if x5 > x3 then x5 else x3)))) > v3 then (wr (1 + (if x7 > (if x5 > x3 then x5 else x3) then x7 else (if x5 > x3 then x5 else x3)))) else v3) (wr (v4 + 1)) _ h))
      exact Le.tow 0 0 rfl (.cons rfl (.refl _) (.cons rfl (.refl _) (.cons rfl (.refl _) (.nil)))) (.refl _) rfl
    · exact JP1.a h (Le.tow 0 0 rfl (.cons rfl (.refl _) (.nil)) (.refl _) rfl)
theorem R19_Deep_ok : ∀ (p0 : (List api_Node)) (o : Int), R19_Deep p0 = some o → PCall Try.prog 44 [.sl false (p0.map c_api_Node)] (t_R19_Deep o) := fun p0 o h => R19_Deep_grp.1 p0 o h
mutual
noncomputable def R19_Expr (p0 : api_Node) : Option ((List UInt8)) :=
  if (p0.Kind == 1) then
    R18_Quote p0.Text >>= fun x1 =>
    some x1.1
  else
    if (p0.Kind == 2) then
      R01_Text p0.N >>= fun x2 =>
      some x2
    else
      if (p0.Kind == 3) then
        if (p0.N == 1) then
          some [116, 114, 117, 101]
        else
          some [102, 97, 108, 115, 101]
      else
        if (p0.Kind == 4) then
          some p0.Name
        else
          if (p0.Kind == 5) then
            idx p0.L 0 >>= fun x3 =>
            R19_Expr x3 >>= fun x4 =>
            need (x4.length + [46].length ≤ 9223372036854775807) >>= fun _ =>
            need ((x4 ++ [46]).length + p0.Name.length ≤ 9223372036854775807) >>= fun _ =>
            some ((x4 ++ [46]) ++ p0.Name)
          else
            if (p0.Kind == 7) then
              need ([115, 101, 99, 114, 101, 116, 40, 34].length + p0.Name.length ≤ 9223372036854775807) >>= fun _ =>
              need (([115, 101, 99, 114, 101, 116, 40, 34] ++ p0.Name).length + [34, 41].length ≤ 9223372036854775807) >>= fun _ =>
              some (([115, 101, 99, 114, 101, 116, 40, 34] ++ p0.Name) ++ [34, 41])
            else
              (R19_Expr_L1 p0 [] 0) >>= fun o5 =>
              need (p0.Name.length + [40].length ≤ 9223372036854775807) >>= fun _ =>
              R01_Join o5 [44, 32] >>= fun x9 =>
              need ((p0.Name ++ [40]).length + x9.length ≤ 9223372036854775807) >>= fun _ =>
              need (((p0.Name ++ [40]) ++ x9).length + [41].length ≤ 9223372036854775807) >>= fun _ =>
              some (((p0.Name ++ [40]) ++ x9) ++ [41])
  partial_fixpoint
noncomputable def R19_Expr_L1 (p0 : api_Node) (v5 : (List (List UInt8))) (v6 : Int) : Option ((List (List UInt8))) :=
  if (decide (v6 < (p0.L.length : Int))) then
    idx p0.L v6 >>= fun x6 =>
    R19_Expr x6 >>= fun x7 =>
    appL 16 v5 [x7] >>= fun x8 =>
    R19_Expr_L1 p0 x8 (wr (v6 + 1))
  else
    some v5
  partial_fixpoint
end
set_option maxRecDepth 100000 in
set_option maxHeartbeats 4000000 in
theorem R19_Expr_grp : (∀ (p0 : api_Node) (o : (List UInt8)), R19_Expr p0 = some o → PCall Try.prog 46 [.agg [iV p0.Kind, sV p0.Name, sV p0.Text, iV p0.N, .sl false (p0.L.map c_api_Node), .sl false (p0.Then.map c_api_Node), .sl false (p0.Else.map c_api_Node)]] (t_R19_Expr o)) ∧ (∀ (p0 : api_Node) (v5 : (List (List UInt8))) (v6 : Int) (o5 : (List (List UInt8))), R19_Expr_L1 p0 v5 v6 = some o5 → TL (0, 0) Try.prog 73 R19_Expr_L1_c (JP1 (0, 0) 73 o5 (.exit 1) (R19_Expr_L1_x0 p0)) (R19_Expr_L1_st p0 v5 v6)) := by
  refine R19_Expr.mutual_partial_correctness _ _ ?_ ?_
  · intro R19_Expr' R19_Expr_L1' ih_R19_Expr ih_R19_Expr_L1 p0 o h
    refine PCall.ofB mixed tbOk R19_Expr_lv Try.func46 rfl (by kernel_rfl) (Nat.le_of_ble_eq_true rfl) ?_
    refine st_test h (fun hb h => ?_) (fun hb h => ?_)
    · refine st_call [sV p0.Text] t_R18_Quote h (fun x1 hy => (R18_Quote_ok p0.Text x1 hy)) (fun x1 hy h => ?_)
      refine st_ret (t := t_R19_Expr) h ?_
      exact .refl _
    · refine st_test h (fun hb h => ?_) (fun hb h => ?_)
      · refine st_call [iV p0.N] t_R01_Text h (fun x2 hy => (R01_Text_ok p0.N x2 hy)) (fun x2 hy h => ?_)
        refine st_ret (t := t_R19_Expr) h ?_
        exact .refl _
      · refine st_test h (fun hb h => ?_) (fun hb h => ?_)
        · refine st_test h (fun hb h => ?_) (fun hb h => ?_)
          · refine st_ret (t := t_R19_Expr) h ?_
            exact .refl _
          · refine st_ret (t := t_R19_Expr) h ?_
            exact .refl _
        · refine st_test h (fun hb h => ?_) (fun hb h => ?_)
          · refine st_ret (t := t_R19_Expr) h ?_
            exact .refl _
          · refine st_test h (fun hb h => ?_) (fun hb h => ?_)
            · refine And.intro (by decide +kernel) (And.intro rfl ?_)
              refine st_idx (l := p0.L) (c := c_api_Node) (c' := l_api_Node) h c_api_Node_eq (fun _ => rfl) (by decide) (fun x3 hi h => ?_)
              refine st_calld [.agg [iV x3.Kind, sV x3.Name, sV x3.Text, iV x3.N, .sl false (x3.L.map c_api_Node), .sl false (x3.Then.map c_api_Node), .sl false (x3.Else.map c_api_Node)]] t_R19_Expr h (fun x4 hy => (ih_R19_Expr x3 x4 hy)) (fun x4 hy h => ?_)
              refine st_need h (fun h => ?_)
              refine st_need h (fun h => ?_)
              refine st_ret (t := t_R19_Expr) h ?_
              exact .refl _
            · refine st_test h (fun hb h => ?_) (fun hb h => ?_)
              · refine st_need h (fun h => ?_)
                refine st_need h (fun h => ?_)
                refine st_ret (t := t_R19_Expr) h ?_
                exact .refl _
              · refine st_bind h (fun o5 ho hk => ?_)
                refine Exists.intro (JP1 _ _ o5 (.exit 1) (R19_Expr_L1_x0 p0)) (And.intro (T_le (τ := R19_Expr_L1_st p0 [] 0) ?_ (TL.loop (ih_R19_Expr_L1 p0 [] 0 o5 ho))) (join1 ?_))
                · exact Le.trans (τ := ⟨[(1, .ptr 0 0), (5, .p (.sl true [])), (6, .p (iV 0))], ⟨[[.p (iV p0.Kind), .p (sV p0.Name), .p (sV p0.Text), .p (iV p0.N), .p (.sl false (p0.L.map c_api_Node)), .p (.sl false (p0.Then.map c_api_Node)), .p (.sl false (p0.Else.map c_api_Node))]], []⟩⟩) (Le.tow 1 0 rfl (.cons rfl (.refl _) (.cons rfl (.refl _) (.cons rfl (.refl _) (.nil)))) (.refl _) rfl) ((Le.own 5 9 1 rfl sizeNil).trans (Le.tow 1 1 rfl (.cons rfl (.refl _) (.cons rfl (.refl _) (.cons rfl (.refl _) (.nil)))) (.refl _) rfl))
                have h := hk
                refine And.intro (by decide +kernel) (And.intro rfl ?_)
                refine st_need h (fun h => ?_)
                refine st_calld [.sl false (o5.map cStr), sV [44, 32]] t_R01_Join h (fun x9 hy => (R01_Join_ok o5 [44, 32] x9 hy)) (fun x9 hy h => ?_)
                refine st_need h (fun h => ?_)
                refine st_need h (fun h => ?_)
                refine st_ret (t := t_R19_Expr) h ?_
                exact .refl _
  · intro R19_Expr' R19_Expr_L1' ih_R19_Expr ih_R19_Expr_L1 p0 v5 v6 o5 h
    refine TL.round (bwp_sound mixed tbOk (lv := R19_Expr_lv) _ _ _ ?_)
    refine view (lenMap _ _) rfl ?_
    refine st_test h (fun hb h => ?_) (fun hb h => ?_)
    · refine st_idx (l := p0.L) (c := c_api_Node) (c' := l_api_Node) h c_api_Node_eq (fun _ => rfl) (by decide) (fun x6 hi h => ?_)
      refine st_call [.agg [iV x6.Kind, sV x6.Name, sV x6.Text, iV x6.N, .sl false (x6.L.map c_api_Node), .sl false (x6.Then.map c_api_Node), .sl false (x6.Else.map c_api_Node)]] t_R19_Expr h (fun x7 hy => (ih_R19_Expr x6 x7 hy)) (fun x7 hy h => ?_)
      refine st_appo (a := v5) (b := [x7]) (c := cStr) h (.refl _) (fun _ => rfl) rfl (fun x8 hi h => ?_)
      refine TL.le (τ := R19_Expr_L1_st p0 x8 (wr (v6 + 1))) ?_ ((ih_R19_Expr_L1 p0 x8 (wr (v6 + 1)) _ h))
      exact Le.tow 1 1 rfl (.cons rfl (.refl _) (.cons rfl (.refl _) (.cons rfl (.refl _) (.nil)))) (.refl _) rfl
    · exact JP1.a h (Le.tow 1 1 rfl (.cons rfl (.refl _) (.cons rfl (.refl _) (.nil))) (.refl _) rfl)
theorem R19_Expr_ok : ∀ (p0 : api_Node) (o : (List UInt8)), R19_Expr p0 = some o → PCall Try.prog 46 [.agg [iV p0.Kind, sV p0.Name, sV p0.Text, iV p0.N, .sl false (p0.L.map c_api_Node), .sl false (p0.Then.map c_api_Node), .sl false (p0.Else.map c_api_Node)]] (t_R19_Expr o) := fun p0 o h => R19_Expr_grp.1 p0 o h
noncomputable def R19_Name_L1 (p0 : (List UInt8)) (x1 : (List (List UInt8))) (v4 : Int) : Option (Unit ⊕ Unit) :=
  if (decide (v4 < (x1.length : Int))) then
    idx x1 v4 >>= fun x5 =>
    if (x5 == p0) then
      some (.inr ())
    else
      R19_Name_L1 p0 x1 (wr (v4 + 1))
  else
    some (.inl ())
  partial_fixpoint
set_option maxRecDepth 100000 in
set_option maxHeartbeats 4000000 in
theorem R19_Name_L1_grp : ∀ (p0 : (List UInt8)) (x1 : (List (List UInt8))), (∀ (v4 : Int) (o2 : Unit ⊕ Unit), R19_Name_L1 p0 x1 v4 = some o2 → TL (0, 0) Try.prog 20 R19_Name_L1_c (JP2 (0, 0) 20 o2 (.exit 0) (R19_Name_L1_x0 p0 x1) .ret (R19_Name_L1_x1 p0 x1)) (R19_Name_L1_st p0 x1 v4)) := by
  intro p0 x1
  refine R19_Name_L1.partial_correctness p0 x1 _ ?_
  intro R19_Name_L1' ih_R19_Name_L1 v4 o2 h
  refine TL.round (bwp_sound mixed tbOk (lv := R19_Name_lv) _ _ _ ?_)
  refine view (lenMap _ _) rfl ?_
  refine st_test h (fun hb h => ?_) (fun hb h => ?_)
  · refine st_idx (l := x1) (c := cStr) (c' := cStr) h (fun _ => rfl) (fun _ => rfl) (by decide) (fun x5 hi h => ?_)
    refine st_test h (fun hb h => ?_) (fun hb h => ?_)
    · exact JP2.b h (Le.tow 0 0 rfl (.cons rfl (.refl _) (.nil)) (.refl _) rfl)
    · refine TL.le (τ := R19_Name_L1_st p0 x1 (wr (v4 + 1))) ?_ ((ih_R19_Name_L1 (wr (v4 + 1)) _ h))
      exact Le.tow 0 0 rfl (.cons rfl (.refl _) (.cons rfl (.refl _) (.cons rfl (.refl _) (.nil)))) (.refl _) rfl
  · exact JP2.a h (Le.tow 0 0 rfl (.cons rfl (.refl _) (.nil)) (.refl _) rfl)
theorem R19_Name_L1_ok : ∀ (p0 : (List UInt8)) (x1 : (List (List UInt8))) (v4 : Int) (o2 : Unit ⊕ Unit), R19_Name_L1 p0 x1 v4 = some o2 → TL (0, 0) Try.prog 20 R19_Name_L1_c (JP2 (0, 0) 20 o2 (.exit 0) (R19_Name_L1_x0 p0 x1) .ret (R19_Name_L1_x1 p0 x1)) (R19_Name_L1_st p0 x1 v4) := fun p0 x1 v4 o2 h => (R19_Name_L1_grp p0 x1) v4 o2 h
noncomputable def R19_Words : Option ((List (List UInt8))) :=
  some ([[105, 102], [101, 108, 115, 101], [101, 110, 100], [101, 97, 99, 104], [105, 110], [108, 101, 116], [117, 115, 101], [116, 114, 117, 101], [102, 97, 108, 115, 101], [115, 101, 99, 114, 101, 116]])
set_option maxRecDepth 100000 in
set_option maxHeartbeats 4000000 in
theorem R19_Words_ok : ∀ (o : (List (List UInt8))), R19_Words  = some o → PCall Try.prog 84 [] (t_R19_Words o) := by
  intro o h
  unfold R19_Words at h
  refine PCall.ofB mixed tbOk R19_Words_lv Try.func84 rfl (by kernel_rfl) (Nat.le_of_ble_eq_true rfl) ?_
  refine st_ret (t := t_R19_Words) h ?_
  exact .p (.not)
noncomputable def R19_Name (p0 : (List UInt8)) : Option (Bool) :=
  R19_Words >>= fun x1 =>
  (R19_Name_L1 p0 x1 0) >>= fun o2 =>
  match o2 with
  | .inl y3 =>
    R18_Word p0 >>= fun x6 =>
    some x6
  | .inr y4 =>
    some false
set_option maxRecDepth 100000 in
set_option maxHeartbeats 4000000 in
theorem R19_Name_ok : ∀ (p0 : (List UInt8)) (o : Bool), R19_Name p0 = some o → PCall Try.prog 72 [sV p0] (t_R19_Name o) := by
  intro p0 o h
  unfold R19_Name at h
  refine PCall.ofB mixed tbOk R19_Name_lv Try.func72 rfl (by kernel_rfl) (Nat.le_of_ble_eq_true rfl) ?_
  refine st_call [] t_R19_Words h (fun x1 hy => (R19_Words_ok x1 hy)) (fun x1 hy h => ?_)
  refine st_bind h (fun o2 ho hk => ?_)
  refine Exists.intro (JP2 _ _ o2 (.exit 0) (R19_Name_L1_x0 p0 x1) .ret (R19_Name_L1_x1 p0 x1)) (And.intro (T_le (τ := R19_Name_L1_st p0 x1 0) ?_ (TL.loop (R19_Name_L1_ok p0 x1 0 o2 ho))) (join2 (fun y3 hy => ?_) (fun y4 hy => ?_)))
  · exact Le.tow 0 0 rfl (.cons rfl (.refl _) (.cons rfl (.refl _) (.cons rfl (.refl _) (.nil)))) (.refl _) rfl
  · have h := (by rw [hy] at hk; exact hk)
    refine st_call [sV p0] t_R18_Word h (fun x6 hy => (R18_Word_ok p0 x6 hy)) (fun x6 hy h => ?_)
    refine st_ret (t := t_R19_Name) h ?_
    exact .refl _
  · have h := (by rw [hy] at hk; exact hk)
    refine st_ret (t := t_R19_Name) h ?_
    exact .refl _
noncomputable def R19_bare (p0 : api_Node) (p1 : Bool) (p2 : Bool) (p3 : Bool) (p4 : Bool) (p5 : Bool) : Option (Bool) :=
  ( if p1 then
      if p2 then
        if p3 then
          if p4 then
            if p5 then
              if (p0.Kind == 10) then
                some true
              else
                some ((p0.Else.length : Int) == 0)
            else
              if ((p0.Then.length : Int) == 0) then
                if (p0.Kind == 10) then
                  some true
                else
                  some ((p0.Else.length : Int) == 0)
              else
                some false
          else
            if ((p0.L.length : Int) == 0) then
              if p5 then
                if (p0.Kind == 10) then
                  some true
                else
                  some ((p0.Else.length : Int) == 0)
              else
                if ((p0.Then.length : Int) == 0) then
                  if (p0.Kind == 10) then
                    some true
                  else
                    some ((p0.Else.length : Int) == 0)
                else
                  some false
            else
              some false
        else
          if (p0.N == 0) then
            if p4 then
              if p5 then
                if (p0.Kind == 10) then
                  some true
                else
                  some ((p0.Else.length : Int) == 0)
              else
                if ((p0.Then.length : Int) == 0) then
                  if (p0.Kind == 10) then
                    some true
                  else
                    some ((p0.Else.length : Int) == 0)
                else
                  some false
            else
              if ((p0.L.length : Int) == 0) then
                if p5 then
                  if (p0.Kind == 10) then
                    some true
                  else
                    some ((p0.Else.length : Int) == 0)
                else
                  if ((p0.Then.length : Int) == 0) then
                    if (p0.Kind == 10) then
                      some true
                    else
                      some ((p0.Else.length : Int) == 0)
                  else
                    some false
              else
                some false
          else
            some false
      else
        if (p0.Text == []) then
          if p3 then
            if p4 then
              if p5 then
                if (p0.Kind == 10) then
                  some true
                else
                  some ((p0.Else.length : Int) == 0)
              else
                if ((p0.Then.length : Int) == 0) then
                  if (p0.Kind == 10) then
                    some true
                  else
                    some ((p0.Else.length : Int) == 0)
                else
                  some false
            else
              if ((p0.L.length : Int) == 0) then
                if p5 then
                  if (p0.Kind == 10) then
                    some true
                  else
                    some ((p0.Else.length : Int) == 0)
                else
                  if ((p0.Then.length : Int) == 0) then
                    if (p0.Kind == 10) then
                      some true
                    else
                      some ((p0.Else.length : Int) == 0)
                  else
                    some false
              else
                some false
          else
            if (p0.N == 0) then
              if p4 then
                if p5 then
                  if (p0.Kind == 10) then
                    some true
                  else
                    some ((p0.Else.length : Int) == 0)
                else
                  if ((p0.Then.length : Int) == 0) then
                    if (p0.Kind == 10) then
                      some true
                    else
                      some ((p0.Else.length : Int) == 0)
                  else
                    some false
              else
                if ((p0.L.length : Int) == 0) then
                  if p5 then
                    if (p0.Kind == 10) then
                      some true
                    else
                      some ((p0.Else.length : Int) == 0)
                  else
                    if ((p0.Then.length : Int) == 0) then
                      if (p0.Kind == 10) then
                        some true
                      else
                        some ((p0.Else.length : Int) == 0)
                    else
                      some false
                else
                  some false
            else
              some false
        else
          some false
    else
      if (p0.Name == []) then
        if p2 then
          if p3 then
            if p4 then
              if p5 then
                if (p0.Kind == 10) then
                  some true
                else
                  some ((p0.Else.length : Int) == 0)
              else
                if ((p0.Then.length : Int) == 0) then
                  if (p0.Kind == 10) then
                    some true
                  else
                    some ((p0.Else.length : Int) == 0)
                else
                  some false
            else
              if ((p0.L.length : Int) == 0) then
                if p5 then
                  if (p0.Kind == 10) then
                    some true
                  else
                    some ((p0.Else.length : Int) == 0)
                else
                  if ((p0.Then.length : Int) == 0) then
                    if (p0.Kind == 10) then
                      some true
                    else
                      some ((p0.Else.length : Int) == 0)
                  else
                    some false
              else
                some false
          else
            if (p0.N == 0) then
              if p4 then
                if p5 then
                  if (p0.Kind == 10) then
                    some true
                  else
                    some ((p0.Else.length : Int) == 0)
                else
                  if ((p0.Then.length : Int) == 0) then
                    if (p0.Kind == 10) then
                      some true
                    else
                      some ((p0.Else.length : Int) == 0)
                  else
                    some false
              else
                if ((p0.L.length : Int) == 0) then
                  if p5 then
                    if (p0.Kind == 10) then
                      some true
                    else
                      some ((p0.Else.length : Int) == 0)
                  else
                    if ((p0.Then.length : Int) == 0) then
                      if (p0.Kind == 10) then
                        some true
                      else
                        some ((p0.Else.length : Int) == 0)
                    else
                      some false
                else
                  some false
            else
              some false
        else
          if (p0.Text == []) then
            if p3 then
              if p4 then
                if p5 then
                  if (p0.Kind == 10) then
                    some true
                  else
                    some ((p0.Else.length : Int) == 0)
                else
                  if ((p0.Then.length : Int) == 0) then
                    if (p0.Kind == 10) then
                      some true
                    else
                      some ((p0.Else.length : Int) == 0)
                  else
                    some false
              else
                if ((p0.L.length : Int) == 0) then
                  if p5 then
                    if (p0.Kind == 10) then
                      some true
                    else
                      some ((p0.Else.length : Int) == 0)
                  else
                    if ((p0.Then.length : Int) == 0) then
                      if (p0.Kind == 10) then
                        some true
                      else
                        some ((p0.Else.length : Int) == 0)
                    else
                      some false
                else
                  some false
            else
              if (p0.N == 0) then
                if p4 then
                  if p5 then
                    if (p0.Kind == 10) then
                      some true
                    else
                      some ((p0.Else.length : Int) == 0)
                  else
                    if ((p0.Then.length : Int) == 0) then
                      if (p0.Kind == 10) then
                        some true
                      else
                        some ((p0.Else.length : Int) == 0)
                    else
                      some false
                else
                  if ((p0.L.length : Int) == 0) then
                    if p5 then
                      if (p0.Kind == 10) then
                        some true
                      else
                        some ((p0.Else.length : Int) == 0)
                    else
                      if ((p0.Then.length : Int) == 0) then
                        if (p0.Kind == 10) then
                          some true
                        else
                          some ((p0.Else.length : Int) == 0)
                      else
                        some false
                  else
                    some false
              else
                some false
          else
            some false
      else
        some false : Option (Bool)) >>= fun o1 =>
  some o1
end Go.Proofs.Ytebkhehjfkmdiaa
end
