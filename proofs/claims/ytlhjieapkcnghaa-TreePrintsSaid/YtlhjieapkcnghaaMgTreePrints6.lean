/- The proof's texts, part 6 of 9: the walks by a logic in which data are by value, the plain laws, and at the end the law, for every input. -/
import Derived.Test.YtlhjieapkcnghaaMgTreePrints5

section
set_option linter.unusedVariables false
set_option linter.unusedSimpArgs false
namespace Go.Proofs.Ytlhjieapkcnghaa
open Go.RowKit

structure api_Node where
  Kind : Int
  Name : (List UInt8)
  Text : (List UInt8)
  N : Int
  L : (List api_Node)
  Then : (List api_Node)
  Else : (List api_Node)
mutual
noncomputable def c_api_Node : api_Node → List V
  | ⟨x0, x1, x2, x3, x4, x5, x6⟩ => [iV x0, sV x1, sV x2, iV x3, .sl false (cs_api_Node x4), .sl false (cs_api_Node x5), .sl false (cs_api_Node x6)]
noncomputable def cs_api_Node : List api_Node → List (List V)
  | [] => []
  | x :: r => c_api_Node x :: cs_api_Node r
end
theorem cs_api_Node_map : ∀ l : List api_Node, cs_api_Node l = l.map c_api_Node
  | [] => rfl
  | x :: r => by rw [cs_api_Node, cs_api_Node_map r]; rfl
noncomputable def l_api_Node (x : api_Node) : List V := [iV x.Kind, sV x.Name, sV x.Text, iV x.N, .sl false (x.L.map c_api_Node), .sl false (x.Then.map c_api_Node), .sl false (x.Else.map c_api_Node)]
theorem c_api_Node_eq (x : api_Node) : c_api_Node x = l_api_Node x := by cases x; simp [c_api_Node, l_api_Node, cs_api_Node_map]
structure tree_plan where
  name_ : Bool
  text_ : Bool
  num_ : Bool
  then_ : Bool
  other_ : Bool
  l_ : Int
noncomputable def t_R19_Count (y : Int) : D := .p (iV y)
noncomputable def R19_Count_lv : List (Nat × List Nat) := [(0, [0]), (1, [0, 3]), (2, [0, 3, 4]), (3, [0, 3, 4, 8]), (4, [0, 3, 4]), (5, [0, 3, 4]), (6, [2]), (1000003, [0, 3, 4])]
noncomputable def R19_Count_L1_st (p0 : (List api_Node)) (v3 : Int) (v4 : Int) : St := ⟨[(0, .p (.sl false (p0.map c_api_Node))), (3, .p (iV v3)), (4, .p (iV v4))], ⟨[], []⟩⟩
noncomputable def R19_Count_L1_x0 (p0 : (List api_Node)) (o1 : Int) : St := ⟨[(3, .p (iV o1))], ⟨[], []⟩⟩
noncomputable def R19_Count_L1_c : Code := ((loopsOf (Try.f24.body.getD .skip)).getD 0 .skip)
noncomputable def t_R19_Deep (y : Int) : D := .p (iV y)
noncomputable def R19_Deep_lv : List (Nat × List Nat) := [(0, [0]), (1, [0, 3]), (2, [0, 3, 4]), (3, [0, 3, 4, 8]), (4, [0, 3, 4]), (5, [0, 3, 4]), (6, [2]), (1000003, [0, 3, 4])]
noncomputable def R19_Deep_L1_st (p0 : (List api_Node)) (v3 : Int) (v4 : Int) : St := ⟨[(0, .p (.sl false (p0.map c_api_Node))), (3, .p (iV v3)), (4, .p (iV v4))], ⟨[], []⟩⟩
noncomputable def R19_Deep_L1_x0 (p0 : (List api_Node)) (o1 : Int) : St := ⟨[(3, .p (iV o1))], ⟨[], []⟩⟩
noncomputable def R19_Deep_L1_c : Code := ((loopsOf (Try.f22.body.getD .skip)).getD 0 .skip)
noncomputable def t_R19_Is (y : Bool) : D := .p (bV y)
noncomputable def R19_Is_lv : List (Nat × List Nat) := [(0, [0]), (1, [2]), (3000001, [])]
noncomputable def R19_Is_J0_0  (o1 : Bool) : St := ⟨[(2, .p (bV o1))], ⟨[], []⟩⟩
noncomputable def t_R19_bare (y : Bool) : D := .p (bV y)
noncomputable def R19_bare_lv : List (Nat × List Nat) := [(0, [1, 2, 3, 4, 5, 6]), (1, [12]), (3000001, [])]
noncomputable def R19_bare_J0_0 (p0 : api_Node) (o1 : Bool) : St := ⟨[(12, .p (bV o1))], ⟨[[.p (iV p0.Kind), .p (sV p0.Name), .p (sV p0.Text), .p (iV p0.N), .p (.sl false (p0.L.map c_api_Node)), .p (.sl false (p0.Then.map c_api_Node)), .p (.sl false (p0.Else.map c_api_Node))]], []⟩⟩
noncomputable def t_R19_block (y : Bool) : D := .p (bV y)
noncomputable def R19_block_lv : List (Nat × List Nat) := [(0, [0, 1]), (1, [0, 1, 5]), (2, [0, 1, 5, 11]), (3, [0, 1, 5]), (4, [0, 1, 5, 19]), (5, [4]), (6, [0, 1, 5, 25]), (7, [0, 1, 5, 6]), (8, [0, 1, 5, 6, 7]), (9, [0, 1, 5, 61]), (10, [4]), (11, [4]), (1000002, [0, 1, 5]), (3000009, [])]
noncomputable def R19_block_J0_0 (p0 : (List api_Node)) (p1 : Bool) (v5 : Int) (o8 : Bool) : St := ⟨[(0, .p (.sl false (p0.map c_api_Node))), (1, .p (bV p1)), (5, .p (iV v5)), (61, .p (bV o8))], ⟨[], []⟩⟩
noncomputable def R19_block_L1_st (p0 : (List api_Node)) (p1 : Bool) (v5 : Int) : St := ⟨[(0, .p (.sl false (p0.map c_api_Node))), (1, .p (bV p1)), (5, .p (iV v5))], ⟨[], []⟩⟩
noncomputable def R19_block_L1_x0 (p0 : (List api_Node)) (p1 : Bool) (y2 : Unit) : St := ⟨[], ⟨[], []⟩⟩
noncomputable def R19_block_L1_x1 (p0 : (List api_Node)) (p1 : Bool) (y3 : Unit) : St := ⟨[(4, .p (bV false))], ⟨[], []⟩⟩
noncomputable def R19_block_L1_c : Code := ((loopsOf (Try.f48.body.getD .skip)).getD 0 .skip)
noncomputable def t_R19_expr (y : Bool) : D := .p (bV y)
noncomputable def R19_expr_lv : List (Nat × List Nat) := [(0, [1]), (1, [1, 6]), (2, [1, 6, 7]), (3, [1, 4]), (4, [2]), (5, [1, 6, 20]), (6, [2]), (7, [1, 6, 24]), (8, [2]), (9, [1, 6, 38]), (10, [2]), (11, [1, 6, 47]), (12, [2]), (13, [1, 6, 67]), (14, [2]), (15, [1, 87]), (16, [2]), (17, [2]), (3000004, []), (3000008, []), (3000010, []), (3000012, []), (3000014, []), (3000016, [])]
noncomputable def R19_expr_J0_0 (p0 : api_Node) (o2 : Bool) : St := ⟨[(2, .p (bV o2))], ⟨[[.p (iV p0.Kind), .p (sV p0.Name), .p (sV p0.Text), .p (iV p0.N), .p (.sl false (p0.L.map c_api_Node)), .p (.sl false (p0.Then.map c_api_Node)), .p (.sl false (p0.Else.map c_api_Node))]], []⟩⟩
noncomputable def R19_expr_J1_0 (p0 : api_Node) (o5 : Bool) : St := ⟨[(2, .p (bV o5))], ⟨[[.p (iV p0.Kind), .p (sV p0.Name), .p (sV p0.Text), .p (iV p0.N), .p (.sl false (p0.L.map c_api_Node)), .p (.sl false (p0.Then.map c_api_Node)), .p (.sl false (p0.Else.map c_api_Node))]], []⟩⟩
noncomputable def R19_expr_J2_0 (p0 : api_Node) (o8 : Bool) : St := ⟨[(2, .p (bV o8))], ⟨[[.p (iV p0.Kind), .p (sV p0.Name), .p (sV p0.Text), .p (iV p0.N), .p (.sl false (p0.L.map c_api_Node)), .p (.sl false (p0.Then.map c_api_Node)), .p (.sl false (p0.Else.map c_api_Node))]], []⟩⟩
noncomputable def R19_expr_J3_0 (p0 : api_Node) (o11 : Bool) : St := ⟨[(2, .p (bV o11))], ⟨[[.p (iV p0.Kind), .p (sV p0.Name), .p (sV p0.Text), .p (iV p0.N), .p (.sl false (p0.L.map c_api_Node)), .p (.sl false (p0.Then.map c_api_Node)), .p (.sl false (p0.Else.map c_api_Node))]], []⟩⟩
noncomputable def R19_expr_J4_0 (p0 : api_Node) (o15 : Bool) : St := ⟨[(2, .p (bV o15))], ⟨[[.p (iV p0.Kind), .p (sV p0.Name), .p (sV p0.Text), .p (iV p0.N), .p (.sl false (p0.L.map c_api_Node)), .p (.sl false (p0.Then.map c_api_Node)), .p (.sl false (p0.Else.map c_api_Node))]], []⟩⟩
noncomputable def R19_expr_J5_0 (p0 : api_Node) (o19 : Bool) : St := ⟨[(2, .p (bV o19))], ⟨[[.p (iV p0.Kind), .p (sV p0.Name), .p (sV p0.Text), .p (iV p0.N), .p (.sl false (p0.L.map c_api_Node)), .p (.sl false (p0.Then.map c_api_Node)), .p (.sl false (p0.Else.map c_api_Node))]], []⟩⟩
noncomputable def t_R19_exprs (y : Bool) : D := .p (bV y)
noncomputable def R19_exprs_lv : List (Nat × List Nat) := [(0, [0]), (1, [0, 3]), (2, [0, 3, 7]), (3, [0, 3]), (4, [0, 3, 15]), (5, [2]), (6, [2]), (1000002, [0, 3])]
noncomputable def R19_exprs_L1_st (p0 : (List api_Node)) (v3 : Int) : St := ⟨[(0, .p (.sl false (p0.map c_api_Node))), (3, .p (iV v3))], ⟨[], []⟩⟩
noncomputable def R19_exprs_L1_x0 (p0 : (List api_Node)) (y2 : Unit) : St := ⟨[], ⟨[], []⟩⟩
noncomputable def R19_exprs_L1_x1 (p0 : (List api_Node)) (y3 : Unit) : St := ⟨[(2, .p (bV false))], ⟨[], []⟩⟩
noncomputable def R19_exprs_L1_c : Code := ((loopsOf (Try.f106.body.getD .skip)).getD 0 .skip)
noncomputable def t_R19_stands (y : Bool) : D := .p (bV y)
noncomputable def R19_stands_lv : List (Nat × List Nat) := [(0, [0, 1]), (1, [0, 1, 5]), (2, [0, 1, 5, 9]), (3, [0, 1, 5]), (4, [0, 1, 5, 15]), (5, [4]), (6, [4]), (1000002, [0, 1, 5])]
noncomputable def R19_stands_L1_st (p0 : (List UInt8)) (p1 : (List UInt8)) (v5 : Int) : St := ⟨[(0, .p (sV p0)), (1, .p (sV p1)), (5, .p (iV v5))], ⟨[], []⟩⟩
noncomputable def R19_stands_L1_x0 (p0 : (List UInt8)) (p1 : (List UInt8)) (y2 : Unit) : St := ⟨[], ⟨[], []⟩⟩
noncomputable def R19_stands_L1_x1 (p0 : (List UInt8)) (p1 : (List UInt8)) (y3 : Unit) : St := ⟨[(4, .p (bV true))], ⟨[], []⟩⟩
noncomputable def R19_stands_L1_c : Code := ((loopsOf (Try.f107.body.getD .skip)).getD 0 .skip)
noncomputable def t_R19_stmt (y : Bool) : D := .p (bV y)
noncomputable def R19_stmt_lv : List (Nat × List Nat) := [(0, [1]), (1, [1, 3]), (2, [1, 3, 14]), (3, [1, 3, 14, 15]), (4, [2]), (5, [1, 3, 14, 30]), (6, [2]), (7, [1, 3, 14, 37]), (8, [2]), (9, [1, 3, 14, 54]), (10, [1, 3, 14, 54]), (11, [2]), (12, [1, 3, 72]), (13, [2]), (14, [2]), (2009005, []), (3000001, []), (3000004, []), (3000006, []), (3000008, []), (3000011, []), (3000013, [])]
noncomputable def R19_stmt_J0_0 (p0 : api_Node) (o1 : Bool) : St := ⟨[(1, .ptr 0 0), (3, .p (bV o1))], ⟨[[.p (iV p0.Kind), .p (sV p0.Name), .p (sV p0.Text), .p (iV p0.N), .p (.sl false (p0.L.map c_api_Node)), .p (.sl false (p0.Then.map c_api_Node)), .p (.sl false (p0.Else.map c_api_Node))]], []⟩⟩
noncomputable def R19_stmt_J1_0 (p0 : api_Node) (o3 : Bool) : St := ⟨[(2, .p (bV o3))], ⟨[[.p (iV p0.Kind), .p (sV p0.Name), .p (sV p0.Text), .p (iV p0.N), .p (.sl false (p0.L.map c_api_Node)), .p (.sl false (p0.Then.map c_api_Node)), .p (.sl false (p0.Else.map c_api_Node))]], []⟩⟩
noncomputable def R19_stmt_J2_0 (p0 : api_Node) (o6 : Bool) : St := ⟨[(2, .p (bV o6))], ⟨[[.p (iV p0.Kind), .p (sV p0.Name), .p (sV p0.Text), .p (iV p0.N), .p (.sl false (p0.L.map c_api_Node)), .p (.sl false (p0.Then.map c_api_Node)), .p (.sl false (p0.Else.map c_api_Node))]], []⟩⟩
noncomputable def R19_stmt_J3_0 (p0 : api_Node) (o8 : Bool) : St := ⟨[(2, .p (bV o8))], ⟨[[.p (iV p0.Kind), .p (sV p0.Name), .p (sV p0.Text), .p (iV p0.N), .p (.sl false (p0.L.map c_api_Node)), .p (.sl false (p0.Then.map c_api_Node)), .p (.sl false (p0.Else.map c_api_Node))]], []⟩⟩
noncomputable def R19_stmt_J4_0 (p0 : api_Node) (o1 : Bool) (o12 : Bool) : St := ⟨[(1, .ptr 0 0), (3, .p (bV o1)), (14, .p (iV p0.Kind)), (54, .p (bV o12))], ⟨[[.p (iV p0.Kind), .p (sV p0.Name), .p (sV p0.Text), .p (iV p0.N), .p (.sl false (p0.L.map c_api_Node)), .p (.sl false (p0.Then.map c_api_Node)), .p (.sl false (p0.Else.map c_api_Node))]], []⟩⟩
noncomputable def R19_stmt_J5_0 (p0 : api_Node) (o13 : Bool) : St := ⟨[(2, .p (bV o13))], ⟨[[.p (iV p0.Kind), .p (sV p0.Name), .p (sV p0.Text), .p (iV p0.N), .p (.sl false (p0.L.map c_api_Node)), .p (.sl false (p0.Then.map c_api_Node)), .p (.sl false (p0.Else.map c_api_Node))]], []⟩⟩
noncomputable def R19_stmt_J6_0 (p0 : api_Node) (o17 : Bool) : St := ⟨[(2, .p (bV o17))], ⟨[[.p (iV p0.Kind), .p (sV p0.Name), .p (sV p0.Text), .p (iV p0.N), .p (.sl false (p0.L.map c_api_Node)), .p (.sl false (p0.Then.map c_api_Node)), .p (.sl false (p0.Else.map c_api_Node))]], []⟩⟩
noncomputable def t_nunciolaw19_Light (y : (List api_Node) × Int) : D := .tup [.p (.sl false (y.1.map c_api_Node)), .p (iV y.2)]
noncomputable def nunciolaw19_Light_lv : List (Nat × List Nat) := [(0, [0, 1, 2]), (1, [0, 1, 2, 8]), (2, [0, 1, 2, 8, 9]), (3, [0, 1, 2, 8, 9, 24]), (4, [0, 1, 2, 8, 9]), (5, [0, 1, 2, 8, 9, 10]), (6, [0, 1, 2, 8, 9, 10]), (7, [0, 1, 2, 8, 9, 10, 11]), (8, [0, 1, 2, 8, 9, 10, 11]), (9, [0, 1, 2, 8, 9, 10, 11]), (10, [0, 1, 2, 8, 9, 11]), (11, [0, 1, 2, 8, 9]), (12, [6, 7]), (1000003, [0, 1, 2, 8, 9]), (3000003, [])]
noncomputable def nunciolaw19_Light_J0_0 (p0 : (List api_Node)) (p1 : Int) (v2 : Int) (v8 : (List api_Node)) (v9 : Int) (o2 : Bool) : St := ⟨[(0, .p (.sl false (p0.map c_api_Node))), (1, .p (iV p1)), (2, .p (iV v2)), (8, .own 0 52 7 (v8.map c_api_Node)), (9, .p (iV v9)), (24, .p (bV o2))], ⟨[], [(v8.map c_api_Node).length]⟩⟩
noncomputable def nunciolaw19_Light_L1_st (p0 : (List api_Node)) (p1 : Int) (v2 : Int) (v8 : (List api_Node)) (v9 : Int) : St := ⟨[(0, .p (.sl false (p0.map c_api_Node))), (1, .p (iV p1)), (2, .p (iV v2)), (8, .own 0 52 7 (v8.map c_api_Node)), (9, .p (iV v9))], ⟨[], [(v8.map c_api_Node).length]⟩⟩
noncomputable def nunciolaw19_Light_L1_x0 (p0 : (List api_Node)) (p1 : Int) (o1 : Int × (List api_Node)) : St := ⟨[(2, .p (iV o1.1)), (8, .own 0 52 7 (o1.2.map c_api_Node))], ⟨[], [(o1.2.map c_api_Node).length]⟩⟩
noncomputable def nunciolaw19_Light_L1_c : Code := ((loopsOf (Try.f46.body.getD .skip)).getD 0 .skip)
noncomputable def t_nunciolaw19_awake (y : Bool) : D := .p (bV y)
noncomputable def nunciolaw19_awake_lv : List (Nat × List Nat) := [(0, []), (1, [1, 2]), (2, [1, 2, 3, 4]), (3, [0]), (3000003, [])]
noncomputable def nunciolaw19_awake_J0_0  (o3 : Bool) : St := ⟨[(0, .p (bV o3))], ⟨[], []⟩⟩
noncomputable def t_nunciolaw19_light (y : (List api_Node)) : D := .p (.sl false (y.map c_api_Node))
noncomputable def nunciolaw19_light_lv : List (Nat × List Nat) := [(0, [0]), (1, [3]), (2, [2])]
noncomputable def t_octet_Text (y : (List UInt8)) : D := .p (sV y)
noncomputable def t_slices_ContainsFunc_api_Node_api_Node_tree_expr_1 (y : Bool) : D := .p (bV y)
noncomputable def slices_ContainsFunc_api_Node_api_Node_tree_expr_1_lv : List (Nat × List Nat) := [(0, [0, 1]), (1, [4])]
noncomputable def t_slices_IndexFunc_api_Node_api_Node_tree_expr_1 (y : Int) : D := .p (iV y)
noncomputable def slices_IndexFunc_api_Node_api_Node_tree_expr_1_lv : List (Nat × List Nat) := [(0, [0, 1]), (1, [0, 1, 7, 8]), (2, [0, 1, 7, 8, 9]), (3, [0, 1, 5, 7, 8]), (4, [0, 1, 5, 7, 8, 16]), (5, [4]), (6, [0, 1, 7, 8]), (7, [4]), (1000002, [0, 1, 7, 8])]
noncomputable def slices_IndexFunc_api_Node_api_Node_tree_expr_1_L1_st (p0 : (List api_Node)) (v8 : Int) : St := ⟨[(0, .p (.sl false (p0.map c_api_Node))), (1, .fn (.func 124) [] []), (7, .p (iV (p0.length : Int))), (8, .p (iV v8))], ⟨[], []⟩⟩
noncomputable def slices_IndexFunc_api_Node_api_Node_tree_expr_1_L1_x0 (p0 : (List api_Node)) (y2 : Unit) : St := ⟨[], ⟨[], []⟩⟩
noncomputable def slices_IndexFunc_api_Node_api_Node_tree_expr_1_L1_x1 (p0 : (List api_Node)) (y3 : Int) : St := ⟨[(4, .p (iV y3))], ⟨[], []⟩⟩
noncomputable def slices_IndexFunc_api_Node_api_Node_tree_expr_1_L1_c : Code := ((loopsOf (Try.f133.body.getD .skip)).getD 0 .skip)
noncomputable def t_strings_Builder_Len_2 (y : Int) : D := .p (iV y)
noncomputable def strings_Builder_Len_2_lv : List (Nat × List Nat) := [(0, [0]), (1, [2])]
noncomputable def t_strings_Builder_String_2 (y : (List UInt8)) : D := .p (sV y)
noncomputable def t_strings_Builder_WriteString_2 (y : Int × Unit × Bool × (List Int)) : D := .tup [.p (iV y.1), .p (.v .nilIface)]
noncomputable def strings_Builder_WriteString_2_lv : List (Nat × List Nat) := [(0, [0, 1]), (1, [0, 1]), (2, [1]), (3, [4, 5])]
noncomputable def t_strings_Builder_copyCheck_2 (_ : Bool) : D := .tup []
noncomputable def t_tree_Count (y : Int) : D := .p (iV y)
noncomputable def tree_Count_lv : List (Nat × List Nat) := [(0, [0]), (1, [0, 3]), (2, [3, 5]), (3, [3, 5]), (4, [2]), (4000003, [3, 5])]
noncomputable def tree_Count_L1_st (x1 : (List api_Node) × Int) (h0_0 : Int) : St := ⟨[(3, .ptr 0 0), (5, .fn (.func 80) [] [.p (.ep [.sl false (x1.1.map c_api_Node)]), .p (.ep [iV x1.2])])], ⟨[[.p (iV h0_0)]], []⟩⟩
noncomputable def tree_Count_L1_x0 (x1 : (List api_Node) × Int) (o6 : Int) : St := ⟨[(3, .ptr 0 0), (5, .fn (.func 80) [] [.p (.ep [.sl false (x1.1.map c_api_Node)]), .p (.ep [iV x1.2])])], ⟨[[.p (iV o6)]], []⟩⟩
noncomputable def tree_Count_L1_c : Code := ((loopsOf (Try.f23.body.getD .skip)).getD 0 .skip)
noncomputable def t_tree_Deep (y : Int) : D := .p (iV y)
noncomputable def tree_Deep_lv : List (Nat × List Nat) := [(0, [0, 5]), (1, [0, 3, 5]), (2, [3, 5, 7]), (3, [3, 5, 7]), (4, [3, 5, 7]), (5, [2]), (4000003, [3, 5, 7])]
noncomputable def tree_Deep_L1_st (x1 : (List api_Node) × Int) (h0_0 : Int) : St := ⟨[(3, .ptr 0 0), (7, .fn (.func 80) [] [.p (.ep [.sl false (x1.1.map c_api_Node)]), .p (.ep [iV x1.2])])], ⟨[[.p (iV h0_0)]], []⟩⟩
noncomputable def tree_Deep_L1_x0 (x1 : (List api_Node) × Int) (o6 : Int) : St := ⟨[(3, .ptr 0 0), (7, .fn (.func 80) [] [.p (.ep [.sl false (x1.1.map c_api_Node)]), .p (.ep [iV x1.2])])], ⟨[[.p (iV o6)]], []⟩⟩
noncomputable def tree_Deep_L1_c : Code := ((loopsOf (Try.f21.body.getD .skip)).getD 0 .skip)
noncomputable def t_tree_Is (y : Bool) : D := .p (bV y)
noncomputable def tree_Is_lv : List (Nat × List Nat) := [(0, [0]), (1, [2]), (3000001, [])]
noncomputable def tree_Is_J0_0  (o1 : Bool) : St := ⟨[(2, .p (bV o1))], ⟨[], []⟩⟩
noncomputable def t_tree_Print (y : (List UInt8) × Bool) : D := .tup [.p (sV y.1), .p (bV y.2)]
noncomputable def tree_Print_lv : List (Nat × List Nat) := [(0, [0]), (1, [0, 7]), (2, [2, 3]), (3, [0, 4]), (4, [4]), (5, [4, 17]), (6, [2, 3]), (7, [2, 3])]
noncomputable def t_tree_all (y : (List api_Node) × Int) : D := .fn (.func 80) [] [.p (.ep [.sl false (y.1.map c_api_Node)]), .p (.ep [iV y.2])]
noncomputable def tree_all_lv : List (Nat × List Nat) := [(0, [2, 3]), (1, [4])]
noncomputable def e_tree_all_1 (y : (api_Node × Int)) : List V := [.agg [iV y.1.Kind, sV y.1.Name, sV y.1.Text, iV y.1.N, .sl false (y.1.L.map c_api_Node), .sl false (y.1.Then.map c_api_Node), .sl false (y.1.Else.map c_api_Node)], iV y.2]
noncomputable def tree_all_1_lv : List (Nat × List Nat) := [(0, [1, 2, 3, 8, 9]), (1, [2, 3, 8, 9, 10, 11, 12]), (2, [2, 3, 8, 9, 10, 11, 12, 13]), (3, [2, 3, 5, 8, 9, 10, 11, 12]), (4, [2, 3, 5, 8, 9, 10, 11, 12, 20]), (5, [2, 3, 8, 9, 10, 11, 12, 27, 28]), (6, [2, 3, 8, 9, 10, 11, 12, 27, 28, 29]), (7, [2, 3, 7, 8, 9, 10, 11, 12, 27, 28]), (8, [2, 3, 8, 9, 10, 11, 12, 27, 28, 34]), (9, [2, 3, 8, 10, 11, 12, 27, 28, 34, 36]), (10, [2, 3, 8, 9, 10, 11, 12, 27, 28, 34]), (11, [2, 3, 8, 9, 10, 11, 12, 27, 28, 34, 41]), (12, [2, 3, 8, 9, 10, 11, 12, 27, 28]), (13, [2, 3, 8, 9, 10, 11, 12]), (1000002, [2, 3, 8, 9, 10, 11, 12]), (1000006, [2, 3, 8, 9, 10, 11, 12, 27, 28]), (4000009, [2, 3, 8, 9, 10, 11, 12, 27, 28, 34])]
noncomputable def tree_all_1_L3_st (p0 : (List api_Node)) (p1 : Int) (v12 : Int) (x3 : api_Node) (v28 : Int) (x7 : (List api_Node) × Int) (gxs gp : List (List V)) : St := ⟨[(2, .p (.ep [iV p1])), (3, .ptr 0 0), (10, .p (.sl false (p0.map c_api_Node))), (11, .p (iV (p0.length : Int))), (12, .p (iV v12)), (27, .p (.agg [.sl false (x3.L.map c_api_Node), .sl false (x3.Then.map c_api_Node), .sl false (x3.Else.map c_api_Node)])), (28, .p (iV v28)), (34, .fn (.func 80) [] [.p (.ep [.sl false (x7.1.map c_api_Node)]), .p (.ep [iV x7.2])])], ⟨[[.yld Try.prog 0 gxs], [.p (iV x3.Kind), .p (sV x3.Name), .p (sV x3.Text), .p (iV x3.N), .p (.sl false (x3.L.map c_api_Node)), .p (.sl false (x3.Then.map c_api_Node)), .p (.sl false (x3.Else.map c_api_Node))]], [gp.length]⟩⟩
noncomputable def tree_all_1_L3_x0 (p0 : (List api_Node)) (p1 : Int) (v12 : Int) (x3 : api_Node) (v28 : Int) (x7 : (List api_Node) × Int) (gxs : List (List V)) (gq12 : List (List V)) (oy : Unit) : St := ⟨[(2, .p (.ep [iV p1])), (3, .ptr 0 0), (10, .p (.sl false (p0.map c_api_Node))), (11, .p (iV (p0.length : Int))), (12, .p (iV v12)), (27, .p (.agg [.sl false (x3.L.map c_api_Node), .sl false (x3.Then.map c_api_Node), .sl false (x3.Else.map c_api_Node)])), (28, .p (iV v28)), (34, .fn (.func 80) [] [.p (.ep [.sl false (x7.1.map c_api_Node)]), .p (.ep [iV x7.2])])], ⟨[[.yld Try.prog 0 gxs], [.p (iV x3.Kind), .p (sV x3.Name), .p (sV x3.Text), .p (iV x3.N), .p (.sl false (x3.L.map c_api_Node)), .p (.sl false (x3.Then.map c_api_Node)), .p (.sl false (x3.Else.map c_api_Node))]], [gq12.length]⟩⟩
noncomputable def tree_all_1_L3_c : Code := ((loopsOf (Try.f80.body.getD .skip)).getD 2 .skip)
noncomputable def tree_all_1_L2_st (p0 : (List api_Node)) (p1 : Int) (v12 : Int) (x3 : api_Node) (v28 : Int) (gxs gp : List (List V)) : St := ⟨[(2, .p (.ep [iV p1])), (3, .ptr 0 0), (10, .p (.sl false (p0.map c_api_Node))), (11, .p (iV (p0.length : Int))), (12, .p (iV v12)), (27, .p (.agg [.sl false (x3.L.map c_api_Node), .sl false (x3.Then.map c_api_Node), .sl false (x3.Else.map c_api_Node)])), (28, .p (iV v28))], ⟨[[.yld Try.prog 0 gxs], [.p (iV x3.Kind), .p (sV x3.Name), .p (sV x3.Text), .p (iV x3.N), .p (.sl false (x3.L.map c_api_Node)), .p (.sl false (x3.Then.map c_api_Node)), .p (.sl false (x3.Else.map c_api_Node))]], [gp.length]⟩⟩
noncomputable def tree_all_1_L2_x0 (p0 : (List api_Node)) (p1 : Int) (v12 : Int) (x3 : api_Node) (gxs : List (List V)) (gq4 : List (List V)) (oy : Unit) : St := ⟨[(2, .p (.ep [iV p1])), (3, .ptr 0 0), (10, .p (.sl false (p0.map c_api_Node))), (11, .p (iV (p0.length : Int))), (12, .p (iV v12))], ⟨[[.yld Try.prog 0 gxs], [.p (iV x3.Kind), .p (sV x3.Name), .p (sV x3.Text), .p (iV x3.N), .p (.sl false (x3.L.map c_api_Node)), .p (.sl false (x3.Then.map c_api_Node)), .p (.sl false (x3.Else.map c_api_Node))]], [gq4.length]⟩⟩
noncomputable def tree_all_1_L2_c : Code := ((loopsOf (Try.f80.body.getD .skip)).getD 1 .skip)
noncomputable def tree_all_1_L1_st (p0 : (List api_Node)) (p1 : Int) (v12 : Int) (gxs gp : List (List V)) : St := ⟨[(2, .p (.ep [iV p1])), (3, .ptr 0 0), (10, .p (.sl false (p0.map c_api_Node))), (11, .p (iV (p0.length : Int))), (12, .p (iV v12))], ⟨[[.yld Try.prog 0 gxs]], [gp.length]⟩⟩
noncomputable def tree_all_1_L1_x0 (p0 : (List api_Node)) (p1 : Int) (gxs : List (List V)) (gq1 : List (List V)) (oy : Unit) : St := ⟨[], ⟨[[.yld Try.prog 0 gxs]], [gq1.length]⟩⟩
noncomputable def tree_all_1_L1_c : Code := ((loopsOf (Try.f80.body.getD .skip)).getD 0 .skip)
noncomputable def t_tree_block (y : Bool) : D := .p (bV y)
noncomputable def tree_block_lv : List (Nat × List Nat) := [(0, [0, 1]), (1, [0, 1, 8, 9, 10]), (2, [0, 1, 8, 9, 10, 11]), (3, [0, 1, 5, 6, 8, 9, 10]), (4, [0, 1, 5, 6, 8, 9, 10, 17]), (5, [4]), (6, [0, 1, 5, 6, 7, 8, 9, 10]), (7, [0, 1, 8, 9, 10, 50]), (8, [4]), (9, [0, 1, 8, 9, 10]), (10, [4]), (1000002, [0, 1, 8, 9, 10]), (3000007, [])]
noncomputable def tree_block_J0_0 (p0 : (List api_Node)) (p1 : Bool) (v10 : Int) (x4 : api_Node) (o6 : Bool) : St := ⟨[(0, .p (.sl false (p0.map c_api_Node))), (1, .p (bV p1)), (8, .p (.sl false (p0.map c_api_Node))), (9, .p (iV (p0.length : Int))), (10, .p (iV v10)), (50, .p (bV o6))], ⟨[[.p (iV x4.Kind), .p (sV x4.Name), .p (sV x4.Text), .p (iV x4.N), .p (.sl false (x4.L.map c_api_Node)), .p (.sl false (x4.Then.map c_api_Node)), .p (.sl false (x4.Else.map c_api_Node))]], []⟩⟩
noncomputable def tree_block_L1_st (p0 : (List api_Node)) (p1 : Bool) (v10 : Int) : St := ⟨[(0, .p (.sl false (p0.map c_api_Node))), (1, .p (bV p1)), (8, .p (.sl false (p0.map c_api_Node))), (9, .p (iV (p0.length : Int))), (10, .p (iV v10))], ⟨[], []⟩⟩
noncomputable def tree_block_L1_x0 (p0 : (List api_Node)) (p1 : Bool) (y2 : Unit) : St := ⟨[], ⟨[], []⟩⟩
noncomputable def tree_block_L1_x1 (p0 : (List api_Node)) (p1 : Bool) (y3 : Unit) : St := ⟨[(4, .p (bV false))], ⟨[], []⟩⟩
noncomputable def tree_block_L1_c : Code := ((loopsOf (Try.f47.body.getD .skip)).getD 0 .skip)
noncomputable def t_tree_expr (y : Bool) : D := .p (bV y)
noncomputable def tree_expr_lv : List (Nat × List Nat) := [(0, [1]), (1, [1, 3]), (2, [1, 3, 4]), (3, [1, 3, 4, 11]), (4, [1, 3, 4, 11, 12]), (5, [3, 6]), (6, [2]), (7, [1, 3, 4, 11, 28]), (8, [2]), (9, [1, 3, 4, 11, 35]), (10, [2]), (11, [1, 3, 4, 11, 48]), (12, [2]), (13, [1, 3, 4, 11, 58]), (14, [2]), (15, [1, 3, 4, 11, 68]), (16, [1, 3, 4]), (17, [2]), (18, [1, 3, 4, 86]), (19, [1, 3, 4]), (20, [2]), (21, [2]), (3000006, []), (3000010, []), (3000012, []), (3000014, []), (3000017, []), (3000020, [])]
noncomputable def tree_expr_J0_0 (p0 : api_Node) (x1 : tree_plan) (o3 : Bool) : St := ⟨[(2, .p (bV o3))], ⟨[[.p (iV p0.Kind), .p (sV p0.Name), .p (sV p0.Text), .p (iV p0.N), .p (.sl false (p0.L.map c_api_Node)), .p (.sl false (p0.Then.map c_api_Node)), .p (.sl false (p0.Else.map c_api_Node))], [.p (bV x1.name_), .p (bV x1.text_), .p (bV x1.num_), .p (bV x1.then_), .p (bV x1.other_), .p (iV x1.l_)], [.p (bV true), .p (bV false), .p (bV false), .p (bV false), .p (bV false), .p (iV 0)]], []⟩⟩
noncomputable def tree_expr_J1_0 (p0 : api_Node) (x1 : tree_plan) (o4 : Bool) : St := ⟨[(2, .p (bV o4))], ⟨[[.p (iV p0.Kind), .p (sV p0.Name), .p (sV p0.Text), .p (iV p0.N), .p (.sl false (p0.L.map c_api_Node)), .p (.sl false (p0.Then.map c_api_Node)), .p (.sl false (p0.Else.map c_api_Node))], [.p (bV x1.name_), .p (bV x1.text_), .p (bV x1.num_), .p (bV x1.then_), .p (bV x1.other_), .p (iV x1.l_)], [.p (bV true), .p (bV false), .p (bV false), .p (bV false), .p (bV false), .p (iV 0)]], []⟩⟩
noncomputable def tree_expr_J2_0 (p0 : api_Node) (x1 : tree_plan) (o5 : Bool) : St := ⟨[(2, .p (bV o5))], ⟨[[.p (iV p0.Kind), .p (sV p0.Name), .p (sV p0.Text), .p (iV p0.N), .p (.sl false (p0.L.map c_api_Node)), .p (.sl false (p0.Then.map c_api_Node)), .p (.sl false (p0.Else.map c_api_Node))], [.p (bV x1.name_), .p (bV x1.text_), .p (bV x1.num_), .p (bV x1.then_), .p (bV x1.other_), .p (iV x1.l_)], [.p (bV true), .p (bV false), .p (bV false), .p (bV false), .p (bV false), .p (iV 0)]], []⟩⟩
noncomputable def tree_expr_J3_0 (p0 : api_Node) (x1 : tree_plan) (o7 : Bool) : St := ⟨[(2, .p (bV o7))], ⟨[[.p (iV p0.Kind), .p (sV p0.Name), .p (sV p0.Text), .p (iV p0.N), .p (.sl false (p0.L.map c_api_Node)), .p (.sl false (p0.Then.map c_api_Node)), .p (.sl false (p0.Else.map c_api_Node))], [.p (bV x1.name_), .p (bV x1.text_), .p (bV x1.num_), .p (bV x1.then_), .p (bV x1.other_), .p (iV x1.l_)], [.p (bV true), .p (bV false), .p (bV false), .p (bV false), .p (bV false), .p (iV 0)]], []⟩⟩
noncomputable def tree_expr_J4_0 (p0 : api_Node) (x1 : tree_plan) (o9 : Bool) : St := ⟨[(2, .p (bV o9))], ⟨[[.p (iV p0.Kind), .p (sV p0.Name), .p (sV p0.Text), .p (iV p0.N), .p (.sl false (p0.L.map c_api_Node)), .p (.sl false (p0.Then.map c_api_Node)), .p (.sl false (p0.Else.map c_api_Node))], [.p (bV x1.name_), .p (bV x1.text_), .p (bV x1.num_), .p (bV x1.then_), .p (bV x1.other_), .p (iV x1.l_)], [.p (bV true), .p (bV false), .p (bV false), .p (bV false), .p (bV false), .p (iV 1)]], []⟩⟩
noncomputable def tree_expr_J5_0 (p0 : api_Node) (x1 : tree_plan) (o13 : Bool) : St := ⟨[(2, .p (bV o13))], ⟨[[.p (iV p0.Kind), .p (sV p0.Name), .p (sV p0.Text), .p (iV p0.N), .p (.sl false (p0.L.map c_api_Node)), .p (.sl false (p0.Then.map c_api_Node)), .p (.sl false (p0.Else.map c_api_Node))], [.p (bV x1.name_), .p (bV x1.text_), .p (bV x1.num_), .p (bV x1.then_), .p (bV x1.other_), .p (iV x1.l_)], [.p (bV true), .p (bV false), .p (bV false), .p (bV false), .p (bV false), .p (iV (if 3 < x1.l_ then 3 else x1.l_))]], []⟩⟩
noncomputable def t_tree_expr_1 (y : Bool) : D := .p (bV y)
noncomputable def tree_expr_1_lv : List (Nat × List Nat) := [(0, [1]), (1, [2])]
noncomputable def t_tree_planned (y : tree_plan) : D := .p (.agg [bV y.name_, bV y.text_, bV y.num_, bV y.then_, bV y.other_, iV y.l_])
noncomputable def tree_planned_lv : List (Nat × List Nat) := [(0, [1, 2]), (1, [2])]
noncomputable def t_tree_printer_action_2 (_ : Bool × (List Int)) : D := .tup []
noncomputable def tree_printer_action_2_lv : List (Nat × List Nat) := [(0, [0, 1, 5]), (1, [0, 5]), (2, [0]), (3, [])]
noncomputable def t_tree_printer_block (_ : Bool × (List Int)) : D := .tup []
noncomputable def tree_printer_block_lv : List (Nat × List Nat) := [(0, [0, 6, 7, 8]), (1, [0, 6, 7, 8, 9]), (2, [0, 5, 6, 7, 8]), (3, [0, 5, 6, 7, 8, 13]), (4, [0, 5, 6, 7, 8, 13, 14]), (5, [0, 6, 7, 8]), (6, [0, 5, 6, 7, 8, 13, 21]), (7, [0, 6, 7, 8]), (8, [0, 5, 6, 7, 8, 13, 29]), (9, [0, 6, 7, 8]), (10, [0, 5, 6, 7, 8, 13, 41]), (11, [0, 5, 6, 7, 8]), (12, [0, 5, 6, 7, 8, 13, 49]), (13, [0, 5, 6, 7, 8]), (14, [0, 5, 6, 7, 8, 61]), (15, [0, 5, 6, 7, 8]), (16, [0, 5, 6, 7, 8]), (17, [0, 5, 6, 7, 8, 80]), (18, [0, 5, 6, 7, 8]), (19, [0, 6, 7, 8]), (20, [0, 6, 7, 8]), (21, [0, 6, 7, 8]), (1000001, [0, 6, 7, 8]), (2003034, []), (2017007, []), (5000009, [9]), (5000013, [9]), (5000015, [9])]
noncomputable def tree_printer_block_J0_0 (p1 : (List api_Node)) (v8 : Int) (x2 : api_Node) (y4 : Bool × (List Int)) : St := ⟨[(0, .ptr 0 0), (5, .ptr 1 0), (6, .p (.sl false (p1.map c_api_Node))), (7, .p (iV (p1.length : Int))), (8, .p (iV v8))], ⟨[[.sp Try.prog 67 y4.1 0 0, .own 0 5 1 (y4.2.map (cNum .u8))], [.p (iV x2.Kind), .p (sV x2.Name), .p (sV x2.Text), .p (iV x2.N), .p (.sl false (x2.L.map c_api_Node)), .p (.sl false (x2.Then.map c_api_Node)), .p (.sl false (x2.Else.map c_api_Node))]], [(y4.2.map (cNum .u8)).length]⟩⟩
noncomputable def tree_printer_block_J0_1 (p1 : (List api_Node)) (v8 : Int) (x2 : api_Node) (y5 : Bool × (List Int)) : St := ⟨[(0, .ptr 0 0), (6, .p (.sl false (p1.map c_api_Node))), (7, .p (iV (p1.length : Int))), (8, .p (iV v8))], ⟨[[.sp Try.prog 67 y5.1 0 0, .own 0 5 1 (y5.2.map (cNum .u8))], [.p (iV x2.Kind), .p (sV x2.Name), .p (sV x2.Text), .p (iV x2.N), .p (.sl false (x2.L.map c_api_Node)), .p (.sl false (x2.Then.map c_api_Node)), .p (.sl false (x2.Else.map c_api_Node))]], [(y5.2.map (cNum .u8)).length]⟩⟩
noncomputable def tree_printer_block_J1_0 (p1 : (List api_Node)) (v8 : Int) (x2 : api_Node) (o18 : Bool × (List Int)) : St := ⟨[(0, .ptr 0 0), (6, .p (.sl false (p1.map c_api_Node))), (7, .p (iV (p1.length : Int))), (8, .p (iV v8))], ⟨[[.sp Try.prog 67 o18.1 0 0, .own 0 5 1 (o18.2.map (cNum .u8))], [.p (iV x2.Kind), .p (sV x2.Name), .p (sV x2.Text), .p (iV x2.N), .p (.sl false (x2.L.map c_api_Node)), .p (.sl false (x2.Then.map c_api_Node)), .p (.sl false (x2.Else.map c_api_Node))]], [(o18.2.map (cNum .u8)).length]⟩⟩
noncomputable def tree_printer_block_L1_st (p1 : (List api_Node)) (v8 : Int) (h0_0_ : Bool) (h0_1 : (List Int)) : St := ⟨[(0, .ptr 0 0), (6, .p (.sl false (p1.map c_api_Node))), (7, .p (iV (p1.length : Int))), (8, .p (iV v8))], ⟨[[.sp Try.prog 67 h0_0_ 0 0, .own 0 5 1 (h0_1.map (cNum .u8))]], [(h0_1.map (cNum .u8)).length]⟩⟩
noncomputable def tree_printer_block_L1_x0 (p1 : (List api_Node)) (o1 : Bool × (List Int)) : St := ⟨[], ⟨[[.sp Try.prog 67 o1.1 0 0, .own 0 5 1 (o1.2.map (cNum .u8))]], [(o1.2.map (cNum .u8)).length]⟩⟩
noncomputable def tree_printer_block_L1_c : Code := ((loopsOf (Try.f53.body.getD .skip)).getD 0 .skip)
noncomputable def t_tree_printer_block_2 (_ : Bool × (List Int)) : D := .tup []
noncomputable def tree_printer_block_2_lv : List (Nat × List Nat) := [(0, [0, 6, 7, 8]), (1, [0, 6, 7, 8, 9]), (2, [0, 5, 6, 7, 8]), (3, [0, 5, 6, 7, 8, 13]), (4, [0, 5, 6, 7, 8, 13, 14]), (5, [0, 6, 7, 8]), (6, [0, 5, 6, 7, 8, 13, 21]), (7, [0, 6, 7, 8]), (8, [0, 5, 6, 7, 8, 13, 29]), (9, [0, 6, 7, 8]), (10, [0, 5, 6, 7, 8, 13, 41]), (11, [0, 5, 6, 7, 8]), (12, [0, 5, 6, 7, 8, 13, 49]), (13, [0, 5, 6, 7, 8]), (14, [0, 5, 6, 7, 8, 61]), (15, [0, 5, 6, 7, 8]), (16, [0, 5, 6, 7, 8]), (17, [0, 5, 6, 7, 8, 80]), (18, [0, 5, 6, 7, 8]), (19, [0, 6, 7, 8]), (20, [0, 6, 7, 8]), (21, [0, 6, 7, 8]), (1000001, [0, 6, 7, 8]), (2003034, []), (2017007, []), (5000009, [9]), (5000013, [9]), (5000015, [9])]
noncomputable def tree_printer_block_2_J0_0 (p1 : (List api_Node)) (v8 : Int) (x2 : api_Node) (y4 : Bool × (List Int)) : St := ⟨[(0, .ptr 0 0), (5, .ptr 1 0), (6, .p (.sl false (p1.map c_api_Node))), (7, .p (iV (p1.length : Int))), (8, .p (iV v8))], ⟨[[.sp Try.prog 67 y4.1 0 0, .own 0 5 1 (y4.2.map (cNum .u8))], [.p (iV x2.Kind), .p (sV x2.Name), .p (sV x2.Text), .p (iV x2.N), .p (.sl false (x2.L.map c_api_Node)), .p (.sl false (x2.Then.map c_api_Node)), .p (.sl false (x2.Else.map c_api_Node))]], [(y4.2.map (cNum .u8)).length]⟩⟩
noncomputable def tree_printer_block_2_J0_1 (p1 : (List api_Node)) (v8 : Int) (x2 : api_Node) (y5 : Bool × (List Int)) : St := ⟨[(0, .ptr 0 0), (6, .p (.sl false (p1.map c_api_Node))), (7, .p (iV (p1.length : Int))), (8, .p (iV v8))], ⟨[[.sp Try.prog 67 y5.1 0 0, .own 0 5 1 (y5.2.map (cNum .u8))], [.p (iV x2.Kind), .p (sV x2.Name), .p (sV x2.Text), .p (iV x2.N), .p (.sl false (x2.L.map c_api_Node)), .p (.sl false (x2.Then.map c_api_Node)), .p (.sl false (x2.Else.map c_api_Node))]], [(y5.2.map (cNum .u8)).length]⟩⟩
noncomputable def tree_printer_block_2_J1_0 (p1 : (List api_Node)) (v8 : Int) (x2 : api_Node) (o18 : Bool × (List Int)) : St := ⟨[(0, .ptr 0 0), (6, .p (.sl false (p1.map c_api_Node))), (7, .p (iV (p1.length : Int))), (8, .p (iV v8))], ⟨[[.sp Try.prog 67 o18.1 0 0, .own 0 5 1 (o18.2.map (cNum .u8))], [.p (iV x2.Kind), .p (sV x2.Name), .p (sV x2.Text), .p (iV x2.N), .p (.sl false (x2.L.map c_api_Node)), .p (.sl false (x2.Then.map c_api_Node)), .p (.sl false (x2.Else.map c_api_Node))]], [(o18.2.map (cNum .u8)).length]⟩⟩
noncomputable def tree_printer_block_2_L1_st (p1 : (List api_Node)) (v8 : Int) (h0_0_ : Bool) (h0_1_ : (List Int)) : St := ⟨[(0, .ptr 0 0), (6, .p (.sl false (p1.map c_api_Node))), (7, .p (iV (p1.length : Int))), (8, .p (iV v8))], ⟨[[.sp Try.prog 67 h0_0_ 0 0, .own 0 5 1 (h0_1_.map (cNum .u8))]], [(h0_1_.map (cNum .u8)).length]⟩⟩
noncomputable def tree_printer_block_2_L1_x0 (p1 : (List api_Node)) (o1 : Bool × (List Int)) : St := ⟨[], ⟨[[.sp Try.prog 67 o1.1 0 0, .own 0 5 1 (o1.2.map (cNum .u8))]], [(o1.2.map (cNum .u8)).length]⟩⟩
noncomputable def tree_printer_block_2_L1_c : Code := ((loopsOf (Try.f53.body.getD .skip)).getD 0 .skip)
noncomputable def t_tree_printer_expr_2 (_ : Bool × (List Int)) : D := .tup []
noncomputable def tree_printer_expr_2_lv : List (Nat × List Nat) := [(0, [0, 3]), (1, [0, 3, 9]), (2, [0, 3, 9, 10]), (3, [0, 4]), (4, []), (5, [0, 3, 9, 22]), (6, []), (7, [0, 3, 9, 30]), (8, [0, 34]), (9, []), (10, []), (11, [0, 3, 9, 41]), (12, []), (13, [0, 3, 9, 48]), (14, []), (15, [0, 3, 9, 55]), (16, [0, 3]), (17, []), (18, [0, 3, 68]), (19, [0, 3]), (20, [0, 76, 77, 78]), (21, [0, 76, 77, 78, 79]), (22, [0, 6, 7, 76, 77, 78]), (23, [0, 7, 76, 77, 78, 84]), (24, [0, 7, 76, 77, 78]), (25, [0, 76, 77, 78]), (26, [0, 76, 77, 78]), (27, []), (1000021, [0, 76, 77, 78])]
noncomputable def tree_printer_expr_2_L1_st (p1 : api_Node) (v78 : Int) (h0_0_ : Bool) (h0_1_ : (List Int)) : St := ⟨[(0, .ptr 0 0), (76, .p (.sl false (p1.L.map c_api_Node))), (77, .p (iV (p1.L.length : Int))), (78, .p (iV v78))], ⟨[[.sp Try.prog 67 h0_0_ 0 0, .own 0 5 1 (h0_1_.map (cNum .u8))], [.p (iV p1.Kind), .p (sV p1.Name), .p (sV p1.Text), .p (iV p1.N), .p (.sl false (p1.L.map c_api_Node)), .p (.sl false (p1.Then.map c_api_Node)), .p (.sl false (p1.Else.map c_api_Node))]], [(h0_1_.map (cNum .u8)).length]⟩⟩
noncomputable def tree_printer_expr_2_L1_x0 (p1 : api_Node) (o13 : Bool × (List Int)) : St := ⟨[(0, .ptr 0 0)], ⟨[[.sp Try.prog 67 o13.1 0 0, .own 0 5 1 (o13.2.map (cNum .u8))], [.p (iV p1.Kind), .p (sV p1.Name), .p (sV p1.Text), .p (iV p1.N), .p (.sl false (p1.L.map c_api_Node)), .p (.sl false (p1.Then.map c_api_Node)), .p (.sl false (p1.Else.map c_api_Node))]], [(o13.2.map (cNum .u8)).length]⟩⟩
noncomputable def tree_printer_expr_2_L1_c : Code := ((loopsOf (Try.f110.body.getD .skip)).getD 0 .skip)
noncomputable def t_tree_printer_put_2 (_ : Bool × (List Int)) : D := .tup []
noncomputable def tree_printer_put_2_lv : List (Nat × List Nat) := [(0, [0, 6, 7, 8]), (1, [0, 6, 7, 8, 9]), (2, [0, 5, 6, 7, 8]), (3, [0, 6, 7, 8]), (4, [0, 6, 7, 8]), (1000001, [0, 6, 7, 8])]
noncomputable def tree_printer_put_2_L1_st (p1 : (List (List UInt8))) (v8 : Int) (h0_0_ : Bool) (h0_1_ : (List Int)) : St := ⟨[(0, .ptr 0 0), (6, .p (.sl false (p1.map cStr))), (7, .p (iV (p1.length : Int))), (8, .p (iV v8))], ⟨[[.sp Try.prog 67 h0_0_ 0 0, .own 0 5 1 (h0_1_.map (cNum .u8))]], [(h0_1_.map (cNum .u8)).length]⟩⟩
noncomputable def tree_printer_put_2_L1_x0 (p1 : (List (List UInt8))) (o1 : Bool × (List Int)) : St := ⟨[], ⟨[[.sp Try.prog 67 o1.1 0 0, .own 0 5 1 (o1.2.map (cNum .u8))]], [(o1.2.map (cNum .u8)).length]⟩⟩
noncomputable def tree_printer_put_2_L1_c : Code := ((loopsOf (Try.f84.body.getD .skip)).getD 0 .skip)
noncomputable def t_tree_stmt (y : Bool) : D := .p (bV y)
noncomputable def tree_stmt_lv : List (Nat × List Nat) := [(0, [1]), (1, [1, 3]), (2, [1, 3, 4]), (3, [1, 3, 4, 10]), (4, [2]), (5, [1, 3, 4, 10, 11]), (6, [2]), (7, [1, 3, 4, 10, 22]), (8, [1, 3, 4, 10, 24]), (9, [1, 3, 4]), (10, [1, 3, 4, 10, 32]), (11, [1, 3, 4, 10, 32]), (12, [1, 3, 4]), (13, [1, 3, 4, 42]), (14, [1, 3, 4]), (15, [1, 3, 4, 5]), (16, [2]), (2003032, []), (2010005, []), (3000006, []), (3000015, []), (3000016, []), (5000009, [1005, 1007]), (5000012, [1006, 1008]), (8000009, [2]), (8000012, [2])]
noncomputable def tree_stmt_J0_0 (p0 : api_Node) (x1 : tree_plan) (y3 : Bool × Bool × Bool) : St := ⟨[(1, .ptr 0 0), (3, .ptr 1 0), (4, .ptr 2 0)], ⟨[[.p (iV p0.Kind), .p (sV p0.Name), .p (sV p0.Text), .p (iV p0.N), .p (.sl false (p0.L.map c_api_Node)), .p (.sl false (p0.Then.map c_api_Node)), .p (.sl false (p0.Else.map c_api_Node))], [.p (bV x1.name_), .p (bV x1.text_), .p (bV x1.num_), .p (bV x1.then_), .p (bV x1.other_), .p (iV x1.l_)], [.p (bV y3.1), .p (bV false), .p (bV false), .p (bV y3.2.1), .p (bV y3.2.2), .p (iV 1)]], []⟩⟩
noncomputable def tree_stmt_J0_1 (p0 : api_Node) (x1 : tree_plan) (y4 : Bool) : St := ⟨[(2, .p (bV y4))], ⟨[[.p (iV p0.Kind), .p (sV p0.Name), .p (sV p0.Text), .p (iV p0.N), .p (.sl false (p0.L.map c_api_Node)), .p (.sl false (p0.Then.map c_api_Node)), .p (.sl false (p0.Else.map c_api_Node))], [.p (bV x1.name_), .p (bV x1.text_), .p (bV x1.num_), .p (bV x1.then_), .p (bV x1.other_), .p (iV x1.l_)], [.p (bV false), .p (bV false), .p (bV false), .p (bV false), .p (bV false), .p (iV 1)]], []⟩⟩
noncomputable def tree_stmt_J1_0 (p0 : api_Node) (x1 : tree_plan) (o5 : Bool) : St := ⟨[(2, .p (bV o5))], ⟨[[.p (iV p0.Kind), .p (sV p0.Name), .p (sV p0.Text), .p (iV p0.N), .p (.sl false (p0.L.map c_api_Node)), .p (.sl false (p0.Then.map c_api_Node)), .p (.sl false (p0.Else.map c_api_Node))], [.p (bV x1.name_), .p (bV x1.text_), .p (bV x1.num_), .p (bV x1.then_), .p (bV x1.other_), .p (iV x1.l_)], [.p (bV false), .p (bV false), .p (bV false), .p (bV false), .p (bV false), .p (iV 1)]], []⟩⟩
noncomputable def tree_stmt_J2_0 (p0 : api_Node) (x1 : tree_plan) (o7 : Bool) : St := ⟨[(1, .ptr 0 0), (3, .ptr 1 0), (4, .ptr 2 0), (10, .p (iV p0.Kind)), (32, .p (bV o7))], ⟨[[.p (iV p0.Kind), .p (sV p0.Name), .p (sV p0.Text), .p (iV p0.N), .p (.sl false (p0.L.map c_api_Node)), .p (.sl false (p0.Then.map c_api_Node)), .p (.sl false (p0.Else.map c_api_Node))], [.p (bV x1.name_), .p (bV x1.text_), .p (bV x1.num_), .p (bV x1.then_), .p (bV x1.other_), .p (iV x1.l_)], [.p (bV false), .p (bV false), .p (bV false), .p (bV false), .p (bV false), .p (iV 1)]], []⟩⟩
noncomputable def tree_stmt_J3_0 (p0 : api_Node) (x1 : tree_plan) (y3 : Bool × Bool × Bool) (o10 : Bool) : St := ⟨[(1, .ptr 0 0), (3, .ptr 1 0), (4, .ptr 2 0), (5, .p (bV o10))], ⟨[[.p (iV p0.Kind), .p (sV p0.Name), .p (sV p0.Text), .p (iV p0.N), .p (.sl false (p0.L.map c_api_Node)), .p (.sl false (p0.Then.map c_api_Node)), .p (.sl false (p0.Else.map c_api_Node))], [.p (bV x1.name_), .p (bV x1.text_), .p (bV x1.num_), .p (bV x1.then_), .p (bV x1.other_), .p (iV x1.l_)], [.p (bV y3.1), .p (bV false), .p (bV false), .p (bV y3.2.1), .p (bV y3.2.2), .p (iV 1)]], []⟩⟩
noncomputable def tree_stmt_J4_0 (p0 : api_Node) (x1 : tree_plan) (y3 : Bool × Bool × Bool) (o11 : Bool) : St := ⟨[(2, .p (bV o11))], ⟨[[.p (iV p0.Kind), .p (sV p0.Name), .p (sV p0.Text), .p (iV p0.N), .p (.sl false (p0.L.map c_api_Node)), .p (.sl false (p0.Then.map c_api_Node)), .p (.sl false (p0.Else.map c_api_Node))], [.p (bV x1.name_), .p (bV x1.text_), .p (bV x1.num_), .p (bV x1.then_), .p (bV x1.other_), .p (iV x1.l_)], [.p (bV y3.1), .p (bV false), .p (bV false), .p (bV y3.2.1), .p (bV y3.2.2), .p (iV 1)]], []⟩⟩
mutual
noncomputable def R19_Count (p0 : (List api_Node)) : Option (Int) :=
  (R19_Count_L1 p0 0 0) >>= fun o1 =>
  some o1
  partial_fixpoint
noncomputable def R19_Count_L1 (p0 : (List api_Node)) (v3 : Int) (v4 : Int) : Option (Int) :=
  if (decide (v4 < (p0.length : Int))) then
    idx p0 v4 >>= fun x2 =>
    R19_Count x2.L >>= fun x3 =>
    idx p0 v4 >>= fun x4 =>
    R19_Count x4.Then >>= fun x5 =>
    idx p0 v4 >>= fun x6 =>
    R19_Count x6.Else >>= fun x7 =>
    R19_Count_L1 p0 (wr ((wr ((wr ((wr (v3 + 1)) + x3)) + x5)) + x7)) (wr (v4 + 1))
  else
    some v3
  partial_fixpoint
end
set_option maxRecDepth 100000 in
set_option maxHeartbeats 4000000 in
theorem R19_Count_grp : (∀ (p0 : (List api_Node)) (o : Int), R19_Count p0 = some o → PCall Try.prog 24 [.sl false (p0.map c_api_Node)] (t_R19_Count o)) ∧ (∀ (p0 : (List api_Node)) (v3 : Int) (v4 : Int) (o1 : Int), R19_Count_L1 p0 v3 v4 = some o1 → TL (0, 0) Try.prog 35 R19_Count_L1_c (JP1 (0, 0) 35 o1 (.exit 0) (R19_Count_L1_x0 p0)) (R19_Count_L1_st p0 v3 v4)) := by
  refine R19_Count.mutual_partial_correctness _ _ ?_ ?_
  · intro R19_Count_L1' ih_R19_Count_L1 p0 o h
    refine PCall.ofB mixed tbOk R19_Count_lv Try.func24 rfl (by kernel_rfl) (Nat.le_of_ble_eq_true rfl) ?_
    refine st_bind h (fun o1 ho hk => ?_)
    refine Exists.intro (JP1 _ _ o1 (.exit 0) (R19_Count_L1_x0 p0)) (And.intro (T_le (τ := R19_Count_L1_st p0 0 0) ?_ (TL.loop (ih_R19_Count_L1 p0 0 0 o1 ho))) (join1 ?_))
    · exact Le.tow 0 0 rfl (.cons rfl (.refl _) (.cons rfl (.refl _) (.cons rfl (.refl _) (.nil)))) (.refl _) rfl
    have h := hk
    refine st_ret (t := t_R19_Count) h ?_
    exact .refl _
  · intro R19_Count' R19_Count_L1' ih_R19_Count ih_R19_Count_L1 p0 v3 v4 o1 h
    refine TL.round (bwp_sound mixed tbOk (lv := R19_Count_lv) _ _ _ ?_)
    refine view (lenMap _ _) rfl ?_
    refine st_test h (fun hb h => ?_) (fun hb h => ?_)
    · refine And.intro (by decide +kernel) (And.intro rfl ?_)
      refine st_idx (l := p0) (c := c_api_Node) (c' := l_api_Node) h c_api_Node_eq (fun _ => rfl) (by decide) (fun x2 hi h => ?_)
      refine st_calld [.sl false (x2.L.map c_api_Node)] t_R19_Count h (fun x3 hy => (ih_R19_Count x2.L x3 hy)) (fun x3 hy h => ?_)
      refine st_idx (l := p0) (c := c_api_Node) (c' := l_api_Node) h c_api_Node_eq (fun _ => rfl) (by decide) (fun x4 hi h => ?_)
      refine st_calld [.sl false (x4.Then.map c_api_Node)] t_R19_Count h (fun x5 hy => (ih_R19_Count x4.Then x5 hy)) (fun x5 hy h => ?_)
      refine st_idx (l := p0) (c := c_api_Node) (c' := l_api_Node) h c_api_Node_eq (fun _ => rfl) (by decide) (fun x6 hi h => ?_)
      refine st_calld [.sl false (x6.Else.map c_api_Node)] t_R19_Count h (fun x7 hy => (ih_R19_Count x6.Else x7 hy)) (fun x7 hy h => ?_)
      refine TL.le (τ := R19_Count_L1_st p0 (wr ((wr ((wr ((wr (v3 + 1)) + x3)) + x5)) + x7)) (wr (v4 + 1))) ?_ ((ih_R19_Count_L1 p0 (wr ((wr ((wr ((wr (v3 + 1)) + x3)) + x5)) + x7)) (wr (v4 + 1)) _ h))
      exact Le.tow 0 0 rfl (.cons rfl (.refl _) (.cons rfl (.refl _) (.cons rfl (.refl _) (.nil)))) (.refl _) rfl
    · exact JP1.a h (Le.tow 0 0 rfl (.cons rfl (.refl _) (.nil)) (.refl _) rfl)
theorem R19_Count_ok : ∀ (p0 : (List api_Node)) (o : Int), R19_Count p0 = some o → PCall Try.prog 24 [.sl false (p0.map c_api_Node)] (t_R19_Count o) := fun p0 o h => R19_Count_grp.1 p0 o h
mutual
noncomputable def R19_Deep (p0 : (List api_Node)) : Option (Int) :=
  (R19_Deep_L1 p0 0 0) >>= fun o1 =>
  some o1
  partial_fixpoint
noncomputable def R19_Deep_L1 (p0 : (List api_Node)) (v3 : Int) (v4 : Int) : Option (Int) :=
  if (decide (v4 < (p0.length : Int))) then
    idx p0 v4 >>= fun x2 =>
    R19_Deep x2.L >>= fun x3 =>
    idx p0 v4 >>= fun x4 =>
    R19_Deep x4.Then >>= fun x5 =>
    idx p0 v4 >>= fun x6 =>
    R19_Deep x6.Else >>= fun x7 =>
    R19_Deep_L1 p0 (if (wr (1 + (if x7 > (if x5 > x3 then x5 else x3) then x7 else (if x5 > x3 then x5 else x3)))) > v3 then (wr (1 + (if x7 > (if x5 > x3 then x5 else x3) then x7 else (if x5 > x3 then x5 else x3)))) else v3) (wr (v4 + 1))
  else
    some v3
  partial_fixpoint
end
set_option maxRecDepth 100000 in
set_option maxHeartbeats 4000000 in
theorem R19_Deep_grp : (∀ (p0 : (List api_Node)) (o : Int), R19_Deep p0 = some o → PCall Try.prog 22 [.sl false (p0.map c_api_Node)] (t_R19_Deep o)) ∧ (∀ (p0 : (List api_Node)) (v3 : Int) (v4 : Int) (o1 : Int), R19_Deep_L1 p0 v3 v4 = some o1 → TL (0, 0) Try.prog 34 R19_Deep_L1_c (JP1 (0, 0) 34 o1 (.exit 0) (R19_Deep_L1_x0 p0)) (R19_Deep_L1_st p0 v3 v4)) := by
  refine R19_Deep.mutual_partial_correctness _ _ ?_ ?_
  · intro R19_Deep_L1' ih_R19_Deep_L1 p0 o h
    refine PCall.ofB mixed tbOk R19_Deep_lv Try.func22 rfl (by kernel_rfl) (Nat.le_of_ble_eq_true rfl) ?_
    refine st_bind h (fun o1 ho hk => ?_)
    refine Exists.intro (JP1 _ _ o1 (.exit 0) (R19_Deep_L1_x0 p0)) (And.intro (T_le (τ := R19_Deep_L1_st p0 0 0) ?_ (TL.loop (ih_R19_Deep_L1 p0 0 0 o1 ho))) (join1 ?_))
    · exact Le.tow 0 0 rfl (.cons rfl (.refl _) (.cons rfl (.refl _) (.cons rfl (.refl _) (.nil)))) (.refl _) rfl
    have h := hk
    refine st_ret (t := t_R19_Deep) h ?_
    exact .refl _
  · intro R19_Deep' R19_Deep_L1' ih_R19_Deep ih_R19_Deep_L1 p0 v3 v4 o1 h
    refine TL.round (bwp_sound mixed tbOk (lv := R19_Deep_lv) _ _ _ ?_)
    refine view (lenMap _ _) rfl ?_
    refine st_test h (fun hb h => ?_) (fun hb h => ?_)
    · refine And.intro (by decide +kernel) (And.intro rfl ?_)
      refine st_idx (l := p0) (c := c_api_Node) (c' := l_api_Node) h c_api_Node_eq (fun _ => rfl) (by decide) (fun x2 hi h => ?_)
      refine st_calld [.sl false (x2.L.map c_api_Node)] t_R19_Deep h (fun x3 hy => (ih_R19_Deep x2.L x3 hy)) (fun x3 hy h => ?_)
      refine st_idx (l := p0) (c := c_api_Node) (c' := l_api_Node) h c_api_Node_eq (fun _ => rfl) (by decide) (fun x4 hi h => ?_)
      refine st_calld [.sl false (x4.Then.map c_api_Node)] t_R19_Deep h (fun x5 hy => (ih_R19_Deep x4.Then x5 hy)) (fun x5 hy h => ?_)
      refine st_idx (l := p0) (c := c_api_Node) (c' := l_api_Node) h c_api_Node_eq (fun _ => rfl) (by decide) (fun x6 hi h => ?_)
      refine st_calld [.sl false (x6.Else.map c_api_Node)] t_R19_Deep h (fun x7 hy => (ih_R19_Deep x6.Else x7 hy)) (fun x7 hy h => ?_)
      refine TL.le (τ := R19_Deep_L1_st p0 (if (wr (1 + (if x7 > (if x5 > x3 then x5 else x3) then x7 else (if x5 > x3 then x5 else x3)))) > v3 then (wr (1 + (if x7 > (if x5 > x3 then x5 else x3) then x7 else (if x5 > x3 then x5 else x3)))) else v3) (wr (v4 + 1))) ?_ ((ih_R19_Deep_L1 p0 (if (wr (1 + (if x7 > (if x5 > x3 then x5 else x3) then x7 else (if x5 > x3 then x5 else x3)))) > v3 then (wr (1 + (if x7 > (if x5 > x3 then x5 else x3) then x7 else (if x5 > x3 then x5 else x3)))) else v3) (wr (v4 + 1)) _ h))
      exact Le.tow 0 0 rfl (.cons rfl (.refl _) (.cons rfl (.refl _) (.cons rfl (.refl _) (.nil)))) (.refl _) rfl
    · exact JP1.a h (Le.tow 0 0 rfl (.cons rfl (.refl _) (.nil)) (.refl _) rfl)
theorem R19_Deep_ok : ∀ (p0 : (List api_Node)) (o : Int), R19_Deep p0 = some o → PCall Try.prog 22 [.sl false (p0.map c_api_Node)] (t_R19_Deep o) := fun p0 o h => R19_Deep_grp.1 p0 o h
noncomputable def R19_bare (p0 : api_Node) (p1 : Bool) (p2 : Bool) (p3 : Bool) (p4 : Bool) (p5 : Bool) : Option (Bool) :=
  ( if p1 then
      if p2 then
        if p3 then
          if p4 then
            if p5 then
              if (p0.Kind == 10) then
                some true
              else
                some ((p0.Else.length : Int) == 0)
            else
              if ((p0.Then.length : Int) == 0) then
                if (p0.Kind == 10) then
                  some true
                else
                  some ((p0.Else.length : Int) == 0)
              else
                some false
          else
            if ((p0.L.length : Int) == 0) then
              if p5 then
                if (p0.Kind == 10) then
                  some true
                else
                  some ((p0.Else.length : Int) == 0)
              else
                if ((p0.Then.length : Int) == 0) then
                  if (p0.Kind == 10) then
                    some true
                  else
                    some ((p0.Else.length : Int) == 0)
                else
                  some false
            else
              some false
        else
          if (p0.N == 0) then
            if p4 then
              if p5 then
                if (p0.Kind == 10) then
                  some true
                else
                  some ((p0.Else.length : Int) == 0)
              else
                if ((p0.Then.length : Int) == 0) then
                  if (p0.Kind == 10) then
                    some true
                  else
                    some ((p0.Else.length : Int) == 0)
                else
                  some false
            else
              if ((p0.L.length : Int) == 0) then
                if p5 then
                  if (p0.Kind == 10) then
                    some true
                  else
                    some ((p0.Else.length : Int) == 0)
                else
                  if ((p0.Then.length : Int) == 0) then
                    if (p0.Kind == 10) then
                      some true
                    else
                      some ((p0.Else.length : Int) == 0)
                  else
                    some false
              else
                some false
          else
            some false
      else
        if (p0.Text == []) then
          if p3 then
            if p4 then
              if p5 then
                if (p0.Kind == 10) then
                  some true
                else
                  some ((p0.Else.length : Int) == 0)
              else
                if ((p0.Then.length : Int) == 0) then
                  if (p0.Kind == 10) then
                    some true
                  else
                    some ((p0.Else.length : Int) == 0)
                else
                  some false
            else
              if ((p0.L.length : Int) == 0) then
                if p5 then
                  if (p0.Kind == 10) then
                    some true
                  else
                    some ((p0.Else.length : Int) == 0)
                else
                  if ((p0.Then.length : Int) == 0) then
                    if (p0.Kind == 10) then
                      some true
                    else
                      some ((p0.Else.length : Int) == 0)
                  else
                    some false
              else
                some false
          else
            if (p0.N == 0) then
              if p4 then
                if p5 then
                  if (p0.Kind == 10) then
                    some true
                  else
                    some ((p0.Else.length : Int) == 0)
                else
                  if ((p0.Then.length : Int) == 0) then
                    if (p0.Kind == 10) then
                      some true
                    else
                      some ((p0.Else.length : Int) == 0)
                  else
                    some false
              else
                if ((p0.L.length : Int) == 0) then
                  if p5 then
                    if (p0.Kind == 10) then
                      some true
                    else
                      some ((p0.Else.length : Int) == 0)
                  else
                    if ((p0.Then.length : Int) == 0) then
                      if (p0.Kind == 10) then
                        some true
                      else
                        some ((p0.Else.length : Int) == 0)
                    else
                      some false
                else
                  some false
            else
              some false
        else
          some false
    else
      if (p0.Name == []) then
        if p2 then
          if p3 then
            if p4 then
              if p5 then
                if (p0.Kind == 10) then
                  some true
                else
                  some ((p0.Else.length : Int) == 0)
              else
                if ((p0.Then.length : Int) == 0) then
                  if (p0.Kind == 10) then
                    some true
                  else
                    some ((p0.Else.length : Int) == 0)
                else
                  some false
            else
              if ((p0.L.length : Int) == 0) then
                if p5 then
                  if (p0.Kind == 10) then
                    some true
                  else
                    some ((p0.Else.length : Int) == 0)
                else
                  if ((p0.Then.length : Int) == 0) then
                    if (p0.Kind == 10) then
                      some true
                    else
                      some ((p0.Else.length : Int) == 0)
                  else
                    some false
              else
                some false
          else
            if (p0.N == 0) then
              if p4 then
                if p5 then
                  if (p0.Kind == 10) then
                    some true
                  else
                    some ((p0.Else.length : Int) == 0)
                else
                  if ((p0.Then.length : Int) == 0) then
                    if (p0.Kind == 10) then
                      some true
                    else
                      some ((p0.Else.length : Int) == 0)
                  else
                    some false
              else
                if ((p0.L.length : Int) == 0) then
                  if p5 then
                    if (p0.Kind == 10) then
                      some true
                    else
                      some ((p0.Else.length : Int) == 0)
                  else
                    if ((p0.Then.length : Int) == 0) then
                      if (p0.Kind == 10) then
                        some true
                      else
                        some ((p0.Else.length : Int) == 0)
                    else
                      some false
                else
                  some false
            else
              some false
        else
          if (p0.Text == []) then
            if p3 then
              if p4 then
                if p5 then
                  if (p0.Kind == 10) then
                    some true
                  else
                    some ((p0.Else.length : Int) == 0)
                else
                  if ((p0.Then.length : Int) == 0) then
                    if (p0.Kind == 10) then
                      some true
                    else
                      some ((p0.Else.length : Int) == 0)
                  else
                    some false
              else
                if ((p0.L.length : Int) == 0) then
                  if p5 then
                    if (p0.Kind == 10) then
                      some true
                    else
                      some ((p0.Else.length : Int) == 0)
                  else
                    if ((p0.Then.length : Int) == 0) then
                      if (p0.Kind == 10) then
                        some true
                      else
                        some ((p0.Else.length : Int) == 0)
                    else
                      some false
                else
                  some false
            else
              if (p0.N == 0) then
                if p4 then
                  if p5 then
                    if (p0.Kind == 10) then
                      some true
                    else
                      some ((p0.Else.length : Int) == 0)
                  else
                    if ((p0.Then.length : Int) == 0) then
                      if (p0.Kind == 10) then
                        some true
                      else
                        some ((p0.Else.length : Int) == 0)
                    else
                      some false
                else
                  if ((p0.L.length : Int) == 0) then
                    if p5 then
                      if (p0.Kind == 10) then
                        some true
                      else
                        some ((p0.Else.length : Int) == 0)
                    else
                      if ((p0.Then.length : Int) == 0) then
                        if (p0.Kind == 10) then
                          some true
                        else
                          some ((p0.Else.length : Int) == 0)
                      else
                        some false
                  else
                    some false
              else
                some false
          else
            some false
      else
        some false : Option (Bool)) >>= fun o1 =>
  some o1
set_option maxRecDepth 100000 in
set_option maxHeartbeats 4000000 in
theorem R19_bare_ok : ∀ (p0 : api_Node) (p1 : Bool) (p2 : Bool) (p3 : Bool) (p4 : Bool) (p5 : Bool) (o : Bool), R19_bare p0 p1 p2 p3 p4 p5 = some o → PCall Try.prog 108 [.agg [iV p0.Kind, sV p0.Name, sV p0.Text, iV p0.N, .sl false (p0.L.map c_api_Node), .sl false (p0.Then.map c_api_Node), .sl false (p0.Else.map c_api_Node)], bV p1, bV p2, bV p3, bV p4, bV p5] (t_R19_bare o) := by
  intro p0 p1 p2 p3 p4 p5 o h
  unfold R19_bare at h
  refine PCall.ofB mixed tbOk R19_bare_lv Try.func108 rfl (by kernel_rfl) (Nat.le_of_ble_eq_true rfl) ?_
  refine st_bind h (fun o1 ho hk => ?_)
  refine Exists.intro (JP1 _ _ o1 .normal (R19_bare_J0_0 p0)) (And.intro ?_ (join1 ?_))
  · have h := ho
    refine st_test h (fun hb h => ?_) (fun hb h => ?_)
    · refine bT ?_
      refine st_test h (fun hb h => ?_) (fun hb h => ?_)
      · refine bT ?_
        refine st_test h (fun hb h => ?_) (fun hb h => ?_)
        · refine bT ?_
          refine st_test h (fun hb h => ?_) (fun hb h => ?_)
          · refine bT ?_
            refine st_test h (fun hb h => ?_) (fun hb h => ?_)
            · refine bT ?_
              refine st_test h (fun hb h => ?_) (fun hb h => ?_)
              · exact JP1.a h (Le.tow 1 0 rfl (.cons rfl (.refl _) (.nil)) (.refl _) rfl)
              · refine view (lenMap _ _) rfl ?_
                exact JP1.a h (Le.tow 1 0 rfl (.cons rfl (.refl _) (.nil)) (.refl _) rfl)
            · refine view (lenMap _ _) rfl ?_
              refine st_test h (fun hb h => ?_) (fun hb h => ?_)
              · refine st_test h (fun hb h => ?_) (fun hb h => ?_)
                · exact JP1.a h (Le.tow 1 0 rfl (.cons rfl (.refl _) (.nil)) (.refl _) rfl)
                · refine view (lenMap _ _) rfl ?_
                  exact JP1.a h (Le.tow 1 0 rfl (.cons rfl (.refl _) (.nil)) (.refl _) rfl)
              · exact JP1.a h (Le.tow 1 0 rfl (.cons rfl (.refl _) (.nil)) (.refl _) rfl)
          · refine view (lenMap _ _) rfl ?_
            refine st_test h (fun hb h => ?_) (fun hb h => ?_)
            · refine st_test h (fun hb h => ?_) (fun hb h => ?_)
              · refine bT ?_
                refine st_test h (fun hb h => ?_) (fun hb h => ?_)
                · exact JP1.a h (Le.tow 1 0 rfl (.cons rfl (.refl _) (.nil)) (.refl _) rfl)
                · refine view (lenMap _ _) rfl ?_
                  exact JP1.a h (Le.tow 1 0 rfl (.cons rfl (.refl _) (.nil)) (.refl _) rfl)
              · refine view (lenMap _ _) rfl ?_
                refine st_test h (fun hb h => ?_) (fun hb h => ?_)
                · refine st_test h (fun hb h => ?_) (fun hb h => ?_)
                  · exact JP1.a h (Le.tow 1 0 rfl (.cons rfl (.refl _) (.nil)) (.refl _) rfl)
                  · refine view (lenMap _ _) rfl ?_
                    exact JP1.a h (Le.tow 1 0 rfl (.cons rfl (.refl _) (.nil)) (.refl _) rfl)
                · exact JP1.a h (Le.tow 1 0 rfl (.cons rfl (.refl _) (.nil)) (.refl _) rfl)
            · refine bF ?_
              exact JP1.a h (Le.tow 1 0 rfl (.cons rfl (.refl _) (.nil)) (.refl _) rfl)
        · refine st_test h (fun hb h => ?_) (fun hb h => ?_)
          · refine st_test h (fun hb h => ?_) (fun hb h => ?_)
            · refine bT ?_
              refine st_test h (fun hb h => ?_) (fun hb h => ?_)
              · refine bT ?_
                refine st_test h (fun hb h => ?_) (fun hb h => ?_)
                · exact JP1.a h (Le.tow 1 0 rfl (.cons rfl (.refl _) (.nil)) (.refl _) rfl)
                · refine view (lenMap _ _) rfl ?_
                  exact JP1.a h (Le.tow 1 0 rfl (.cons rfl (.refl _) (.nil)) (.refl _) rfl)
              · refine view (lenMap _ _) rfl ?_
                refine st_test h (fun hb h => ?_) (fun hb h => ?_)
                · refine st_test h (fun hb h => ?_) (fun hb h => ?_)
                  · exact JP1.a h (Le.tow 1 0 rfl (.cons rfl (.refl _) (.nil)) (.refl _) rfl)
                  · refine view (lenMap _ _) rfl ?_
                    exact JP1.a h (Le.tow 1 0 rfl (.cons rfl (.refl _) (.nil)) (.refl _) rfl)
                · exact JP1.a h (Le.tow 1 0 rfl (.cons rfl (.refl _) (.nil)) (.refl _) rfl)
            · refine view (lenMap _ _) rfl ?_
              refine st_test h (fun hb h => ?_) (fun hb h => ?_)
              · refine st_test h (fun hb h => ?_) (fun hb h => ?_)
                · refine bT ?_
                  refine st_test h (fun hb h => ?_) (fun hb h => ?_)
                  · exact JP1.a h (Le.tow 1 0 rfl (.cons rfl (.refl _) (.nil)) (.refl _) rfl)
                  · refine view (lenMap _ _) rfl ?_
                    exact JP1.a h (Le.tow 1 0 rfl (.cons rfl (.refl _) (.nil)) (.refl _) rfl)
                · refine view (lenMap _ _) rfl ?_
                  refine st_test h (fun hb h => ?_) (fun hb h => ?_)
                  · refine st_test h (fun hb h => ?_) (fun hb h => ?_)
                    · exact JP1.a h (Le.tow 1 0 rfl (.cons rfl (.refl _) (.nil)) (.refl _) rfl)
                    · refine view (lenMap _ _) rfl ?_
                      exact JP1.a h (Le.tow 1 0 rfl (.cons rfl (.refl _) (.nil)) (.refl _) rfl)
                  · exact JP1.a h (Le.tow 1 0 rfl (.cons rfl (.refl _) (.nil)) (.refl _) rfl)
              · refine bF ?_
                exact JP1.a h (Le.tow 1 0 rfl (.cons rfl (.refl _) (.nil)) (.refl _) rfl)
          · refine bF ?_
            refine bF ?_
            exact JP1.a h (Le.tow 1 0 rfl (.cons rfl (.refl _) (.nil)) (.refl _) rfl)
      · refine st_test h (fun hb h => ?_) (fun hb h => ?_)
        · refine st_test h (fun hb h => ?_) (fun hb h => ?_)
          · refine bT ?_
            refine st_test h (fun hb h => ?_) (fun hb h => ?_)
            · refine bT ?_
              refine st_test h (fun hb h => ?_) (fun hb h => ?_)
              · refine bT ?_
                refine st_test h (fun hb h => ?_) (fun hb h => ?_)
                · exact JP1.a h (Le.tow 1 0 rfl (.cons rfl (.refl _) (.nil)) (.refl _) rfl)
                · refine view (lenMap _ _) rfl ?_
                  exact JP1.a h (Le.tow 1 0 rfl (.cons rfl (.refl _) (.nil)) (.refl _) rfl)
              · refine view (lenMap _ _) rfl ?_
                refine st_test h (fun hb h => ?_) (fun hb h => ?_)
                · refine st_test h (fun hb h => ?_) (fun hb h => ?_)
                  · exact JP1.a h (Le.tow 1 0 rfl (.cons rfl (.refl _) (.nil)) (.refl _) rfl)
                  · refine view (lenMap _ _) rfl ?_
                    exact JP1.a h (Le.tow 1 0 rfl (.cons rfl (.refl _) (.nil)) (.refl _) rfl)
                · exact JP1.a h (Le.tow 1 0 rfl (.cons rfl (.refl _) (.nil)) (.refl _) rfl)
            · refine view (lenMap _ _) rfl ?_
              refine st_test h (fun hb h => ?_) (fun hb h => ?_)
              · refine st_test h (fun hb h => ?_) (fun hb h => ?_)
                · refine bT ?_
                  refine st_test h (fun hb h => ?_) (fun hb h => ?_)
                  · exact JP1.a h (Le.tow 1 0 rfl (.cons rfl (.refl _) (.nil)) (.refl _) rfl)
                  · refine view (lenMap _ _) rfl ?_
                    exact JP1.a h (Le.tow 1 0 rfl (.cons rfl (.refl _) (.nil)) (.refl _) rfl)
                · refine view (lenMap _ _) rfl ?_
                  refine st_test h (fun hb h => ?_) (fun hb h => ?_)
                  · refine st_test h (fun hb h => ?_) (fun hb h => ?_)
                    · exact JP1.a h (Le.tow 1 0 rfl (.cons rfl (.refl _) (.nil)) (.refl _) rfl)
                    · refine view (lenMap _ _) rfl ?_
                      exact JP1.a h (Le.tow 1 0 rfl (.cons rfl (.refl _) (.nil)) (.refl _) rfl)
                  · exact JP1.a h (Le.tow 1 0 rfl (.cons rfl (.refl _) (.nil)) (.refl _) rfl)
              · refine bF ?_
                exact JP1.a h (Le.tow 1 0 rfl (.cons rfl (.refl _) (.nil)) (.refl _) rfl)
          · refine st_test h (fun hb h => ?_) (fun hb h => ?_)
            · refine st_test h (fun hb h => ?_) (fun hb h => ?_)
              · refine bT ?_
                refine st_test h (fun hb h => ?_) (fun hb h => ?_)
                · refine bT ?_
                  refine st_test h (fun hb h => ?_) (fun hb h => ?_)
                  · exact JP1.a h (Le.tow 1 0 rfl (.cons rfl (.refl _) (.nil)) (.refl _) rfl)
                  · refine view (lenMap _ _) rfl ?_
                    exact JP1.a h (Le.tow 1 0 rfl (.cons rfl (.refl _) (.nil)) (.refl _) rfl)
                · refine view (lenMap _ _) rfl ?_
                  refine st_test h (fun hb h => ?_) (fun hb h => ?_)
                  · refine st_test h (fun hb h => ?_) (fun hb h => ?_)
                    · exact JP1.a h (Le.tow 1 0 rfl (.cons rfl (.refl _) (.nil)) (.refl _) rfl)
                    · refine view (lenMap _ _) rfl ?_
                      exact JP1.a h (Le.tow 1 0 rfl (.cons rfl (.refl _) (.nil)) (.refl _) rfl)
                  · exact JP1.a h (Le.tow 1 0 rfl (.cons rfl (.refl _) (.nil)) (.refl _) rfl)
              · refine view (lenMap _ _) rfl ?_
                refine st_test h (fun hb h => ?_) (fun hb h => ?_)
                · refine st_test h (fun hb h => ?_) (fun hb h => ?_)
                  · refine bT ?_
                    refine st_test h (fun hb h => ?_) (fun hb h => ?_)
                    · exact JP1.a h (Le.tow 1 0 rfl (.cons rfl (.refl _) (.nil)) (.refl _) rfl)
                    · refine view (lenMap _ _) rfl ?_
                      exact JP1.a h (Le.tow 1 0 rfl (.cons rfl (.refl _) (.nil)) (.refl _) rfl)
                  · refine view (lenMap _ _) rfl ?_
                    refine st_test h (fun hb h => ?_) (fun hb h => ?_)
                    · refine st_test h (fun hb h => ?_) (fun hb h => ?_)
                      · exact JP1.a h (Le.tow 1 0 rfl (.cons rfl (.refl _) (.nil)) (.refl _) rfl)
                      · refine view (lenMap _ _) rfl ?_
                        exact JP1.a h (Le.tow 1 0 rfl (.cons rfl (.refl _) (.nil)) (.refl _) rfl)
                    · exact JP1.a h (Le.tow 1 0 rfl (.cons rfl (.refl _) (.nil)) (.refl _) rfl)
                · refine bF ?_
                  exact JP1.a h (Le.tow 1 0 rfl (.cons rfl (.refl _) (.nil)) (.refl _) rfl)
            · refine bF ?_
              refine bF ?_
              exact JP1.a h (Le.tow 1 0 rfl (.cons rfl (.refl _) (.nil)) (.refl _) rfl)
        · refine bF ?_
          refine bF ?_
          refine bF ?_
          exact JP1.a h (Le.tow 1 0 rfl (.cons rfl (.refl _) (.nil)) (.refl _) rfl)
    · refine st_test h (fun hb h => ?_) (fun hb h => ?_)
      · refine st_test h (fun hb h => ?_) (fun hb h => ?_)
        · refine bT ?_
          refine st_test h (fun hb h => ?_) (fun hb h => ?_)
          · refine bT ?_
            refine st_test h (fun hb h => ?_) (fun hb h => ?_)
            · refine bT ?_
              refine st_test h (fun hb h => ?_) (fun hb h => ?_)
              · refine bT ?_
                refine st_test h (fun hb h => ?_) (fun hb h => ?_)
                · exact JP1.a h (Le.tow 1 0 rfl (.cons rfl (.refl _) (.nil)) (.refl _) rfl)
                · refine view (lenMap _ _) rfl ?_
                  exact JP1.a h (Le.tow 1 0 rfl (.cons rfl (.refl _) (.nil)) (.refl _) rfl)
              · refine view (lenMap _ _) rfl ?_
                refine st_test h (fun hb h => ?_) (fun hb h => ?_)
                · refine st_test h (fun hb h => ?_) (fun hb h => ?_)
                  · exact JP1.a h (Le.tow 1 0 rfl (.cons rfl (.refl _) (.nil)) (.refl _) rfl)
                  · refine view (lenMap _ _) rfl ?_
                    exact JP1.a h (Le.tow 1 0 rfl (.cons rfl (.refl _) (.nil)) (.refl _) rfl)
                · exact JP1.a h (Le.tow 1 0 rfl (.cons rfl (.refl _) (.nil)) (.refl _) rfl)
            · refine view (lenMap _ _) rfl ?_
              refine st_test h (fun hb h => ?_) (fun hb h => ?_)
              · refine st_test h (fun hb h => ?_) (fun hb h => ?_)
                · refine bT ?_
                  refine st_test h (fun hb h => ?_) (fun hb h => ?_)
                  · exact JP1.a h (Le.tow 1 0 rfl (.cons rfl (.refl _) (.nil)) (.refl _) rfl)
                  · refine view (lenMap _ _) rfl ?_
                    exact JP1.a h (Le.tow 1 0 rfl (.cons rfl (.refl _) (.nil)) (.refl _) rfl)
                · refine view (lenMap _ _) rfl ?_
                  refine st_test h (fun hb h => ?_) (fun hb h => ?_)
                  · refine st_test h (fun hb h => ?_) (fun hb h => ?_)
                    · exact JP1.a h (Le.tow 1 0 rfl (.cons rfl (.refl _) (.nil)) (.refl _) rfl)
                    · refine view (lenMap _ _) rfl ?_
                      exact JP1.a h (Le.tow 1 0 rfl (.cons rfl (.refl _) (.nil)) (.refl _) rfl)
                  · exact JP1.a h (Le.tow 1 0 rfl (.cons rfl (.refl _) (.nil)) (.refl _) rfl)
              · refine bF ?_
                exact JP1.a h (Le.tow 1 0 rfl (.cons rfl (.refl _) (.nil)) (.refl _) rfl)
          · refine st_test h (fun hb h => ?_) (fun hb h => ?_)
            · refine st_test h (fun hb h => ?_) (fun hb h => ?_)
              · refine bT ?_
                refine st_test h (fun hb h => ?_) (fun hb h => ?_)
                · refine bT ?_
                  refine st_test h (fun hb h => ?_) (fun hb h => ?_)
                  · exact JP1.a h (Le.tow 1 0 rfl (.cons rfl (.refl _) (.nil)) (.refl _) rfl)
                  · refine view (lenMap _ _) rfl ?_
                    exact JP1.a h (Le.tow 1 0 rfl (.cons rfl (.refl _) (.nil)) (.refl _) rfl)
                · refine view (lenMap _ _) rfl ?_
                  refine st_test h (fun hb h => ?_) (fun hb h => ?_)
                  · refine st_test h (fun hb h => ?_) (fun hb h => ?_)
                    · exact JP1.a h (Le.tow 1 0 rfl (.cons rfl (.refl _) (.nil)) (.refl _) rfl)
                    · refine view (lenMap _ _) rfl ?_
                      exact JP1.a h (Le.tow 1 0 rfl (.cons rfl (.refl _) (.nil)) (.refl _) rfl)
                  · exact JP1.a h (Le.tow 1 0 rfl (.cons rfl (.refl _) (.nil)) (.refl _) rfl)
              · refine view (lenMap _ _) rfl ?_
                refine st_test h (fun hb h => ?_) (fun hb h => ?_)
                · refine st_test h (fun hb h => ?_) (fun hb h => ?_)
                  · refine bT ?_
                    refine st_test h (fun hb h => ?_) (fun hb h => ?_)
                    · exact JP1.a h (Le.tow 1 0 rfl (.cons rfl (.refl _) (.nil)) (.refl _) rfl)
                    · refine view (lenMap _ _) rfl ?_
                      exact JP1.a h (Le.tow 1 0 rfl (.cons rfl (.refl _) (.nil)) (.refl _) rfl)
                  · refine view (lenMap _ _) rfl ?_
                    refine st_test h (fun hb h => ?_) (fun hb h => ?_)
                    · refine st_test h (fun hb h => ?_) (fun hb h => ?_)
                      · exact JP1.a h (Le.tow 1 0 rfl (.cons rfl (.refl _) (.nil)) (.refl _) rfl)
                      · refine view (lenMap _ _) rfl ?_
                        exact JP1.a h (Le.tow 1 0 rfl (.cons rfl (.refl _) (.nil)) (.refl _) rfl)
                    · exact JP1.a h (Le.tow 1 0 rfl (.cons rfl (.refl _) (.nil)) (.refl _) rfl)
                · refine bF ?_
                  exact JP1.a h (Le.tow 1 0 rfl (.cons rfl (.refl _) (.nil)) (.refl _) rfl)
            · refine bF ?_
              refine bF ?_
              exact JP1.a h (Le.tow 1 0 rfl (.cons rfl (.refl _) (.nil)) (.refl _) rfl)
        · refine st_test h (fun hb h => ?_) (fun hb h => ?_)
          · refine st_test h (fun hb h => ?_) (fun hb h => ?_)
            · refine bT ?_
              refine st_test h (fun hb h => ?_) (fun hb h => ?_)
              · refine bT ?_
                refine st_test h (fun hb h => ?_) (fun hb h => ?_)
                · refine bT ?_
                  refine st_test h (fun hb h => ?_) (fun hb h => ?_)
                  · exact JP1.a h (Le.tow 1 0 rfl (.cons rfl (.refl _) (.nil)) (.refl _) rfl)
                  · refine view (lenMap _ _) rfl ?_
                    exact JP1.a h (Le.tow 1 0 rfl (.cons rfl (.refl _) (.nil)) (.refl _) rfl)
                · refine view (lenMap _ _) rfl ?_
                  refine st_test h (fun hb h => ?_) (fun hb h => ?_)
                  · refine st_test h (fun hb h => ?_) (fun hb h => ?_)
                    · exact JP1.a h (Le.tow 1 0 rfl (.cons rfl (.refl _) (.nil)) (.refl _) rfl)
                    · refine view (lenMap _ _) rfl ?_
                      exact JP1.a h (Le.tow 1 0 rfl (.cons rfl (.refl _) (.nil)) (.refl _) rfl)
                  · exact JP1.a h (Le.tow 1 0 rfl (.cons rfl (.refl _) (.nil)) (.refl _) rfl)
              · refine view (lenMap _ _) rfl ?_
                refine st_test h (fun hb h => ?_) (fun hb h => ?_)
                · refine st_test h (fun hb h => ?_) (fun hb h => ?_)
                  · refine bT ?_
                    refine st_test h (fun hb h => ?_) (fun hb h => ?_)
                    · exact JP1.a h (Le.tow 1 0 rfl (.cons rfl (.refl _) (.nil)) (.refl _) rfl)
                    · refine view (lenMap _ _) rfl ?_
                      exact JP1.a h (Le.tow 1 0 rfl (.cons rfl (.refl _) (.nil)) (.refl _) rfl)
                  · refine view (lenMap _ _) rfl ?_
                    refine st_test h (fun hb h => ?_) (fun hb h => ?_)
                    · refine st_test h (fun hb h => ?_) (fun hb h => ?_)
                      · exact JP1.a h (Le.tow 1 0 rfl (.cons rfl (.refl _) (.nil)) (.refl _) rfl)
                      · refine view (lenMap _ _) rfl ?_
                        exact JP1.a h (Le.tow 1 0 rfl (.cons rfl (.refl _) (.nil)) (.refl _) rfl)
                    · exact JP1.a h (Le.tow 1 0 rfl (.cons rfl (.refl _) (.nil)) (.refl _) rfl)
                · refine bF ?_
                  exact JP1.a h (Le.tow 1 0 rfl (.cons rfl (.refl _) (.nil)) (.refl _) rfl)
            · refine st_test h (fun hb h => ?_) (fun hb h => ?_)
              · refine st_test h (fun hb h => ?_) (fun hb h => ?_)
                · refine bT ?_
                  refine st_test h (fun hb h => ?_) (fun hb h => ?_)
                  · refine bT ?_
                    refine st_test h (fun hb h => ?_) (fun hb h => ?_)
                    · exact JP1.a h (Le.tow 1 0 rfl (.cons rfl (.refl _) (.nil)) (.refl _) rfl)
                    · refine view (lenMap _ _) rfl ?_
                      exact JP1.a h (Le.tow 1 0 rfl (.cons rfl (.refl _) (.nil)) (.refl _) rfl)
                  · refine view (lenMap _ _) rfl ?_
                    refine st_test h (fun hb h => ?_) (fun hb h => ?_)
                    · refine st_test h (fun hb h => ?_) (fun hb h => ?_)
                      · exact JP1.a h (Le.tow 1 0 rfl (.cons rfl (.refl _) (.nil)) (.refl _) rfl)
                      · refine view (lenMap _ _) rfl ?_
                        exact JP1.a h (Le.tow 1 0 rfl (.cons rfl (.refl _) (.nil)) (.refl _) rfl)
                    · exact JP1.a h (Le.tow 1 0 rfl (.cons rfl (.refl _) (.nil)) (.refl _) rfl)
                · refine view (lenMap _ _) rfl ?_
                  refine st_test h (fun hb h => ?_) (fun hb h => ?_)
                  · refine st_test h (fun hb h => ?_) (fun hb h => ?_)
                    · refine bT ?_
                      refine st_test h (fun hb h => ?_) (fun hb h => ?_)
                      · exact JP1.a h (Le.tow 1 0 rfl (.cons rfl (.refl _) (.nil)) (.refl _) rfl)
                      · refine view (lenMap _ _) rfl ?_
                        exact JP1.a h (Le.tow 1 0 rfl (.cons rfl (.refl _) (.nil)) (.refl _) rfl)
                    · refine view (lenMap _ _) rfl ?_
                      refine st_test h (fun hb h => ?_) (fun hb h => ?_)
                      · refine st_test h (fun hb h => ?_) (fun hb h => ?_)
                        · exact JP1.a h (Le.tow 1 0 rfl (.cons rfl (.refl _) (.nil)) (.refl _) rfl)
                        · refine view (lenMap _ _) rfl ?_
                          exact JP1.a h (Le.tow 1 0 rfl (.cons rfl (.refl _) (.nil)) (.refl _) rfl)
                      · exact JP1.a h (Le.tow 1 0 rfl (.cons rfl (.refl _) (.nil)) (.refl _) rfl)
                  · refine bF ?_
                    exact JP1.a h (Le.tow 1 0 rfl (.cons rfl (.refl _) (.nil)) (.refl _) rfl)
              · refine bF ?_
                refine bF ?_
                exact JP1.a h (Le.tow 1 0 rfl (.cons rfl (.refl _) (.nil)) (.refl _) rfl)
          · refine bF ?_
            refine bF ?_
            refine bF ?_
            exact JP1.a h (Le.tow 1 0 rfl (.cons rfl (.refl _) (.nil)) (.refl _) rfl)
      · refine bF ?_
        refine bF ?_
        refine bF ?_
        refine bF ?_
        exact JP1.a h (Le.tow 1 0 rfl (.cons rfl (.refl _) (.nil)) (.refl _) rfl)
  · have h := hk
    refine st_ret (t := t_R19_bare) h ?_
    exact .refl _
mutual
noncomputable def R19_expr (p0 : api_Node) : Option (Bool) :=
  if (p0.Kind == 1) then
    R18_Quote p0.Text >>= fun x1 =>
    ( if x1.2 then
        R19_bare p0 false true false false false >>= fun x3 =>
        some x3
      else
        some false : Option (Bool)) >>= fun o2 =>
    some o2
  else
    if (p0.Kind == 2) then
      R19_bare p0 false false true false false >>= fun x4 =>
      some x4
    else
      if (p0.Kind == 3) then
        ( if (p0.N == 0) then
            R19_bare p0 false false true false false >>= fun x6 =>
            some x6
          else
            if (p0.N == 1) then
              R19_bare p0 false false true false false >>= fun x7 =>
              some x7
            else
              some false : Option (Bool)) >>= fun o5 =>
        some o5
      else
        if (p0.Kind == 4) then
          ( R19_Name p0.Name >>= fun x9 =>
            if x9 then
              R19_bare p0 true false false false false >>= fun x10 =>
              some x10
            else
              some false : Option (Bool)) >>= fun o8 =>
          some o8
        else
          if (p0.Kind == 5) then
            ( R18_Word p0.Name >>= fun x12 =>
              if x12 then
                if ((p0.L.length : Int) == 1) then
                  R19_exprs p0.L >>= fun x13 =>
                  if x13 then
                    R19_bare p0 true false false true false >>= fun x14 =>
                    some x14
                  else
                    some false
                else
                  some false
              else
                some false : Option (Bool)) >>= fun o11 =>
            some o11
          else
            if (p0.Kind == 6) then
              ( R19_Name p0.Name >>= fun x16 =>
                if x16 then
                  if (decide ((p0.L.length : Int) ≤ 3)) then
                    R19_exprs p0.L >>= fun x17 =>
                    if x17 then
                      R19_bare p0 true false false true false >>= fun x18 =>
                      some x18
                    else
                      some false
                  else
                    some false
                else
                  some false : Option (Bool)) >>= fun o15 =>
              some o15
            else
              if (p0.Kind == 7) then
                ( R18_Word p0.Name >>= fun x20 =>
                  if x20 then
                    R19_bare p0 true false false false false >>= fun x21 =>
                    some x21
                  else
                    some false : Option (Bool)) >>= fun o19 =>
                some o19
              else
                some false
  partial_fixpoint
noncomputable def R19_exprs (p0 : (List api_Node)) : Option (Bool) :=
  (R19_exprs_L1 p0 0) >>= fun o1 =>
  match o1 with
  | .inl y2 =>
    some true
  | .inr y3 =>
    some false
  partial_fixpoint
noncomputable def R19_exprs_L1 (p0 : (List api_Node)) (v3 : Int) : Option (Unit ⊕ Unit) :=
  if (decide (v3 < (p0.length : Int))) then
    idx p0 v3 >>= fun x4 =>
    R19_expr x4 >>= fun x5 =>
    if (!x5) then
      some (.inr ())
    else
      R19_exprs_L1 p0 (wr (v3 + 1))
  else
    some (.inl ())
  partial_fixpoint
end
set_option maxRecDepth 100000 in
set_option maxHeartbeats 4000000 in
theorem R19_expr_grp : (∀ (p0 : api_Node) (o : Bool), R19_expr p0 = some o → PCall Try.prog 125 [.agg [iV p0.Kind, sV p0.Name, sV p0.Text, iV p0.N, .sl false (p0.L.map c_api_Node), .sl false (p0.Then.map c_api_Node), .sl false (p0.Else.map c_api_Node)]] (t_R19_expr o)) ∧ (∀ (p0 : (List api_Node)) (o : Bool), R19_exprs p0 = some o → PCall Try.prog 106 [.sl false (p0.map c_api_Node)] (t_R19_exprs o)) ∧ (∀ (p0 : (List api_Node)) (v3 : Int) (o1 : Unit ⊕ Unit), R19_exprs_L1 p0 v3 = some o1 → TL (0, 0) Try.prog 16 R19_exprs_L1_c (JP2 (0, 0) 16 o1 (.exit 0) (R19_exprs_L1_x0 p0) .ret (R19_exprs_L1_x1 p0)) (R19_exprs_L1_st p0 v3)) := by
  refine R19_expr.mutual_partial_correctness _ _ _ ?_ ?_ ?_
  · intro R19_exprs' ih_R19_exprs p0 o h
    refine PCall.ofB mixed tbOk R19_expr_lv Try.func125 rfl (by kernel_rfl) (Nat.le_of_ble_eq_true rfl) ?_
    refine st_test h (fun hb h => ?_) (fun hb h => ?_)
    · refine st_call [sV p0.Text] t_R18_Quote h (fun x1 hy => (R18_Quote_ok p0.Text x1 hy)) (fun x1 hy h => ?_)
      refine st_bind h (fun o2 ho hk => ?_)
      refine Exists.intro (JP1 _ _ o2 .normal (R19_expr_J0_0 p0)) (And.intro ?_ (join1 ?_))
      · have h := ho
        refine st_test h (fun hb h => ?_) (fun hb h => ?_)
        · refine st_call [.agg [iV p0.Kind, sV p0.Name, sV p0.Text, iV p0.N, .sl false (p0.L.map c_api_Node), .sl false (p0.Then.map c_api_Node), .sl false (p0.Else.map c_api_Node)], bV false, bV true, bV false, bV false, bV false] t_R19_bare h (fun x3 hy => (R19_bare_ok p0 false true false false false x3 hy)) (fun x3 hy h => ?_)
          exact JP1.a h (Le.tow 1 0 rfl (.cons rfl (.refl _) (.nil)) (.refl _) rfl)
        · exact JP1.a h (Le.tow 1 0 rfl (.cons rfl (.refl _) (.nil)) (.refl _) rfl)
      · have h := hk
        refine st_ret (t := t_R19_expr) h ?_
        exact .refl _
    · refine st_test h (fun hb h => ?_) (fun hb h => ?_)
      · refine st_call [.agg [iV p0.Kind, sV p0.Name, sV p0.Text, iV p0.N, .sl false (p0.L.map c_api_Node), .sl false (p0.Then.map c_api_Node), .sl false (p0.Else.map c_api_Node)], bV false, bV false, bV true, bV false, bV false] t_R19_bare h (fun x4 hy => (R19_bare_ok p0 false false true false false x4 hy)) (fun x4 hy h => ?_)
        refine st_ret (t := t_R19_expr) h ?_
        exact .refl _
      · refine st_test h (fun hb h => ?_) (fun hb h => ?_)
        · refine st_bind h (fun o5 ho hk => ?_)
          refine Exists.intro (JP1 _ _ o5 .normal (R19_expr_J1_0 p0)) (And.intro ?_ (join1 ?_))
          · have h := ho
            refine st_test h (fun hb h => ?_) (fun hb h => ?_)
            · refine bT ?_
              refine st_call [.agg [iV p0.Kind, sV p0.Name, sV p0.Text, iV p0.N, .sl false (p0.L.map c_api_Node), .sl false (p0.Then.map c_api_Node), .sl false (p0.Else.map c_api_Node)], bV false, bV false, bV true, bV false, bV false] t_R19_bare h (fun x6 hy => (R19_bare_ok p0 false false true false false x6 hy)) (fun x6 hy h => ?_)
              exact JP1.a h (Le.tow 1 0 rfl (.cons rfl (.refl _) (.nil)) (.refl _) rfl)
            · refine st_test h (fun hb h => ?_) (fun hb h => ?_)
              · refine st_call [.agg [iV p0.Kind, sV p0.Name, sV p0.Text, iV p0.N, .sl false (p0.L.map c_api_Node), .sl false (p0.Then.map c_api_Node), .sl false (p0.Else.map c_api_Node)], bV false, bV false, bV true, bV false, bV false] t_R19_bare h (fun x7 hy => (R19_bare_ok p0 false false true false false x7 hy)) (fun x7 hy h => ?_)
                exact JP1.a h (Le.tow 1 0 rfl (.cons rfl (.refl _) (.nil)) (.refl _) rfl)
              · exact JP1.a h (Le.tow 1 0 rfl (.cons rfl (.refl _) (.nil)) (.refl _) rfl)
          · have h := hk
            refine st_ret (t := t_R19_expr) h ?_
            exact .refl _
        · refine st_test h (fun hb h => ?_) (fun hb h => ?_)
          · refine st_bind h (fun o8 ho hk => ?_)
            refine Exists.intro (JP1 _ _ o8 .normal (R19_expr_J2_0 p0)) (And.intro ?_ (join1 ?_))
            · have h := ho
              refine st_call [sV p0.Name] t_R19_Name h (fun x9 hy => (R19_Name_ok p0.Name x9 hy)) (fun x9 hy h => ?_)
              refine st_test h (fun hb h => ?_) (fun hb h => ?_)
              · refine st_call [.agg [iV p0.Kind, sV p0.Name, sV p0.Text, iV p0.N, .sl false (p0.L.map c_api_Node), .sl false (p0.Then.map c_api_Node), .sl false (p0.Else.map c_api_Node)], bV true, bV false, bV false, bV false, bV false] t_R19_bare h (fun x10 hy => (R19_bare_ok p0 true false false false false x10 hy)) (fun x10 hy h => ?_)
                exact JP1.a h (Le.tow 1 0 rfl (.cons rfl (.refl _) (.nil)) (.refl _) rfl)
              · exact JP1.a h (Le.tow 1 0 rfl (.cons rfl (.refl _) (.nil)) (.refl _) rfl)
            · have h := hk
              refine st_ret (t := t_R19_expr) h ?_
              exact .refl _
          · refine st_test h (fun hb h => ?_) (fun hb h => ?_)
            · refine st_bind h (fun o11 ho hk => ?_)
              refine Exists.intro (JP1 _ _ o11 .normal (R19_expr_J3_0 p0)) (And.intro ?_ (join1 ?_))
              · have h := ho
                refine st_call [sV p0.Name] t_R18_Word h (fun x12 hy => (R18_Word_ok p0.Name x12 hy)) (fun x12 hy h => ?_)
                refine st_test h (fun hb h => ?_) (fun hb h => ?_)
                · refine view (lenMap _ _) rfl ?_
                  refine st_test h (fun hb h => ?_) (fun hb h => ?_)
                  · refine st_call [.sl false (p0.L.map c_api_Node)] t_R19_exprs h (fun x13 hy => (ih_R19_exprs p0.L x13 hy)) (fun x13 hy h => ?_)
                    refine st_test h (fun hb h => ?_) (fun hb h => ?_)
                    · refine st_call [.agg [iV p0.Kind, sV p0.Name, sV p0.Text, iV p0.N, .sl false (p0.L.map c_api_Node), .sl false (p0.Then.map c_api_Node), .sl false (p0.Else.map c_api_Node)], bV true, bV false, bV false, bV true, bV false] t_R19_bare h (fun x14 hy => (R19_bare_ok p0 true false false true false x14 hy)) (fun x14 hy h => ?_)
                      exact JP1.a h (Le.tow 1 0 rfl (.cons rfl (.refl _) (.nil)) (.refl _) rfl)
                    · exact JP1.a h (Le.tow 1 0 rfl (.cons rfl (.refl _) (.nil)) (.refl _) rfl)
                  · refine bF ?_
                    exact JP1.a h (Le.tow 1 0 rfl (.cons rfl (.refl _) (.nil)) (.refl _) rfl)
                · refine bF ?_
                  refine bF ?_
                  exact JP1.a h (Le.tow 1 0 rfl (.cons rfl (.refl _) (.nil)) (.refl _) rfl)
              · have h := hk
                refine st_ret (t := t_R19_expr) h ?_
                exact .refl _
            · refine st_test h (fun hb h => ?_) (fun hb h => ?_)
              · refine st_bind h (fun o15 ho hk => ?_)
                refine Exists.intro (JP1 _ _ o15 .normal (R19_expr_J4_0 p0)) (And.intro ?_ (join1 ?_))
                · have h := ho
                  refine st_call [sV p0.Name] t_R19_Name h (fun x16 hy => (R19_Name_ok p0.Name x16 hy)) (fun x16 hy h => ?_)
                  refine st_test h (fun hb h => ?_) (fun hb h => ?_)
                  · refine view (lenMap _ _) rfl ?_
                    refine st_test h (fun hb h => ?_) (fun hb h => ?_)
                    · refine st_call [.sl false (p0.L.map c_api_Node)] t_R19_exprs h (fun x17 hy => (ih_R19_exprs p0.L x17 hy)) (fun x17 hy h => ?_)
                      refine st_test h (fun hb h => ?_) (fun hb h => ?_)
                      · refine st_call [.agg [iV p0.Kind, sV p0.Name, sV p0.Text, iV p0.N, .sl false (p0.L.map c_api_Node), .sl false (p0.Then.map c_api_Node), .sl false (p0.Else.map c_api_Node)], bV true, bV false, bV false, bV true, bV false] t_R19_bare h (fun x18 hy => (R19_bare_ok p0 true false false true false x18 hy)) (fun x18 hy h => ?_)
                        exact JP1.a h (Le.tow 1 0 rfl (.cons rfl (.refl _) (.nil)) (.refl _) rfl)
                      · exact JP1.a h (Le.tow 1 0 rfl (.cons rfl (.refl _) (.nil)) (.refl _) rfl)
                    · refine bF ?_
                      exact JP1.a h (Le.tow 1 0 rfl (.cons rfl (.refl _) (.nil)) (.refl _) rfl)
                  · refine bF ?_
                    refine bF ?_
                    exact JP1.a h (Le.tow 1 0 rfl (.cons rfl (.refl _) (.nil)) (.refl _) rfl)
                · have h := hk
                  refine st_ret (t := t_R19_expr) h ?_
                  exact .refl _
              · refine st_test h (fun hb h => ?_) (fun hb h => ?_)
                · refine st_bind h (fun o19 ho hk => ?_)
                  refine Exists.intro (JP1 _ _ o19 .normal (R19_expr_J5_0 p0)) (And.intro ?_ (join1 ?_))
                  · have h := ho
                    refine st_call [sV p0.Name] t_R18_Word h (fun x20 hy => (R18_Word_ok p0.Name x20 hy)) (fun x20 hy h => ?_)
                    refine st_test h (fun hb h => ?_) (fun hb h => ?_)
                    · refine st_call [.agg [iV p0.Kind, sV p0.Name, sV p0.Text, iV p0.N, .sl false (p0.L.map c_api_Node), .sl false (p0.Then.map c_api_Node), .sl false (p0.Else.map c_api_Node)], bV true, bV false, bV false, bV false, bV false] t_R19_bare h (fun x21 hy => (R19_bare_ok p0 true false false false false x21 hy)) (fun x21 hy h => ?_)
                      exact JP1.a h (Le.tow 1 0 rfl (.cons rfl (.refl _) (.nil)) (.refl _) rfl)
                    · exact JP1.a h (Le.tow 1 0 rfl (.cons rfl (.refl _) (.nil)) (.refl _) rfl)
                  · have h := hk
                    refine st_ret (t := t_R19_expr) h ?_
                    exact .refl _
                · refine st_ret (t := t_R19_expr) h ?_
                  exact .refl _
  · intro R19_exprs_L1' ih_R19_exprs_L1 p0 o h
    refine PCall.ofB mixed tbOk R19_exprs_lv Try.func106 rfl (by kernel_rfl) (Nat.le_of_ble_eq_true rfl) ?_
    refine st_bind h (fun o1 ho hk => ?_)
    refine Exists.intro (JP2 _ _ o1 (.exit 0) (R19_exprs_L1_x0 p0) .ret (R19_exprs_L1_x1 p0)) (And.intro (T_le (τ := R19_exprs_L1_st p0 0) ?_ (TL.loop (ih_R19_exprs_L1 p0 0 o1 ho))) (join2 (fun y2 hy => ?_) (fun y3 hy => ?_)))
    · exact Le.tow 0 0 rfl (.cons rfl (.refl _) (.cons rfl (.refl _) (.nil))) (.refl _) rfl
    · have h := (by rw [hy] at hk; exact hk)
      refine st_ret (t := t_R19_exprs) h ?_
      exact .refl _
    · have h := (by rw [hy] at hk; exact hk)
      refine st_ret (t := t_R19_exprs) h ?_
      exact .refl _
  · intro R19_expr' R19_exprs_L1' ih_R19_expr ih_R19_exprs_L1 p0 v3 o1 h
    refine TL.round (bwp_sound mixed tbOk (lv := R19_exprs_lv) _ _ _ ?_)
    refine view (lenMap _ _) rfl ?_
    refine st_test h (fun hb h => ?_) (fun hb h => ?_)
    · refine st_idx (l := p0) (c := c_api_Node) (c' := l_api_Node) h c_api_Node_eq (fun _ => rfl) (by decide) (fun x4 hi h => ?_)
      refine st_call [.agg [iV x4.Kind, sV x4.Name, sV x4.Text, iV x4.N, .sl false (x4.L.map c_api_Node), .sl false (x4.Then.map c_api_Node), .sl false (x4.Else.map c_api_Node)]] t_R19_expr h (fun x5 hy => (ih_R19_expr x4 x5 hy)) (fun x5 hy h => ?_)
      refine st_test h (fun hb h => ?_) (fun hb h => ?_)
      · exact JP2.b h (Le.tow 0 0 rfl (.cons rfl (.refl _) (.nil)) (.refl _) rfl)
      · refine TL.le (τ := R19_exprs_L1_st p0 (wr (v3 + 1))) ?_ ((ih_R19_exprs_L1 p0 (wr (v3 + 1)) _ h))
        exact Le.tow 0 0 rfl (.cons rfl (.refl _) (.cons rfl (.refl _) (.nil))) (.refl _) rfl
    · exact JP2.a h (Le.tow 0 0 rfl (.nil) (.refl _) rfl)
theorem R19_exprs_ok : ∀ (p0 : (List api_Node)) (o : Bool), R19_exprs p0 = some o → PCall Try.prog 106 [.sl false (p0.map c_api_Node)] (t_R19_exprs o) := fun p0 o h => R19_expr_grp.2.1 p0 o h
noncomputable def R19_stands_L1 (p0 : (List UInt8)) (p1 : (List UInt8)) (v5 : Int) : Option (Unit ⊕ Unit) :=
  if (decide (v5 < (p0.length : Int))) then
    R01_Begins p0 p1 v5 >>= fun x4 =>
    if x4 then
      some (.inr ())
    else
      R19_stands_L1 p0 p1 (wr (v5 + 1))
  else
    some (.inl ())
  partial_fixpoint
set_option maxRecDepth 100000 in
set_option maxHeartbeats 4000000 in
theorem R19_stands_L1_grp : ∀ (p0 : (List UInt8)) (p1 : (List UInt8)), (∀ (v5 : Int) (o1 : Unit ⊕ Unit), R19_stands_L1 p0 p1 v5 = some o1 → TL (0, 0) Try.prog 16 R19_stands_L1_c (JP2 (0, 0) 16 o1 (.exit 0) (R19_stands_L1_x0 p0 p1) .ret (R19_stands_L1_x1 p0 p1)) (R19_stands_L1_st p0 p1 v5)) := by
  intro p0 p1
  refine R19_stands_L1.partial_correctness p0 p1 _ ?_
  intro R19_stands_L1' ih_R19_stands_L1 v5 o1 h
  refine TL.round (bwp_sound mixed tbOk (lv := R19_stands_lv) _ _ _ ?_)
  refine vrfl ?_
  refine st_test h (fun hb h => ?_) (fun hb h => ?_)
  · refine st_call [sV p0, sV p1, iV v5] t_R01_Begins h (fun x4 hy => (R01_Begins_ok p0 p1 v5 x4 hy)) (fun x4 hy h => ?_)
    refine st_test h (fun hb h => ?_) (fun hb h => ?_)
    · exact JP2.b h (Le.tow 0 0 rfl (.cons rfl (.refl _) (.nil)) (.refl _) rfl)
    · refine TL.le (τ := R19_stands_L1_st p0 p1 (wr (v5 + 1))) ?_ ((ih_R19_stands_L1 (wr (v5 + 1)) _ h))
      exact Le.tow 0 0 rfl (.cons rfl (.refl _) (.cons rfl (.refl _) (.cons rfl (.refl _) (.nil)))) (.refl _) rfl
  · exact JP2.a h (Le.tow 0 0 rfl (.nil) (.refl _) rfl)
theorem R19_stands_L1_ok : ∀ (p0 : (List UInt8)) (p1 : (List UInt8)) (v5 : Int) (o1 : Unit ⊕ Unit), R19_stands_L1 p0 p1 v5 = some o1 → TL (0, 0) Try.prog 16 R19_stands_L1_c (JP2 (0, 0) 16 o1 (.exit 0) (R19_stands_L1_x0 p0 p1) .ret (R19_stands_L1_x1 p0 p1)) (R19_stands_L1_st p0 p1 v5) := fun p0 p1 v5 o1 h => (R19_stands_L1_grp p0 p1) v5 o1 h
noncomputable def R19_stands (p0 : (List UInt8)) (p1 : (List UInt8)) : Option (Bool) :=
  (R19_stands_L1 p0 p1 0) >>= fun o1 =>
  match o1 with
  | .inl y2 =>
    some false
  | .inr y3 =>
    some true
set_option maxRecDepth 100000 in
set_option maxHeartbeats 4000000 in
theorem R19_stands_ok : ∀ (p0 : (List UInt8)) (p1 : (List UInt8)) (o : Bool), R19_stands p0 p1 = some o → PCall Try.prog 107 [sV p0, sV p1] (t_R19_stands o) := by
  intro p0 p1 o h
  unfold R19_stands at h
  refine PCall.ofB mixed tbOk R19_stands_lv Try.func107 rfl (by kernel_rfl) (Nat.le_of_ble_eq_true rfl) ?_
  refine st_bind h (fun o1 ho hk => ?_)
  refine Exists.intro (JP2 _ _ o1 (.exit 0) (R19_stands_L1_x0 p0 p1) .ret (R19_stands_L1_x1 p0 p1)) (And.intro (T_le (τ := R19_stands_L1_st p0 p1 0) ?_ (TL.loop (R19_stands_L1_ok p0 p1 0 o1 ho))) (join2 (fun y2 hy => ?_) (fun y3 hy => ?_)))
  · exact Le.tow 0 0 rfl (.cons rfl (.refl _) (.cons rfl (.refl _) (.cons rfl (.refl _) (.nil)))) (.refl _) rfl
  · have h := (by rw [hy] at hk; exact hk)
    refine st_ret (t := t_R19_stands) h ?_
    exact .refl _
  · have h := (by rw [hy] at hk; exact hk)
    refine st_ret (t := t_R19_stands) h ?_
    exact .refl _
mutual
noncomputable def R19_block (p0 : (List api_Node)) (p1 : Bool) : Option (Bool) :=
  (R19_block_L1 p0 p1 0) >>= fun o1 =>
  match o1 with
  | .inl y2 =>
    some true
  | .inr y3 =>
    some false
  partial_fixpoint
noncomputable def R19_block_L1 (p0 : (List api_Node)) (p1 : Bool) (v5 : Int) : Option (Unit ⊕ Unit) :=
  if (decide (v5 < (p0.length : Int))) then
    idx p0 v5 >>= fun x4 =>
    R19_stmt x4 >>= fun x5 =>
    if (!x5) then
      some (.inr ())
    else
      idx p0 v5 >>= fun x6 =>
      if (x6.Kind != 8) then
        R19_block_L1 p0 p1 (wr (v5 + 1))
      else
        idx p0 v5 >>= fun x7 =>
        ( if (!(v5 == (wr ((p0.length : Int) - 1)))) then
            idx p0 (wr (v5 + 1)) >>= fun x9 =>
            if (x9.Kind == 8) then
              some true
            else
              if (!(v5 == (wr ((p0.length : Int) - 1)))) then
                idx x7.Text (wr ((x7.Text.length : Int) - 1)) >>= fun x10 =>
                some ((x10.toNat : Int) == 123)
              else
                if p1 then
                  idx x7.Text (wr ((x7.Text.length : Int) - 1)) >>= fun x11 =>
                  some ((x11.toNat : Int) == 123)
                else
                  some false
          else
            if (!(v5 == (wr ((p0.length : Int) - 1)))) then
              idx x7.Text (wr ((x7.Text.length : Int) - 1)) >>= fun x12 =>
              some ((x12.toNat : Int) == 123)
            else
              if p1 then
                idx x7.Text (wr ((x7.Text.length : Int) - 1)) >>= fun x13 =>
                some ((x13.toNat : Int) == 123)
              else
                some false : Option (Bool)) >>= fun o8 =>
        if o8 then
          some (.inr ())
        else
          R19_block_L1 p0 p1 (wr (v5 + 1))
  else
    some (.inl ())
  partial_fixpoint
noncomputable def R19_stmt (p0 : api_Node) : Option (Bool) :=
  ( if ((p0.L.length : Int) == 1) then
      R19_exprs p0.L >>= fun x2 =>
      some x2
    else
      some false : Option (Bool)) >>= fun o1 =>
  if (p0.Kind == 8) then
    ( if (!(p0.Text == [])) then
        R19_stands p0.Text [123, 123] >>= fun x4 =>
        if (!x4) then
          R19_bare p0 false true false false false >>= fun x5 =>
          some x5
        else
          some false
      else
        some false : Option (Bool)) >>= fun o3 =>
    some o3
  else
    if (p0.Kind == 9) then
      ( if o1 then
          R19_bare p0 false false false true false >>= fun x7 =>
          some x7
        else
          some false : Option (Bool)) >>= fun o6 =>
      some o6
    else
      if (p0.Kind == 10) then
        ( if o1 then
            R19_block p0.Then true >>= fun x9 =>
            if x9 then
              R19_block p0.Else true >>= fun x10 =>
              if x10 then
                R19_bare p0 false false false true true >>= fun x11 =>
                some x11
              else
                some false
            else
              some false
          else
            some false : Option (Bool)) >>= fun o8 =>
        some o8
      else
        ( if (p0.Kind == 11) then
            some (p0.Kind == 11)
          else
            some (p0.Kind == 12) : Option (Bool)) >>= fun o12 =>
        if o12 then
          ( R19_Name p0.Name >>= fun x14 =>
            if x14 then
              if o1 then
                R19_block p0.Then true >>= fun x15 =>
                if x15 then
                  R19_bare p0 true false false true true >>= fun x16 =>
                  some x16
                else
                  some false
              else
                some false
            else
              some false : Option (Bool)) >>= fun o13 =>
          some o13
        else
          if (p0.Kind == 13) then
            ( R19_Name p0.Name >>= fun x18 =>
              if x18 then
                if o1 then
                  R19_bare p0 true false false true false >>= fun x19 =>
                  some x19
                else
                  some false
              else
                some false : Option (Bool)) >>= fun o17 =>
            some o17
          else
            some false
  partial_fixpoint
end
set_option maxRecDepth 100000 in
set_option maxHeartbeats 4000000 in
theorem R19_block_grp : (∀ (p0 : (List api_Node)) (p1 : Bool) (o : Bool), R19_block p0 p1 = some o → PCall Try.prog 48 [.sl false (p0.map c_api_Node), bV p1] (t_R19_block o)) ∧ (∀ (p0 : (List api_Node)) (p1 : Bool) (v5 : Int) (o1 : Unit ⊕ Unit), R19_block_L1 p0 p1 v5 = some o1 → TL (0, 0) Try.prog 62 R19_block_L1_c (JP2 (0, 0) 62 o1 (.exit 0) (R19_block_L1_x0 p0 p1) .ret (R19_block_L1_x1 p0 p1)) (R19_block_L1_st p0 p1 v5)) ∧ (∀ (p0 : api_Node) (o : Bool), R19_stmt p0 = some o → PCall Try.prog 79 [.agg [iV p0.Kind, sV p0.Name, sV p0.Text, iV p0.N, .sl false (p0.L.map c_api_Node), .sl false (p0.Then.map c_api_Node), .sl false (p0.Else.map c_api_Node)]] (t_R19_stmt o)) := by
  refine R19_block.mutual_partial_correctness _ _ _ ?_ ?_ ?_
  · intro R19_block_L1' ih_R19_block_L1 p0 p1 o h
    refine PCall.ofB mixed tbOk R19_block_lv Try.func48 rfl (by kernel_rfl) (Nat.le_of_ble_eq_true rfl) ?_
    refine st_bind h (fun o1 ho hk => ?_)
    refine Exists.intro (JP2 _ _ o1 (.exit 0) (R19_block_L1_x0 p0 p1) .ret (R19_block_L1_x1 p0 p1)) (And.intro (T_le (τ := R19_block_L1_st p0 p1 0) ?_ (TL.loop (ih_R19_block_L1 p0 p1 0 o1 ho))) (join2 (fun y2 hy => ?_) (fun y3 hy => ?_)))
    · exact Le.tow 0 0 rfl (.cons rfl (.refl _) (.cons rfl (.refl _) (.cons rfl (.refl _) (.nil)))) (.refl _) rfl
    · have h := (by rw [hy] at hk; exact hk)
      refine st_ret (t := t_R19_block) h ?_
      exact .refl _
    · have h := (by rw [hy] at hk; exact hk)
      refine st_ret (t := t_R19_block) h ?_
      exact .refl _
  · intro R19_block_L1' R19_stmt' ih_R19_block_L1 ih_R19_stmt p0 p1 v5 o1 h
    refine TL.round (bwp_sound mixed tbOk (lv := R19_block_lv) _ _ _ ?_)
    refine view (lenMap _ _) rfl ?_
    refine st_test h (fun hb h => ?_) (fun hb h => ?_)
    · refine st_idx (l := p0) (c := c_api_Node) (c' := l_api_Node) h c_api_Node_eq (fun _ => rfl) (by decide) (fun x4 hi h => ?_)
      refine st_call [.agg [iV x4.Kind, sV x4.Name, sV x4.Text, iV x4.N, .sl false (x4.L.map c_api_Node), .sl false (x4.Then.map c_api_Node), .sl false (x4.Else.map c_api_Node)]] t_R19_stmt h (fun x5 hy => (ih_R19_stmt x4 x5 hy)) (fun x5 hy h => ?_)
      refine st_test h (fun hb h => ?_) (fun hb h => ?_)
      · exact JP2.b h (Le.tow 0 0 rfl (.cons rfl (.refl _) (.nil)) (.refl _) rfl)
      · refine st_idx (l := p0) (c := c_api_Node) (c' := l_api_Node) h c_api_Node_eq (fun _ => rfl) (by decide) (fun x6 hi h => ?_)
        refine st_test h (fun hb h => ?_) (fun hb h => ?_)
        · refine TL.le (τ := R19_block_L1_st p0 p1 (wr (v5 + 1))) ?_ ((ih_R19_block_L1 p0 p1 (wr (v5 + 1)) _ h))
          exact Le.tow 0 0 rfl (.cons rfl (.refl _) (.cons rfl (.refl _) (.cons rfl (.refl _) (.nil)))) (.refl _) rfl
        · refine st_idx (l := p0) (c := c_api_Node) (c' := l_api_Node) h c_api_Node_eq (fun _ => rfl) (by decide) (fun x7 hi h => ?_)
          refine view (lenMap _ _) rfl ?_
          refine st_bind h (fun o8 ho hk => ?_)
          refine Exists.intro (JP1 _ _ o8 .normal (R19_block_J0_0 p0 p1 v5)) (And.intro ?_ (join1 ?_))
          · have h := ho
            refine st_test h (fun hb h => ?_) (fun hb h => ?_)
            · refine st_idx (l := p0) (c := c_api_Node) (c' := l_api_Node) h c_api_Node_eq (fun _ => rfl) (by decide) (fun x9 hi h => ?_)
              refine st_test h (fun hb h => ?_) (fun hb h => ?_)
              · exact JP1.a h (Le.tow 0 0 rfl (.cons rfl (.refl _) (.cons rfl (.refl _) (.cons rfl (.refl _) (.cons rfl (.refl _) (.nil))))) (.refl _) rfl)
              · refine st_test h (fun hb h => ?_) (fun hb h => ?_)
                · refine bT ?_
                  refine vrfl ?_
                  refine st_sidx h (fun x10 hi h => ?_)
                  exact JP1.a h (Le.tow 0 0 rfl (.cons rfl (.refl _) (.cons rfl (.refl _) (.cons rfl (.refl _) (.cons rfl (.refl _) (.nil))))) (.refl _) rfl)
                · refine st_test h (fun hb h => ?_) (fun hb h => ?_)
                  · refine vrfl ?_
                    refine st_sidx h (fun x11 hi h => ?_)
                    exact JP1.a h (Le.tow 0 0 rfl (.cons rfl (.refl _) (.cons rfl (.refl _) (.cons rfl (.refl _) (.cons rfl (.refl _) (.nil))))) (.refl _) rfl)
                  · exact JP1.a h (Le.tow 0 0 rfl (.cons rfl (.refl _) (.cons rfl (.refl _) (.cons rfl (.refl _) (.cons rfl (.refl _) (.nil))))) (.refl _) rfl)
            · refine bF ?_
              refine st_test h (fun hb h => ?_) (fun hb h => ?_)
              · refine bT ?_
                refine vrfl ?_
                refine st_sidx h (fun x12 hi h => ?_)
                exact JP1.a h (Le.tow 0 0 rfl (.cons rfl (.refl _) (.cons rfl (.refl _) (.cons rfl (.refl _) (.cons rfl (.refl _) (.nil))))) (.refl _) rfl)
              · refine st_test h (fun hb h => ?_) (fun hb h => ?_)
                · refine vrfl ?_
                  refine st_sidx h (fun x13 hi h => ?_)
                  exact JP1.a h (Le.tow 0 0 rfl (.cons rfl (.refl _) (.cons rfl (.refl _) (.cons rfl (.refl _) (.cons rfl (.refl _) (.nil))))) (.refl _) rfl)
                · exact JP1.a h (Le.tow 0 0 rfl (.cons rfl (.refl _) (.cons rfl (.refl _) (.cons rfl (.refl _) (.cons rfl (.refl _) (.nil))))) (.refl _) rfl)
          · have h := hk
            refine st_test h (fun hb h => ?_) (fun hb h => ?_)
            · exact JP2.b h (Le.tow 0 0 rfl (.cons rfl (.refl _) (.nil)) (.refl _) rfl)
            · refine TL.le (τ := R19_block_L1_st p0 p1 (wr (v5 + 1))) ?_ ((ih_R19_block_L1 p0 p1 (wr (v5 + 1)) _ h))
              exact Le.tow 0 0 rfl (.cons rfl (.refl _) (.cons rfl (.refl _) (.cons rfl (.refl _) (.nil)))) (.refl _) rfl
    · exact JP2.a h (Le.tow 0 0 rfl (.nil) (.refl _) rfl)
  · intro R19_block' ih_R19_block p0 o h
    refine PCall.ofB mixed tbOk R19_stmt_lv Try.func79 rfl (by kernel_rfl) (Nat.le_of_ble_eq_true rfl) ?_
    refine st_bind h (fun o1 ho hk => ?_)
    refine Exists.intro (JP1 _ _ o1 .normal (R19_stmt_J0_0 p0)) (And.intro ?_ (join1 ?_))
    · have h := ho
      refine view (lenMap _ _) rfl ?_
      refine st_test h (fun hb h => ?_) (fun hb h => ?_)
      · refine st_call [.sl false (p0.L.map c_api_Node)] t_R19_exprs h (fun x2 hy => (R19_exprs_ok p0.L x2 hy)) (fun x2 hy h => ?_)
        exact JP1.a h (Le.tow 1 0 rfl (.cons rfl (.refl _) (.cons rfl (.refl _) (.nil))) (.refl _) rfl)
      · exact JP1.a h (Le.tow 1 0 rfl (.cons rfl (.refl _) (.cons rfl (.refl _) (.nil))) (.refl _) rfl)
    · have h := hk
      refine st_test h (fun hb h => ?_) (fun hb h => ?_)
      · refine st_bind h (fun o3 ho hk => ?_)
        refine Exists.intro (JP1 _ _ o3 .normal (R19_stmt_J1_0 p0)) (And.intro ?_ (join1 ?_))
        · have h := ho
          refine st_test h (fun hb h => ?_) (fun hb h => ?_)
          · refine st_call [sV p0.Text, sV [123, 123]] t_R19_stands h (fun x4 hy => (R19_stands_ok p0.Text [123, 123] x4 hy)) (fun x4 hy h => ?_)
            refine st_test h (fun hb h => ?_) (fun hb h => ?_)
            · refine st_call [.agg [iV p0.Kind, sV p0.Name, sV p0.Text, iV p0.N, .sl false (p0.L.map c_api_Node), .sl false (p0.Then.map c_api_Node), .sl false (p0.Else.map c_api_Node)], bV false, bV true, bV false, bV false, bV false] t_R19_bare h (fun x5 hy => (R19_bare_ok p0 false true false false false x5 hy)) (fun x5 hy h => ?_)
              exact JP1.a h (Le.tow 1 0 rfl (.cons rfl (.refl _) (.nil)) (.refl _) rfl)
            · exact JP1.a h (Le.tow 1 0 rfl (.cons rfl (.refl _) (.nil)) (.refl _) rfl)
          · refine bF ?_
            exact JP1.a h (Le.tow 1 0 rfl (.cons rfl (.refl _) (.nil)) (.refl _) rfl)
        · have h := hk
          refine st_ret (t := t_R19_stmt) h ?_
          exact .refl _
      · refine st_test h (fun hb h => ?_) (fun hb h => ?_)
        · refine st_bind h (fun o6 ho hk => ?_)
          refine Exists.intro (JP1 _ _ o6 .normal (R19_stmt_J2_0 p0)) (And.intro ?_ (join1 ?_))
          · have h := ho
            refine st_test h (fun hb h => ?_) (fun hb h => ?_)
            · refine st_call [.agg [iV p0.Kind, sV p0.Name, sV p0.Text, iV p0.N, .sl false (p0.L.map c_api_Node), .sl false (p0.Then.map c_api_Node), .sl false (p0.Else.map c_api_Node)], bV false, bV false, bV false, bV true, bV false] t_R19_bare h (fun x7 hy => (R19_bare_ok p0 false false false true false x7 hy)) (fun x7 hy h => ?_)
              exact JP1.a h (Le.tow 1 0 rfl (.cons rfl (.refl _) (.nil)) (.refl _) rfl)
            · exact JP1.a h (Le.tow 1 0 rfl (.cons rfl (.refl _) (.nil)) (.refl _) rfl)
          · have h := hk
            refine st_ret (t := t_R19_stmt) h ?_
            exact .refl _
        · refine st_test h (fun hb h => ?_) (fun hb h => ?_)
          · refine st_bind h (fun o8 ho hk => ?_)
            refine Exists.intro (JP1 _ _ o8 .normal (R19_stmt_J3_0 p0)) (And.intro ?_ (join1 ?_))
            · have h := ho
              refine st_test h (fun hb h => ?_) (fun hb h => ?_)
              · refine st_call [.sl false (p0.Then.map c_api_Node), bV true] t_R19_block h (fun x9 hy => (ih_R19_block p0.Then true x9 hy)) (fun x9 hy h => ?_)
                refine st_test h (fun hb h => ?_) (fun hb h => ?_)
                · refine st_call [.sl false (p0.Else.map c_api_Node), bV true] t_R19_block h (fun x10 hy => (ih_R19_block p0.Else true x10 hy)) (fun x10 hy h => ?_)
                  refine st_test h (fun hb h => ?_) (fun hb h => ?_)
                  · refine st_call [.agg [iV p0.Kind, sV p0.Name, sV p0.Text, iV p0.N, .sl false (p0.L.map c_api_Node), .sl false (p0.Then.map c_api_Node), .sl false (p0.Else.map c_api_Node)], bV false, bV false, bV false, bV true, bV true] t_R19_bare h (fun x11 hy => (R19_bare_ok p0 false false false true true x11 hy)) (fun x11 hy h => ?_)
                    exact JP1.a h (Le.tow 1 0 rfl (.cons rfl (.refl _) (.nil)) (.refl _) rfl)
                  · exact JP1.a h (Le.tow 1 0 rfl (.cons rfl (.refl _) (.nil)) (.refl _) rfl)
                · refine bF ?_
                  exact JP1.a h (Le.tow 1 0 rfl (.cons rfl (.refl _) (.nil)) (.refl _) rfl)
              · refine bF ?_
                refine bF ?_
                exact JP1.a h (Le.tow 1 0 rfl (.cons rfl (.refl _) (.nil)) (.refl _) rfl)
            · have h := hk
              refine st_ret (t := t_R19_stmt) h ?_
              exact .refl _
          · refine st_bind h (fun o12 ho hk => ?_)
            refine Exists.intro (JP1 _ _ o12 .normal (R19_stmt_J4_0 p0 o1)) (And.intro ?_ (join1 ?_))
            · have h := ho
              refine st_test h (fun hb h => ?_) (fun hb h => ?_)
              · exact JP1.a h (Le.tow 1 0 rfl (.cons rfl (.refl _) (.cons rfl (.refl _) (.cons rfl (.refl _) (.cons rfl (.refl _) (.nil))))) (.refl _) rfl)
              · exact JP1.a h (Le.tow 1 0 rfl (.cons rfl (.refl _) (.cons rfl (.refl _) (.cons rfl (.refl _) (.cons rfl (.refl _) (.nil))))) (.refl _) rfl)
            · have h := hk
              refine st_test h (fun hb h => ?_) (fun hb h => ?_)
              · refine st_bind h (fun o13 ho hk => ?_)
                refine Exists.intro (JP1 _ _ o13 .normal (R19_stmt_J5_0 p0)) (And.intro ?_ (join1 ?_))
                · have h := ho
                  refine st_call [sV p0.Name] t_R19_Name h (fun x14 hy => (R19_Name_ok p0.Name x14 hy)) (fun x14 hy h => ?_)
                  refine st_test h (fun hb h => ?_) (fun hb h => ?_)
                  · refine st_test h (fun hb h => ?_) (fun hb h => ?_)
                    · refine st_call [.sl false (p0.Then.map c_api_Node), bV true] t_R19_block h (fun x15 hy => (ih_R19_block p0.Then true x15 hy)) (fun x15 hy h => ?_)
                      refine st_test h (fun hb h => ?_) (fun hb h => ?_)
                      · refine st_call [.agg [iV p0.Kind, sV p0.Name, sV p0.Text, iV p0.N, .sl false (p0.L.map c_api_Node), .sl false (p0.Then.map c_api_Node), .sl false (p0.Else.map c_api_Node)], bV true, bV false, bV false, bV true, bV true] t_R19_bare h (fun x16 hy => (R19_bare_ok p0 true false false true true x16 hy)) (fun x16 hy h => ?_)
                        exact JP1.a h (Le.tow 1 0 rfl (.cons rfl (.refl _) (.nil)) (.refl _) rfl)
                      · exact JP1.a h (Le.tow 1 0 rfl (.cons rfl (.refl _) (.nil)) (.refl _) rfl)
                    · refine bF ?_
                      exact JP1.a h (Le.tow 1 0 rfl (.cons rfl (.refl _) (.nil)) (.refl _) rfl)
                  · refine bF ?_
                    refine bF ?_
                    exact JP1.a h (Le.tow 1 0 rfl (.cons rfl (.refl _) (.nil)) (.refl _) rfl)
                · have h := hk
                  refine st_ret (t := t_R19_stmt) h ?_
                  exact .refl _
              · refine st_test h (fun hb h => ?_) (fun hb h => ?_)
                · refine st_bind h (fun o17 ho hk => ?_)
                  refine Exists.intro (JP1 _ _ o17 .normal (R19_stmt_J6_0 p0)) (And.intro ?_ (join1 ?_))
                  · have h := ho
                    refine st_call [sV p0.Name] t_R19_Name h (fun x18 hy => (R19_Name_ok p0.Name x18 hy)) (fun x18 hy h => ?_)
                    refine st_test h (fun hb h => ?_) (fun hb h => ?_)
                    · refine st_test h (fun hb h => ?_) (fun hb h => ?_)
                      · refine st_call [.agg [iV p0.Kind, sV p0.Name, sV p0.Text, iV p0.N, .sl false (p0.L.map c_api_Node), .sl false (p0.Then.map c_api_Node), .sl false (p0.Else.map c_api_Node)], bV true, bV false, bV false, bV true, bV false] t_R19_bare h (fun x19 hy => (R19_bare_ok p0 true false false true false x19 hy)) (fun x19 hy h => ?_)
                        exact JP1.a h (Le.tow 1 0 rfl (.cons rfl (.refl _) (.nil)) (.refl _) rfl)
                      · exact JP1.a h (Le.tow 1 0 rfl (.cons rfl (.refl _) (.nil)) (.refl _) rfl)
                    · refine bF ?_
                      exact JP1.a h (Le.tow 1 0 rfl (.cons rfl (.refl _) (.nil)) (.refl _) rfl)
                  · have h := hk
                    refine st_ret (t := t_R19_stmt) h ?_
                    exact .refl _
                · refine st_ret (t := t_R19_stmt) h ?_
                  exact .refl _
theorem R19_block_ok : ∀ (p0 : (List api_Node)) (p1 : Bool) (o : Bool), R19_block p0 p1 = some o → PCall Try.prog 48 [.sl false (p0.map c_api_Node), bV p1] (t_R19_block o) := fun p0 p1 o h => R19_block_grp.1 p0 p1 o h
noncomputable def R19_Is (p0 : (List api_Node)) : Option (Bool) :=
  ( R19_block p0 false >>= fun x2 =>
    if x2 then
      R19_Deep p0 >>= fun x3 =>
      if (decide (x3 ≤ 12)) then
        R19_Count p0 >>= fun x4 =>
        some (decide (x4 ≤ 1024))
      else
        some false
    else
      some false : Option (Bool)) >>= fun o1 =>
  some o1
set_option maxRecDepth 100000 in
set_option maxHeartbeats 4000000 in
theorem R19_Is_ok : ∀ (p0 : (List api_Node)) (o : Bool), R19_Is p0 = some o → PCall Try.prog 20 [.sl false (p0.map c_api_Node)] (t_R19_Is o) := by
  intro p0 o h
  unfold R19_Is at h
  refine PCall.ofB mixed tbOk R19_Is_lv Try.func20 rfl (by kernel_rfl) (Nat.le_of_ble_eq_true rfl) ?_
  refine st_bind h (fun o1 ho hk => ?_)
  refine Exists.intro (JP1 _ _ o1 .normal (R19_Is_J0_0 )) (And.intro ?_ (join1 ?_))
  · have h := ho
    refine st_call [.sl false (p0.map c_api_Node), bV false] t_R19_block h (fun x2 hy => (R19_block_ok p0 false x2 hy)) (fun x2 hy h => ?_)
    refine st_test h (fun hb h => ?_) (fun hb h => ?_)
    · refine st_call [.sl false (p0.map c_api_Node)] t_R19_Deep h (fun x3 hy => (R19_Deep_ok p0 x3 hy)) (fun x3 hy h => ?_)
      refine st_test h (fun hb h => ?_) (fun hb h => ?_)
      · refine st_call [.sl false (p0.map c_api_Node)] t_R19_Count h (fun x4 hy => (R19_Count_ok p0 x4 hy)) (fun x4 hy h => ?_)
        exact JP1.a h (Le.tow 0 0 rfl (.cons rfl (.refl _) (.nil)) (.refl _) rfl)
      · exact JP1.a h (Le.tow 0 0 rfl (.cons rfl (.refl _) (.nil)) (.refl _) rfl)
    · refine bF ?_
      exact JP1.a h (Le.tow 0 0 rfl (.cons rfl (.refl _) (.nil)) (.refl _) rfl)
  · have h := hk
    refine st_ret (t := t_R19_Is) h ?_
    exact .refl _
mutual
noncomputable def R19_Same (p0 : (List api_Node)) (p1 : (List api_Node)) : Option (Bool) :=
  if ((p0.length : Int) != (p1.length : Int)) then
    some false
  else
    (R19_Same_L1 p0 p1 0) >>= fun o1 =>
    match o1 with
    | .inl y2 =>
      some true
    | .inr y3 =>
      some false
  partial_fixpoint
noncomputable def R19_Same_L1 (p0 : (List api_Node)) (p1 : (List api_Node)) (v5 : Int) : Option (Unit ⊕ Unit) :=
  if (decide (v5 < (p0.length : Int))) then
    ( idx p0 v5 >>= fun x5 =>
      idx p1 v5 >>= fun x6 =>
      some (x5.Kind, x5.Name, x5.Text, x5.N, x5.L, x5.Then, x5.Else, x6.Kind, x6.Name, x6.Text, x6.N, x6.L, x6.Then, x6.Else) : Option ((Int × (List UInt8) × (List UInt8) × Int × (List api_Node) × (List api_Node) × (List api_Node) × Int × (List UInt8) × (List UInt8) × Int × (List api_Node) × (List api_Node) × (List api_Node)))) >>= fun o4 =>
    ( if (o4.1 != o4.2.2.2.2.2.2.2.1) then
        some true
      else
        if (!(o4.2.1 == o4.2.2.2.2.2.2.2.2.1)) then
          some true
        else
          if (!(o4.2.2.1 == o4.2.2.2.2.2.2.2.2.2.1)) then
            some true
          else
            if (o4.2.2.2.1 != o4.2.2.2.2.2.2.2.2.2.2.1) then
              some true
            else
              R19_Same o4.2.2.2.2.1 o4.2.2.2.2.2.2.2.2.2.2.2.1 >>= fun x8 =>
              if (!x8) then
                some true
              else
                R19_Same o4.2.2.2.2.2.1 o4.2.2.2.2.2.2.2.2.2.2.2.2.1 >>= fun x9 =>
                if (!x9) then
                  some true
                else
                  R19_Same o4.2.2.2.2.2.2.1 o4.2.2.2.2.2.2.2.2.2.2.2.2.2 >>= fun x10 =>
                  some (!x10) : Option (Bool)) >>= fun o7 =>
    if o7 then
      some (.inr ())
    else
      R19_Same_L1 p0 p1 (wr (v5 + 1))
  else
    some (.inl ())
  partial_fixpoint
end
mutual
noncomputable def nunciolaw19_Light (p0 : (List api_Node)) (p1 : Int) (p2 : Int) : Option ((List api_Node) × Int) :=
  (nunciolaw19_Light_L1 p0 p1 p2 [] 0) >>= fun o1 =>
  some (o1.2, o1.1)
  partial_fixpoint
noncomputable def nunciolaw19_Light_L1 (p0 : (List api_Node)) (p1 : Int) (v2 : Int) (v8 : (List api_Node)) (v9 : Int) : Option ((Int × (List api_Node))) :=
  ( if (decide (v9 < (p0.length : Int))) then
      if (decide (v2 > 0)) then
        some (decide (p1 > 0))
      else
        some false
    else
      some false : Option (Bool)) >>= fun o2 =>
  if o2 then
    idx p0 v9 >>= fun x3 =>
    cutL x3.Name 0 (if 40 < (x3.Name.length : Int) then 40 else (x3.Name.length : Int)) >>= fun x4 =>
    cutL x3.Text 0 (if 60 < (x3.Text.length : Int) then 60 else (x3.Text.length : Int)) >>= fun x5 =>
    nunciolaw19_Light x3.L (wr (p1 - 1)) (wr (v2 - 1)) >>= fun x6 =>
    nunciolaw19_Light x3.Then (wr (p1 - 1)) x6.2 >>= fun x7 =>
    nunciolaw19_Light x3.Else (wr (p1 - 1)) x7.2 >>= fun x8 =>
    appL 120 v8 [(api_Node.mk x3.Kind x4 x5 x3.N x6.1 x7.1 x8.1)] >>= fun x9 =>
    nunciolaw19_Light_L1 p0 p1 x8.2 x9 (wr (v9 + 1))
  else
    some (v2, v8)
  partial_fixpoint
end
set_option maxRecDepth 100000 in
set_option maxHeartbeats 4000000 in
theorem nunciolaw19_Light_grp : (∀ (p0 : (List api_Node)) (p1 : Int) (p2 : Int) (o : (List api_Node) × Int), nunciolaw19_Light p0 p1 p2 = some o → PCall Try.prog 46 [.sl false (p0.map c_api_Node), iV p1, iV p2] (t_nunciolaw19_Light o)) ∧ (∀ (p0 : (List api_Node)) (p1 : Int) (v2 : Int) (v8 : (List api_Node)) (v9 : Int) (o1 : (Int × (List api_Node))), nunciolaw19_Light_L1 p0 p1 v2 v8 v9 = some o1 → TL (0, 0) Try.prog 88 nunciolaw19_Light_L1_c (JP1 (0, 0) 88 o1 (.exit 0) (nunciolaw19_Light_L1_x0 p0 p1)) (nunciolaw19_Light_L1_st p0 p1 v2 v8 v9)) := by
  refine nunciolaw19_Light.mutual_partial_correctness _ _ ?_ ?_
  · intro nunciolaw19_Light_L1' ih_nunciolaw19_Light_L1 p0 p1 p2 o h
    refine PCall.ofB mixed tbOk nunciolaw19_Light_lv Try.func46 rfl (by kernel_rfl) (Nat.le_of_ble_eq_true rfl) ?_
    refine st_bind h (fun o1 ho hk => ?_)
    refine Exists.intro (JP1 _ _ o1 (.exit 0) (nunciolaw19_Light_L1_x0 p0 p1)) (And.intro (T_le (τ := nunciolaw19_Light_L1_st p0 p1 p2 [] 0) ?_ (TL.loop (ih_nunciolaw19_Light_L1 p0 p1 p2 [] 0 o1 ho))) (join1 ?_))
    · exact Le.trans (τ := ⟨[(0, .p (.sl false (p0.map c_api_Node))), (1, .p (iV p1)), (2, .p (iV p2)), (8, .p (.sl true [])), (9, .p (iV 0))], ⟨[], []⟩⟩) (Le.tow 0 0 rfl (.cons rfl (.refl _) (.cons rfl (.refl _) (.cons rfl (.refl _) (.cons rfl (.refl _) (.cons rfl (.refl _) (.nil)))))) (.refl _) rfl) ((Le.own 8 52 7 rfl sizeNil).trans (Le.tow 0 1 rfl (.cons rfl (.refl _) (.cons rfl (.refl _) (.cons rfl (.refl _) (.cons rfl (.refl _) (.cons rfl (.refl _) (.nil)))))) (.refl _) rfl))
    have h := hk
    refine st_ret (t := t_nunciolaw19_Light) h ?_
    exact .refl _
  · intro nunciolaw19_Light' nunciolaw19_Light_L1' ih_nunciolaw19_Light ih_nunciolaw19_Light_L1 p0 p1 v2 v8 v9 o1 h
    refine TL.round (bwp_sound mixed tbOk (lv := nunciolaw19_Light_lv) _ _ _ ?_)
    refine st_bind h (fun o2 ho hk => ?_)
    refine Exists.intro (JP1 _ _ o2 .normal (nunciolaw19_Light_J0_0 p0 p1 v2 v8 v9)) (And.intro ?_ (join1 ?_))
    · have h := ho
      refine view (lenMap _ _) rfl ?_
      refine st_test h (fun hb h => ?_) (fun hb h => ?_)
      · refine st_test h (fun hb h => ?_) (fun hb h => ?_)
        · exact JP1.a h (Le.tow 0 1 rfl (.cons rfl (.refl _) (.cons rfl (.refl _) (.cons rfl (.refl _) (.cons rfl (.refl _) (.cons rfl (.refl _) (.cons rfl (.refl _) (.nil))))))) (.refl _) rfl)
        · exact JP1.a h (Le.tow 0 1 rfl (.cons rfl (.refl _) (.cons rfl (.refl _) (.cons rfl (.refl _) (.cons rfl (.refl _) (.cons rfl (.refl _) (.cons rfl (.refl _) (.nil))))))) (.refl _) rfl)
      · refine bF ?_
        exact JP1.a h (Le.tow 0 1 rfl (.cons rfl (.refl _) (.cons rfl (.refl _) (.cons rfl (.refl _) (.cons rfl (.refl _) (.cons rfl (.refl _) (.cons rfl (.refl _) (.nil))))))) (.refl _) rfl)
    · have h := hk
      refine st_test h (fun hb h => ?_) (fun hb h => ?_)
      · refine st_idx (l := p0) (c := c_api_Node) (c' := l_api_Node) h c_api_Node_eq (fun _ => rfl) (by decide) (fun x3 hi h => ?_)
        refine And.intro (by decide +kernel) (And.intro rfl ?_)
        refine vrfl ?_
        refine st_cuts none (some (if 40 < (x3.Name.length : Int) then 40 else (x3.Name.length : Int))) h (fun x4 hi h => ?_)
        refine vrfl ?_
        refine st_cuts none (some (if 60 < (x3.Text.length : Int) then 60 else (x3.Text.length : Int))) h (fun x5 hi h => ?_)
        refine st_call [.sl false (x3.L.map c_api_Node), iV (wr (p1 - 1)), iV (wr (v2 - 1))] t_nunciolaw19_Light h (fun x6 hy => (ih_nunciolaw19_Light x3.L (wr (p1 - 1)) (wr (v2 - 1)) x6 hy)) (fun x6 hy h => ?_)
        refine st_call [.sl false (x3.Then.map c_api_Node), iV (wr (p1 - 1)), iV x6.2] t_nunciolaw19_Light h (fun x7 hy => (ih_nunciolaw19_Light x3.Then (wr (p1 - 1)) x6.2 x7 hy)) (fun x7 hy h => ?_)
        refine st_call [.sl false (x3.Else.map c_api_Node), iV (wr (p1 - 1)), iV x7.2] t_nunciolaw19_Light h (fun x8 hy => (ih_nunciolaw19_Light x3.Else (wr (p1 - 1)) x7.2 x8 hy)) (fun x8 hy h => ?_)
        refine st_appo (a := v8) (b := [(api_Node.mk x3.Kind x4 x5 x3.N x6.1 x7.1 x8.1)]) (c := c_api_Node) h (.cons (.ceq (c_api_Node_eq _) (.refl _)) (.nil)) (fun x => by rw [c_api_Node_eq]; rfl) rfl (fun x9 hi h => ?_)
        refine TL.le (τ := nunciolaw19_Light_L1_st p0 p1 x8.2 x9 (wr (v9 + 1))) ?_ ((ih_nunciolaw19_Light_L1 p0 p1 x8.2 x9 (wr (v9 + 1)) _ h))
        exact Le.tow 0 1 rfl (.cons rfl (.refl _) (.cons rfl (.refl _) (.cons rfl (.refl _) (.cons rfl (.refl _) (.cons rfl (.refl _) (.nil)))))) (.refl _) rfl
      · exact JP1.a h (Le.tow 0 1 rfl (.cons rfl (.refl _) (.cons rfl (.refl _) (.nil))) (.refl _) rfl)
theorem nunciolaw19_Light_ok : ∀ (p0 : (List api_Node)) (p1 : Int) (p2 : Int) (o : (List api_Node) × Int), nunciolaw19_Light p0 p1 p2 = some o → PCall Try.prog 46 [.sl false (p0.map c_api_Node), iV p1, iV p2] (t_nunciolaw19_Light o) := fun p0 p1 p2 o h => nunciolaw19_Light_grp.1 p0 p1 p2 o h
noncomputable def strings_Builder_Len_2 (h0_0 : Bool) (h0_1 : (List Int)) : Option (Int) :=
  some (h0_1.length : Int)
set_option maxRecDepth 100000 in
set_option maxHeartbeats 4000000 in
theorem strings_Builder_Len_2_ok : ∀ (h0_0 : Bool) (h0_1 : (List Int)) (o : Int), strings_Builder_Len_2 h0_0 h0_1 = some o → CallOK Try.prog 54 [.ptr 0 0] ⟨[[.sp Try.prog 67 h0_0 0 0, .own 0 5 1 (h0_1.map (cNum .u8))]], [(h0_1.map (cNum .u8)).length]⟩ (t_strings_Builder_Len_2 o) ⟨[[.sp Try.prog 67 h0_0 0 0, .own 0 5 1 (h0_1.map (cNum .u8))]], [(h0_1.map (cNum .u8)).length]⟩ := by
  intro h0_0 h0_1 o h
  unfold strings_Builder_Len_2 at h
  refine CallOK.ofB mixed tbOk strings_Builder_Len_2_lv Try.func54 rfl (by kernel_rfl) (Nat.le_of_ble_eq_true rfl) rfl rfl rfl ?_
  refine view (lenMap _ _) rfl ?_
  refine Exists.intro _ (And.intro (Le.refl _ _ _) ?_)
  exact st_retc (t := t_strings_Builder_Len_2) (ss := fun o => ⟨[[.sp Try.prog 67 h0_0 0 0, .own 0 5 1 (h0_1.map (cNum .u8))]], [(h0_1.map (cNum .u8)).length]⟩) h ⟨[0], rfl, .refl _, .refl _, rfl⟩
noncomputable def strings_Builder_String_2 (h0_0 : Bool) (h0_1 : (List Int)) : Option ((List UInt8)) :=
  b2s h0_1
set_option maxRecDepth 100000 in
set_option maxHeartbeats 4000000 in
theorem strings_Builder_String_2_ok : ∀ (h0_0 : Bool) (h0_1 : (List Int)) (o : (List UInt8)), strings_Builder_String_2 h0_0 h0_1 = some o → CallOK Try.prog 45 [.ptr 0 0] ⟨[[.sp Try.prog 67 h0_0 0 0, .own 0 5 1 (h0_1.map (cNum .u8))]], [(h0_1.map (cNum .u8)).length]⟩ (t_strings_Builder_String_2 o) ⟨[[.sp Try.prog 67 h0_0 0 0, .p (.sl false (h0_1.map (cNum .u8)))]], [((h0_1.map (cNum .u8)).length + 1)]⟩ := by
  intro h0_0 h0_1 o h
  unfold strings_Builder_String_2 at h
  exact builderString_ok [[.sp Try.prog 67 h0_0 0 0, .own 0 5 1 (h0_1.map (cNum .u8))]] [(h0_1.map (cNum .u8)).length] 0 0 [.sp Try.prog 67 h0_0 0 0, .own 0 5 1 (h0_1.map (cNum .u8))] (h0_1.map (cNum .u8)) rfl rfl rfl (b2s_cells h)
noncomputable def tree_Count_L1 (x1 : (List api_Node) × Int) (l4 : (List (api_Node × Int))) (h0_0 : Int) : Option (Int) :=
  match l4 with
  | [] =>
    some h0_0
  | x2 :: r3 =>
    tree_Count_L1 x1 r3 (wr (h0_0 + 1))
  partial_fixpoint
set_option maxRecDepth 100000 in
set_option maxHeartbeats 4000000 in
theorem tree_Count_L1_grp : ∀ (x1 : (List api_Node) × Int), (∀ (l4 : (List (api_Node × Int))) (h0_0 : Int) (o6 : Int), tree_Count_L1 x1 l4 h0_0 = some o6 → RL 1 0 Try.prog 11 (rgP tree_Count_L1_c) (rgA tree_Count_L1_c) (rgB tree_Count_L1_c) (tree_Count_L1_st x1 h0_0).env (JP1 (0, 0) 11 o6 .normal (tree_Count_L1_x0 x1)) (l4.map e_tree_all_1) (tree_Count_L1_st x1 h0_0).s) := by
  intro x1
  refine tree_Count_L1.partial_correctness x1 _ ?_
  intro tree_Count_L1' ih_tree_Count_L1 l4 h0_0 o6 h
  cases l4 with
  | nil =>
    refine rl_nil ?_
    exact JP1.a h (Le.tow 1 0 rfl (.cons rfl (.refl _) (.cons rfl (.refl _) (.nil))) (.refl _) rfl)
  | cons x2 r3 =>
    refine rl_cons (bwp_sound mixed tbOk (lv := tree_Count_lv) _ _ _ ?_)
    refine And.intro rfl (bwp_sound mixed tbOk (lv := tree_Count_lv) _ _ _ ?_)
    exact Exists.intro (tree_Count_L1_st x1 (wr (h0_0 + 1))).s (And.intro (Le.tow 1 0 rfl (.nil) (.refl _) rfl) (And.intro rfl (And.intro rfl ((ih_tree_Count_L1 r3 (wr (h0_0 + 1)) _ h)))))
theorem tree_Count_L1_ok : ∀ (x1 : (List api_Node) × Int) (l4 : (List (api_Node × Int))) (h0_0 : Int) (o6 : Int), tree_Count_L1 x1 l4 h0_0 = some o6 → RL 1 0 Try.prog 11 (rgP tree_Count_L1_c) (rgA tree_Count_L1_c) (rgB tree_Count_L1_c) (tree_Count_L1_st x1 h0_0).env (JP1 (0, 0) 11 o6 .normal (tree_Count_L1_x0 x1)) (l4.map e_tree_all_1) (tree_Count_L1_st x1 h0_0).s := fun x1 l4 h0_0 o6 h => (tree_Count_L1_grp x1) l4 h0_0 o6 h
noncomputable def tree_all (p0 : (List api_Node)) (p1 : Int) : Option ((List api_Node) × Int) :=
  some (p0, p1)
set_option maxRecDepth 100000 in
set_option maxHeartbeats 4000000 in
theorem tree_all_ok : ∀ (p0 : (List api_Node)) (p1 : Int) (o : (List api_Node) × Int), tree_all p0 p1 = some o → PCall Try.prog 49 [.sl false (p0.map c_api_Node), iV p1] (t_tree_all o) := by
  intro p0 p1 o h
  unfold tree_all at h
  refine PCall.ofM mixed tbOk tree_all_lv Try.func49 rfl (by kernel_rfl) (Nat.le_of_ble_eq_true rfl) ?_
  refine st_ret (t := t_tree_all) h ?_
  exact .refl _
noncomputable def tree_all_1_L3 (p0 : (List api_Node)) (p1 : Int) (v12 : Int) (x3 : api_Node) (v28 : Int) (x7 : (List api_Node) × Int) (l10 : (List (api_Node × Int))) : Option ((List (api_Node × Int)) × (Unit)) :=
  match l10 with
  | [] =>
    some ([], ())
  | x8 :: r9 =>
    ( tree_all_1_L3 p0 p1 v12 x3 v28 x7 r9 ) >>= fun q => some (((api_Node.mk x8.1.Kind x8.1.Name x8.1.Text x8.1.N x8.1.L x8.1.Then x8.1.Else), x8.2) :: q.1, q.2)
  partial_fixpoint
set_option maxRecDepth 100000 in
set_option maxHeartbeats 4000000 in
theorem tree_all_1_L3_grp : ∀ (p0 : (List api_Node)) (p1 : Int) (v12 : Int) (x3 : api_Node) (v28 : Int) (x7 : (List api_Node) × Int), (∀ (l10 : (List (api_Node × Int))) (o13 : (List (api_Node × Int)) × (Unit)), tree_all_1_L3 p0 p1 v12 x3 v28 x7 l10 = some o13 → ∀ (gxs gp gpost gq12 : List (List V)), gxs = gp ++ (o13.1.map e_tree_all_1 ++ gpost) → gxs = gq12 ++ gpost → RL 2 1 Try.prog 44 (rgP tree_all_1_L3_c) (rgA tree_all_1_L3_c) (rgB tree_all_1_L3_c) (tree_all_1_L3_st p0 p1 v12 x3 v28 x7 gxs gp).env (Qs (0, 1) 44 gxs (JP1 (0, 1) 44 o13.2 .normal (tree_all_1_L3_x0 p0 p1 v12 x3 v28 x7 gxs gq12))) (l10.map e_tree_all_1) (tree_all_1_L3_st p0 p1 v12 x3 v28 x7 gxs gp).s) := by
  intro p0 p1 v12 x3 v28 x7
  refine tree_all_1_L3.partial_correctness p0 p1 v12 x3 v28 x7 _ ?_
  intro tree_all_1_L3' ih_tree_all_1_L3 l10 o13 h
  intro gxs gp gpost gq12 hx hq
  cases l10 with
  | nil =>
    refine rl_nil ?_
    exact .inl (JP1.a (sndI h) (Le.tow 2 1 rfl (.cons rfl (.refl _) (.cons rfl (.refl _) (.cons rfl (.refl _) (.cons rfl (.refl _) (.cons rfl (.refl _) (.cons rfl (.refl _) (.cons rfl (.refl _) (.cons rfl (.refl _) (.nil))))))))) (.refl _) (liveQ h hx hq rfl)))
  | cons x8 r9 =>
    refine rl_cons (bwp_sound mixed tbOk (lv := tree_all_1_lv) _ _ _ ?_)
    refine And.intro rfl (bwp_sound mixed tbOk (lv := tree_all_1_lv) _ _ _ ?_)
    refine st_yld (c := e_tree_all_1) h hx (.refl _) (by exact rfl) (by exact rfl) (fun _ h hx => ?_) ?_
    · refine bF ?_
      exact Exists.intro (tree_all_1_L3_st p0 p1 v12 x3 v28 x7  gxs (gp ++ [e_tree_all_1 ((api_Node.mk x8.1.Kind x8.1.Name x8.1.Text x8.1.N x8.1.L x8.1.Then x8.1.Else), x8.2)])).s (And.intro (Le.tow 2 1 rfl (.nil) (.refl _) rfl) (And.intro rfl (And.intro rfl ((ih_tree_all_1_L3 r9 _ h) _ _ _ _ hx hq))))
    · refine bT ?_
      exact ⟨_, (Le.env0 _).trans (Le.tow 2 1 rfl .nil (.refl _) rfl), rfl, rfl, .inr ⟨rfl, stop_top rfl⟩⟩
theorem tree_all_1_L3_ok : ∀ (p0 : (List api_Node)) (p1 : Int) (v12 : Int) (x3 : api_Node) (v28 : Int) (x7 : (List api_Node) × Int) (l10 : (List (api_Node × Int))) (o13 : (List (api_Node × Int)) × (Unit)), tree_all_1_L3 p0 p1 v12 x3 v28 x7 l10 = some o13 → ∀ (gxs gp gpost gq12 : List (List V)), gxs = gp ++ (o13.1.map e_tree_all_1 ++ gpost) → gxs = gq12 ++ gpost → RL 2 1 Try.prog 44 (rgP tree_all_1_L3_c) (rgA tree_all_1_L3_c) (rgB tree_all_1_L3_c) (tree_all_1_L3_st p0 p1 v12 x3 v28 x7 gxs gp).env (Qs (0, 1) 44 gxs (JP1 (0, 1) 44 o13.2 .normal (tree_all_1_L3_x0 p0 p1 v12 x3 v28 x7 gxs gq12))) (l10.map e_tree_all_1) (tree_all_1_L3_st p0 p1 v12 x3 v28 x7 gxs gp).s := fun p0 p1 v12 x3 v28 x7 l10 o13 h => (tree_all_1_L3_grp p0 p1 v12 x3 v28 x7) l10 o13 h
mutual
noncomputable def tree_all_1 (p0 : (List api_Node)) (p1 : Int) : Option ((List (api_Node × Int)) × Unit) :=
  ( tree_all_1_L1 p0 p1 0) >>= fun o2 => (
    some ([], ())) >>= fun q => some (o2.1 ++ q.1, q.2)
  partial_fixpoint
noncomputable def tree_all_1_L1 (p0 : (List api_Node)) (p1 : Int) (v12 : Int) : Option ((List (api_Node × Int)) × (Unit)) :=
  if (decide (v12 < (p0.length : Int))) then
    idx p0 v12 >>= fun x3 =>
    ( ( tree_all_1_L2 p0 p1 v12 x3 0) >>= fun o5 => (
        tree_all_1_L1 p0 p1 (wr (v12 + 1))) >>= fun q => some (o5.1 ++ q.1, q.2)) >>= fun q => some ((x3, p1) :: q.1, q.2)
  else
    some ([], ())
  partial_fixpoint
noncomputable def tree_all_1_L2 (p0 : (List api_Node)) (p1 : Int) (v12 : Int) (x3 : api_Node) (v28 : Int) : Option ((List (api_Node × Int)) × (Unit)) :=
  if (decide (v28 < 3)) then
    idx ([x3.L, x3.Then, x3.Else] : List (List api_Node)) v28 >>= fun x6 =>
    tree_all x6 (wr (p1 + 1)) >>= fun x7 =>
    tree_all_1 x7.1 x7.2 >>= fun y11 =>
    ( tree_all_1_L3 p0 p1 v12 x3 v28 x7 y11.1) >>= fun o13 => (
      tree_all_1_L2 p0 p1 v12 x3 (wr (v28 + 1))) >>= fun q => some (o13.1 ++ q.1, q.2)
  else
    some ([], ())
  partial_fixpoint
end
set_option maxRecDepth 100000 in
set_option maxHeartbeats 4000000 in
theorem tree_all_1_grp : (∀ (p0 : (List api_Node)) (p1 : Int) (o : (List (api_Node × Int)) × Unit), tree_all_1 p0 p1 = some o → ∀ gxs : List (List V), gxs = o.1.map e_tree_all_1 → IterOK Try.prog 80 [.ep [.sl false (p0.map c_api_Node)], .ep [iV p1]] gxs) ∧ (∀ (p0 : (List api_Node)) (p1 : Int) (v12 : Int) (o2 : (List (api_Node × Int)) × (Unit)), tree_all_1_L1 p0 p1 v12 = some o2 → ∀ (gxs gp gpost gq1 : List (List V)), gxs = gp ++ (o2.1.map e_tree_all_1 ++ gpost) → gxs = gq1 ++ gpost → TL (0, 1) Try.prog 44 tree_all_1_L1_c (Qs (0, 1) 44 gxs (JP1 (0, 1) 44 o2.2 (.exit 0) (tree_all_1_L1_x0 p0 p1 gxs gq1))) (tree_all_1_L1_st p0 p1 v12 gxs gp)) ∧ (∀ (p0 : (List api_Node)) (p1 : Int) (v12 : Int) (x3 : api_Node) (v28 : Int) (o5 : (List (api_Node × Int)) × (Unit)), tree_all_1_L2 p0 p1 v12 x3 v28 = some o5 → ∀ (gxs gp gpost gq4 : List (List V)), gxs = gp ++ (o5.1.map e_tree_all_1 ++ gpost) → gxs = gq4 ++ gpost → TL (0, 1) Try.prog 44 tree_all_1_L2_c (Qs (0, 1) 44 gxs (JP1 (0, 1) 44 o5.2 (.exit 2) (tree_all_1_L2_x0 p0 p1 v12 x3 gxs gq4))) (tree_all_1_L2_st p0 p1 v12 x3 v28 gxs gp)) := by
  refine tree_all_1.mutual_partial_correctness _ _ _ ?_ ?_ ?_
  · intro tree_all_1_L1' ih_tree_all_1_L1 p0 p1 o h
    intro gxs hg
    have hx : gxs = [] ++ (o.1.map e_tree_all_1 ++ []) := by simp [hg]
    refine IterOK.ofB mixed tbOk tree_all_1_lv Try.func80 rfl (by kernel_rfl) (Nat.le_of_ble_eq_true rfl) rfl ?_
    refine view (lenMap _ _) rfl ?_
    refine st_bindI h hx (fun o2 lgq1 gq1 ho hk hxa hjgq1 => ?_)
    refine Exists.intro (Qs _ _ gxs (JP1 _ _ o2.2 (.exit 0) (tree_all_1_L1_x0 p0 p1 gxs gq1))) (And.intro (T_le (τ := tree_all_1_L1_st p0 p1 0 gxs ([] : List (List V))) ?_ (TL.loop ((ih_tree_all_1_L1 p0 p1 0 o2 ho) _ _ _ _ hxa hjgq1))) (joinS (join1 ?_) ?_))
    · exact Le.tow 1 1 rfl (.cons rfl (.refl _) (.cons rfl (.refl _) (.cons rfl (.refl _) (.cons rfl (.refl _) (.cons rfl (.refl _) (.nil)))))) (.refl _) rfl
    · have h := hk
      have hx := hjgq1
      exact st_iend h hx (.inl rfl) rfl
    · exact fun s1 h1 h2 hs => st_istop (.inr rfl) hs
  · intro tree_all_1_L1' tree_all_1_L2' ih_tree_all_1_L1 ih_tree_all_1_L2 p0 p1 v12 o2 h
    intro gxs gp gpost gq1 hx hq
    refine TL.round (bwp_sound mixed tbOk (lv := tree_all_1_lv) _ _ _ ?_)
    refine st_test h (fun hb h => ?_) (fun hb h => ?_)
    · refine st_idx (l := p0) (c := c_api_Node) (c' := l_api_Node) h c_api_Node_eq (fun _ => rfl) (by decide) (fun x3 hi h => ?_)
      refine st_yld (c := e_tree_all_1) h hx (.refl _) (by exact rfl) (by exact rfl) (fun _ h hx => ?_) ?_
      · refine bF ?_
        refine st_bindI h hx (fun o5 lgq4 gq4 ho hk hxa hjgq4 => ?_)
        refine Exists.intro (Qs _ _ gxs (JP1 _ _ o5.2 (.exit 2) (tree_all_1_L2_x0 p0 p1 v12 x3 gxs gq4))) (And.intro (T_le (τ := tree_all_1_L2_st p0 p1 v12 x3 0 gxs (gp ++ [e_tree_all_1 (x3, p1)])) ?_ (TL.loop ((ih_tree_all_1_L2 p0 p1 v12 x3 0 o5 ho) _ _ _ _ hxa hjgq4))) (joinS (join1 ?_) ?_))
        · exact Le.tow 2 1 rfl (.cons rfl (.refl _) (.cons rfl (.refl _) (.cons rfl (.refl _) (.cons rfl (.refl _) (.cons rfl (.refl _) (.cons rfl (.refl _) (.cons rfl (.refl _) (.nil)))))))) (.refl _) rfl
        · have h := hk
          have hx := hjgq4
          refine TL.le (τ := tree_all_1_L1_st p0 p1 (wr (v12 + 1)) gxs gq4) ?_ ((ih_tree_all_1_L1 p0 p1 (wr (v12 + 1)) _ h) _ _ _ _ hx hq)
          exact Le.tow 1 1 rfl (.cons rfl (.refl _) (.cons rfl (.refl _) (.cons rfl (.refl _) (.cons rfl (.refl _) (.cons rfl (.refl _) (.nil)))))) (.refl _) rfl
        · exact fun s1 h1 h2 hs => .inr ⟨rfl, s1, .refl _ _ _, h1, h2, hs⟩
      · refine bT ?_
        exact .inr ⟨rfl, _, (Le.env0 _).trans (Le.tow 0 1 rfl .nil (.refl _) rfl), rfl, rfl, rfl⟩
    · exact .inl (JP1.a (sndI h) (Le.tow 1 1 rfl (.nil) (.refl _) (liveQ h hx hq rfl)))
  · intro tree_all_1' tree_all_1_L2' ih_tree_all_1 ih_tree_all_1_L2 p0 p1 v12 x3 v28 o5 h
    intro gxs gp gpost gq4 hx hq
    refine TL.round (bwp_sound mixed tbOk (lv := tree_all_1_lv) _ _ _ ?_)
    refine st_test h (fun hb h => ?_) (fun hb h => ?_)
    · refine st_aidx (l := ([x3.L, x3.Then, x3.Else] : List (List api_Node))) (c := fun x6 => .sl false (x6.map c_api_Node)) h rfl rfl rfl rfl (fun x6 hi h => ?_)
      refine st_call [.sl false (x6.map c_api_Node), iV (wr (p1 + 1))] t_tree_all h (fun x7 hy => (tree_all_ok x6 (wr (p1 + 1)) x7 hy)) (fun x7 hy h => ?_)
      refine st_bind h (fun y11 hy11 h => ?_)
      refine st_bindI h hx (fun o13 lgq12 gq12 ho hk hxa hjgq12 => ?_)
      refine Exists.intro (Qs _ _ gxs (JP1 _ _ o13.2 .normal (tree_all_1_L3_x0 p0 p1 v12 x3 v28 x7 gxs gq12))) (And.intro (T_le (τ := tree_all_1_L3_st p0 p1 v12 x3 v28 x7 gxs gp) ?_ (T_range (g := 80) (cap := [.ep [.sl false (x7.1.map c_api_Node)], .ep [iV x7.2]]) rfl ((ih_tree_all_1 x7.1 x7.2 y11 hy11) _ rfl) (mapSize fun _ => rfl) rfl (Nat.le_of_ble_eq_true rfl) (Nat.le_of_ble_eq_true rfl) ((tree_all_1_L3_ok p0 p1 v12 x3 v28 x7 y11.1 o13 ho) _ _ _ _ hxa hjgq12))) (joinS (join1 ?_) ?_))
      · exact Le.tow 2 1 rfl (.cons rfl (.refl _) (.cons rfl (.refl _) (.cons rfl (.refl _) (.cons rfl (.refl _) (.cons rfl (.refl _) (.cons rfl (.refl _) (.cons rfl (.refl _) (.cons rfl (.refl _) (.nil))))))))) (.refl _) rfl
      · have h := hk
        have hx := hjgq12
        refine TL.le (τ := tree_all_1_L2_st p0 p1 v12 x3 (wr (v28 + 1)) gxs gq12) ?_ ((ih_tree_all_1_L2 p0 p1 v12 x3 (wr (v28 + 1)) _ h) _ _ _ _ hx hq)
        exact Le.tow 2 1 rfl (.cons rfl (.refl _) (.cons rfl (.refl _) (.cons rfl (.refl _) (.cons rfl (.refl _) (.cons rfl (.refl _) (.cons rfl (.refl _) (.cons rfl (.refl _) (.nil)))))))) (.refl _) rfl
      · exact fun s1 h1 h2 hs => .inr ⟨rfl, s1, .refl _ _ _, h1, h2, hs⟩
    · exact .inl (JP1.a (sndI h) (Le.tow 2 1 rfl (.cons rfl (.refl _) (.cons rfl (.refl _) (.cons rfl (.refl _) (.cons rfl (.refl _) (.cons rfl (.refl _) (.nil)))))) (.refl _) (liveQ h hx hq rfl)))
theorem tree_all_1_ok : ∀ (p0 : (List api_Node)) (p1 : Int) (o : (List (api_Node × Int)) × Unit), tree_all_1 p0 p1 = some o → ∀ gxs : List (List V), gxs = o.1.map e_tree_all_1 → IterOK Try.prog 80 [.ep [.sl false (p0.map c_api_Node)], .ep [iV p1]] gxs := fun p0 p1 o h => tree_all_1_grp.1 p0 p1 o h
noncomputable def tree_Count (p0 : (List api_Node)) : Option (Int) :=
  tree_all p0 1 >>= fun x1 =>
  tree_all_1 x1.1 x1.2 >>= fun y5 =>
  (tree_Count_L1 x1 y5.1 0) >>= fun o6 =>
  some o6
set_option maxRecDepth 100000 in
set_option maxHeartbeats 4000000 in
theorem tree_Count_ok : ∀ (p0 : (List api_Node)) (o : Int), tree_Count p0 = some o → PCall Try.prog 23 [.sl false (p0.map c_api_Node)] (t_tree_Count o) := by
  intro p0 o h
  unfold tree_Count at h
  refine PCall.ofB mixed tbOk tree_Count_lv Try.func23 rfl (by kernel_rfl) (Nat.le_of_ble_eq_true rfl) ?_
  refine st_call [.sl false (p0.map c_api_Node), iV 1] t_tree_all h (fun x1 hy => (tree_all_ok p0 1 x1 hy)) (fun x1 hy h => ?_)
  refine st_bind h (fun y5 hy5 h => ?_)
  refine st_bind h (fun o6 ho hk => ?_)
  refine Exists.intro (JP1 _ _ o6 .normal (tree_Count_L1_x0 x1)) (And.intro (T_le (τ := tree_Count_L1_st x1 0) ?_ (T_range (g := 80) (cap := [.ep [.sl false (x1.1.map c_api_Node)], .ep [iV x1.2]]) rfl ((tree_all_1_ok x1.1 x1.2 y5 hy5) _ rfl) (mapSize fun _ => rfl) rfl (Nat.le_of_ble_eq_true rfl) (Nat.le_of_ble_eq_true rfl) (tree_Count_L1_ok x1 y5.1 0 o6 ho))) (join1 ?_))
  · exact Le.tow 1 0 rfl (.cons rfl (.refl _) (.cons rfl (.refl _) (.nil))) (.refl _) rfl
  have h := hk
  refine st_ret (t := t_tree_Count) h ?_
  exact .refl _
noncomputable def tree_Deep_L1 (x1 : (List api_Node) × Int) (l4 : (List (api_Node × Int))) (h0_0 : Int) : Option (Int) :=
  match l4 with
  | [] =>
    some h0_0
  | x2 :: r3 =>
    tree_Deep_L1 x1 r3 (if x2.2 > h0_0 then x2.2 else h0_0)
  partial_fixpoint
set_option maxRecDepth 100000 in
set_option maxHeartbeats 4000000 in
theorem tree_Deep_L1_grp : ∀ (x1 : (List api_Node) × Int), (∀ (l4 : (List (api_Node × Int))) (h0_0 : Int) (o6 : Int), tree_Deep_L1 x1 l4 h0_0 = some o6 → RL 1 0 Try.prog 14 (rgP tree_Deep_L1_c) (rgA tree_Deep_L1_c) (rgB tree_Deep_L1_c) (tree_Deep_L1_st x1 h0_0).env (JP1 (0, 0) 14 o6 .normal (tree_Deep_L1_x0 x1)) (l4.map e_tree_all_1) (tree_Deep_L1_st x1 h0_0).s) := by
  intro x1
  refine tree_Deep_L1.partial_correctness x1 _ ?_
  intro tree_Deep_L1' ih_tree_Deep_L1 l4 h0_0 o6 h
  cases l4 with
  | nil =>
    refine rl_nil ?_
    exact JP1.a h (Le.tow 1 0 rfl (.cons rfl (.refl _) (.cons rfl (.refl _) (.nil))) (.refl _) rfl)
  | cons x2 r3 =>
    refine rl_cons (bwp_sound mixed tbOk (lv := tree_Deep_lv) _ _ _ ?_)
    refine And.intro rfl (bwp_sound mixed tbOk (lv := tree_Deep_lv) _ _ _ ?_)
    exact Exists.intro (tree_Deep_L1_st x1 (if x2.2 > h0_0 then x2.2 else h0_0)).s (And.intro (Le.tow 1 0 rfl (.nil) (.refl _) rfl) (And.intro rfl (And.intro rfl ((ih_tree_Deep_L1 r3 (if x2.2 > h0_0 then x2.2 else h0_0) _ h)))))
theorem tree_Deep_L1_ok : ∀ (x1 : (List api_Node) × Int) (l4 : (List (api_Node × Int))) (h0_0 : Int) (o6 : Int), tree_Deep_L1 x1 l4 h0_0 = some o6 → RL 1 0 Try.prog 14 (rgP tree_Deep_L1_c) (rgA tree_Deep_L1_c) (rgB tree_Deep_L1_c) (tree_Deep_L1_st x1 h0_0).env (JP1 (0, 0) 14 o6 .normal (tree_Deep_L1_x0 x1)) (l4.map e_tree_all_1) (tree_Deep_L1_st x1 h0_0).s := fun x1 l4 h0_0 o6 h => (tree_Deep_L1_grp x1) l4 h0_0 o6 h
noncomputable def tree_Deep (p0 : (List api_Node)) : Option (Int) :=
  tree_all p0 1 >>= fun x1 =>
  tree_all_1 x1.1 x1.2 >>= fun y5 =>
  (tree_Deep_L1 x1 y5.1 0) >>= fun o6 =>
  some o6
set_option maxRecDepth 100000 in
set_option maxHeartbeats 4000000 in
theorem tree_Deep_ok : ∀ (p0 : (List api_Node)) (o : Int), tree_Deep p0 = some o → PCall Try.prog 21 [.sl false (p0.map c_api_Node)] (t_tree_Deep o) := by
  intro p0 o h
  unfold tree_Deep at h
  refine PCall.ofB mixed tbOk tree_Deep_lv Try.func21 rfl (by kernel_rfl) (Nat.le_of_ble_eq_true rfl) ?_
  refine st_call [.sl false (p0.map c_api_Node), iV 1] t_tree_all h (fun x1 hy => (tree_all_ok p0 1 x1 hy)) (fun x1 hy h => ?_)
  refine st_bind h (fun y5 hy5 h => ?_)
  refine st_bind h (fun o6 ho hk => ?_)
  refine Exists.intro (JP1 _ _ o6 .normal (tree_Deep_L1_x0 x1)) (And.intro (T_le (τ := tree_Deep_L1_st x1 0) ?_ (T_range (g := 80) (cap := [.ep [.sl false (x1.1.map c_api_Node)], .ep [iV x1.2]]) rfl ((tree_all_1_ok x1.1 x1.2 y5 hy5) _ rfl) (mapSize fun _ => rfl) rfl (Nat.le_of_ble_eq_true rfl) (Nat.le_of_ble_eq_true rfl) (tree_Deep_L1_ok x1 y5.1 0 o6 ho))) (join1 ?_))
  · exact Le.tow 1 0 rfl (.cons rfl (.refl _) (.cons rfl (.refl _) (.nil))) (.refl _) rfl
  have h := hk
  refine st_ret (t := t_tree_Deep) h ?_
  exact .refl _
noncomputable def tree_planned (p0 : api_Node) : Option (tree_plan) :=
  some (tree_plan.mk (!(p0.Name == [])) (!(p0.Text == [])) (p0.N != 0) (decide ((p0.Then.length : Int) > 0)) (decide ((p0.Else.length : Int) > 0)) (p0.L.length : Int))
set_option maxRecDepth 100000 in
set_option maxHeartbeats 4000000 in
theorem tree_planned_ok : ∀ (p0 : api_Node) (o : tree_plan), tree_planned p0 = some o → PCall Try.prog 102 [.agg [iV p0.Kind, sV p0.Name, sV p0.Text, iV p0.N, .sl false (p0.L.map c_api_Node), .sl false (p0.Then.map c_api_Node), .sl false (p0.Else.map c_api_Node)]] (t_tree_planned o) := by
  intro p0 o h
  unfold tree_planned at h
  refine PCall.ofB mixed tbOk tree_planned_lv Try.func102 rfl (by kernel_rfl) (Nat.le_of_ble_eq_true rfl) ?_
  refine view (lenMap _ _) rfl ?_
  refine view (lenMap _ _) rfl ?_
  refine view (lenMap _ _) rfl ?_
  refine st_ret (t := t_tree_planned) h ?_
  exact .refl _
mutual
noncomputable def slices_ContainsFunc_api_Node_api_Node_tree_expr_1 (p0 : (List api_Node)) : Option (Bool) :=
  slices_IndexFunc_api_Node_api_Node_tree_expr_1 p0 >>= fun x1 =>
  some (decide (x1 ≥ 0))
  partial_fixpoint
noncomputable def slices_IndexFunc_api_Node_api_Node_tree_expr_1 (p0 : (List api_Node)) : Option (Int) :=
  (slices_IndexFunc_api_Node_api_Node_tree_expr_1_L1 p0 0) >>= fun o1 =>
  match o1 with
  | .inl y2 =>
    some (-1)
  | .inr y3 =>
    some y3
  partial_fixpoint
noncomputable def slices_IndexFunc_api_Node_api_Node_tree_expr_1_L1 (p0 : (List api_Node)) (v8 : Int) : Option (Unit ⊕ Int) :=
  if (decide (v8 < (p0.length : Int))) then
    idx p0 v8 >>= fun x4 =>
    tree_expr_1 x4 >>= fun x5 =>
    if x5 then
      some (.inr v8)
    else
      slices_IndexFunc_api_Node_api_Node_tree_expr_1_L1 p0 (wr (v8 + 1))
  else
    some (.inl ())
  partial_fixpoint
noncomputable def tree_expr_1 (p0 : api_Node) : Option (Bool) :=
  tree_expr p0 >>= fun x1 =>
  some (!x1)
  partial_fixpoint
noncomputable def tree_expr (p0 : api_Node) : Option (Bool) :=
  tree_planned p0 >>= fun x1 =>
  if (p0.Kind == 1) then
    lex_Quote p0.Text >>= fun x2 =>
    ( if x2.2 then
        some ((x1.name_ == false) && ((x1.text_ == x1.text_) && ((x1.num_ == false) && ((x1.then_ == false) && ((x1.other_ == false) && ((x1.l_ == 0) && true))))))
      else
        some false : Option (Bool)) >>= fun o3 =>
    some o3
  else
    if (p0.Kind == 2) then
      some ((x1.name_ == false) && ((x1.text_ == false) && ((x1.num_ == x1.num_) && ((x1.then_ == false) && ((x1.other_ == false) && ((x1.l_ == 0) && true))))))
    else
      if (p0.Kind == 3) then
        ( if ((bits .andNot .i64 p0.N 1) == 0) then
            some ((x1.name_ == false) && ((x1.text_ == false) && ((x1.num_ == x1.num_) && ((x1.then_ == false) && ((x1.other_ == false) && ((x1.l_ == 0) && true))))))
          else
            some false : Option (Bool)) >>= fun o4 =>
        some o4
      else
        if (p0.Kind == 4) then
          ( tree_Name p0.Name >>= fun x6 =>
            if x6 then
              some ((x1.name_ == true) && ((x1.text_ == false) && ((x1.num_ == false) && ((x1.then_ == false) && ((x1.other_ == false) && ((x1.l_ == 0) && true))))))
            else
              some false : Option (Bool)) >>= fun o5 =>
          some o5
        else
          if (p0.Kind == 7) then
            ( lex_Word p0.Name >>= fun x8 =>
              if x8 then
                some ((x1.name_ == true) && ((x1.text_ == false) && ((x1.num_ == false) && ((x1.then_ == false) && ((x1.other_ == false) && ((x1.l_ == 0) && true))))))
              else
                some false : Option (Bool)) >>= fun o7 =>
            some o7
          else
            if (p0.Kind == 5) then
              ( lex_Word p0.Name >>= fun x10 =>
                if x10 then
                  if ((x1.name_ == true) && ((x1.text_ == false) && ((x1.num_ == false) && ((x1.then_ == false) && ((x1.other_ == false) && ((x1.l_ == 1) && true)))))) then
                    idx p0.L 0 >>= fun x11 =>
                    tree_expr x11 >>= fun x12 =>
                    some x12
                  else
                    some false
                else
                  some false : Option (Bool)) >>= fun o9 =>
              some o9
            else
              if (p0.Kind == 6) then
                ( tree_Name p0.Name >>= fun x14 =>
                  if x14 then
                    if ((x1.name_ == true) && ((x1.text_ == false) && ((x1.num_ == false) && ((x1.then_ == false) && ((x1.other_ == false) && ((x1.l_ == (if 3 < x1.l_ then 3 else x1.l_)) && true)))))) then
                      slices_ContainsFunc_api_Node_api_Node_tree_expr_1 p0.L >>= fun x15 =>
                      some (!x15)
                    else
                      some false
                  else
                    some false : Option (Bool)) >>= fun o13 =>
                some o13
              else
                some false
  partial_fixpoint
end
set_option maxRecDepth 100000 in
set_option maxHeartbeats 4000000 in
theorem slices_ContainsFunc_api_Node_api_Node_tree_expr_1_grp : (∀ (p0 : (List api_Node)) (o : Bool), slices_ContainsFunc_api_Node_api_Node_tree_expr_1 p0 = some o → CallOK Try.prog 123 [.p (.sl false (p0.map c_api_Node)), .fn (.func 124) [] []] ⟨[], []⟩ (t_slices_ContainsFunc_api_Node_api_Node_tree_expr_1 o) ⟨[], []⟩) ∧ (∀ (p0 : (List api_Node)) (o : Int), slices_IndexFunc_api_Node_api_Node_tree_expr_1 p0 = some o → CallOK Try.prog 133 [.p (.sl false (p0.map c_api_Node)), .fn (.func 124) [] []] ⟨[], []⟩ (t_slices_IndexFunc_api_Node_api_Node_tree_expr_1 o) ⟨[], []⟩) ∧ (∀ (p0 : (List api_Node)) (v8 : Int) (o1 : Unit ⊕ Int), slices_IndexFunc_api_Node_api_Node_tree_expr_1_L1 p0 v8 = some o1 → TL (0, 0) Try.prog 19 slices_IndexFunc_api_Node_api_Node_tree_expr_1_L1_c (JP2 (0, 0) 19 o1 (.exit 0) (slices_IndexFunc_api_Node_api_Node_tree_expr_1_L1_x0 p0) .ret (slices_IndexFunc_api_Node_api_Node_tree_expr_1_L1_x1 p0)) (slices_IndexFunc_api_Node_api_Node_tree_expr_1_L1_st p0 v8)) ∧ (∀ (p0 : api_Node) (o : Bool), tree_expr_1 p0 = some o → PCall Try.prog 124 [.agg [iV p0.Kind, sV p0.Name, sV p0.Text, iV p0.N, .sl false (p0.L.map c_api_Node), .sl false (p0.Then.map c_api_Node), .sl false (p0.Else.map c_api_Node)]] (t_tree_expr_1 o)) ∧ (∀ (p0 : api_Node) (o : Bool), tree_expr p0 = some o → PCall Try.prog 104 [.agg [iV p0.Kind, sV p0.Name, sV p0.Text, iV p0.N, .sl false (p0.L.map c_api_Node), .sl false (p0.Then.map c_api_Node), .sl false (p0.Else.map c_api_Node)]] (t_tree_expr o)) := by
  refine slices_ContainsFunc_api_Node_api_Node_tree_expr_1.mutual_partial_correctness _ _ _ _ _ ?_ ?_ ?_ ?_ ?_
  · intro slices_IndexFunc_api_Node_api_Node_tree_expr_1' ih_slices_IndexFunc_api_Node_api_Node_tree_expr_1 p0 o h
    refine CallOK.ofB mixed tbOk slices_ContainsFunc_api_Node_api_Node_tree_expr_1_lv Try.func123 rfl (by kernel_rfl) (Nat.le_of_ble_eq_true rfl) rfl rfl rfl ?_
    refine st_callc _ _ h (fun x1 hy => ((ih_slices_IndexFunc_api_Node_api_Node_tree_expr_1 p0 x1 hy).fr [] [] rfl rfl rfl)) (fun x1 hy h => ?_)
    refine Exists.intro _ (And.intro (Le.refl _ _ _) ?_)
    exact st_retc (t := t_slices_ContainsFunc_api_Node_api_Node_tree_expr_1) (ss := fun o => ⟨[], []⟩) h ⟨[], rfl, .refl _, .refl _, rfl⟩
  · intro slices_IndexFunc_api_Node_api_Node_tree_expr_1_L1' ih_slices_IndexFunc_api_Node_api_Node_tree_expr_1_L1 p0 o h
    refine CallOK.ofB mixed tbOk slices_IndexFunc_api_Node_api_Node_tree_expr_1_lv Try.func133 rfl (by kernel_rfl) (Nat.le_of_ble_eq_true rfl) rfl rfl rfl ?_
    refine view (lenMap _ _) rfl ?_
    refine st_bind h (fun o1 ho hk => ?_)
    refine Exists.intro (JP2 _ _ o1 (.exit 0) (slices_IndexFunc_api_Node_api_Node_tree_expr_1_L1_x0 p0) .ret (slices_IndexFunc_api_Node_api_Node_tree_expr_1_L1_x1 p0)) (And.intro (T_le (τ := slices_IndexFunc_api_Node_api_Node_tree_expr_1_L1_st p0 0) ?_ (TL.loop (ih_slices_IndexFunc_api_Node_api_Node_tree_expr_1_L1 p0 0 o1 ho))) (join2 (fun y2 hy => ?_) (fun y3 hy => ?_)))
    · exact Le.tow 0 0 rfl (.cons rfl (.refl _) (.cons rfl (.refl _) (.cons rfl (.refl _) (.cons rfl (.refl _) (.nil))))) (.refl _) rfl
    · have h := (by rw [hy] at hk; exact hk)
      refine Exists.intro _ (And.intro (Le.refl _ _ _) ?_)
      exact st_retc (t := t_slices_IndexFunc_api_Node_api_Node_tree_expr_1) (ss := fun o => ⟨[], []⟩) h ⟨[], rfl, .refl _, .refl _, rfl⟩
    · have h := (by rw [hy] at hk; exact hk)
      refine Exists.intro _ (And.intro (Le.refl _ _ _) ?_)
      exact st_retc (t := t_slices_IndexFunc_api_Node_api_Node_tree_expr_1) (ss := fun o => ⟨[], []⟩) h ⟨[], rfl, .refl _, .refl _, rfl⟩
  · intro slices_IndexFunc_api_Node_api_Node_tree_expr_1_L1' tree_expr_1' ih_slices_IndexFunc_api_Node_api_Node_tree_expr_1_L1 ih_tree_expr_1 p0 v8 o1 h
    refine TL.round (bwp_sound mixed tbOk (lv := slices_IndexFunc_api_Node_api_Node_tree_expr_1_lv) _ _ _ ?_)
    refine st_test h (fun hb h => ?_) (fun hb h => ?_)
    · refine st_idx (l := p0) (c := c_api_Node) (c' := l_api_Node) h c_api_Node_eq (fun _ => rfl) (by decide) (fun x4 hi h => ?_)
      refine st_call [.agg [iV x4.Kind, sV x4.Name, sV x4.Text, iV x4.N, .sl false (x4.L.map c_api_Node), .sl false (x4.Then.map c_api_Node), .sl false (x4.Else.map c_api_Node)]] t_tree_expr_1 h (fun x5 hy => (ih_tree_expr_1 x4 x5 hy)) (fun x5 hy h => ?_)
      refine st_test h (fun hb h => ?_) (fun hb h => ?_)
      · exact JP2.b h (Le.tow 0 0 rfl (.cons rfl (.refl _) (.nil)) (.refl _) rfl)
      · refine TL.le (τ := slices_IndexFunc_api_Node_api_Node_tree_expr_1_L1_st p0 (wr (v8 + 1))) ?_ ((ih_slices_IndexFunc_api_Node_api_Node_tree_expr_1_L1 p0 (wr (v8 + 1)) _ h))
        exact Le.tow 0 0 rfl (.cons rfl (.refl _) (.cons rfl (.refl _) (.cons rfl (.refl _) (.cons rfl (.refl _) (.nil))))) (.refl _) rfl
    · exact JP2.a h (Le.tow 0 0 rfl (.nil) (.refl _) rfl)
  · intro tree_expr' ih_tree_expr p0 o h
    refine PCall.ofB mixed tbOk tree_expr_1_lv Try.func124 rfl (by kernel_rfl) (Nat.le_of_ble_eq_true rfl) ?_
    refine st_call [.agg [iV p0.Kind, sV p0.Name, sV p0.Text, iV p0.N, .sl false (p0.L.map c_api_Node), .sl false (p0.Then.map c_api_Node), .sl false (p0.Else.map c_api_Node)]] t_tree_expr h (fun x1 hy => (ih_tree_expr p0 x1 hy)) (fun x1 hy h => ?_)
    refine st_ret (t := t_tree_expr_1) h ?_
    exact .refl _
  · intro slices_ContainsFunc_api_Node_api_Node_tree_expr_1' tree_expr' ih_slices_ContainsFunc_api_Node_api_Node_tree_expr_1 ih_tree_expr p0 o h
    refine PCall.ofB mixed tbOk tree_expr_lv Try.func104 rfl (by kernel_rfl) (Nat.le_of_ble_eq_true rfl) ?_
    refine st_call [.agg [iV p0.Kind, sV p0.Name, sV p0.Text, iV p0.N, .sl false (p0.L.map c_api_Node), .sl false (p0.Then.map c_api_Node), .sl false (p0.Else.map c_api_Node)]] t_tree_planned h (fun x1 hy => (tree_planned_ok p0 x1 hy)) (fun x1 hy h => ?_)
    refine st_test h (fun hb h => ?_) (fun hb h => ?_)
    · refine st_call [sV p0.Text] t_lex_Quote h (fun x2 hy => (lex_Quote_ok p0.Text x2 hy)) (fun x2 hy h => ?_)
      refine st_bind h (fun o3 ho hk => ?_)
      refine Exists.intro (JP1 _ _ o3 .normal (tree_expr_J0_0 p0 x1)) (And.intro ?_ (join1 ?_))
      · have h := ho
        refine st_test h (fun hb h => ?_) (fun hb h => ?_)
        · refine And.intro rfl ?_
          exact JP1.a h (Le.tow 3 0 rfl (.cons rfl (.refl _) (.nil)) (.refl _) rfl)
        · exact JP1.a h (Le.tow 3 0 rfl (.cons rfl (.refl _) (.nil)) (.refl _) rfl)
      · have h := hk
        refine st_ret (t := t_tree_expr) h ?_
        exact .refl _
    · refine st_test h (fun hb h => ?_) (fun hb h => ?_)
      · refine And.intro rfl ?_
        refine st_ret (t := t_tree_expr) h ?_
        exact .refl _
      · refine st_test h (fun hb h => ?_) (fun hb h => ?_)
        · refine st_bind h (fun o4 ho hk => ?_)
          refine Exists.intro (JP1 _ _ o4 .normal (tree_expr_J1_0 p0 x1)) (And.intro ?_ (join1 ?_))
          · have h := ho
            refine st_test h (fun hb h => ?_) (fun hb h => ?_)
            · refine And.intro rfl ?_
              exact JP1.a h (Le.tow 3 0 rfl (.cons rfl (.refl _) (.nil)) (.refl _) rfl)
            · exact JP1.a h (Le.tow 3 0 rfl (.cons rfl (.refl _) (.nil)) (.refl _) rfl)
          · have h := hk
            refine st_ret (t := t_tree_expr) h ?_
            exact .refl _
        · refine st_test h (fun hb h => ?_) (fun hb h => ?_)
          · refine st_bind h (fun o5 ho hk => ?_)
            refine Exists.intro (JP1 _ _ o5 .normal (tree_expr_J2_0 p0 x1)) (And.intro ?_ (join1 ?_))
            · have h := ho
              refine st_call [sV p0.Name] t_tree_Name h (fun x6 hy => (tree_Name_ok p0.Name x6 hy)) (fun x6 hy h => ?_)
              refine st_test h (fun hb h => ?_) (fun hb h => ?_)
              · refine And.intro rfl ?_
                exact JP1.a h (Le.tow 3 0 rfl (.cons rfl (.refl _) (.nil)) (.refl _) rfl)
              · exact JP1.a h (Le.tow 3 0 rfl (.cons rfl (.refl _) (.nil)) (.refl _) rfl)
            · have h := hk
              refine st_ret (t := t_tree_expr) h ?_
              exact .refl _
          · refine st_test h (fun hb h => ?_) (fun hb h => ?_)
            · refine st_bind h (fun o7 ho hk => ?_)
              refine Exists.intro (JP1 _ _ o7 .normal (tree_expr_J3_0 p0 x1)) (And.intro ?_ (join1 ?_))
              · have h := ho
                refine st_call [sV p0.Name] t_lex_Word h (fun x8 hy => (lex_Word_ok p0.Name x8 hy)) (fun x8 hy h => ?_)
                refine st_test h (fun hb h => ?_) (fun hb h => ?_)
                · refine And.intro rfl ?_
                  exact JP1.a h (Le.tow 3 0 rfl (.cons rfl (.refl _) (.nil)) (.refl _) rfl)
                · exact JP1.a h (Le.tow 3 0 rfl (.cons rfl (.refl _) (.nil)) (.refl _) rfl)
              · have h := hk
                refine st_ret (t := t_tree_expr) h ?_
                exact .refl _
            · refine st_test h (fun hb h => ?_) (fun hb h => ?_)
              · refine st_bind h (fun o9 ho hk => ?_)
                refine Exists.intro (JP1 _ _ o9 .normal (tree_expr_J4_0 p0 x1)) (And.intro ?_ (join1 ?_))
                · have h := ho
                  refine st_call [sV p0.Name] t_lex_Word h (fun x10 hy => (lex_Word_ok p0.Name x10 hy)) (fun x10 hy h => ?_)
                  refine st_test h (fun hb h => ?_) (fun hb h => ?_)
                  · refine And.intro rfl ?_
                    refine st_test h (fun hb h => ?_) (fun hb h => ?_)
                    · refine st_idx (l := p0.L) (c := c_api_Node) (c' := l_api_Node) h c_api_Node_eq (fun _ => rfl) (by decide) (fun x11 hi h => ?_)
                      refine st_call [.agg [iV x11.Kind, sV x11.Name, sV x11.Text, iV x11.N, .sl false (x11.L.map c_api_Node), .sl false (x11.Then.map c_api_Node), .sl false (x11.Else.map c_api_Node)]] t_tree_expr h (fun x12 hy => (ih_tree_expr x11 x12 hy)) (fun x12 hy h => ?_)
                      exact JP1.a h (Le.tow 3 0 rfl (.cons rfl (.refl _) (.nil)) (.refl _) rfl)
                    · exact JP1.a h (Le.tow 3 0 rfl (.cons rfl (.refl _) (.nil)) (.refl _) rfl)
                  · refine bF ?_
                    exact JP1.a h (Le.tow 3 0 rfl (.cons rfl (.refl _) (.nil)) (.refl _) rfl)
                · have h := hk
                  refine st_ret (t := t_tree_expr) h ?_
                  exact .refl _
              · refine st_test h (fun hb h => ?_) (fun hb h => ?_)
                · refine st_bind h (fun o13 ho hk => ?_)
                  refine Exists.intro (JP1 _ _ o13 .normal (tree_expr_J5_0 p0 x1)) (And.intro ?_ (join1 ?_))
                  · have h := ho
                    refine st_call [sV p0.Name] t_tree_Name h (fun x14 hy => (tree_Name_ok p0.Name x14 hy)) (fun x14 hy h => ?_)
                    refine st_test h (fun hb h => ?_) (fun hb h => ?_)
                    · refine And.intro rfl ?_
                      refine st_test h (fun hb h => ?_) (fun hb h => ?_)
                      · refine st_callc _ _ h (fun x15 hy => ((ih_slices_ContainsFunc_api_Node_api_Node_tree_expr_1 p0.L x15 hy).fr [] [] rfl rfl rfl)) (fun x15 hy h => ?_)
                        exact JP1.a h (Le.tow 3 0 rfl (.cons rfl (.refl _) (.nil)) (.refl _) rfl)
                      · exact JP1.a h (Le.tow 3 0 rfl (.cons rfl (.refl _) (.nil)) (.refl _) rfl)
                    · refine bF ?_
                      exact JP1.a h (Le.tow 3 0 rfl (.cons rfl (.refl _) (.nil)) (.refl _) rfl)
                  · have h := hk
                    refine st_ret (t := t_tree_expr) h ?_
                    exact .refl _
                · refine st_ret (t := t_tree_expr) h ?_
                  exact .refl _
theorem tree_expr_ok : ∀ (p0 : api_Node) (o : Bool), tree_expr p0 = some o → PCall Try.prog 104 [.agg [iV p0.Kind, sV p0.Name, sV p0.Text, iV p0.N, .sl false (p0.L.map c_api_Node), .sl false (p0.Then.map c_api_Node), .sl false (p0.Else.map c_api_Node)]] (t_tree_expr o) := fun p0 o h => slices_ContainsFunc_api_Node_api_Node_tree_expr_1_grp.2.2.2.2 p0 o h
mutual
noncomputable def tree_block (p0 : (List api_Node)) (p1 : Bool) : Option (Bool) :=
  (tree_block_L1 p0 p1 0) >>= fun o1 =>
  match o1 with
  | .inl y2 =>
    some true
  | .inr y3 =>
    some false
  partial_fixpoint
noncomputable def tree_block_L1 (p0 : (List api_Node)) (p1 : Bool) (v10 : Int) : Option (Unit ⊕ Unit) :=
  if (decide (v10 < (p0.length : Int))) then
    idx p0 v10 >>= fun x4 =>
    tree_stmt x4 >>= fun x5 =>
    if (!x5) then
      some (.inr ())
    else
      ( if (x4.Kind == 8) then
          if (!(v10 == (wr ((p0.length : Int) - 1)))) then
            idx p0 (wr (v10 + 1)) >>= fun x7 =>
            if (x7.Kind == 8) then
              some true
            else
              if (v10 == (wr ((p0.length : Int) - 1))) then
                if (!p1) then
                  strings_HasSuffix x4.Text [123] >>= fun x8 =>
                  some x8
                else
                  some false
              else
                strings_HasSuffix x4.Text [123] >>= fun x9 =>
                some x9
          else
            if (v10 == (wr ((p0.length : Int) - 1))) then
              if (!p1) then
                strings_HasSuffix x4.Text [123] >>= fun x10 =>
                some x10
              else
                some false
            else
              strings_HasSuffix x4.Text [123] >>= fun x11 =>
              some x11
        else
          some false : Option (Bool)) >>= fun o6 =>
      if o6 then
        some (.inr ())
      else
        tree_block_L1 p0 p1 (wr (v10 + 1))
  else
    some (.inl ())
  partial_fixpoint
noncomputable def tree_stmt (p0 : api_Node) : Option (Bool) :=
  tree_planned p0 >>= fun x1 =>
  ( if (p0.Kind == 8) then
      ( if ((x1.name_ == false) && ((x1.text_ == true) && ((x1.num_ == false) && ((x1.then_ == false) && ((x1.other_ == false) && ((x1.l_ == 0) && true)))))) then
          strings_Contains p0.Text [123, 123] >>= fun x6 =>
          some (!x6)
        else
          some false : Option (Bool)) >>= fun o5 =>
      some (.inr o5)
    else
      if (p0.Kind == 9) then
        some (.inl (false, false, false))
      else
        if (p0.Kind == 10) then
          some (.inl (false, x1.then_, x1.other_))
        else
          ( if (p0.Kind == 11) then
              some (p0.Kind == 11)
            else
              some (p0.Kind == 12) : Option (Bool)) >>= fun o7 =>
          if o7 then
            tree_Name p0.Name >>= fun x8 =>
            some (.inl (x8, x1.then_, false))
          else
            if (p0.Kind == 13) then
              tree_Name p0.Name >>= fun x9 =>
              some (.inl (x9, false, false))
            else
              some (.inr false) : Option ((Bool × Bool × Bool) ⊕ Bool)) >>= fun o2 =>
  match o2 with
  | .inl y3 =>
    ( if (p0.Kind == 11) then
        some true
      else
        if (p0.Kind == 12) then
          some true
        else
          some (p0.Kind == 13) : Option (Bool)) >>= fun o10 =>
    ( if (y3.1 == o10) then
        if ((x1.name_ == y3.1) && ((x1.text_ == false) && ((x1.num_ == false) && ((x1.then_ == y3.2.1) && ((x1.other_ == y3.2.2) && ((x1.l_ == 1) && true)))))) then
          idx p0.L 0 >>= fun x12 =>
          tree_expr x12 >>= fun x13 =>
          if x13 then
            tree_block p0.Then false >>= fun x14 =>
            if x14 then
              tree_block p0.Else false >>= fun x15 =>
              some x15
            else
              some false
          else
            some false
        else
          some false
      else
        some false : Option (Bool)) >>= fun o11 =>
    some o11
  | .inr y4 =>
    some y4
  partial_fixpoint
end
set_option maxRecDepth 100000 in
set_option maxHeartbeats 4000000 in
theorem tree_block_grp : (∀ (p0 : (List api_Node)) (p1 : Bool) (o : Bool), tree_block p0 p1 = some o → PCall Try.prog 47 [.sl false (p0.map c_api_Node), bV p1] (t_tree_block o)) ∧ (∀ (p0 : (List api_Node)) (p1 : Bool) (v10 : Int) (o1 : Unit ⊕ Unit), tree_block_L1 p0 p1 v10 = some o1 → TL (0, 0) Try.prog 52 tree_block_L1_c (JP2 (0, 0) 52 o1 (.exit 0) (tree_block_L1_x0 p0 p1) .ret (tree_block_L1_x1 p0 p1)) (tree_block_L1_st p0 p1 v10)) ∧ (∀ (p0 : api_Node) (o : Bool), tree_stmt p0 = some o → PCall Try.prog 77 [.agg [iV p0.Kind, sV p0.Name, sV p0.Text, iV p0.N, .sl false (p0.L.map c_api_Node), .sl false (p0.Then.map c_api_Node), .sl false (p0.Else.map c_api_Node)]] (t_tree_stmt o)) := by
  refine tree_block.mutual_partial_correctness _ _ _ ?_ ?_ ?_
  · intro tree_block_L1' ih_tree_block_L1 p0 p1 o h
    refine PCall.ofB mixed tbOk tree_block_lv Try.func47 rfl (by kernel_rfl) (Nat.le_of_ble_eq_true rfl) ?_
    refine view (lenMap _ _) rfl ?_
    refine st_bind h (fun o1 ho hk => ?_)
    refine Exists.intro (JP2 _ _ o1 (.exit 0) (tree_block_L1_x0 p0 p1) .ret (tree_block_L1_x1 p0 p1)) (And.intro (T_le (τ := tree_block_L1_st p0 p1 0) ?_ (TL.loop (ih_tree_block_L1 p0 p1 0 o1 ho))) (join2 (fun y2 hy => ?_) (fun y3 hy => ?_)))
    · exact Le.tow 0 0 rfl (.cons rfl (.refl _) (.cons rfl (.refl _) (.cons rfl (.refl _) (.cons rfl (.refl _) (.cons rfl (.refl _) (.nil)))))) (.refl _) rfl
    · have h := (by rw [hy] at hk; exact hk)
      refine st_ret (t := t_tree_block) h ?_
      exact .refl _
    · have h := (by rw [hy] at hk; exact hk)
      refine st_ret (t := t_tree_block) h ?_
      exact .refl _
  · intro tree_block_L1' tree_stmt' ih_tree_block_L1 ih_tree_stmt p0 p1 v10 o1 h
    refine TL.round (bwp_sound mixed tbOk (lv := tree_block_lv) _ _ _ ?_)
    refine st_test h (fun hb h => ?_) (fun hb h => ?_)
    · refine st_idx (l := p0) (c := c_api_Node) (c' := l_api_Node) h c_api_Node_eq (fun _ => rfl) (by decide) (fun x4 hi h => ?_)
      refine st_call [.agg [iV x4.Kind, sV x4.Name, sV x4.Text, iV x4.N, .sl false (x4.L.map c_api_Node), .sl false (x4.Then.map c_api_Node), .sl false (x4.Else.map c_api_Node)]] t_tree_stmt h (fun x5 hy => (ih_tree_stmt x4 x5 hy)) (fun x5 hy h => ?_)
      refine st_test h (fun hb h => ?_) (fun hb h => ?_)
      · exact JP2.b h (Le.tow 0 0 rfl (.cons rfl (.refl _) (.nil)) (.refl _) rfl)
      · refine view (lenMap _ _) rfl ?_
        refine st_bind h (fun o6 ho hk => ?_)
        refine Exists.intro (JP1 _ _ o6 .normal (tree_block_J0_0 p0 p1 v10 x4)) (And.intro ?_ (join1 ?_))
        · have h := ho
          refine st_test h (fun hb h => ?_) (fun hb h => ?_)
          · refine st_test h (fun hb h => ?_) (fun hb h => ?_)
            · refine st_idx (l := p0) (c := c_api_Node) (c' := l_api_Node) h c_api_Node_eq (fun _ => rfl) (by decide) (fun x7 hi h => ?_)
              refine st_test h (fun hb h => ?_) (fun hb h => ?_)
              · exact JP1.a h (Le.tow 1 0 rfl (.cons rfl (.refl _) (.cons rfl (.refl _) (.cons rfl (.refl _) (.cons rfl (.refl _) (.cons rfl (.refl _) (.cons rfl (.refl _) (.nil))))))) (.refl _) rfl)
              · refine st_test h (fun hb h => ?_) (fun hb h => ?_)
                · refine st_test h (fun hb h => ?_) (fun hb h => ?_)
                  · refine st_call [sV x4.Text, sV [123]] t_strings_HasSuffix h (fun x8 hy => (strings_HasSuffix_ok x4.Text [123] x8 hy)) (fun x8 hy h => ?_)
                    exact JP1.a h (Le.tow 1 0 rfl (.cons rfl (.refl _) (.cons rfl (.refl _) (.cons rfl (.refl _) (.cons rfl (.refl _) (.cons rfl (.refl _) (.cons rfl (.refl _) (.nil))))))) (.refl _) rfl)
                  · exact JP1.a h (Le.tow 1 0 rfl (.cons rfl (.refl _) (.cons rfl (.refl _) (.cons rfl (.refl _) (.cons rfl (.refl _) (.cons rfl (.refl _) (.cons rfl (.refl _) (.nil))))))) (.refl _) rfl)
                · refine bT ?_
                  refine st_call [sV x4.Text, sV [123]] t_strings_HasSuffix h (fun x9 hy => (strings_HasSuffix_ok x4.Text [123] x9 hy)) (fun x9 hy h => ?_)
                  exact JP1.a h (Le.tow 1 0 rfl (.cons rfl (.refl _) (.cons rfl (.refl _) (.cons rfl (.refl _) (.cons rfl (.refl _) (.cons rfl (.refl _) (.cons rfl (.refl _) (.nil))))))) (.refl _) rfl)
            · refine bF ?_
              refine st_test h (fun hb h => ?_) (fun hb h => ?_)
              · refine st_test h (fun hb h => ?_) (fun hb h => ?_)
                · refine st_call [sV x4.Text, sV [123]] t_strings_HasSuffix h (fun x10 hy => (strings_HasSuffix_ok x4.Text [123] x10 hy)) (fun x10 hy h => ?_)
                  exact JP1.a h (Le.tow 1 0 rfl (.cons rfl (.refl _) (.cons rfl (.refl _) (.cons rfl (.refl _) (.cons rfl (.refl _) (.cons rfl (.refl _) (.cons rfl (.refl _) (.nil))))))) (.refl _) rfl)
                · exact JP1.a h (Le.tow 1 0 rfl (.cons rfl (.refl _) (.cons rfl (.refl _) (.cons rfl (.refl _) (.cons rfl (.refl _) (.cons rfl (.refl _) (.cons rfl (.refl _) (.nil))))))) (.refl _) rfl)
              · refine bT ?_
                refine st_call [sV x4.Text, sV [123]] t_strings_HasSuffix h (fun x11 hy => (strings_HasSuffix_ok x4.Text [123] x11 hy)) (fun x11 hy h => ?_)
                exact JP1.a h (Le.tow 1 0 rfl (.cons rfl (.refl _) (.cons rfl (.refl _) (.cons rfl (.refl _) (.cons rfl (.refl _) (.cons rfl (.refl _) (.cons rfl (.refl _) (.nil))))))) (.refl _) rfl)
          · exact JP1.a h (Le.tow 1 0 rfl (.cons rfl (.refl _) (.cons rfl (.refl _) (.cons rfl (.refl _) (.cons rfl (.refl _) (.cons rfl (.refl _) (.cons rfl (.refl _) (.nil))))))) (.refl _) rfl)
        · have h := hk
          refine st_test h (fun hb h => ?_) (fun hb h => ?_)
          · exact JP2.b h (Le.tow 0 0 rfl (.cons rfl (.refl _) (.nil)) (.refl _) rfl)
          · refine TL.le (τ := tree_block_L1_st p0 p1 (wr (v10 + 1))) ?_ ((ih_tree_block_L1 p0 p1 (wr (v10 + 1)) _ h))
            exact Le.tow 0 0 rfl (.cons rfl (.refl _) (.cons rfl (.refl _) (.cons rfl (.refl _) (.cons rfl (.refl _) (.cons rfl (.refl _) (.nil)))))) (.refl _) rfl
    · exact JP2.a h (Le.tow 0 0 rfl (.nil) (.refl _) rfl)
  · intro tree_block' ih_tree_block p0 o h
    refine PCall.ofB mixed tbOk tree_stmt_lv Try.func77 rfl (by kernel_rfl) (Nat.le_of_ble_eq_true rfl) ?_
    refine st_call [.agg [iV p0.Kind, sV p0.Name, sV p0.Text, iV p0.N, .sl false (p0.L.map c_api_Node), .sl false (p0.Then.map c_api_Node), .sl false (p0.Else.map c_api_Node)]] t_tree_planned h (fun x1 hy => (tree_planned_ok p0 x1 hy)) (fun x1 hy h => ?_)
    refine st_bind h (fun o2 ho hk => ?_)
    refine Exists.intro (JP2 _ _ o2 .normal (tree_stmt_J0_0 p0 x1) .ret (tree_stmt_J0_1 p0 x1)) (And.intro ?_ (join2 (fun y3 hy => ?_) (fun y4 hy => ?_)))
    · have h := ho
      refine st_test h (fun hb h => ?_) (fun hb h => ?_)
      · refine st_bind h (fun o5 ho hk => ?_)
        refine Exists.intro (JP1 _ _ o5 .normal (tree_stmt_J1_0 p0 x1)) (And.intro ?_ (join1 ?_))
        · have h := ho
          refine And.intro rfl ?_
          refine st_test h (fun hb h => ?_) (fun hb h => ?_)
          · refine st_call [sV p0.Text, sV [123, 123]] t_strings_Contains h (fun x6 hy => (strings_Contains_ok p0.Text [123, 123] x6 hy)) (fun x6 hy h => ?_)
            exact JP1.a h (Le.tow 3 0 rfl (.cons rfl (.refl _) (.nil)) (.refl _) rfl)
          · exact JP1.a h (Le.tow 3 0 rfl (.cons rfl (.refl _) (.nil)) (.refl _) rfl)
        · have h := hk
          exact JP2.b h (Le.tow 3 0 rfl (.cons rfl (.refl _) (.nil)) (.refl _) rfl)
      · refine st_test h (fun hb h => ?_) (fun hb h => ?_)
        · exact JP2.a h (Le.tow 3 0 rfl (.cons rfl (.refl _) (.cons rfl (.refl _) (.cons rfl (.refl _) (.nil)))) (.refl _) rfl)
        · refine st_test h (fun hb h => ?_) (fun hb h => ?_)
          · refine And.intro (by decide +kernel) (And.intro rfl ?_)
            exact JP2.a h (Le.tow 3 0 rfl (.cons rfl (.refl _) (.cons rfl (.refl _) (.cons rfl (.refl _) (.nil)))) (.refl _) rfl)
          · refine st_bind h (fun o7 ho hk => ?_)
            refine Exists.intro (JP1 _ _ o7 .normal (tree_stmt_J2_0 p0 x1)) (And.intro ?_ (join1 ?_))
            · have h := ho
              refine st_test h (fun hb h => ?_) (fun hb h => ?_)
              · exact JP1.a h (Le.tow 3 0 rfl (.cons rfl (.refl _) (.cons rfl (.refl _) (.cons rfl (.refl _) (.cons rfl (.refl _) (.cons rfl (.refl _) (.nil)))))) (.refl _) rfl)
              · exact JP1.a h (Le.tow 3 0 rfl (.cons rfl (.refl _) (.cons rfl (.refl _) (.cons rfl (.refl _) (.cons rfl (.refl _) (.cons rfl (.refl _) (.nil)))))) (.refl _) rfl)
            · have h := hk
              refine st_test h (fun hb h => ?_) (fun hb h => ?_)
              · refine And.intro (by decide +kernel) (And.intro rfl ?_)
                refine st_calld [sV p0.Name] t_tree_Name h (fun x8 hy => (tree_Name_ok p0.Name x8 hy)) (fun x8 hy h => ?_)
                exact JP2.a h (Le.tow 3 0 rfl (.cons rfl (.refl _) (.cons rfl (.refl _) (.cons rfl (.refl _) (.nil)))) (.refl _) rfl)
              · refine st_test h (fun hb h => ?_) (fun hb h => ?_)
                · refine st_call [sV p0.Name] t_tree_Name h (fun x9 hy => (tree_Name_ok p0.Name x9 hy)) (fun x9 hy h => ?_)
                  exact JP2.a h (Le.tow 3 0 rfl (.cons rfl (.refl _) (.cons rfl (.refl _) (.cons rfl (.refl _) (.nil)))) (.refl _) rfl)
                · exact JP2.b h (Le.tow 3 0 rfl (.cons rfl (.refl _) (.nil)) (.refl _) rfl)
    · have h := (by rw [hy] at hk; exact hk)
      refine st_bind h (fun o10 ho hk => ?_)
      refine Exists.intro (JP1 _ _ o10 .normal (tree_stmt_J3_0 p0 x1 y3)) (And.intro ?_ (join1 ?_))
      · have h := ho
        refine st_test h (fun hb h => ?_) (fun hb h => ?_)
        · refine bT ?_
          exact JP1.a h (Le.tow 3 0 rfl (.cons rfl (.refl _) (.cons rfl (.refl _) (.cons rfl (.refl _) (.cons rfl (.refl _) (.nil))))) (.refl _) rfl)
        · refine st_test h (fun hb h => ?_) (fun hb h => ?_)
          · exact JP1.a h (Le.tow 3 0 rfl (.cons rfl (.refl _) (.cons rfl (.refl _) (.cons rfl (.refl _) (.cons rfl (.refl _) (.nil))))) (.refl _) rfl)
          · exact JP1.a h (Le.tow 3 0 rfl (.cons rfl (.refl _) (.cons rfl (.refl _) (.cons rfl (.refl _) (.cons rfl (.refl _) (.nil))))) (.refl _) rfl)
      · have h := hk
        refine st_bind h (fun o11 ho hk => ?_)
        refine Exists.intro (JP1 _ _ o11 .normal (tree_stmt_J4_0 p0 x1 y3)) (And.intro ?_ (join1 ?_))
        · have h := ho
          refine st_test h (fun hb h => ?_) (fun hb h => ?_)
          · refine And.intro rfl ?_
            refine st_test h (fun hb h => ?_) (fun hb h => ?_)
            · refine st_idx (l := p0.L) (c := c_api_Node) (c' := l_api_Node) h c_api_Node_eq (fun _ => rfl) (by decide) (fun x12 hi h => ?_)
              refine st_call [.agg [iV x12.Kind, sV x12.Name, sV x12.Text, iV x12.N, .sl false (x12.L.map c_api_Node), .sl false (x12.Then.map c_api_Node), .sl false (x12.Else.map c_api_Node)]] t_tree_expr h (fun x13 hy => (tree_expr_ok x12 x13 hy)) (fun x13 hy h => ?_)
              refine st_test h (fun hb h => ?_) (fun hb h => ?_)
              · refine st_call [.sl false (p0.Then.map c_api_Node), bV false] t_tree_block h (fun x14 hy => (ih_tree_block p0.Then false x14 hy)) (fun x14 hy h => ?_)
                refine st_test h (fun hb h => ?_) (fun hb h => ?_)
                · refine st_call [.sl false (p0.Else.map c_api_Node), bV false] t_tree_block h (fun x15 hy => (ih_tree_block p0.Else false x15 hy)) (fun x15 hy h => ?_)
                  exact JP1.a h (Le.tow 3 0 rfl (.cons rfl (.refl _) (.nil)) (.refl _) rfl)
                · exact JP1.a h (Le.tow 3 0 rfl (.cons rfl (.refl _) (.nil)) (.refl _) rfl)
              · refine bF ?_
                exact JP1.a h (Le.tow 3 0 rfl (.cons rfl (.refl _) (.nil)) (.refl _) rfl)
            · refine bF ?_
              refine bF ?_
              exact JP1.a h (Le.tow 3 0 rfl (.cons rfl (.refl _) (.nil)) (.refl _) rfl)
          · refine bF ?_
            refine bF ?_
            refine bF ?_
            exact JP1.a h (Le.tow 3 0 rfl (.cons rfl (.refl _) (.nil)) (.refl _) rfl)
        · have h := hk
          refine st_ret (t := t_tree_stmt) h ?_
          exact .refl _
    · have h := (by rw [hy] at hk; exact hk)
      refine st_ret (t := t_tree_stmt) h ?_
      exact .refl _
theorem tree_block_ok : ∀ (p0 : (List api_Node)) (p1 : Bool) (o : Bool), tree_block p0 p1 = some o → PCall Try.prog 47 [.sl false (p0.map c_api_Node), bV p1] (t_tree_block o) := fun p0 p1 o h => tree_block_grp.1 p0 p1 o h
noncomputable def tree_Is (p0 : (List api_Node)) : Option (Bool) :=
  ( tree_Deep p0 >>= fun x2 =>
    if (decide (x2 ≤ 12)) then
      tree_Count p0 >>= fun x3 =>
      if (decide (x3 ≤ 1024)) then
        tree_block p0 true >>= fun x4 =>
        some x4
      else
        some false
    else
      some false : Option (Bool)) >>= fun o1 =>
  some o1
set_option maxRecDepth 100000 in
set_option maxHeartbeats 4000000 in
theorem tree_Is_ok : ∀ (p0 : (List api_Node)) (o : Bool), tree_Is p0 = some o → PCall Try.prog 19 [.sl false (p0.map c_api_Node)] (t_tree_Is o) := by
  intro p0 o h
  unfold tree_Is at h
  refine PCall.ofB mixed tbOk tree_Is_lv Try.func19 rfl (by kernel_rfl) (Nat.le_of_ble_eq_true rfl) ?_
  refine st_bind h (fun o1 ho hk => ?_)
  refine Exists.intro (JP1 _ _ o1 .normal (tree_Is_J0_0 )) (And.intro ?_ (join1 ?_))
  · have h := ho
    refine st_call [.sl false (p0.map c_api_Node)] t_tree_Deep h (fun x2 hy => (tree_Deep_ok p0 x2 hy)) (fun x2 hy h => ?_)
    refine st_test h (fun hb h => ?_) (fun hb h => ?_)
    · refine st_call [.sl false (p0.map c_api_Node)] t_tree_Count h (fun x3 hy => (tree_Count_ok p0 x3 hy)) (fun x3 hy h => ?_)
      refine st_test h (fun hb h => ?_) (fun hb h => ?_)
      · refine st_call [.sl false (p0.map c_api_Node), bV true] t_tree_block h (fun x4 hy => (tree_block_ok p0 true x4 hy)) (fun x4 hy h => ?_)
        exact JP1.a h (Le.tow 0 0 rfl (.cons rfl (.refl _) (.nil)) (.refl _) rfl)
      · exact JP1.a h (Le.tow 0 0 rfl (.cons rfl (.refl _) (.nil)) (.refl _) rfl)
    · refine bF ?_
      exact JP1.a h (Le.tow 0 0 rfl (.cons rfl (.refl _) (.nil)) (.refl _) rfl)
  · have h := hk
    refine st_ret (t := t_tree_Is) h ?_
    exact .refl _
noncomputable def octet_Text (p0 : Int) : Option ((List UInt8)) :=
  need (-9223372036854775808 ≤ p0) >>= fun _ =>
  need (p0 ≤ 9223372036854775807) >>= fun _ =>
  some (textL p0)
set_option maxRecDepth 100000 in
set_option maxHeartbeats 4000000 in
theorem octet_Text_ok : ∀ (p0 : Int) (o : (List UInt8)), octet_Text p0 = some o → PCall Try.prog 126 [iV p0] (t_octet_Text o) := by
  intro p0 o h
  unfold octet_Text at h
  obtain ⟨h1, h⟩ := need_some h
  obtain ⟨h2, h⟩ := need_some h
  cases h
  exact text_ok _ h1 h2
noncomputable def strings_Builder_copyCheck_2 (h0_0 : Bool) (h0_1 : (List Int)) : Option (Bool) :=
  some true
set_option maxRecDepth 100000 in
set_option maxHeartbeats 4000000 in
theorem strings_Builder_copyCheck_2_ok : ∀ (h0_0 : Bool) (h0_1 : (List Int)) (o : Bool), strings_Builder_copyCheck_2 h0_0 h0_1 = some o → CallOK Try.prog 76 [.ptr 0 0] ⟨[[.sp Try.prog 67 h0_0 0 0, .own 0 5 1 (h0_1.map (cNum .u8))]], [(h0_1.map (cNum .u8)).length]⟩ (t_strings_Builder_copyCheck_2 o) ⟨[[.sp Try.prog 67 o 0 0, .own 0 5 1 (h0_1.map (cNum .u8))]], [(h0_1.map (cNum .u8)).length]⟩ := by
  intro h0_0 h0_1 o h
  unfold strings_Builder_copyCheck_2 at h
  cases h
  exact copyCheck_ok [[.sp Try.prog 67 h0_0 0 0, .own 0 5 1 (h0_1.map (cNum .u8))]] _ 0 [.sp Try.prog 67 h0_0 0 0, .own 0 5 1 (h0_1.map (cNum .u8))] rfl rfl
noncomputable def strings_Builder_WriteString_2 (p1 : (List UInt8)) (h0_0 : Bool) (h0_1 : (List Int)) : Option (Int × Unit × Bool × (List Int)) :=
  strings_Builder_copyCheck_2 h0_0 h0_1 >>= fun x1 =>
  appL 1 h0_1 (s2b p1) >>= fun x2 =>
  some ((p1.length : Int), (), x1, x2)
set_option maxRecDepth 100000 in
set_option maxHeartbeats 4000000 in
theorem strings_Builder_WriteString_2_ok : ∀ (p1 : (List UInt8)) (h0_0 : Bool) (h0_1 : (List Int)) (o : Int × Unit × Bool × (List Int)), strings_Builder_WriteString_2 p1 h0_0 h0_1 = some o → CallOK Try.prog 44 [.ptr 0 0, .p (sV p1)] ⟨[[.sp Try.prog 67 h0_0 0 0, .own 0 5 1 (h0_1.map (cNum .u8))]], [(h0_1.map (cNum .u8)).length]⟩ (t_strings_Builder_WriteString_2 o) ⟨[[.sp Try.prog 67 o.2.2.1 0 0, .own 0 5 1 (o.2.2.2.map (cNum .u8))]], [(o.2.2.2.map (cNum .u8)).length]⟩ := by
  intro p1 h0_0 h0_1 o h
  unfold strings_Builder_WriteString_2 at h
  refine CallOK.ofB mixed tbOk strings_Builder_WriteString_2_lv Try.func44 rfl (by kernel_rfl) (Nat.le_of_ble_eq_true rfl) rfl rfl rfl ?_
  refine st_callc _ _ h (fun x1 hy => ((strings_Builder_copyCheck_2_ok h0_0 h0_1 x1 hy).fr [0] [0] rfl rfl rfl)) (fun x1 hy h => ?_)
  refine st_appso (a := h0_1) (b := p1) h rfl (fun x2 hi h => ?_)
  refine vrfl ?_
  refine Exists.intro _ (And.intro (Le.refl _ _ _) ?_)
  exact st_retc (t := t_strings_Builder_WriteString_2) (ss := fun o => ⟨[[.sp Try.prog 67 o.2.2.1 0 0, .own 0 5 1 (o.2.2.2.map (cNum .u8))]], [(o.2.2.2.map (cNum .u8)).length]⟩) h ⟨[0], rfl, .refl _, .refl _, rfl⟩
noncomputable def tree_printer_put_2_L1 (p1 : (List (List UInt8))) (v8 : Int) (h0_0_ : Bool) (h0_1_ : (List Int)) : Option ((Bool × (List Int))) :=
  if (decide (v8 < (p1.length : Int))) then
    idx p1 v8 >>= fun x2 =>
    strings_Builder_WriteString_2 x2 h0_0_ h0_1_ >>= fun x3 =>
    tree_printer_put_2_L1 p1 (wr (v8 + 1)) x3.2.2.1 x3.2.2.2
  else
    some (h0_0_, h0_1_)
  partial_fixpoint
set_option maxRecDepth 100000 in
set_option maxHeartbeats 4000000 in
theorem tree_printer_put_2_L1_grp : ∀ (p1 : (List (List UInt8))), (∀ (v8 : Int) (h0_0_ : Bool) (h0_1_ : (List Int)) (o1 : (Bool × (List Int))), tree_printer_put_2_L1 p1 v8 h0_0_ h0_1_ = some o1 → TL (1, 1) Try.prog 18 tree_printer_put_2_L1_c (JP1 (1, 1) 18 o1 (.exit 0) (tree_printer_put_2_L1_x0 p1)) (tree_printer_put_2_L1_st p1 v8 h0_0_ h0_1_)) := by
  intro p1
  refine tree_printer_put_2_L1.partial_correctness p1 _ ?_
  intro tree_printer_put_2_L1' ih_tree_printer_put_2_L1 v8 h0_0_ h0_1_ o1 h
  refine TL.round (bwp_sound mixed tbOk (lv := tree_printer_put_2_lv) _ _ _ ?_)
  refine st_test h (fun hb h => ?_) (fun hb h => ?_)
  · refine st_idx (l := p1) (c := cStr) (c' := cStr) h (fun _ => rfl) (fun _ => rfl) (by decide) (fun x2 hi h => ?_)
    refine st_callc _ _ h (fun x3 hy => ((strings_Builder_WriteString_2_ok x2 h0_0_ h0_1_ x3 hy).fr [0] [0] rfl rfl rfl)) (fun x3 hy h => ?_)
    refine TL.le (τ := tree_printer_put_2_L1_st p1 (wr (v8 + 1)) x3.2.2.1 x3.2.2.2) ?_ ((ih_tree_printer_put_2_L1 (wr (v8 + 1)) x3.2.2.1 x3.2.2.2 _ h))
    exact Le.tow 1 1 rfl (.cons rfl (.refl _) (.cons rfl (.refl _) (.cons rfl (.refl _) (.cons rfl (.refl _) (.nil))))) (.refl _) rfl
  · exact JP1.a h (Le.tow 1 1 rfl (.nil) (.refl _) rfl)
theorem tree_printer_put_2_L1_ok : ∀ (p1 : (List (List UInt8))) (v8 : Int) (h0_0_ : Bool) (h0_1_ : (List Int)) (o1 : (Bool × (List Int))), tree_printer_put_2_L1 p1 v8 h0_0_ h0_1_ = some o1 → TL (1, 1) Try.prog 18 tree_printer_put_2_L1_c (JP1 (1, 1) 18 o1 (.exit 0) (tree_printer_put_2_L1_x0 p1)) (tree_printer_put_2_L1_st p1 v8 h0_0_ h0_1_) := fun p1 v8 h0_0_ h0_1_ o1 h => (tree_printer_put_2_L1_grp p1) v8 h0_0_ h0_1_ o1 h
noncomputable def tree_printer_put_2 (p1 : (List (List UInt8))) (h0_0 : Bool) (h0_1 : (List Int)) : Option (Bool × (List Int)) :=
  (tree_printer_put_2_L1 p1 0 h0_0 h0_1) >>= fun o1 =>
  some (o1.1, o1.2)
set_option maxRecDepth 100000 in
set_option maxHeartbeats 4000000 in
theorem tree_printer_put_2_ok : ∀ (p1 : (List (List UInt8))) (h0_0 : Bool) (h0_1 : (List Int)) (o : Bool × (List Int)), tree_printer_put_2 p1 h0_0 h0_1 = some o → CallOK Try.prog 84 [.ptr 0 0, .p (.sl false (p1.map cStr))] ⟨[[.sp Try.prog 67 h0_0 0 0, .own 0 5 1 (h0_1.map (cNum .u8))]], [(h0_1.map (cNum .u8)).length]⟩ (t_tree_printer_put_2 o) ⟨[[.sp Try.prog 67 o.1 0 0, .own 0 5 1 (o.2.map (cNum .u8))]], [(o.2.map (cNum .u8)).length]⟩ := by
  intro p1 h0_0 h0_1 o h
  unfold tree_printer_put_2 at h
  refine CallOK.ofB mixed tbOk tree_printer_put_2_lv Try.func84 rfl (by kernel_rfl) (Nat.le_of_ble_eq_true rfl) rfl rfl rfl ?_
  refine view (lenMap _ _) rfl ?_
  refine st_bind h (fun o1 ho hk => ?_)
  refine Exists.intro (JP1 _ _ o1 (.exit 0) (tree_printer_put_2_L1_x0 p1)) (And.intro (T_le (τ := tree_printer_put_2_L1_st p1 0 h0_0 h0_1) ?_ (TL.loop (tree_printer_put_2_L1_ok p1 0 h0_0 h0_1 o1 ho))) (join1 ?_))
  · exact Le.tow 1 1 rfl (.cons rfl (.refl _) (.cons rfl (.refl _) (.cons rfl (.refl _) (.cons rfl (.refl _) (.nil))))) (.refl _) rfl
  have h := hk
  refine Exists.intro _ (And.intro (Le.refl _ _ _) ?_)
  exact st_retc (t := t_tree_printer_put_2) (ss := fun o => ⟨[[.sp Try.prog 67 o.1 0 0, .own 0 5 1 (o.2.map (cNum .u8))]], [(o.2.map (cNum .u8)).length]⟩) h ⟨[0], rfl, .refl _, .refl _, rfl⟩
mutual
noncomputable def tree_printer_expr_2 (p1 : api_Node) (h0_0 : Bool) (h0_1 : (List Int)) : Option (Bool × (List Int)) :=
  if (p1.Kind == 1) then
    lex_Quote p1.Text >>= fun x1 =>
    tree_printer_put_2 [x1.1] h0_0 h0_1 >>= fun x2 =>
    some (x2.1, x2.2)
  else
    if (p1.Kind == 2) then
      octet_Text p1.N >>= fun x3 =>
      tree_printer_put_2 [x3] h0_0 h0_1 >>= fun x4 =>
      some (x4.1, x4.2)
    else
      if (p1.Kind == 3) then
        if (p1.N == 1) then
          tree_printer_put_2 ([[116, 114, 117, 101]]) h0_0 h0_1 >>= fun x5 =>
          some (x5.1, x5.2)
        else
          tree_printer_put_2 ([[102, 97, 108, 115, 101]]) h0_0 h0_1 >>= fun x6 =>
          some (x6.1, x6.2)
      else
        if (p1.Kind == 4) then
          tree_printer_put_2 [p1.Name] h0_0 h0_1 >>= fun x7 =>
          some (x7.1, x7.2)
        else
          if (p1.Kind == 7) then
            tree_printer_put_2 ([[115, 101, 99, 114, 101, 116, 40, 34], p1.Name, [34, 41]]) h0_0 h0_1 >>= fun x8 =>
            some (x8.1, x8.2)
          else
            if (p1.Kind == 5) then
              idx p1.L 0 >>= fun x9 =>
              tree_printer_expr_2 x9 h0_0 h0_1 >>= fun x10 =>
              tree_printer_put_2 ([[46], p1.Name]) x10.1 x10.2 >>= fun x11 =>
              some (x11.1, x11.2)
            else
              if (p1.Kind == 6) then
                tree_printer_put_2 ([p1.Name, [40]]) h0_0 h0_1 >>= fun x12 =>
                (tree_printer_expr_2_L1 p1 0 x12.1 x12.2) >>= fun o13 =>
                tree_printer_put_2 ([[41]]) o13.1 o13.2 >>= fun x18 =>
                some (x18.1, x18.2)
              else
                some (h0_0, h0_1)
  partial_fixpoint
noncomputable def tree_printer_expr_2_L1 (p1 : api_Node) (v78 : Int) (h0_0_ : Bool) (h0_1_ : (List Int)) : Option ((Bool × (List Int))) :=
  if (decide (v78 < (p1.L.length : Int))) then
    idx p1.L v78 >>= fun x14 =>
    if (decide (v78 > 0)) then
      tree_printer_put_2 ([[44, 32]]) h0_0_ h0_1_ >>= fun x15 =>
      tree_printer_expr_2 x14 x15.1 x15.2 >>= fun x16 =>
      tree_printer_expr_2_L1 p1 (wr (v78 + 1)) x16.1 x16.2
    else
      tree_printer_expr_2 x14 h0_0_ h0_1_ >>= fun x17 =>
      tree_printer_expr_2_L1 p1 (wr (v78 + 1)) x17.1 x17.2
  else
    some (h0_0_, h0_1_)
  partial_fixpoint
end
set_option maxRecDepth 100000 in
set_option maxHeartbeats 4000000 in
theorem tree_printer_expr_2_grp : (∀ (p1 : api_Node) (h0_0 : Bool) (h0_1 : (List Int)) (o : Bool × (List Int)), tree_printer_expr_2 p1 h0_0 h0_1 = some o → CallOK Try.prog 110 [.ptr 0 0, .p (.agg [iV p1.Kind, sV p1.Name, sV p1.Text, iV p1.N, .sl false (p1.L.map c_api_Node), .sl false (p1.Then.map c_api_Node), .sl false (p1.Else.map c_api_Node)])] ⟨[[.sp Try.prog 67 h0_0 0 0, .own 0 5 1 (h0_1.map (cNum .u8))]], [(h0_1.map (cNum .u8)).length]⟩ (t_tree_printer_expr_2 o) ⟨[[.sp Try.prog 67 o.1 0 0, .own 0 5 1 (o.2.map (cNum .u8))]], [(o.2.map (cNum .u8)).length]⟩) ∧ (∀ (p1 : api_Node) (v78 : Int) (h0_0_ : Bool) (h0_1_ : (List Int)) (o13 : (Bool × (List Int))), tree_printer_expr_2_L1 p1 v78 h0_0_ h0_1_ = some o13 → TL (1, 1) Try.prog 95 tree_printer_expr_2_L1_c (JP1 (1, 1) 95 o13 (.exit 1) (tree_printer_expr_2_L1_x0 p1)) (tree_printer_expr_2_L1_st p1 v78 h0_0_ h0_1_)) := by
  refine tree_printer_expr_2.mutual_partial_correctness _ _ ?_ ?_
  · intro tree_printer_expr_2' tree_printer_expr_2_L1' ih_tree_printer_expr_2 ih_tree_printer_expr_2_L1 p1 h0_0 h0_1 o h
    refine CallOK.ofB mixed tbOk tree_printer_expr_2_lv Try.func110 rfl (by kernel_rfl) (Nat.le_of_ble_eq_true rfl) rfl rfl rfl ?_
    refine st_test h (fun hb h => ?_) (fun hb h => ?_)
    · refine st_call [sV p1.Text] t_lex_Quote h (fun x1 hy => (lex_Quote_ok p1.Text x1 hy)) (fun x1 hy h => ?_)
      refine st_callc _ _ h (fun x2 hy => ((tree_printer_put_2_ok [x1.1] h0_0 h0_1 x2 hy).fr [0] [0] rfl rfl rfl).weakC (.cons (.refl _) (.cons (.p (.not)) (.nil)))) (fun x2 hy h => ?_)
      refine Exists.intro _ (And.intro (Le.refl _ _ _) ?_)
      exact st_retc (t := t_tree_printer_expr_2) (ss := fun o => ⟨[[.sp Try.prog 67 o.1 0 0, .own 0 5 1 (o.2.map (cNum .u8))]], [(o.2.map (cNum .u8)).length]⟩) h ⟨[0], rfl, .refl _, .refl _, rfl⟩
    · refine st_test h (fun hb h => ?_) (fun hb h => ?_)
      · refine st_call [iV p1.N] t_octet_Text h (fun x3 hy => (octet_Text_ok p1.N x3 hy)) (fun x3 hy h => ?_)
        refine st_callc _ _ h (fun x4 hy => ((tree_printer_put_2_ok [x3] h0_0 h0_1 x4 hy).fr [0] [0] rfl rfl rfl).weakC (.cons (.refl _) (.cons (.p (.not)) (.nil)))) (fun x4 hy h => ?_)
        refine Exists.intro _ (And.intro (Le.refl _ _ _) ?_)
        exact st_retc (t := t_tree_printer_expr_2) (ss := fun o => ⟨[[.sp Try.prog 67 o.1 0 0, .own 0 5 1 (o.2.map (cNum .u8))]], [(o.2.map (cNum .u8)).length]⟩) h ⟨[0], rfl, .refl _, .refl _, rfl⟩
      · refine st_test h (fun hb h => ?_) (fun hb h => ?_)
        · refine st_test h (fun hb h => ?_) (fun hb h => ?_)
          · refine st_callc _ _ h (fun x5 hy => ((tree_printer_put_2_ok ([[116, 114, 117, 101]]) h0_0 h0_1 x5 hy).fr [0] [0] rfl rfl rfl).weakC (.cons (.refl _) (.cons (.p (.not)) (.nil)))) (fun x5 hy h => ?_)
            refine Exists.intro _ (And.intro (Le.refl _ _ _) ?_)
            exact st_retc (t := t_tree_printer_expr_2) (ss := fun o => ⟨[[.sp Try.prog 67 o.1 0 0, .own 0 5 1 (o.2.map (cNum .u8))]], [(o.2.map (cNum .u8)).length]⟩) h ⟨[0], rfl, .refl _, .refl _, rfl⟩
          · refine st_callc _ _ h (fun x6 hy => ((tree_printer_put_2_ok ([[102, 97, 108, 115, 101]]) h0_0 h0_1 x6 hy).fr [0] [0] rfl rfl rfl).weakC (.cons (.refl _) (.cons (.p (.not)) (.nil)))) (fun x6 hy h => ?_)
            refine Exists.intro _ (And.intro (Le.refl _ _ _) ?_)
            exact st_retc (t := t_tree_printer_expr_2) (ss := fun o => ⟨[[.sp Try.prog 67 o.1 0 0, .own 0 5 1 (o.2.map (cNum .u8))]], [(o.2.map (cNum .u8)).length]⟩) h ⟨[0], rfl, .refl _, .refl _, rfl⟩
        · refine st_test h (fun hb h => ?_) (fun hb h => ?_)
          · refine st_callc _ _ h (fun x7 hy => ((tree_printer_put_2_ok [p1.Name] h0_0 h0_1 x7 hy).fr [0] [0] rfl rfl rfl).weakC (.cons (.refl _) (.cons (.p (.not)) (.nil)))) (fun x7 hy h => ?_)
            refine Exists.intro _ (And.intro (Le.refl _ _ _) ?_)
            exact st_retc (t := t_tree_printer_expr_2) (ss := fun o => ⟨[[.sp Try.prog 67 o.1 0 0, .own 0 5 1 (o.2.map (cNum .u8))]], [(o.2.map (cNum .u8)).length]⟩) h ⟨[0], rfl, .refl _, .refl _, rfl⟩
          · refine st_test h (fun hb h => ?_) (fun hb h => ?_)
            · refine st_callc _ _ h (fun x8 hy => ((tree_printer_put_2_ok ([[115, 101, 99, 114, 101, 116, 40, 34], p1.Name, [34, 41]]) h0_0 h0_1 x8 hy).fr [0] [0] rfl rfl rfl).weakC (.cons (.refl _) (.cons (.p (.not)) (.nil)))) (fun x8 hy h => ?_)
              refine Exists.intro _ (And.intro (Le.refl _ _ _) ?_)
              exact st_retc (t := t_tree_printer_expr_2) (ss := fun o => ⟨[[.sp Try.prog 67 o.1 0 0, .own 0 5 1 (o.2.map (cNum .u8))]], [(o.2.map (cNum .u8)).length]⟩) h ⟨[0], rfl, .refl _, .refl _, rfl⟩
            · refine st_test h (fun hb h => ?_) (fun hb h => ?_)
              · refine st_idx (l := p1.L) (c := c_api_Node) (c' := l_api_Node) h c_api_Node_eq (fun _ => rfl) (by decide) (fun x9 hi h => ?_)
                refine st_callc _ _ h (fun x10 hy => ((ih_tree_printer_expr_2 x9 h0_0 h0_1 x10 hy).fr [0] [0] rfl rfl rfl)) (fun x10 hy h => ?_)
                refine st_callc _ _ h (fun x11 hy => ((tree_printer_put_2_ok ([[46], p1.Name]) x10.1 x10.2 x11 hy).fr [0] [0] rfl rfl rfl).weakC (.cons (.refl _) (.cons (.p (.not)) (.nil)))) (fun x11 hy h => ?_)
                refine Exists.intro _ (And.intro (Le.refl _ _ _) ?_)
                exact st_retc (t := t_tree_printer_expr_2) (ss := fun o => ⟨[[.sp Try.prog 67 o.1 0 0, .own 0 5 1 (o.2.map (cNum .u8))]], [(o.2.map (cNum .u8)).length]⟩) h ⟨[0], rfl, .refl _, .refl _, rfl⟩
              · refine st_test h (fun hb h => ?_) (fun hb h => ?_)
                · refine st_callc _ _ h (fun x12 hy => ((tree_printer_put_2_ok ([p1.Name, [40]]) h0_0 h0_1 x12 hy).fr [0] [0] rfl rfl rfl).weakC (.cons (.refl _) (.cons (.p (.not)) (.nil)))) (fun x12 hy h => ?_)
                  refine view (lenMap _ _) rfl ?_
                  refine st_bind h (fun o13 ho hk => ?_)
                  refine Exists.intro (JP1 _ _ o13 (.exit 1) (tree_printer_expr_2_L1_x0 p1)) (And.intro (T_le (τ := tree_printer_expr_2_L1_st p1 0 x12.1 x12.2) ?_ (TL.loop (ih_tree_printer_expr_2_L1 p1 0 x12.1 x12.2 o13 ho))) (join1 ?_))
                  · exact Le.tow 2 1 rfl (.cons rfl (.refl _) (.cons rfl (.refl _) (.cons rfl (.refl _) (.cons rfl (.refl _) (.nil))))) (.refl _) rfl
                  have h := hk
                  refine st_callc _ _ h (fun x18 hy => ((tree_printer_put_2_ok ([[41]]) o13.1 o13.2 x18 hy).fr [0] [0] rfl rfl rfl).weakC (.cons (.refl _) (.cons (.p (.not)) (.nil)))) (fun x18 hy h => ?_)
                  refine Exists.intro _ (And.intro (Le.refl _ _ _) ?_)
                  exact st_retc (t := t_tree_printer_expr_2) (ss := fun o => ⟨[[.sp Try.prog 67 o.1 0 0, .own 0 5 1 (o.2.map (cNum .u8))]], [(o.2.map (cNum .u8)).length]⟩) h ⟨[0], rfl, .refl _, .refl _, rfl⟩
                · refine Exists.intro _ (And.intro (Le.refl _ _ _) ?_)
                  exact st_retc (t := t_tree_printer_expr_2) (ss := fun o => ⟨[[.sp Try.prog 67 o.1 0 0, .own 0 5 1 (o.2.map (cNum .u8))]], [(o.2.map (cNum .u8)).length]⟩) h ⟨[0], rfl, .refl _, .refl _, rfl⟩
  · intro tree_printer_expr_2' tree_printer_expr_2_L1' ih_tree_printer_expr_2 ih_tree_printer_expr_2_L1 p1 v78 h0_0_ h0_1_ o13 h
    refine TL.round (bwp_sound mixed tbOk (lv := tree_printer_expr_2_lv) _ _ _ ?_)
    refine st_test h (fun hb h => ?_) (fun hb h => ?_)
    · refine st_idx (l := p1.L) (c := c_api_Node) (c' := l_api_Node) h c_api_Node_eq (fun _ => rfl) (by decide) (fun x14 hi h => ?_)
      refine st_test h (fun hb h => ?_) (fun hb h => ?_)
      · refine st_callc _ _ h (fun x15 hy => ((tree_printer_put_2_ok ([[44, 32]]) h0_0_ h0_1_ x15 hy).fr [0] [0] rfl rfl rfl).weakC (.cons (.refl _) (.cons (.p (.not)) (.nil)))) (fun x15 hy h => ?_)
        refine st_callc _ _ h (fun x16 hy => ((ih_tree_printer_expr_2 x14 x15.1 x15.2 x16 hy).fr [0] [0] rfl rfl rfl)) (fun x16 hy h => ?_)
        refine TL.le (τ := tree_printer_expr_2_L1_st p1 (wr (v78 + 1)) x16.1 x16.2) ?_ ((ih_tree_printer_expr_2_L1 p1 (wr (v78 + 1)) x16.1 x16.2 _ h))
        exact Le.tow 2 1 rfl (.cons rfl (.refl _) (.cons rfl (.refl _) (.cons rfl (.refl _) (.cons rfl (.refl _) (.nil))))) (.refl _) rfl
      · refine st_callc _ _ h (fun x17 hy => ((ih_tree_printer_expr_2 x14 h0_0_ h0_1_ x17 hy).fr [0] [0] rfl rfl rfl)) (fun x17 hy h => ?_)
        refine TL.le (τ := tree_printer_expr_2_L1_st p1 (wr (v78 + 1)) x17.1 x17.2) ?_ ((ih_tree_printer_expr_2_L1 p1 (wr (v78 + 1)) x17.1 x17.2 _ h))
        exact Le.tow 2 1 rfl (.cons rfl (.refl _) (.cons rfl (.refl _) (.cons rfl (.refl _) (.cons rfl (.refl _) (.nil))))) (.refl _) rfl
    · exact JP1.a h (Le.tow 2 1 rfl (.cons rfl (.refl _) (.nil)) (.refl _) rfl)
theorem tree_printer_expr_2_ok : ∀ (p1 : api_Node) (h0_0 : Bool) (h0_1 : (List Int)) (o : Bool × (List Int)), tree_printer_expr_2 p1 h0_0 h0_1 = some o → CallOK Try.prog 110 [.ptr 0 0, .p (.agg [iV p1.Kind, sV p1.Name, sV p1.Text, iV p1.N, .sl false (p1.L.map c_api_Node), .sl false (p1.Then.map c_api_Node), .sl false (p1.Else.map c_api_Node)])] ⟨[[.sp Try.prog 67 h0_0 0 0, .own 0 5 1 (h0_1.map (cNum .u8))]], [(h0_1.map (cNum .u8)).length]⟩ (t_tree_printer_expr_2 o) ⟨[[.sp Try.prog 67 o.1 0 0, .own 0 5 1 (o.2.map (cNum .u8))]], [(o.2.map (cNum .u8)).length]⟩ := fun p1 h0_0 h0_1 o h => tree_printer_expr_2_grp.1 p1 h0_0 h0_1 o h
noncomputable def tree_printer_action_2 (p1 : (List UInt8)) (p2 : api_Node) (h0_0 : Bool) (h0_1 : (List Int)) : Option (Bool × (List Int)) :=
  tree_printer_put_2 ([[123, 123, 32], p1]) h0_0 h0_1 >>= fun x1 =>
  tree_printer_expr_2 p2 x1.1 x1.2 >>= fun x2 =>
  tree_printer_put_2 ([[32, 125, 125]]) x2.1 x2.2 >>= fun x3 =>
  some (x3.1, x3.2)
set_option maxRecDepth 100000 in
set_option maxHeartbeats 4000000 in
theorem tree_printer_action_2_ok : ∀ (p1 : (List UInt8)) (p2 : api_Node) (h0_0 : Bool) (h0_1 : (List Int)) (o : Bool × (List Int)), tree_printer_action_2 p1 p2 h0_0 h0_1 = some o → CallOK Try.prog 85 [.ptr 0 0, .p (sV p1), .p (.agg [iV p2.Kind, sV p2.Name, sV p2.Text, iV p2.N, .sl false (p2.L.map c_api_Node), .sl false (p2.Then.map c_api_Node), .sl false (p2.Else.map c_api_Node)])] ⟨[[.sp Try.prog 67 h0_0 0 0, .own 0 5 1 (h0_1.map (cNum .u8))]], [(h0_1.map (cNum .u8)).length]⟩ (t_tree_printer_action_2 o) ⟨[[.sp Try.prog 67 o.1 0 0, .own 0 5 1 (o.2.map (cNum .u8))]], [(o.2.map (cNum .u8)).length]⟩ := by
  intro p1 p2 h0_0 h0_1 o h
  unfold tree_printer_action_2 at h
  refine CallOK.ofB mixed tbOk tree_printer_action_2_lv Try.func85 rfl (by kernel_rfl) (Nat.le_of_ble_eq_true rfl) rfl rfl rfl ?_
  refine st_callc _ _ h (fun x1 hy => ((tree_printer_put_2_ok ([[123, 123, 32], p1]) h0_0 h0_1 x1 hy).fr [0] [0] rfl rfl rfl).weakC (.cons (.refl _) (.cons (.p (.not)) (.nil)))) (fun x1 hy h => ?_)
  refine st_callc _ _ h (fun x2 hy => ((tree_printer_expr_2_ok p2 x1.1 x1.2 x2 hy).fr [0] [0] rfl rfl rfl)) (fun x2 hy h => ?_)
  refine st_callc _ _ h (fun x3 hy => ((tree_printer_put_2_ok ([[32, 125, 125]]) x2.1 x2.2 x3 hy).fr [0] [0] rfl rfl rfl).weakC (.cons (.refl _) (.cons (.p (.not)) (.nil)))) (fun x3 hy h => ?_)
  refine Exists.intro _ (And.intro (Le.refl _ _ _) ?_)
  exact st_retc (t := t_tree_printer_action_2) (ss := fun o => ⟨[[.sp Try.prog 67 o.1 0 0, .own 0 5 1 (o.2.map (cNum .u8))]], [(o.2.map (cNum .u8)).length]⟩) h ⟨[0], rfl, .refl _, .refl _, rfl⟩
mutual
noncomputable def tree_printer_block_2 (p1 : (List api_Node)) (h0_0 : Bool) (h0_1 : (List Int)) : Option (Bool × (List Int)) :=
  (tree_printer_block_2_L1 p1 0 h0_0 h0_1) >>= fun o1 =>
  some (o1.1, o1.2)
  partial_fixpoint
noncomputable def tree_printer_block_2_L1 (p1 : (List api_Node)) (v8 : Int) (h0_0_ : Bool) (h0_1_ : (List Int)) : Option ((Bool × (List Int))) :=
  if (decide (v8 < (p1.length : Int))) then
    idx p1 v8 >>= fun x2 =>
    ( if (x2.Kind == 8) then
        tree_printer_put_2 [x2.Text] h0_0_ h0_1_ >>= fun x6 =>
        some (.inr (x6.1, x6.2))
      else
        if (x2.Kind == 9) then
          idx x2.L 0 >>= fun x7 =>
          tree_printer_action_2 [] x7 h0_0_ h0_1_ >>= fun x8 =>
          some (.inr (x8.1, x8.2))
        else
          if (x2.Kind == 13) then
            need ([117, 115, 101, 32].length + x2.Name.length ≤ 9223372036854775807) >>= fun _ =>
            need (([117, 115, 101, 32] ++ x2.Name).length + [32].length ≤ 9223372036854775807) >>= fun _ =>
            idx x2.L 0 >>= fun x9 =>
            tree_printer_action_2 (([117, 115, 101, 32] ++ x2.Name) ++ [32]) x9 h0_0_ h0_1_ >>= fun x10 =>
            some (.inr (x10.1, x10.2))
          else
            if (x2.Kind == 10) then
              idx x2.L 0 >>= fun x11 =>
              tree_printer_action_2 [105, 102, 32] x11 h0_0_ h0_1_ >>= fun x12 =>
              some (.inl (x12.1, x12.2))
            else
              if (x2.Kind == 11) then
                need ([101, 97, 99, 104, 32].length + x2.Name.length ≤ 9223372036854775807) >>= fun _ =>
                need (([101, 97, 99, 104, 32] ++ x2.Name).length + [32, 105, 110, 32].length ≤ 9223372036854775807) >>= fun _ =>
                idx x2.L 0 >>= fun x13 =>
                tree_printer_action_2 (([101, 97, 99, 104, 32] ++ x2.Name) ++ [32, 105, 110, 32]) x13 h0_0_ h0_1_ >>= fun x14 =>
                some (.inl (x14.1, x14.2))
              else
                if (x2.Kind == 12) then
                  need ([108, 101, 116, 32].length + x2.Name.length ≤ 9223372036854775807) >>= fun _ =>
                  need (([108, 101, 116, 32] ++ x2.Name).length + [32, 61, 32].length ≤ 9223372036854775807) >>= fun _ =>
                  idx x2.L 0 >>= fun x15 =>
                  tree_printer_action_2 (([108, 101, 116, 32] ++ x2.Name) ++ [32, 61, 32]) x15 h0_0_ h0_1_ >>= fun x16 =>
                  some (.inl (x16.1, x16.2))
                else
                  some (.inl (h0_0_, h0_1_)) : Option ((Bool × (List Int)) ⊕ (Bool × (List Int)))) >>= fun o3 =>
    match o3 with
    | .inl y4 =>
      tree_printer_block_2 x2.Then y4.1 y4.2 >>= fun x17 =>
      ( if (decide ((x2.Else.length : Int) > 0)) then
          tree_printer_put_2 ([[123, 123, 32, 101, 108, 115, 101, 32, 125, 125]]) x17.1 x17.2 >>= fun x19 =>
          tree_printer_block_2 x2.Else x19.1 x19.2 >>= fun x20 =>
          some (x20.1, x20.2)
        else
          some (x17.1, x17.2) : Option ((Bool × (List Int)))) >>= fun o18 =>
      tree_printer_put_2 ([[123, 123, 32, 101, 110, 100, 32, 125, 125]]) o18.1 o18.2 >>= fun x21 =>
      tree_printer_block_2_L1 p1 (wr (v8 + 1)) x21.1 x21.2
    | .inr y5 =>
      tree_printer_block_2_L1 p1 (wr (v8 + 1)) y5.1 y5.2
  else
    some (h0_0_, h0_1_)
  partial_fixpoint
end
set_option maxRecDepth 100000 in
set_option maxHeartbeats 4000000 in
theorem tree_printer_block_2_grp : (∀ (p1 : (List api_Node)) (h0_0 : Bool) (h0_1 : (List Int)) (o : Bool × (List Int)), tree_printer_block_2 p1 h0_0 h0_1 = some o → CallOK Try.prog 53 [.ptr 0 0, .p (.sl false (p1.map c_api_Node))] ⟨[[.sp Try.prog 67 h0_0 0 0, .own 0 5 1 (h0_1.map (cNum .u8))]], [(h0_1.map (cNum .u8)).length]⟩ (t_tree_printer_block_2 o) ⟨[[.sp Try.prog 67 o.1 0 0, .own 0 5 1 (o.2.map (cNum .u8))]], [(o.2.map (cNum .u8)).length]⟩) ∧ (∀ (p1 : (List api_Node)) (v8 : Int) (h0_0_ : Bool) (h0_1_ : (List Int)) (o1 : (Bool × (List Int))), tree_printer_block_2_L1 p1 v8 h0_0_ h0_1_ = some o1 → TL (1, 1) Try.prog 92 tree_printer_block_2_L1_c (JP1 (1, 1) 92 o1 (.exit 0) (tree_printer_block_2_L1_x0 p1)) (tree_printer_block_2_L1_st p1 v8 h0_0_ h0_1_)) := by
  refine tree_printer_block_2.mutual_partial_correctness _ _ ?_ ?_
  · intro tree_printer_block_2_L1' ih_tree_printer_block_2_L1 p1 h0_0 h0_1 o h
    refine CallOK.ofB mixed tbOk tree_printer_block_2_lv Try.func53 rfl (by kernel_rfl) (Nat.le_of_ble_eq_true rfl) rfl rfl rfl ?_
    refine view (lenMap _ _) rfl ?_
    refine st_bind h (fun o1 ho hk => ?_)
    refine Exists.intro (JP1 _ _ o1 (.exit 0) (tree_printer_block_2_L1_x0 p1)) (And.intro (T_le (τ := tree_printer_block_2_L1_st p1 0 h0_0 h0_1) ?_ (TL.loop (ih_tree_printer_block_2_L1 p1 0 h0_0 h0_1 o1 ho))) (join1 ?_))
    · exact Le.tow 1 1 rfl (.cons rfl (.refl _) (.cons rfl (.refl _) (.cons rfl (.refl _) (.cons rfl (.refl _) (.nil))))) (.refl _) rfl
    have h := hk
    refine Exists.intro _ (And.intro (Le.refl _ _ _) ?_)
    exact st_retc (t := t_tree_printer_block_2) (ss := fun o => ⟨[[.sp Try.prog 67 o.1 0 0, .own 0 5 1 (o.2.map (cNum .u8))]], [(o.2.map (cNum .u8)).length]⟩) h ⟨[0], rfl, .refl _, .refl _, rfl⟩
  · intro tree_printer_block_2' tree_printer_block_2_L1' ih_tree_printer_block_2 ih_tree_printer_block_2_L1 p1 v8 h0_0_ h0_1_ o1 h
    refine TL.round (bwp_sound mixed tbOk (lv := tree_printer_block_2_lv) _ _ _ ?_)
    refine st_test h (fun hb h => ?_) (fun hb h => ?_)
    · refine st_idx (l := p1) (c := c_api_Node) (c' := l_api_Node) h c_api_Node_eq (fun _ => rfl) (by decide) (fun x2 hi h => ?_)
      refine st_bind h (fun o3 ho hk => ?_)
      refine Exists.intro (JP2 _ _ o3 .normal (tree_printer_block_2_J0_0 p1 v8 x2) (.exit 1) (tree_printer_block_2_J0_1 p1 v8 x2)) (And.intro ?_ (join2 (fun y4 hy => ?_) (fun y5 hy => ?_)))
      · have h := ho
        refine st_test h (fun hb h => ?_) (fun hb h => ?_)
        · refine st_callc _ _ h (fun x6 hy => ((tree_printer_put_2_ok [x2.Text] h0_0_ h0_1_ x6 hy).fr [0] [0] rfl rfl rfl).weakC (.cons (.refl _) (.cons (.p (.not)) (.nil)))) (fun x6 hy h => ?_)
          exact JP2.b h (Le.tow 2 1 rfl (.cons rfl (.refl _) (.cons rfl (.refl _) (.cons rfl (.refl _) (.cons rfl (.refl _) (.nil))))) (.refl _) rfl)
        · refine st_test h (fun hb h => ?_) (fun hb h => ?_)
          · refine st_idx (l := x2.L) (c := c_api_Node) (c' := l_api_Node) h c_api_Node_eq (fun _ => rfl) (by decide) (fun x7 hi h => ?_)
            refine st_callc _ _ h (fun x8 hy => ((tree_printer_action_2_ok [] x7 h0_0_ h0_1_ x8 hy).fr [0] [0] rfl rfl rfl)) (fun x8 hy h => ?_)
            exact JP2.b h (Le.tow 2 1 rfl (.cons rfl (.refl _) (.cons rfl (.refl _) (.cons rfl (.refl _) (.cons rfl (.refl _) (.nil))))) (.refl _) rfl)
          · refine st_test h (fun hb h => ?_) (fun hb h => ?_)
            · refine And.intro (by decide +kernel) (And.intro rfl ?_)
              refine st_need h (fun h => ?_)
              refine st_need h (fun h => ?_)
              refine st_idx (l := x2.L) (c := c_api_Node) (c' := l_api_Node) h c_api_Node_eq (fun _ => rfl) (by decide) (fun x9 hi h => ?_)
              refine st_callh _ _ h (fun x10 hy => ((tree_printer_action_2_ok (([117, 115, 101, 32] ++ x2.Name) ++ [32]) x9 h0_0_ h0_1_ x10 hy).fr [0] [0] rfl rfl rfl)) (fun x10 => Nat.le_of_ble_eq_true rfl) (fun x10 hy h => ?_)
              exact JP2.b h (Le.tow 2 1 rfl (.cons rfl (.refl _) (.cons rfl (.refl _) (.cons rfl (.refl _) (.cons rfl (.refl _) (.nil))))) (.refl _) rfl)
            · refine st_test h (fun hb h => ?_) (fun hb h => ?_)
              · refine st_idx (l := x2.L) (c := c_api_Node) (c' := l_api_Node) h c_api_Node_eq (fun _ => rfl) (by decide) (fun x11 hi h => ?_)
                refine st_callc _ _ h (fun x12 hy => ((tree_printer_action_2_ok [105, 102, 32] x11 h0_0_ h0_1_ x12 hy).fr [0] [0] rfl rfl rfl)) (fun x12 hy h => ?_)
                exact JP2.a h (Le.tow 2 1 rfl (.cons rfl (.refl _) (.cons rfl (.refl _) (.cons rfl (.refl _) (.cons rfl (.refl _) (.cons rfl (.refl _) (.nil)))))) (.refl _) rfl)
              · refine st_test h (fun hb h => ?_) (fun hb h => ?_)
                · refine And.intro (by decide +kernel) (And.intro rfl ?_)
                  refine st_need h (fun h => ?_)
                  refine st_need h (fun h => ?_)
                  refine st_idx (l := x2.L) (c := c_api_Node) (c' := l_api_Node) h c_api_Node_eq (fun _ => rfl) (by decide) (fun x13 hi h => ?_)
                  refine st_callh _ _ h (fun x14 hy => ((tree_printer_action_2_ok (([101, 97, 99, 104, 32] ++ x2.Name) ++ [32, 105, 110, 32]) x13 h0_0_ h0_1_ x14 hy).fr [0] [0] rfl rfl rfl)) (fun x14 => Nat.le_of_ble_eq_true rfl) (fun x14 hy h => ?_)
                  exact JP2.a h (Le.tow 2 1 rfl (.cons rfl (.refl _) (.cons rfl (.refl _) (.cons rfl (.refl _) (.cons rfl (.refl _) (.cons rfl (.refl _) (.nil)))))) (.refl _) rfl)
                · refine st_test h (fun hb h => ?_) (fun hb h => ?_)
                  · refine And.intro (by decide +kernel) (And.intro rfl ?_)
                    refine st_need h (fun h => ?_)
                    refine st_need h (fun h => ?_)
                    refine st_idx (l := x2.L) (c := c_api_Node) (c' := l_api_Node) h c_api_Node_eq (fun _ => rfl) (by decide) (fun x15 hi h => ?_)
                    refine st_callh _ _ h (fun x16 hy => ((tree_printer_action_2_ok (([108, 101, 116, 32] ++ x2.Name) ++ [32, 61, 32]) x15 h0_0_ h0_1_ x16 hy).fr [0] [0] rfl rfl rfl)) (fun x16 => Nat.le_of_ble_eq_true rfl) (fun x16 hy h => ?_)
                    exact JP2.a h (Le.tow 2 1 rfl (.cons rfl (.refl _) (.cons rfl (.refl _) (.cons rfl (.refl _) (.cons rfl (.refl _) (.cons rfl (.refl _) (.nil)))))) (.refl _) rfl)
                  · exact JP2.a h (Le.tow 2 1 rfl (.cons rfl (.refl _) (.cons rfl (.refl _) (.cons rfl (.refl _) (.cons rfl (.refl _) (.cons rfl (.refl _) (.nil)))))) (.refl _) rfl)
      · have h := (by rw [hy] at hk; exact hk)
        refine st_callc _ _ h (fun x17 hy => ((ih_tree_printer_block_2 x2.Then y4.1 y4.2 x17 hy).fr [0] [0] rfl rfl rfl)) (fun x17 hy h => ?_)
        refine st_bind h (fun o18 ho hk => ?_)
        refine Exists.intro (JP1 _ _ o18 .normal (tree_printer_block_2_J1_0 p1 v8 x2)) (And.intro ?_ (join1 ?_))
        · have h := ho
          refine view (lenMap _ _) rfl ?_
          refine st_test h (fun hb h => ?_) (fun hb h => ?_)
          · refine st_callc _ _ h (fun x19 hy => ((tree_printer_put_2_ok ([[123, 123, 32, 101, 108, 115, 101, 32, 125, 125]]) x17.1 x17.2 x19 hy).fr [0] [0] rfl rfl rfl).weakC (.cons (.refl _) (.cons (.p (.not)) (.nil)))) (fun x19 hy h => ?_)
            refine st_callc _ _ h (fun x20 hy => ((ih_tree_printer_block_2 x2.Else x19.1 x19.2 x20 hy).fr [0] [0] rfl rfl rfl)) (fun x20 hy h => ?_)
            exact JP1.a h (Le.tow 2 1 rfl (.cons rfl (.refl _) (.cons rfl (.refl _) (.cons rfl (.refl _) (.cons rfl (.refl _) (.nil))))) (.refl _) rfl)
          · exact JP1.a h (Le.tow 2 1 rfl (.cons rfl (.refl _) (.cons rfl (.refl _) (.cons rfl (.refl _) (.cons rfl (.refl _) (.nil))))) (.refl _) rfl)
        · have h := hk
          refine st_callc _ _ h (fun x21 hy => ((tree_printer_put_2_ok ([[123, 123, 32, 101, 110, 100, 32, 125, 125]]) o18.1 o18.2 x21 hy).fr [0] [0] rfl rfl rfl).weakC (.cons (.refl _) (.cons (.p (.not)) (.nil)))) (fun x21 hy h => ?_)
          refine TL.le (τ := tree_printer_block_2_L1_st p1 (wr (v8 + 1)) x21.1 x21.2) ?_ ((ih_tree_printer_block_2_L1 p1 (wr (v8 + 1)) x21.1 x21.2 _ h))
          exact Le.tow 1 1 rfl (.cons rfl (.refl _) (.cons rfl (.refl _) (.cons rfl (.refl _) (.cons rfl (.refl _) (.nil))))) (.refl _) rfl
      · have h := (by rw [hy] at hk; exact hk)
        refine TL.le (τ := tree_printer_block_2_L1_st p1 (wr (v8 + 1)) y5.1 y5.2) ?_ ((ih_tree_printer_block_2_L1 p1 (wr (v8 + 1)) y5.1 y5.2 _ h))
        exact Le.tow 1 1 rfl (.cons rfl (.refl _) (.cons rfl (.refl _) (.cons rfl (.refl _) (.cons rfl (.refl _) (.nil))))) (.refl _) rfl
    · exact JP1.a h (Le.tow 1 1 rfl (.nil) (.refl _) rfl)
theorem tree_printer_block_2_ok : ∀ (p1 : (List api_Node)) (h0_0 : Bool) (h0_1 : (List Int)) (o : Bool × (List Int)), tree_printer_block_2 p1 h0_0 h0_1 = some o → CallOK Try.prog 53 [.ptr 0 0, .p (.sl false (p1.map c_api_Node))] ⟨[[.sp Try.prog 67 h0_0 0 0, .own 0 5 1 (h0_1.map (cNum .u8))]], [(h0_1.map (cNum .u8)).length]⟩ (t_tree_printer_block_2 o) ⟨[[.sp Try.prog 67 o.1 0 0, .own 0 5 1 (o.2.map (cNum .u8))]], [(o.2.map (cNum .u8)).length]⟩ := fun p1 h0_0 h0_1 o h => tree_printer_block_2_grp.1 p1 h0_0 h0_1 o h
noncomputable def tree_printer_block_L1 (p1 : (List api_Node)) (v8 : Int) (h0_0_ : Bool) (h0_1 : (List Int)) : Option ((Bool × (List Int))) :=
  if (decide (v8 < (p1.length : Int))) then
    idx p1 v8 >>= fun x2 =>
    ( if (x2.Kind == 8) then
        tree_printer_put_2 [x2.Text] h0_0_ h0_1 >>= fun x6 =>
        some (.inr (x6.1, x6.2))
      else
        if (x2.Kind == 9) then
          idx x2.L 0 >>= fun x7 =>
          tree_printer_action_2 [] x7 h0_0_ h0_1 >>= fun x8 =>
          some (.inr (x8.1, x8.2))
        else
          if (x2.Kind == 13) then
            need ([117, 115, 101, 32].length + x2.Name.length ≤ 9223372036854775807) >>= fun _ =>
            need (([117, 115, 101, 32] ++ x2.Name).length + [32].length ≤ 9223372036854775807) >>= fun _ =>
            idx x2.L 0 >>= fun x9 =>
            tree_printer_action_2 (([117, 115, 101, 32] ++ x2.Name) ++ [32]) x9 h0_0_ h0_1 >>= fun x10 =>
            some (.inr (x10.1, x10.2))
          else
            if (x2.Kind == 10) then
              idx x2.L 0 >>= fun x11 =>
              tree_printer_action_2 [105, 102, 32] x11 h0_0_ h0_1 >>= fun x12 =>
              some (.inl (x12.1, x12.2))
            else
              if (x2.Kind == 11) then
                need ([101, 97, 99, 104, 32].length + x2.Name.length ≤ 9223372036854775807) >>= fun _ =>
                need (([101, 97, 99, 104, 32] ++ x2.Name).length + [32, 105, 110, 32].length ≤ 9223372036854775807) >>= fun _ =>
                idx x2.L 0 >>= fun x13 =>
                tree_printer_action_2 (([101, 97, 99, 104, 32] ++ x2.Name) ++ [32, 105, 110, 32]) x13 h0_0_ h0_1 >>= fun x14 =>
                some (.inl (x14.1, x14.2))
              else
                if (x2.Kind == 12) then
                  need ([108, 101, 116, 32].length + x2.Name.length ≤ 9223372036854775807) >>= fun _ =>
                  need (([108, 101, 116, 32] ++ x2.Name).length + [32, 61, 32].length ≤ 9223372036854775807) >>= fun _ =>
                  idx x2.L 0 >>= fun x15 =>
                  tree_printer_action_2 (([108, 101, 116, 32] ++ x2.Name) ++ [32, 61, 32]) x15 h0_0_ h0_1 >>= fun x16 =>
                  some (.inl (x16.1, x16.2))
                else
                  some (.inl (h0_0_, h0_1)) : Option ((Bool × (List Int)) ⊕ (Bool × (List Int)))) >>= fun o3 =>
    match o3 with
    | .inl y4 =>
      tree_printer_block_2 x2.Then y4.1 y4.2 >>= fun x17 =>
      ( if (decide ((x2.Else.length : Int) > 0)) then
          tree_printer_put_2 ([[123, 123, 32, 101, 108, 115, 101, 32, 125, 125]]) x17.1 x17.2 >>= fun x19 =>
          tree_printer_block_2 x2.Else x19.1 x19.2 >>= fun x20 =>
          some (x20.1, x20.2)
        else
          some (x17.1, x17.2) : Option ((Bool × (List Int)))) >>= fun o18 =>
      tree_printer_put_2 ([[123, 123, 32, 101, 110, 100, 32, 125, 125]]) o18.1 o18.2 >>= fun x21 =>
      tree_printer_block_L1 p1 (wr (v8 + 1)) x21.1 x21.2
    | .inr y5 =>
      tree_printer_block_L1 p1 (wr (v8 + 1)) y5.1 y5.2
  else
    some (h0_0_, h0_1)
  partial_fixpoint
set_option maxRecDepth 100000 in
set_option maxHeartbeats 4000000 in
theorem tree_printer_block_L1_grp : ∀ (p1 : (List api_Node)), (∀ (v8 : Int) (h0_0_ : Bool) (h0_1 : (List Int)) (o1 : (Bool × (List Int))), tree_printer_block_L1 p1 v8 h0_0_ h0_1 = some o1 → TL (1, 0) Try.prog 92 tree_printer_block_L1_c (JP1 (1, 0) 92 o1 (.exit 0) (tree_printer_block_L1_x0 p1)) (tree_printer_block_L1_st p1 v8 h0_0_ h0_1)) := by
  intro p1
  refine tree_printer_block_L1.partial_correctness p1 _ ?_
  intro tree_printer_block_L1' ih_tree_printer_block_L1 v8 h0_0_ h0_1 o1 h
  refine TL.round (bwp_sound mixed tbOk (lv := tree_printer_block_lv) _ _ _ ?_)
  refine st_test h (fun hb h => ?_) (fun hb h => ?_)
  · refine st_idx (l := p1) (c := c_api_Node) (c' := l_api_Node) h c_api_Node_eq (fun _ => rfl) (by decide) (fun x2 hi h => ?_)
    refine st_bind h (fun o3 ho hk => ?_)
    refine Exists.intro (JP2 _ _ o3 .normal (tree_printer_block_J0_0 p1 v8 x2) (.exit 1) (tree_printer_block_J0_1 p1 v8 x2)) (And.intro ?_ (join2 (fun y4 hy => ?_) (fun y5 hy => ?_)))
    · have h := ho
      refine st_test h (fun hb h => ?_) (fun hb h => ?_)
      · refine st_callc _ _ h (fun x6 hy => ((tree_printer_put_2_ok [x2.Text] h0_0_ h0_1 x6 hy).fr [0] [0] rfl rfl rfl).weakC (.cons (.refl _) (.cons (.p (.not)) (.nil)))) (fun x6 hy h => ?_)
        exact JP2.b h (Le.tow 2 1 rfl (.cons rfl (.refl _) (.cons rfl (.refl _) (.cons rfl (.refl _) (.cons rfl (.refl _) (.nil))))) (.refl _) rfl)
      · refine st_test h (fun hb h => ?_) (fun hb h => ?_)
        · refine st_idx (l := x2.L) (c := c_api_Node) (c' := l_api_Node) h c_api_Node_eq (fun _ => rfl) (by decide) (fun x7 hi h => ?_)
          refine st_callc _ _ h (fun x8 hy => ((tree_printer_action_2_ok [] x7 h0_0_ h0_1 x8 hy).fr [0] [0] rfl rfl rfl)) (fun x8 hy h => ?_)
          exact JP2.b h (Le.tow 2 1 rfl (.cons rfl (.refl _) (.cons rfl (.refl _) (.cons rfl (.refl _) (.cons rfl (.refl _) (.nil))))) (.refl _) rfl)
        · refine st_test h (fun hb h => ?_) (fun hb h => ?_)
          · refine And.intro (by decide +kernel) (And.intro rfl ?_)
            refine st_need h (fun h => ?_)
            refine st_need h (fun h => ?_)
            refine st_idx (l := x2.L) (c := c_api_Node) (c' := l_api_Node) h c_api_Node_eq (fun _ => rfl) (by decide) (fun x9 hi h => ?_)
            refine st_callh _ _ h (fun x10 hy => ((tree_printer_action_2_ok (([117, 115, 101, 32] ++ x2.Name) ++ [32]) x9 h0_0_ h0_1 x10 hy).fr [0] [0] rfl rfl rfl)) (fun x10 => Nat.le_of_ble_eq_true rfl) (fun x10 hy h => ?_)
            exact JP2.b h (Le.tow 2 1 rfl (.cons rfl (.refl _) (.cons rfl (.refl _) (.cons rfl (.refl _) (.cons rfl (.refl _) (.nil))))) (.refl _) rfl)
          · refine st_test h (fun hb h => ?_) (fun hb h => ?_)
            · refine st_idx (l := x2.L) (c := c_api_Node) (c' := l_api_Node) h c_api_Node_eq (fun _ => rfl) (by decide) (fun x11 hi h => ?_)
              refine st_callc _ _ h (fun x12 hy => ((tree_printer_action_2_ok [105, 102, 32] x11 h0_0_ h0_1 x12 hy).fr [0] [0] rfl rfl rfl)) (fun x12 hy h => ?_)
              exact JP2.a h (Le.tow 2 1 rfl (.cons rfl (.refl _) (.cons rfl (.refl _) (.cons rfl (.refl _) (.cons rfl (.refl _) (.cons rfl (.refl _) (.nil)))))) (.refl _) rfl)
            · refine st_test h (fun hb h => ?_) (fun hb h => ?_)
              · refine And.intro (by decide +kernel) (And.intro rfl ?_)
                refine st_need h (fun h => ?_)
                refine st_need h (fun h => ?_)
                refine st_idx (l := x2.L) (c := c_api_Node) (c' := l_api_Node) h c_api_Node_eq (fun _ => rfl) (by decide) (fun x13 hi h => ?_)
                refine st_callh _ _ h (fun x14 hy => ((tree_printer_action_2_ok (([101, 97, 99, 104, 32] ++ x2.Name) ++ [32, 105, 110, 32]) x13 h0_0_ h0_1 x14 hy).fr [0] [0] rfl rfl rfl)) (fun x14 => Nat.le_of_ble_eq_true rfl) (fun x14 hy h => ?_)
                exact JP2.a h (Le.tow 2 1 rfl (.cons rfl (.refl _) (.cons rfl (.refl _) (.cons rfl (.refl _) (.cons rfl (.refl _) (.cons rfl (.refl _) (.nil)))))) (.refl _) rfl)
              · refine st_test h (fun hb h => ?_) (fun hb h => ?_)
                · refine And.intro (by decide +kernel) (And.intro rfl ?_)
                  refine st_need h (fun h => ?_)
                  refine st_need h (fun h => ?_)
                  refine st_idx (l := x2.L) (c := c_api_Node) (c' := l_api_Node) h c_api_Node_eq (fun _ => rfl) (by decide) (fun x15 hi h => ?_)
                  refine st_callh _ _ h (fun x16 hy => ((tree_printer_action_2_ok (([108, 101, 116, 32] ++ x2.Name) ++ [32, 61, 32]) x15 h0_0_ h0_1 x16 hy).fr [0] [0] rfl rfl rfl)) (fun x16 => Nat.le_of_ble_eq_true rfl) (fun x16 hy h => ?_)
                  exact JP2.a h (Le.tow 2 1 rfl (.cons rfl (.refl _) (.cons rfl (.refl _) (.cons rfl (.refl _) (.cons rfl (.refl _) (.cons rfl (.refl _) (.nil)))))) (.refl _) rfl)
                · exact JP2.a h (Le.tow 2 1 rfl (.cons rfl (.refl _) (.cons rfl (.refl _) (.cons rfl (.refl _) (.cons rfl (.refl _) (.cons rfl (.refl _) (.nil)))))) (.refl _) rfl)
    · have h := (by rw [hy] at hk; exact hk)
      refine st_callc _ _ h (fun x17 hy => ((tree_printer_block_2_ok x2.Then y4.1 y4.2 x17 hy).fr [0] [0] rfl rfl rfl)) (fun x17 hy h => ?_)
      refine st_bind h (fun o18 ho hk => ?_)
      refine Exists.intro (JP1 _ _ o18 .normal (tree_printer_block_J1_0 p1 v8 x2)) (And.intro ?_ (join1 ?_))
      · have h := ho
        refine view (lenMap _ _) rfl ?_
        refine st_test h (fun hb h => ?_) (fun hb h => ?_)
        · refine st_callc _ _ h (fun x19 hy => ((tree_printer_put_2_ok ([[123, 123, 32, 101, 108, 115, 101, 32, 125, 125]]) x17.1 x17.2 x19 hy).fr [0] [0] rfl rfl rfl).weakC (.cons (.refl _) (.cons (.p (.not)) (.nil)))) (fun x19 hy h => ?_)
          refine st_callc _ _ h (fun x20 hy => ((tree_printer_block_2_ok x2.Else x19.1 x19.2 x20 hy).fr [0] [0] rfl rfl rfl)) (fun x20 hy h => ?_)
          exact JP1.a h (Le.tow 2 1 rfl (.cons rfl (.refl _) (.cons rfl (.refl _) (.cons rfl (.refl _) (.cons rfl (.refl _) (.nil))))) (.refl _) rfl)
        · exact JP1.a h (Le.tow 2 1 rfl (.cons rfl (.refl _) (.cons rfl (.refl _) (.cons rfl (.refl _) (.cons rfl (.refl _) (.nil))))) (.refl _) rfl)
      · have h := hk
        refine st_callc _ _ h (fun x21 hy => ((tree_printer_put_2_ok ([[123, 123, 32, 101, 110, 100, 32, 125, 125]]) o18.1 o18.2 x21 hy).fr [0] [0] rfl rfl rfl).weakC (.cons (.refl _) (.cons (.p (.not)) (.nil)))) (fun x21 hy h => ?_)
        refine TL.le (τ := tree_printer_block_L1_st p1 (wr (v8 + 1)) x21.1 x21.2) ?_ ((ih_tree_printer_block_L1 (wr (v8 + 1)) x21.1 x21.2 _ h))
        exact Le.tow 1 1 rfl (.cons rfl (.refl _) (.cons rfl (.refl _) (.cons rfl (.refl _) (.cons rfl (.refl _) (.nil))))) (.refl _) rfl
    · have h := (by rw [hy] at hk; exact hk)
      refine TL.le (τ := tree_printer_block_L1_st p1 (wr (v8 + 1)) y5.1 y5.2) ?_ ((ih_tree_printer_block_L1 (wr (v8 + 1)) y5.1 y5.2 _ h))
      exact Le.tow 1 1 rfl (.cons rfl (.refl _) (.cons rfl (.refl _) (.cons rfl (.refl _) (.cons rfl (.refl _) (.nil))))) (.refl _) rfl
  · exact JP1.a h (Le.tow 1 1 rfl (.nil) (.refl _) rfl)
theorem tree_printer_block_L1_ok : ∀ (p1 : (List api_Node)) (v8 : Int) (h0_0_ : Bool) (h0_1 : (List Int)) (o1 : (Bool × (List Int))), tree_printer_block_L1 p1 v8 h0_0_ h0_1 = some o1 → TL (1, 0) Try.prog 92 tree_printer_block_L1_c (JP1 (1, 0) 92 o1 (.exit 0) (tree_printer_block_L1_x0 p1)) (tree_printer_block_L1_st p1 v8 h0_0_ h0_1) := fun p1 v8 h0_0_ h0_1 o1 h => (tree_printer_block_L1_grp p1) v8 h0_0_ h0_1 o1 h
noncomputable def tree_printer_block (p1 : (List api_Node)) (h0_0 : Bool) : Option (Bool × (List Int)) :=
  (tree_printer_block_L1 p1 0 h0_0 []) >>= fun o1 =>
  some (o1.1, o1.2)
set_option maxRecDepth 100000 in
set_option maxHeartbeats 4000000 in
theorem tree_printer_block_ok : ∀ (p1 : (List api_Node)) (h0_0 : Bool) (o : Bool × (List Int)), tree_printer_block p1 h0_0 = some o → CallOK Try.prog 53 [.ptr 0 0, .p (.sl false (p1.map c_api_Node))] ⟨[[.sp Try.prog 67 h0_0 0 0, .p (.sl true [])]], []⟩ (t_tree_printer_block o) ⟨[[.sp Try.prog 67 o.1 0 0, .own 0 5 1 (o.2.map (cNum .u8))]], [(o.2.map (cNum .u8)).length]⟩ := by
  intro p1 h0_0 o h
  unfold tree_printer_block at h
  refine CallOK.ofB mixed tbOk tree_printer_block_lv Try.func53 rfl (by kernel_rfl) (Nat.le_of_ble_eq_true rfl) rfl rfl rfl ?_
  refine view (lenMap _ _) rfl ?_
  refine st_bind h (fun o1 ho hk => ?_)
  refine Exists.intro (JP1 _ _ o1 (.exit 0) (tree_printer_block_L1_x0 p1)) (And.intro (T_le (τ := tree_printer_block_L1_st p1 0 h0_0 []) ?_ (TL.loop (tree_printer_block_L1_ok p1 0 h0_0 [] o1 ho))) (join1 ?_))
  · exact (Le.ownH 0 1 5 1 rfl rfl sizeNil).trans (Le.tow 1 1 rfl (.cons rfl (.refl _) (.cons rfl (.refl _) (.cons rfl (.refl _) (.cons rfl (.refl _) (.nil))))) (.refl _) rfl)
  have h := hk
  refine Exists.intro _ (And.intro (Le.refl _ _ _) ?_)
  exact st_retc (t := t_tree_printer_block) (ss := fun o => ⟨[[.sp Try.prog 67 o.1 0 0, .own 0 5 1 (o.2.map (cNum .u8))]], [(o.2.map (cNum .u8)).length]⟩) h ⟨[0], rfl, .refl _, .refl _, rfl⟩
noncomputable def tree_Print (p0 : (List api_Node)) : Option ((List UInt8) × Bool) :=
  tree_Is p0 >>= fun x1 =>
  if (!x1) then
    some ([], false)
  else
    tree_printer_block p0 false >>= fun x2 =>
    strings_Builder_Len_2 x2.1 x2.2 >>= fun x3 =>
    if (decide (x3 > 65536)) then
      some ([], false)
    else
      strings_Builder_String_2 x2.1 x2.2 >>= fun x4 =>
      some (x4, true)
set_option maxRecDepth 100000 in
set_option maxHeartbeats 4000000 in
theorem tree_Print_ok : ∀ (p0 : (List api_Node)) (o : (List UInt8) × Bool), tree_Print p0 = some o → PCall Try.prog 28 [.sl false (p0.map c_api_Node)] (t_tree_Print o) := by
  intro p0 o h
  unfold tree_Print at h
  refine PCall.ofB mixed tbOk tree_Print_lv Try.func28 rfl (by kernel_rfl) (Nat.le_of_ble_eq_true rfl) ?_
  refine st_call [.sl false (p0.map c_api_Node)] t_tree_Is h (fun x1 hy => (tree_Is_ok p0 x1 hy)) (fun x1 hy h => ?_)
  refine st_test h (fun hb h => ?_) (fun hb h => ?_)
  · refine st_ret (t := t_tree_Print) h ?_
    exact .refl _
  · refine st_callc _ _ h (fun x2 hy => ((tree_printer_block_ok p0 false x2 hy).fr [0] [] rfl rfl rfl)) (fun x2 hy h => ?_)
    refine st_callc _ _ h (fun x3 hy => ((strings_Builder_Len_2_ok x2.1 x2.2 x3 hy).fr [0] [0] rfl rfl rfl)) (fun x3 hy h => ?_)
    refine st_test h (fun hb h => ?_) (fun hb h => ?_)
    · refine st_ret (t := t_tree_Print) h ?_
      exact .refl _
    · refine st_callc _ _ h (fun x4 hy => ((strings_Builder_String_2_ok x2.1 x2.2 x4 hy).fr [0] [0] rfl rfl rfl)) (fun x4 hy h => ?_)
      refine st_ret (t := t_tree_Print) h ?_
      exact .refl _
noncomputable def nunciolaw19_awake : Option (Bool) :=
  tree_Print ([(api_Node.mk 9 [] [] 0 ([(api_Node.mk 5 [108, 97, 98, 101, 108, 115] [] 0 ([(api_Node.mk 4 [97] [] 0 [] [] [])]) [] [])]) [] [])]) >>= fun x1 =>
  tree_Print ([(api_Node.mk 10 [] [] 0 ([(api_Node.mk 3 [] [] 1 [] [] [])]) ([(api_Node.mk 8 [] [120] 0 [] [] [])]) [])]) >>= fun x2 =>
  ( if (x1.1 == [123, 123, 32, 97, 46, 108, 97, 98, 101, 108, 115, 32, 125, 125]) then
      if x1.2 then
        if (x2.1 == [123, 123, 32, 105, 102, 32, 116, 114, 117, 101, 32, 125, 125, 120, 123, 123, 32, 101, 110, 100, 32, 125, 125]) then
          some x2.2
        else
          some false
      else
        some false
    else
      some false : Option (Bool)) >>= fun o3 =>
  some o3
set_option maxRecDepth 100000 in
set_option maxHeartbeats 4000000 in
theorem nunciolaw19_awake_ok : ∀ (o : Bool), nunciolaw19_awake  = some o → PCall Try.prog 27 [] (t_nunciolaw19_awake o) := by
  intro o h
  unfold nunciolaw19_awake at h
  refine PCall.ofB mixed tbOk nunciolaw19_awake_lv Try.func27 rfl (by kernel_rfl) (Nat.le_of_ble_eq_true rfl) ?_
  refine st_call [.sl true [[iV 9, sV [], sV [], iV 0, .sl true [[iV 5, sV [108, 97, 98, 101, 108, 115], sV [], iV 0, .sl true [[iV 4, sV [97], sV [], iV 0, .sl true [], .sl true [], .sl true []]], .sl true [], .sl true []]], .sl true [], .sl true []]]] t_tree_Print h (fun x1 hy => (tree_Print_ok ([(api_Node.mk 9 [] [] 0 ([(api_Node.mk 5 [108, 97, 98, 101, 108, 115] [] 0 ([(api_Node.mk 4 [97] [] 0 [] [] [])]) [] [])]) [] [])]) x1 hy).weak (.cons (.no (.cons (.ceq (c_api_Node_eq _) (.cons (.refl _) (.cons (.refl _) (.cons (.refl _) (.cons (.refl _) (.cons (.no (.cons (.ceq (c_api_Node_eq _) (.cons (.refl _) (.cons (.refl _) (.cons (.refl _) (.cons (.refl _) (.cons (.no (.cons (.ceq (c_api_Node_eq _) (.cons (.refl _) (.cons (.refl _) (.cons (.refl _) (.cons (.refl _) (.cons (.not) (.cons (.not) (.cons (.not) (.nil))))))))) (.nil))) (.cons (.not) (.cons (.not) (.nil))))))))) (.nil))) (.cons (.not) (.cons (.not) (.nil))))))))) (.nil))) (.nil))) (fun x1 hy h => ?_)
  refine st_call [.sl true [[iV 10, sV [], sV [], iV 0, .sl true [[iV 3, sV [], sV [], iV 1, .sl true [], .sl true [], .sl true []]], .sl true [[iV 8, sV [], sV [120], iV 0, .sl true [], .sl true [], .sl true []]], .sl true []]]] t_tree_Print h (fun x2 hy => (tree_Print_ok ([(api_Node.mk 10 [] [] 0 ([(api_Node.mk 3 [] [] 1 [] [] [])]) ([(api_Node.mk 8 [] [120] 0 [] [] [])]) [])]) x2 hy).weak (.cons (.no (.cons (.ceq (c_api_Node_eq _) (.cons (.refl _) (.cons (.refl _) (.cons (.refl _) (.cons (.refl _) (.cons (.no (.cons (.ceq (c_api_Node_eq _) (.cons (.refl _) (.cons (.refl _) (.cons (.refl _) (.cons (.refl _) (.cons (.not) (.cons (.not) (.cons (.not) (.nil))))))))) (.nil))) (.cons (.no (.cons (.ceq (c_api_Node_eq _) (.cons (.refl _) (.cons (.refl _) (.cons (.refl _) (.cons (.refl _) (.cons (.not) (.cons (.not) (.cons (.not) (.nil))))))))) (.nil))) (.cons (.not) (.nil))))))))) (.nil))) (.nil))) (fun x2 hy h => ?_)
  refine st_bind h (fun o3 ho hk => ?_)
  refine Exists.intro (JP1 _ _ o3 .normal (nunciolaw19_awake_J0_0 )) (And.intro ?_ (join1 ?_))
  · have h := ho
    refine st_test h (fun hb h => ?_) (fun hb h => ?_)
    · refine st_test h (fun hb h => ?_) (fun hb h => ?_)
      · refine st_test h (fun hb h => ?_) (fun hb h => ?_)
        · exact JP1.a h (Le.tow 0 0 rfl (.cons rfl (.refl _) (.nil)) (.refl _) rfl)
        · exact JP1.a h (Le.tow 0 0 rfl (.cons rfl (.refl _) (.nil)) (.refl _) rfl)
      · refine bF ?_
        exact JP1.a h (Le.tow 0 0 rfl (.cons rfl (.refl _) (.nil)) (.refl _) rfl)
    · refine bF ?_
      refine bF ?_
      exact JP1.a h (Le.tow 0 0 rfl (.cons rfl (.refl _) (.nil)) (.refl _) rfl)
  · have h := hk
    refine st_ret (t := t_nunciolaw19_awake) h ?_
    exact .refl _
noncomputable def nunciolaw19_light (p0 : (List api_Node)) : Option ((List api_Node)) :=
  nunciolaw19_Light p0 15 60 >>= fun x1 =>
  some x1.1
set_option maxRecDepth 100000 in
set_option maxHeartbeats 4000000 in
theorem nunciolaw19_light_ok : ∀ (p0 : (List api_Node)) (o : (List api_Node)), nunciolaw19_light p0 = some o → PCall Try.prog 18 [.sl false (p0.map c_api_Node)] (t_nunciolaw19_light o) := by
  intro p0 o h
  unfold nunciolaw19_light at h
  refine PCall.ofB mixed tbOk nunciolaw19_light_lv Try.func18 rfl (by kernel_rfl) (Nat.le_of_ble_eq_true rfl) ?_
  refine st_call [.sl false (p0.map c_api_Node), iV 15, iV 60] t_nunciolaw19_Light h (fun x1 hy => (nunciolaw19_Light_ok p0 15 60 x1 hy)) (fun x1 hy h => ?_)
  refine st_ret (t := t_nunciolaw19_light) h ?_
  exact .refl _
mutual
noncomputable def slices_EqualFunc_api_Node_api_Node_api_Node_api_Node_tree_Same_1 (p0 : (List api_Node)) (p1 : (List api_Node)) : Option (Bool) :=
  if ((p0.length : Int) != (p1.length : Int)) then
    some false
  else
    (slices_EqualFunc_api_Node_api_Node_api_Node_api_Node_tree_Same_1_L1 p0 p1 0) >>= fun o1 =>
    match o1 with
    | .inl y2 =>
      some true
    | .inr y3 =>
      some false
  partial_fixpoint
noncomputable def slices_EqualFunc_api_Node_api_Node_api_Node_api_Node_tree_Same_1_L1 (p0 : (List api_Node)) (p1 : (List api_Node)) (v17 : Int) : Option (Unit ⊕ Unit) :=
  if (decide (v17 < (p0.length : Int))) then
    idx p0 v17 >>= fun x4 =>
    idx p1 v17 >>= fun x5 =>
    tree_Same_1 x4 x5 >>= fun x6 =>
    if (!x6) then
      some (.inr ())
    else
      slices_EqualFunc_api_Node_api_Node_api_Node_api_Node_tree_Same_1_L1 p0 p1 (wr (v17 + 1))
  else
    some (.inl ())
  partial_fixpoint
noncomputable def tree_Same_1 (p0 : api_Node) (p1 : api_Node) : Option (Bool) :=
  ( if (p0.Kind == p1.Kind) then
      if (p0.Name == p1.Name) then
        if (p0.Text == p1.Text) then
          if (p0.N == p1.N) then
            tree_Same p0.L p1.L >>= fun x2 =>
            if x2 then
              tree_Same p0.Then p1.Then >>= fun x3 =>
              if x3 then
                tree_Same p0.Else p1.Else >>= fun x4 =>
                some x4
              else
                some false
            else
              some false
          else
            some false
        else
          some false
      else
        some false
    else
      some false : Option (Bool)) >>= fun o1 =>
  some o1
  partial_fixpoint
noncomputable def tree_Same (p0 : (List api_Node)) (p1 : (List api_Node)) : Option (Bool) :=
  slices_EqualFunc_api_Node_api_Node_api_Node_api_Node_tree_Same_1 p0 p1 >>= fun x1 =>
  some x1
  partial_fixpoint
end
end Go.Proofs.Ytlhjieapkcnghaa
end
