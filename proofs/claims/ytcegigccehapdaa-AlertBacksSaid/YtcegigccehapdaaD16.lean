/- Plain functions, and that the program computes them (printed by a program of my own). -/
import Derived.Test.YtcegigccehapdaaDcI
set_option linter.unusedVariables false
set_option linter.unusedSimpArgs false
namespace Go.Proofs.Ytcegigccehapdaa
open Go.RowKit

structure api_Val where
  K : Int
  S : (List UInt8)
  N : Int
  B : Bool
  L : (List api_Val)
mutual
noncomputable def c_api_Val : api_Val → List V
  | ⟨x0, x1, x2, x3, x4⟩ => [iV x0, sV x1, iV x2, bV x3, .sl false (cs_api_Val x4)]
noncomputable def cs_api_Val : List api_Val → List (List V)
  | [] => []
  | x :: r => c_api_Val x :: cs_api_Val r
end
theorem cs_api_Val_map : ∀ l : List api_Val, cs_api_Val l = l.map c_api_Val
  | [] => rfl
  | x :: r => by rw [cs_api_Val, cs_api_Val_map r]; rfl
noncomputable def l_api_Val (x : api_Val) : List V := [iV x.K, sV x.S, iV x.N, bV x.B, .sl false (x.L.map c_api_Val)]
theorem c_api_Val_eq (x : api_Val) : c_api_Val x = l_api_Val x := by cases x; simp [c_api_Val, l_api_Val, cs_api_Val_map]
structure kind_field where
  of_ : Int
  name_ : (List UInt8)
  is_ : Int
noncomputable def c_kind_field (x : kind_field) : List V := [iV x.of_, sV x.name_, iV x.is_]
noncomputable def t_R15_Elem (y : Int × Bool) : D := .tup [.p (iV y.1), .p (bV y.2)]
noncomputable def R15_Elem_lv : List (Nat × List Nat) := [(0, [0]), (1, [0, 5]), (2, [2, 3]), (3, [0, 7]), (4, [2, 3]), (5, [9]), (6, [2, 3]), (7, [2, 3])]
noncomputable def t_R15_Field (y : Int × Bool) : D := .tup [.p (iV y.1), .p (bV y.2)]
noncomputable def R15_Field_lv : List (Nat × List Nat) := [(0, [0, 1]), (1, [1, 6, 7]), (2, [1, 6, 7, 8]), (3, [1, 6, 7, 8, 17]), (4, [1, 6, 7, 8]), (5, [1, 6, 7, 8, 25]), (6, [4, 5]), (7, [4, 5]), (1000003, [1, 6, 7, 8])]
noncomputable def R15_Field_L1_st (p1 : (List UInt8)) (x1 : (List (List UInt8)) × (List Int)) (v8 : Int) : St := ⟨[(1, .p (sV p1)), (6, .p (.sl false (x1.1.map cStr))), (7, .p (.sl false (x1.2.map cInt))), (8, .p (iV v8))], ⟨[], []⟩⟩
noncomputable def R15_Field_L1_x0 (p1 : (List UInt8)) (x1 : (List (List UInt8)) × (List Int)) (y3 : Unit) : St := ⟨[], ⟨[], []⟩⟩
noncomputable def R15_Field_L1_x1 (p1 : (List UInt8)) (x1 : (List (List UInt8)) × (List Int)) (y4 : Int) : St := ⟨[(4, .p (iV y4)), (5, .p (bV true))], ⟨[], []⟩⟩
noncomputable def R15_Field_L1_c : Code := ((loopsOf (Try.f26.body.getD .skip)).getD 0 .skip)
noncomputable def t_R15_Fields (y : (List (List UInt8))) : D := .p (.sl false (y.map cStr))
noncomputable def R15_Fields_lv : List (Nat × List Nat) := [(0, [0]), (1, [3]), (2, [2])]
noncomputable def t_R15_Plain (y : Bool) : D := .p (bV y)
noncomputable def R15_Plain_lv : List (Nat × List Nat) := [(0, [0]), (1, [2]), (3000001, [])]
noncomputable def R15_Plain_J0_0  (o1 : Bool) : St := ⟨[(2, .p (bV o1))], ⟨[], []⟩⟩
noncomputable def t_R15_fields (y : (List (List UInt8)) × (List Int)) : D := .tup [.p (.sl false (y.1.map cStr)), .p (.sl false (y.2.map cInt))]
noncomputable def R15_fields_lv : List (Nat × List Nat) := [(0, [0]), (1, [0, 5]), (2, [2, 3]), (3, [0, 9]), (4, [2, 3]), (5, [13]), (6, [2, 3]), (7, [2, 3])]
noncomputable def t_R16_Find (y : (List UInt8) × Bool) : D := .tup [.p (sV y.1), .p (bV y.2)]
noncomputable def R16_Find_lv : List (Nat × List Nat) := [(0, [1, 2]), (1, [1, 2, 14]), (2, [4, 5]), (3, [1, 2, 6]), (4, [1, 2, 6, 19]), (5, [1, 2, 6]), (6, [1, 2, 6, 32]), (7, [4, 5]), (8, [4, 5]), (1000004, [1, 2, 6]), (3000001, [])]
noncomputable def R16_Find_J0_0 (p0 : api_Val) (p1 : (List UInt8)) (o1 : Bool) : St := ⟨[(1, .p (sV p1)), (2, .ptr 0 0), (14, .p (bV o1))], ⟨[[.p (iV p0.K), .p (sV p0.S), .p (iV p0.N), .p (bV p0.B), .p (.sl false (p0.L.map c_api_Val))]], []⟩⟩
noncomputable def R16_Find_L1_st (p0 : api_Val) (p1 : (List UInt8)) (v6 : Int) : St := ⟨[(1, .p (sV p1)), (2, .ptr 0 0), (6, .p (iV v6))], ⟨[[.p (iV p0.K), .p (sV p0.S), .p (iV p0.N), .p (bV p0.B), .p (.sl false (p0.L.map c_api_Val))]], []⟩⟩
noncomputable def R16_Find_L1_x0 (p0 : api_Val) (p1 : (List UInt8)) (y4 : Unit) : St := ⟨[], ⟨[[.p (iV p0.K), .p (sV p0.S), .p (iV p0.N), .p (bV p0.B), .p (.sl false (p0.L.map c_api_Val))]], []⟩⟩
noncomputable def R16_Find_L1_x1 (p0 : api_Val) (p1 : (List UInt8)) (y5 : (List UInt8)) : St := ⟨[(4, .p (sV y5)), (5, .p (bV true))], ⟨[[.p (iV p0.K), .p (sV p0.S), .p (iV p0.N), .p (bV p0.B), .p (.sl false (p0.L.map c_api_Val))]], []⟩⟩
noncomputable def R16_Find_L1_c : Code := ((loopsOf (Try.f25.body.getD .skip)).getD 0 .skip)
noncomputable def t_R16_Get (y : api_Val × Bool) : D := .tup [.p (.agg [iV y.1.K, sV y.1.S, iV y.1.N, bV y.1.B, .sl false (y.1.L.map c_api_Val)]), .p (bV y.2)]
noncomputable def R16_Get_lv : List (Nat × List Nat) := [(0, [1, 2, 4]), (1, [1, 2, 4, 10]), (2, [4, 5]), (3, [1, 2, 4, 6]), (4, [1, 2, 4, 6, 7]), (5, [1, 2, 4, 6, 7, 18]), (6, [1, 2, 4, 6, 7]), (7, [1, 2, 4, 6, 7, 26]), (8, [4, 5]), (9, [4, 5]), (1000005, [1, 2, 4, 6, 7])]
noncomputable def R16_Get_L1_st (p0 : api_Val) (p1 : (List UInt8)) (x2 : (List (List UInt8))) (v7 : Int) : St := ⟨[(1, .p (sV p1)), (2, .ptr 0 0), (4, .ptr 1 0), (6, .p (.sl false (x2.map cStr))), (7, .p (iV v7))], ⟨[[.p (iV p0.K), .p (sV p0.S), .p (iV p0.N), .p (bV p0.B), .p (.sl false (p0.L.map c_api_Val))], [.p (iV 0), .p (sV []), .p (iV 0), .p (bV false), .p (.sl true [])]], []⟩⟩
noncomputable def R16_Get_L1_x0 (p0 : api_Val) (p1 : (List UInt8)) (x2 : (List (List UInt8))) (y4 : Unit) : St := ⟨[(4, .ptr 1 0)], ⟨[[.p (iV p0.K), .p (sV p0.S), .p (iV p0.N), .p (bV p0.B), .p (.sl false (p0.L.map c_api_Val))], [.p (iV 0), .p (sV []), .p (iV 0), .p (bV false), .p (.sl true [])]], []⟩⟩
noncomputable def R16_Get_L1_x1 (p0 : api_Val) (p1 : (List UInt8)) (x2 : (List (List UInt8))) (y5 : Int × (List UInt8) × Int × Bool × (List api_Val)) : St := ⟨[(4, .ptr 1 0), (5, .p (bV true))], ⟨[[.p (iV p0.K), .p (sV p0.S), .p (iV p0.N), .p (bV p0.B), .p (.sl false (p0.L.map c_api_Val))], [.p (iV y5.1), .p (sV y5.2.1), .p (iV y5.2.2.1), .p (bV y5.2.2.2.1), .p (.sl false (y5.2.2.2.2.map c_api_Val))]], []⟩⟩
noncomputable def R16_Get_L1_c : Code := ((loopsOf (Try.f23.body.getD .skip)).getD 0 .skip)
noncomputable def t_R16_Is (y : Bool) : D := .p (bV y)
noncomputable def R16_Is_lv : List (Nat × List Nat) := [(0, [1]), (1, [1, 15]), (2, [2]), (3, [1, 42]), (4, [2]), (5, [1, 45]), (6, [2]), (7, [1, 3, 4]), (8, [1, 3, 4, 5]), (9, [1, 3, 4, 5, 77]), (10, [2]), (11, [1, 3, 4, 5, 6]), (12, [1, 3, 4, 5, 6, 82]), (13, [1, 3, 4, 5, 6]), (14, [1, 3, 4, 5, 6, 7]), (15, [1, 3, 4, 5, 6, 7, 87]), (16, [1, 3, 4, 5, 6, 7]), (17, [1, 3, 4, 5, 6, 114]), (18, [2]), (19, [2]), (1000012, [1, 3, 4, 5, 6]), (2015005, []), (3000001, []), (3000003, []), (3000009, []), (3000017, [])]
noncomputable def R16_Is_J0_0 (p0 : api_Val) (o1 : Bool) : St := ⟨[(1, .ptr 0 0), (15, .p (bV o1))], ⟨[[.p (iV p0.K), .p (sV p0.S), .p (iV p0.N), .p (bV p0.B), .p (.sl false (p0.L.map c_api_Val))]], []⟩⟩
noncomputable def R16_Is_J1_0 (p0 : api_Val) (o2 : Bool) : St := ⟨[(1, .ptr 0 0), (42, .p (bV o2))], ⟨[[.p (iV p0.K), .p (sV p0.S), .p (iV p0.N), .p (bV p0.B), .p (.sl false (p0.L.map c_api_Val))]], []⟩⟩
noncomputable def R16_Is_J2_0 (p0 : api_Val) (x4 : Int × Bool) (x5 : (List (List UInt8))) (o6 : Bool) : St := ⟨[(1, .ptr 0 0), (3, .p (iV x4.1)), (4, .p (bV x4.2)), (5, .p (.sl false (x5.map cStr))), (77, .p (bV o6))], ⟨[[.p (iV p0.K), .p (sV p0.S), .p (iV p0.N), .p (bV p0.B), .p (.sl false (p0.L.map c_api_Val))]], []⟩⟩
noncomputable def R16_Is_J3_0 (p0 : api_Val) (x4 : Int × Bool) (x5 : (List (List UInt8))) (v6 : Int) (o10 : Int) : St := ⟨[(1, .ptr 0 0), (3, .p (iV x4.1)), (4, .p (bV x4.2)), (5, .p (.sl false (x5.map cStr))), (6, .p (iV v6)), (7, .p (iV o10))], ⟨[[.p (iV p0.K), .p (sV p0.S), .p (iV p0.N), .p (bV p0.B), .p (.sl false (p0.L.map c_api_Val))]], []⟩⟩
noncomputable def R16_Is_J4_0 (p0 : api_Val) (x4 : Int × Bool) (x5 : (List (List UInt8))) (v6 : Int) (o13 : Bool) : St := ⟨[(1, .ptr 0 0), (3, .p (iV x4.1)), (4, .p (bV x4.2)), (5, .p (.sl false (x5.map cStr))), (6, .p (iV v6)), (114, .p (bV o13))], ⟨[[.p (iV p0.K), .p (sV p0.S), .p (iV p0.N), .p (bV p0.B), .p (.sl false (p0.L.map c_api_Val))]], []⟩⟩
noncomputable def R16_Is_L1_st (p0 : api_Val) (x4 : Int × Bool) (x5 : (List (List UInt8))) (v6 : Int) : St := ⟨[(1, .ptr 0 0), (3, .p (iV x4.1)), (4, .p (bV x4.2)), (5, .p (.sl false (x5.map cStr))), (6, .p (iV v6))], ⟨[[.p (iV p0.K), .p (sV p0.S), .p (iV p0.N), .p (bV p0.B), .p (.sl false (p0.L.map c_api_Val))]], []⟩⟩
noncomputable def R16_Is_L1_x0 (p0 : api_Val) (x4 : Int × Bool) (x5 : (List (List UInt8))) (y8 : Unit) : St := ⟨[], ⟨[[.p (iV p0.K), .p (sV p0.S), .p (iV p0.N), .p (bV p0.B), .p (.sl false (p0.L.map c_api_Val))]], []⟩⟩
noncomputable def R16_Is_L1_x1 (p0 : api_Val) (x4 : Int × Bool) (x5 : (List (List UInt8))) (y9 : Unit) : St := ⟨[(2, .p (bV false))], ⟨[[.p (iV p0.K), .p (sV p0.S), .p (iV p0.N), .p (bV p0.B), .p (.sl false (p0.L.map c_api_Val))]], []⟩⟩
noncomputable def R16_Is_L1_c : Code := ((loopsOf (Try.f40.body.getD .skip)).getD 0 .skip)
noncomputable def t_R16_List (y : api_Val × Bool) : D := .tup [.p (.agg [iV y.1.K, sV y.1.S, iV y.1.N, bV y.1.B, .sl false (y.1.L.map c_api_Val)]), .p (bV y.2)]
noncomputable def R16_List_lv : List (Nat × List Nat) := [(0, [0, 1, 4]), (1, [0, 4, 6]), (2, [4, 6, 8]), (3, [4, 6, 23]), (4, [4, 5]), (5, [4, 5]), (3000003, [])]
noncomputable def R16_List_J0_0 (p0 : Int) (p1 : (List api_Val)) (o2 : Bool) : St := ⟨[(4, .ptr 0 0), (6, .ptr 1 0), (23, .p (bV o2))], ⟨[[.p (iV 0), .p (sV []), .p (iV 0), .p (bV false), .p (.sl true [])], [.p (iV p0), .p (sV []), .p (iV 0), .p (bV false), .p (.sl false (p1.map c_api_Val))]], []⟩⟩
noncomputable def t_R16_Pair (y : api_Val) : D := .p (.agg [iV y.K, sV y.S, iV y.N, bV y.B, .sl false (y.L.map c_api_Val)])
noncomputable def R16_Pair_lv : List (Nat × List Nat) := [(0, [0, 1, 4]), (1, [4])]
noncomputable def t_R16_Same (y : Bool) : D := .p (bV y)
noncomputable def R16_Same_lv : List (Nat × List Nat) := [(0, [2, 3]), (1, [2, 3, 40]), (2, [4]), (3, [2, 3, 5]), (4, [2, 3, 5, 45]), (5, [2, 3, 5]), (6, [2, 3, 5, 59]), (7, [4]), (8, [4]), (1000004, [2, 3, 5]), (3000001, [])]
noncomputable def R16_Same_J0_0 (p0 : api_Val) (p1 : api_Val) (o1 : Bool) : St := ⟨[(2, .ptr 0 0), (3, .ptr 1 0), (40, .p (bV o1))], ⟨[[.p (iV p0.K), .p (sV p0.S), .p (iV p0.N), .p (bV p0.B), .p (.sl false (p0.L.map c_api_Val))], [.p (iV p1.K), .p (sV p1.S), .p (iV p1.N), .p (bV p1.B), .p (.sl false (p1.L.map c_api_Val))]], []⟩⟩
noncomputable def R16_Same_L1_st (p0 : api_Val) (p1 : api_Val) (v5 : Int) : St := ⟨[(2, .ptr 0 0), (3, .ptr 1 0), (5, .p (iV v5))], ⟨[[.p (iV p0.K), .p (sV p0.S), .p (iV p0.N), .p (bV p0.B), .p (.sl false (p0.L.map c_api_Val))], [.p (iV p1.K), .p (sV p1.S), .p (iV p1.N), .p (bV p1.B), .p (.sl false (p1.L.map c_api_Val))]], []⟩⟩
noncomputable def R16_Same_L1_x0 (p0 : api_Val) (p1 : api_Val) (y3 : Unit) : St := ⟨[], ⟨[[.p (iV p0.K), .p (sV p0.S), .p (iV p0.N), .p (bV p0.B), .p (.sl false (p0.L.map c_api_Val))], [.p (iV p1.K), .p (sV p1.S), .p (iV p1.N), .p (bV p1.B), .p (.sl false (p1.L.map c_api_Val))]], []⟩⟩
noncomputable def R16_Same_L1_x1 (p0 : api_Val) (p1 : api_Val) (y4 : Unit) : St := ⟨[(4, .p (bV false))], ⟨[[.p (iV p0.K), .p (sV p0.S), .p (iV p0.N), .p (bV p0.B), .p (.sl false (p0.L.map c_api_Val))], [.p (iV p1.K), .p (sV p1.S), .p (iV p1.N), .p (bV p1.B), .p (.sl false (p1.L.map c_api_Val))]], []⟩⟩
noncomputable def R16_Same_L1_c : Code := ((loopsOf (Try.f19.body.getD .skip)).getD 0 .skip)
noncomputable def t_R16_Text (y : api_Val) : D := .p (.agg [iV y.K, sV y.S, iV y.N, bV y.B, .sl false (y.L.map c_api_Val)])
noncomputable def R16_Text_lv : List (Nat × List Nat) := [(0, [0, 2]), (1, [2])]
noncomputable def t_R16_Weight (y : Int) : D := .p (iV y)
noncomputable def R16_Weight_lv : List (Nat × List Nat) := [(0, [1]), (1, [1, 3]), (2, [1, 3, 4]), (3, [1, 3, 4, 9]), (4, [1, 3, 4]), (5, [1, 3, 4]), (6, [2]), (1000003, [1, 3, 4])]
noncomputable def R16_Weight_L1_st (p0 : api_Val) (v3 : Int) (v4 : Int) : St := ⟨[(1, .ptr 0 0), (3, .p (iV v3)), (4, .p (iV v4))], ⟨[[.p (iV p0.K), .p (sV p0.S), .p (iV p0.N), .p (bV p0.B), .p (.sl false (p0.L.map c_api_Val))]], []⟩⟩
noncomputable def R16_Weight_L1_x0 (p0 : api_Val) (o1 : Int) : St := ⟨[(3, .p (iV o1))], ⟨[[.p (iV p0.K), .p (sV p0.S), .p (iV p0.N), .p (bV p0.B), .p (.sl false (p0.L.map c_api_Val))]], []⟩⟩
noncomputable def R16_Weight_L1_c : Code := ((loopsOf (Try.f42.body.getD .skip)).getD 0 .skip)
noncomputable def t_kind_Elem (y : Int × Bool) : D := .tup [.p (iV y.1), .p (bV y.2)]
noncomputable def kind_Elem_lv : List (Nat × List Nat) := [(0, [0]), (1, [4]), (2, [4, 5]), (3, [2, 3]), (4, [4, 7]), (5, [2, 3]), (6, [9]), (7, [2, 3]), (8, [2, 3])]
noncomputable def t_kind_Field (y : Int × Bool) : D := .tup [.p (iV y.1), .p (bV y.2)]
noncomputable def kind_Field_lv : List (Nat × List Nat) := [(0, [0, 1]), (1, [0, 1, 8, 9, 10]), (2, [0, 1, 8, 9, 10, 11]), (3, [0, 1, 7, 8, 9, 10]), (4, [0, 1, 7, 8, 9, 10, 23]), (5, [4, 5]), (6, [0, 1, 8, 9, 10]), (7, [4, 5]), (1000002, [0, 1, 8, 9, 10]), (3000004, [])]
noncomputable def kind_Field_J0_0 (p0 : Int) (p1 : (List UInt8)) (x1 : (List kind_field)) (v10 : Int) (x5 : kind_field) (o6 : Bool) : St := ⟨[(0, .p (iV p0)), (1, .p (sV p1)), (7, .ptr 0 0), (8, .p (.sl false (x1.map c_kind_field))), (9, .p (iV (x1.length : Int))), (10, .p (iV v10)), (23, .p (bV o6))], ⟨[[.p (iV x5.of_), .p (sV x5.name_), .p (iV x5.is_)]], []⟩⟩
noncomputable def kind_Field_L1_st (p0 : Int) (p1 : (List UInt8)) (x1 : (List kind_field)) (v10 : Int) : St := ⟨[(0, .p (iV p0)), (1, .p (sV p1)), (8, .p (.sl false (x1.map c_kind_field))), (9, .p (iV (x1.length : Int))), (10, .p (iV v10))], ⟨[], []⟩⟩
noncomputable def kind_Field_L1_x0 (p0 : Int) (p1 : (List UInt8)) (x1 : (List kind_field)) (y3 : Unit) : St := ⟨[], ⟨[], []⟩⟩
noncomputable def kind_Field_L1_x1 (p0 : Int) (p1 : (List UInt8)) (x1 : (List kind_field)) (y4 : Int) : St := ⟨[(4, .p (iV y4)), (5, .p (bV true))], ⟨[], []⟩⟩
noncomputable def kind_Field_L1_c : Code := ((loopsOf (Try.f66.body.getD .skip)).getD 0 .skip)
noncomputable def t_kind_Fields (y : (List (List UInt8))) : D := .p (.sl false (y.map cStr))
noncomputable def kind_Fields_lv : List (Nat × List Nat) := [(0, [0]), (1, [0, 3]), (2, [0, 3, 6, 7, 8]), (3, [0, 3, 6, 7, 8, 9]), (4, [0, 3, 5, 6, 7, 8]), (5, [0, 3, 5, 6, 7, 8, 15]), (6, [0, 3, 6, 7, 8]), (7, [0, 3, 6, 7, 8]), (8, [2]), (1000003, [0, 3, 6, 7, 8])]
noncomputable def kind_Fields_L1_st (p0 : Int) (x1 : (List kind_field)) (v3 : (List (List UInt8))) (v8 : Int) : St := ⟨[(0, .p (iV p0)), (3, .own 0 9 1 (v3.map cStr)), (6, .p (.sl false (x1.map c_kind_field))), (7, .p (iV (x1.length : Int))), (8, .p (iV v8))], ⟨[], [(v3.map cStr).length]⟩⟩
noncomputable def kind_Fields_L1_x0 (p0 : Int) (x1 : (List kind_field)) (o2 : (List (List UInt8))) : St := ⟨[(3, .own 0 9 1 (o2.map cStr))], ⟨[], [(o2.map cStr).length]⟩⟩
noncomputable def kind_Fields_L1_c : Code := ((loopsOf (Try.f65.body.getD .skip)).getD 0 .skip)
noncomputable def t_kind_Plain (y : Bool) : D := .p (bV y)
noncomputable def kind_Plain_lv : List (Nat × List Nat) := [(0, [0]), (1, [2]), (3000001, [])]
noncomputable def kind_Plain_J0_0  (o1 : Bool) : St := ⟨[(2, .p (bV o1))], ⟨[], []⟩⟩
noncomputable def t_kind_table (y : (List kind_field)) : D := .p (.sl false (y.map c_kind_field))
noncomputable def kind_table_lv : List (Nat × List Nat) := [(0, []), (1, [0])]
noncomputable def t_nunciolaw16_Light (y : api_Val) : D := .p (.agg [iV y.K, sV y.S, iV y.N, bV y.B, .sl false (y.L.map c_api_Val)])
noncomputable def nunciolaw16_Light_lv : List (Nat × List Nat) := [(0, [1, 2, 4]), (1, [1, 2, 4, 5]), (2, [1, 2, 4, 5, 6]), (3, [1, 2, 4, 5, 6, 33]), (4, [1, 2, 4, 5, 6]), (5, [1, 2, 4, 5, 6]), (6, [4]), (1000003, [1, 2, 4, 5, 6]), (3000003, [])]
noncomputable def nunciolaw16_Light_J0_0 (p0 : api_Val) (p1 : Int) (x1 : (List UInt8)) (v6 : Int) (h2_4 : (List api_Val)) (o3 : Bool) : St := ⟨[(1, .p (iV p1)), (2, .ptr 0 0), (4, .ptr 1 0), (5, .ptr 2 0), (6, .p (iV v6)), (33, .p (bV o3))], ⟨[[.p (iV p0.K), .p (sV p0.S), .p (iV p0.N), .p (bV p0.B), .p (.sl false (p0.L.map c_api_Val))], [.p (iV 0), .p (sV []), .p (iV 0), .p (bV false), .p (.sl true [])], [.p (iV p0.K), .p (sV x1), .p (iV p0.N), .p (bV p0.B), .own 0 27 5 (h2_4.map c_api_Val)]], [(h2_4.map c_api_Val).length]⟩⟩
noncomputable def nunciolaw16_Light_L1_st (p0 : api_Val) (p1 : Int) (x1 : (List UInt8)) (v6 : Int) (h2_4 : (List api_Val)) : St := ⟨[(1, .p (iV p1)), (2, .ptr 0 0), (4, .ptr 1 0), (5, .ptr 2 0), (6, .p (iV v6))], ⟨[[.p (iV p0.K), .p (sV p0.S), .p (iV p0.N), .p (bV p0.B), .p (.sl false (p0.L.map c_api_Val))], [.p (iV 0), .p (sV []), .p (iV 0), .p (bV false), .p (.sl true [])], [.p (iV p0.K), .p (sV x1), .p (iV p0.N), .p (bV p0.B), .own 0 27 5 (h2_4.map c_api_Val)]], [(h2_4.map c_api_Val).length]⟩⟩
noncomputable def nunciolaw16_Light_L1_x0 (p0 : api_Val) (p1 : Int) (x1 : (List UInt8)) (o2 : (List api_Val)) : St := ⟨[(4, .ptr 1 0), (5, .ptr 2 0)], ⟨[[.p (iV p0.K), .p (sV p0.S), .p (iV p0.N), .p (bV p0.B), .p (.sl false (p0.L.map c_api_Val))], [.p (iV 0), .p (sV []), .p (iV 0), .p (bV false), .p (.sl true [])], [.p (iV p0.K), .p (sV x1), .p (iV p0.N), .p (bV p0.B), .own 0 27 5 (o2.map c_api_Val)]], [(o2.map c_api_Val).length]⟩⟩
noncomputable def nunciolaw16_Light_L1_c : Code := ((loopsOf (Try.f16.body.getD .skip)).getD 0 .skip)
noncomputable def t_nunciolaw16_SchemaGets (y : Bool) : D := .p (bV y)
noncomputable def nunciolaw16_SchemaGets_lv : List (Nat × List Nat) := [(0, [1, 2]), (1, [1, 2]), (2, [1, 2, 5, 6]), (3, [1, 2, 5, 6, 7, 8]), (4, [1, 2, 5, 6, 7, 8, 9, 10]), (5, [1, 2, 5, 6, 7, 8, 9, 10, 11, 12]), (6, [5, 6, 7, 8, 9, 10, 11, 12, 13, 14]), (7, [5, 6, 13, 14, 66]), (8, [4]), (9, [4]), (3000007, []), (3000009, [])]
noncomputable def nunciolaw16_SchemaGets_J0_0 (x1 : api_Val) (x2 : api_Val × Bool) (x3 : api_Val × Bool) (x6 : Int × Bool) (o7 : Bool) : St := ⟨[(5, .ptr 1 0), (6, .p (bV x2.2)), (13, .p (iV x6.1)), (14, .p (bV x6.2)), (66, .p (bV o7))], ⟨[[.p (iV x1.K), .p (sV x1.S), .p (iV x1.N), .p (bV x1.B), .p (.sl false (x1.L.map c_api_Val))], [.p (iV x2.1.K), .p (sV x2.1.S), .p (iV x2.1.N), .p (bV x2.1.B), .p (.sl false (x2.1.L.map c_api_Val))], [.p (iV x3.1.K), .p (sV x3.1.S), .p (iV x3.1.N), .p (bV x3.1.B), .p (.sl false (x3.1.L.map c_api_Val))]], []⟩⟩
noncomputable def nunciolaw16_SchemaGets_J1_0 (x1 : api_Val) (x2 : api_Val × Bool) (x3 : api_Val × Bool) (o9 : Bool) : St := ⟨[(4, .p (bV o9))], ⟨[[.p (iV x1.K), .p (sV x1.S), .p (iV x1.N), .p (bV x1.B), .p (.sl false (x1.L.map c_api_Val))], [.p (iV x2.1.K), .p (sV x2.1.S), .p (iV x2.1.N), .p (bV x2.1.B), .p (.sl false (x2.1.L.map c_api_Val))], [.p (iV x3.1.K), .p (sV x3.1.S), .p (iV x3.1.N), .p (bV x3.1.B), .p (.sl false (x3.1.L.map c_api_Val))]], []⟩⟩
noncomputable def t_nunciolaw16_SchemaIs (y : Bool) : D := .p (bV y)
noncomputable def nunciolaw16_SchemaIs_lv : List (Nat × List Nat) := [(0, [2, 3]), (1, [2, 3]), (2, [4]), (3000002, [])]
noncomputable def nunciolaw16_SchemaIs_J0_0 (x1 : api_Val) (x2 : api_Val) (o3 : Bool) : St := ⟨[(4, .p (bV o3))], ⟨[[.p (iV x1.K), .p (sV x1.S), .p (iV x1.N), .p (bV x1.B), .p (.sl false (x1.L.map c_api_Val))], [.p (iV x2.K), .p (sV x2.S), .p (iV x2.N), .p (bV x2.B), .p (.sl false (x2.L.map c_api_Val))]], []⟩⟩
noncomputable def t_nunciolaw16_SchemaLists (y : Bool) : D := .p (bV y)
noncomputable def nunciolaw16_SchemaLists_lv : List (Nat × List Nat) := [(0, [0, 1]), (1, [0, 1, 5]), (2, [0, 1, 5, 6]), (3, [0, 1, 5, 6, 19]), (4, [0, 1, 5, 6]), (5, [0, 1, 5, 6]), (6, [0, 5, 7, 8]), (7, [7, 8, 9, 10]), (8, [4]), (1000003, [0, 1, 5, 6]), (3000003, []), (3000008, [])]
noncomputable def nunciolaw16_SchemaLists_J0_0 (p0 : Int) (p1 : (List api_Val)) (v5 : (List api_Val)) (v6 : Int) (o2 : Bool) : St := ⟨[(0, .p (iV p0)), (1, .p (.sl false (p1.map c_api_Val))), (5, .own 0 27 5 (v5.map c_api_Val)), (6, .p (iV v6)), (19, .p (bV o2))], ⟨[], [(v5.map c_api_Val).length]⟩⟩
noncomputable def nunciolaw16_SchemaLists_L1_st (p0 : Int) (p1 : (List api_Val)) (v5 : (List api_Val)) (v6 : Int) : St := ⟨[(0, .p (iV p0)), (1, .p (.sl false (p1.map c_api_Val))), (5, .own 0 27 5 (v5.map c_api_Val)), (6, .p (iV v6))], ⟨[], [(v5.map c_api_Val).length]⟩⟩
noncomputable def nunciolaw16_SchemaLists_L1_x0 (p0 : Int) (p1 : (List api_Val)) (o1 : (List api_Val)) : St := ⟨[(0, .p (iV p0)), (5, .own 0 27 5 (o1.map c_api_Val))], ⟨[], [(o1.map c_api_Val).length]⟩⟩
noncomputable def nunciolaw16_SchemaLists_L1_c : Code := ((loopsOf (Try.f4.body.getD .skip)).getD 0 .skip)
noncomputable def nunciolaw16_SchemaLists_J1_0 (o1 : (List api_Val)) (x6 : api_Val × Bool) (x7 : api_Val × Bool) (o8 : Bool) : St := ⟨[(4, .p (bV o8))], ⟨[[.p (iV x6.1.K), .p (sV x6.1.S), .p (iV x6.1.N), .p (bV x6.1.B), .p (.sl false (x6.1.L.map c_api_Val))], [.p (iV x7.1.K), .p (sV x7.1.S), .p (iV x7.1.N), .p (bV x7.1.B), .p (.sl false (x7.1.L.map c_api_Val))]], [(o1.map c_api_Val).length]⟩⟩
noncomputable def t_nunciolaw16_SchemaLong (y : Bool) : D := .p (bV y)
noncomputable def nunciolaw16_SchemaLong_lv : List (Nat × List Nat) := [(0, [0]), (1, [0, 3]), (2, [0, 3, 4]), (3, [0, 3, 4, 12]), (4, [0, 3, 4]), (5, [0, 3, 4]), (6, [3, 5, 6]), (7, [2]), (1000003, [0, 3, 4]), (3000007, [])]
noncomputable def nunciolaw16_SchemaLong_L1_st (p0 : Int) (v3 : (List api_Val)) (v4 : Int) : St := ⟨[(0, .p (nV .u16 p0)), (3, .own 0 27 5 (v3.map c_api_Val)), (4, .p (iV v4))], ⟨[], [(v3.map c_api_Val).length]⟩⟩
noncomputable def nunciolaw16_SchemaLong_L1_x0 (p0 : Int) (o1 : (List api_Val)) : St := ⟨[(3, .own 0 27 5 (o1.map c_api_Val))], ⟨[], [(o1.map c_api_Val).length]⟩⟩
noncomputable def nunciolaw16_SchemaLong_L1_c : Code := ((loopsOf (Try.f5.body.getD .skip)).getD 0 .skip)
noncomputable def nunciolaw16_SchemaLong_J0_0 (o1 : (List api_Val)) (x3 : api_Val × Bool) (o4 : Bool) : St := ⟨[(2, .p (bV o4))], ⟨[[.p (iV x3.1.K), .p (sV x3.1.S), .p (iV x3.1.N), .p (bV x3.1.B), .p (.sl false (x3.1.L.map c_api_Val))]], [(o1.map c_api_Val).length]⟩⟩
noncomputable def t_nunciolaw16_SchemaMakes (y : Bool) : D := .p (bV y)
noncomputable def nunciolaw16_SchemaMakes_lv : List (Nat × List Nat) := [(0, [0, 1, 2, 3]), (1, [0, 1, 2, 3, 9]), (2, [9, 10]), (3, [9, 10, 11]), (4, [9, 10, 11, 33]), (5, [9, 10, 11]), (6, [9, 10, 11, 53]), (7, [8]), (8, [8]), (1000004, [9, 10, 11]), (3000006, [])]
noncomputable def nunciolaw16_SchemaMakes_J0_0 (v9 : (List api_Val)) (v10 : (List api_Val)) (v11 : Int) (o10 : Bool) : St := ⟨[(9, .p (.sl true (v9.map c_api_Val))), (10, .p (.sl true (v10.map c_api_Val))), (11, .p (iV v11)), (53, .p (bV o10))], ⟨[], []⟩⟩
noncomputable def nunciolaw16_SchemaMakes_L1_st  (v9 : (List api_Val)) (v10 : (List api_Val)) (v11 : Int) : St := ⟨[(9, .p (.sl true (v9.map c_api_Val))), (10, .p (.sl true (v10.map c_api_Val))), (11, .p (iV v11))], ⟨[], []⟩⟩
noncomputable def nunciolaw16_SchemaMakes_L1_x0  (y8 : Unit) : St := ⟨[], ⟨[], []⟩⟩
noncomputable def nunciolaw16_SchemaMakes_L1_x1  (y9 : Unit) : St := ⟨[(8, .p (bV false))], ⟨[], []⟩⟩
noncomputable def nunciolaw16_SchemaMakes_L1_c : Code := ((loopsOf (Try.f7.body.getD .skip)).getD 0 .skip)
noncomputable def t_nunciolaw16_awake (y : Bool) : D := .p (bV y)
noncomputable def nunciolaw16_awake_lv : List (Nat × List Nat) := [(0, []), (1, [1, 2]), (2, [1, 2, 3, 4]), (3, [1, 2, 4, 5, 6]), (4, [1, 2, 4, 5, 6, 8]), (5, [0]), (3000005, [])]
noncomputable def nunciolaw16_awake_J0_0 (x2 : api_Val × Bool) (x5 : api_Val × Bool) (x8 : api_Val × Bool) (o9 : Bool) : St := ⟨[(0, .p (bV o9))], ⟨[[.p (iV x2.1.K), .p (sV x2.1.S), .p (iV x2.1.N), .p (bV x2.1.B), .p (.sl false (x2.1.L.map c_api_Val))], [.p (iV x5.1.K), .p (sV x5.1.S), .p (iV x5.1.N), .p (bV x5.1.B), .p (.sl false (x5.1.L.map c_api_Val))], [.p (iV x8.1.K), .p (sV x8.1.S), .p (iV x8.1.N), .p (bV x8.1.B), .p (.sl false (x8.1.L.map c_api_Val))]], []⟩⟩
noncomputable def t_schema_Find (y : (List UInt8) × Bool) : D := .tup [.p (sV y.1), .p (bV y.2)]
noncomputable def schema_Find_lv : List (Nat × List Nat) := [(0, [1, 2]), (1, [1, 2, 15]), (2, [4, 5]), (3, [1, 17, 18, 19]), (4, [1, 17, 18, 19, 20]), (5, [1, 7, 17, 18, 19]), (6, [1, 7, 17, 18, 19, 29]), (7, [4, 5]), (8, [1, 17, 18, 19]), (9, [4, 5]), (1000004, [1, 17, 18, 19]), (3000001, [])]
noncomputable def schema_Find_J0_0 (p0 : api_Val) (p1 : (List UInt8)) (o1 : Bool) : St := ⟨[(1, .p (sV p1)), (2, .ptr 0 0), (15, .p (bV o1))], ⟨[[.p (iV p0.K), .p (sV p0.S), .p (iV p0.N), .p (bV p0.B), .p (.sl false (p0.L.map c_api_Val))]], []⟩⟩
noncomputable def schema_Find_L1_st (p0 : api_Val) (p1 : (List UInt8)) (v19 : Int) : St := ⟨[(1, .p (sV p1)), (17, .p (.sl false (p0.L.map c_api_Val))), (18, .p (iV (p0.L.length : Int))), (19, .p (iV v19))], ⟨[[.p (iV p0.K), .p (sV p0.S), .p (iV p0.N), .p (bV p0.B), .p (.sl false (p0.L.map c_api_Val))]], []⟩⟩
noncomputable def schema_Find_L1_x0 (p0 : api_Val) (p1 : (List UInt8)) (y4 : Unit) : St := ⟨[], ⟨[[.p (iV p0.K), .p (sV p0.S), .p (iV p0.N), .p (bV p0.B), .p (.sl false (p0.L.map c_api_Val))]], []⟩⟩
noncomputable def schema_Find_L1_x1 (p0 : api_Val) (p1 : (List UInt8)) (y5 : (List UInt8)) : St := ⟨[(4, .p (sV y5)), (5, .p (bV true))], ⟨[[.p (iV p0.K), .p (sV p0.S), .p (iV p0.N), .p (bV p0.B), .p (.sl false (p0.L.map c_api_Val))]], []⟩⟩
noncomputable def schema_Find_L1_c : Code := ((loopsOf (Try.f24.body.getD .skip)).getD 0 .skip)
noncomputable def t_schema_Get (y : api_Val × Bool) : D := .tup [.p (.agg [iV y.1.K, sV y.1.S, iV y.1.N, bV y.1.B, .sl false (y.1.L.map c_api_Val)]), .p (bV y.2)]
noncomputable def schema_Get_lv : List (Nat × List Nat) := [(0, [1, 2, 4]), (1, [2, 4, 6]), (2, [2, 4, 6, 18]), (3, [4, 5]), (4, [4, 5]), (3000002, [])]
noncomputable def schema_Get_J0_0 (p0 : api_Val) (x2 : Int) (o3 : Bool) : St := ⟨[(2, .ptr 0 0), (4, .ptr 1 0), (6, .p (iV x2)), (18, .p (bV o3))], ⟨[[.p (iV p0.K), .p (sV p0.S), .p (iV p0.N), .p (bV p0.B), .p (.sl false (p0.L.map c_api_Val))], [.p (iV 0), .p (sV []), .p (iV 0), .p (bV false), .p (.sl true [])]], []⟩⟩
noncomputable def t_schema_Is (y : Bool) : D := .p (bV y)
noncomputable def schema_Is_lv : List (Nat × List Nat) := [(0, [1]), (1, [1, 3]), (2, [1, 3, 17]), (3, [1, 3, 17, 18]), (4, [1, 3]), (5, [1, 3, 17, 23]), (6, [1, 3]), (7, [1, 3, 28]), (8, [1, 3]), (9, [1, 51]), (10, [2]), (11, [1, 54]), (12, [2]), (13, [1, 4, 5]), (14, [1, 4, 65]), (15, [2]), (16, [1, 6]), (17, [1, 6, 90]), (18, [2]), (19, [1, 91, 92, 93]), (20, [1, 91, 92, 93, 94]), (21, [1, 7, 8, 91, 92, 93]), (22, [1, 7, 9, 91, 92, 93]), (23, [1, 91, 92, 93, 121]), (24, [2]), (25, [1, 91, 92, 93]), (26, [2]), (1000020, [1, 91, 92, 93]), (2002016, []), (3000009, []), (3000015, []), (3000017, []), (3000023, [])]
noncomputable def schema_Is_J0_0 (p0 : api_Val) (o1 : (List UInt8) × Int × Bool) : St := ⟨[(1, .ptr 0 0), (3, .ptr 1 0)], ⟨[[.p (iV p0.K), .p (sV p0.S), .p (iV p0.N), .p (bV p0.B), .p (.sl false (p0.L.map c_api_Val))], [.p (iV p0.K), .p (sV o1.1), .p (iV o1.2.1), .p (bV o1.2.2), .p (.sl false (p0.L.map c_api_Val))]], []⟩⟩
noncomputable def schema_Is_J1_0 (p0 : api_Val) (o1 : (List UInt8) × Int × Bool) (o2 : Bool) : St := ⟨[(1, .ptr 0 0), (51, .p (bV o2))], ⟨[[.p (iV p0.K), .p (sV p0.S), .p (iV p0.N), .p (bV p0.B), .p (.sl false (p0.L.map c_api_Val))], [.p (iV p0.K), .p (sV o1.1), .p (iV o1.2.1), .p (bV o1.2.2), .p (.sl false (p0.L.map c_api_Val))]], []⟩⟩
noncomputable def schema_Is_J2_0 (p0 : api_Val) (o1 : (List UInt8) × Int × Bool) (x4 : Int × Bool) (o5 : Bool) : St := ⟨[(2, .p (bV o5))], ⟨[[.p (iV p0.K), .p (sV p0.S), .p (iV p0.N), .p (bV p0.B), .p (.sl false (p0.L.map c_api_Val))], [.p (iV p0.K), .p (sV o1.1), .p (iV o1.2.1), .p (bV o1.2.2), .p (.sl false (p0.L.map c_api_Val))], [.p (iV x4.1)]], []⟩⟩
noncomputable def schema_Is_J3_0 (p0 : api_Val) (o1 : (List UInt8) × Int × Bool) (x4 : Int × Bool) (x7 : (List (List UInt8))) (o8 : Bool) : St := ⟨[(1, .ptr 0 0), (6, .p (.sl false (x7.map cStr))), (90, .p (bV o8))], ⟨[[.p (iV p0.K), .p (sV p0.S), .p (iV p0.N), .p (bV p0.B), .p (.sl false (p0.L.map c_api_Val))], [.p (iV p0.K), .p (sV o1.1), .p (iV o1.2.1), .p (bV o1.2.2), .p (.sl false (p0.L.map c_api_Val))], [.p (iV x4.1)]], []⟩⟩
noncomputable def schema_Is_J4_0 (p0 : api_Val) (o1 : (List UInt8) × Int × Bool) (x4 : Int × Bool) (x7 : (List (List UInt8))) (v93 : Int) (o14 : Bool) : St := ⟨[(1, .ptr 0 0), (91, .p (.sl false (x7.map cStr))), (92, .p (iV (x7.length : Int))), (93, .p (iV v93)), (121, .p (bV o14))], ⟨[[.p (iV p0.K), .p (sV p0.S), .p (iV p0.N), .p (bV p0.B), .p (.sl false (p0.L.map c_api_Val))], [.p (iV p0.K), .p (sV o1.1), .p (iV o1.2.1), .p (bV o1.2.2), .p (.sl false (p0.L.map c_api_Val))], [.p (iV x4.1)]], []⟩⟩
noncomputable def schema_Is_L1_st (p0 : api_Val) (o1 : (List UInt8) × Int × Bool) (x4 : Int × Bool) (x7 : (List (List UInt8))) (v93 : Int) : St := ⟨[(1, .ptr 0 0), (91, .p (.sl false (x7.map cStr))), (92, .p (iV (x7.length : Int))), (93, .p (iV v93))], ⟨[[.p (iV p0.K), .p (sV p0.S), .p (iV p0.N), .p (bV p0.B), .p (.sl false (p0.L.map c_api_Val))], [.p (iV p0.K), .p (sV o1.1), .p (iV o1.2.1), .p (bV o1.2.2), .p (.sl false (p0.L.map c_api_Val))], [.p (iV x4.1)]], []⟩⟩
noncomputable def schema_Is_L1_x0 (p0 : api_Val) (o1 : (List UInt8) × Int × Bool) (x4 : Int × Bool) (x7 : (List (List UInt8))) (y10 : Unit) : St := ⟨[], ⟨[[.p (iV p0.K), .p (sV p0.S), .p (iV p0.N), .p (bV p0.B), .p (.sl false (p0.L.map c_api_Val))], [.p (iV p0.K), .p (sV o1.1), .p (iV o1.2.1), .p (bV o1.2.2), .p (.sl false (p0.L.map c_api_Val))], [.p (iV x4.1)]], []⟩⟩
noncomputable def schema_Is_L1_x1 (p0 : api_Val) (o1 : (List UInt8) × Int × Bool) (x4 : Int × Bool) (x7 : (List (List UInt8))) (y11 : Unit) : St := ⟨[(2, .p (bV false))], ⟨[[.p (iV p0.K), .p (sV p0.S), .p (iV p0.N), .p (bV p0.B), .p (.sl false (p0.L.map c_api_Val))], [.p (iV p0.K), .p (sV o1.1), .p (iV o1.2.1), .p (bV o1.2.2), .p (.sl false (p0.L.map c_api_Val))], [.p (iV x4.1)]], []⟩⟩
noncomputable def schema_Is_L1_c : Code := ((loopsOf (Try.f20.body.getD .skip)).getD 0 .skip)
noncomputable def t_schema_Is_1 (y : Bool) : D := .p (bV y)
noncomputable def schema_Is_1_lv : List (Nat × List Nat) := [(0, [1, 2]), (1, [3]), (3000001, [])]
noncomputable def schema_Is_1_J0_0 (p0 : api_Val) (h0_0 : Int) (o1 : Bool) : St := ⟨[(3, .p (bV o1))], ⟨[[.p (iV h0_0)], [.p (iV p0.K), .p (sV p0.S), .p (iV p0.N), .p (bV p0.B), .p (.sl false (p0.L.map c_api_Val))]], []⟩⟩
noncomputable def t_schema_List (y : api_Val × Bool) : D := .tup [.p (.agg [iV y.1.K, sV y.1.S, iV y.1.N, bV y.1.B, .sl false (y.1.L.map c_api_Val)]), .p (bV y.2)]
noncomputable def schema_List_lv : List (Nat × List Nat) := [(0, [0, 1, 4]), (1, [0, 4, 6]), (2, [4, 6, 8]), (3, [4, 6, 23]), (4, [4, 5]), (5, [4, 5]), (3000003, [])]
noncomputable def schema_List_J0_0 (p0 : Int) (p1 : (List api_Val)) (o2 : Bool) : St := ⟨[(4, .ptr 0 0), (6, .ptr 1 0), (23, .p (bV o2))], ⟨[[.p (iV 0), .p (sV []), .p (iV 0), .p (bV false), .p (.sl true [])], [.p (iV p0), .p (sV []), .p (iV 0), .p (bV false), .p (.sl false (p1.map c_api_Val))]], []⟩⟩
noncomputable def t_schema_Number (y : api_Val) : D := .p (.agg [iV y.K, sV y.S, iV y.N, bV y.B, .sl false (y.L.map c_api_Val)])
noncomputable def schema_Number_lv : List (Nat × List Nat) := [(0, [0, 2]), (1, [2])]
noncomputable def t_schema_Pair (y : api_Val) : D := .p (.agg [iV y.K, sV y.S, iV y.N, bV y.B, .sl false (y.L.map c_api_Val)])
noncomputable def schema_Pair_lv : List (Nat × List Nat) := [(0, [0, 1, 4]), (1, [4])]
noncomputable def t_schema_Same (y : Bool) : D := .p (bV y)
noncomputable def schema_Same_lv : List (Nat × List Nat) := [(0, [2, 3]), (1, [4]), (3000001, [])]
noncomputable def schema_Same_J0_0 (p0 : api_Val) (p1 : api_Val) (o1 : Bool) : St := ⟨[(4, .p (bV o1))], ⟨[[.p (iV p0.K), .p (sV p0.S), .p (iV p0.N), .p (bV p0.B), .p (.sl false (p0.L.map c_api_Val))], [.p (iV p1.K), .p (sV p1.S), .p (iV p1.N), .p (bV p1.B), .p (.sl false (p1.L.map c_api_Val))]], []⟩⟩
noncomputable def t_schema_Text (y : api_Val) : D := .p (.agg [iV y.K, sV y.S, iV y.N, bV y.B, .sl false (y.L.map c_api_Val)])
noncomputable def schema_Text_lv : List (Nat × List Nat) := [(0, [0, 2]), (1, [2])]
noncomputable def t_schema_Truth (y : api_Val) : D := .p (.agg [iV y.K, sV y.S, iV y.N, bV y.B, .sl false (y.L.map c_api_Val)])
noncomputable def schema_Truth_lv : List (Nat × List Nat) := [(0, [0, 2]), (1, [2])]
noncomputable def t_schema_Weight (y : Int) : D := .p (iV y)
noncomputable def schema_Weight_lv : List (Nat × List Nat) := [(0, [1]), (1, [1, 3]), (2, [3, 7, 8, 9]), (3, [3, 7, 8, 9, 10]), (4, [3, 5, 7, 8, 9]), (5, [3, 7, 8, 9]), (6, [3, 7, 8, 9]), (7, [2]), (1000003, [3, 7, 8, 9])]
noncomputable def schema_Weight_L1_st (p0 : api_Val) (v3 : Int) (v9 : Int) : St := ⟨[(3, .p (iV v3)), (7, .p (.sl false (p0.L.map c_api_Val))), (8, .p (iV (p0.L.length : Int))), (9, .p (iV v9))], ⟨[[.p (iV p0.K), .p (sV p0.S), .p (iV p0.N), .p (bV p0.B), .p (.sl false (p0.L.map c_api_Val))]], []⟩⟩
noncomputable def schema_Weight_L1_x0 (p0 : api_Val) (o1 : Int) : St := ⟨[(3, .p (iV o1))], ⟨[[.p (iV p0.K), .p (sV p0.S), .p (iV p0.N), .p (bV p0.B), .p (.sl false (p0.L.map c_api_Val))]], []⟩⟩
noncomputable def schema_Weight_L1_c : Code := ((loopsOf (Try.f41.body.getD .skip)).getD 0 .skip)
noncomputable def t_schema_copied (y : api_Val) : D := .p (.agg [iV y.K, sV y.S, iV y.N, bV y.B, .sl false (y.L.map c_api_Val)])
noncomputable def schema_copied_lv : List (Nat × List Nat) := [(0, [1, 2]), (1, [1, 2, 3]), (2, [1, 2, 3]), (3, [1, 2, 9, 10, 11]), (4, [1, 2, 9, 10, 11, 12]), (5, [1, 2, 5, 9, 10, 11]), (6, [1, 2, 9, 10, 11]), (7, [1, 2, 9, 10, 11]), (8, [2]), (1000004, [1, 2, 9, 10, 11])]
noncomputable def schema_copied_L1_st (p0 : api_Val) (v11 : Int) (h0_4 : (List api_Val)) : St := ⟨[(1, .ptr 0 0), (2, .ptr 1 0), (9, .p (.sl false (p0.L.map c_api_Val))), (10, .p (iV (p0.L.length : Int))), (11, .p (iV v11))], ⟨[[.p (iV p0.K), .p (sV p0.S), .p (iV p0.N), .p (bV p0.B), .own 0 27 5 (h0_4.map c_api_Val)], [.p (iV 0), .p (sV []), .p (iV 0), .p (bV false), .p (.sl true [])]], [(h0_4.map c_api_Val).length]⟩⟩
noncomputable def schema_copied_L1_x0 (p0 : api_Val) (o1 : (List api_Val)) : St := ⟨[(1, .ptr 0 0), (2, .ptr 1 0)], ⟨[[.p (iV p0.K), .p (sV p0.S), .p (iV p0.N), .p (bV p0.B), .own 0 27 5 (o1.map c_api_Val)], [.p (iV 0), .p (sV []), .p (iV 0), .p (bV false), .p (.sl true [])]], [(o1.map c_api_Val).length]⟩⟩
noncomputable def schema_copied_L1_c : Code := ((loopsOf (Try.f60.body.getD .skip)).getD 0 .skip)
noncomputable def t_slices_ContainsFunc_api_Val_api_Val_schema_Is_1 (y : Bool) : D := .p (bV y)
noncomputable def slices_ContainsFunc_api_Val_api_Val_schema_Is_1_lv : List (Nat × List Nat) := [(0, [0, 1]), (1, [4])]
noncomputable def t_slices_EqualFunc_api_Val_api_Val_api_Val_api_Val_schema_Same (y : Bool) : D := .p (bV y)
noncomputable def slices_EqualFunc_api_Val_api_Val_api_Val_api_Val_schema_Same_lv : List (Nat × List Nat) := [(0, [0, 1, 2]), (1, [0, 1, 2, 14]), (2, [6]), (3, [1, 2, 15, 16, 17]), (4, [1, 2, 15, 16, 17, 18]), (5, [1, 2, 7, 8, 15, 16, 17]), (6, [1, 2, 8, 9, 15, 16, 17]), (7, [1, 2, 15, 16, 17, 30]), (8, [6]), (9, [1, 2, 15, 16, 17]), (10, [6]), (1000004, [1, 2, 15, 16, 17])]
noncomputable def slices_EqualFunc_api_Val_api_Val_api_Val_api_Val_schema_Same_L1_st (p0 : (List api_Val)) (p1 : (List api_Val)) (v17 : Int) : St := ⟨[(1, .p (.sl false (p1.map c_api_Val))), (2, .fn (.func 43) [] []), (15, .p (.sl false (p0.map c_api_Val))), (16, .p (iV (p0.length : Int))), (17, .p (iV v17))], ⟨[], []⟩⟩
noncomputable def slices_EqualFunc_api_Val_api_Val_api_Val_api_Val_schema_Same_L1_x0 (p0 : (List api_Val)) (p1 : (List api_Val)) (y2 : Unit) : St := ⟨[], ⟨[], []⟩⟩
noncomputable def slices_EqualFunc_api_Val_api_Val_api_Val_api_Val_schema_Same_L1_x1 (p0 : (List api_Val)) (p1 : (List api_Val)) (y3 : Unit) : St := ⟨[(6, .p (bV false))], ⟨[], []⟩⟩
noncomputable def slices_EqualFunc_api_Val_api_Val_api_Val_api_Val_schema_Same_L1_c : Code := ((loopsOf (Try.f72.body.getD .skip)).getD 0 .skip)
noncomputable def t_slices_IndexFunc_api_Val_api_Val_schema_Is_1 (y : Int) : D := .p (iV y)
noncomputable def slices_IndexFunc_api_Val_api_Val_schema_Is_1_lv : List (Nat × List Nat) := [(0, [0, 1]), (1, [0, 1, 7, 8]), (2, [0, 1, 7, 8, 9]), (3, [0, 1, 5, 7, 8]), (4, [0, 1, 5, 7, 8, 16]), (5, [4]), (6, [0, 1, 7, 8]), (7, [4]), (1000002, [0, 1, 7, 8])]
noncomputable def slices_IndexFunc_api_Val_api_Val_schema_Is_1_L1_st (p0 : (List api_Val)) (h0_0 : Int) (v8 : Int) : St := ⟨[(0, .p (.sl false (p0.map c_api_Val))), (1, .fn (.func 64) [] [.ptr 0 0]), (7, .p (iV (p0.length : Int))), (8, .p (iV v8))], ⟨[[.p (iV h0_0)]], []⟩⟩
noncomputable def slices_IndexFunc_api_Val_api_Val_schema_Is_1_L1_x0 (p0 : (List api_Val)) (h0_0 : Int) (y2 : Unit) : St := ⟨[], ⟨[[.p (iV h0_0)]], []⟩⟩
noncomputable def slices_IndexFunc_api_Val_api_Val_schema_Is_1_L1_x1 (p0 : (List api_Val)) (h0_0 : Int) (y3 : Int) : St := ⟨[(4, .p (iV y3))], ⟨[[.p (iV h0_0)]], []⟩⟩
noncomputable def slices_IndexFunc_api_Val_api_Val_schema_Is_1_L1_c : Code := ((loopsOf (Try.f93.body.getD .skip)).getD 0 .skip)
noncomputable def t_slices_Index_string_string (y : Int) : D := .p (iV y)
noncomputable def slices_Index_string_string_lv : List (Nat × List Nat) := [(0, [0, 1]), (1, [0, 1, 7, 8]), (2, [0, 1, 7, 8, 9]), (3, [0, 1, 5, 7, 8]), (4, [0, 1, 5, 7, 8, 16]), (5, [4]), (6, [0, 1, 7, 8]), (7, [4]), (1000002, [0, 1, 7, 8])]
noncomputable def slices_Index_string_string_L1_st (p0 : (List (List UInt8))) (p1 : (List UInt8)) (v8 : Int) : St := ⟨[(0, .p (.sl false (p0.map cStr))), (1, .p (sV p1)), (7, .p (iV (p0.length : Int))), (8, .p (iV v8))], ⟨[], []⟩⟩
noncomputable def slices_Index_string_string_L1_x0 (p0 : (List (List UInt8))) (p1 : (List UInt8)) (y2 : Unit) : St := ⟨[], ⟨[], []⟩⟩
noncomputable def slices_Index_string_string_L1_x1 (p0 : (List (List UInt8))) (p1 : (List UInt8)) (y3 : Int) : St := ⟨[(4, .p (iV y3))], ⟨[], []⟩⟩
noncomputable def slices_Index_string_string_L1_c : Code := ((loopsOf (Try.f67.body.getD .skip)).getD 0 .skip)
noncomputable def R15_Elem (p0 : Int) : Option (Int × Bool) :=
  if (p0 == 7) then
    some (1, true)
  else
    if (p0 == 8) then
      some (4, true)
    else
      if (p0 == 9) then
        some (5, true)
      else
        some (0, false)
set_option maxRecDepth 100000 in
set_option maxHeartbeats 4000000 in
theorem R15_Elem_ok : ∀ (p0 : Int) (o : Int × Bool), R15_Elem p0 = some o → PCall Try.prog 61 [iV p0] (t_R15_Elem o) := by
  intro p0 o h
  unfold R15_Elem at h
  refine PCall.ofB mixed tbOk R15_Elem_lv Try.func61 rfl (by kernel_rfl) (Nat.le_of_ble_eq_true rfl) ?_
  refine st_test h (fun hb h => ?_) (fun hb h => ?_)
  · refine st_ret (t := t_R15_Elem) h ?_
    exact .refl _
  · refine st_test h (fun hb h => ?_) (fun hb h => ?_)
    · refine st_ret (t := t_R15_Elem) h ?_
      exact .refl _
    · refine st_test h (fun hb h => ?_) (fun hb h => ?_)
      · refine st_ret (t := t_R15_Elem) h ?_
        exact .refl _
      · refine st_ret (t := t_R15_Elem) h ?_
        exact .refl _
noncomputable def R15_Field_L1 (p1 : (List UInt8)) (x1 : (List (List UInt8)) × (List Int)) (v8 : Int) : Option (Unit ⊕ Int) :=
  if (decide (v8 < (x1.1.length : Int))) then
    idx x1.1 v8 >>= fun x5 =>
    if (x5 == p1) then
      idx x1.2 v8 >>= fun x6 =>
      some (.inr x6)
    else
      R15_Field_L1 p1 x1 (wr (v8 + 1))
  else
    some (.inl ())
  partial_fixpoint
set_option maxRecDepth 100000 in
set_option maxHeartbeats 4000000 in
theorem R15_Field_L1_grp : ∀ (p1 : (List UInt8)) (x1 : (List (List UInt8)) × (List Int)), (∀ (v8 : Int) (o2 : Unit ⊕ Int), R15_Field_L1 p1 x1 v8 = some o2 → TL (0, 0) Try.prog 30 R15_Field_L1_c (JP2 (0, 0) 30 o2 (.exit 0) (R15_Field_L1_x0 p1 x1) .ret (R15_Field_L1_x1 p1 x1)) (R15_Field_L1_st p1 x1 v8)) := by
  intro p1 x1
  refine R15_Field_L1.partial_correctness p1 x1 _ ?_
  intro R15_Field_L1' ih_R15_Field_L1 v8 o2 h
  refine TL.round (bwp_sound mixed tbOk (lv := R15_Field_lv) _ _ _ ?_)
  refine view (lenMap _ _) rfl ?_
  refine st_test h (fun hb h => ?_) (fun hb h => ?_)
  · refine st_idx (l := x1.1) (c := cStr) (c' := cStr) h (fun _ => rfl) (fun _ => rfl) (by decide) (fun x5 hi h => ?_)
    refine st_test h (fun hb h => ?_) (fun hb h => ?_)
    · refine st_idx (l := x1.2) (c := cInt) (c' := cInt) h (fun _ => rfl) (fun _ => rfl) (by decide) (fun x6 hi h => ?_)
      exact JP2.b h (Le.tow 0 0 rfl (.cons rfl (.refl _) (.cons rfl (.refl _) (.nil))) (.refl _) rfl)
    · refine TL.le (τ := R15_Field_L1_st p1 x1 (wr (v8 + 1))) ?_ ((ih_R15_Field_L1 (wr (v8 + 1)) _ h))
      exact Le.tow 0 0 rfl (.cons rfl (.refl _) (.cons rfl (.refl _) (.cons rfl (.refl _) (.cons rfl (.refl _) (.nil))))) (.refl _) rfl
  · exact JP2.a h (Le.tow 0 0 rfl (.nil) (.refl _) rfl)
theorem R15_Field_L1_ok : ∀ (p1 : (List UInt8)) (x1 : (List (List UInt8)) × (List Int)) (v8 : Int) (o2 : Unit ⊕ Int), R15_Field_L1 p1 x1 v8 = some o2 → TL (0, 0) Try.prog 30 R15_Field_L1_c (JP2 (0, 0) 30 o2 (.exit 0) (R15_Field_L1_x0 p1 x1) .ret (R15_Field_L1_x1 p1 x1)) (R15_Field_L1_st p1 x1 v8) := fun p1 x1 v8 o2 h => (R15_Field_L1_grp p1 x1) v8 o2 h
noncomputable def R15_fields (p0 : Int) : Option ((List (List UInt8)) × (List Int)) :=
  if (p0 == 4) then
    some ([[107, 101, 121], [118, 97, 108]], [1, 1])
  else
    if (p0 == 5) then
      some ([[102, 105, 114, 105, 110, 103], [115, 116, 97, 114, 116, 115], [118, 97, 108, 117, 101], [108, 97, 98, 101, 108, 115], [110, 111, 116, 101, 115], [108, 105, 110, 107]], [3, 2, 2, 8, 8, 1])
    else
      if (p0 == 6) then
        some ([[114, 101, 99, 101, 105, 118, 101, 114], [102, 105, 114, 105, 110, 103], [99, 111, 109, 109, 111, 110], [108, 105, 110, 107], [97, 108, 101, 114, 116, 115]], [1, 3, 8, 1, 9])
      else
        some ([], [])
set_option maxRecDepth 100000 in
set_option maxHeartbeats 4000000 in
theorem R15_fields_ok : ∀ (p0 : Int) (o : (List (List UInt8)) × (List Int)), R15_fields p0 = some o → PCall Try.prog 69 [iV p0] (t_R15_fields o) := by
  intro p0 o h
  unfold R15_fields at h
  refine PCall.ofB mixed tbOk R15_fields_lv Try.func69 rfl (by kernel_rfl) (Nat.le_of_ble_eq_true rfl) ?_
  refine st_test h (fun hb h => ?_) (fun hb h => ?_)
  · refine st_ret (t := t_R15_fields) h ?_
    exact .tup (xs := [.sl true [[sV [107, 101, 121]], [sV [118, 97, 108]]], .sl true [[iV 1], [iV 1]]]) (ys := [.sl false (([[107, 101, 121], [118, 97, 108]]).map cStr), .sl false ([1, 1].map cInt)]) (.cons (.not) (.cons (.not) (.nil)))
  · refine st_test h (fun hb h => ?_) (fun hb h => ?_)
    · refine st_ret (t := t_R15_fields) h ?_
      exact .tup (xs := [.sl true [[sV [102, 105, 114, 105, 110, 103]], [sV [115, 116, 97, 114, 116, 115]], [sV [118, 97, 108, 117, 101]], [sV [108, 97, 98, 101, 108, 115]], [sV [110, 111, 116, 101, 115]], [sV [108, 105, 110, 107]]], .sl true [[iV 3], [iV 2], [iV 2], [iV 8], [iV 8], [iV 1]]]) (ys := [.sl false (([[102, 105, 114, 105, 110, 103], [115, 116, 97, 114, 116, 115], [118, 97, 108, 117, 101], [108, 97, 98, 101, 108, 115], [110, 111, 116, 101, 115], [108, 105, 110, 107]]).map cStr), .sl false ([3, 2, 2, 8, 8, 1].map cInt)]) (.cons (.not) (.cons (.not) (.nil)))
    · refine st_test h (fun hb h => ?_) (fun hb h => ?_)
      · refine st_ret (t := t_R15_fields) h ?_
        exact .tup (xs := [.sl true [[sV [114, 101, 99, 101, 105, 118, 101, 114]], [sV [102, 105, 114, 105, 110, 103]], [sV [99, 111, 109, 109, 111, 110]], [sV [108, 105, 110, 107]], [sV [97, 108, 101, 114, 116, 115]]], .sl true [[iV 1], [iV 3], [iV 8], [iV 1], [iV 9]]]) (ys := [.sl false (([[114, 101, 99, 101, 105, 118, 101, 114], [102, 105, 114, 105, 110, 103], [99, 111, 109, 109, 111, 110], [108, 105, 110, 107], [97, 108, 101, 114, 116, 115]]).map cStr), .sl false ([1, 3, 8, 1, 9].map cInt)]) (.cons (.not) (.cons (.not) (.nil)))
      · refine st_ret (t := t_R15_fields) h ?_
        exact .tup (xs := [.sl true [], .sl true []]) (ys := [.sl false [], .sl false []]) (.cons (.not) (.cons (.not) (.nil)))
noncomputable def R15_Field (p0 : Int) (p1 : (List UInt8)) : Option (Int × Bool) :=
  R15_fields p0 >>= fun x1 =>
  (R15_Field_L1 p1 x1 0) >>= fun o2 =>
  match o2 with
  | .inl y3 =>
    some (0, false)
  | .inr y4 =>
    some (y4, true)
set_option maxRecDepth 100000 in
set_option maxHeartbeats 4000000 in
theorem R15_Field_ok : ∀ (p0 : Int) (p1 : (List UInt8)) (o : Int × Bool), R15_Field p0 p1 = some o → PCall Try.prog 26 [iV p0, sV p1] (t_R15_Field o) := by
  intro p0 p1 o h
  unfold R15_Field at h
  refine PCall.ofB mixed tbOk R15_Field_lv Try.func26 rfl (by kernel_rfl) (Nat.le_of_ble_eq_true rfl) ?_
  refine st_call [iV p0] t_R15_fields h (fun x1 hy => (R15_fields_ok p0 x1 hy)) (fun x1 hy h => ?_)
  refine st_bind h (fun o2 ho hk => ?_)
  refine Exists.intro (JP2 _ _ o2 (.exit 0) (R15_Field_L1_x0 p1 x1) .ret (R15_Field_L1_x1 p1 x1)) (And.intro (T_le (τ := R15_Field_L1_st p1 x1 0) ?_ (TL.loop (R15_Field_L1_ok p1 x1 0 o2 ho))) (join2 (fun y3 hy => ?_) (fun y4 hy => ?_)))
  · exact Le.tow 0 0 rfl (.cons rfl (.refl _) (.cons rfl (.refl _) (.cons rfl (.refl _) (.cons rfl (.refl _) (.nil))))) (.refl _) rfl
  · have h := (by rw [hy] at hk; exact hk)
    refine st_ret (t := t_R15_Field) h ?_
    exact .refl _
  · have h := (by rw [hy] at hk; exact hk)
    refine st_ret (t := t_R15_Field) h ?_
    exact .refl _
noncomputable def R15_Fields (p0 : Int) : Option ((List (List UInt8))) :=
  R15_fields p0 >>= fun x1 =>
  some x1.1
set_option maxRecDepth 100000 in
set_option maxHeartbeats 4000000 in
theorem R15_Fields_ok : ∀ (p0 : Int) (o : (List (List UInt8))), R15_Fields p0 = some o → PCall Try.prog 68 [iV p0] (t_R15_Fields o) := by
  intro p0 o h
  unfold R15_Fields at h
  refine PCall.ofB mixed tbOk R15_Fields_lv Try.func68 rfl (by kernel_rfl) (Nat.le_of_ble_eq_true rfl) ?_
  refine st_call [iV p0] t_R15_fields h (fun x1 hy => (R15_fields_ok p0 x1 hy)) (fun x1 hy h => ?_)
  refine st_ret (t := t_R15_Fields) h ?_
  exact .refl _
noncomputable def R15_Plain (p0 : Int) : Option (Bool) :=
  ( if (p0 == 1) then
      some true
    else
      if (p0 == 2) then
        some true
      else
        some (p0 == 3)) >>= fun o1 =>
  some o1
set_option maxRecDepth 100000 in
set_option maxHeartbeats 4000000 in
theorem R15_Plain_ok : ∀ (p0 : Int) (o : Bool), R15_Plain p0 = some o → PCall Try.prog 71 [iV p0] (t_R15_Plain o) := by
  intro p0 o h
  unfold R15_Plain at h
  refine PCall.ofB mixed tbOk R15_Plain_lv Try.func71 rfl (by kernel_rfl) (Nat.le_of_ble_eq_true rfl) ?_
  refine st_bind h (fun o1 ho hk => ?_)
  refine Exists.intro (JP1 _ _ o1 .normal (R15_Plain_J0_0 )) (And.intro ?_ (join1 ?_))
  · have h := ho
    refine st_test h (fun hb h => ?_) (fun hb h => ?_)
    · refine bT ?_
      exact JP1.a h (Le.tow 0 0 rfl (.cons rfl (.refl _) (.nil)) (.refl _) rfl)
    · refine st_test h (fun hb h => ?_) (fun hb h => ?_)
      · exact JP1.a h (Le.tow 0 0 rfl (.cons rfl (.refl _) (.nil)) (.refl _) rfl)
      · exact JP1.a h (Le.tow 0 0 rfl (.cons rfl (.refl _) (.nil)) (.refl _) rfl)
  · have h := hk
    refine st_ret (t := t_R15_Plain) h ?_
    exact .refl _
noncomputable def R16_Find_L1 (p0 : api_Val) (p1 : (List UInt8)) (v6 : Int) : Option (Unit ⊕ (List UInt8)) :=
  if (decide (v6 < (p0.L.length : Int))) then
    idx p0.L v6 >>= fun x6 =>
    idx x6.L 0 >>= fun x7 =>
    if (x7.S == p1) then
      idx p0.L v6 >>= fun x8 =>
      idx x8.L 1 >>= fun x9 =>
      some (.inr x9.S)
    else
      R16_Find_L1 p0 p1 (wr (v6 + 1))
  else
    some (.inl ())
  partial_fixpoint
set_option maxRecDepth 100000 in
set_option maxHeartbeats 4000000 in
theorem R16_Find_L1_grp : ∀ (p0 : api_Val) (p1 : (List UInt8)), (∀ (v6 : Int) (o3 : Unit ⊕ (List UInt8)), R16_Find_L1 p0 p1 v6 = some o3 → TL (0, 0) Try.prog 42 R16_Find_L1_c (JP2 (0, 0) 42 o3 (.exit 0) (R16_Find_L1_x0 p0 p1) .ret (R16_Find_L1_x1 p0 p1)) (R16_Find_L1_st p0 p1 v6)) := by
  intro p0 p1
  refine R16_Find_L1.partial_correctness p0 p1 _ ?_
  intro R16_Find_L1' ih_R16_Find_L1 v6 o3 h
  refine TL.round (bwp_sound mixed tbOk (lv := R16_Find_lv) _ _ _ ?_)
  refine view (lenMap _ _) rfl ?_
  refine st_test h (fun hb h => ?_) (fun hb h => ?_)
  · refine st_idx (l := p0.L) (c := c_api_Val) (c' := l_api_Val) h c_api_Val_eq (fun _ => rfl) (by decide) (fun x6 hi h => ?_)
    refine st_idx (l := x6.L) (c := c_api_Val) (c' := l_api_Val) h c_api_Val_eq (fun _ => rfl) (by decide) (fun x7 hi h => ?_)
    refine st_test h (fun hb h => ?_) (fun hb h => ?_)
    · refine st_idx (l := p0.L) (c := c_api_Val) (c' := l_api_Val) h c_api_Val_eq (fun _ => rfl) (by decide) (fun x8 hi h => ?_)
      refine st_idx (l := x8.L) (c := c_api_Val) (c' := l_api_Val) h c_api_Val_eq (fun _ => rfl) (by decide) (fun x9 hi h => ?_)
      exact JP2.b h (Le.tow 1 0 rfl (.cons rfl (.refl _) (.cons rfl (.refl _) (.nil))) (.refl _) rfl)
    · refine TL.le (τ := R16_Find_L1_st p0 p1 (wr (v6 + 1))) ?_ ((ih_R16_Find_L1 (wr (v6 + 1)) _ h))
      exact Le.tow 1 0 rfl (.cons rfl (.refl _) (.cons rfl (.refl _) (.cons rfl (.refl _) (.nil)))) (.refl _) rfl
  · exact JP2.a h (Le.tow 1 0 rfl (.nil) (.refl _) rfl)
theorem R16_Find_L1_ok : ∀ (p0 : api_Val) (p1 : (List UInt8)) (v6 : Int) (o3 : Unit ⊕ (List UInt8)), R16_Find_L1 p0 p1 v6 = some o3 → TL (0, 0) Try.prog 42 R16_Find_L1_c (JP2 (0, 0) 42 o3 (.exit 0) (R16_Find_L1_x0 p0 p1) .ret (R16_Find_L1_x1 p0 p1)) (R16_Find_L1_st p0 p1 v6) := fun p0 p1 v6 o3 h => (R16_Find_L1_grp p0 p1) v6 o3 h
mutual
noncomputable def R16_Is (p0 : api_Val) : Option (Bool) :=
  ( if (decide (p0.K < 1)) then
      some true
    else
      some (decide (p0.K > 9))) >>= fun o1 =>
  if o1 then
    some false
  else
    ( if (p0.K != 1) then
        if (!(p0.S == [])) then
          some true
        else
          if (p0.K != 2) then
            if (p0.N != 0) then
              some true
            else
              if (p0.K != 3) then
                some p0.B
              else
                some false
          else
            if (p0.K != 3) then
              some p0.B
            else
              some false
      else
        if (p0.K != 2) then
          if (p0.N != 0) then
            some true
          else
            if (p0.K != 3) then
              some p0.B
            else
              some false
        else
          if (p0.K != 3) then
            some p0.B
          else
            some false) >>= fun o2 =>
    if o2 then
      some false
    else
      R15_Plain p0.K >>= fun x3 =>
      if x3 then
        some ((p0.L.length : Int) == 0)
      else
        R15_Elem p0.K >>= fun x4 =>
        R15_Fields p0.K >>= fun x5 =>
        ( if x4.2 then
            if (decide ((p0.L.length : Int) > 4096)) then
              some true
            else
              if (!x4.2) then
                some ((p0.L.length : Int) != (x5.length : Int))
              else
                some false
          else
            if (!x4.2) then
              some ((p0.L.length : Int) != (x5.length : Int))
            else
              some false) >>= fun o6 =>
        if o6 then
          some false
        else
          (R16_Is_L1 p0 x4 x5 0) >>= fun o7 =>
          match o7 with
          | .inl y8 =>
            some true
          | .inr y9 =>
            some false
  partial_fixpoint
noncomputable def R16_Is_L1 (p0 : api_Val) (x4 : Int × Bool) (x5 : (List (List UInt8))) (v6 : Int) : Option (Unit ⊕ Unit) :=
  if (decide (v6 < (p0.L.length : Int))) then
    ( if (!x4.2) then
        idx x5 v6 >>= fun x11 =>
        R15_Field p0.K x11 >>= fun x12 =>
        some x12.1
      else
        some x4.1) >>= fun o10 =>
    ( idx p0.L v6 >>= fun x14 =>
      if (x14.K != o10) then
        some true
      else
        idx p0.L v6 >>= fun x15 =>
        R16_Is x15 >>= fun x16 =>
        some (!x16)) >>= fun o13 =>
    if o13 then
      some (.inr ())
    else
      R16_Is_L1 p0 x4 x5 (wr (v6 + 1))
  else
    some (.inl ())
  partial_fixpoint
end
set_option maxRecDepth 100000 in
set_option maxHeartbeats 4000000 in
theorem R16_Is_grp : (∀ (p0 : api_Val) (o : Bool), R16_Is p0 = some o → PCall Try.prog 40 [.agg [iV p0.K, sV p0.S, iV p0.N, bV p0.B, .sl false (p0.L.map c_api_Val)]] (t_R16_Is o)) ∧ (∀ (p0 : api_Val) (x4 : Int × Bool) (x5 : (List (List UInt8))) (v6 : Int) (o7 : Unit ⊕ Unit), R16_Is_L1 p0 x4 x5 v6 = some o7 → TL (0, 0) Try.prog 115 R16_Is_L1_c (JP2 (0, 0) 115 o7 (.exit 0) (R16_Is_L1_x0 p0 x4 x5) .ret (R16_Is_L1_x1 p0 x4 x5)) (R16_Is_L1_st p0 x4 x5 v6)) := by
  refine R16_Is.mutual_partial_correctness _ _ ?_ ?_
  · intro R16_Is_L1' ih_R16_Is_L1 p0 o h
    refine PCall.ofB mixed tbOk R16_Is_lv Try.func40 rfl (by kernel_rfl) (Nat.le_of_ble_eq_true rfl) ?_
    refine st_bind h (fun o1 ho hk => ?_)
    refine Exists.intro (JP1 _ _ o1 .normal (R16_Is_J0_0 p0)) (And.intro ?_ (join1 ?_))
    · have h := ho
      refine st_test h (fun hb h => ?_) (fun hb h => ?_)
      · exact JP1.a h (Le.tow 1 0 rfl (.cons rfl (.refl _) (.cons rfl (.refl _) (.nil))) (.refl _) rfl)
      · exact JP1.a h (Le.tow 1 0 rfl (.cons rfl (.refl _) (.cons rfl (.refl _) (.nil))) (.refl _) rfl)
    · have h := hk
      refine st_test h (fun hb h => ?_) (fun hb h => ?_)
      · refine st_ret (t := t_R16_Is) h ?_
        exact .refl _
      · refine st_bind h (fun o2 ho hk => ?_)
        refine Exists.intro (JP1 _ _ o2 .normal (R16_Is_J1_0 p0)) (And.intro ?_ (join1 ?_))
        · have h := ho
          refine st_test h (fun hb h => ?_) (fun hb h => ?_)
          · refine st_test h (fun hb h => ?_) (fun hb h => ?_)
            · refine bT ?_
              exact JP1.a h (Le.tow 1 0 rfl (.cons rfl (.refl _) (.cons rfl (.refl _) (.nil))) (.refl _) rfl)
            · refine st_test h (fun hb h => ?_) (fun hb h => ?_)
              · refine st_test h (fun hb h => ?_) (fun hb h => ?_)
                · exact JP1.a h (Le.tow 1 0 rfl (.cons rfl (.refl _) (.cons rfl (.refl _) (.nil))) (.refl _) rfl)
                · refine st_test h (fun hb h => ?_) (fun hb h => ?_)
                  · exact JP1.a h (Le.tow 1 0 rfl (.cons rfl (.refl _) (.cons rfl (.refl _) (.nil))) (.refl _) rfl)
                  · exact JP1.a h (Le.tow 1 0 rfl (.cons rfl (.refl _) (.cons rfl (.refl _) (.nil))) (.refl _) rfl)
              · refine bF ?_
                refine st_test h (fun hb h => ?_) (fun hb h => ?_)
                · exact JP1.a h (Le.tow 1 0 rfl (.cons rfl (.refl _) (.cons rfl (.refl _) (.nil))) (.refl _) rfl)
                · exact JP1.a h (Le.tow 1 0 rfl (.cons rfl (.refl _) (.cons rfl (.refl _) (.nil))) (.refl _) rfl)
          · refine bF ?_
            refine st_test h (fun hb h => ?_) (fun hb h => ?_)
            · refine st_test h (fun hb h => ?_) (fun hb h => ?_)
              · exact JP1.a h (Le.tow 1 0 rfl (.cons rfl (.refl _) (.cons rfl (.refl _) (.nil))) (.refl _) rfl)
              · refine st_test h (fun hb h => ?_) (fun hb h => ?_)
                · exact JP1.a h (Le.tow 1 0 rfl (.cons rfl (.refl _) (.cons rfl (.refl _) (.nil))) (.refl _) rfl)
                · exact JP1.a h (Le.tow 1 0 rfl (.cons rfl (.refl _) (.cons rfl (.refl _) (.nil))) (.refl _) rfl)
            · refine bF ?_
              refine st_test h (fun hb h => ?_) (fun hb h => ?_)
              · exact JP1.a h (Le.tow 1 0 rfl (.cons rfl (.refl _) (.cons rfl (.refl _) (.nil))) (.refl _) rfl)
              · exact JP1.a h (Le.tow 1 0 rfl (.cons rfl (.refl _) (.cons rfl (.refl _) (.nil))) (.refl _) rfl)
        · have h := hk
          refine st_test h (fun hb h => ?_) (fun hb h => ?_)
          · refine st_ret (t := t_R16_Is) h ?_
            exact .refl _
          · refine st_call [iV p0.K] t_R15_Plain h (fun x3 hy => (R15_Plain_ok p0.K x3 hy)) (fun x3 hy h => ?_)
            refine st_test h (fun hb h => ?_) (fun hb h => ?_)
            · refine view (lenMap _ _) rfl ?_
              refine st_ret (t := t_R16_Is) h ?_
              exact .refl _
            · refine st_call [iV p0.K] t_R15_Elem h (fun x4 hy => (R15_Elem_ok p0.K x4 hy)) (fun x4 hy h => ?_)
              refine st_call [iV p0.K] t_R15_Fields h (fun x5 hy => (R15_Fields_ok p0.K x5 hy)) (fun x5 hy h => ?_)
              refine st_bind h (fun o6 ho hk => ?_)
              refine Exists.intro (JP1 _ _ o6 .normal (R16_Is_J2_0 p0 x4 x5)) (And.intro ?_ (join1 ?_))
              · have h := ho
                refine st_test h (fun hb h => ?_) (fun hb h => ?_)
                · refine view (lenMap _ _) rfl ?_
                  refine st_test h (fun hb h => ?_) (fun hb h => ?_)
                  · exact JP1.a h (Le.tow 1 0 rfl (.cons rfl (.refl _) (.cons rfl (.refl _) (.cons rfl (.refl _) (.cons rfl (.refl _) (.cons rfl (.refl _) (.nil)))))) (.refl _) rfl)
                  · refine st_test h (fun hb h => ?_) (fun hb h => ?_)
                    · refine view (lenMap _ _) rfl ?_
                      refine view (lenMap _ _) rfl ?_
                      exact JP1.a h (Le.tow 1 0 rfl (.cons rfl (.refl _) (.cons rfl (.refl _) (.cons rfl (.refl _) (.cons rfl (.refl _) (.cons rfl (.refl _) (.nil)))))) (.refl _) rfl)
                    · exact JP1.a h (Le.tow 1 0 rfl (.cons rfl (.refl _) (.cons rfl (.refl _) (.cons rfl (.refl _) (.cons rfl (.refl _) (.cons rfl (.refl _) (.nil)))))) (.refl _) rfl)
                · refine bF ?_
                  refine st_test h (fun hb h => ?_) (fun hb h => ?_)
                  · refine view (lenMap _ _) rfl ?_
                    refine view (lenMap _ _) rfl ?_
                    exact JP1.a h (Le.tow 1 0 rfl (.cons rfl (.refl _) (.cons rfl (.refl _) (.cons rfl (.refl _) (.cons rfl (.refl _) (.cons rfl (.refl _) (.nil)))))) (.refl _) rfl)
                  · exact JP1.a h (Le.tow 1 0 rfl (.cons rfl (.refl _) (.cons rfl (.refl _) (.cons rfl (.refl _) (.cons rfl (.refl _) (.cons rfl (.refl _) (.nil)))))) (.refl _) rfl)
              · have h := hk
                refine st_test h (fun hb h => ?_) (fun hb h => ?_)
                · refine st_ret (t := t_R16_Is) h ?_
                  exact .refl _
                · refine st_bind h (fun o7 ho hk => ?_)
                  refine Exists.intro (JP2 _ _ o7 (.exit 0) (R16_Is_L1_x0 p0 x4 x5) .ret (R16_Is_L1_x1 p0 x4 x5)) (And.intro (T_le (τ := R16_Is_L1_st p0 x4 x5 0) ?_ (TL.loop (ih_R16_Is_L1 p0 x4 x5 0 o7 ho))) (join2 (fun y8 hy => ?_) (fun y9 hy => ?_)))
                  · exact Le.tow 1 0 rfl (.cons rfl (.refl _) (.cons rfl (.refl _) (.cons rfl (.refl _) (.cons rfl (.refl _) (.cons rfl (.refl _) (.nil)))))) (.refl _) rfl
                  · have h := (by rw [hy] at hk; exact hk)
                    refine st_ret (t := t_R16_Is) h ?_
                    exact .refl _
                  · have h := (by rw [hy] at hk; exact hk)
                    refine st_ret (t := t_R16_Is) h ?_
                    exact .refl _
  · intro R16_Is' R16_Is_L1' ih_R16_Is ih_R16_Is_L1 p0 x4 x5 v6 o7 h
    refine TL.round (bwp_sound mixed tbOk (lv := R16_Is_lv) _ _ _ ?_)
    refine view (lenMap _ _) rfl ?_
    refine st_test h (fun hb h => ?_) (fun hb h => ?_)
    · refine st_bind h (fun o10 ho hk => ?_)
      refine Exists.intro (JP1 _ _ o10 .normal (R16_Is_J3_0 p0 x4 x5 v6)) (And.intro ?_ (join1 ?_))
      · have h := ho
        refine st_test h (fun hb h => ?_) (fun hb h => ?_)
        · refine And.intro (by decide +kernel) (And.intro rfl ?_)
          refine st_idx (l := x5) (c := cStr) (c' := cStr) h (fun _ => rfl) (fun _ => rfl) (by decide) (fun x11 hi h => ?_)
          refine st_calld [iV p0.K, sV x11] t_R15_Field h (fun x12 hy => (R15_Field_ok p0.K x11 x12 hy)) (fun x12 hy h => ?_)
          exact JP1.a h (Le.tow 1 0 rfl (.cons rfl (.refl _) (.cons rfl (.refl _) (.cons rfl (.refl _) (.cons rfl (.refl _) (.cons rfl (.refl _) (.cons rfl (.refl _) (.nil))))))) (.refl _) rfl)
        · exact JP1.a h (Le.tow 1 0 rfl (.cons rfl (.refl _) (.cons rfl (.refl _) (.cons rfl (.refl _) (.cons rfl (.refl _) (.cons rfl (.refl _) (.cons rfl (.refl _) (.nil))))))) (.refl _) rfl)
      · have h := hk
        refine st_bind h (fun o13 ho hk => ?_)
        refine Exists.intro (JP1 _ _ o13 .normal (R16_Is_J4_0 p0 x4 x5 v6)) (And.intro ?_ (join1 ?_))
        · have h := ho
          refine st_idx (l := p0.L) (c := c_api_Val) (c' := l_api_Val) h c_api_Val_eq (fun _ => rfl) (by decide) (fun x14 hi h => ?_)
          refine st_test h (fun hb h => ?_) (fun hb h => ?_)
          · exact JP1.a h (Le.tow 1 0 rfl (.cons rfl (.refl _) (.cons rfl (.refl _) (.cons rfl (.refl _) (.cons rfl (.refl _) (.cons rfl (.refl _) (.cons rfl (.refl _) (.nil))))))) (.refl _) rfl)
          · refine st_idx (l := p0.L) (c := c_api_Val) (c' := l_api_Val) h c_api_Val_eq (fun _ => rfl) (by decide) (fun x15 hi h => ?_)
            refine st_call [.agg [iV x15.K, sV x15.S, iV x15.N, bV x15.B, .sl false (x15.L.map c_api_Val)]] t_R16_Is h (fun x16 hy => (ih_R16_Is x15 x16 hy)) (fun x16 hy h => ?_)
            exact JP1.a h (Le.tow 1 0 rfl (.cons rfl (.refl _) (.cons rfl (.refl _) (.cons rfl (.refl _) (.cons rfl (.refl _) (.cons rfl (.refl _) (.cons rfl (.refl _) (.nil))))))) (.refl _) rfl)
        · have h := hk
          refine st_test h (fun hb h => ?_) (fun hb h => ?_)
          · exact JP2.b h (Le.tow 1 0 rfl (.cons rfl (.refl _) (.nil)) (.refl _) rfl)
          · refine TL.le (τ := R16_Is_L1_st p0 x4 x5 (wr (v6 + 1))) ?_ ((ih_R16_Is_L1 p0 x4 x5 (wr (v6 + 1)) _ h))
            exact Le.tow 1 0 rfl (.cons rfl (.refl _) (.cons rfl (.refl _) (.cons rfl (.refl _) (.cons rfl (.refl _) (.cons rfl (.refl _) (.nil)))))) (.refl _) rfl
    · exact JP2.a h (Le.tow 1 0 rfl (.nil) (.refl _) rfl)
theorem R16_Is_ok : ∀ (p0 : api_Val) (o : Bool), R16_Is p0 = some o → PCall Try.prog 40 [.agg [iV p0.K, sV p0.S, iV p0.N, bV p0.B, .sl false (p0.L.map c_api_Val)]] (t_R16_Is o) := fun p0 o h => R16_Is_grp.1 p0 o h
theorem R16_Is_L1_ok : ∀ (p0 : api_Val) (x4 : Int × Bool) (x5 : (List (List UInt8))) (v6 : Int) (o7 : Unit ⊕ Unit), R16_Is_L1 p0 x4 x5 v6 = some o7 → TL (0, 0) Try.prog 115 R16_Is_L1_c (JP2 (0, 0) 115 o7 (.exit 0) (R16_Is_L1_x0 p0 x4 x5) .ret (R16_Is_L1_x1 p0 x4 x5)) (R16_Is_L1_st p0 x4 x5 v6) := fun p0 x4 x5 v6 o7 h => R16_Is_grp.2 p0 x4 x5 v6 o7 h
noncomputable def R16_Find (p0 : api_Val) (p1 : (List UInt8)) : Option ((List UInt8) × Bool) :=
  ( if (p0.K != 8) then
      some true
    else
      R16_Is p0 >>= fun x2 =>
      some (!x2)) >>= fun o1 =>
  if o1 then
    some ([], false)
  else
    (R16_Find_L1 p0 p1 0) >>= fun o3 =>
    match o3 with
    | .inl y4 =>
      some ([], false)
    | .inr y5 =>
      some (y5, true)
set_option maxRecDepth 100000 in
set_option maxHeartbeats 4000000 in
theorem R16_Find_ok : ∀ (p0 : api_Val) (p1 : (List UInt8)) (o : (List UInt8) × Bool), R16_Find p0 p1 = some o → PCall Try.prog 25 [.agg [iV p0.K, sV p0.S, iV p0.N, bV p0.B, .sl false (p0.L.map c_api_Val)], sV p1] (t_R16_Find o) := by
  intro p0 p1 o h
  unfold R16_Find at h
  refine PCall.ofB mixed tbOk R16_Find_lv Try.func25 rfl (by kernel_rfl) (Nat.le_of_ble_eq_true rfl) ?_
  refine st_bind h (fun o1 ho hk => ?_)
  refine Exists.intro (JP1 _ _ o1 .normal (R16_Find_J0_0 p0 p1)) (And.intro ?_ (join1 ?_))
  · have h := ho
    refine st_test h (fun hb h => ?_) (fun hb h => ?_)
    · exact JP1.a h (Le.tow 1 0 rfl (.cons rfl (.refl _) (.cons rfl (.refl _) (.cons rfl (.refl _) (.nil)))) (.refl _) rfl)
    · refine st_call [.agg [iV p0.K, sV p0.S, iV p0.N, bV p0.B, .sl false (p0.L.map c_api_Val)]] t_R16_Is h (fun x2 hy => (R16_Is_ok p0 x2 hy)) (fun x2 hy h => ?_)
      exact JP1.a h (Le.tow 1 0 rfl (.cons rfl (.refl _) (.cons rfl (.refl _) (.cons rfl (.refl _) (.nil)))) (.refl _) rfl)
  · have h := hk
    refine st_test h (fun hb h => ?_) (fun hb h => ?_)
    · refine st_ret (t := t_R16_Find) h ?_
      exact .refl _
    · refine st_bind h (fun o3 ho hk => ?_)
      refine Exists.intro (JP2 _ _ o3 (.exit 0) (R16_Find_L1_x0 p0 p1) .ret (R16_Find_L1_x1 p0 p1)) (And.intro (T_le (τ := R16_Find_L1_st p0 p1 0) ?_ (TL.loop (R16_Find_L1_ok p0 p1 0 o3 ho))) (join2 (fun y4 hy => ?_) (fun y5 hy => ?_)))
      · exact Le.tow 1 0 rfl (.cons rfl (.refl _) (.cons rfl (.refl _) (.cons rfl (.refl _) (.nil)))) (.refl _) rfl
      · have h := (by rw [hy] at hk; exact hk)
        refine st_ret (t := t_R16_Find) h ?_
        exact .refl _
      · have h := (by rw [hy] at hk; exact hk)
        refine st_ret (t := t_R16_Find) h ?_
        exact .refl _
noncomputable def R16_Get_L1 (p0 : api_Val) (p1 : (List UInt8)) (x2 : (List (List UInt8))) (v7 : Int) : Option (Unit ⊕ (Int × (List UInt8) × Int × Bool × (List api_Val))) :=
  if (decide (v7 < (x2.length : Int))) then
    idx x2 v7 >>= fun x6 =>
    if (x6 == p1) then
      idx p0.L v7 >>= fun x7 =>
      some (.inr (x7.K, x7.S, x7.N, x7.B, x7.L))
    else
      R16_Get_L1 p0 p1 x2 (wr (v7 + 1))
  else
    some (.inl ())
  partial_fixpoint
set_option maxRecDepth 100000 in
set_option maxHeartbeats 4000000 in
theorem R16_Get_L1_grp : ∀ (p0 : api_Val) (p1 : (List UInt8)) (x2 : (List (List UInt8))), (∀ (v7 : Int) (o3 : Unit ⊕ (Int × (List UInt8) × Int × Bool × (List api_Val))), R16_Get_L1 p0 p1 x2 v7 = some o3 → TL (0, 0) Try.prog 33 R16_Get_L1_c (JP2 (0, 0) 33 o3 (.exit 0) (R16_Get_L1_x0 p0 p1 x2) .ret (R16_Get_L1_x1 p0 p1 x2)) (R16_Get_L1_st p0 p1 x2 v7)) := by
  intro p0 p1 x2
  refine R16_Get_L1.partial_correctness p0 p1 x2 _ ?_
  intro R16_Get_L1' ih_R16_Get_L1 v7 o3 h
  refine TL.round (bwp_sound mixed tbOk (lv := R16_Get_lv) _ _ _ ?_)
  refine view (lenMap _ _) rfl ?_
  refine st_test h (fun hb h => ?_) (fun hb h => ?_)
  · refine st_idx (l := x2) (c := cStr) (c' := cStr) h (fun _ => rfl) (fun _ => rfl) (by decide) (fun x6 hi h => ?_)
    refine st_test h (fun hb h => ?_) (fun hb h => ?_)
    · refine st_idx (l := p0.L) (c := c_api_Val) (c' := l_api_Val) h c_api_Val_eq (fun _ => rfl) (by decide) (fun x7 hi h => ?_)
      exact JP2.b h (Le.tow 2 0 rfl (.cons rfl (.refl _) (.cons rfl (.refl _) (.nil))) (.refl _) rfl)
    · refine TL.le (τ := R16_Get_L1_st p0 p1 x2 (wr (v7 + 1))) ?_ ((ih_R16_Get_L1 (wr (v7 + 1)) _ h))
      exact Le.tow 2 0 rfl (.cons rfl (.refl _) (.cons rfl (.refl _) (.cons rfl (.refl _) (.cons rfl (.refl _) (.cons rfl (.refl _) (.nil)))))) (.refl _) rfl
  · exact JP2.a h (Le.tow 2 0 rfl (.cons rfl (.refl _) (.nil)) (.refl _) rfl)
theorem R16_Get_L1_ok : ∀ (p0 : api_Val) (p1 : (List UInt8)) (x2 : (List (List UInt8))) (v7 : Int) (o3 : Unit ⊕ (Int × (List UInt8) × Int × Bool × (List api_Val))), R16_Get_L1 p0 p1 x2 v7 = some o3 → TL (0, 0) Try.prog 33 R16_Get_L1_c (JP2 (0, 0) 33 o3 (.exit 0) (R16_Get_L1_x0 p0 p1 x2) .ret (R16_Get_L1_x1 p0 p1 x2)) (R16_Get_L1_st p0 p1 x2 v7) := fun p0 p1 x2 v7 o3 h => (R16_Get_L1_grp p0 p1 x2) v7 o3 h
noncomputable def R16_Get (p0 : api_Val) (p1 : (List UInt8)) : Option (api_Val × Bool) :=
  R16_Is p0 >>= fun x1 =>
  if (!x1) then
    some ((api_Val.mk 0 [] 0 false []), false)
  else
    R15_Fields p0.K >>= fun x2 =>
    (R16_Get_L1 p0 p1 x2 0) >>= fun o3 =>
    match o3 with
    | .inl y4 =>
      some ((api_Val.mk 0 [] 0 false []), false)
    | .inr y5 =>
      some ((api_Val.mk y5.1 y5.2.1 y5.2.2.1 y5.2.2.2.1 y5.2.2.2.2), true)
set_option maxRecDepth 100000 in
set_option maxHeartbeats 4000000 in
theorem R16_Get_ok : ∀ (p0 : api_Val) (p1 : (List UInt8)) (o : api_Val × Bool), R16_Get p0 p1 = some o → PCall Try.prog 23 [.agg [iV p0.K, sV p0.S, iV p0.N, bV p0.B, .sl false (p0.L.map c_api_Val)], sV p1] (t_R16_Get o) := by
  intro p0 p1 o h
  unfold R16_Get at h
  refine PCall.ofB mixed tbOk R16_Get_lv Try.func23 rfl (by kernel_rfl) (Nat.le_of_ble_eq_true rfl) ?_
  refine st_call [.agg [iV p0.K, sV p0.S, iV p0.N, bV p0.B, .sl false (p0.L.map c_api_Val)]] t_R16_Is h (fun x1 hy => (R16_Is_ok p0 x1 hy)) (fun x1 hy h => ?_)
  refine st_test h (fun hb h => ?_) (fun hb h => ?_)
  · refine st_ret (t := t_R16_Get) h ?_
    exact .tup (xs := [.agg [iV 0, sV [], iV 0, bV false, .sl true []], bV false]) (ys := [.agg [iV 0, sV [], iV 0, bV false, .sl false []], bV false]) (.cons (.agg' (.cons (.refl _) (.cons (.refl _) (.cons (.refl _) (.cons (.refl _) (.cons (.not) (.nil))))))) (.cons (.refl _) (.nil)))
  · refine st_call [iV p0.K] t_R15_Fields h (fun x2 hy => (R15_Fields_ok p0.K x2 hy)) (fun x2 hy h => ?_)
    refine st_bind h (fun o3 ho hk => ?_)
    refine Exists.intro (JP2 _ _ o3 (.exit 0) (R16_Get_L1_x0 p0 p1 x2) .ret (R16_Get_L1_x1 p0 p1 x2)) (And.intro (T_le (τ := R16_Get_L1_st p0 p1 x2 0) ?_ (TL.loop (R16_Get_L1_ok p0 p1 x2 0 o3 ho))) (join2 (fun y4 hy => ?_) (fun y5 hy => ?_)))
    · exact Le.tow 2 0 rfl (.cons rfl (.refl _) (.cons rfl (.refl _) (.cons rfl (.refl _) (.cons rfl (.refl _) (.cons rfl (.refl _) (.nil)))))) (.refl _) rfl
    · have h := (by rw [hy] at hk; exact hk)
      refine st_ret (t := t_R16_Get) h ?_
      exact .tup (xs := [.agg [iV 0, sV [], iV 0, bV false, .sl true []], bV false]) (ys := [.agg [iV 0, sV [], iV 0, bV false, .sl false []], bV false]) (.cons (.agg' (.cons (.refl _) (.cons (.refl _) (.cons (.refl _) (.cons (.refl _) (.cons (.not) (.nil))))))) (.cons (.refl _) (.nil)))
    · have h := (by rw [hy] at hk; exact hk)
      refine st_ret (t := t_R16_Get) h ?_
      exact .refl _
noncomputable def R16_List (p0 : Int) (p1 : (List api_Val)) : Option (api_Val × Bool) :=
  R15_Elem p0 >>= fun x1 =>
  ( if (!x1.2) then
      some true
    else
      R16_Is (api_Val.mk p0 [] 0 false p1) >>= fun x3 =>
      some (!x3)) >>= fun o2 =>
  if o2 then
    some ((api_Val.mk 0 [] 0 false []), false)
  else
    some ((api_Val.mk p0 [] 0 false p1), true)
set_option maxRecDepth 100000 in
set_option maxHeartbeats 4000000 in
theorem R16_List_ok : ∀ (p0 : Int) (p1 : (List api_Val)) (o : api_Val × Bool), R16_List p0 p1 = some o → PCall Try.prog 18 [iV p0, .sl false (p1.map c_api_Val)] (t_R16_List o) := by
  intro p0 p1 o h
  unfold R16_List at h
  refine PCall.ofB mixed tbOk R16_List_lv Try.func18 rfl (by kernel_rfl) (Nat.le_of_ble_eq_true rfl) ?_
  refine st_call [iV p0] t_R15_Elem h (fun x1 hy => (R15_Elem_ok p0 x1 hy)) (fun x1 hy h => ?_)
  refine st_bind h (fun o2 ho hk => ?_)
  refine Exists.intro (JP1 _ _ o2 .normal (R16_List_J0_0 p0 p1)) (And.intro ?_ (join1 ?_))
  · have h := ho
    refine st_test h (fun hb h => ?_) (fun hb h => ?_)
    · exact JP1.a h (Le.tow 2 0 rfl (.cons rfl (.refl _) (.cons rfl (.refl _) (.cons rfl (.refl _) (.nil)))) (.refl _) rfl)
    · refine st_call [.agg [iV p0, sV [], iV 0, bV false, .sl false (p1.map c_api_Val)]] t_R16_Is h (fun x3 hy => (R16_Is_ok (api_Val.mk p0 [] 0 false p1) x3 hy)) (fun x3 hy h => ?_)
      exact JP1.a h (Le.tow 2 0 rfl (.cons rfl (.refl _) (.cons rfl (.refl _) (.cons rfl (.refl _) (.nil)))) (.refl _) rfl)
  · have h := hk
    refine st_test h (fun hb h => ?_) (fun hb h => ?_)
    · refine st_ret (t := t_R16_List) h ?_
      exact .tup (xs := [.agg [iV 0, sV [], iV 0, bV false, .sl true []], bV false]) (ys := [.agg [iV 0, sV [], iV 0, bV false, .sl false []], bV false]) (.cons (.agg' (.cons (.refl _) (.cons (.refl _) (.cons (.refl _) (.cons (.refl _) (.cons (.not) (.nil))))))) (.cons (.refl _) (.nil)))
    · refine st_ret (t := t_R16_List) h ?_
      exact .refl _
noncomputable def R16_Text (p0 : (List UInt8)) : Option (api_Val) :=
  some (api_Val.mk 1 p0 0 false [])
set_option maxRecDepth 100000 in
set_option maxHeartbeats 4000000 in
theorem R16_Text_ok : ∀ (p0 : (List UInt8)) (o : api_Val), R16_Text p0 = some o → PCall Try.prog 31 [sV p0] (t_R16_Text o) := by
  intro p0 o h
  unfold R16_Text at h
  refine PCall.ofB mixed tbOk R16_Text_lv Try.func31 rfl (by kernel_rfl) (Nat.le_of_ble_eq_true rfl) ?_
  refine st_ret (t := t_R16_Text) h ?_
  exact .p (.agg' (.cons (.refl _) (.cons (.refl _) (.cons (.refl _) (.cons (.refl _) (.cons (.not) (.nil)))))))
noncomputable def R16_Pair (p0 : (List UInt8)) (p1 : (List UInt8)) : Option (api_Val) :=
  R16_Text p0 >>= fun x1 =>
  R16_Text p1 >>= fun x2 =>
  some (api_Val.mk 4 [] 0 false [x1, x2])
set_option maxRecDepth 100000 in
set_option maxHeartbeats 4000000 in
theorem R16_Pair_ok : ∀ (p0 : (List UInt8)) (p1 : (List UInt8)) (o : api_Val), R16_Pair p0 p1 = some o → PCall Try.prog 32 [sV p0, sV p1] (t_R16_Pair o) := by
  intro p0 p1 o h
  unfold R16_Pair at h
  refine PCall.ofB mixed tbOk R16_Pair_lv Try.func32 rfl (by kernel_rfl) (Nat.le_of_ble_eq_true rfl) ?_
  refine st_call [sV p0] t_R16_Text h (fun x1 hy => (R16_Text_ok p0 x1 hy)) (fun x1 hy h => ?_)
  refine st_call [sV p1] t_R16_Text h (fun x2 hy => (R16_Text_ok p1 x2 hy)) (fun x2 hy h => ?_)
  refine st_ret (t := t_R16_Pair) h ?_
  exact .p (.agg' (.cons (.refl _) (.cons (.refl _) (.cons (.refl _) (.cons (.refl _) (.cons (.no (.cons (.ceq (c_api_Val_eq _) (.refl _)) (.cons (.ceq (c_api_Val_eq _) (.refl _)) (.nil)))) (.nil)))))))
mutual
noncomputable def R16_Same (p0 : api_Val) (p1 : api_Val) : Option (Bool) :=
  ( if (p0.K != p1.K) then
      some true
    else
      if (!(p0.S == p1.S)) then
        some true
      else
        if (p0.N != p1.N) then
          some true
        else
          if (p0.B != p1.B) then
            some true
          else
            some ((p0.L.length : Int) != (p1.L.length : Int))) >>= fun o1 =>
  if o1 then
    some false
  else
    (R16_Same_L1 p0 p1 0) >>= fun o2 =>
    match o2 with
    | .inl y3 =>
      some true
    | .inr y4 =>
      some false
  partial_fixpoint
noncomputable def R16_Same_L1 (p0 : api_Val) (p1 : api_Val) (v5 : Int) : Option (Unit ⊕ Unit) :=
  if (decide (v5 < (p0.L.length : Int))) then
    idx p0.L v5 >>= fun x5 =>
    idx p1.L v5 >>= fun x6 =>
    R16_Same x5 x6 >>= fun x7 =>
    if (!x7) then
      some (.inr ())
    else
      R16_Same_L1 p0 p1 (wr (v5 + 1))
  else
    some (.inl ())
  partial_fixpoint
end
set_option maxRecDepth 100000 in
set_option maxHeartbeats 4000000 in
theorem R16_Same_grp : (∀ (p0 : api_Val) (p1 : api_Val) (o : Bool), R16_Same p0 p1 = some o → PCall Try.prog 19 [.agg [iV p0.K, sV p0.S, iV p0.N, bV p0.B, .sl false (p0.L.map c_api_Val)], .agg [iV p1.K, sV p1.S, iV p1.N, bV p1.B, .sl false (p1.L.map c_api_Val)]] (t_R16_Same o)) ∧ (∀ (p0 : api_Val) (p1 : api_Val) (v5 : Int) (o2 : Unit ⊕ Unit), R16_Same_L1 p0 p1 v5 = some o2 → TL (0, 0) Try.prog 60 R16_Same_L1_c (JP2 (0, 0) 60 o2 (.exit 0) (R16_Same_L1_x0 p0 p1) .ret (R16_Same_L1_x1 p0 p1)) (R16_Same_L1_st p0 p1 v5)) := by
  refine R16_Same.mutual_partial_correctness _ _ ?_ ?_
  · intro R16_Same_L1' ih_R16_Same_L1 p0 p1 o h
    refine PCall.ofB mixed tbOk R16_Same_lv Try.func19 rfl (by kernel_rfl) (Nat.le_of_ble_eq_true rfl) ?_
    refine st_bind h (fun o1 ho hk => ?_)
    refine Exists.intro (JP1 _ _ o1 .normal (R16_Same_J0_0 p0 p1)) (And.intro ?_ (join1 ?_))
    · have h := ho
      refine st_test h (fun hb h => ?_) (fun hb h => ?_)
      · refine bT ?_
        refine bT ?_
        refine bT ?_
        exact JP1.a h (Le.tow 2 0 rfl (.cons rfl (.refl _) (.cons rfl (.refl _) (.cons rfl (.refl _) (.nil)))) (.refl _) rfl)
      · refine st_test h (fun hb h => ?_) (fun hb h => ?_)
        · refine bT ?_
          refine bT ?_
          exact JP1.a h (Le.tow 2 0 rfl (.cons rfl (.refl _) (.cons rfl (.refl _) (.cons rfl (.refl _) (.nil)))) (.refl _) rfl)
        · refine st_test h (fun hb h => ?_) (fun hb h => ?_)
          · refine bT ?_
            exact JP1.a h (Le.tow 2 0 rfl (.cons rfl (.refl _) (.cons rfl (.refl _) (.cons rfl (.refl _) (.nil)))) (.refl _) rfl)
          · refine st_test h (fun hb h => ?_) (fun hb h => ?_)
            · exact JP1.a h (Le.tow 2 0 rfl (.cons rfl (.refl _) (.cons rfl (.refl _) (.cons rfl (.refl _) (.nil)))) (.refl _) rfl)
            · refine view (lenMap _ _) rfl ?_
              refine view (lenMap _ _) rfl ?_
              exact JP1.a h (Le.tow 2 0 rfl (.cons rfl (.refl _) (.cons rfl (.refl _) (.cons rfl (.refl _) (.nil)))) (.refl _) rfl)
    · have h := hk
      refine st_test h (fun hb h => ?_) (fun hb h => ?_)
      · refine st_ret (t := t_R16_Same) h ?_
        exact .refl _
      · refine st_bind h (fun o2 ho hk => ?_)
        refine Exists.intro (JP2 _ _ o2 (.exit 0) (R16_Same_L1_x0 p0 p1) .ret (R16_Same_L1_x1 p0 p1)) (And.intro (T_le (τ := R16_Same_L1_st p0 p1 0) ?_ (TL.loop (ih_R16_Same_L1 p0 p1 0 o2 ho))) (join2 (fun y3 hy => ?_) (fun y4 hy => ?_)))
        · exact Le.tow 2 0 rfl (.cons rfl (.refl _) (.cons rfl (.refl _) (.cons rfl (.refl _) (.nil)))) (.refl _) rfl
        · have h := (by rw [hy] at hk; exact hk)
          refine st_ret (t := t_R16_Same) h ?_
          exact .refl _
        · have h := (by rw [hy] at hk; exact hk)
          refine st_ret (t := t_R16_Same) h ?_
          exact .refl _
  · intro R16_Same' R16_Same_L1' ih_R16_Same ih_R16_Same_L1 p0 p1 v5 o2 h
    refine TL.round (bwp_sound mixed tbOk (lv := R16_Same_lv) _ _ _ ?_)
    refine view (lenMap _ _) rfl ?_
    refine st_test h (fun hb h => ?_) (fun hb h => ?_)
    · refine And.intro (by decide +kernel) (And.intro rfl ?_)
      refine st_idx (l := p0.L) (c := c_api_Val) (c' := l_api_Val) h c_api_Val_eq (fun _ => rfl) (by decide) (fun x5 hi h => ?_)
      refine st_idx (l := p1.L) (c := c_api_Val) (c' := l_api_Val) h c_api_Val_eq (fun _ => rfl) (by decide) (fun x6 hi h => ?_)
      refine st_calld [.agg [iV x5.K, sV x5.S, iV x5.N, bV x5.B, .sl false (x5.L.map c_api_Val)], .agg [iV x6.K, sV x6.S, iV x6.N, bV x6.B, .sl false (x6.L.map c_api_Val)]] t_R16_Same h (fun x7 hy => (ih_R16_Same x5 x6 x7 hy)) (fun x7 hy h => ?_)
      refine st_test h (fun hb h => ?_) (fun hb h => ?_)
      · exact JP2.b h (Le.tow 2 0 rfl (.cons rfl (.refl _) (.nil)) (.refl _) rfl)
      · refine TL.le (τ := R16_Same_L1_st p0 p1 (wr (v5 + 1))) ?_ ((ih_R16_Same_L1 p0 p1 (wr (v5 + 1)) _ h))
        exact Le.tow 2 0 rfl (.cons rfl (.refl _) (.cons rfl (.refl _) (.cons rfl (.refl _) (.nil)))) (.refl _) rfl
    · exact JP2.a h (Le.tow 2 0 rfl (.nil) (.refl _) rfl)
theorem R16_Same_ok : ∀ (p0 : api_Val) (p1 : api_Val) (o : Bool), R16_Same p0 p1 = some o → PCall Try.prog 19 [.agg [iV p0.K, sV p0.S, iV p0.N, bV p0.B, .sl false (p0.L.map c_api_Val)], .agg [iV p1.K, sV p1.S, iV p1.N, bV p1.B, .sl false (p1.L.map c_api_Val)]] (t_R16_Same o) := fun p0 p1 o h => R16_Same_grp.1 p0 p1 o h
theorem R16_Same_L1_ok : ∀ (p0 : api_Val) (p1 : api_Val) (v5 : Int) (o2 : Unit ⊕ Unit), R16_Same_L1 p0 p1 v5 = some o2 → TL (0, 0) Try.prog 60 R16_Same_L1_c (JP2 (0, 0) 60 o2 (.exit 0) (R16_Same_L1_x0 p0 p1) .ret (R16_Same_L1_x1 p0 p1)) (R16_Same_L1_st p0 p1 v5) := fun p0 p1 v5 o2 h => R16_Same_grp.2 p0 p1 v5 o2 h
mutual
noncomputable def R16_Weight (p0 : api_Val) : Option (Int) :=
  (R16_Weight_L1 p0 1 0) >>= fun o1 =>
  some o1
  partial_fixpoint
noncomputable def R16_Weight_L1 (p0 : api_Val) (v3 : Int) (v4 : Int) : Option (Int) :=
  if (decide (v4 < (p0.L.length : Int))) then
    idx p0.L v4 >>= fun x2 =>
    R16_Weight x2 >>= fun x3 =>
    R16_Weight_L1 p0 (wr (v3 + x3)) (wr (v4 + 1))
  else
    some v3
  partial_fixpoint
end
set_option maxRecDepth 100000 in
set_option maxHeartbeats 4000000 in
theorem R16_Weight_grp : (∀ (p0 : api_Val) (o : Int), R16_Weight p0 = some o → PCall Try.prog 42 [.agg [iV p0.K, sV p0.S, iV p0.N, bV p0.B, .sl false (p0.L.map c_api_Val)]] (t_R16_Weight o)) ∧ (∀ (p0 : api_Val) (v3 : Int) (v4 : Int) (o1 : Int), R16_Weight_L1 p0 v3 v4 = some o1 → TL (0, 0) Try.prog 21 R16_Weight_L1_c (JP1 (0, 0) 21 o1 (.exit 0) (R16_Weight_L1_x0 p0)) (R16_Weight_L1_st p0 v3 v4)) := by
  refine R16_Weight.mutual_partial_correctness _ _ ?_ ?_
  · intro R16_Weight_L1' ih_R16_Weight_L1 p0 o h
    refine PCall.ofB mixed tbOk R16_Weight_lv Try.func42 rfl (by kernel_rfl) (Nat.le_of_ble_eq_true rfl) ?_
    refine st_bind h (fun o1 ho hk => ?_)
    refine Exists.intro (JP1 _ _ o1 (.exit 0) (R16_Weight_L1_x0 p0)) (And.intro (T_le (τ := R16_Weight_L1_st p0 1 0) ?_ (TL.loop (ih_R16_Weight_L1 p0 1 0 o1 ho))) (join1 ?_))
    · exact Le.tow 1 0 rfl (.cons rfl (.refl _) (.cons rfl (.refl _) (.cons rfl (.refl _) (.nil)))) (.refl _) rfl
    have h := hk
    refine st_ret (t := t_R16_Weight) h ?_
    exact .refl _
  · intro R16_Weight' R16_Weight_L1' ih_R16_Weight ih_R16_Weight_L1 p0 v3 v4 o1 h
    refine TL.round (bwp_sound mixed tbOk (lv := R16_Weight_lv) _ _ _ ?_)
    refine view (lenMap _ _) rfl ?_
    refine st_test h (fun hb h => ?_) (fun hb h => ?_)
    · refine st_idx (l := p0.L) (c := c_api_Val) (c' := l_api_Val) h c_api_Val_eq (fun _ => rfl) (by decide) (fun x2 hi h => ?_)
      refine st_call [.agg [iV x2.K, sV x2.S, iV x2.N, bV x2.B, .sl false (x2.L.map c_api_Val)]] t_R16_Weight h (fun x3 hy => (ih_R16_Weight x2 x3 hy)) (fun x3 hy h => ?_)
      refine TL.le (τ := R16_Weight_L1_st p0 (wr (v3 + x3)) (wr (v4 + 1))) ?_ ((ih_R16_Weight_L1 p0 (wr (v3 + x3)) (wr (v4 + 1)) _ h))
      exact Le.tow 1 0 rfl (.cons rfl (.refl _) (.cons rfl (.refl _) (.cons rfl (.refl _) (.nil)))) (.refl _) rfl
    · exact JP1.a h (Le.tow 1 0 rfl (.cons rfl (.refl _) (.nil)) (.refl _) rfl)
theorem R16_Weight_ok : ∀ (p0 : api_Val) (o : Int), R16_Weight p0 = some o → PCall Try.prog 42 [.agg [iV p0.K, sV p0.S, iV p0.N, bV p0.B, .sl false (p0.L.map c_api_Val)]] (t_R16_Weight o) := fun p0 o h => R16_Weight_grp.1 p0 o h
theorem R16_Weight_L1_ok : ∀ (p0 : api_Val) (v3 : Int) (v4 : Int) (o1 : Int), R16_Weight_L1 p0 v3 v4 = some o1 → TL (0, 0) Try.prog 21 R16_Weight_L1_c (JP1 (0, 0) 21 o1 (.exit 0) (R16_Weight_L1_x0 p0)) (R16_Weight_L1_st p0 v3 v4) := fun p0 v3 v4 o1 h => R16_Weight_grp.2 p0 v3 v4 o1 h
noncomputable def kind_Elem (p0 : Int) : Option (Int × Bool) :=
  if (p0 == 7) then
    some (1, true)
  else
    if (p0 == 8) then
      some (4, true)
    else
      if (p0 == 9) then
        some (5, true)
      else
        some (0, false)
set_option maxRecDepth 100000 in
set_option maxHeartbeats 4000000 in
theorem kind_Elem_ok : ∀ (p0 : Int) (o : Int × Bool), kind_Elem p0 = some o → PCall Try.prog 59 [iV p0] (t_kind_Elem o) := by
  intro p0 o h
  unfold kind_Elem at h
  refine PCall.ofB mixed tbOk kind_Elem_lv Try.func59 rfl (by kernel_rfl) (Nat.le_of_ble_eq_true rfl) ?_
  refine st_test h (fun hb h => ?_) (fun hb h => ?_)
  · refine st_ret (t := t_kind_Elem) h ?_
    exact .refl _
  · refine st_test h (fun hb h => ?_) (fun hb h => ?_)
    · refine st_ret (t := t_kind_Elem) h ?_
      exact .refl _
    · refine st_test h (fun hb h => ?_) (fun hb h => ?_)
      · refine st_ret (t := t_kind_Elem) h ?_
        exact .refl _
      · refine st_ret (t := t_kind_Elem) h ?_
        exact .refl _
noncomputable def kind_Field_L1 (p0 : Int) (p1 : (List UInt8)) (x1 : (List kind_field)) (v10 : Int) : Option (Unit ⊕ Int) :=
  if (decide (v10 < (x1.length : Int))) then
    idx x1 v10 >>= fun x5 =>
    ( if (x5.of_ == p0) then
        some (x5.name_ == p1)
      else
        some false) >>= fun o6 =>
    if o6 then
      some (.inr x5.is_)
    else
      kind_Field_L1 p0 p1 x1 (wr (v10 + 1))
  else
    some (.inl ())
  partial_fixpoint
set_option maxRecDepth 100000 in
set_option maxHeartbeats 4000000 in
theorem kind_Field_L1_grp : ∀ (p0 : Int) (p1 : (List UInt8)) (x1 : (List kind_field)), (∀ (v10 : Int) (o2 : Unit ⊕ Int), kind_Field_L1 p0 p1 x1 v10 = some o2 → TL (0, 0) Try.prog 27 kind_Field_L1_c (JP2 (0, 0) 27 o2 (.exit 0) (kind_Field_L1_x0 p0 p1 x1) .ret (kind_Field_L1_x1 p0 p1 x1)) (kind_Field_L1_st p0 p1 x1 v10)) := by
  intro p0 p1 x1
  refine kind_Field_L1.partial_correctness p0 p1 x1 _ ?_
  intro kind_Field_L1' ih_kind_Field_L1 v10 o2 h
  refine TL.round (bwp_sound mixed tbOk (lv := kind_Field_lv) _ _ _ ?_)
  refine st_test h (fun hb h => ?_) (fun hb h => ?_)
  · refine st_idx (l := x1) (c := c_kind_field) (c' := c_kind_field) h (fun _ => rfl) (fun _ => rfl) (by decide) (fun x5 hi h => ?_)
    refine st_bind h (fun o6 ho hk => ?_)
    refine Exists.intro (JP1 _ _ o6 .normal (kind_Field_J0_0 p0 p1 x1 v10 x5)) (And.intro ?_ (join1 ?_))
    · have h := ho
      refine st_test h (fun hb h => ?_) (fun hb h => ?_)
      · exact JP1.a h (Le.tow 1 0 rfl (.cons rfl (.refl _) (.cons rfl (.refl _) (.cons rfl (.refl _) (.cons rfl (.refl _) (.cons rfl (.refl _) (.cons rfl (.refl _) (.cons rfl (.refl _) (.nil)))))))) (.refl _) rfl)
      · exact JP1.a h (Le.tow 1 0 rfl (.cons rfl (.refl _) (.cons rfl (.refl _) (.cons rfl (.refl _) (.cons rfl (.refl _) (.cons rfl (.refl _) (.cons rfl (.refl _) (.cons rfl (.refl _) (.nil)))))))) (.refl _) rfl)
    · have h := hk
      refine st_test h (fun hb h => ?_) (fun hb h => ?_)
      · exact JP2.b h (Le.tow 0 0 rfl (.cons rfl (.refl _) (.cons rfl (.refl _) (.nil))) (.refl _) rfl)
      · refine TL.le (τ := kind_Field_L1_st p0 p1 x1 (wr (v10 + 1))) ?_ ((ih_kind_Field_L1 (wr (v10 + 1)) _ h))
        exact Le.tow 0 0 rfl (.cons rfl (.refl _) (.cons rfl (.refl _) (.cons rfl (.refl _) (.cons rfl (.refl _) (.cons rfl (.refl _) (.nil)))))) (.refl _) rfl
  · exact JP2.a h (Le.tow 0 0 rfl (.nil) (.refl _) rfl)
theorem kind_Field_L1_ok : ∀ (p0 : Int) (p1 : (List UInt8)) (x1 : (List kind_field)) (v10 : Int) (o2 : Unit ⊕ Int), kind_Field_L1 p0 p1 x1 v10 = some o2 → TL (0, 0) Try.prog 27 kind_Field_L1_c (JP2 (0, 0) 27 o2 (.exit 0) (kind_Field_L1_x0 p0 p1 x1) .ret (kind_Field_L1_x1 p0 p1 x1)) (kind_Field_L1_st p0 p1 x1 v10) := fun p0 p1 x1 v10 o2 h => (kind_Field_L1_grp p0 p1 x1) v10 o2 h
noncomputable def kind_table : Option ((List kind_field)) :=
  some ([(kind_field.mk 4 [107, 101, 121] 1), (kind_field.mk 4 [118, 97, 108] 1), (kind_field.mk 5 [102, 105, 114, 105, 110, 103] 3), (kind_field.mk 5 [115, 116, 97, 114, 116, 115] 2), (kind_field.mk 5 [118, 97, 108, 117, 101] 2), (kind_field.mk 5 [108, 97, 98, 101, 108, 115] 8), (kind_field.mk 5 [110, 111, 116, 101, 115] 8), (kind_field.mk 5 [108, 105, 110, 107] 1), (kind_field.mk 6 [114, 101, 99, 101, 105, 118, 101, 114] 1), (kind_field.mk 6 [102, 105, 114, 105, 110, 103] 3), (kind_field.mk 6 [99, 111, 109, 109, 111, 110] 8), (kind_field.mk 6 [108, 105, 110, 107] 1), (kind_field.mk 6 [97, 108, 101, 114, 116, 115] 9)])
set_option maxRecDepth 100000 in
set_option maxHeartbeats 4000000 in
theorem kind_table_ok : ∀ (o : (List kind_field)), kind_table  = some o → PCall Try.prog 94 [] (t_kind_table o) := by
  intro o h
  unfold kind_table at h
  refine PCall.ofB mixed tbOk kind_table_lv Try.func94 rfl (by kernel_rfl) (Nat.le_of_ble_eq_true rfl) ?_
  refine st_ret (t := t_kind_table) h ?_
  exact .p (.not)
noncomputable def kind_Field (p0 : Int) (p1 : (List UInt8)) : Option (Int × Bool) :=
  kind_table >>= fun x1 =>
  (kind_Field_L1 p0 p1 x1 0) >>= fun o2 =>
  match o2 with
  | .inl y3 =>
    some (0, false)
  | .inr y4 =>
    some (y4, true)
set_option maxRecDepth 100000 in
set_option maxHeartbeats 4000000 in
theorem kind_Field_ok : ∀ (p0 : Int) (p1 : (List UInt8)) (o : Int × Bool), kind_Field p0 p1 = some o → PCall Try.prog 66 [iV p0, sV p1] (t_kind_Field o) := by
  intro p0 p1 o h
  unfold kind_Field at h
  refine PCall.ofB mixed tbOk kind_Field_lv Try.func66 rfl (by kernel_rfl) (Nat.le_of_ble_eq_true rfl) ?_
  refine st_call [] t_kind_table h (fun x1 hy => (kind_table_ok x1 hy)) (fun x1 hy h => ?_)
  refine view (lenMap _ _) rfl ?_
  refine st_bind h (fun o2 ho hk => ?_)
  refine Exists.intro (JP2 _ _ o2 (.exit 0) (kind_Field_L1_x0 p0 p1 x1) .ret (kind_Field_L1_x1 p0 p1 x1)) (And.intro (T_le (τ := kind_Field_L1_st p0 p1 x1 0) ?_ (TL.loop (kind_Field_L1_ok p0 p1 x1 0 o2 ho))) (join2 (fun y3 hy => ?_) (fun y4 hy => ?_)))
  · exact Le.tow 0 0 rfl (.cons rfl (.refl _) (.cons rfl (.refl _) (.cons rfl (.refl _) (.cons rfl (.refl _) (.cons rfl (.refl _) (.nil)))))) (.refl _) rfl
  · have h := (by rw [hy] at hk; exact hk)
    refine st_ret (t := t_kind_Field) h ?_
    exact .refl _
  · have h := (by rw [hy] at hk; exact hk)
    refine st_ret (t := t_kind_Field) h ?_
    exact .refl _
noncomputable def kind_Fields_L1 (p0 : Int) (x1 : (List kind_field)) (v3 : (List (List UInt8))) (v8 : Int) : Option ((List (List UInt8))) :=
  if (decide (v8 < (x1.length : Int))) then
    idx x1 v8 >>= fun x3 =>
    if (x3.of_ == p0) then
      appL 16 v3 [x3.name_] >>= fun x4 =>
      kind_Fields_L1 p0 x1 x4 (wr (v8 + 1))
    else
      kind_Fields_L1 p0 x1 v3 (wr (v8 + 1))
  else
    some v3
  partial_fixpoint
set_option maxRecDepth 100000 in
set_option maxHeartbeats 4000000 in
theorem kind_Fields_L1_grp : ∀ (p0 : Int) (x1 : (List kind_field)), (∀ (v3 : (List (List UInt8))) (v8 : Int) (o2 : (List (List UInt8))), kind_Fields_L1 p0 x1 v3 v8 = some o2 → TL (0, 0) Try.prog 23 kind_Fields_L1_c (JP1 (0, 0) 23 o2 (.exit 0) (kind_Fields_L1_x0 p0 x1)) (kind_Fields_L1_st p0 x1 v3 v8)) := by
  intro p0 x1
  refine kind_Fields_L1.partial_correctness p0 x1 _ ?_
  intro kind_Fields_L1' ih_kind_Fields_L1 v3 v8 o2 h
  refine TL.round (bwp_sound mixed tbOk (lv := kind_Fields_lv) _ _ _ ?_)
  refine st_test h (fun hb h => ?_) (fun hb h => ?_)
  · refine st_idx (l := x1) (c := c_kind_field) (c' := c_kind_field) h (fun _ => rfl) (fun _ => rfl) (by decide) (fun x3 hi h => ?_)
    refine st_test h (fun hb h => ?_) (fun hb h => ?_)
    · refine st_appo (a := v3) (b := [x3.name_]) (c := cStr) h (.refl _) (fun _ => rfl) rfl (fun x4 hi h => ?_)
      refine TL.le (τ := kind_Fields_L1_st p0 x1 x4 (wr (v8 + 1))) ?_ ((ih_kind_Fields_L1 x4 (wr (v8 + 1)) _ h))
      exact Le.tow 0 1 rfl (.cons rfl (.refl _) (.cons rfl (.refl _) (.cons rfl (.refl _) (.cons rfl (.refl _) (.cons rfl (.refl _) (.nil)))))) (.refl _) rfl
    · refine TL.le (τ := kind_Fields_L1_st p0 x1 v3 (wr (v8 + 1))) ?_ ((ih_kind_Fields_L1 v3 (wr (v8 + 1)) _ h))
      exact Le.tow 0 1 rfl (.cons rfl (.refl _) (.cons rfl (.refl _) (.cons rfl (.refl _) (.cons rfl (.refl _) (.cons rfl (.refl _) (.nil)))))) (.refl _) rfl
  · exact JP1.a h (Le.tow 0 1 rfl (.cons rfl (.refl _) (.nil)) (.refl _) rfl)
theorem kind_Fields_L1_ok : ∀ (p0 : Int) (x1 : (List kind_field)) (v3 : (List (List UInt8))) (v8 : Int) (o2 : (List (List UInt8))), kind_Fields_L1 p0 x1 v3 v8 = some o2 → TL (0, 0) Try.prog 23 kind_Fields_L1_c (JP1 (0, 0) 23 o2 (.exit 0) (kind_Fields_L1_x0 p0 x1)) (kind_Fields_L1_st p0 x1 v3 v8) := fun p0 x1 v3 v8 o2 h => (kind_Fields_L1_grp p0 x1) v3 v8 o2 h
noncomputable def kind_Fields (p0 : Int) : Option ((List (List UInt8))) :=
  kind_table >>= fun x1 =>
  (kind_Fields_L1 p0 x1 [] 0) >>= fun o2 =>
  some o2
set_option maxRecDepth 100000 in
set_option maxHeartbeats 4000000 in
theorem kind_Fields_ok : ∀ (p0 : Int) (o : (List (List UInt8))), kind_Fields p0 = some o → PCall Try.prog 65 [iV p0] (t_kind_Fields o) := by
  intro p0 o h
  unfold kind_Fields at h
  refine PCall.ofB mixed tbOk kind_Fields_lv Try.func65 rfl (by kernel_rfl) (Nat.le_of_ble_eq_true rfl) ?_
  refine st_call [] t_kind_table h (fun x1 hy => (kind_table_ok x1 hy)) (fun x1 hy h => ?_)
  refine view (lenMap _ _) rfl ?_
  refine st_bind h (fun o2 ho hk => ?_)
  refine Exists.intro (JP1 _ _ o2 (.exit 0) (kind_Fields_L1_x0 p0 x1)) (And.intro (T_le (τ := kind_Fields_L1_st p0 x1 [] 0) ?_ (TL.loop (kind_Fields_L1_ok p0 x1 [] 0 o2 ho))) (join1 ?_))
  · exact (Le.own 3 9 1 rfl sizeNil).trans (Le.tow 0 1 rfl (.cons rfl (.refl _) (.cons rfl (.refl _) (.cons rfl (.refl _) (.cons rfl (.refl _) (.cons rfl (.refl _) (.nil)))))) (.refl _) rfl)
  have h := hk
  refine st_ret (t := t_kind_Fields) h ?_
  exact .refl _
noncomputable def kind_Plain (p0 : Int) : Option (Bool) :=
  ( if (decide (p0 ≥ 1)) then
      some (decide (p0 ≤ 3))
    else
      some false) >>= fun o1 =>
  some o1
set_option maxRecDepth 100000 in
set_option maxHeartbeats 4000000 in
theorem kind_Plain_ok : ∀ (p0 : Int) (o : Bool), kind_Plain p0 = some o → PCall Try.prog 62 [iV p0] (t_kind_Plain o) := by
  intro p0 o h
  unfold kind_Plain at h
  refine PCall.ofB mixed tbOk kind_Plain_lv Try.func62 rfl (by kernel_rfl) (Nat.le_of_ble_eq_true rfl) ?_
  refine st_bind h (fun o1 ho hk => ?_)
  refine Exists.intro (JP1 _ _ o1 .normal (kind_Plain_J0_0 )) (And.intro ?_ (join1 ?_))
  · have h := ho
    refine st_test h (fun hb h => ?_) (fun hb h => ?_)
    · exact JP1.a h (Le.tow 0 0 rfl (.cons rfl (.refl _) (.nil)) (.refl _) rfl)
    · exact JP1.a h (Le.tow 0 0 rfl (.cons rfl (.refl _) (.nil)) (.refl _) rfl)
  · have h := hk
    refine st_ret (t := t_kind_Plain) h ?_
    exact .refl _
mutual
noncomputable def nunciolaw16_Light (p0 : api_Val) (p1 : Int) : Option (api_Val) :=
  cutL p0.S 0 (if 60 < (p0.S.length : Int) then 60 else (p0.S.length : Int)) >>= fun x1 =>
  (nunciolaw16_Light_L1 p0 p1 x1 0 []) >>= fun o2 =>
  some (api_Val.mk p0.K x1 p0.N p0.B o2)
  partial_fixpoint
noncomputable def nunciolaw16_Light_L1 (p0 : api_Val) (p1 : Int) (x1 : (List UInt8)) (v6 : Int) (h2_4 : (List api_Val)) : Option ((List api_Val)) :=
  ( if (decide (v6 < (p0.L.length : Int))) then
      if (decide (v6 < 7)) then
        some (decide (p1 > 0))
      else
        some false
    else
      some false) >>= fun o3 =>
  if o3 then
    idx p0.L v6 >>= fun x4 =>
    nunciolaw16_Light x4 (wr (p1 - 1)) >>= fun x5 =>
    appL 64 h2_4 [x5] >>= fun x6 =>
    nunciolaw16_Light_L1 p0 p1 x1 (wr (v6 + 1)) x6
  else
    some h2_4
  partial_fixpoint
end
set_option maxRecDepth 100000 in
set_option maxHeartbeats 4000000 in
theorem nunciolaw16_Light_grp : (∀ (p0 : api_Val) (p1 : Int) (o : api_Val), nunciolaw16_Light p0 p1 = some o → PCall Try.prog 16 [.agg [iV p0.K, sV p0.S, iV p0.N, bV p0.B, .sl false (p0.L.map c_api_Val)], iV p1] (t_nunciolaw16_Light o)) ∧ (∀ (p0 : api_Val) (p1 : Int) (x1 : (List UInt8)) (v6 : Int) (h2_4 : (List api_Val)) (o2 : (List api_Val)), nunciolaw16_Light_L1 p0 p1 x1 v6 h2_4 = some o2 → TL (0, 0) Try.prog 50 nunciolaw16_Light_L1_c (JP1 (0, 0) 50 o2 (.exit 0) (nunciolaw16_Light_L1_x0 p0 p1 x1)) (nunciolaw16_Light_L1_st p0 p1 x1 v6 h2_4)) := by
  refine nunciolaw16_Light.mutual_partial_correctness _ _ ?_ ?_
  · intro nunciolaw16_Light_L1' ih_nunciolaw16_Light_L1 p0 p1 o h
    refine PCall.ofB mixed tbOk nunciolaw16_Light_lv Try.func16 rfl (by kernel_rfl) (Nat.le_of_ble_eq_true rfl) ?_
    refine And.intro (by decide +kernel) (And.intro rfl ?_)
    refine vrfl ?_
    refine st_cuts none (some (if 60 < (p0.S.length : Int) then 60 else (p0.S.length : Int))) h (fun x1 hi h => ?_)
    refine st_bind h (fun o2 ho hk => ?_)
    refine Exists.intro (JP1 _ _ o2 (.exit 0) (nunciolaw16_Light_L1_x0 p0 p1 x1)) (And.intro (T_le (τ := nunciolaw16_Light_L1_st p0 p1 x1 0 []) ?_ (TL.loop (ih_nunciolaw16_Light_L1 p0 p1 x1 0 [] o2 ho))) (join1 ?_))
    · exact (Le.ownH 2 4 27 5 rfl rfl sizeNil).trans (Le.tow 3 1 rfl (.cons rfl (.refl _) (.cons rfl (.refl _) (.cons rfl (.refl _) (.cons rfl (.refl _) (.cons rfl (.refl _) (.nil)))))) (.refl _) rfl)
    have h := hk
    refine st_ret (t := t_nunciolaw16_Light) h ?_
    exact .refl _
  · intro nunciolaw16_Light' nunciolaw16_Light_L1' ih_nunciolaw16_Light ih_nunciolaw16_Light_L1 p0 p1 x1 v6 h2_4 o2 h
    refine TL.round (bwp_sound mixed tbOk (lv := nunciolaw16_Light_lv) _ _ _ ?_)
    refine st_bind h (fun o3 ho hk => ?_)
    refine Exists.intro (JP1 _ _ o3 .normal (nunciolaw16_Light_J0_0 p0 p1 x1 v6 h2_4)) (And.intro ?_ (join1 ?_))
    · have h := ho
      refine view (lenMap _ _) rfl ?_
      refine st_test h (fun hb h => ?_) (fun hb h => ?_)
      · refine st_test h (fun hb h => ?_) (fun hb h => ?_)
        · exact JP1.a h (Le.tow 3 1 rfl (.cons rfl (.refl _) (.cons rfl (.refl _) (.cons rfl (.refl _) (.cons rfl (.refl _) (.cons rfl (.refl _) (.cons rfl (.refl _) (.nil))))))) (.refl _) rfl)
        · exact JP1.a h (Le.tow 3 1 rfl (.cons rfl (.refl _) (.cons rfl (.refl _) (.cons rfl (.refl _) (.cons rfl (.refl _) (.cons rfl (.refl _) (.cons rfl (.refl _) (.nil))))))) (.refl _) rfl)
      · refine bF ?_
        exact JP1.a h (Le.tow 3 1 rfl (.cons rfl (.refl _) (.cons rfl (.refl _) (.cons rfl (.refl _) (.cons rfl (.refl _) (.cons rfl (.refl _) (.cons rfl (.refl _) (.nil))))))) (.refl _) rfl)
    · have h := hk
      refine st_test h (fun hb h => ?_) (fun hb h => ?_)
      · refine And.intro (by decide +kernel) (And.intro rfl ?_)
        refine st_idx (l := p0.L) (c := c_api_Val) (c' := l_api_Val) h c_api_Val_eq (fun _ => rfl) (by decide) (fun x4 hi h => ?_)
        refine st_calld [.agg [iV x4.K, sV x4.S, iV x4.N, bV x4.B, .sl false (x4.L.map c_api_Val)], iV (wr (p1 - 1))] t_nunciolaw16_Light h (fun x5 hy => (ih_nunciolaw16_Light x4 (wr (p1 - 1)) x5 hy)) (fun x5 hy h => ?_)
        refine st_appo (a := h2_4) (b := [x5]) (c := c_api_Val) h (.cons (.ceq (c_api_Val_eq _) (.refl _)) (.nil)) (fun x => by rw [c_api_Val_eq]; rfl) rfl (fun x6 hi h => ?_)
        refine TL.le (τ := nunciolaw16_Light_L1_st p0 p1 x1 (wr (v6 + 1)) x6) ?_ ((ih_nunciolaw16_Light_L1 p0 p1 x1 (wr (v6 + 1)) x6 _ h))
        exact Le.tow 3 1 rfl (.cons rfl (.refl _) (.cons rfl (.refl _) (.cons rfl (.refl _) (.cons rfl (.refl _) (.cons rfl (.refl _) (.nil)))))) (.refl _) rfl
      · exact JP1.a h (Le.tow 3 1 rfl (.cons rfl (.refl _) (.cons rfl (.refl _) (.nil))) (.refl _) rfl)
theorem nunciolaw16_Light_ok : ∀ (p0 : api_Val) (p1 : Int) (o : api_Val), nunciolaw16_Light p0 p1 = some o → PCall Try.prog 16 [.agg [iV p0.K, sV p0.S, iV p0.N, bV p0.B, .sl false (p0.L.map c_api_Val)], iV p1] (t_nunciolaw16_Light o) := fun p0 p1 o h => nunciolaw16_Light_grp.1 p0 p1 o h
theorem nunciolaw16_Light_L1_ok : ∀ (p0 : api_Val) (p1 : Int) (x1 : (List UInt8)) (v6 : Int) (h2_4 : (List api_Val)) (o2 : (List api_Val)), nunciolaw16_Light_L1 p0 p1 x1 v6 h2_4 = some o2 → TL (0, 0) Try.prog 50 nunciolaw16_Light_L1_c (JP1 (0, 0) 50 o2 (.exit 0) (nunciolaw16_Light_L1_x0 p0 p1 x1)) (nunciolaw16_Light_L1_st p0 p1 x1 v6 h2_4) := fun p0 p1 x1 v6 h2_4 o2 h => nunciolaw16_Light_grp.2 p0 p1 x1 v6 h2_4 o2 h
noncomputable def schema_Find_L1 (p0 : api_Val) (p1 : (List UInt8)) (v19 : Int) : Option (Unit ⊕ (List UInt8)) :=
  if (decide (v19 < (p0.L.length : Int))) then
    idx p0.L v19 >>= fun x6 =>
    idx x6.L 0 >>= fun x7 =>
    if (x7.S == p1) then
      idx x6.L 1 >>= fun x8 =>
      some (.inr x8.S)
    else
      schema_Find_L1 p0 p1 (wr (v19 + 1))
  else
    some (.inl ())
  partial_fixpoint
set_option maxRecDepth 100000 in
set_option maxHeartbeats 4000000 in
theorem schema_Find_L1_grp : ∀ (p0 : api_Val) (p1 : (List UInt8)), (∀ (v19 : Int) (o3 : Unit ⊕ (List UInt8)), schema_Find_L1 p0 p1 v19 = some o3 → TL (0, 0) Try.prog 36 schema_Find_L1_c (JP2 (0, 0) 36 o3 (.exit 0) (schema_Find_L1_x0 p0 p1) .ret (schema_Find_L1_x1 p0 p1)) (schema_Find_L1_st p0 p1 v19)) := by
  intro p0 p1
  refine schema_Find_L1.partial_correctness p0 p1 _ ?_
  intro schema_Find_L1' ih_schema_Find_L1 v19 o3 h
  refine TL.round (bwp_sound mixed tbOk (lv := schema_Find_lv) _ _ _ ?_)
  refine st_test h (fun hb h => ?_) (fun hb h => ?_)
  · refine st_idx (l := p0.L) (c := c_api_Val) (c' := l_api_Val) h c_api_Val_eq (fun _ => rfl) (by decide) (fun x6 hi h => ?_)
    refine st_idx (l := x6.L) (c := c_api_Val) (c' := l_api_Val) h c_api_Val_eq (fun _ => rfl) (by decide) (fun x7 hi h => ?_)
    refine st_test h (fun hb h => ?_) (fun hb h => ?_)
    · refine st_idx (l := x6.L) (c := c_api_Val) (c' := l_api_Val) h c_api_Val_eq (fun _ => rfl) (by decide) (fun x8 hi h => ?_)
      exact JP2.b h (Le.tow 1 0 rfl (.cons rfl (.refl _) (.cons rfl (.refl _) (.nil))) (.refl _) rfl)
    · refine TL.le (τ := schema_Find_L1_st p0 p1 (wr (v19 + 1))) ?_ ((ih_schema_Find_L1 (wr (v19 + 1)) _ h))
      exact Le.tow 1 0 rfl (.cons rfl (.refl _) (.cons rfl (.refl _) (.cons rfl (.refl _) (.cons rfl (.refl _) (.nil))))) (.refl _) rfl
  · exact JP2.a h (Le.tow 1 0 rfl (.nil) (.refl _) rfl)
theorem schema_Find_L1_ok : ∀ (p0 : api_Val) (p1 : (List UInt8)) (v19 : Int) (o3 : Unit ⊕ (List UInt8)), schema_Find_L1 p0 p1 v19 = some o3 → TL (0, 0) Try.prog 36 schema_Find_L1_c (JP2 (0, 0) 36 o3 (.exit 0) (schema_Find_L1_x0 p0 p1) .ret (schema_Find_L1_x1 p0 p1)) (schema_Find_L1_st p0 p1 v19) := fun p0 p1 v19 o3 h => (schema_Find_L1_grp p0 p1) v19 o3 h
mutual
noncomputable def schema_Is (p0 : api_Val) : Option (Bool) :=
  ( if (p0.K == 1) then
      some (p0.S, 0, false)
    else
      if (p0.K == 2) then
        some ([], p0.N, false)
      else
        if (p0.K == 3) then
          some ([], 0, p0.B)
        else
          some ([], 0, false)) >>= fun o1 =>
  ( if (!(o1.1 == p0.S)) then
      some true
    else
      if (o1.2.1 != p0.N) then
        some true
      else
        some (o1.2.2 != p0.B)) >>= fun o2 =>
  if o2 then
    some false
  else
    kind_Plain p0.K >>= fun x3 =>
    if x3 then
      some ((p0.L.length : Int) == 0)
    else
      kind_Elem p0.K >>= fun x4 =>
      if x4.2 then
        ( if (decide ((p0.L.length : Int) ≤ 4096)) then
            slices_ContainsFunc_api_Val_api_Val_schema_Is_1 p0.L x4.1 >>= fun x6 =>
            some (!x6)
          else
            some false) >>= fun o5 =>
        some o5
      else
        kind_Fields p0.K >>= fun x7 =>
        ( if ((x7.length : Int) == 0) then
            some true
          else
            some ((x7.length : Int) != (p0.L.length : Int))) >>= fun o8 =>
        if o8 then
          some false
        else
          (schema_Is_L1 p0 o1 x4 x7 0) >>= fun o9 =>
          match o9 with
          | .inl y10 =>
            some true
          | .inr y11 =>
            some false
  partial_fixpoint
noncomputable def schema_Is_L1 (p0 : api_Val) (o1 : (List UInt8) × Int × Bool) (x4 : Int × Bool) (x7 : (List (List UInt8))) (v93 : Int) : Option (Unit ⊕ Unit) :=
  if (decide (v93 < (x7.length : Int))) then
    idx x7 v93 >>= fun x12 =>
    kind_Field p0.K x12 >>= fun x13 =>
    ( idx p0.L v93 >>= fun x15 =>
      if (x15.K != x13.1) then
        some true
      else
        idx p0.L v93 >>= fun x16 =>
        schema_Is x16 >>= fun x17 =>
        some (!x17)) >>= fun o14 =>
    if o14 then
      some (.inr ())
    else
      schema_Is_L1 p0 o1 x4 x7 (wr (v93 + 1))
  else
    some (.inl ())
  partial_fixpoint
noncomputable def slices_ContainsFunc_api_Val_api_Val_schema_Is_1 (p0 : (List api_Val)) (h0_0 : Int) : Option (Bool) :=
  slices_IndexFunc_api_Val_api_Val_schema_Is_1 p0 h0_0 >>= fun x1 =>
  some (decide (x1 ≥ 0))
  partial_fixpoint
noncomputable def slices_IndexFunc_api_Val_api_Val_schema_Is_1 (p0 : (List api_Val)) (h0_0 : Int) : Option (Int) :=
  (slices_IndexFunc_api_Val_api_Val_schema_Is_1_L1 p0 h0_0 0) >>= fun o1 =>
  match o1 with
  | .inl y2 =>
    some (-1)
  | .inr y3 =>
    some y3
  partial_fixpoint
noncomputable def slices_IndexFunc_api_Val_api_Val_schema_Is_1_L1 (p0 : (List api_Val)) (h0_0 : Int) (v8 : Int) : Option (Unit ⊕ Int) :=
  if (decide (v8 < (p0.length : Int))) then
    idx p0 v8 >>= fun x4 =>
    schema_Is_1 x4 h0_0 >>= fun x5 =>
    if x5 then
      some (.inr v8)
    else
      slices_IndexFunc_api_Val_api_Val_schema_Is_1_L1 p0 h0_0 (wr (v8 + 1))
  else
    some (.inl ())
  partial_fixpoint
noncomputable def schema_Is_1 (p0 : api_Val) (h0_0 : Int) : Option (Bool) :=
  ( if (p0.K != h0_0) then
      some true
    else
      schema_Is p0 >>= fun x2 =>
      some (!x2)) >>= fun o1 =>
  some o1
  partial_fixpoint
end
set_option maxRecDepth 100000 in
set_option maxHeartbeats 4000000 in
theorem schema_Is_grp : (∀ (p0 : api_Val) (o : Bool), schema_Is p0 = some o → PCall Try.prog 20 [.agg [iV p0.K, sV p0.S, iV p0.N, bV p0.B, .sl false (p0.L.map c_api_Val)]] (t_schema_Is o)) ∧ (∀ (p0 : api_Val) (o1 : (List UInt8) × Int × Bool) (x4 : Int × Bool) (x7 : (List (List UInt8))) (v93 : Int) (o9 : Unit ⊕ Unit), schema_Is_L1 p0 o1 x4 x7 v93 = some o9 → TL (0, 0) Try.prog 123 schema_Is_L1_c (JP2 (0, 0) 123 o9 (.exit 1) (schema_Is_L1_x0 p0 o1 x4 x7) .ret (schema_Is_L1_x1 p0 o1 x4 x7)) (schema_Is_L1_st p0 o1 x4 x7 v93)) ∧ (∀ (p0 : (List api_Val)) (h0_0 : Int) (o : Bool), slices_ContainsFunc_api_Val_api_Val_schema_Is_1 p0 h0_0 = some o → CallOK Try.prog 63 [.p (.sl false (p0.map c_api_Val)), .fn (.func 64) [] [.ptr 0 0]] ⟨[[.p (iV h0_0)]], []⟩ (t_slices_ContainsFunc_api_Val_api_Val_schema_Is_1 o) ⟨[[.p (iV h0_0)]], []⟩) ∧ (∀ (p0 : (List api_Val)) (h0_0 : Int) (o : Int), slices_IndexFunc_api_Val_api_Val_schema_Is_1 p0 h0_0 = some o → CallOK Try.prog 93 [.p (.sl false (p0.map c_api_Val)), .fn (.func 64) [] [.ptr 0 0]] ⟨[[.p (iV h0_0)]], []⟩ (t_slices_IndexFunc_api_Val_api_Val_schema_Is_1 o) ⟨[[.p (iV h0_0)]], []⟩) ∧ (∀ (p0 : (List api_Val)) (h0_0 : Int) (v8 : Int) (o1 : Unit ⊕ Int), slices_IndexFunc_api_Val_api_Val_schema_Is_1_L1 p0 h0_0 v8 = some o1 → TL (1, 0) Try.prog 19 slices_IndexFunc_api_Val_api_Val_schema_Is_1_L1_c (JP2 (1, 0) 19 o1 (.exit 0) (slices_IndexFunc_api_Val_api_Val_schema_Is_1_L1_x0 p0 h0_0) .ret (slices_IndexFunc_api_Val_api_Val_schema_Is_1_L1_x1 p0 h0_0)) (slices_IndexFunc_api_Val_api_Val_schema_Is_1_L1_st p0 h0_0 v8)) ∧ (∀ (p0 : api_Val) (h0_0 : Int) (o : Bool), schema_Is_1 p0 h0_0 = some o → CallOK Try.prog 64 [.p (.agg [iV p0.K, sV p0.S, iV p0.N, bV p0.B, .sl false (p0.L.map c_api_Val)]), .ptr 0 0] ⟨[[.p (iV h0_0)]], []⟩ (t_schema_Is_1 o) ⟨[[.p (iV h0_0)]], []⟩) := by
  refine schema_Is.mutual_partial_correctness _ _ _ _ _ _ ?_ ?_ ?_ ?_ ?_ ?_
  · intro schema_Is_L1' slices_ContainsFunc_api_Val_api_Val_schema_Is_1' ih_schema_Is_L1 ih_slices_ContainsFunc_api_Val_api_Val_schema_Is_1 p0 o h
    refine PCall.ofB mixed tbOk schema_Is_lv Try.func20 rfl (by kernel_rfl) (Nat.le_of_ble_eq_true rfl) ?_
    refine st_bind h (fun o1 ho hk => ?_)
    refine Exists.intro (JP1 _ _ o1 .normal (schema_Is_J0_0 p0)) (And.intro ?_ (join1 ?_))
    · have h := ho
      refine st_test h (fun hb h => ?_) (fun hb h => ?_)
      · exact JP1.a h (Le.tow 2 0 rfl (.cons rfl (.refl _) (.cons rfl (.refl _) (.nil))) (.refl _) rfl)
      · refine st_test h (fun hb h => ?_) (fun hb h => ?_)
        · exact JP1.a h (Le.tow 2 0 rfl (.cons rfl (.refl _) (.cons rfl (.refl _) (.nil))) (.refl _) rfl)
        · refine st_test h (fun hb h => ?_) (fun hb h => ?_)
          · exact JP1.a h (Le.tow 2 0 rfl (.cons rfl (.refl _) (.cons rfl (.refl _) (.nil))) (.refl _) rfl)
          · exact JP1.a h (Le.tow 2 0 rfl (.cons rfl (.refl _) (.cons rfl (.refl _) (.nil))) (.refl _) rfl)
    · have h := hk
      refine st_bind h (fun o2 ho hk => ?_)
      refine Exists.intro (JP1 _ _ o2 .normal (schema_Is_J1_0 p0 o1)) (And.intro ?_ (join1 ?_))
      · have h := ho
        refine st_test h (fun hb h => ?_) (fun hb h => ?_)
        · refine bT ?_
          exact JP1.a h (Le.tow 2 0 rfl (.cons rfl (.refl _) (.cons rfl (.refl _) (.nil))) (.refl _) rfl)
        · refine st_test h (fun hb h => ?_) (fun hb h => ?_)
          · exact JP1.a h (Le.tow 2 0 rfl (.cons rfl (.refl _) (.cons rfl (.refl _) (.nil))) (.refl _) rfl)
          · exact JP1.a h (Le.tow 2 0 rfl (.cons rfl (.refl _) (.cons rfl (.refl _) (.nil))) (.refl _) rfl)
      · have h := hk
        refine st_test h (fun hb h => ?_) (fun hb h => ?_)
        · refine st_ret (t := t_schema_Is) h ?_
          exact .refl _
        · refine st_call [iV p0.K] t_kind_Plain h (fun x3 hy => (kind_Plain_ok p0.K x3 hy)) (fun x3 hy h => ?_)
          refine st_test h (fun hb h => ?_) (fun hb h => ?_)
          · refine view (lenMap _ _) rfl ?_
            refine st_ret (t := t_schema_Is) h ?_
            exact .refl _
          · refine st_call [iV p0.K] t_kind_Elem h (fun x4 hy => (kind_Elem_ok p0.K x4 hy)) (fun x4 hy h => ?_)
            refine st_test h (fun hb h => ?_) (fun hb h => ?_)
            · refine st_bind h (fun o5 ho hk => ?_)
              refine Exists.intro (JP1 _ _ o5 .normal (schema_Is_J2_0 p0 o1 x4)) (And.intro ?_ (join1 ?_))
              · have h := ho
                refine view (lenMap _ _) rfl ?_
                refine st_test h (fun hb h => ?_) (fun hb h => ?_)
                · refine st_callc _ _ h (fun x6 hy => ((ih_slices_ContainsFunc_api_Val_api_Val_schema_Is_1 p0.L x4.1 x6 hy).fr [2] [] rfl rfl rfl)) (fun x6 hy h => ?_)
                  exact JP1.a h (Le.tow 3 0 rfl (.cons rfl (.refl _) (.nil)) (.refl _) rfl)
                · exact JP1.a h (Le.tow 3 0 rfl (.cons rfl (.refl _) (.nil)) (.refl _) rfl)
              · have h := hk
                refine st_ret (t := t_schema_Is) h ?_
                exact .refl _
            · refine st_call [iV p0.K] t_kind_Fields h (fun x7 hy => (kind_Fields_ok p0.K x7 hy)) (fun x7 hy h => ?_)
              refine st_bind h (fun o8 ho hk => ?_)
              refine Exists.intro (JP1 _ _ o8 .normal (schema_Is_J3_0 p0 o1 x4 x7)) (And.intro ?_ (join1 ?_))
              · have h := ho
                refine view (lenMap _ _) rfl ?_
                refine st_test h (fun hb h => ?_) (fun hb h => ?_)
                · exact JP1.a h (Le.tow 3 0 rfl (.cons rfl (.refl _) (.cons rfl (.refl _) (.cons rfl (.refl _) (.nil)))) (.refl _) rfl)
                · refine view (lenMap _ _) rfl ?_
                  refine view (lenMap _ _) rfl ?_
                  exact JP1.a h (Le.tow 3 0 rfl (.cons rfl (.refl _) (.cons rfl (.refl _) (.cons rfl (.refl _) (.nil)))) (.refl _) rfl)
              · have h := hk
                refine st_test h (fun hb h => ?_) (fun hb h => ?_)
                · refine st_ret (t := t_schema_Is) h ?_
                  exact .refl _
                · refine view (lenMap _ _) rfl ?_
                  refine st_bind h (fun o9 ho hk => ?_)
                  refine Exists.intro (JP2 _ _ o9 (.exit 1) (schema_Is_L1_x0 p0 o1 x4 x7) .ret (schema_Is_L1_x1 p0 o1 x4 x7)) (And.intro (T_le (τ := schema_Is_L1_st p0 o1 x4 x7 0) ?_ (TL.loop (ih_schema_Is_L1 p0 o1 x4 x7 0 o9 ho))) (join2 (fun y10 hy => ?_) (fun y11 hy => ?_)))
                  · exact Le.tow 3 0 rfl (.cons rfl (.refl _) (.cons rfl (.refl _) (.cons rfl (.refl _) (.cons rfl (.refl _) (.nil))))) (.refl _) rfl
                  · have h := (by rw [hy] at hk; exact hk)
                    refine st_ret (t := t_schema_Is) h ?_
                    exact .refl _
                  · have h := (by rw [hy] at hk; exact hk)
                    refine st_ret (t := t_schema_Is) h ?_
                    exact .refl _
  · intro schema_Is' schema_Is_L1' ih_schema_Is ih_schema_Is_L1 p0 o1 x4 x7 v93 o9 h
    refine TL.round (bwp_sound mixed tbOk (lv := schema_Is_lv) _ _ _ ?_)
    refine st_test h (fun hb h => ?_) (fun hb h => ?_)
    · refine st_idx (l := x7) (c := cStr) (c' := cStr) h (fun _ => rfl) (fun _ => rfl) (by decide) (fun x12 hi h => ?_)
      refine st_call [iV p0.K, sV x12] t_kind_Field h (fun x13 hy => (kind_Field_ok p0.K x12 x13 hy)) (fun x13 hy h => ?_)
      refine st_bind h (fun o14 ho hk => ?_)
      refine Exists.intro (JP1 _ _ o14 .normal (schema_Is_J4_0 p0 o1 x4 x7 v93)) (And.intro ?_ (join1 ?_))
      · have h := ho
        refine st_idx (l := p0.L) (c := c_api_Val) (c' := l_api_Val) h c_api_Val_eq (fun _ => rfl) (by decide) (fun x15 hi h => ?_)
        refine st_test h (fun hb h => ?_) (fun hb h => ?_)
        · exact JP1.a h (Le.tow 3 0 rfl (.cons rfl (.refl _) (.cons rfl (.refl _) (.cons rfl (.refl _) (.cons rfl (.refl _) (.cons rfl (.refl _) (.nil)))))) (.refl _) rfl)
        · refine st_idx (l := p0.L) (c := c_api_Val) (c' := l_api_Val) h c_api_Val_eq (fun _ => rfl) (by decide) (fun x16 hi h => ?_)
          refine st_call [.agg [iV x16.K, sV x16.S, iV x16.N, bV x16.B, .sl false (x16.L.map c_api_Val)]] t_schema_Is h (fun x17 hy => (ih_schema_Is x16 x17 hy)) (fun x17 hy h => ?_)
          exact JP1.a h (Le.tow 3 0 rfl (.cons rfl (.refl _) (.cons rfl (.refl _) (.cons rfl (.refl _) (.cons rfl (.refl _) (.cons rfl (.refl _) (.nil)))))) (.refl _) rfl)
      · have h := hk
        refine st_test h (fun hb h => ?_) (fun hb h => ?_)
        · exact JP2.b h (Le.tow 3 0 rfl (.cons rfl (.refl _) (.nil)) (.refl _) rfl)
        · refine TL.le (τ := schema_Is_L1_st p0 o1 x4 x7 (wr (v93 + 1))) ?_ ((ih_schema_Is_L1 p0 o1 x4 x7 (wr (v93 + 1)) _ h))
          exact Le.tow 3 0 rfl (.cons rfl (.refl _) (.cons rfl (.refl _) (.cons rfl (.refl _) (.cons rfl (.refl _) (.nil))))) (.refl _) rfl
    · exact JP2.a h (Le.tow 3 0 rfl (.nil) (.refl _) rfl)
  · intro slices_IndexFunc_api_Val_api_Val_schema_Is_1' ih_slices_IndexFunc_api_Val_api_Val_schema_Is_1 p0 h0_0 o h
    refine CallOK.ofB mixed tbOk slices_ContainsFunc_api_Val_api_Val_schema_Is_1_lv Try.func63 rfl (by kernel_rfl) (Nat.le_of_ble_eq_true rfl) rfl rfl rfl ?_
    refine st_callc _ _ h (fun x1 hy => ((ih_slices_IndexFunc_api_Val_api_Val_schema_Is_1 p0 h0_0 x1 hy).fr [0] [] rfl rfl rfl)) (fun x1 hy h => ?_)
    refine Exists.intro _ (And.intro (Le.refl _ _ _) ?_)
    exact st_retc (t := t_slices_ContainsFunc_api_Val_api_Val_schema_Is_1) (ss := fun o => ⟨[[.p (iV h0_0)]], []⟩) h ⟨[], rfl, .refl _, .refl _, rfl⟩
  · intro slices_IndexFunc_api_Val_api_Val_schema_Is_1_L1' ih_slices_IndexFunc_api_Val_api_Val_schema_Is_1_L1 p0 h0_0 o h
    refine CallOK.ofB mixed tbOk slices_IndexFunc_api_Val_api_Val_schema_Is_1_lv Try.func93 rfl (by kernel_rfl) (Nat.le_of_ble_eq_true rfl) rfl rfl rfl ?_
    refine view (lenMap _ _) rfl ?_
    refine st_bind h (fun o1 ho hk => ?_)
    refine Exists.intro (JP2 _ _ o1 (.exit 0) (slices_IndexFunc_api_Val_api_Val_schema_Is_1_L1_x0 p0 h0_0) .ret (slices_IndexFunc_api_Val_api_Val_schema_Is_1_L1_x1 p0 h0_0)) (And.intro (T_le (τ := slices_IndexFunc_api_Val_api_Val_schema_Is_1_L1_st p0 h0_0 0) ?_ (TL.loop (ih_slices_IndexFunc_api_Val_api_Val_schema_Is_1_L1 p0 h0_0 0 o1 ho))) (join2 (fun y2 hy => ?_) (fun y3 hy => ?_)))
    · exact Le.tow 1 0 rfl (.cons rfl (.refl _) (.cons rfl (.refl _) (.cons rfl (.refl _) (.cons rfl (.refl _) (.nil))))) (.refl _) rfl
    · have h := (by rw [hy] at hk; exact hk)
      refine Exists.intro _ (And.intro (Le.refl _ _ _) ?_)
      exact st_retc (t := t_slices_IndexFunc_api_Val_api_Val_schema_Is_1) (ss := fun o => ⟨[[.p (iV h0_0)]], []⟩) h ⟨[], rfl, .refl _, .refl _, rfl⟩
    · have h := (by rw [hy] at hk; exact hk)
      refine Exists.intro _ (And.intro (Le.refl _ _ _) ?_)
      exact st_retc (t := t_slices_IndexFunc_api_Val_api_Val_schema_Is_1) (ss := fun o => ⟨[[.p (iV h0_0)]], []⟩) h ⟨[], rfl, .refl _, .refl _, rfl⟩
  · intro slices_IndexFunc_api_Val_api_Val_schema_Is_1_L1' schema_Is_1' ih_slices_IndexFunc_api_Val_api_Val_schema_Is_1_L1 ih_schema_Is_1 p0 h0_0 v8 o1 h
    refine TL.round (bwp_sound mixed tbOk (lv := slices_IndexFunc_api_Val_api_Val_schema_Is_1_lv) _ _ _ ?_)
    refine st_test h (fun hb h => ?_) (fun hb h => ?_)
    · refine st_idx (l := p0) (c := c_api_Val) (c' := l_api_Val) h c_api_Val_eq (fun _ => rfl) (by decide) (fun x4 hi h => ?_)
      refine st_callc _ _ h (fun x5 hy => ((ih_schema_Is_1 x4 h0_0 x5 hy).fr [0] [] rfl rfl rfl)) (fun x5 hy h => ?_)
      refine st_test h (fun hb h => ?_) (fun hb h => ?_)
      · exact JP2.b h (Le.tow 1 0 rfl (.cons rfl (.refl _) (.nil)) (.refl _) rfl)
      · refine TL.le (τ := slices_IndexFunc_api_Val_api_Val_schema_Is_1_L1_st p0 h0_0 (wr (v8 + 1))) ?_ ((ih_slices_IndexFunc_api_Val_api_Val_schema_Is_1_L1 p0 h0_0 (wr (v8 + 1)) _ h))
        exact Le.tow 1 0 rfl (.cons rfl (.refl _) (.cons rfl (.refl _) (.cons rfl (.refl _) (.cons rfl (.refl _) (.nil))))) (.refl _) rfl
    · exact JP2.a h (Le.tow 1 0 rfl (.nil) (.refl _) rfl)
  · intro schema_Is' ih_schema_Is p0 h0_0 o h
    refine CallOK.ofB mixed tbOk schema_Is_1_lv Try.func64 rfl (by kernel_rfl) (Nat.le_of_ble_eq_true rfl) rfl rfl rfl ?_
    refine st_bind h (fun o1 ho hk => ?_)
    refine Exists.intro (JP1 _ _ o1 .normal (schema_Is_1_J0_0 p0 h0_0)) (And.intro ?_ (join1 ?_))
    · have h := ho
      refine st_test h (fun hb h => ?_) (fun hb h => ?_)
      · exact JP1.a h (Le.tow 2 0 rfl (.cons rfl (.refl _) (.nil)) (.refl _) rfl)
      · refine st_call [.agg [iV p0.K, sV p0.S, iV p0.N, bV p0.B, .sl false (p0.L.map c_api_Val)]] t_schema_Is h (fun x2 hy => (ih_schema_Is p0 x2 hy)) (fun x2 hy h => ?_)
        exact JP1.a h (Le.tow 2 0 rfl (.cons rfl (.refl _) (.nil)) (.refl _) rfl)
    · have h := hk
      refine Exists.intro _ (And.intro (Le.refl _ _ _) ?_)
      exact st_retc (t := t_schema_Is_1) (ss := fun o => ⟨[[.p (iV h0_0)]], []⟩) h ⟨[], rfl, .refl _, .refl _, rfl⟩
theorem schema_Is_ok : ∀ (p0 : api_Val) (o : Bool), schema_Is p0 = some o → PCall Try.prog 20 [.agg [iV p0.K, sV p0.S, iV p0.N, bV p0.B, .sl false (p0.L.map c_api_Val)]] (t_schema_Is o) := fun p0 o h => schema_Is_grp.1 p0 o h
theorem schema_Is_L1_ok : ∀ (p0 : api_Val) (o1 : (List UInt8) × Int × Bool) (x4 : Int × Bool) (x7 : (List (List UInt8))) (v93 : Int) (o9 : Unit ⊕ Unit), schema_Is_L1 p0 o1 x4 x7 v93 = some o9 → TL (0, 0) Try.prog 123 schema_Is_L1_c (JP2 (0, 0) 123 o9 (.exit 1) (schema_Is_L1_x0 p0 o1 x4 x7) .ret (schema_Is_L1_x1 p0 o1 x4 x7)) (schema_Is_L1_st p0 o1 x4 x7 v93) := fun p0 o1 x4 x7 v93 o9 h => schema_Is_grp.2.1 p0 o1 x4 x7 v93 o9 h
theorem slices_ContainsFunc_api_Val_api_Val_schema_Is_1_ok : ∀ (p0 : (List api_Val)) (h0_0 : Int) (o : Bool), slices_ContainsFunc_api_Val_api_Val_schema_Is_1 p0 h0_0 = some o → CallOK Try.prog 63 [.p (.sl false (p0.map c_api_Val)), .fn (.func 64) [] [.ptr 0 0]] ⟨[[.p (iV h0_0)]], []⟩ (t_slices_ContainsFunc_api_Val_api_Val_schema_Is_1 o) ⟨[[.p (iV h0_0)]], []⟩ := fun p0 h0_0 o h => schema_Is_grp.2.2.1 p0 h0_0 o h
theorem slices_IndexFunc_api_Val_api_Val_schema_Is_1_ok : ∀ (p0 : (List api_Val)) (h0_0 : Int) (o : Int), slices_IndexFunc_api_Val_api_Val_schema_Is_1 p0 h0_0 = some o → CallOK Try.prog 93 [.p (.sl false (p0.map c_api_Val)), .fn (.func 64) [] [.ptr 0 0]] ⟨[[.p (iV h0_0)]], []⟩ (t_slices_IndexFunc_api_Val_api_Val_schema_Is_1 o) ⟨[[.p (iV h0_0)]], []⟩ := fun p0 h0_0 o h => schema_Is_grp.2.2.2.1 p0 h0_0 o h
theorem slices_IndexFunc_api_Val_api_Val_schema_Is_1_L1_ok : ∀ (p0 : (List api_Val)) (h0_0 : Int) (v8 : Int) (o1 : Unit ⊕ Int), slices_IndexFunc_api_Val_api_Val_schema_Is_1_L1 p0 h0_0 v8 = some o1 → TL (1, 0) Try.prog 19 slices_IndexFunc_api_Val_api_Val_schema_Is_1_L1_c (JP2 (1, 0) 19 o1 (.exit 0) (slices_IndexFunc_api_Val_api_Val_schema_Is_1_L1_x0 p0 h0_0) .ret (slices_IndexFunc_api_Val_api_Val_schema_Is_1_L1_x1 p0 h0_0)) (slices_IndexFunc_api_Val_api_Val_schema_Is_1_L1_st p0 h0_0 v8) := fun p0 h0_0 v8 o1 h => schema_Is_grp.2.2.2.2.1 p0 h0_0 v8 o1 h
theorem schema_Is_1_ok : ∀ (p0 : api_Val) (h0_0 : Int) (o : Bool), schema_Is_1 p0 h0_0 = some o → CallOK Try.prog 64 [.p (.agg [iV p0.K, sV p0.S, iV p0.N, bV p0.B, .sl false (p0.L.map c_api_Val)]), .ptr 0 0] ⟨[[.p (iV h0_0)]], []⟩ (t_schema_Is_1 o) ⟨[[.p (iV h0_0)]], []⟩ := fun p0 h0_0 o h => schema_Is_grp.2.2.2.2.2 p0 h0_0 o h
noncomputable def schema_Find (p0 : api_Val) (p1 : (List UInt8)) : Option ((List UInt8) × Bool) :=
  ( if (p0.K != 8) then
      some true
    else
      schema_Is p0 >>= fun x2 =>
      some (!x2)) >>= fun o1 =>
  if o1 then
    some ([], false)
  else
    (schema_Find_L1 p0 p1 0) >>= fun o3 =>
    match o3 with
    | .inl y4 =>
      some ([], false)
    | .inr y5 =>
      some (y5, true)
set_option maxRecDepth 100000 in
set_option maxHeartbeats 4000000 in
theorem schema_Find_ok : ∀ (p0 : api_Val) (p1 : (List UInt8)) (o : (List UInt8) × Bool), schema_Find p0 p1 = some o → PCall Try.prog 24 [.agg [iV p0.K, sV p0.S, iV p0.N, bV p0.B, .sl false (p0.L.map c_api_Val)], sV p1] (t_schema_Find o) := by
  intro p0 p1 o h
  unfold schema_Find at h
  refine PCall.ofB mixed tbOk schema_Find_lv Try.func24 rfl (by kernel_rfl) (Nat.le_of_ble_eq_true rfl) ?_
  refine st_bind h (fun o1 ho hk => ?_)
  refine Exists.intro (JP1 _ _ o1 .normal (schema_Find_J0_0 p0 p1)) (And.intro ?_ (join1 ?_))
  · have h := ho
    refine st_test h (fun hb h => ?_) (fun hb h => ?_)
    · exact JP1.a h (Le.tow 1 0 rfl (.cons rfl (.refl _) (.cons rfl (.refl _) (.cons rfl (.refl _) (.nil)))) (.refl _) rfl)
    · refine st_call [.agg [iV p0.K, sV p0.S, iV p0.N, bV p0.B, .sl false (p0.L.map c_api_Val)]] t_schema_Is h (fun x2 hy => (schema_Is_ok p0 x2 hy)) (fun x2 hy h => ?_)
      exact JP1.a h (Le.tow 1 0 rfl (.cons rfl (.refl _) (.cons rfl (.refl _) (.cons rfl (.refl _) (.nil)))) (.refl _) rfl)
  · have h := hk
    refine st_test h (fun hb h => ?_) (fun hb h => ?_)
    · refine st_ret (t := t_schema_Find) h ?_
      exact .refl _
    · refine view (lenMap _ _) rfl ?_
      refine st_bind h (fun o3 ho hk => ?_)
      refine Exists.intro (JP2 _ _ o3 (.exit 0) (schema_Find_L1_x0 p0 p1) .ret (schema_Find_L1_x1 p0 p1)) (And.intro (T_le (τ := schema_Find_L1_st p0 p1 0) ?_ (TL.loop (schema_Find_L1_ok p0 p1 0 o3 ho))) (join2 (fun y4 hy => ?_) (fun y5 hy => ?_)))
      · exact Le.tow 1 0 rfl (.cons rfl (.refl _) (.cons rfl (.refl _) (.cons rfl (.refl _) (.cons rfl (.refl _) (.nil))))) (.refl _) rfl
      · have h := (by rw [hy] at hk; exact hk)
        refine st_ret (t := t_schema_Find) h ?_
        exact .refl _
      · have h := (by rw [hy] at hk; exact hk)
        refine st_ret (t := t_schema_Find) h ?_
        exact .refl _
mutual
noncomputable def schema_copied (p0 : api_Val) : Option (api_Val) :=
  (schema_copied_L1 p0 0 []) >>= fun o1 =>
  some (api_Val.mk p0.K p0.S p0.N p0.B o1)
  partial_fixpoint
noncomputable def schema_copied_L1 (p0 : api_Val) (v11 : Int) (h0_4 : (List api_Val)) : Option ((List api_Val)) :=
  if (decide (v11 < (p0.L.length : Int))) then
    idx p0.L v11 >>= fun x2 =>
    schema_copied x2 >>= fun x3 =>
    appL 64 h0_4 [x3] >>= fun x4 =>
    schema_copied_L1 p0 (wr (v11 + 1)) x4
  else
    some h0_4
  partial_fixpoint
end
set_option maxRecDepth 100000 in
set_option maxHeartbeats 4000000 in
theorem schema_copied_grp : (∀ (p0 : api_Val) (o : api_Val), schema_copied p0 = some o → PCall Try.prog 60 [.agg [iV p0.K, sV p0.S, iV p0.N, bV p0.B, .sl false (p0.L.map c_api_Val)]] (t_schema_copied o)) ∧ (∀ (p0 : api_Val) (v11 : Int) (h0_4 : (List api_Val)) (o1 : (List api_Val)), schema_copied_L1 p0 v11 h0_4 = some o1 → TL (0, 0) Try.prog 24 schema_copied_L1_c (JP1 (0, 0) 24 o1 (.exit 0) (schema_copied_L1_x0 p0)) (schema_copied_L1_st p0 v11 h0_4)) := by
  refine schema_copied.mutual_partial_correctness _ _ ?_ ?_
  · intro schema_copied_L1' ih_schema_copied_L1 p0 o h
    refine PCall.ofB mixed tbOk schema_copied_lv Try.func60 rfl (by kernel_rfl) (Nat.le_of_ble_eq_true rfl) ?_
    refine view (lenMap _ _) rfl ?_
    refine st_bind h (fun o1 ho hk => ?_)
    refine Exists.intro (JP1 _ _ o1 (.exit 0) (schema_copied_L1_x0 p0)) (And.intro (T_le (τ := schema_copied_L1_st p0 0 []) ?_ (TL.loop (ih_schema_copied_L1 p0 0 [] o1 ho))) (join1 ?_))
    · exact (Le.ownH 0 4 27 5 rfl rfl sizeNil).trans (Le.tow 2 1 rfl (.cons rfl (.refl _) (.cons rfl (.refl _) (.cons rfl (.refl _) (.cons rfl (.refl _) (.cons rfl (.refl _) (.nil)))))) (.refl _) rfl)
    have h := hk
    refine st_ret (t := t_schema_copied) h ?_
    exact .refl _
  · intro schema_copied' schema_copied_L1' ih_schema_copied ih_schema_copied_L1 p0 v11 h0_4 o1 h
    refine TL.round (bwp_sound mixed tbOk (lv := schema_copied_lv) _ _ _ ?_)
    refine st_test h (fun hb h => ?_) (fun hb h => ?_)
    · refine st_idx (l := p0.L) (c := c_api_Val) (c' := l_api_Val) h c_api_Val_eq (fun _ => rfl) (by decide) (fun x2 hi h => ?_)
      refine And.intro (by decide +kernel) (And.intro rfl ?_)
      refine st_calld [.agg [iV x2.K, sV x2.S, iV x2.N, bV x2.B, .sl false (x2.L.map c_api_Val)]] t_schema_copied h (fun x3 hy => (ih_schema_copied x2 x3 hy)) (fun x3 hy h => ?_)
      refine st_appo (a := h0_4) (b := [x3]) (c := c_api_Val) h (.cons (.ceq (c_api_Val_eq _) (.refl _)) (.nil)) (fun x => by rw [c_api_Val_eq]; rfl) rfl (fun x4 hi h => ?_)
      refine TL.le (τ := schema_copied_L1_st p0 (wr (v11 + 1)) x4) ?_ ((ih_schema_copied_L1 p0 (wr (v11 + 1)) x4 _ h))
      exact Le.tow 2 1 rfl (.cons rfl (.refl _) (.cons rfl (.refl _) (.cons rfl (.refl _) (.cons rfl (.refl _) (.cons rfl (.refl _) (.nil)))))) (.refl _) rfl
    · exact JP1.a h (Le.tow 2 1 rfl (.cons rfl (.refl _) (.cons rfl (.refl _) (.nil))) (.refl _) rfl)
theorem schema_copied_ok : ∀ (p0 : api_Val) (o : api_Val), schema_copied p0 = some o → PCall Try.prog 60 [.agg [iV p0.K, sV p0.S, iV p0.N, bV p0.B, .sl false (p0.L.map c_api_Val)]] (t_schema_copied o) := fun p0 o h => schema_copied_grp.1 p0 o h
theorem schema_copied_L1_ok : ∀ (p0 : api_Val) (v11 : Int) (h0_4 : (List api_Val)) (o1 : (List api_Val)), schema_copied_L1 p0 v11 h0_4 = some o1 → TL (0, 0) Try.prog 24 schema_copied_L1_c (JP1 (0, 0) 24 o1 (.exit 0) (schema_copied_L1_x0 p0)) (schema_copied_L1_st p0 v11 h0_4) := fun p0 v11 h0_4 o1 h => schema_copied_grp.2 p0 v11 h0_4 o1 h
noncomputable def slices_Index_string_string_L1 (p0 : (List (List UInt8))) (p1 : (List UInt8)) (v8 : Int) : Option (Unit ⊕ Int) :=
  if (decide (v8 < (p0.length : Int))) then
    idx p0 v8 >>= fun x4 =>
    if (p1 == x4) then
      some (.inr v8)
    else
      slices_Index_string_string_L1 p0 p1 (wr (v8 + 1))
  else
    some (.inl ())
  partial_fixpoint
set_option maxRecDepth 100000 in
set_option maxHeartbeats 4000000 in
theorem slices_Index_string_string_L1_grp : ∀ (p0 : (List (List UInt8))) (p1 : (List UInt8)), (∀ (v8 : Int) (o1 : Unit ⊕ Int), slices_Index_string_string_L1 p0 p1 v8 = some o1 → TL (0, 0) Try.prog 19 slices_Index_string_string_L1_c (JP2 (0, 0) 19 o1 (.exit 0) (slices_Index_string_string_L1_x0 p0 p1) .ret (slices_Index_string_string_L1_x1 p0 p1)) (slices_Index_string_string_L1_st p0 p1 v8)) := by
  intro p0 p1
  refine slices_Index_string_string_L1.partial_correctness p0 p1 _ ?_
  intro slices_Index_string_string_L1' ih_slices_Index_string_string_L1 v8 o1 h
  refine TL.round (bwp_sound mixed tbOk (lv := slices_Index_string_string_lv) _ _ _ ?_)
  refine st_test h (fun hb h => ?_) (fun hb h => ?_)
  · refine st_idx (l := p0) (c := cStr) (c' := cStr) h (fun _ => rfl) (fun _ => rfl) (by decide) (fun x4 hi h => ?_)
    refine st_test h (fun hb h => ?_) (fun hb h => ?_)
    · exact JP2.b h (Le.tow 0 0 rfl (.cons rfl (.refl _) (.nil)) (.refl _) rfl)
    · refine TL.le (τ := slices_Index_string_string_L1_st p0 p1 (wr (v8 + 1))) ?_ ((ih_slices_Index_string_string_L1 (wr (v8 + 1)) _ h))
      exact Le.tow 0 0 rfl (.cons rfl (.refl _) (.cons rfl (.refl _) (.cons rfl (.refl _) (.cons rfl (.refl _) (.nil))))) (.refl _) rfl
  · exact JP2.a h (Le.tow 0 0 rfl (.nil) (.refl _) rfl)
theorem slices_Index_string_string_L1_ok : ∀ (p0 : (List (List UInt8))) (p1 : (List UInt8)) (v8 : Int) (o1 : Unit ⊕ Int), slices_Index_string_string_L1 p0 p1 v8 = some o1 → TL (0, 0) Try.prog 19 slices_Index_string_string_L1_c (JP2 (0, 0) 19 o1 (.exit 0) (slices_Index_string_string_L1_x0 p0 p1) .ret (slices_Index_string_string_L1_x1 p0 p1)) (slices_Index_string_string_L1_st p0 p1 v8) := fun p0 p1 v8 o1 h => (slices_Index_string_string_L1_grp p0 p1) v8 o1 h
noncomputable def slices_Index_string_string (p0 : (List (List UInt8))) (p1 : (List UInt8)) : Option (Int) :=
  (slices_Index_string_string_L1 p0 p1 0) >>= fun o1 =>
  match o1 with
  | .inl y2 =>
    some (-1)
  | .inr y3 =>
    some y3
set_option maxRecDepth 100000 in
set_option maxHeartbeats 4000000 in
theorem slices_Index_string_string_ok : ∀ (p0 : (List (List UInt8))) (p1 : (List UInt8)) (o : Int), slices_Index_string_string p0 p1 = some o → PCall Try.prog 67 [.sl false (p0.map cStr), sV p1] (t_slices_Index_string_string o) := by
  intro p0 p1 o h
  unfold slices_Index_string_string at h
  refine PCall.ofB mixed tbOk slices_Index_string_string_lv Try.func67 rfl (by kernel_rfl) (Nat.le_of_ble_eq_true rfl) ?_
  refine view (lenMap _ _) rfl ?_
  refine st_bind h (fun o1 ho hk => ?_)
  refine Exists.intro (JP2 _ _ o1 (.exit 0) (slices_Index_string_string_L1_x0 p0 p1) .ret (slices_Index_string_string_L1_x1 p0 p1)) (And.intro (T_le (τ := slices_Index_string_string_L1_st p0 p1 0) ?_ (TL.loop (slices_Index_string_string_L1_ok p0 p1 0 o1 ho))) (join2 (fun y2 hy => ?_) (fun y3 hy => ?_)))
  · exact Le.tow 0 0 rfl (.cons rfl (.refl _) (.cons rfl (.refl _) (.cons rfl (.refl _) (.cons rfl (.refl _) (.nil))))) (.refl _) rfl
  · have h := (by rw [hy] at hk; exact hk)
    refine st_ret (t := t_slices_Index_string_string) h ?_
    exact .refl _
  · have h := (by rw [hy] at hk; exact hk)
    refine st_ret (t := t_slices_Index_string_string) h ?_
    exact .refl _
noncomputable def schema_Get (p0 : api_Val) (p1 : (List UInt8)) : Option (api_Val × Bool) :=
  kind_Fields p0.K >>= fun x1 =>
  slices_Index_string_string x1 p1 >>= fun x2 =>
  ( if (decide (x2 < 0)) then
      some true
    else
      schema_Is p0 >>= fun x4 =>
      some (!x4)) >>= fun o3 =>
  if o3 then
    some ((api_Val.mk 0 [] 0 false []), false)
  else
    idx p0.L x2 >>= fun x5 =>
    schema_copied x5 >>= fun x6 =>
    some (x6, true)
set_option maxRecDepth 100000 in
set_option maxHeartbeats 4000000 in
theorem schema_Get_ok : ∀ (p0 : api_Val) (p1 : (List UInt8)) (o : api_Val × Bool), schema_Get p0 p1 = some o → PCall Try.prog 22 [.agg [iV p0.K, sV p0.S, iV p0.N, bV p0.B, .sl false (p0.L.map c_api_Val)], sV p1] (t_schema_Get o) := by
  intro p0 p1 o h
  unfold schema_Get at h
  refine PCall.ofB mixed tbOk schema_Get_lv Try.func22 rfl (by kernel_rfl) (Nat.le_of_ble_eq_true rfl) ?_
  refine st_call [iV p0.K] t_kind_Fields h (fun x1 hy => (kind_Fields_ok p0.K x1 hy)) (fun x1 hy h => ?_)
  refine st_call [.sl false (x1.map cStr), sV p1] t_slices_Index_string_string h (fun x2 hy => (slices_Index_string_string_ok x1 p1 x2 hy)) (fun x2 hy h => ?_)
  refine st_bind h (fun o3 ho hk => ?_)
  refine Exists.intro (JP1 _ _ o3 .normal (schema_Get_J0_0 p0 x2)) (And.intro ?_ (join1 ?_))
  · have h := ho
    refine st_test h (fun hb h => ?_) (fun hb h => ?_)
    · exact JP1.a h (Le.tow 2 0 rfl (.cons rfl (.refl _) (.cons rfl (.refl _) (.cons rfl (.refl _) (.cons rfl (.refl _) (.nil))))) (.refl _) rfl)
    · refine st_call [.agg [iV p0.K, sV p0.S, iV p0.N, bV p0.B, .sl false (p0.L.map c_api_Val)]] t_schema_Is h (fun x4 hy => (schema_Is_ok p0 x4 hy)) (fun x4 hy h => ?_)
      exact JP1.a h (Le.tow 2 0 rfl (.cons rfl (.refl _) (.cons rfl (.refl _) (.cons rfl (.refl _) (.cons rfl (.refl _) (.nil))))) (.refl _) rfl)
  · have h := hk
    refine st_test h (fun hb h => ?_) (fun hb h => ?_)
    · refine st_ret (t := t_schema_Get) h ?_
      exact .tup (xs := [.agg [iV 0, sV [], iV 0, bV false, .sl true []], bV false]) (ys := [.agg [iV 0, sV [], iV 0, bV false, .sl false []], bV false]) (.cons (.agg' (.cons (.refl _) (.cons (.refl _) (.cons (.refl _) (.cons (.refl _) (.cons (.not) (.nil))))))) (.cons (.refl _) (.nil)))
    · refine st_idx (l := p0.L) (c := c_api_Val) (c' := l_api_Val) h c_api_Val_eq (fun _ => rfl) (by decide) (fun x5 hi h => ?_)
      refine st_call [.agg [iV x5.K, sV x5.S, iV x5.N, bV x5.B, .sl false (x5.L.map c_api_Val)]] t_schema_copied h (fun x6 hy => (schema_copied_ok x5 x6 hy)) (fun x6 hy h => ?_)
      refine st_ret (t := t_schema_Get) h ?_
      exact .refl _
noncomputable def schema_List (p0 : Int) (p1 : (List api_Val)) : Option (api_Val × Bool) :=
  kind_Elem p0 >>= fun x1 =>
  ( if (!x1.2) then
      some true
    else
      schema_Is (api_Val.mk p0 [] 0 false p1) >>= fun x3 =>
      some (!x3)) >>= fun o2 =>
  if o2 then
    some ((api_Val.mk 0 [] 0 false []), false)
  else
    schema_copied (api_Val.mk p0 [] 0 false p1) >>= fun x4 =>
    some (x4, true)
set_option maxRecDepth 100000 in
set_option maxHeartbeats 4000000 in
theorem schema_List_ok : ∀ (p0 : Int) (p1 : (List api_Val)) (o : api_Val × Bool), schema_List p0 p1 = some o → PCall Try.prog 17 [iV p0, .sl false (p1.map c_api_Val)] (t_schema_List o) := by
  intro p0 p1 o h
  unfold schema_List at h
  refine PCall.ofB mixed tbOk schema_List_lv Try.func17 rfl (by kernel_rfl) (Nat.le_of_ble_eq_true rfl) ?_
  refine st_call [iV p0] t_kind_Elem h (fun x1 hy => (kind_Elem_ok p0 x1 hy)) (fun x1 hy h => ?_)
  refine st_bind h (fun o2 ho hk => ?_)
  refine Exists.intro (JP1 _ _ o2 .normal (schema_List_J0_0 p0 p1)) (And.intro ?_ (join1 ?_))
  · have h := ho
    refine st_test h (fun hb h => ?_) (fun hb h => ?_)
    · exact JP1.a h (Le.tow 2 0 rfl (.cons rfl (.refl _) (.cons rfl (.refl _) (.cons rfl (.refl _) (.nil)))) (.refl _) rfl)
    · refine st_call [.agg [iV p0, sV [], iV 0, bV false, .sl false (p1.map c_api_Val)]] t_schema_Is h (fun x3 hy => (schema_Is_ok (api_Val.mk p0 [] 0 false p1) x3 hy)) (fun x3 hy h => ?_)
      exact JP1.a h (Le.tow 2 0 rfl (.cons rfl (.refl _) (.cons rfl (.refl _) (.cons rfl (.refl _) (.nil)))) (.refl _) rfl)
  · have h := hk
    refine st_test h (fun hb h => ?_) (fun hb h => ?_)
    · refine st_ret (t := t_schema_List) h ?_
      exact .tup (xs := [.agg [iV 0, sV [], iV 0, bV false, .sl true []], bV false]) (ys := [.agg [iV 0, sV [], iV 0, bV false, .sl false []], bV false]) (.cons (.agg' (.cons (.refl _) (.cons (.refl _) (.cons (.refl _) (.cons (.refl _) (.cons (.not) (.nil))))))) (.cons (.refl _) (.nil)))
    · refine st_call [.agg [iV p0, sV [], iV 0, bV false, .sl false (p1.map c_api_Val)]] t_schema_copied h (fun x4 hy => (schema_copied_ok (api_Val.mk p0 [] 0 false p1) x4 hy)) (fun x4 hy h => ?_)
      refine st_ret (t := t_schema_List) h ?_
      exact .refl _
noncomputable def schema_Number (p0 : Int) : Option (api_Val) :=
  some (api_Val.mk 2 [] p0 false [])
set_option maxRecDepth 100000 in
set_option maxHeartbeats 4000000 in
theorem schema_Number_ok : ∀ (p0 : Int) (o : api_Val), schema_Number p0 = some o → PCall Try.prog 28 [iV p0] (t_schema_Number o) := by
  intro p0 o h
  unfold schema_Number at h
  refine PCall.ofB mixed tbOk schema_Number_lv Try.func28 rfl (by kernel_rfl) (Nat.le_of_ble_eq_true rfl) ?_
  refine st_ret (t := t_schema_Number) h ?_
  exact .p (.agg' (.cons (.refl _) (.cons (.refl _) (.cons (.refl _) (.cons (.refl _) (.cons (.not) (.nil)))))))
noncomputable def schema_Text (p0 : (List UInt8)) : Option (api_Val) :=
  some (api_Val.mk 1 p0 0 false [])
set_option maxRecDepth 100000 in
set_option maxHeartbeats 4000000 in
theorem schema_Text_ok : ∀ (p0 : (List UInt8)) (o : api_Val), schema_Text p0 = some o → PCall Try.prog 27 [sV p0] (t_schema_Text o) := by
  intro p0 o h
  unfold schema_Text at h
  refine PCall.ofB mixed tbOk schema_Text_lv Try.func27 rfl (by kernel_rfl) (Nat.le_of_ble_eq_true rfl) ?_
  refine st_ret (t := t_schema_Text) h ?_
  exact .p (.agg' (.cons (.refl _) (.cons (.refl _) (.cons (.refl _) (.cons (.refl _) (.cons (.not) (.nil)))))))
noncomputable def schema_Pair (p0 : (List UInt8)) (p1 : (List UInt8)) : Option (api_Val) :=
  schema_Text p0 >>= fun x1 =>
  schema_Text p1 >>= fun x2 =>
  some (api_Val.mk 4 [] 0 false [x1, x2])
set_option maxRecDepth 100000 in
set_option maxHeartbeats 4000000 in
theorem schema_Pair_ok : ∀ (p0 : (List UInt8)) (p1 : (List UInt8)) (o : api_Val), schema_Pair p0 p1 = some o → PCall Try.prog 30 [sV p0, sV p1] (t_schema_Pair o) := by
  intro p0 p1 o h
  unfold schema_Pair at h
  refine PCall.ofB mixed tbOk schema_Pair_lv Try.func30 rfl (by kernel_rfl) (Nat.le_of_ble_eq_true rfl) ?_
  refine st_call [sV p0] t_schema_Text h (fun x1 hy => (schema_Text_ok p0 x1 hy)) (fun x1 hy h => ?_)
  refine st_call [sV p1] t_schema_Text h (fun x2 hy => (schema_Text_ok p1 x2 hy)) (fun x2 hy h => ?_)
  refine st_ret (t := t_schema_Pair) h ?_
  exact .p (.agg' (.cons (.refl _) (.cons (.refl _) (.cons (.refl _) (.cons (.refl _) (.cons (.no (.cons (.ceq (c_api_Val_eq _) (.refl _)) (.cons (.ceq (c_api_Val_eq _) (.refl _)) (.nil)))) (.nil)))))))
noncomputable def nunciolaw16_awake : Option (Bool) :=
  schema_Pair [97] [98] >>= fun x1 =>
  schema_Get x1 [118, 97, 108] >>= fun x2 =>
  schema_Pair [97] [98] >>= fun x3 =>
  schema_Pair [97] [99] >>= fun x4 =>
  schema_List 8 [x3, x4] >>= fun x5 =>
  schema_Find x5.1 [97] >>= fun x6 =>
  schema_Number 1 >>= fun x7 =>
  schema_List 7 [x7] >>= fun x8 =>
  ( if x2.2 then
      if (x2.1.K == 1) then
        if (x2.1.S == [98]) then
          if x5.2 then
            if (x6.1 == [98]) then
              if x6.2 then
                some (!x8.2)
              else
                some false
            else
              some false
          else
            some false
        else
          some false
      else
        some false
    else
      some false) >>= fun o9 =>
  some o9
set_option maxRecDepth 100000 in
set_option maxHeartbeats 4000000 in
theorem nunciolaw16_awake_ok : ∀ (o : Bool), nunciolaw16_awake  = some o → PCall Try.prog 21 [] (t_nunciolaw16_awake o) := by
  intro o h
  unfold nunciolaw16_awake at h
  refine PCall.ofB mixed tbOk nunciolaw16_awake_lv Try.func21 rfl (by kernel_rfl) (Nat.le_of_ble_eq_true rfl) ?_
  refine st_call [sV [97], sV [98]] t_schema_Pair h (fun x1 hy => (schema_Pair_ok [97] [98] x1 hy)) (fun x1 hy h => ?_)
  refine st_call [.agg [iV x1.K, sV x1.S, iV x1.N, bV x1.B, .sl false (x1.L.map c_api_Val)], sV [118, 97, 108]] t_schema_Get h (fun x2 hy => (schema_Get_ok x1 [118, 97, 108] x2 hy)) (fun x2 hy h => ?_)
  refine st_call [sV [97], sV [98]] t_schema_Pair h (fun x3 hy => (schema_Pair_ok [97] [98] x3 hy)) (fun x3 hy h => ?_)
  refine st_call [sV [97], sV [99]] t_schema_Pair h (fun x4 hy => (schema_Pair_ok [97] [99] x4 hy)) (fun x4 hy h => ?_)
  refine st_call [iV 8, .sl true [[iV x3.K, sV x3.S, iV x3.N, bV x3.B, .sl false (x3.L.map c_api_Val)], [iV x4.K, sV x4.S, iV x4.N, bV x4.B, .sl false (x4.L.map c_api_Val)]]] t_schema_List h (fun x5 hy => (schema_List_ok 8 [x3, x4] x5 hy).weak (.cons (.refl _) (.cons (.no (.cons (.ceq (c_api_Val_eq _) (.refl _)) (.cons (.ceq (c_api_Val_eq _) (.refl _)) (.nil)))) (.nil)))) (fun x5 hy h => ?_)
  refine st_call [.agg [iV x5.1.K, sV x5.1.S, iV x5.1.N, bV x5.1.B, .sl false (x5.1.L.map c_api_Val)], sV [97]] t_schema_Find h (fun x6 hy => (schema_Find_ok x5.1 [97] x6 hy)) (fun x6 hy h => ?_)
  refine st_call [iV 1] t_schema_Number h (fun x7 hy => (schema_Number_ok 1 x7 hy)) (fun x7 hy h => ?_)
  refine st_call [iV 7, .sl true [[iV x7.K, sV x7.S, iV x7.N, bV x7.B, .sl false (x7.L.map c_api_Val)]]] t_schema_List h (fun x8 hy => (schema_List_ok 7 [x7] x8 hy).weak (.cons (.refl _) (.cons (.no (.cons (.ceq (c_api_Val_eq _) (.refl _)) (.nil))) (.nil)))) (fun x8 hy h => ?_)
  refine st_bind h (fun o9 ho hk => ?_)
  refine Exists.intro (JP1 _ _ o9 .normal (nunciolaw16_awake_J0_0 x2 x5 x8)) (And.intro ?_ (join1 ?_))
  · have h := ho
    refine st_test h (fun hb h => ?_) (fun hb h => ?_)
    · refine st_test h (fun hb h => ?_) (fun hb h => ?_)
      · refine st_test h (fun hb h => ?_) (fun hb h => ?_)
        · refine st_test h (fun hb h => ?_) (fun hb h => ?_)
          · refine st_test h (fun hb h => ?_) (fun hb h => ?_)
            · refine st_test h (fun hb h => ?_) (fun hb h => ?_)
              · exact JP1.a h (Le.tow 3 0 rfl (.cons rfl (.refl _) (.nil)) (.refl _) rfl)
              · exact JP1.a h (Le.tow 3 0 rfl (.cons rfl (.refl _) (.nil)) (.refl _) rfl)
            · refine bF ?_
              exact JP1.a h (Le.tow 3 0 rfl (.cons rfl (.refl _) (.nil)) (.refl _) rfl)
          · refine bF ?_
            refine bF ?_
            exact JP1.a h (Le.tow 3 0 rfl (.cons rfl (.refl _) (.nil)) (.refl _) rfl)
        · refine bF ?_
          refine bF ?_
          refine bF ?_
          exact JP1.a h (Le.tow 3 0 rfl (.cons rfl (.refl _) (.nil)) (.refl _) rfl)
      · refine bF ?_
        refine bF ?_
        refine bF ?_
        refine bF ?_
        exact JP1.a h (Le.tow 3 0 rfl (.cons rfl (.refl _) (.nil)) (.refl _) rfl)
    · refine bF ?_
      refine bF ?_
      refine bF ?_
      refine bF ?_
      refine bF ?_
      exact JP1.a h (Le.tow 3 0 rfl (.cons rfl (.refl _) (.nil)) (.refl _) rfl)
  · have h := hk
    refine st_ret (t := t_nunciolaw16_awake) h ?_
    exact .refl _
noncomputable def nunciolaw16_SchemaGets (p0 : api_Val) (p1 : (List UInt8)) : Option (Bool) :=
  nunciolaw16_Light p0 5 >>= fun x1 =>
  schema_Get x1 p1 >>= fun x2 =>
  R16_Get x1 p1 >>= fun x3 =>
  schema_Find x1 p1 >>= fun x4 =>
  R16_Find x1 p1 >>= fun x5 =>
  R15_Field x1.K p1 >>= fun x6 =>
  ( if (x2.2 != x3.2) then
      some true
    else
      R16_Same x2.1 x3.1 >>= fun x8 =>
      if (!x8) then
        some true
      else
        if (!(x4.1 == x5.1)) then
          some true
        else
          some (x4.2 != x5.2)) >>= fun o7 =>
  if o7 then
    some false
  else
    ( if (!x2.2) then
        nunciolaw16_awake >>= fun x10 =>
        some x10
      else
        if x6.2 then
          if (x2.1.K == x6.1) then
            schema_Is x2.1 >>= fun x11 =>
            if x11 then
              nunciolaw16_awake >>= fun x12 =>
              some x12
            else
              some false
          else
            some false
        else
          some false) >>= fun o9 =>
    some o9
set_option maxRecDepth 100000 in
set_option maxHeartbeats 4000000 in
theorem nunciolaw16_SchemaGets_ok : ∀ (p0 : api_Val) (p1 : (List UInt8)) (o : Bool), nunciolaw16_SchemaGets p0 p1 = some o → PCall Try.prog 6 [.agg [iV p0.K, sV p0.S, iV p0.N, bV p0.B, .sl false (p0.L.map c_api_Val)], sV p1] (t_nunciolaw16_SchemaGets o) := by
  intro p0 p1 o h
  unfold nunciolaw16_SchemaGets at h
  refine PCall.ofB mixed tbOk nunciolaw16_SchemaGets_lv Try.func6 rfl (by kernel_rfl) (Nat.le_of_ble_eq_true rfl) ?_
  refine st_call [.agg [iV p0.K, sV p0.S, iV p0.N, bV p0.B, .sl false (p0.L.map c_api_Val)], iV 5] t_nunciolaw16_Light h (fun x1 hy => (nunciolaw16_Light_ok p0 5 x1 hy)) (fun x1 hy h => ?_)
  refine st_call [.agg [iV x1.K, sV x1.S, iV x1.N, bV x1.B, .sl false (x1.L.map c_api_Val)], sV p1] t_schema_Get h (fun x2 hy => (schema_Get_ok x1 p1 x2 hy)) (fun x2 hy h => ?_)
  refine st_call [.agg [iV x1.K, sV x1.S, iV x1.N, bV x1.B, .sl false (x1.L.map c_api_Val)], sV p1] t_R16_Get h (fun x3 hy => (R16_Get_ok x1 p1 x3 hy)) (fun x3 hy h => ?_)
  refine st_call [.agg [iV x1.K, sV x1.S, iV x1.N, bV x1.B, .sl false (x1.L.map c_api_Val)], sV p1] t_schema_Find h (fun x4 hy => (schema_Find_ok x1 p1 x4 hy)) (fun x4 hy h => ?_)
  refine st_call [.agg [iV x1.K, sV x1.S, iV x1.N, bV x1.B, .sl false (x1.L.map c_api_Val)], sV p1] t_R16_Find h (fun x5 hy => (R16_Find_ok x1 p1 x5 hy)) (fun x5 hy h => ?_)
  refine st_call [iV x1.K, sV p1] t_R15_Field h (fun x6 hy => (R15_Field_ok x1.K p1 x6 hy)) (fun x6 hy h => ?_)
  refine st_bind h (fun o7 ho hk => ?_)
  refine Exists.intro (JP1 _ _ o7 .normal (nunciolaw16_SchemaGets_J0_0 x1 x2 x3 x6)) (And.intro ?_ (join1 ?_))
  · have h := ho
    refine st_test h (fun hb h => ?_) (fun hb h => ?_)
    · refine bT ?_
      refine bT ?_
      exact JP1.a h (Le.tow 3 0 rfl (.cons rfl (.refl _) (.cons rfl (.refl _) (.cons rfl (.refl _) (.cons rfl (.refl _) (.cons rfl (.refl _) (.nil)))))) (.refl _) rfl)
    · refine st_call [.agg [iV x2.1.K, sV x2.1.S, iV x2.1.N, bV x2.1.B, .sl false (x2.1.L.map c_api_Val)], .agg [iV x3.1.K, sV x3.1.S, iV x3.1.N, bV x3.1.B, .sl false (x3.1.L.map c_api_Val)]] t_R16_Same h (fun x8 hy => (R16_Same_ok x2.1 x3.1 x8 hy)) (fun x8 hy h => ?_)
      refine st_test h (fun hb h => ?_) (fun hb h => ?_)
      · refine bT ?_
        exact JP1.a h (Le.tow 3 0 rfl (.cons rfl (.refl _) (.cons rfl (.refl _) (.cons rfl (.refl _) (.cons rfl (.refl _) (.cons rfl (.refl _) (.nil)))))) (.refl _) rfl)
      · refine st_test h (fun hb h => ?_) (fun hb h => ?_)
        · exact JP1.a h (Le.tow 3 0 rfl (.cons rfl (.refl _) (.cons rfl (.refl _) (.cons rfl (.refl _) (.cons rfl (.refl _) (.cons rfl (.refl _) (.nil)))))) (.refl _) rfl)
        · exact JP1.a h (Le.tow 3 0 rfl (.cons rfl (.refl _) (.cons rfl (.refl _) (.cons rfl (.refl _) (.cons rfl (.refl _) (.cons rfl (.refl _) (.nil)))))) (.refl _) rfl)
  · have h := hk
    refine st_test h (fun hb h => ?_) (fun hb h => ?_)
    · refine st_ret (t := t_nunciolaw16_SchemaGets) h ?_
      exact .refl _
    · refine st_bind h (fun o9 ho hk => ?_)
      refine Exists.intro (JP1 _ _ o9 .normal (nunciolaw16_SchemaGets_J1_0 x1 x2 x3)) (And.intro ?_ (join1 ?_))
      · have h := ho
        refine st_test h (fun hb h => ?_) (fun hb h => ?_)
        · refine bT ?_
          refine st_call [] t_nunciolaw16_awake h (fun x10 hy => (nunciolaw16_awake_ok x10 hy)) (fun x10 hy h => ?_)
          exact JP1.a h (Le.tow 3 0 rfl (.cons rfl (.refl _) (.nil)) (.refl _) rfl)
        · refine st_test h (fun hb h => ?_) (fun hb h => ?_)
          · refine st_test h (fun hb h => ?_) (fun hb h => ?_)
            · refine st_call [.agg [iV x2.1.K, sV x2.1.S, iV x2.1.N, bV x2.1.B, .sl false (x2.1.L.map c_api_Val)]] t_schema_Is h (fun x11 hy => (schema_Is_ok x2.1 x11 hy)) (fun x11 hy h => ?_)
              refine st_test h (fun hb h => ?_) (fun hb h => ?_)
              · refine st_call [] t_nunciolaw16_awake h (fun x12 hy => (nunciolaw16_awake_ok x12 hy)) (fun x12 hy h => ?_)
                exact JP1.a h (Le.tow 3 0 rfl (.cons rfl (.refl _) (.nil)) (.refl _) rfl)
              · exact JP1.a h (Le.tow 3 0 rfl (.cons rfl (.refl _) (.nil)) (.refl _) rfl)
            · refine bF ?_
              exact JP1.a h (Le.tow 3 0 rfl (.cons rfl (.refl _) (.nil)) (.refl _) rfl)
          · refine bF ?_
            refine bF ?_
            exact JP1.a h (Le.tow 3 0 rfl (.cons rfl (.refl _) (.nil)) (.refl _) rfl)
      · have h := hk
        refine st_ret (t := t_nunciolaw16_SchemaGets) h ?_
        exact .refl _
mutual
noncomputable def schema_Same (p0 : api_Val) (p1 : api_Val) : Option (Bool) :=
  ( if (p0.K == p1.K) then
      if (p0.S == p1.S) then
        if (p0.N == p1.N) then
          if (p0.B == p1.B) then
            slices_EqualFunc_api_Val_api_Val_api_Val_api_Val_schema_Same p0.L p1.L >>= fun x2 =>
            some x2
          else
            some false
        else
          some false
      else
        some false
    else
      some false) >>= fun o1 =>
  some o1
  partial_fixpoint
noncomputable def slices_EqualFunc_api_Val_api_Val_api_Val_api_Val_schema_Same (p0 : (List api_Val)) (p1 : (List api_Val)) : Option (Bool) :=
  if ((p0.length : Int) != (p1.length : Int)) then
    some false
  else
    (slices_EqualFunc_api_Val_api_Val_api_Val_api_Val_schema_Same_L1 p0 p1 0) >>= fun o1 =>
    match o1 with
    | .inl y2 =>
      some true
    | .inr y3 =>
      some false
  partial_fixpoint
noncomputable def slices_EqualFunc_api_Val_api_Val_api_Val_api_Val_schema_Same_L1 (p0 : (List api_Val)) (p1 : (List api_Val)) (v17 : Int) : Option (Unit ⊕ Unit) :=
  if (decide (v17 < (p0.length : Int))) then
    idx p0 v17 >>= fun x4 =>
    idx p1 v17 >>= fun x5 =>
    schema_Same x4 x5 >>= fun x6 =>
    if (!x6) then
      some (.inr ())
    else
      slices_EqualFunc_api_Val_api_Val_api_Val_api_Val_schema_Same_L1 p0 p1 (wr (v17 + 1))
  else
    some (.inl ())
  partial_fixpoint
end
set_option maxRecDepth 100000 in
set_option maxHeartbeats 4000000 in
theorem schema_Same_grp : (∀ (p0 : api_Val) (p1 : api_Val) (o : Bool), schema_Same p0 p1 = some o → PCall Try.prog 43 [.agg [iV p0.K, sV p0.S, iV p0.N, bV p0.B, .sl false (p0.L.map c_api_Val)], .agg [iV p1.K, sV p1.S, iV p1.N, bV p1.B, .sl false (p1.L.map c_api_Val)]] (t_schema_Same o)) ∧ (∀ (p0 : (List api_Val)) (p1 : (List api_Val)) (o : Bool), slices_EqualFunc_api_Val_api_Val_api_Val_api_Val_schema_Same p0 p1 = some o → CallOK Try.prog 72 [.p (.sl false (p0.map c_api_Val)), .p (.sl false (p1.map c_api_Val)), .fn (.func 43) [] []] ⟨[], []⟩ (t_slices_EqualFunc_api_Val_api_Val_api_Val_api_Val_schema_Same o) ⟨[], []⟩) ∧ (∀ (p0 : (List api_Val)) (p1 : (List api_Val)) (v17 : Int) (o1 : Unit ⊕ Unit), slices_EqualFunc_api_Val_api_Val_api_Val_api_Val_schema_Same_L1 p0 p1 v17 = some o1 → TL (0, 0) Try.prog 32 slices_EqualFunc_api_Val_api_Val_api_Val_api_Val_schema_Same_L1_c (JP2 (0, 0) 32 o1 (.exit 0) (slices_EqualFunc_api_Val_api_Val_api_Val_api_Val_schema_Same_L1_x0 p0 p1) .ret (slices_EqualFunc_api_Val_api_Val_api_Val_api_Val_schema_Same_L1_x1 p0 p1)) (slices_EqualFunc_api_Val_api_Val_api_Val_api_Val_schema_Same_L1_st p0 p1 v17)) := by
  refine schema_Same.mutual_partial_correctness _ _ _ ?_ ?_ ?_
  · intro slices_EqualFunc_api_Val_api_Val_api_Val_api_Val_schema_Same' ih_slices_EqualFunc_api_Val_api_Val_api_Val_api_Val_schema_Same p0 p1 o h
    refine PCall.ofB mixed tbOk schema_Same_lv Try.func43 rfl (by kernel_rfl) (Nat.le_of_ble_eq_true rfl) ?_
    refine st_bind h (fun o1 ho hk => ?_)
    refine Exists.intro (JP1 _ _ o1 .normal (schema_Same_J0_0 p0 p1)) (And.intro ?_ (join1 ?_))
    · have h := ho
      refine st_test h (fun hb h => ?_) (fun hb h => ?_)
      · refine st_test h (fun hb h => ?_) (fun hb h => ?_)
        · refine st_test h (fun hb h => ?_) (fun hb h => ?_)
          · refine st_test h (fun hb h => ?_) (fun hb h => ?_)
            · refine st_callc _ _ h (fun x2 hy => ((ih_slices_EqualFunc_api_Val_api_Val_api_Val_api_Val_schema_Same p0.L p1.L x2 hy).fr [] [] rfl rfl rfl)) (fun x2 hy h => ?_)
              exact JP1.a h (Le.tow 2 0 rfl (.cons rfl (.refl _) (.nil)) (.refl _) rfl)
            · exact JP1.a h (Le.tow 2 0 rfl (.cons rfl (.refl _) (.nil)) (.refl _) rfl)
          · refine bF ?_
            exact JP1.a h (Le.tow 2 0 rfl (.cons rfl (.refl _) (.nil)) (.refl _) rfl)
        · refine bF ?_
          refine bF ?_
          exact JP1.a h (Le.tow 2 0 rfl (.cons rfl (.refl _) (.nil)) (.refl _) rfl)
      · refine bF ?_
        refine bF ?_
        refine bF ?_
        exact JP1.a h (Le.tow 2 0 rfl (.cons rfl (.refl _) (.nil)) (.refl _) rfl)
    · have h := hk
      refine st_ret (t := t_schema_Same) h ?_
      exact .refl _
  · intro slices_EqualFunc_api_Val_api_Val_api_Val_api_Val_schema_Same_L1' ih_slices_EqualFunc_api_Val_api_Val_api_Val_api_Val_schema_Same_L1 p0 p1 o h
    refine CallOK.ofB mixed tbOk slices_EqualFunc_api_Val_api_Val_api_Val_api_Val_schema_Same_lv Try.func72 rfl (by kernel_rfl) (Nat.le_of_ble_eq_true rfl) rfl rfl rfl ?_
    refine view (lenMap _ _) rfl ?_
    refine view (lenMap _ _) rfl ?_
    refine st_test h (fun hb h => ?_) (fun hb h => ?_)
    · refine Exists.intro _ (And.intro (Le.refl _ _ _) ?_)
      exact st_retc (t := t_slices_EqualFunc_api_Val_api_Val_api_Val_api_Val_schema_Same) (ss := fun o => ⟨[], []⟩) h ⟨[], rfl, .refl _, .refl _, rfl⟩
    · refine view (lenMap _ _) rfl ?_
      refine st_bind h (fun o1 ho hk => ?_)
      refine Exists.intro (JP2 _ _ o1 (.exit 0) (slices_EqualFunc_api_Val_api_Val_api_Val_api_Val_schema_Same_L1_x0 p0 p1) .ret (slices_EqualFunc_api_Val_api_Val_api_Val_api_Val_schema_Same_L1_x1 p0 p1)) (And.intro (T_le (τ := slices_EqualFunc_api_Val_api_Val_api_Val_api_Val_schema_Same_L1_st p0 p1 0) ?_ (TL.loop (ih_slices_EqualFunc_api_Val_api_Val_api_Val_api_Val_schema_Same_L1 p0 p1 0 o1 ho))) (join2 (fun y2 hy => ?_) (fun y3 hy => ?_)))
      · exact Le.tow 0 0 rfl (.cons rfl (.refl _) (.cons rfl (.refl _) (.cons rfl (.refl _) (.cons rfl (.refl _) (.cons rfl (.refl _) (.nil)))))) (.refl _) rfl
      · have h := (by rw [hy] at hk; exact hk)
        refine Exists.intro _ (And.intro (Le.refl _ _ _) ?_)
        exact st_retc (t := t_slices_EqualFunc_api_Val_api_Val_api_Val_api_Val_schema_Same) (ss := fun o => ⟨[], []⟩) h ⟨[], rfl, .refl _, .refl _, rfl⟩
      · have h := (by rw [hy] at hk; exact hk)
        refine Exists.intro _ (And.intro (Le.refl _ _ _) ?_)
        exact st_retc (t := t_slices_EqualFunc_api_Val_api_Val_api_Val_api_Val_schema_Same) (ss := fun o => ⟨[], []⟩) h ⟨[], rfl, .refl _, .refl _, rfl⟩
  · intro schema_Same' slices_EqualFunc_api_Val_api_Val_api_Val_api_Val_schema_Same_L1' ih_schema_Same ih_slices_EqualFunc_api_Val_api_Val_api_Val_api_Val_schema_Same_L1 p0 p1 v17 o1 h
    refine TL.round (bwp_sound mixed tbOk (lv := slices_EqualFunc_api_Val_api_Val_api_Val_api_Val_schema_Same_lv) _ _ _ ?_)
    refine st_test h (fun hb h => ?_) (fun hb h => ?_)
    · refine st_idx (l := p0) (c := c_api_Val) (c' := l_api_Val) h c_api_Val_eq (fun _ => rfl) (by decide) (fun x4 hi h => ?_)
      refine st_idx (l := p1) (c := c_api_Val) (c' := l_api_Val) h c_api_Val_eq (fun _ => rfl) (by decide) (fun x5 hi h => ?_)
      refine st_call [.agg [iV x4.K, sV x4.S, iV x4.N, bV x4.B, .sl false (x4.L.map c_api_Val)], .agg [iV x5.K, sV x5.S, iV x5.N, bV x5.B, .sl false (x5.L.map c_api_Val)]] t_schema_Same h (fun x6 hy => (ih_schema_Same x4 x5 x6 hy)) (fun x6 hy h => ?_)
      refine st_test h (fun hb h => ?_) (fun hb h => ?_)
      · exact JP2.b h (Le.tow 0 0 rfl (.cons rfl (.refl _) (.nil)) (.refl _) rfl)
      · refine TL.le (τ := slices_EqualFunc_api_Val_api_Val_api_Val_api_Val_schema_Same_L1_st p0 p1 (wr (v17 + 1))) ?_ ((ih_slices_EqualFunc_api_Val_api_Val_api_Val_api_Val_schema_Same_L1 p0 p1 (wr (v17 + 1)) _ h))
        exact Le.tow 0 0 rfl (.cons rfl (.refl _) (.cons rfl (.refl _) (.cons rfl (.refl _) (.cons rfl (.refl _) (.cons rfl (.refl _) (.nil)))))) (.refl _) rfl
    · exact JP2.a h (Le.tow 0 0 rfl (.nil) (.refl _) rfl)
theorem schema_Same_ok : ∀ (p0 : api_Val) (p1 : api_Val) (o : Bool), schema_Same p0 p1 = some o → PCall Try.prog 43 [.agg [iV p0.K, sV p0.S, iV p0.N, bV p0.B, .sl false (p0.L.map c_api_Val)], .agg [iV p1.K, sV p1.S, iV p1.N, bV p1.B, .sl false (p1.L.map c_api_Val)]] (t_schema_Same o) := fun p0 p1 o h => schema_Same_grp.1 p0 p1 o h
theorem slices_EqualFunc_api_Val_api_Val_api_Val_api_Val_schema_Same_ok : ∀ (p0 : (List api_Val)) (p1 : (List api_Val)) (o : Bool), slices_EqualFunc_api_Val_api_Val_api_Val_api_Val_schema_Same p0 p1 = some o → CallOK Try.prog 72 [.p (.sl false (p0.map c_api_Val)), .p (.sl false (p1.map c_api_Val)), .fn (.func 43) [] []] ⟨[], []⟩ (t_slices_EqualFunc_api_Val_api_Val_api_Val_api_Val_schema_Same o) ⟨[], []⟩ := fun p0 p1 o h => schema_Same_grp.2.1 p0 p1 o h
theorem slices_EqualFunc_api_Val_api_Val_api_Val_api_Val_schema_Same_L1_ok : ∀ (p0 : (List api_Val)) (p1 : (List api_Val)) (v17 : Int) (o1 : Unit ⊕ Unit), slices_EqualFunc_api_Val_api_Val_api_Val_api_Val_schema_Same_L1 p0 p1 v17 = some o1 → TL (0, 0) Try.prog 32 slices_EqualFunc_api_Val_api_Val_api_Val_api_Val_schema_Same_L1_c (JP2 (0, 0) 32 o1 (.exit 0) (slices_EqualFunc_api_Val_api_Val_api_Val_api_Val_schema_Same_L1_x0 p0 p1) .ret (slices_EqualFunc_api_Val_api_Val_api_Val_api_Val_schema_Same_L1_x1 p0 p1)) (slices_EqualFunc_api_Val_api_Val_api_Val_api_Val_schema_Same_L1_st p0 p1 v17) := fun p0 p1 v17 o1 h => schema_Same_grp.2.2 p0 p1 v17 o1 h
mutual
noncomputable def schema_Weight (p0 : api_Val) : Option (Int) :=
  (schema_Weight_L1 p0 1 0) >>= fun o1 =>
  some o1
  partial_fixpoint
noncomputable def schema_Weight_L1 (p0 : api_Val) (v3 : Int) (v9 : Int) : Option (Int) :=
  if (decide (v9 < (p0.L.length : Int))) then
    idx p0.L v9 >>= fun x2 =>
    schema_Weight x2 >>= fun x3 =>
    schema_Weight_L1 p0 (wr (v3 + x3)) (wr (v9 + 1))
  else
    some v3
  partial_fixpoint
end
set_option maxRecDepth 100000 in
set_option maxHeartbeats 4000000 in
theorem schema_Weight_grp : (∀ (p0 : api_Val) (o : Int), schema_Weight p0 = some o → PCall Try.prog 41 [.agg [iV p0.K, sV p0.S, iV p0.N, bV p0.B, .sl false (p0.L.map c_api_Val)]] (t_schema_Weight o)) ∧ (∀ (p0 : api_Val) (v3 : Int) (v9 : Int) (o1 : Int), schema_Weight_L1 p0 v3 v9 = some o1 → TL (0, 0) Try.prog 19 schema_Weight_L1_c (JP1 (0, 0) 19 o1 (.exit 0) (schema_Weight_L1_x0 p0)) (schema_Weight_L1_st p0 v3 v9)) := by
  refine schema_Weight.mutual_partial_correctness _ _ ?_ ?_
  · intro schema_Weight_L1' ih_schema_Weight_L1 p0 o h
    refine PCall.ofB mixed tbOk schema_Weight_lv Try.func41 rfl (by kernel_rfl) (Nat.le_of_ble_eq_true rfl) ?_
    refine view (lenMap _ _) rfl ?_
    refine st_bind h (fun o1 ho hk => ?_)
    refine Exists.intro (JP1 _ _ o1 (.exit 0) (schema_Weight_L1_x0 p0)) (And.intro (T_le (τ := schema_Weight_L1_st p0 1 0) ?_ (TL.loop (ih_schema_Weight_L1 p0 1 0 o1 ho))) (join1 ?_))
    · exact Le.tow 1 0 rfl (.cons rfl (.refl _) (.cons rfl (.refl _) (.cons rfl (.refl _) (.cons rfl (.refl _) (.nil))))) (.refl _) rfl
    have h := hk
    refine st_ret (t := t_schema_Weight) h ?_
    exact .refl _
  · intro schema_Weight' schema_Weight_L1' ih_schema_Weight ih_schema_Weight_L1 p0 v3 v9 o1 h
    refine TL.round (bwp_sound mixed tbOk (lv := schema_Weight_lv) _ _ _ ?_)
    refine st_test h (fun hb h => ?_) (fun hb h => ?_)
    · refine st_idx (l := p0.L) (c := c_api_Val) (c' := l_api_Val) h c_api_Val_eq (fun _ => rfl) (by decide) (fun x2 hi h => ?_)
      refine st_call [.agg [iV x2.K, sV x2.S, iV x2.N, bV x2.B, .sl false (x2.L.map c_api_Val)]] t_schema_Weight h (fun x3 hy => (ih_schema_Weight x2 x3 hy)) (fun x3 hy h => ?_)
      refine TL.le (τ := schema_Weight_L1_st p0 (wr (v3 + x3)) (wr (v9 + 1))) ?_ ((ih_schema_Weight_L1 p0 (wr (v3 + x3)) (wr (v9 + 1)) _ h))
      exact Le.tow 1 0 rfl (.cons rfl (.refl _) (.cons rfl (.refl _) (.cons rfl (.refl _) (.cons rfl (.refl _) (.nil))))) (.refl _) rfl
    · exact JP1.a h (Le.tow 1 0 rfl (.cons rfl (.refl _) (.nil)) (.refl _) rfl)
theorem schema_Weight_ok : ∀ (p0 : api_Val) (o : Int), schema_Weight p0 = some o → PCall Try.prog 41 [.agg [iV p0.K, sV p0.S, iV p0.N, bV p0.B, .sl false (p0.L.map c_api_Val)]] (t_schema_Weight o) := fun p0 o h => schema_Weight_grp.1 p0 o h
theorem schema_Weight_L1_ok : ∀ (p0 : api_Val) (v3 : Int) (v9 : Int) (o1 : Int), schema_Weight_L1 p0 v3 v9 = some o1 → TL (0, 0) Try.prog 19 schema_Weight_L1_c (JP1 (0, 0) 19 o1 (.exit 0) (schema_Weight_L1_x0 p0)) (schema_Weight_L1_st p0 v3 v9) := fun p0 v3 v9 o1 h => schema_Weight_grp.2 p0 v3 v9 o1 h
noncomputable def nunciolaw16_SchemaIs (p0 : api_Val) (p1 : api_Val) : Option (Bool) :=
  nunciolaw16_Light p0 5 >>= fun x1 =>
  nunciolaw16_Light p1 5 >>= fun x2 =>
  ( schema_Is x1 >>= fun x4 =>
    R16_Is x1 >>= fun x5 =>
    if (x4 == x5) then
      schema_Weight x1 >>= fun x6 =>
      R16_Weight x1 >>= fun x7 =>
      if (x6 == x7) then
        schema_Same x1 x2 >>= fun x8 =>
        R16_Same x1 x2 >>= fun x9 =>
        if (x8 == x9) then
          schema_Same x1 x1 >>= fun x10 =>
          if x10 then
            nunciolaw16_awake >>= fun x11 =>
            some x11
          else
            some false
        else
          some false
      else
        some false
    else
      some false) >>= fun o3 =>
  some o3
set_option maxRecDepth 100000 in
set_option maxHeartbeats 4000000 in
theorem nunciolaw16_SchemaIs_ok : ∀ (p0 : api_Val) (p1 : api_Val) (o : Bool), nunciolaw16_SchemaIs p0 p1 = some o → PCall Try.prog 9 [.agg [iV p0.K, sV p0.S, iV p0.N, bV p0.B, .sl false (p0.L.map c_api_Val)], .agg [iV p1.K, sV p1.S, iV p1.N, bV p1.B, .sl false (p1.L.map c_api_Val)]] (t_nunciolaw16_SchemaIs o) := by
  intro p0 p1 o h
  unfold nunciolaw16_SchemaIs at h
  refine PCall.ofB mixed tbOk nunciolaw16_SchemaIs_lv Try.func9 rfl (by kernel_rfl) (Nat.le_of_ble_eq_true rfl) ?_
  refine And.intro (by decide +kernel) (And.intro rfl ?_)
  refine st_calld [.agg [iV p0.K, sV p0.S, iV p0.N, bV p0.B, .sl false (p0.L.map c_api_Val)], iV 5] t_nunciolaw16_Light h (fun x1 hy => (nunciolaw16_Light_ok p0 5 x1 hy)) (fun x1 hy h => ?_)
  refine st_calld [.agg [iV p1.K, sV p1.S, iV p1.N, bV p1.B, .sl false (p1.L.map c_api_Val)], iV 5] t_nunciolaw16_Light h (fun x2 hy => (nunciolaw16_Light_ok p1 5 x2 hy)) (fun x2 hy h => ?_)
  refine st_bind h (fun o3 ho hk => ?_)
  refine Exists.intro (JP1 _ _ o3 .normal (nunciolaw16_SchemaIs_J0_0 x1 x2)) (And.intro ?_ (join1 ?_))
  · have h := ho
    refine And.intro (by decide +kernel) (And.intro rfl ?_)
    refine st_calld [.agg [iV x1.K, sV x1.S, iV x1.N, bV x1.B, .sl false (x1.L.map c_api_Val)]] t_schema_Is h (fun x4 hy => (schema_Is_ok x1 x4 hy)) (fun x4 hy h => ?_)
    refine st_calld [.agg [iV x1.K, sV x1.S, iV x1.N, bV x1.B, .sl false (x1.L.map c_api_Val)]] t_R16_Is h (fun x5 hy => (R16_Is_ok x1 x5 hy)) (fun x5 hy h => ?_)
    refine st_test h (fun hb h => ?_) (fun hb h => ?_)
    · refine st_calld [.agg [iV x1.K, sV x1.S, iV x1.N, bV x1.B, .sl false (x1.L.map c_api_Val)]] t_schema_Weight h (fun x6 hy => (schema_Weight_ok x1 x6 hy)) (fun x6 hy h => ?_)
      refine st_calld [.agg [iV x1.K, sV x1.S, iV x1.N, bV x1.B, .sl false (x1.L.map c_api_Val)]] t_R16_Weight h (fun x7 hy => (R16_Weight_ok x1 x7 hy)) (fun x7 hy h => ?_)
      refine st_test h (fun hb h => ?_) (fun hb h => ?_)
      · refine st_calld [.agg [iV x1.K, sV x1.S, iV x1.N, bV x1.B, .sl false (x1.L.map c_api_Val)], .agg [iV x2.K, sV x2.S, iV x2.N, bV x2.B, .sl false (x2.L.map c_api_Val)]] t_schema_Same h (fun x8 hy => (schema_Same_ok x1 x2 x8 hy)) (fun x8 hy h => ?_)
        refine st_calld [.agg [iV x1.K, sV x1.S, iV x1.N, bV x1.B, .sl false (x1.L.map c_api_Val)], .agg [iV x2.K, sV x2.S, iV x2.N, bV x2.B, .sl false (x2.L.map c_api_Val)]] t_R16_Same h (fun x9 hy => (R16_Same_ok x1 x2 x9 hy)) (fun x9 hy h => ?_)
        refine st_test h (fun hb h => ?_) (fun hb h => ?_)
        · refine st_calld [.agg [iV x1.K, sV x1.S, iV x1.N, bV x1.B, .sl false (x1.L.map c_api_Val)], .agg [iV x1.K, sV x1.S, iV x1.N, bV x1.B, .sl false (x1.L.map c_api_Val)]] t_schema_Same h (fun x10 hy => (schema_Same_ok x1 x1 x10 hy)) (fun x10 hy h => ?_)
          refine st_test h (fun hb h => ?_) (fun hb h => ?_)
          · refine st_calld [] t_nunciolaw16_awake h (fun x11 hy => (nunciolaw16_awake_ok x11 hy)) (fun x11 hy h => ?_)
            exact JP1.a h (Le.tow 2 0 rfl (.cons rfl (.refl _) (.nil)) (.refl _) rfl)
          · exact JP1.a h (Le.tow 2 0 rfl (.cons rfl (.refl _) (.nil)) (.refl _) rfl)
        · refine bF ?_
          exact JP1.a h (Le.tow 2 0 rfl (.cons rfl (.refl _) (.nil)) (.refl _) rfl)
      · refine bF ?_
        refine bF ?_
        exact JP1.a h (Le.tow 2 0 rfl (.cons rfl (.refl _) (.nil)) (.refl _) rfl)
    · refine bF ?_
      refine bF ?_
      refine bF ?_
      exact JP1.a h (Le.tow 2 0 rfl (.cons rfl (.refl _) (.nil)) (.refl _) rfl)
  · have h := hk
    refine st_ret (t := t_nunciolaw16_SchemaIs) h ?_
    exact .refl _
noncomputable def nunciolaw16_SchemaLists_L1 (p0 : Int) (p1 : (List api_Val)) (v5 : (List api_Val)) (v6 : Int) : Option ((List api_Val)) :=
  ( if (decide (v6 < (p1.length : Int))) then
      some (decide (v6 < 7))
    else
      some false) >>= fun o2 =>
  if o2 then
    idx p1 v6 >>= fun x3 =>
    nunciolaw16_Light x3 4 >>= fun x4 =>
    appL 64 v5 [x4] >>= fun x5 =>
    nunciolaw16_SchemaLists_L1 p0 p1 x5 (wr (v6 + 1))
  else
    some v5
  partial_fixpoint
set_option maxRecDepth 100000 in
set_option maxHeartbeats 4000000 in
theorem nunciolaw16_SchemaLists_L1_grp : ∀ (p0 : Int) (p1 : (List api_Val)), (∀ (v5 : (List api_Val)) (v6 : Int) (o1 : (List api_Val)), nunciolaw16_SchemaLists_L1 p0 p1 v5 v6 = some o1 → TL (0, 0) Try.prog 59 nunciolaw16_SchemaLists_L1_c (JP1 (0, 0) 59 o1 (.exit 0) (nunciolaw16_SchemaLists_L1_x0 p0 p1)) (nunciolaw16_SchemaLists_L1_st p0 p1 v5 v6)) := by
  intro p0 p1
  refine nunciolaw16_SchemaLists_L1.partial_correctness p0 p1 _ ?_
  intro nunciolaw16_SchemaLists_L1' ih_nunciolaw16_SchemaLists_L1 v5 v6 o1 h
  refine TL.round (bwp_sound mixed tbOk (lv := nunciolaw16_SchemaLists_lv) _ _ _ ?_)
  refine st_bind h (fun o2 ho hk => ?_)
  refine Exists.intro (JP1 _ _ o2 .normal (nunciolaw16_SchemaLists_J0_0 p0 p1 v5 v6)) (And.intro ?_ (join1 ?_))
  · have h := ho
    refine view (lenMap _ _) rfl ?_
    refine st_test h (fun hb h => ?_) (fun hb h => ?_)
    · exact JP1.a h (Le.tow 0 1 rfl (.cons rfl (.refl _) (.cons rfl (.refl _) (.cons rfl (.refl _) (.cons rfl (.refl _) (.cons rfl (.refl _) (.nil)))))) (.refl _) rfl)
    · exact JP1.a h (Le.tow 0 1 rfl (.cons rfl (.refl _) (.cons rfl (.refl _) (.cons rfl (.refl _) (.cons rfl (.refl _) (.cons rfl (.refl _) (.nil)))))) (.refl _) rfl)
  · have h := hk
    refine st_test h (fun hb h => ?_) (fun hb h => ?_)
    · refine st_idx (l := p1) (c := c_api_Val) (c' := l_api_Val) h c_api_Val_eq (fun _ => rfl) (by decide) (fun x3 hi h => ?_)
      refine st_call [.agg [iV x3.K, sV x3.S, iV x3.N, bV x3.B, .sl false (x3.L.map c_api_Val)], iV 4] t_nunciolaw16_Light h (fun x4 hy => (nunciolaw16_Light_ok x3 4 x4 hy)) (fun x4 hy h => ?_)
      refine st_appo (a := v5) (b := [x4]) (c := c_api_Val) h (.cons (.ceq (c_api_Val_eq _) (.refl _)) (.nil)) (fun x => by rw [c_api_Val_eq]; rfl) rfl (fun x5 hi h => ?_)
      refine TL.le (τ := nunciolaw16_SchemaLists_L1_st p0 p1 x5 (wr (v6 + 1))) ?_ ((ih_nunciolaw16_SchemaLists_L1 x5 (wr (v6 + 1)) _ h))
      exact Le.tow 0 1 rfl (.cons rfl (.refl _) (.cons rfl (.refl _) (.cons rfl (.refl _) (.cons rfl (.refl _) (.nil))))) (.refl _) rfl
    · exact JP1.a h (Le.tow 0 1 rfl (.cons rfl (.refl _) (.cons rfl (.refl _) (.nil))) (.refl _) rfl)
theorem nunciolaw16_SchemaLists_L1_ok : ∀ (p0 : Int) (p1 : (List api_Val)) (v5 : (List api_Val)) (v6 : Int) (o1 : (List api_Val)), nunciolaw16_SchemaLists_L1 p0 p1 v5 v6 = some o1 → TL (0, 0) Try.prog 59 nunciolaw16_SchemaLists_L1_c (JP1 (0, 0) 59 o1 (.exit 0) (nunciolaw16_SchemaLists_L1_x0 p0 p1)) (nunciolaw16_SchemaLists_L1_st p0 p1 v5 v6) := fun p0 p1 v5 v6 o1 h => (nunciolaw16_SchemaLists_L1_grp p0 p1) v5 v6 o1 h
noncomputable def nunciolaw16_SchemaLists (p0 : Int) (p1 : (List api_Val)) : Option (Bool) :=
  (nunciolaw16_SchemaLists_L1 p0 p1 [] 0) >>= fun o1 =>
  schema_List p0 o1 >>= fun x6 =>
  R16_List p0 o1 >>= fun x7 =>
  ( if (x6.2 == x7.2) then
      R16_Same x6.1 x7.1 >>= fun x9 =>
      if x9 then
        schema_Is x6.1 >>= fun x10 =>
        if (x10 == x6.2) then
          nunciolaw16_awake >>= fun x11 =>
          some x11
        else
          some false
      else
        some false
    else
      some false) >>= fun o8 =>
  some o8
set_option maxRecDepth 100000 in
set_option maxHeartbeats 4000000 in
theorem nunciolaw16_SchemaLists_ok : ∀ (p0 : Int) (p1 : (List api_Val)) (o : Bool), nunciolaw16_SchemaLists p0 p1 = some o → PCall Try.prog 4 [iV p0, .sl false (p1.map c_api_Val)] (t_nunciolaw16_SchemaLists o) := by
  intro p0 p1 o h
  unfold nunciolaw16_SchemaLists at h
  refine PCall.ofB mixed tbOk nunciolaw16_SchemaLists_lv Try.func4 rfl (by kernel_rfl) (Nat.le_of_ble_eq_true rfl) ?_
  refine st_bind h (fun o1 ho hk => ?_)
  refine Exists.intro (JP1 _ _ o1 (.exit 0) (nunciolaw16_SchemaLists_L1_x0 p0 p1)) (And.intro (T_le (τ := nunciolaw16_SchemaLists_L1_st p0 p1 [] 0) ?_ (TL.loop (nunciolaw16_SchemaLists_L1_ok p0 p1 [] 0 o1 ho))) (join1 ?_))
  · exact Le.trans (τ := ⟨[(0, .p (iV p0)), (1, .p (.sl false (p1.map c_api_Val))), (5, .p (.sl true [])), (6, .p (iV 0))], ⟨[], []⟩⟩) (Le.tow 0 0 rfl (.cons rfl (.refl _) (.cons rfl (.refl _) (.cons rfl (.refl _) (.cons rfl (.refl _) (.nil))))) (.refl _) rfl) ((Le.own 5 27 5 rfl sizeNil).trans (Le.tow 0 1 rfl (.cons rfl (.refl _) (.cons rfl (.refl _) (.cons rfl (.refl _) (.cons rfl (.refl _) (.nil))))) (.refl _) rfl))
  have h := hk
  refine st_call [iV p0, .sl false (o1.map c_api_Val)] t_schema_List h (fun x6 hy => (schema_List_ok p0 o1 x6 hy)) (fun x6 hy h => ?_)
  refine st_call [iV p0, .sl false (o1.map c_api_Val)] t_R16_List h (fun x7 hy => (R16_List_ok p0 o1 x7 hy)) (fun x7 hy h => ?_)
  refine st_bind h (fun o8 ho hk => ?_)
  refine Exists.intro (JP1 _ _ o8 .normal (nunciolaw16_SchemaLists_J1_0 o1 x6 x7)) (And.intro ?_ (join1 ?_))
  · have h := ho
    refine st_test h (fun hb h => ?_) (fun hb h => ?_)
    · refine st_call [.agg [iV x6.1.K, sV x6.1.S, iV x6.1.N, bV x6.1.B, .sl false (x6.1.L.map c_api_Val)], .agg [iV x7.1.K, sV x7.1.S, iV x7.1.N, bV x7.1.B, .sl false (x7.1.L.map c_api_Val)]] t_R16_Same h (fun x9 hy => (R16_Same_ok x6.1 x7.1 x9 hy)) (fun x9 hy h => ?_)
      refine st_test h (fun hb h => ?_) (fun hb h => ?_)
      · refine st_call [.agg [iV x6.1.K, sV x6.1.S, iV x6.1.N, bV x6.1.B, .sl false (x6.1.L.map c_api_Val)]] t_schema_Is h (fun x10 hy => (schema_Is_ok x6.1 x10 hy)) (fun x10 hy h => ?_)
        refine st_test h (fun hb h => ?_) (fun hb h => ?_)
        · refine st_call [] t_nunciolaw16_awake h (fun x11 hy => (nunciolaw16_awake_ok x11 hy)) (fun x11 hy h => ?_)
          exact JP1.a h (Le.tow 2 1 rfl (.cons rfl (.refl _) (.nil)) (.refl _) rfl)
        · exact JP1.a h (Le.tow 2 1 rfl (.cons rfl (.refl _) (.nil)) (.refl _) rfl)
      · refine bF ?_
        exact JP1.a h (Le.tow 2 1 rfl (.cons rfl (.refl _) (.nil)) (.refl _) rfl)
    · refine bF ?_
      refine bF ?_
      exact JP1.a h (Le.tow 2 1 rfl (.cons rfl (.refl _) (.nil)) (.refl _) rfl)
  · have h := hk
    refine st_ret (t := t_nunciolaw16_SchemaLists) h ?_
    exact .refl _
noncomputable def nunciolaw16_SchemaLong_L1 (p0 : Int) (v3 : (List api_Val)) (v4 : Int) : Option ((List api_Val)) :=
  if (decide (v4 < ((wr p0).tmod 4200))) then
    appL 64 v3 ([(api_Val.mk 1 [] 0 false [])]) >>= fun x2 =>
    nunciolaw16_SchemaLong_L1 p0 x2 (wr (v4 + 1))
  else
    some v3
  partial_fixpoint
set_option maxRecDepth 100000 in
set_option maxHeartbeats 4000000 in
theorem nunciolaw16_SchemaLong_L1_grp : ∀ (p0 : Int), (∀ (v3 : (List api_Val)) (v4 : Int) (o1 : (List api_Val)), nunciolaw16_SchemaLong_L1 p0 v3 v4 = some o1 → TL (0, 0) Try.prog 59 nunciolaw16_SchemaLong_L1_c (JP1 (0, 0) 59 o1 (.exit 0) (nunciolaw16_SchemaLong_L1_x0 p0)) (nunciolaw16_SchemaLong_L1_st p0 v3 v4)) := by
  intro p0
  refine nunciolaw16_SchemaLong_L1.partial_correctness p0 _ ?_
  intro nunciolaw16_SchemaLong_L1' ih_nunciolaw16_SchemaLong_L1 v3 v4 o1 h
  refine TL.round (bwp_sound mixed tbOk (lv := nunciolaw16_SchemaLong_lv) _ _ _ ?_)
  refine vrfl ?_
  refine And.intro (by decide) ?_
  refine st_test h (fun hb h => ?_) (fun hb h => ?_)
  · refine st_appo (a := v3) (b := [(api_Val.mk 1 [] 0 false [])]) (c := c_api_Val) h (.cons (.ceq (c_api_Val_eq _) (.cons (.refl _) (.cons (.refl _) (.cons (.refl _) (.cons (.refl _) (.cons (.not) (.nil))))))) (.nil)) (fun x => by rw [c_api_Val_eq]; rfl) rfl (fun x2 hi h => ?_)
    refine TL.le (τ := nunciolaw16_SchemaLong_L1_st p0 x2 (wr (v4 + 1))) ?_ ((ih_nunciolaw16_SchemaLong_L1 x2 (wr (v4 + 1)) _ h))
    exact Le.tow 0 1 rfl (.cons rfl (.refl _) (.cons rfl (.refl _) (.cons rfl (.refl _) (.nil)))) (.refl _) rfl
  · exact JP1.a h (Le.tow 0 1 rfl (.cons rfl (.refl _) (.nil)) (.refl _) rfl)
theorem nunciolaw16_SchemaLong_L1_ok : ∀ (p0 : Int) (v3 : (List api_Val)) (v4 : Int) (o1 : (List api_Val)), nunciolaw16_SchemaLong_L1 p0 v3 v4 = some o1 → TL (0, 0) Try.prog 59 nunciolaw16_SchemaLong_L1_c (JP1 (0, 0) 59 o1 (.exit 0) (nunciolaw16_SchemaLong_L1_x0 p0)) (nunciolaw16_SchemaLong_L1_st p0 v3 v4) := fun p0 v3 v4 o1 h => (nunciolaw16_SchemaLong_L1_grp p0) v3 v4 o1 h
noncomputable def nunciolaw16_SchemaLong (p0 : Int) : Option (Bool) :=
  (nunciolaw16_SchemaLong_L1 p0 [] 0) >>= fun o1 =>
  schema_List 7 o1 >>= fun x3 =>
  ( if (x3.2 == (decide ((o1.length : Int) ≤ 4096))) then
      schema_Is x3.1 >>= fun x5 =>
      if (x5 == x3.2) then
        if x3.2 then
          if ((x3.1.L.length : Int) == (o1.length : Int)) then
            nunciolaw16_awake >>= fun x6 =>
            some x6
          else
            if (!x3.2) then
              if ((x3.1.L.length : Int) == 0) then
                nunciolaw16_awake >>= fun x7 =>
                some x7
              else
                some false
            else
              some false
        else
          if (!x3.2) then
            if ((x3.1.L.length : Int) == 0) then
              nunciolaw16_awake >>= fun x8 =>
              some x8
            else
              some false
          else
            some false
      else
        some false
    else
      some false) >>= fun o4 =>
  some o4
set_option maxRecDepth 100000 in
set_option maxHeartbeats 4000000 in
theorem nunciolaw16_SchemaLong_ok : ∀ (p0 : Int) (o : Bool), nunciolaw16_SchemaLong p0 = some o → PCall Try.prog 5 [nV .u16 p0] (t_nunciolaw16_SchemaLong o) := by
  intro p0 o h
  unfold nunciolaw16_SchemaLong at h
  refine PCall.ofB mixed tbOk nunciolaw16_SchemaLong_lv Try.func5 rfl (by kernel_rfl) (Nat.le_of_ble_eq_true rfl) ?_
  refine st_bind h (fun o1 ho hk => ?_)
  refine Exists.intro (JP1 _ _ o1 (.exit 0) (nunciolaw16_SchemaLong_L1_x0 p0)) (And.intro (T_le (τ := nunciolaw16_SchemaLong_L1_st p0 [] 0) ?_ (TL.loop (nunciolaw16_SchemaLong_L1_ok p0 [] 0 o1 ho))) (join1 ?_))
  · exact Le.trans (τ := ⟨[(0, .p (nV .u16 p0)), (3, .p (.sl true [])), (4, .p (iV 0))], ⟨[], []⟩⟩) (Le.tow 0 0 rfl (.cons rfl (.refl _) (.cons rfl (.refl _) (.cons rfl (.refl _) (.nil)))) (.refl _) rfl) ((Le.own 3 27 5 rfl sizeNil).trans (Le.tow 0 1 rfl (.cons rfl (.refl _) (.cons rfl (.refl _) (.cons rfl (.refl _) (.nil)))) (.refl _) rfl))
  have h := hk
  refine st_call [iV 7, .sl false (o1.map c_api_Val)] t_schema_List h (fun x3 hy => (schema_List_ok 7 o1 x3 hy)) (fun x3 hy h => ?_)
  refine st_bind h (fun o4 ho hk => ?_)
  refine Exists.intro (JP1 _ _ o4 .normal (nunciolaw16_SchemaLong_J0_0 o1 x3)) (And.intro ?_ (join1 ?_))
  · have h := ho
    refine view (lenMap _ _) rfl ?_
    refine st_test h (fun hb h => ?_) (fun hb h => ?_)
    · refine st_call [.agg [iV x3.1.K, sV x3.1.S, iV x3.1.N, bV x3.1.B, .sl false (x3.1.L.map c_api_Val)]] t_schema_Is h (fun x5 hy => (schema_Is_ok x3.1 x5 hy)) (fun x5 hy h => ?_)
      refine st_test h (fun hb h => ?_) (fun hb h => ?_)
      · refine st_test h (fun hb h => ?_) (fun hb h => ?_)
        · refine view (lenMap _ _) rfl ?_
          refine view (lenMap _ _) rfl ?_
          refine st_test h (fun hb h => ?_) (fun hb h => ?_)
          · refine bT ?_
            refine st_call [] t_nunciolaw16_awake h (fun x6 hy => (nunciolaw16_awake_ok x6 hy)) (fun x6 hy h => ?_)
            exact JP1.a h (Le.tow 1 1 rfl (.cons rfl (.refl _) (.nil)) (.refl _) rfl)
          · refine st_test h (fun hb h => ?_) (fun hb h => ?_)
            · refine view (lenMap _ _) rfl ?_
              refine st_test h (fun hb h => ?_) (fun hb h => ?_)
              · refine st_call [] t_nunciolaw16_awake h (fun x7 hy => (nunciolaw16_awake_ok x7 hy)) (fun x7 hy h => ?_)
                exact JP1.a h (Le.tow 1 1 rfl (.cons rfl (.refl _) (.nil)) (.refl _) rfl)
              · exact JP1.a h (Le.tow 1 1 rfl (.cons rfl (.refl _) (.nil)) (.refl _) rfl)
            · refine bF ?_
              exact JP1.a h (Le.tow 1 1 rfl (.cons rfl (.refl _) (.nil)) (.refl _) rfl)
        · refine bF ?_
          refine st_test h (fun hb h => ?_) (fun hb h => ?_)
          · refine view (lenMap _ _) rfl ?_
            refine st_test h (fun hb h => ?_) (fun hb h => ?_)
            · refine st_call [] t_nunciolaw16_awake h (fun x8 hy => (nunciolaw16_awake_ok x8 hy)) (fun x8 hy h => ?_)
              exact JP1.a h (Le.tow 1 1 rfl (.cons rfl (.refl _) (.nil)) (.refl _) rfl)
            · exact JP1.a h (Le.tow 1 1 rfl (.cons rfl (.refl _) (.nil)) (.refl _) rfl)
          · refine bF ?_
            exact JP1.a h (Le.tow 1 1 rfl (.cons rfl (.refl _) (.nil)) (.refl _) rfl)
      · refine bF ?_
        exact JP1.a h (Le.tow 1 1 rfl (.cons rfl (.refl _) (.nil)) (.refl _) rfl)
    · refine bF ?_
      refine bF ?_
      exact JP1.a h (Le.tow 1 1 rfl (.cons rfl (.refl _) (.nil)) (.refl _) rfl)
  · have h := hk
    refine st_ret (t := t_nunciolaw16_SchemaLong) h ?_
    exact .refl _
noncomputable def nunciolaw16_SchemaMakes_L1 (v9 : (List api_Val)) (v10 : (List api_Val)) (v11 : Int) : Option (Unit ⊕ Unit) :=
  if (decide (v11 < 4)) then
    ( idx v9 v11 >>= fun x11 =>
      idx v10 v11 >>= fun x12 =>
      R16_Same x11 x12 >>= fun x13 =>
      if (!x13) then
        some true
      else
        idx v9 v11 >>= fun x14 =>
        schema_Is x14 >>= fun x15 =>
        some (!x15)) >>= fun o10 =>
    if o10 then
      some (.inr ())
    else
      nunciolaw16_SchemaMakes_L1  v9 v10 (wr (v11 + 1))
  else
    some (.inl ())
  partial_fixpoint
set_option maxRecDepth 100000 in
set_option maxHeartbeats 4000000 in
theorem nunciolaw16_SchemaMakes_L1_grp : ∀ (v9 : (List api_Val)) (v10 : (List api_Val)), (∀ (v11 : Int) (o7 : Unit ⊕ Unit), nunciolaw16_SchemaMakes_L1 v9 v10 v11 = some o7 → TL (0, 0) Try.prog 55 nunciolaw16_SchemaMakes_L1_c (JP2 (0, 0) 55 o7 (.exit 0) (nunciolaw16_SchemaMakes_L1_x0 ) .ret (nunciolaw16_SchemaMakes_L1_x1 )) (nunciolaw16_SchemaMakes_L1_st v9 v10 v11)) := by
  intro v9 v10
  refine nunciolaw16_SchemaMakes_L1.partial_correctness v9 v10 _ ?_
  intro nunciolaw16_SchemaMakes_L1' ih_nunciolaw16_SchemaMakes_L1 v11 o7 h
  refine TL.round (bwp_sound mixed tbOk (lv := nunciolaw16_SchemaMakes_lv) _ _ _ ?_)
  refine st_test h (fun hb h => ?_) (fun hb h => ?_)
  · refine st_bind h (fun o10 ho hk => ?_)
    refine Exists.intro (JP1 _ _ o10 .normal (nunciolaw16_SchemaMakes_J0_0 v9 v10 v11)) (And.intro ?_ (join1 ?_))
    · have h := ho
      refine And.intro (by decide +kernel) (And.intro rfl ?_)
      refine st_idx (l := v9) (c := c_api_Val) (c' := l_api_Val) h c_api_Val_eq (fun _ => rfl) (by decide) (fun x11 hi h => ?_)
      refine st_idx (l := v10) (c := c_api_Val) (c' := l_api_Val) h c_api_Val_eq (fun _ => rfl) (by decide) (fun x12 hi h => ?_)
      refine st_calld [.agg [iV x11.K, sV x11.S, iV x11.N, bV x11.B, .sl false (x11.L.map c_api_Val)], .agg [iV x12.K, sV x12.S, iV x12.N, bV x12.B, .sl false (x12.L.map c_api_Val)]] t_R16_Same h (fun x13 hy => (R16_Same_ok x11 x12 x13 hy)) (fun x13 hy h => ?_)
      refine st_test h (fun hb h => ?_) (fun hb h => ?_)
      · exact JP1.a h (Le.tow 0 0 rfl (.cons rfl (.refl _) (.cons rfl (.refl _) (.cons rfl (.refl _) (.cons rfl (.refl _) (.nil))))) (.refl _) rfl)
      · refine st_idx (l := v9) (c := c_api_Val) (c' := l_api_Val) h c_api_Val_eq (fun _ => rfl) (by decide) (fun x14 hi h => ?_)
        refine st_calld [.agg [iV x14.K, sV x14.S, iV x14.N, bV x14.B, .sl false (x14.L.map c_api_Val)]] t_schema_Is h (fun x15 hy => (schema_Is_ok x14 x15 hy)) (fun x15 hy h => ?_)
        exact JP1.a h (Le.tow 0 0 rfl (.cons rfl (.refl _) (.cons rfl (.refl _) (.cons rfl (.refl _) (.cons rfl (.refl _) (.nil))))) (.refl _) rfl)
    · have h := hk
      refine st_test h (fun hb h => ?_) (fun hb h => ?_)
      · exact JP2.b h (Le.tow 0 0 rfl (.cons rfl (.refl _) (.nil)) (.refl _) rfl)
      · refine TL.le (τ := nunciolaw16_SchemaMakes_L1_st  v9 v10 (wr (v11 + 1))) ?_ ((ih_nunciolaw16_SchemaMakes_L1 (wr (v11 + 1)) _ h))
        exact Le.tow 0 0 rfl (.cons rfl (.refl _) (.cons rfl (.refl _) (.cons rfl (.refl _) (.nil)))) (.refl _) rfl
  · exact JP2.a h (Le.tow 0 0 rfl (.nil) (.refl _) rfl)
theorem nunciolaw16_SchemaMakes_L1_ok : ∀ (v9 : (List api_Val)) (v10 : (List api_Val)) (v11 : Int) (o7 : Unit ⊕ Unit), nunciolaw16_SchemaMakes_L1 v9 v10 v11 = some o7 → TL (0, 0) Try.prog 55 nunciolaw16_SchemaMakes_L1_c (JP2 (0, 0) 55 o7 (.exit 0) (nunciolaw16_SchemaMakes_L1_x0 ) .ret (nunciolaw16_SchemaMakes_L1_x1 )) (nunciolaw16_SchemaMakes_L1_st v9 v10 v11) := fun v9 v10 v11 o7 h => (nunciolaw16_SchemaMakes_L1_grp v9 v10) v11 o7 h
noncomputable def schema_Truth (p0 : Bool) : Option (api_Val) :=
  some (api_Val.mk 3 [] 0 p0 [])
set_option maxRecDepth 100000 in
set_option maxHeartbeats 4000000 in
theorem schema_Truth_ok : ∀ (p0 : Bool) (o : api_Val), schema_Truth p0 = some o → PCall Try.prog 29 [bV p0] (t_schema_Truth o) := by
  intro p0 o h
  unfold schema_Truth at h
  refine PCall.ofB mixed tbOk schema_Truth_lv Try.func29 rfl (by kernel_rfl) (Nat.le_of_ble_eq_true rfl) ?_
  refine st_ret (t := t_schema_Truth) h ?_
  exact .p (.agg' (.cons (.refl _) (.cons (.refl _) (.cons (.refl _) (.cons (.refl _) (.cons (.not) (.nil)))))))
noncomputable def nunciolaw16_SchemaMakes (p0 : (List UInt8)) (p1 : (List UInt8)) (p2 : Int) (p3 : Bool) : Option (Bool) :=
  schema_Text p0 >>= fun x1 =>
  schema_Number p2 >>= fun x2 =>
  schema_Truth p3 >>= fun x3 =>
  schema_Pair p0 p1 >>= fun x4 =>
  R16_Text p0 >>= fun x5 =>
  R16_Pair p0 p1 >>= fun x6 =>
  (nunciolaw16_SchemaMakes_L1 [x1, x2, x3, x4] ([x5, (api_Val.mk 2 [] p2 false []), (api_Val.mk 3 [] 0 p3 []), x6]) 0) >>= fun o7 =>
  match o7 with
  | .inl y8 =>
    nunciolaw16_awake >>= fun x16 =>
    some x16
  | .inr y9 =>
    some false
set_option maxRecDepth 100000 in
set_option maxHeartbeats 4000000 in
theorem nunciolaw16_SchemaMakes_ok : ∀ (p0 : (List UInt8)) (p1 : (List UInt8)) (p2 : Int) (p3 : Bool) (o : Bool), nunciolaw16_SchemaMakes p0 p1 p2 p3 = some o → PCall Try.prog 7 [sV p0, sV p1, iV p2, bV p3] (t_nunciolaw16_SchemaMakes o) := by
  intro p0 p1 p2 p3 o h
  unfold nunciolaw16_SchemaMakes at h
  refine PCall.ofB mixed tbOk nunciolaw16_SchemaMakes_lv Try.func7 rfl (by kernel_rfl) (Nat.le_of_ble_eq_true rfl) ?_
  refine st_call [sV p0] t_schema_Text h (fun x1 hy => (schema_Text_ok p0 x1 hy)) (fun x1 hy h => ?_)
  refine st_call [iV p2] t_schema_Number h (fun x2 hy => (schema_Number_ok p2 x2 hy)) (fun x2 hy h => ?_)
  refine st_call [bV p3] t_schema_Truth h (fun x3 hy => (schema_Truth_ok p3 x3 hy)) (fun x3 hy h => ?_)
  refine st_call [sV p0, sV p1] t_schema_Pair h (fun x4 hy => (schema_Pair_ok p0 p1 x4 hy)) (fun x4 hy h => ?_)
  refine st_call [sV p0] t_R16_Text h (fun x5 hy => (R16_Text_ok p0 x5 hy)) (fun x5 hy h => ?_)
  refine st_call [sV p0, sV p1] t_R16_Pair h (fun x6 hy => (R16_Pair_ok p0 p1 x6 hy)) (fun x6 hy h => ?_)
  refine st_bind h (fun o7 ho hk => ?_)
  refine Exists.intro (JP2 _ _ o7 (.exit 0) (nunciolaw16_SchemaMakes_L1_x0 ) .ret (nunciolaw16_SchemaMakes_L1_x1 )) (And.intro (T_le (τ := nunciolaw16_SchemaMakes_L1_st [x1, x2, x3, x4] ([x5, (api_Val.mk 2 [] p2 false []), (api_Val.mk 3 [] 0 p3 []), x6]) 0) ?_ (TL.loop (nunciolaw16_SchemaMakes_L1_ok [x1, x2, x3, x4] ([x5, (api_Val.mk 2 [] p2 false []), (api_Val.mk 3 [] 0 p3 []), x6]) 0 o7 ho))) (join2 (fun y8 hy => ?_) (fun y9 hy => ?_)))
  · exact Le.tow 0 0 rfl (.cons rfl (.p (.sl' (fun h => h) (.cons (.ceq (c_api_Val_eq _) (.refl _)) (.cons (.ceq (c_api_Val_eq _) (.refl _)) (.cons (.ceq (c_api_Val_eq _) (.refl _)) (.cons (.ceq (c_api_Val_eq _) (.refl _)) (.nil))))))) (.cons rfl (.p (.sl' (fun h => h) (.cons (.ceq (c_api_Val_eq _) (.refl _)) (.cons (.ceq (c_api_Val_eq _) (.cons (.refl _) (.cons (.refl _) (.cons (.refl _) (.cons (.refl _) (.cons (.not) (.nil))))))) (.cons (.ceq (c_api_Val_eq _) (.cons (.refl _) (.cons (.refl _) (.cons (.refl _) (.cons (.refl _) (.cons (.not) (.nil))))))) (.cons (.ceq (c_api_Val_eq _) (.refl _)) (.nil))))))) (.cons rfl (.refl _) (.nil)))) (.refl _) rfl
  · have h := (by rw [hy] at hk; exact hk)
    refine st_call [] t_nunciolaw16_awake h (fun x16 hy => (nunciolaw16_awake_ok x16 hy)) (fun x16 hy h => ?_)
    refine st_ret (t := t_nunciolaw16_SchemaMakes) h ?_
    exact .refl _
  · have h := (by rw [hy] at hk; exact hk)
    refine st_ret (t := t_nunciolaw16_SchemaMakes) h ?_
    exact .refl _
end Go.Proofs.Ytcegigccehapdaa
