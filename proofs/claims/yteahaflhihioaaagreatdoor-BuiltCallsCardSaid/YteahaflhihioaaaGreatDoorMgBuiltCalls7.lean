/- The proof's texts, part 7 of 10: the walks by a logic in which data are by value, the plain laws, and at the end the law, for every input. -/
import Derived.Test.YteahaflhihioaaaGreatDoorMgBuiltCalls6

section
set_option linter.unusedVariables false
set_option linter.unusedSimpArgs false
namespace Go.Proofs.YteahaflhihioaaaGreatDoor
open Go.RowKit

structure api_Val where
  K : Int
  S : (List UInt8)
  N : Int
  B : Bool
  L : (List api_Val)
mutual
noncomputable def c_api_Val : api_Val → List V
  | ⟨x0, x1, x2, x3, x4⟩ => [iV x0, sV x1, iV x2, bV x3, .sl false (cs_api_Val x4)]
noncomputable def cs_api_Val : List api_Val → List (List V)
  | [] => []
  | x :: r => c_api_Val x :: cs_api_Val r
end
theorem cs_api_Val_map : ∀ l : List api_Val, cs_api_Val l = l.map c_api_Val
  | [] => rfl
  | x :: r => by rw [cs_api_Val, cs_api_Val_map r]; rfl
noncomputable def l_api_Val (x : api_Val) : List V := [iV x.K, sV x.S, iV x.N, bV x.B, .sl false (x.L.map c_api_Val)]
theorem c_api_Val_eq (x : api_Val) : c_api_Val x = l_api_Val x := by cases x; simp [c_api_Val, l_api_Val, cs_api_Val_map]
structure kind_field where
  of_ : Int
  name_ : (List UInt8)
  is_ : Int
noncomputable def c_kind_field (x : kind_field) : List V := [iV x.of_, sV x.name_, iV x.is_]
noncomputable def t_R01_Begins (y : Bool) : D := .p (bV y)
noncomputable def R01_Begins_lv : List (Nat × List Nat) := [(0, [0, 1, 2]), (1, [6]), (3000001, [])]
noncomputable def R01_Begins_J0_0  (o1 : Bool) : St := ⟨[(6, .p (bV o1))], ⟨[], []⟩⟩
noncomputable def t_R01_Join (y : (List UInt8)) : D := .p (sV y)
noncomputable def R01_Join_lv : List (Nat × List Nat) := [(0, [0, 1]), (1, [0, 1, 5]), (2, [0, 1, 5, 6]), (3, [0, 1, 5, 6, 10]), (4, [0, 1, 5, 6]), (5, [0, 1, 5, 6, 14]), (6, [0, 1, 5, 6]), (7, [0, 1, 5, 6]), (8, [4]), (1000003, [0, 1, 5, 6])]
noncomputable def R01_Join_L1_st (p0 : (List (List UInt8))) (p1 : (List UInt8)) (v5 : (List UInt8)) (v6 : Int) : St := ⟨[(0, .p (.sl false (p0.map cStr))), (1, .p (sV p1)), (5, .p (sV v5)), (6, .p (iV v6))], ⟨[], []⟩⟩
noncomputable def R01_Join_L1_x0 (p0 : (List (List UInt8))) (p1 : (List UInt8)) (o1 : (List UInt8)) : St := ⟨[(5, .p (sV o1))], ⟨[], []⟩⟩
noncomputable def R01_Join_L1_c : Code := ((loopsOf (Tryz.f52.body.getD .skip)).getD 0 .skip)
noncomputable def t_R01_Text (y : (List UInt8)) : D := .p (sV y)
noncomputable def t_R02_Bytes (y : (List UInt8)) : D := .p (sV y)
noncomputable def R02_Bytes_lv : List (Nat × List Nat) := [(0, [0]), (1, [0, 5]), (2, [0]), (3, [0, 7]), (4, [2]), (5, [0, 13]), (6, [2]), (7, [0, 25]), (8, [2]), (9, [2]), (2001005, [])]
noncomputable def R02_Bytes_J0_0  (o1 : Int) : St := ⟨[(0, .p (iV o1))], ⟨[], []⟩⟩
noncomputable def t_R02_Next (y : Int × Int) : D := .tup [.p (iV y.1), .p (iV y.2)]
noncomputable def R02_Next_lv : List (Nat × List Nat) := [(0, [0, 1]), (1, [0, 1, 17]), (2, [4, 5]), (3, [0, 1, 6]), (4, [0, 1, 6, 7]), (5, [0, 1, 6, 7, 28]), (6, [0, 1, 6, 7]), (7, [0, 1, 6, 7, 8]), (8, [0, 1, 6, 7, 8, 9]), (9, [0, 1, 6, 7, 8, 9, 42]), (10, [0, 1, 6, 7, 8, 9]), (11, [0, 1, 6, 7, 8, 9]), (12, [0, 1, 6, 7, 8, 71]), (13, [4, 5]), (14, [4, 5]), (1000005, [0, 1, 6, 7]), (1000009, [0, 1, 6, 7, 8, 9]), (3000001, []), (3000005, []), (3000012, [])]
noncomputable def R02_Next_J0_0 (p0 : (List UInt8)) (p1 : Int) (o1 : Bool) : St := ⟨[(0, .p (sV p0)), (1, .p (iV p1)), (17, .p (bV o1))], ⟨[], []⟩⟩
noncomputable def R02_Next_J1_0 (p0 : (List UInt8)) (p1 : Int) (v6 : (List Int)) (v7 : Int) (o5 : Bool) : St := ⟨[(0, .p (sV p0)), (1, .p (iV p1)), (6, .p (.sl true (v6.map cInt))), (7, .p (iV v7)), (28, .p (bV o5))], ⟨[], []⟩⟩
noncomputable def R02_Next_L2_st (p0 : (List UInt8)) (p1 : Int) (v6 : (List Int)) (v7 : Int) (v8 : Int) (v9 : Int) : St := ⟨[(0, .p (sV p0)), (1, .p (iV p1)), (6, .p (.sl true (v6.map cInt))), (7, .p (iV v7)), (8, .p (iV v8)), (9, .p (iV v9))], ⟨[], []⟩⟩
noncomputable def R02_Next_L2_x0 (p0 : (List UInt8)) (p1 : Int) (v6 : (List Int)) (v7 : Int) (o8 : Int) : St := ⟨[(0, .p (sV p0)), (1, .p (iV p1)), (6, .p (.sl true (v6.map cInt))), (7, .p (iV v7)), (8, .p (iV o8))], ⟨[], []⟩⟩
noncomputable def R02_Next_L2_c : Code := ((loopsOf (Tryz.f73.body.getD .skip)).getD 1 .skip)
noncomputable def R02_Next_J2_0 (p0 : (List UInt8)) (p1 : Int) (v6 : (List Int)) (v7 : Int) (o8 : Int) (o10 : Bool) : St := ⟨[(0, .p (sV p0)), (1, .p (iV p1)), (6, .p (.sl true (v6.map cInt))), (7, .p (iV v7)), (8, .p (iV o8)), (71, .p (bV o10))], ⟨[], []⟩⟩
noncomputable def R02_Next_L1_st (p0 : (List UInt8)) (p1 : Int) (v6 : (List Int)) (v7 : Int) : St := ⟨[(0, .p (sV p0)), (1, .p (iV p1)), (6, .p (.sl true (v6.map cInt))), (7, .p (iV v7))], ⟨[], []⟩⟩
noncomputable def R02_Next_L1_x0 (p0 : (List UInt8)) (p1 : Int) (y3 : Unit) : St := ⟨[], ⟨[], []⟩⟩
noncomputable def R02_Next_L1_x1 (p0 : (List UInt8)) (p1 : Int) (y4 : Int × Int) : St := ⟨[(4, .p (iV y4.1)), (5, .p (iV y4.2))], ⟨[], []⟩⟩
noncomputable def R02_Next_L1_c : Code := ((loopsOf (Tryz.f73.body.getD .skip)).getD 0 .skip)
noncomputable def t_R02_Rune (y : Bool) : D := .p (bV y)
noncomputable def R02_Rune_lv : List (Nat × List Nat) := [(0, [0]), (1, [2]), (3000001, [])]
noncomputable def R02_Rune_J0_0  (o1 : Bool) : St := ⟨[(2, .p (bV o1))], ⟨[], []⟩⟩
noncomputable def t_R15_Call (y : Int × Bool) : D := .tup [.p (iV y.1), .p (bV y.2)]
noncomputable def t_R15_Elem (y : Int × Bool) : D := .tup [.p (iV y.1), .p (bV y.2)]
noncomputable def R15_Elem_lv : List (Nat × List Nat) := [(0, [0]), (1, [0, 5]), (2, [2, 3]), (3, [0, 7]), (4, [2, 3]), (5, [9]), (6, [2, 3]), (7, [2, 3])]
noncomputable def t_R15_Field (y : Int × Bool) : D := .tup [.p (iV y.1), .p (bV y.2)]
noncomputable def R15_Field_lv : List (Nat × List Nat) := [(0, [0, 1]), (1, [1, 6, 7]), (2, [1, 6, 7, 8]), (3, [1, 6, 7, 8, 17]), (4, [1, 6, 7, 8]), (5, [1, 6, 7, 8, 25]), (6, [4, 5]), (7, [4, 5]), (1000003, [1, 6, 7, 8])]
noncomputable def R15_Field_L1_st (p1 : (List UInt8)) (x1 : (List (List UInt8)) × (List Int)) (v8 : Int) : St := ⟨[(1, .p (sV p1)), (6, .p (.sl false (x1.1.map cStr))), (7, .p (.sl false (x1.2.map cInt))), (8, .p (iV v8))], ⟨[], []⟩⟩
noncomputable def R15_Field_L1_x0 (p1 : (List UInt8)) (x1 : (List (List UInt8)) × (List Int)) (y3 : Unit) : St := ⟨[], ⟨[], []⟩⟩
noncomputable def R15_Field_L1_x1 (p1 : (List UInt8)) (x1 : (List (List UInt8)) × (List Int)) (y4 : Int) : St := ⟨[(4, .p (iV y4)), (5, .p (bV true))], ⟨[], []⟩⟩
noncomputable def R15_Field_L1_c : Code := ((loopsOf (Tryz.f28.body.getD .skip)).getD 0 .skip)
noncomputable def t_R15_Fields (y : (List (List UInt8))) : D := .p (.sl false (y.map cStr))
noncomputable def R15_Fields_lv : List (Nat × List Nat) := [(0, [0]), (1, [3]), (2, [2])]
noncomputable def t_R15_Plain (y : Bool) : D := .p (bV y)
noncomputable def R15_Plain_lv : List (Nat × List Nat) := [(0, [0]), (1, [2]), (3000001, [])]
noncomputable def R15_Plain_J0_0  (o1 : Bool) : St := ⟨[(2, .p (bV o1))], ⟨[], []⟩⟩
noncomputable def t_R15_fields (y : (List (List UInt8)) × (List Int)) : D := .tup [.p (.sl false (y.1.map cStr)), .p (.sl false (y.2.map cInt))]
noncomputable def R15_fields_lv : List (Nat × List Nat) := [(0, [0]), (1, [0, 5]), (2, [2, 3]), (3, [0, 9]), (4, [2, 3]), (5, [13]), (6, [2, 3]), (7, [2, 3])]
noncomputable def t_R16_Find (y : (List UInt8) × Bool) : D := .tup [.p (sV y.1), .p (bV y.2)]
noncomputable def R16_Find_lv : List (Nat × List Nat) := [(0, [1, 2]), (1, [1, 2, 14]), (2, [4, 5]), (3, [1, 2, 6]), (4, [1, 2, 6, 19]), (5, [1, 2, 6]), (6, [1, 2, 6, 32]), (7, [4, 5]), (8, [4, 5]), (1000004, [1, 2, 6]), (3000001, [])]
noncomputable def R16_Find_J0_0 (p0 : api_Val) (p1 : (List UInt8)) (o1 : Bool) : St := ⟨[(1, .p (sV p1)), (2, .ptr 0 0), (14, .p (bV o1))], ⟨[[.p (iV p0.K), .p (sV p0.S), .p (iV p0.N), .p (bV p0.B), .p (.sl false (p0.L.map c_api_Val))]], []⟩⟩
noncomputable def R16_Find_L1_st (p0 : api_Val) (p1 : (List UInt8)) (v6 : Int) : St := ⟨[(1, .p (sV p1)), (2, .ptr 0 0), (6, .p (iV v6))], ⟨[[.p (iV p0.K), .p (sV p0.S), .p (iV p0.N), .p (bV p0.B), .p (.sl false (p0.L.map c_api_Val))]], []⟩⟩
noncomputable def R16_Find_L1_x0 (p0 : api_Val) (p1 : (List UInt8)) (y4 : Unit) : St := ⟨[], ⟨[[.p (iV p0.K), .p (sV p0.S), .p (iV p0.N), .p (bV p0.B), .p (.sl false (p0.L.map c_api_Val))]], []⟩⟩
noncomputable def R16_Find_L1_x1 (p0 : api_Val) (p1 : (List UInt8)) (y5 : (List UInt8)) : St := ⟨[(4, .p (sV y5)), (5, .p (bV true))], ⟨[[.p (iV p0.K), .p (sV p0.S), .p (iV p0.N), .p (bV p0.B), .p (.sl false (p0.L.map c_api_Val))]], []⟩⟩
noncomputable def R16_Find_L1_c : Code := ((loopsOf (Tryz.f54.body.getD .skip)).getD 0 .skip)
noncomputable def t_R16_Is (y : Bool) : D := .p (bV y)
noncomputable def R16_Is_lv : List (Nat × List Nat) := [(0, [1]), (1, [1, 15]), (2, [2]), (3, [1, 42]), (4, [2]), (5, [1, 45]), (6, [2]), (7, [1, 3, 4]), (8, [1, 3, 4, 5]), (9, [1, 3, 4, 5, 77]), (10, [2]), (11, [1, 3, 4, 5, 6]), (12, [1, 3, 4, 5, 6, 82]), (13, [1, 3, 4, 5, 6]), (14, [1, 3, 4, 5, 6, 7]), (15, [1, 3, 4, 5, 6, 7, 87]), (16, [1, 3, 4, 5, 6, 7]), (17, [1, 3, 4, 5, 6, 114]), (18, [2]), (19, [2]), (1000012, [1, 3, 4, 5, 6]), (2015005, []), (3000001, []), (3000003, []), (3000009, []), (3000017, [])]
noncomputable def R16_Is_J0_0 (p0 : api_Val) (o1 : Bool) : St := ⟨[(1, .ptr 0 0), (15, .p (bV o1))], ⟨[[.p (iV p0.K), .p (sV p0.S), .p (iV p0.N), .p (bV p0.B), .p (.sl false (p0.L.map c_api_Val))]], []⟩⟩
noncomputable def R16_Is_J1_0 (p0 : api_Val) (o2 : Bool) : St := ⟨[(1, .ptr 0 0), (42, .p (bV o2))], ⟨[[.p (iV p0.K), .p (sV p0.S), .p (iV p0.N), .p (bV p0.B), .p (.sl false (p0.L.map c_api_Val))]], []⟩⟩
noncomputable def R16_Is_J2_0 (p0 : api_Val) (x4 : Int × Bool) (x5 : (List (List UInt8))) (o6 : Bool) : St := ⟨[(1, .ptr 0 0), (3, .p (iV x4.1)), (4, .p (bV x4.2)), (5, .p (.sl false (x5.map cStr))), (77, .p (bV o6))], ⟨[[.p (iV p0.K), .p (sV p0.S), .p (iV p0.N), .p (bV p0.B), .p (.sl false (p0.L.map c_api_Val))]], []⟩⟩
noncomputable def R16_Is_J3_0 (p0 : api_Val) (x4 : Int × Bool) (x5 : (List (List UInt8))) (v6 : Int) (o10 : Int) : St := ⟨[(1, .ptr 0 0), (3, .p (iV x4.1)), (4, .p (bV x4.2)), (5, .p (.sl false (x5.map cStr))), (6, .p (iV v6)), (7, .p (iV o10))], ⟨[[.p (iV p0.K), .p (sV p0.S), .p (iV p0.N), .p (bV p0.B), .p (.sl false (p0.L.map c_api_Val))]], []⟩⟩
noncomputable def R16_Is_J4_0 (p0 : api_Val) (x4 : Int × Bool) (x5 : (List (List UInt8))) (v6 : Int) (o13 : Bool) : St := ⟨[(1, .ptr 0 0), (3, .p (iV x4.1)), (4, .p (bV x4.2)), (5, .p (.sl false (x5.map cStr))), (6, .p (iV v6)), (114, .p (bV o13))], ⟨[[.p (iV p0.K), .p (sV p0.S), .p (iV p0.N), .p (bV p0.B), .p (.sl false (p0.L.map c_api_Val))]], []⟩⟩
noncomputable def R16_Is_L1_st (p0 : api_Val) (x4 : Int × Bool) (x5 : (List (List UInt8))) (v6 : Int) : St := ⟨[(1, .ptr 0 0), (3, .p (iV x4.1)), (4, .p (bV x4.2)), (5, .p (.sl false (x5.map cStr))), (6, .p (iV v6))], ⟨[[.p (iV p0.K), .p (sV p0.S), .p (iV p0.N), .p (bV p0.B), .p (.sl false (p0.L.map c_api_Val))]], []⟩⟩
noncomputable def R16_Is_L1_x0 (p0 : api_Val) (x4 : Int × Bool) (x5 : (List (List UInt8))) (y8 : Unit) : St := ⟨[], ⟨[[.p (iV p0.K), .p (sV p0.S), .p (iV p0.N), .p (bV p0.B), .p (.sl false (p0.L.map c_api_Val))]], []⟩⟩
noncomputable def R16_Is_L1_x1 (p0 : api_Val) (x4 : Int × Bool) (x5 : (List (List UInt8))) (y9 : Unit) : St := ⟨[(2, .p (bV false))], ⟨[[.p (iV p0.K), .p (sV p0.S), .p (iV p0.N), .p (bV p0.B), .p (.sl false (p0.L.map c_api_Val))]], []⟩⟩
noncomputable def R16_Is_L1_c : Code := ((loopsOf (Tryz.f11.body.getD .skip)).getD 0 .skip)
noncomputable def t_R16_Same (y : Bool) : D := .p (bV y)
noncomputable def R16_Same_lv : List (Nat × List Nat) := [(0, [2, 3]), (1, [2, 3, 40]), (2, [4]), (3, [2, 3, 5]), (4, [2, 3, 5, 45]), (5, [2, 3, 5]), (6, [2, 3, 5, 59]), (7, [4]), (8, [4]), (1000004, [2, 3, 5]), (3000001, [])]
noncomputable def R16_Same_J0_0 (p0 : api_Val) (p1 : api_Val) (o1 : Bool) : St := ⟨[(2, .ptr 0 0), (3, .ptr 1 0), (40, .p (bV o1))], ⟨[[.p (iV p0.K), .p (sV p0.S), .p (iV p0.N), .p (bV p0.B), .p (.sl false (p0.L.map c_api_Val))], [.p (iV p1.K), .p (sV p1.S), .p (iV p1.N), .p (bV p1.B), .p (.sl false (p1.L.map c_api_Val))]], []⟩⟩
noncomputable def R16_Same_L1_st (p0 : api_Val) (p1 : api_Val) (v5 : Int) : St := ⟨[(2, .ptr 0 0), (3, .ptr 1 0), (5, .p (iV v5))], ⟨[[.p (iV p0.K), .p (sV p0.S), .p (iV p0.N), .p (bV p0.B), .p (.sl false (p0.L.map c_api_Val))], [.p (iV p1.K), .p (sV p1.S), .p (iV p1.N), .p (bV p1.B), .p (.sl false (p1.L.map c_api_Val))]], []⟩⟩
noncomputable def R16_Same_L1_x0 (p0 : api_Val) (p1 : api_Val) (y3 : Unit) : St := ⟨[], ⟨[[.p (iV p0.K), .p (sV p0.S), .p (iV p0.N), .p (bV p0.B), .p (.sl false (p0.L.map c_api_Val))], [.p (iV p1.K), .p (sV p1.S), .p (iV p1.N), .p (bV p1.B), .p (.sl false (p1.L.map c_api_Val))]], []⟩⟩
noncomputable def R16_Same_L1_x1 (p0 : api_Val) (p1 : api_Val) (y4 : Unit) : St := ⟨[(4, .p (bV false))], ⟨[[.p (iV p0.K), .p (sV p0.S), .p (iV p0.N), .p (bV p0.B), .p (.sl false (p0.L.map c_api_Val))], [.p (iV p1.K), .p (sV p1.S), .p (iV p1.N), .p (bV p1.B), .p (.sl false (p1.L.map c_api_Val))]], []⟩⟩
noncomputable def R16_Same_L1_c : Code := ((loopsOf (Tryz.f9.body.getD .skip)).getD 0 .skip)
noncomputable def t_R16_Text (y : api_Val) : D := .p (.agg [iV y.K, sV y.S, iV y.N, bV y.B, .sl false (y.L.map c_api_Val)])
noncomputable def R16_Text_lv : List (Nat × List Nat) := [(0, [0, 2]), (1, [2])]
noncomputable def t_R31_Call (y : api_Val × Int) : D := .tup [.p (.agg [iV y.1.K, sV y.1.S, iV y.1.N, bV y.1.B, .sl false (y.1.L.map c_api_Val)]), .p (iV y.2)]
noncomputable def R31_Call_lv : List (Nat × List Nat) := [(0, [0, 1, 4]), (1, [0, 1, 4, 6]), (2, [0, 1, 4, 6, 7]), (3, [0, 1, 4, 6, 7, 17]), (4, [0, 1, 4, 6, 7]), (5, [0, 1, 4, 6, 7, 25]), (6, [4, 5]), (7, [0, 1, 4, 6, 7]), (8, [0, 1, 4, 8, 9]), (9, [0, 1, 4, 8, 42]), (10, [4, 5]), (11, [0, 1, 4, 8, 44]), (12, [0, 1, 4, 8, 44, 45]), (13, [4, 10]), (14, [4, 10, 52]), (15, [4, 5]), (16, [4, 5]), (17, [0, 1, 4, 8, 44, 56]), (18, [4, 5]), (19, [0, 1, 4, 8, 63]), (20, [4, 5]), (21, [1, 4, 11]), (22, [1, 4, 11, 12]), (23, [1, 4, 11, 12, 77]), (24, [1, 4, 11, 12]), (25, [1, 4, 11, 12]), (26, [4, 5]), (1000003, [0, 1, 4, 6, 7]), (1000023, [1, 4, 11, 12])]
noncomputable def R31_Call_L1_st (p0 : (List UInt8)) (p1 : (List api_Val)) (v6 : (List Int)) (v7 : Int) : St := ⟨[(0, .p (sV p0)), (1, .p (.sl false (p1.map c_api_Val))), (4, .ptr 0 0), (6, .own 0 24 1 (v6.map cInt)), (7, .p (iV v7))], ⟨[[.p (iV 0), .p (sV []), .p (iV 0), .p (bV false), .p (.sl true [])]], [(v6.map cInt).length]⟩⟩
noncomputable def R31_Call_L1_x0 (p0 : (List UInt8)) (p1 : (List api_Val)) (y2 : (List Int)) : St := ⟨[(0, .p (sV p0)), (1, .p (.sl false (p1.map c_api_Val))), (4, .ptr 0 0), (6, .own 0 24 1 (y2.map cInt))], ⟨[[.p (iV 0), .p (sV []), .p (iV 0), .p (bV false), .p (.sl true [])]], [(y2.map cInt).length]⟩⟩
noncomputable def R31_Call_L1_x1 (p0 : (List UInt8)) (p1 : (List api_Val)) (y3 : Unit) : St := ⟨[(4, .ptr 0 0), (5, .p (iV 201))], ⟨[[.p (iV 0), .p (sV []), .p (iV 0), .p (bV false), .p (.sl true [])]], []⟩⟩
noncomputable def R31_Call_L1_c : Code := ((loopsOf (Tryz.f8.body.getD .skip)).getD 0 .skip)
noncomputable def R31_Call_L2_st (p1 : (List api_Val)) (y2 : (List Int)) (v12 : Int) (h1_4 : (List api_Val)) : St := ⟨[(1, .p (.sl false (p1.map c_api_Val))), (4, .ptr 0 0), (11, .ptr 1 0), (12, .p (iV v12))], ⟨[[.p (iV 0), .p (sV []), .p (iV 0), .p (bV false), .p (.sl true [])], [.p (iV 7), .p (sV []), .p (iV 0), .p (bV false), .own 1 26 5 (h1_4.map c_api_Val)]], [(y2.map cInt).length, (h1_4.map c_api_Val).length]⟩⟩
noncomputable def R31_Call_L2_x0 (p1 : (List api_Val)) (y2 : (List Int)) (o13 : (List api_Val)) : St := ⟨[(4, .ptr 0 0), (11, .ptr 1 0)], ⟨[[.p (iV 0), .p (sV []), .p (iV 0), .p (bV false), .p (.sl true [])], [.p (iV 7), .p (sV []), .p (iV 0), .p (bV false), .own 1 26 5 (o13.map c_api_Val)]], [(y2.map cInt).length, (o13.map c_api_Val).length]⟩⟩
noncomputable def R31_Call_L2_c : Code := ((loopsOf (Tryz.f8.body.getD .skip)).getD 1 .skip)
noncomputable def t_R31_add (y : Int) : D := .p (iV y)
noncomputable def R31_add_lv : List (Nat × List Nat) := [(0, [0, 1]), (1, [0, 1, 5, 6]), (2, [0, 1, 5, 6, 15]), (3, [4]), (4, [0, 1, 5, 25]), (5, [4]), (6, [4]), (3000002, []), (3000004, [])]
noncomputable def R31_add_J0_0 (p0 : Int) (p1 : Int) (o1 : Bool) : St := ⟨[(0, .p (iV p0)), (1, .p (iV p1)), (5, .p (iV (-9223372036854775808))), (6, .p (iV 9223372036854775807)), (15, .p (bV o1))], ⟨[], []⟩⟩
noncomputable def R31_add_J1_0 (p0 : Int) (p1 : Int) (o2 : Bool) : St := ⟨[(0, .p (iV p0)), (1, .p (iV p1)), (5, .p (iV (-9223372036854775808))), (25, .p (bV o2))], ⟨[], []⟩⟩
noncomputable def t_R31_gap (y : Bool) : D := .p (bV y)
noncomputable def R31_gap_lv : List (Nat × List Nat) := [(0, [0]), (1, [2]), (3000001, [])]
noncomputable def R31_gap_J0_0  (o1 : Bool) : St := ⟨[(2, .p (bV o1))], ⟨[], []⟩⟩
noncomputable def t_R31_letters (y : (List UInt8)) : D := .p (sV y)
noncomputable def R31_letters_lv : List (Nat × List Nat) := [(0, [0, 1, 2, 3]), (1, [0, 1, 2, 3, 9]), (2, [0, 1, 2, 3, 9, 10]), (3, [0, 1, 2, 3, 9, 10, 16]), (4, [0, 1, 2, 3, 9, 10]), (5, [0, 1, 2, 3, 9, 10, 11]), (6, [0, 1, 2, 3, 9, 10, 11, 29]), (7, [0, 1, 2, 3, 9, 10, 11]), (8, [0, 1, 2, 3, 9, 10]), (9, [8]), (1000003, [0, 1, 2, 3, 9, 10]), (2006005, []), (3000006, [])]
noncomputable def R31_letters_J0_0 (p0 : (List UInt8)) (p1 : Int) (p2 : Int) (p3 : Int) (v9 : (List Int)) (v10 : Int) (o3 : Int) : St := ⟨[(0, .p (sV p0)), (1, .p (nV .u8 p1)), (2, .p (nV .u8 p2)), (3, .p (iV p3)), (9, .own 0 5 1 (v9.map (cNum .u8))), (10, .p (iV v10)), (11, .p (nV .u8 o3))], ⟨[], [(v9.map (cNum .u8)).length]⟩⟩
noncomputable def R31_letters_J1_0 (p0 : (List UInt8)) (p1 : Int) (p2 : Int) (p3 : Int) (v9 : (List Int)) (v10 : Int) (x2 : UInt8) (o4 : Bool) : St := ⟨[(0, .p (sV p0)), (1, .p (nV .u8 p1)), (2, .p (nV .u8 p2)), (3, .p (iV p3)), (9, .own 0 5 1 (v9.map (cNum .u8))), (10, .p (iV v10)), (11, .p (nV .u8 (x2.toNat : Int))), (29, .p (bV o4))], ⟨[], [(v9.map (cNum .u8)).length]⟩⟩
noncomputable def R31_letters_L1_st (p0 : (List UInt8)) (p1 : Int) (p2 : Int) (p3 : Int) (v9 : (List Int)) (v10 : Int) : St := ⟨[(0, .p (sV p0)), (1, .p (nV .u8 p1)), (2, .p (nV .u8 p2)), (3, .p (iV p3)), (9, .own 0 5 1 (v9.map (cNum .u8))), (10, .p (iV v10))], ⟨[], [(v9.map (cNum .u8)).length]⟩⟩
noncomputable def R31_letters_L1_x0 (p0 : (List UInt8)) (p1 : Int) (p2 : Int) (p3 : Int) (o1 : (List Int)) : St := ⟨[(9, .own 0 5 1 (o1.map (cNum .u8)))], ⟨[], [(o1.map (cNum .u8)).length]⟩⟩
noncomputable def R31_letters_L1_c : Code := ((loopsOf (Tryz.f49.body.getD .skip)).getD 0 .skip)
noncomputable def t_R31_number (y : Int) : D := .p (iV y)
noncomputable def R31_number_lv : List (Nat × List Nat) := [(0, [0, 1]), (1, [1, 5]), (2, [1, 5, 6]), (3, [4]), (4, [1, 5, 14]), (5, [4]), (6, [1, 21]), (7, [4]), (8, [4])]
noncomputable def t_R31_replace (y : (List UInt8)) : D := .p (sV y)
noncomputable def R31_replace_lv : List (Nat × List Nat) := [(0, [0, 1, 2]), (1, [0, 1, 2, 10]), (2, [6]), (3, [0, 1, 2, 7]), (4, [0, 1, 2, 7, 8]), (5, [0, 1, 2, 7, 8, 15]), (6, [0, 1, 2, 7, 8, 19]), (7, [0, 1, 2, 7, 8]), (8, [0, 1, 2, 7, 8]), (9, [0, 1, 2, 7, 8]), (10, [0, 1, 2, 7, 8]), (11, [6]), (1000005, [0, 1, 2, 7, 8])]
noncomputable def R31_replace_L1_st (p0 : (List UInt8)) (p1 : (List UInt8)) (p2 : (List UInt8)) (v7 : (List UInt8)) (v8 : Int) : St := ⟨[(0, .p (sV p0)), (1, .p (sV p1)), (2, .p (sV p2)), (7, .p (sV v7)), (8, .p (iV v8))], ⟨[], []⟩⟩
noncomputable def R31_replace_L1_x0 (p0 : (List UInt8)) (p1 : (List UInt8)) (p2 : (List UInt8)) (o1 : (List UInt8)) : St := ⟨[(7, .p (sV o1))], ⟨[], []⟩⟩
noncomputable def R31_replace_L1_c : Code := ((loopsOf (Tryz.f53.body.getD .skip)).getD 0 .skip)
noncomputable def t_R31_steps (y : (List (List UInt8))) : D := .p (.sl false (y.map cStr))
noncomputable def R31_steps_lv : List (Nat × List Nat) := [(0, [0]), (1, [0, 3]), (2, [0, 3, 4]), (3, [0, 3, 4, 11]), (4, [0, 3, 4, 6]), (5, [0, 3, 4, 6]), (6, [0, 3, 4]), (7, [2]), (1000003, [0, 3, 4])]
noncomputable def R31_steps_L1_st (p0 : (List UInt8)) (v3 : (List (List UInt8))) (v4 : Int) : St := ⟨[(0, .p (sV p0)), (3, .own 0 9 1 (v3.map cStr)), (4, .p (iV v4))], ⟨[], [(v3.map cStr).length]⟩⟩
noncomputable def R31_steps_L1_x0 (p0 : (List UInt8)) (o1 : (List (List UInt8))) : St := ⟨[(3, .own 0 9 1 (o1.map cStr))], ⟨[], [(o1.map cStr).length]⟩⟩
noncomputable def R31_steps_L1_c : Code := ((loopsOf (Tryz.f51.body.getD .skip)).getD 0 .skip)
noncomputable def t_R31_sub (y : Int) : D := .p (iV y)
noncomputable def R31_sub_lv : List (Nat × List Nat) := [(0, [0, 1]), (1, [0, 1, 5, 6]), (2, [0, 1, 5, 6, 15]), (3, [4]), (4, [0, 1, 5, 25]), (5, [4]), (6, [4]), (3000002, []), (3000004, [])]
noncomputable def R31_sub_J0_0 (p0 : Int) (p1 : Int) (o1 : Bool) : St := ⟨[(0, .p (iV p0)), (1, .p (iV p1)), (5, .p (iV (-9223372036854775808))), (6, .p (iV 9223372036854775807)), (15, .p (bV o1))], ⟨[], []⟩⟩
noncomputable def R31_sub_J1_0 (p0 : Int) (p1 : Int) (o2 : Bool) : St := ⟨[(0, .p (iV p0)), (1, .p (iV p1)), (5, .p (iV (-9223372036854775808))), (25, .p (bV o2))], ⟨[], []⟩⟩
noncomputable def t_R31_text (y : (List UInt8)) : D := .p (sV y)
noncomputable def R31_text_lv : List (Nat × List Nat) := [(0, [0, 1]), (1, [0, 1, 5]), (2, [1, 5, 16]), (3, [1, 5, 16, 17]), (4, [4]), (5, [1, 5, 16, 21]), (6, [4]), (7, [1, 5, 16, 25]), (8, [5, 34]), (9, [5]), (10, [5, 47]), (11, [5]), (12, [4]), (13, [1, 5, 16, 54]), (14, [1, 6]), (15, [4]), (16, [1, 5, 16, 69]), (17, [1, 7]), (18, [4]), (19, [1, 5, 16, 87]), (20, [1, 5, 90]), (21, [4]), (22, [4]), (23, [1, 5, 16, 96]), (24, [4]), (25, [1, 5, 16, 104]), (26, [4]), (27, [1, 16, 116]), (28, [1, 8]), (29, [1, 8, 9]), (30, [1, 8, 9, 125]), (31, [1, 8, 9]), (32, [1, 8, 9]), (33, [4]), (34, [1, 145]), (35, [10]), (36, [4]), (37, [1, 163]), (38, [4]), (39, [172]), (40, [4]), (41, [4]), (1000008, [5]), (1000010, [5]), (1000030, [1, 8, 9]), (3000008, []), (3000010, [])]
noncomputable def R31_text_J0_0 (v5 : (List UInt8)) (o5 : Bool) : St := ⟨[(5, .p (sV v5)), (34, .p (bV o5))], ⟨[], []⟩⟩
noncomputable def R31_text_L1_st  (v5 : (List UInt8)) : St := ⟨[(5, .p (sV v5))], ⟨[], []⟩⟩
noncomputable def R31_text_L1_x0  (o4 : (List UInt8)) : St := ⟨[(5, .p (sV o4))], ⟨[], []⟩⟩
noncomputable def R31_text_L1_c : Code := ((loopsOf (Tryz.f21.body.getD .skip)).getD 0 .skip)
noncomputable def R31_text_J1_0 (v5 : (List UInt8)) (o10 : Bool) : St := ⟨[(5, .p (sV v5)), (47, .p (bV o10))], ⟨[], []⟩⟩
noncomputable def R31_text_L2_st  (v5 : (List UInt8)) : St := ⟨[(5, .p (sV v5))], ⟨[], []⟩⟩
noncomputable def R31_text_L2_x0  (o9 : (List UInt8)) : St := ⟨[(5, .p (sV o9))], ⟨[], []⟩⟩
noncomputable def R31_text_L2_c : Code := ((loopsOf (Tryz.f21.body.getD .skip)).getD 1 .skip)
noncomputable def R31_text_L3_st (p1 : (List api_Val)) (v8 : (List (List UInt8))) (v9 : Int) : St := ⟨[(1, .p (.sl false (p1.map c_api_Val))), (8, .own 0 9 1 (v8.map cStr)), (9, .p (iV v9))], ⟨[], [(v8.map cStr).length]⟩⟩
noncomputable def R31_text_L3_x0 (p1 : (List api_Val)) (o27 : (List (List UInt8))) : St := ⟨[(1, .p (.sl false (p1.map c_api_Val))), (8, .own 0 9 1 (o27.map cStr))], ⟨[], [(o27.map cStr).length]⟩⟩
noncomputable def R31_text_L3_c : Code := ((loopsOf (Tryz.f21.body.getD .skip)).getD 2 .skip)
noncomputable def t_R31_truth (y : Bool) : D := .p (bV y)
noncomputable def R31_truth_lv : List (Nat × List Nat) := [(0, [0, 1]), (1, [1, 7]), (2, [1, 7, 8]), (3, [6]), (4, [4]), (5, [1, 7, 22]), (6, [4]), (7, [1, 7, 33]), (8, [4]), (9, [1, 7, 42]), (10, [4]), (11, [1, 54]), (12, [4]), (13, [4]), (3000010, []), (3000012, [])]
noncomputable def R31_truth_J0_0  (o9 : Bool) : St := ⟨[(4, .p (bV o9))], ⟨[], []⟩⟩
noncomputable def R31_truth_J1_0  (o12 : Bool) : St := ⟨[(4, .p (bV o12))], ⟨[], []⟩⟩
noncomputable def t_built_Call (y : api_Val × Int) : D := .tup [.p (.agg [iV y.1.K, sV y.1.S, iV y.1.N, bV y.1.B, .sl false (y.1.L.map c_api_Val)]), .p (iV y.2)]
noncomputable def built_Call_lv : List (Nat × List Nat) := [(0, [0, 1, 4]), (1, [0, 1, 4, 6]), (2, [0, 1, 4, 6, 11, 12, 13]), (3, [0, 1, 4, 6, 11, 12, 13, 14]), (4, [0, 1, 4, 6, 8, 11, 12, 13]), (5, [0, 1, 4, 6, 11, 12, 13]), (6, [0, 1, 4, 6, 11, 12, 13]), (7, [0, 1, 4, 10]), (8, [0, 1, 4, 34]), (9, [4, 5]), (10, [4, 5]), (1000003, [0, 1, 4, 6, 11, 12, 13]), (3000008, [])]
noncomputable def built_Call_L1_st (p0 : (List UInt8)) (p1 : (List api_Val)) (v6 : (List Int)) (v13 : Int) : St := ⟨[(0, .p (sV p0)), (1, .p (.sl false (p1.map c_api_Val))), (4, .ptr 0 0), (6, .own 0 24 1 (v6.map cInt)), (11, .p (.sl false (p1.map c_api_Val))), (12, .p (iV (p1.length : Int))), (13, .p (iV v13))], ⟨[[.p (iV 0), .p (sV []), .p (iV 0), .p (bV false), .p (.sl true [])]], [(v6.map cInt).length]⟩⟩
noncomputable def built_Call_L1_x0 (p0 : (List UInt8)) (p1 : (List api_Val)) (o1 : (List Int)) : St := ⟨[(0, .p (sV p0)), (1, .p (.sl false (p1.map c_api_Val))), (4, .ptr 0 0), (6, .own 0 24 1 (o1.map cInt))], ⟨[[.p (iV 0), .p (sV []), .p (iV 0), .p (bV false), .p (.sl true [])]], [(o1.map cInt).length]⟩⟩
noncomputable def built_Call_L1_c : Code := ((loopsOf (Tryz.f7.body.getD .skip)).getD 0 .skip)
noncomputable def built_Call_J0_0 (p0 : (List UInt8)) (p1 : (List api_Val)) (o1 : (List Int)) (o5 : Bool) : St := ⟨[(0, .p (sV p0)), (1, .p (.sl false (p1.map c_api_Val))), (4, .ptr 0 0), (34, .p (bV o5))], ⟨[[.p (iV 0), .p (sV []), .p (iV 0), .p (bV false), .p (.sl true [])]], [(o1.map cInt).length]⟩⟩
noncomputable def t_built_Call_1 (y : Bool) : D := .p (bV y)
noncomputable def built_Call_1_lv : List (Nat × List Nat) := [(0, [1]), (1, [2])]
noncomputable def t_built_add (y : Int) : D := .p (iV y)
noncomputable def built_add_lv : List (Nat × List Nat) := [(0, [0, 1]), (1, [4])]
noncomputable def t_built_cut (y : Int) : D := .p (iV y)
noncomputable def built_cut_lv : List (Nat × List Nat) := [(0, [0, 3, 6]), (1, [0, 3, 5, 6]), (2, [3, 5, 6, 8]), (3, [3, 5, 6, 8]), (4, [3, 5, 6, 8]), (5, [3, 5, 6, 8, 13]), (6, [3, 5, 6, 8]), (7, [4]), (4000003, [3, 5, 6, 8])]
noncomputable def built_cut_L1_st (x1 : (List UInt8)) (h0_0 : Int) (h1_0 : Int) : St := ⟨[(3, .ptr 0 0), (5, .ptr 1 0), (8, .fn (.func 101) [] [.p (.ep [sV x1])])], ⟨[[.p (iV h0_0)], [.p (iV h1_0)]], []⟩⟩
noncomputable def built_cut_L1_x0 (x1 : (List UInt8)) (y7 : Int × Int) : St := ⟨[(3, .ptr 0 0), (5, .ptr 1 0), (8, .fn (.func 101) [] [.p (.ep [sV x1])])], ⟨[[.p (iV y7.1)], [.p (iV y7.2)]], []⟩⟩
noncomputable def built_cut_L1_x1 (x1 : (List UInt8)) (y8 : Int × Int) : St := ⟨[(5, .ptr 1 0)], ⟨[[.p (iV y8.1)], [.p (iV y8.2)]], []⟩⟩
noncomputable def built_cut_L1_c : Code := ((loopsOf (Tryz.f67.body.getD .skip)).getD 0 .skip)
noncomputable def t_built_do (y : api_Val × Int) : D := .tup [.p (.agg [iV y.1.K, sV y.1.S, iV y.1.N, bV y.1.B, .sl false (y.1.L.map c_api_Val)]), .p (iV y.2)]
noncomputable def built_do_lv : List (Nat × List Nat) := [(0, [0, 1, 4]), (1, [0, 1, 4, 11]), (2, [0, 1, 4, 11, 12]), (3, [4, 5]), (4, [0, 1, 4, 11, 20]), (5, [4, 5]), (6, [0, 1, 4, 11, 33]), (7, [1, 4, 6]), (8, [4, 6, 39, 40, 41]), (9, [4, 6, 39, 40, 41, 42]), (10, [4, 6, 8, 39, 40, 41]), (11, [4, 6, 39, 40, 41]), (12, [4, 6, 39, 40, 41]), (13, [4, 5]), (14, [0, 1, 4, 11, 58]), (15, [4, 10]), (16, [4, 5]), (17, [0, 1, 4, 11, 73]), (18, [4, 5]), (19, [0, 1, 4, 11, 81]), (20, [1, 4, 87]), (21, [4, 5]), (22, [4, 97]), (23, [4, 5]), (24, [4, 5]), (25, [0, 1, 4, 11, 100]), (26, [4, 5]), (27, [0, 1, 4, 11, 112]), (28, [4, 5]), (29, [0, 1, 4, 11, 124]), (30, [4, 5]), (31, [0, 1, 4, 11, 136]), (32, [4, 5]), (33, [0, 1, 4, 11, 146]), (34, [4, 5]), (35, [0, 1, 4, 11, 159]), (36, [4, 5]), (37, [0, 1, 4, 172]), (38, [4, 5]), (39, [4, 5]), (1000009, [4, 6, 39, 40, 41]), (3000034, []), (3000036, [])]
noncomputable def built_do_L1_st (x7 : api_Val) (v41 : Int) (h1_4 : (List api_Val)) : St := ⟨[(4, .ptr 0 0), (6, .ptr 1 0), (39, .p (.sl false (x7.L.map c_api_Val))), (40, .p (iV (x7.L.length : Int))), (41, .p (iV v41))], ⟨[[.p (iV 0), .p (sV []), .p (iV 0), .p (bV false), .p (.sl true [])], [.p (iV 7), .p (sV []), .p (iV 0), .p (bV false), .own 0 26 5 (h1_4.map c_api_Val)]], [(h1_4.map c_api_Val).length]⟩⟩
noncomputable def built_do_L1_x0 (x7 : api_Val) (o8 : (List api_Val)) : St := ⟨[(4, .ptr 0 0), (6, .ptr 1 0)], ⟨[[.p (iV 0), .p (sV []), .p (iV 0), .p (bV false), .p (.sl true [])], [.p (iV 7), .p (sV []), .p (iV 0), .p (bV false), .own 0 26 5 (o8.map c_api_Val)]], [(o8.map c_api_Val).length]⟩⟩
noncomputable def built_do_L1_c : Code := ((loopsOf (Tryz.f20.body.getD .skip)).getD 0 .skip)
noncomputable def built_do_J0_0  (o41 : Int × (List UInt8) × Int × Bool × (List api_Val)) : St := ⟨[(4, .ptr 0 0), (5, .p (iV 0))], ⟨[[.p (iV o41.1), .p (sV o41.2.1), .p (iV o41.2.2.1), .p (bV o41.2.2.2.1), .p (.sl false (o41.2.2.2.2.map c_api_Val))]], []⟩⟩
noncomputable def built_do_J1_0  (o46 : Int × (List UInt8) × Int × Bool × (List api_Val)) : St := ⟨[(4, .ptr 0 0), (5, .p (iV 0))], ⟨[[.p (iV o46.1), .p (sV o46.2.1), .p (iV o46.2.2.1), .p (bV o46.2.2.2.1), .p (.sl false (o46.2.2.2.2.map c_api_Val))]], []⟩⟩
noncomputable def t_built_join (y : api_Val × Int) : D := .tup [.p (.agg [iV y.1.K, sV y.1.S, iV y.1.N, bV y.1.B, .sl false (y.1.L.map c_api_Val)]), .p (iV y.2)]
noncomputable def built_join_lv : List (Nat × List Nat) := [(0, [0, 3, 4]), (1, [0, 3, 4, 6]), (2, [0, 3, 4, 6, 7]), (3, [3, 4, 6, 7, 17, 18, 19]), (4, [3, 4, 6, 7, 17, 18, 19, 20]), (5, [3, 4, 6, 7, 9, 17, 18, 19]), (6, [3, 4, 6, 7, 9, 17, 18, 19]), (7, [3, 4, 6, 7, 17, 18, 19]), (8, [3, 4, 6, 7, 17, 18, 19]), (9, [4, 5]), (1000004, [3, 4, 6, 7, 17, 18, 19])]
noncomputable def built_join_L1_st (p0 : (List api_Val)) (p1 : (List UInt8)) (v7 : Int) (v19 : Int) (h2_0 : (List (List UInt8))) : St := ⟨[(3, .ptr 0 0), (4, .ptr 1 0), (6, .ptr 2 0), (7, .p (iV v7)), (17, .p (.sl false (p0.map c_api_Val))), (18, .p (iV (p0.length : Int))), (19, .p (iV v19))], ⟨[[.p (sV p1)], [.p (iV 0), .p (sV []), .p (iV 0), .p (bV false), .p (.sl true [])], [.own 0 9 1 (h2_0.map cStr)]], [(h2_0.map cStr).length]⟩⟩
noncomputable def built_join_L1_x0 (p0 : (List api_Val)) (p1 : (List UInt8)) (o1 : Int × (List (List UInt8))) : St := ⟨[(3, .ptr 0 0), (4, .ptr 1 0), (6, .ptr 2 0), (7, .p (iV o1.1))], ⟨[[.p (sV p1)], [.p (iV 0), .p (sV []), .p (iV 0), .p (bV false), .p (.sl true [])], [.own 0 9 1 (o1.2.map cStr)]], [(o1.2.map cStr).length]⟩⟩
noncomputable def built_join_L1_c : Code := ((loopsOf (Tryz.f40.body.getD .skip)).getD 0 .skip)
noncomputable def t_built_join_1 (y : (List UInt8)) : D := .p (sV y)
noncomputable def built_join_1_lv : List (Nat × List Nat) := [(0, [0, 1]), (1, [2])]
noncomputable def t_built_long_built_join_1 (y : api_Val × Int) : D := .tup [.p (.agg [iV y.1.K, sV y.1.S, iV y.1.N, bV y.1.B, .sl false (y.1.L.map c_api_Val)]), .p (iV y.2)]
noncomputable def built_long_built_join_1_lv : List (Nat × List Nat) := [(0, [0, 1, 4]), (1, [1, 4, 7]), (2, [4, 5]), (3, [4, 5])]
noncomputable def t_built_long_built_text_1 (y : api_Val × Int) : D := .tup [.p (.agg [iV y.1.K, sV y.1.S, iV y.1.N, bV y.1.B, .sl false (y.1.L.map c_api_Val)]), .p (iV y.2)]
noncomputable def built_long_built_text_1_lv : List (Nat × List Nat) := [(0, [0, 1, 4]), (1, [1, 4, 7]), (2, [4, 5]), (3, [4, 5])]
noncomputable def t_built_long_built_text_2 (y : api_Val × Int) : D := .tup [.p (.agg [iV y.1.K, sV y.1.S, iV y.1.N, bV y.1.B, .sl false (y.1.L.map c_api_Val)]), .p (iV y.2)]
noncomputable def built_long_built_text_2_lv : List (Nat × List Nat) := [(0, [0, 1, 4]), (1, [1, 4, 7]), (2, [4, 5]), (3, [4, 5])]
noncomputable def t_built_long_built_text_3 (y : api_Val × Int) : D := .tup [.p (.agg [iV y.1.K, sV y.1.S, iV y.1.N, bV y.1.B, .sl false (y.1.L.map c_api_Val)]), .p (iV y.2)]
noncomputable def built_long_built_text_3_lv : List (Nat × List Nat) := [(0, [0, 1, 4]), (1, [1, 4, 7]), (2, [4, 5]), (3, [4, 5])]
noncomputable def t_built_steps (y : (List UInt8)) : D := .fn (.func 101) [] [.p (.ep [sV y])]
noncomputable def built_steps_lv : List (Nat × List Nat) := [(0, [1]), (1, [2])]
noncomputable def e_built_steps_1 (y : Int) : List V := [iV y]
noncomputable def built_steps_1_lv : List (Nat × List Nat) := [(0, [0, 1, 3]), (1, [0, 1, 3, 9]), (2, [0, 1, 3, 5]), (3, [0, 1, 3]), (4, [0, 1, 3, 22]), (1000001, [0, 1, 3])]
noncomputable def built_steps_1_L1_st (p0 : (List UInt8)) (v3 : Int) (gxs gp : List (List V)) : St := ⟨[(0, .yld Tryz.prog 0 gxs), (1, .p (.ep [sV p0])), (3, .p (iV v3))], ⟨[], [gp.length]⟩⟩
noncomputable def built_steps_1_L1_x0 (p0 : (List UInt8)) (gxs : List (List V)) (gq1 : List (List V)) (oy : Unit) : St := ⟨[], ⟨[], [gq1.length]⟩⟩
noncomputable def built_steps_1_L1_c : Code := ((loopsOf (Tryz.f101.body.getD .skip)).getD 0 .skip)
noncomputable def t_built_sub (y : Int) : D := .p (iV y)
noncomputable def built_sub_lv : List (Nat × List Nat) := [(0, [0, 1]), (1, [0, 1, 6]), (2, [4]), (3, [4])]
noncomputable def t_built_text (y : api_Val × Int) : D := .tup [.p (.agg [iV y.1.K, sV y.1.S, iV y.1.N, bV y.1.B, .sl false (y.1.L.map c_api_Val)]), .p (iV y.2)]
noncomputable def built_text_lv : List (Nat × List Nat) := [(0, [0, 3, 4]), (1, [0, 3, 4, 6]), (2, [3, 4, 6, 14]), (3, [3, 4, 6, 14, 15]), (4, [4, 6]), (5, [3, 4, 6, 14, 19]), (6, [4, 6]), (7, [3, 4, 6, 14, 23]), (8, [4, 6]), (9, [3, 4, 6, 14, 27]), (10, [4, 6]), (11, [3, 4, 6, 14, 38]), (12, [4, 6]), (13, [3, 4, 6, 14, 55]), (14, [3, 4, 6, 58]), (15, [4, 6]), (16, [3, 4, 6, 14, 63]), (17, [4, 5]), (18, [3, 4, 6, 14, 77]), (19, [4, 6, 7, 8]), (20, [4, 6, 7, 8, 88]), (21, [4, 6, 7, 8, 9]), (22, [4, 5]), (23, [3, 4, 6, 106]), (24, [4, 6]), (25, [4, 5]), (2002058, []), (3000019, []), (6000019, [8, 9])]
noncomputable def built_text_J0_0 (p1 : (List api_Val)) (x1 : api_Val) (y3 : (List UInt8)) : St := ⟨[(4, .ptr 1 0), (6, .ptr 2 0)], ⟨[[.p (.sl false (p1.map c_api_Val))], [.p (iV 0), .p (sV []), .p (iV 0), .p (bV false), .p (.sl true [])], [.p (sV y3)]], []⟩⟩
noncomputable def built_text_J0_1 (p1 : (List api_Val)) (x1 : api_Val) (y4 : Int × Int × (List UInt8) × Int × Bool × (List api_Val)) : St := ⟨[(4, .ptr 1 0), (5, .p (iV y4.1))], ⟨[[.p (.sl false (p1.map c_api_Val))], [.p (iV y4.2.1), .p (sV y4.2.2.1), .p (iV y4.2.2.2.1), .p (bV y4.2.2.2.2.1), .p (.sl false (y4.2.2.2.2.2.map c_api_Val))], [.p (sV x1.S)]], []⟩⟩
noncomputable def built_text_J1_0 (p1 : (List api_Val)) (x1 : api_Val) (o19 : (List UInt8) × (List UInt8)) : St := ⟨[(4, .ptr 1 0), (6, .ptr 2 0), (7, .ptr 3 0), (8, .ptr 4 0)], ⟨[[.p (.sl false (p1.map c_api_Val))], [.p (iV 0), .p (sV []), .p (iV 0), .p (bV false), .p (.sl true [])], [.p (sV x1.S)], [.p (sV o19.1)], [.p (sV o19.2)]], []⟩⟩
noncomputable def t_built_text_1 (y : (List UInt8)) : D := .p (sV y)
noncomputable def built_text_1_lv : List (Nat × List Nat) := [(0, [0, 1]), (1, [2])]
noncomputable def t_built_text_2 (y : (List UInt8)) : D := .p (sV y)
noncomputable def built_text_2_lv : List (Nat × List Nat) := [(0, [0, 1, 2]), (1, [3])]
noncomputable def t_built_text_3 (y : (List UInt8)) : D := .p (sV y)
noncomputable def built_text_3_lv : List (Nat × List Nat) := [(0, [0]), (1, [1])]
noncomputable def t_built_turned (y : (List UInt8)) : D := .p (sV y)
noncomputable def t_built_within_int (y : Int) : D := .p (iV y)
noncomputable def built_within_int_lv : List (Nat × List Nat) := [(0, [0, 1, 2, 3]), (1, [0, 1, 2, 3, 9]), (2, [8]), (3, [0, 1, 2, 3, 9, 14]), (4, [8]), (5, [2, 9, 23]), (6, [8]), (3000003, []), (3000005, [])]
noncomputable def built_within_int_J0_0 (p0 : Int) (p1 : Int) (p2 : Int) (p3 : Int) (o1 : Bool) : St := ⟨[(0, .p (iV p0)), (1, .p (iV p1)), (2, .p (iV p2)), (3, .p (iV p3)), (9, .p (iV (wr (p0 + p1)))), (14, .p (bV o1))], ⟨[], []⟩⟩
noncomputable def built_within_int_J1_0 (p0 : Int) (p1 : Int) (p2 : Int) (o2 : Bool) : St := ⟨[(2, .p (iV p2)), (9, .p (iV (wr (p0 + p1)))), (23, .p (bV o2))], ⟨[], []⟩⟩
noncomputable def t_kind_Call (y : Int × Bool) : D := .tup [.p (iV y.1), .p (bV y.2)]
noncomputable def t_kind_Elem (y : Int × Bool) : D := .tup [.p (iV y.1), .p (bV y.2)]
noncomputable def kind_Elem_lv : List (Nat × List Nat) := [(0, [0]), (1, [4]), (2, [4, 5]), (3, [2, 3]), (4, [4, 7]), (5, [2, 3]), (6, [9]), (7, [2, 3]), (8, [2, 3])]
noncomputable def t_kind_Field (y : Int × Bool) : D := .tup [.p (iV y.1), .p (bV y.2)]
noncomputable def kind_Field_lv : List (Nat × List Nat) := [(0, [0, 1]), (1, [0, 1, 8, 9, 10]), (2, [0, 1, 8, 9, 10, 11]), (3, [0, 1, 7, 8, 9, 10]), (4, [0, 1, 7, 8, 9, 10, 23]), (5, [4, 5]), (6, [0, 1, 8, 9, 10]), (7, [4, 5]), (1000002, [0, 1, 8, 9, 10]), (3000004, [])]
noncomputable def kind_Field_J0_0 (p0 : Int) (p1 : (List UInt8)) (x1 : (List kind_field)) (v10 : Int) (x5 : kind_field) (o6 : Bool) : St := ⟨[(0, .p (iV p0)), (1, .p (sV p1)), (7, .ptr 0 0), (8, .p (.sl false (x1.map c_kind_field))), (9, .p (iV (x1.length : Int))), (10, .p (iV v10)), (23, .p (bV o6))], ⟨[[.p (iV x5.of_), .p (sV x5.name_), .p (iV x5.is_)]], []⟩⟩
noncomputable def kind_Field_L1_st (p0 : Int) (p1 : (List UInt8)) (x1 : (List kind_field)) (v10 : Int) : St := ⟨[(0, .p (iV p0)), (1, .p (sV p1)), (8, .p (.sl false (x1.map c_kind_field))), (9, .p (iV (x1.length : Int))), (10, .p (iV v10))], ⟨[], []⟩⟩
noncomputable def kind_Field_L1_x0 (p0 : Int) (p1 : (List UInt8)) (x1 : (List kind_field)) (y3 : Unit) : St := ⟨[], ⟨[], []⟩⟩
noncomputable def kind_Field_L1_x1 (p0 : Int) (p1 : (List UInt8)) (x1 : (List kind_field)) (y4 : Int) : St := ⟨[(4, .p (iV y4)), (5, .p (bV true))], ⟨[], []⟩⟩
noncomputable def kind_Field_L1_c : Code := ((loopsOf (Tryz.f37.body.getD .skip)).getD 0 .skip)
noncomputable def t_kind_Fields (y : (List (List UInt8))) : D := .p (.sl false (y.map cStr))
noncomputable def kind_Fields_lv : List (Nat × List Nat) := [(0, [0]), (1, [0, 3]), (2, [0, 3, 6, 7, 8]), (3, [0, 3, 6, 7, 8, 9]), (4, [0, 3, 5, 6, 7, 8]), (5, [0, 3, 5, 6, 7, 8, 15]), (6, [0, 3, 6, 7, 8]), (7, [0, 3, 6, 7, 8]), (8, [2]), (1000003, [0, 3, 6, 7, 8])]
noncomputable def kind_Fields_L1_st (p0 : Int) (x1 : (List kind_field)) (v3 : (List (List UInt8))) (v8 : Int) : St := ⟨[(0, .p (iV p0)), (3, .own 0 9 1 (v3.map cStr)), (6, .p (.sl false (x1.map c_kind_field))), (7, .p (iV (x1.length : Int))), (8, .p (iV v8))], ⟨[], [(v3.map cStr).length]⟩⟩
noncomputable def kind_Fields_L1_x0 (p0 : Int) (x1 : (List kind_field)) (o2 : (List (List UInt8))) : St := ⟨[(3, .own 0 9 1 (o2.map cStr))], ⟨[], [(o2.map cStr).length]⟩⟩
noncomputable def kind_Fields_L1_c : Code := ((loopsOf (Tryz.f36.body.getD .skip)).getD 0 .skip)
noncomputable def t_kind_Plain (y : Bool) : D := .p (bV y)
noncomputable def kind_Plain_lv : List (Nat × List Nat) := [(0, [0]), (1, [2]), (3000001, [])]
noncomputable def kind_Plain_J0_0  (o1 : Bool) : St := ⟨[(2, .p (bV o1))], ⟨[], []⟩⟩
noncomputable def t_kind_table (y : (List kind_field)) : D := .p (.sl false (y.map c_kind_field))
noncomputable def kind_table_lv : List (Nat × List Nat) := [(0, []), (1, [0])]
noncomputable def t_nunciolaw16_Light (y : api_Val) : D := .p (.agg [iV y.K, sV y.S, iV y.N, bV y.B, .sl false (y.L.map c_api_Val)])
noncomputable def nunciolaw16_Light_lv : List (Nat × List Nat) := [(0, [1, 2, 4]), (1, [1, 2, 4, 5]), (2, [1, 2, 4, 5, 6]), (3, [1, 2, 4, 5, 6, 33]), (4, [1, 2, 4, 5, 6]), (5, [1, 2, 4, 5, 6]), (6, [4]), (1000003, [1, 2, 4, 5, 6]), (3000003, [])]
noncomputable def nunciolaw16_Light_J0_0 (p0 : api_Val) (p1 : Int) (x1 : (List UInt8)) (v6 : Int) (h2_4 : (List api_Val)) (o3 : Bool) : St := ⟨[(1, .p (iV p1)), (2, .ptr 0 0), (4, .ptr 1 0), (5, .ptr 2 0), (6, .p (iV v6)), (33, .p (bV o3))], ⟨[[.p (iV p0.K), .p (sV p0.S), .p (iV p0.N), .p (bV p0.B), .p (.sl false (p0.L.map c_api_Val))], [.p (iV 0), .p (sV []), .p (iV 0), .p (bV false), .p (.sl true [])], [.p (iV p0.K), .p (sV x1), .p (iV p0.N), .p (bV p0.B), .own 0 26 5 (h2_4.map c_api_Val)]], [(h2_4.map c_api_Val).length]⟩⟩
noncomputable def nunciolaw16_Light_L1_st (p0 : api_Val) (p1 : Int) (x1 : (List UInt8)) (v6 : Int) (h2_4 : (List api_Val)) : St := ⟨[(1, .p (iV p1)), (2, .ptr 0 0), (4, .ptr 1 0), (5, .ptr 2 0), (6, .p (iV v6))], ⟨[[.p (iV p0.K), .p (sV p0.S), .p (iV p0.N), .p (bV p0.B), .p (.sl false (p0.L.map c_api_Val))], [.p (iV 0), .p (sV []), .p (iV 0), .p (bV false), .p (.sl true [])], [.p (iV p0.K), .p (sV x1), .p (iV p0.N), .p (bV p0.B), .own 0 26 5 (h2_4.map c_api_Val)]], [(h2_4.map c_api_Val).length]⟩⟩
noncomputable def nunciolaw16_Light_L1_x0 (p0 : api_Val) (p1 : Int) (x1 : (List UInt8)) (o2 : (List api_Val)) : St := ⟨[(4, .ptr 1 0), (5, .ptr 2 0)], ⟨[[.p (iV p0.K), .p (sV p0.S), .p (iV p0.N), .p (bV p0.B), .p (.sl false (p0.L.map c_api_Val))], [.p (iV 0), .p (sV []), .p (iV 0), .p (bV false), .p (.sl true [])], [.p (iV p0.K), .p (sV x1), .p (iV p0.N), .p (bV p0.B), .own 0 26 5 (o2.map c_api_Val)]], [(o2.map c_api_Val).length]⟩⟩
noncomputable def nunciolaw16_Light_L1_c : Code := ((loopsOf (Tryz.f6.body.getD .skip)).getD 0 .skip)
noncomputable def t_nunciolaw31_BuiltCalls (y : Bool) : D := .p (bV y)
noncomputable def nunciolaw31_BuiltCalls_lv : List (Nat × List Nat) := [(0, [0, 1]), (1, [0, 1, 5]), (2, [0, 1, 5, 6]), (3, [0, 1, 5, 6, 7]), (4, [0, 1, 5, 6, 7, 23]), (5, [0, 1, 5, 6, 7]), (6, [0, 1, 5, 6, 7]), (7, [0, 1, 5, 6, 7]), (8, [0, 5, 6, 8, 9]), (9, [0, 6, 8, 9, 10, 11]), (10, [0, 6, 8, 9, 62]), (11, [4]), (12, [8, 9, 12]), (13, [4]), (1000004, [0, 1, 5, 6, 7]), (3000004, []), (3000010, []), (3000013, [])]
noncomputable def nunciolaw31_BuiltCalls_J0_0 (p0 : (List UInt8)) (p1 : (List api_Val)) (v5 : (List api_Val)) (v6 : (List Int)) (v7 : Int) (o2 : Bool) : St := ⟨[(0, .p (sV p0)), (1, .p (.sl false (p1.map c_api_Val))), (5, .own 0 26 5 (v5.map c_api_Val)), (6, .own 1 24 1 (v6.map cInt)), (7, .p (iV v7)), (23, .p (bV o2))], ⟨[], [(v5.map c_api_Val).length, (v6.map cInt).length]⟩⟩
noncomputable def nunciolaw31_BuiltCalls_L1_st (p0 : (List UInt8)) (p1 : (List api_Val)) (v5 : (List api_Val)) (v6 : (List Int)) (v7 : Int) : St := ⟨[(0, .p (sV p0)), (1, .p (.sl false (p1.map c_api_Val))), (5, .own 0 26 5 (v5.map c_api_Val)), (6, .own 1 24 1 (v6.map cInt)), (7, .p (iV v7))], ⟨[], [(v5.map c_api_Val).length, (v6.map cInt).length]⟩⟩
noncomputable def nunciolaw31_BuiltCalls_L1_x0 (p0 : (List UInt8)) (p1 : (List api_Val)) (o1 : (List api_Val) × (List Int)) : St := ⟨[(0, .p (sV p0)), (5, .own 0 26 5 (o1.1.map c_api_Val)), (6, .own 1 24 1 (o1.2.map cInt))], ⟨[], [(o1.1.map c_api_Val).length, (o1.2.map cInt).length]⟩⟩
noncomputable def nunciolaw31_BuiltCalls_L1_c : Code := ((loopsOf (Tryz.f3.body.getD .skip)).getD 0 .skip)
noncomputable def nunciolaw31_BuiltCalls_J1_0 (p0 : (List UInt8)) (o1 : (List api_Val) × (List Int)) (x8 : api_Val × Int) (x9 : api_Val × Int) (o10 : Bool) : St := ⟨[(0, .p (sV p0)), (6, .own 1 24 1 (o1.2.map cInt)), (8, .ptr 0 0), (9, .p (iV x8.2)), (62, .p (bV o10))], ⟨[[.p (iV x8.1.K), .p (sV x8.1.S), .p (iV x8.1.N), .p (bV x8.1.B), .p (.sl false (x8.1.L.map c_api_Val))], [.p (iV x9.1.K), .p (sV x9.1.S), .p (iV x9.1.N), .p (bV x9.1.B), .p (.sl false (x9.1.L.map c_api_Val))]], [(o1.1.map c_api_Val).length, (o1.2.map cInt).length]⟩⟩
noncomputable def nunciolaw31_BuiltCalls_J2_0 (o1 : (List api_Val) × (List Int)) (x8 : api_Val × Int) (x9 : api_Val × Int) (o13 : Bool) : St := ⟨[(4, .p (bV o13))], ⟨[[.p (iV x8.1.K), .p (sV x8.1.S), .p (iV x8.1.N), .p (bV x8.1.B), .p (.sl false (x8.1.L.map c_api_Val))], [.p (iV x9.1.K), .p (sV x9.1.S), .p (iV x9.1.N), .p (bV x9.1.B), .p (.sl false (x9.1.L.map c_api_Val))]], [(o1.1.map c_api_Val).length, (o1.2.map cInt).length]⟩⟩
noncomputable def t_nunciolaw31_awake (y : Bool) : D := .p (bV y)
noncomputable def nunciolaw31_awake_lv : List (Nat × List Nat) := [(0, []), (1, [1, 2]), (2, [1, 2, 3, 4]), (3, [1, 2, 3, 4, 5, 6]), (4, [1, 2, 3, 4, 5, 6, 7, 8]), (5, [0]), (3000005, [])]
noncomputable def nunciolaw31_awake_J0_0 (x3 : api_Val × Int) (x7 : api_Val × Int) (x10 : api_Val × Int) (x12 : api_Val × Int) (o13 : Bool) : St := ⟨[(0, .p (bV o13))], ⟨[[.p (iV x3.1.K), .p (sV x3.1.S), .p (iV x3.1.N), .p (bV x3.1.B), .p (.sl false (x3.1.L.map c_api_Val))], [.p (iV x7.1.K), .p (sV x7.1.S), .p (iV x7.1.N), .p (bV x7.1.B), .p (.sl false (x7.1.L.map c_api_Val))], [.p (iV x10.1.K), .p (sV x10.1.S), .p (iV x10.1.N), .p (bV x10.1.B), .p (.sl false (x10.1.L.map c_api_Val))], [.p (iV x12.1.K), .p (sV x12.1.S), .p (iV x12.1.N), .p (bV x12.1.B), .p (.sl false (x12.1.L.map c_api_Val))]], []⟩⟩
noncomputable def t_nunciolaw31_number (y : api_Val) : D := .p (.agg [iV y.K, sV y.S, iV y.N, bV y.B, .sl false (y.L.map c_api_Val)])
noncomputable def nunciolaw31_number_lv : List (Nat × List Nat) := [(0, [0, 2]), (1, [2])]
noncomputable def t_octet_Join (y : (List UInt8)) : D := .p (sV y)
noncomputable def octet_Join_lv : List (Nat × List Nat) := [(0, [0, 1]), (1, [4])]
noncomputable def t_octet_Text (y : (List UInt8)) : D := .p (sV y)
noncomputable def t_schema_Find (y : (List UInt8) × Bool) : D := .tup [.p (sV y.1), .p (bV y.2)]
noncomputable def schema_Find_lv : List (Nat × List Nat) := [(0, [1, 2]), (1, [1, 2, 15]), (2, [4, 5]), (3, [1, 17, 18, 19]), (4, [1, 17, 18, 19, 20]), (5, [1, 7, 17, 18, 19]), (6, [1, 7, 17, 18, 19, 29]), (7, [4, 5]), (8, [1, 17, 18, 19]), (9, [4, 5]), (1000004, [1, 17, 18, 19]), (3000001, [])]
noncomputable def schema_Find_J0_0 (p0 : api_Val) (p1 : (List UInt8)) (o1 : Bool) : St := ⟨[(1, .p (sV p1)), (2, .ptr 0 0), (15, .p (bV o1))], ⟨[[.p (iV p0.K), .p (sV p0.S), .p (iV p0.N), .p (bV p0.B), .p (.sl false (p0.L.map c_api_Val))]], []⟩⟩
noncomputable def schema_Find_L1_st (p0 : api_Val) (p1 : (List UInt8)) (v19 : Int) : St := ⟨[(1, .p (sV p1)), (17, .p (.sl false (p0.L.map c_api_Val))), (18, .p (iV (p0.L.length : Int))), (19, .p (iV v19))], ⟨[[.p (iV p0.K), .p (sV p0.S), .p (iV p0.N), .p (bV p0.B), .p (.sl false (p0.L.map c_api_Val))]], []⟩⟩
noncomputable def schema_Find_L1_x0 (p0 : api_Val) (p1 : (List UInt8)) (y4 : Unit) : St := ⟨[], ⟨[[.p (iV p0.K), .p (sV p0.S), .p (iV p0.N), .p (bV p0.B), .p (.sl false (p0.L.map c_api_Val))]], []⟩⟩
noncomputable def schema_Find_L1_x1 (p0 : api_Val) (p1 : (List UInt8)) (y5 : (List UInt8)) : St := ⟨[(4, .p (sV y5)), (5, .p (bV true))], ⟨[[.p (iV p0.K), .p (sV p0.S), .p (iV p0.N), .p (bV p0.B), .p (.sl false (p0.L.map c_api_Val))]], []⟩⟩
noncomputable def schema_Find_L1_c : Code := ((loopsOf (Tryz.f42.body.getD .skip)).getD 0 .skip)
noncomputable def t_schema_Is (y : Bool) : D := .p (bV y)
noncomputable def schema_Is_lv : List (Nat × List Nat) := [(0, [1]), (1, [1, 3]), (2, [1, 3, 17]), (3, [1, 3, 17, 18]), (4, [1, 3]), (5, [1, 3, 17, 23]), (6, [1, 3]), (7, [1, 3, 28]), (8, [1, 3]), (9, [1, 51]), (10, [2]), (11, [1, 54]), (12, [2]), (13, [1, 4, 5]), (14, [1, 4, 65]), (15, [2]), (16, [1, 6]), (17, [1, 6, 90]), (18, [2]), (19, [1, 91, 92, 93]), (20, [1, 91, 92, 93, 94]), (21, [1, 7, 8, 91, 92, 93]), (22, [1, 7, 9, 91, 92, 93]), (23, [1, 91, 92, 93, 121]), (24, [2]), (25, [1, 91, 92, 93]), (26, [2]), (1000020, [1, 91, 92, 93]), (2002016, []), (3000009, []), (3000015, []), (3000017, []), (3000023, [])]
noncomputable def schema_Is_J0_0 (p0 : api_Val) (o1 : (List UInt8) × Int × Bool) : St := ⟨[(1, .ptr 0 0), (3, .ptr 1 0)], ⟨[[.p (iV p0.K), .p (sV p0.S), .p (iV p0.N), .p (bV p0.B), .p (.sl false (p0.L.map c_api_Val))], [.p (iV p0.K), .p (sV o1.1), .p (iV o1.2.1), .p (bV o1.2.2), .p (.sl false (p0.L.map c_api_Val))]], []⟩⟩
noncomputable def schema_Is_J1_0 (p0 : api_Val) (o1 : (List UInt8) × Int × Bool) (o2 : Bool) : St := ⟨[(1, .ptr 0 0), (51, .p (bV o2))], ⟨[[.p (iV p0.K), .p (sV p0.S), .p (iV p0.N), .p (bV p0.B), .p (.sl false (p0.L.map c_api_Val))], [.p (iV p0.K), .p (sV o1.1), .p (iV o1.2.1), .p (bV o1.2.2), .p (.sl false (p0.L.map c_api_Val))]], []⟩⟩
noncomputable def schema_Is_J2_0 (p0 : api_Val) (o1 : (List UInt8) × Int × Bool) (x4 : Int × Bool) (o5 : Bool) : St := ⟨[(2, .p (bV o5))], ⟨[[.p (iV p0.K), .p (sV p0.S), .p (iV p0.N), .p (bV p0.B), .p (.sl false (p0.L.map c_api_Val))], [.p (iV p0.K), .p (sV o1.1), .p (iV o1.2.1), .p (bV o1.2.2), .p (.sl false (p0.L.map c_api_Val))], [.p (iV x4.1)]], []⟩⟩
noncomputable def schema_Is_J3_0 (p0 : api_Val) (o1 : (List UInt8) × Int × Bool) (x4 : Int × Bool) (x7 : (List (List UInt8))) (o8 : Bool) : St := ⟨[(1, .ptr 0 0), (6, .p (.sl false (x7.map cStr))), (90, .p (bV o8))], ⟨[[.p (iV p0.K), .p (sV p0.S), .p (iV p0.N), .p (bV p0.B), .p (.sl false (p0.L.map c_api_Val))], [.p (iV p0.K), .p (sV o1.1), .p (iV o1.2.1), .p (bV o1.2.2), .p (.sl false (p0.L.map c_api_Val))], [.p (iV x4.1)]], []⟩⟩
noncomputable def schema_Is_J4_0 (p0 : api_Val) (o1 : (List UInt8) × Int × Bool) (x4 : Int × Bool) (x7 : (List (List UInt8))) (v93 : Int) (o14 : Bool) : St := ⟨[(1, .ptr 0 0), (91, .p (.sl false (x7.map cStr))), (92, .p (iV (x7.length : Int))), (93, .p (iV v93)), (121, .p (bV o14))], ⟨[[.p (iV p0.K), .p (sV p0.S), .p (iV p0.N), .p (bV p0.B), .p (.sl false (p0.L.map c_api_Val))], [.p (iV p0.K), .p (sV o1.1), .p (iV o1.2.1), .p (bV o1.2.2), .p (.sl false (p0.L.map c_api_Val))], [.p (iV x4.1)]], []⟩⟩
noncomputable def schema_Is_L1_st (p0 : api_Val) (o1 : (List UInt8) × Int × Bool) (x4 : Int × Bool) (x7 : (List (List UInt8))) (v93 : Int) : St := ⟨[(1, .ptr 0 0), (91, .p (.sl false (x7.map cStr))), (92, .p (iV (x7.length : Int))), (93, .p (iV v93))], ⟨[[.p (iV p0.K), .p (sV p0.S), .p (iV p0.N), .p (bV p0.B), .p (.sl false (p0.L.map c_api_Val))], [.p (iV p0.K), .p (sV o1.1), .p (iV o1.2.1), .p (bV o1.2.2), .p (.sl false (p0.L.map c_api_Val))], [.p (iV x4.1)]], []⟩⟩
noncomputable def schema_Is_L1_x0 (p0 : api_Val) (o1 : (List UInt8) × Int × Bool) (x4 : Int × Bool) (x7 : (List (List UInt8))) (y10 : Unit) : St := ⟨[], ⟨[[.p (iV p0.K), .p (sV p0.S), .p (iV p0.N), .p (bV p0.B), .p (.sl false (p0.L.map c_api_Val))], [.p (iV p0.K), .p (sV o1.1), .p (iV o1.2.1), .p (bV o1.2.2), .p (.sl false (p0.L.map c_api_Val))], [.p (iV x4.1)]], []⟩⟩
noncomputable def schema_Is_L1_x1 (p0 : api_Val) (o1 : (List UInt8) × Int × Bool) (x4 : Int × Bool) (x7 : (List (List UInt8))) (y11 : Unit) : St := ⟨[(2, .p (bV false))], ⟨[[.p (iV p0.K), .p (sV p0.S), .p (iV p0.N), .p (bV p0.B), .p (.sl false (p0.L.map c_api_Val))], [.p (iV p0.K), .p (sV o1.1), .p (iV o1.2.1), .p (bV o1.2.2), .p (.sl false (p0.L.map c_api_Val))], [.p (iV x4.1)]], []⟩⟩
noncomputable def schema_Is_L1_c : Code := ((loopsOf (Tryz.f19.body.getD .skip)).getD 0 .skip)
noncomputable def t_schema_Is_1 (y : Bool) : D := .p (bV y)
noncomputable def schema_Is_1_lv : List (Nat × List Nat) := [(0, [1, 2]), (1, [3]), (3000001, [])]
noncomputable def schema_Is_1_J0_0 (p0 : api_Val) (h0_0 : Int) (o1 : Bool) : St := ⟨[(3, .p (bV o1))], ⟨[[.p (iV h0_0)], [.p (iV p0.K), .p (sV p0.S), .p (iV p0.N), .p (bV p0.B), .p (.sl false (p0.L.map c_api_Val))]], []⟩⟩
noncomputable def t_schema_Number (y : api_Val) : D := .p (.agg [iV y.K, sV y.S, iV y.N, bV y.B, .sl false (y.L.map c_api_Val)])
noncomputable def schema_Number_lv : List (Nat × List Nat) := [(0, [0, 2]), (1, [2])]
noncomputable def t_schema_Same (y : Bool) : D := .p (bV y)
noncomputable def schema_Same_lv : List (Nat × List Nat) := [(0, [2, 3]), (1, [4]), (3000001, [])]
noncomputable def schema_Same_J0_0 (p0 : api_Val) (p1 : api_Val) (o1 : Bool) : St := ⟨[(4, .p (bV o1))], ⟨[[.p (iV p0.K), .p (sV p0.S), .p (iV p0.N), .p (bV p0.B), .p (.sl false (p0.L.map c_api_Val))], [.p (iV p1.K), .p (sV p1.S), .p (iV p1.N), .p (bV p1.B), .p (.sl false (p1.L.map c_api_Val))]], []⟩⟩
noncomputable def t_schema_Text (y : api_Val) : D := .p (.agg [iV y.K, sV y.S, iV y.N, bV y.B, .sl false (y.L.map c_api_Val)])
noncomputable def schema_Text_lv : List (Nat × List Nat) := [(0, [0, 2]), (1, [2])]
noncomputable def t_schema_Truth (y : api_Val) : D := .p (.agg [iV y.K, sV y.S, iV y.N, bV y.B, .sl false (y.L.map c_api_Val)])
noncomputable def schema_Truth_lv : List (Nat × List Nat) := [(0, [0, 2]), (1, [2])]
noncomputable def t_slices_ContainsFunc_api_Val_api_Val_built_Call_1 (y : Bool) : D := .p (bV y)
noncomputable def slices_ContainsFunc_api_Val_api_Val_built_Call_1_lv : List (Nat × List Nat) := [(0, [0, 1]), (1, [4])]
noncomputable def t_slices_ContainsFunc_api_Val_api_Val_schema_Is_1 (y : Bool) : D := .p (bV y)
noncomputable def slices_ContainsFunc_api_Val_api_Val_schema_Is_1_lv : List (Nat × List Nat) := [(0, [0, 1]), (1, [4])]
noncomputable def t_slices_EqualFunc_api_Val_api_Val_api_Val_api_Val_schema_Same (y : Bool) : D := .p (bV y)
noncomputable def slices_EqualFunc_api_Val_api_Val_api_Val_api_Val_schema_Same_lv : List (Nat × List Nat) := [(0, [0, 1, 2]), (1, [0, 1, 2, 14]), (2, [6]), (3, [1, 2, 15, 16, 17]), (4, [1, 2, 15, 16, 17, 18]), (5, [1, 2, 7, 8, 15, 16, 17]), (6, [1, 2, 8, 9, 15, 16, 17]), (7, [1, 2, 15, 16, 17, 30]), (8, [6]), (9, [1, 2, 15, 16, 17]), (10, [6]), (1000004, [1, 2, 15, 16, 17])]
noncomputable def slices_EqualFunc_api_Val_api_Val_api_Val_api_Val_schema_Same_L1_st (p0 : (List api_Val)) (p1 : (List api_Val)) (v17 : Int) : St := ⟨[(1, .p (.sl false (p1.map c_api_Val))), (2, .fn (.func 47) [] []), (15, .p (.sl false (p0.map c_api_Val))), (16, .p (iV (p0.length : Int))), (17, .p (iV v17))], ⟨[], []⟩⟩
noncomputable def slices_EqualFunc_api_Val_api_Val_api_Val_api_Val_schema_Same_L1_x0 (p0 : (List api_Val)) (p1 : (List api_Val)) (y2 : Unit) : St := ⟨[], ⟨[], []⟩⟩
noncomputable def slices_EqualFunc_api_Val_api_Val_api_Val_api_Val_schema_Same_L1_x1 (p0 : (List api_Val)) (p1 : (List api_Val)) (y3 : Unit) : St := ⟨[(6, .p (bV false))], ⟨[], []⟩⟩
noncomputable def slices_EqualFunc_api_Val_api_Val_api_Val_api_Val_schema_Same_L1_c : Code := ((loopsOf (Tryz.f64.body.getD .skip)).getD 0 .skip)
noncomputable def t_slices_IndexFunc_api_Val_api_Val_built_Call_1 (y : Int) : D := .p (iV y)
noncomputable def slices_IndexFunc_api_Val_api_Val_built_Call_1_lv : List (Nat × List Nat) := [(0, [0, 1]), (1, [0, 1, 7, 8]), (2, [0, 1, 7, 8, 9]), (3, [0, 1, 5, 7, 8]), (4, [0, 1, 5, 7, 8, 16]), (5, [4]), (6, [0, 1, 7, 8]), (7, [4]), (1000002, [0, 1, 7, 8])]
noncomputable def slices_IndexFunc_api_Val_api_Val_built_Call_1_L1_st (p0 : (List api_Val)) (v8 : Int) : St := ⟨[(0, .p (.sl false (p0.map c_api_Val))), (1, .fn (.func 18) [] []), (7, .p (iV (p0.length : Int))), (8, .p (iV v8))], ⟨[], []⟩⟩
noncomputable def slices_IndexFunc_api_Val_api_Val_built_Call_1_L1_x0 (p0 : (List api_Val)) (y2 : Unit) : St := ⟨[], ⟨[], []⟩⟩
noncomputable def slices_IndexFunc_api_Val_api_Val_built_Call_1_L1_x1 (p0 : (List api_Val)) (y3 : Int) : St := ⟨[(4, .p (iV y3))], ⟨[], []⟩⟩
noncomputable def slices_IndexFunc_api_Val_api_Val_built_Call_1_L1_c : Code := ((loopsOf (Tryz.f34.body.getD .skip)).getD 0 .skip)
noncomputable def t_slices_IndexFunc_api_Val_api_Val_schema_Is_1 (y : Int) : D := .p (iV y)
noncomputable def slices_IndexFunc_api_Val_api_Val_schema_Is_1_lv : List (Nat × List Nat) := [(0, [0, 1]), (1, [0, 1, 7, 8]), (2, [0, 1, 7, 8, 9]), (3, [0, 1, 5, 7, 8]), (4, [0, 1, 5, 7, 8, 16]), (5, [4]), (6, [0, 1, 7, 8]), (7, [4]), (1000002, [0, 1, 7, 8])]
noncomputable def slices_IndexFunc_api_Val_api_Val_schema_Is_1_L1_st (p0 : (List api_Val)) (h0_0 : Int) (v8 : Int) : St := ⟨[(0, .p (.sl false (p0.map c_api_Val))), (1, .fn (.func 35) [] [.ptr 0 0]), (7, .p (iV (p0.length : Int))), (8, .p (iV v8))], ⟨[[.p (iV h0_0)]], []⟩⟩
noncomputable def slices_IndexFunc_api_Val_api_Val_schema_Is_1_L1_x0 (p0 : (List api_Val)) (h0_0 : Int) (y2 : Unit) : St := ⟨[], ⟨[[.p (iV h0_0)]], []⟩⟩
noncomputable def slices_IndexFunc_api_Val_api_Val_schema_Is_1_L1_x1 (p0 : (List api_Val)) (h0_0 : Int) (y3 : Int) : St := ⟨[(4, .p (iV y3))], ⟨[[.p (iV h0_0)]], []⟩⟩
noncomputable def slices_IndexFunc_api_Val_api_Val_schema_Is_1_L1_c : Code := ((loopsOf (Tryz.f34.body.getD .skip)).getD 0 .skip)
noncomputable def t_strings_Count (y : Int) : D := .p (iV y)
noncomputable def t_strings_Join (y : (List UInt8)) : D := .p (sV y)
noncomputable def t_strings_ReplaceAll (y : (List UInt8)) : D := .p (sV y)
noncomputable def t_strings_Trim (y : (List UInt8)) : D := .p (sV y)
noncomputable def t_utf_Count (y : Int) : D := .p (iV y)
noncomputable def utf_Count_lv : List (Nat × List Nat) := [(0, [0]), (1, [0, 3]), (2, [3, 5]), (3, [3, 5]), (4, [2]), (4000003, [3, 5])]
noncomputable def utf_Count_L1_st (x1 : (List UInt8)) (h0_0 : Int) : St := ⟨[(3, .ptr 0 0), (5, .fn (.func 75) [] [.p (.ep [sV x1])])], ⟨[[.p (iV h0_0)]], []⟩⟩
noncomputable def utf_Count_L1_x0 (x1 : (List UInt8)) (o6 : Int) : St := ⟨[(3, .ptr 0 0), (5, .fn (.func 75) [] [.p (.ep [sV x1])])], ⟨[[.p (iV o6)]], []⟩⟩
noncomputable def utf_Count_L1_c : Code := ((loopsOf (Tryz.f39.body.getD .skip)).getD 0 .skip)
noncomputable def t_utf_Next (y : Int × Int) : D := .tup [.p (nV .i32 y.1), .p (iV y.2)]
noncomputable def utf_Next_lv : List (Nat × List Nat) := [(0, [0, 1]), (1, [0, 1, 17]), (2, [4, 5]), (3, [0, 1, 6]), (4, [4, 5]), (5, [0, 1, 6, 21]), (6, [4, 5]), (7, [0, 1, 6, 26]), (8, [0, 1, 4, 7, 8]), (9, [0, 1, 6, 36]), (10, [0, 1, 4, 7, 8]), (11, [0, 1, 6, 46]), (12, [0, 1, 4, 7, 8]), (13, [4, 7, 8, 9]), (14, [4, 8, 77]), (15, [4, 5]), (16, [4, 5]), (2004022, []), (3000001, []), (3000007, []), (3000009, []), (3000011, []), (3000014, [])]
noncomputable def utf_Next_J0_0 (p0 : (List UInt8)) (p1 : Int) (o1 : Bool) : St := ⟨[(0, .p (sV p0)), (1, .p (iV p1)), (17, .p (bV o1))], ⟨[], []⟩⟩
noncomputable def utf_Next_J1_0 (p0 : (List UInt8)) (p1 : Int) (y4 : Int × Int × Int) : St := ⟨[(0, .p (sV p0)), (1, .p (iV p1)), (4, .p (nV .i32 y4.1)), (7, .p (nV .i32 y4.2.1)), (8, .p (iV y4.2.2))], ⟨[], []⟩⟩
noncomputable def utf_Next_J1_1 (p0 : (List UInt8)) (p1 : Int) (y5 : Int) : St := ⟨[(4, .p (nV .i32 y5)), (5, .p (iV 1))], ⟨[], []⟩⟩
noncomputable def utf_Next_J2_0 (p0 : (List UInt8)) (p1 : Int) (x2 : UInt8) (o6 : Bool) : St := ⟨[(0, .p (sV p0)), (1, .p (iV p1)), (6, .p (nV .u8 (x2.toNat : Int))), (26, .p (bV o6))], ⟨[], []⟩⟩
noncomputable def utf_Next_J3_0 (p0 : (List UInt8)) (p1 : Int) (x2 : UInt8) (o7 : Bool) : St := ⟨[(0, .p (sV p0)), (1, .p (iV p1)), (6, .p (nV .u8 (x2.toNat : Int))), (36, .p (bV o7))], ⟨[], []⟩⟩
noncomputable def utf_Next_J4_0 (p0 : (List UInt8)) (p1 : Int) (x2 : UInt8) (o8 : Bool) : St := ⟨[(0, .p (sV p0)), (1, .p (iV p1)), (6, .p (nV .u8 (x2.toNat : Int))), (46, .p (bV o8))], ⟨[], []⟩⟩
noncomputable def utf_Next_J5_0 (y4 : Int × Int × Int) (x10 : Int × Bool) (o11 : Bool) : St := ⟨[(4, .p (nV .i32 x10.1)), (8, .p (iV y4.2.2)), (77, .p (bV o11))], ⟨[], []⟩⟩
noncomputable def t_utf_all (y : (List UInt8)) : D := .fn (.func 75) [] [.p (.ep [sV y])]
noncomputable def utf_all_lv : List (Nat × List Nat) := [(0, [1]), (1, [2])]
noncomputable def e_utf_all_1 (y : (Int × Int)) : List V := [nV .i32 y.1, iV y.2]
noncomputable def utf_all_1_lv : List (Nat × List Nat) := [(0, [0, 1, 3]), (1, [0, 1, 3, 9]), (2, [0, 1, 3, 4, 5]), (3, [0, 1, 3, 5, 20]), (4, [0, 1, 3]), (1000001, [0, 1, 3])]
noncomputable def utf_all_1_L1_st (p0 : (List UInt8)) (v3 : Int) (gxs gp : List (List V)) : St := ⟨[(0, .yld Tryz.prog 0 gxs), (1, .p (.ep [sV p0])), (3, .p (iV v3))], ⟨[], [gp.length]⟩⟩
noncomputable def utf_all_1_L1_x0 (p0 : (List UInt8)) (gxs : List (List V)) (gq1 : List (List V)) (oy : Unit) : St := ⟨[], ⟨[], [gq1.length]⟩⟩
noncomputable def utf_all_1_L1_c : Code := ((loopsOf (Tryz.f75.body.getD .skip)).getD 0 .skip)
noncomputable def t_utf_is (y : Bool) : D := .p (bV y)
noncomputable def utf_is_lv : List (Nat × List Nat) := [(0, [0]), (1, [2]), (3000001, [])]
noncomputable def utf_is_J0_0  (o1 : Bool) : St := ⟨[(2, .p (bV o1))], ⟨[], []⟩⟩
noncomputable def t_utf_tail (y : Int × Bool) : D := .tup [.p (nV .i32 y.1), .p (bV y.2)]
noncomputable def utf_tail_lv : List (Nat × List Nat) := [(0, [0, 1, 2]), (1, [0, 1, 2, 12]), (2, [6, 7]), (3, [0, 1, 13, 14]), (4, [0, 1, 13, 14, 15]), (5, [0, 1, 8, 13, 14]), (6, [0, 1, 8, 13, 14, 21]), (7, [6, 7]), (8, [0, 1, 13, 14]), (9, [0, 1, 13, 14]), (10, [6, 7]), (1000004, [0, 1, 13, 14])]
noncomputable def utf_tail_L1_st (p0 : (List UInt8)) (p2 : Int) (v1 : Int) (v14 : Int) : St := ⟨[(0, .p (sV p0)), (1, .p (nV .i32 v1)), (13, .p (iV p2)), (14, .p (iV v14))], ⟨[], []⟩⟩
noncomputable def utf_tail_L1_x0 (p0 : (List UInt8)) (p2 : Int) (y2 : Int) : St := ⟨[(1, .p (nV .i32 y2))], ⟨[], []⟩⟩
noncomputable def utf_tail_L1_x1 (p0 : (List UInt8)) (p2 : Int) (y3 : Unit) : St := ⟨[(6, .p (nV .i32 0)), (7, .p (bV false))], ⟨[], []⟩⟩
noncomputable def utf_tail_L1_c : Code := ((loopsOf (Tryz.f92.body.getD .skip)).getD 0 .skip)
noncomputable def R01_Begins (p0 : (List UInt8)) (p1 : (List UInt8)) (p2 : Int) : Option (Bool) :=
  ( if (decide (p2 ≥ 0)) then
      if (decide (p2 ≤ (p0.length : Int))) then
        if (decide ((p1.length : Int) ≤ (wr ((p0.length : Int) - p2)))) then
          cutL p0 p2 (wr (p2 + (p1.length : Int))) >>= fun x2 =>
          some (x2 == p1)
        else
          some false
      else
        some false
    else
      some false : Option (Bool)) >>= fun o1 =>
  some o1
set_option maxRecDepth 100000 in
set_option maxHeartbeats 4000000 in
theorem R01_Begins_ok : ∀ (p0 : (List UInt8)) (p1 : (List UInt8)) (p2 : Int) (o : Bool), R01_Begins p0 p1 p2 = some o → PCall Tryz.prog 74 [sV p0, sV p1, iV p2] (t_R01_Begins o) := by
  intro p0 p1 p2 o h
  unfold R01_Begins at h
  refine PCall.ofB mixed tbOk R01_Begins_lv Tryz.func74 rfl (by kernel_rfl) (Nat.le_of_ble_eq_true rfl) ?_
  refine st_bind h (fun o1 ho hk => ?_)
  refine Exists.intro (JP1 _ _ o1 .normal (R01_Begins_J0_0 )) (And.intro ?_ (join1 ?_))
  · have h := ho
    refine st_test h (fun hb h => ?_) (fun hb h => ?_)
    · refine vrfl ?_
      refine st_test h (fun hb h => ?_) (fun hb h => ?_)
      · refine vrfl ?_
        refine vrfl ?_
        refine st_test h (fun hb h => ?_) (fun hb h => ?_)
        · refine vrfl ?_
          refine st_cuts (some p2) (some (wr (p2 + (p1.length : Int)))) h (fun x2 hi h => ?_)
          refine JP1.a h ?_
          exact Le.tow 0 0 rfl (.cons rfl (.refl _) (.nil)) (.refl _) rfl
        · refine JP1.a h ?_
          exact Le.tow 0 0 rfl (.cons rfl (.refl _) (.nil)) (.refl _) rfl
      · refine bF ?_
        refine JP1.a h ?_
        exact Le.tow 0 0 rfl (.cons rfl (.refl _) (.nil)) (.refl _) rfl
    · refine bF ?_
      refine bF ?_
      refine JP1.a h ?_
      exact Le.tow 0 0 rfl (.cons rfl (.refl _) (.nil)) (.refl _) rfl
  · have h := hk
    refine st_ret (t := t_R01_Begins) h ?_
    exact .refl _
noncomputable def R01_Join_L1 (p0 : (List (List UInt8))) (p1 : (List UInt8)) (v5 : (List UInt8)) (v6 : Int) : Option ((List UInt8)) :=
  if (decide (v6 < (p0.length : Int))) then
    if (decide (v6 > 0)) then
      need (v5.length + p1.length ≤ 9223372036854775807) >>= fun _ =>
      idx p0 v6 >>= fun x2 =>
      need ((v5 ++ p1).length + x2.length ≤ 9223372036854775807) >>= fun _ =>
      R01_Join_L1 p0 p1 ((v5 ++ p1) ++ x2) (wr (v6 + 1))
    else
      idx p0 v6 >>= fun x3 =>
      need (v5.length + x3.length ≤ 9223372036854775807) >>= fun _ =>
      R01_Join_L1 p0 p1 (v5 ++ x3) (wr (v6 + 1))
  else
    some v5
  partial_fixpoint
set_option maxRecDepth 100000 in
set_option maxHeartbeats 4000000 in
theorem R01_Join_L1_grp : ∀ (p0 : (List (List UInt8))) (p1 : (List UInt8)), (∀ (v5 : (List UInt8)) (v6 : Int) (o1 : (List UInt8)), R01_Join_L1 p0 p1 v5 v6 = some o1 → TL (0, 0) Tryz.prog 25 R01_Join_L1_c (JP1 (0, 0) 25 o1 (.exit 0) (R01_Join_L1_x0 p0 p1)) (R01_Join_L1_st p0 p1 v5 v6)) := by
  intro p0 p1
  refine R01_Join_L1.partial_correctness p0 p1 _ ?_
  intro R01_Join_L1' ih_R01_Join_L1 v5 v6 o1 h
  refine TL.round (bwp_sound mixed tbOk (lv := R01_Join_lv) _ _ _ ?_)
  refine view (lenMap _ _) rfl ?_
  refine st_test h (fun hb h => ?_) (fun hb h => ?_)
  · refine st_test h (fun hb h => ?_) (fun hb h => ?_)
    · refine st_need h (fun h => ?_)
      refine st_idx (l := p0) (c := cStr) (c' := cStr) h (fun _ => rfl) (fun _ => rfl) (by decide) (fun x2 hi h => ?_)
      refine st_need h (fun h => ?_)
      refine TL.le (τ := R01_Join_L1_st p0 p1 ((v5 ++ p1) ++ x2) (wr (v6 + 1))) ?_ ((ih_R01_Join_L1 ((v5 ++ p1) ++ x2) (wr (v6 + 1)) _ h))
      exact Le.tow 0 0 rfl (.cons rfl (.refl _) (.cons rfl (.refl _) (.cons rfl (.refl _) (.cons rfl (.refl _) (.nil))))) (.refl _) rfl
    · refine st_idx (l := p0) (c := cStr) (c' := cStr) h (fun _ => rfl) (fun _ => rfl) (by decide) (fun x3 hi h => ?_)
      refine st_need h (fun h => ?_)
      refine TL.le (τ := R01_Join_L1_st p0 p1 (v5 ++ x3) (wr (v6 + 1))) ?_ ((ih_R01_Join_L1 (v5 ++ x3) (wr (v6 + 1)) _ h))
      exact Le.tow 0 0 rfl (.cons rfl (.refl _) (.cons rfl (.refl _) (.cons rfl (.refl _) (.cons rfl (.refl _) (.nil))))) (.refl _) rfl
  · exact JP1.a h (Le.tow 0 0 rfl (.cons rfl (.refl _) (.nil)) (.refl _) rfl)
theorem R01_Join_L1_ok : ∀ (p0 : (List (List UInt8))) (p1 : (List UInt8)) (v5 : (List UInt8)) (v6 : Int) (o1 : (List UInt8)), R01_Join_L1 p0 p1 v5 v6 = some o1 → TL (0, 0) Tryz.prog 25 R01_Join_L1_c (JP1 (0, 0) 25 o1 (.exit 0) (R01_Join_L1_x0 p0 p1)) (R01_Join_L1_st p0 p1 v5 v6) := fun p0 p1 v5 v6 o1 h => (R01_Join_L1_grp p0 p1) v5 v6 o1 h
noncomputable def R01_Join (p0 : (List (List UInt8))) (p1 : (List UInt8)) : Option ((List UInt8)) :=
  (R01_Join_L1 p0 p1 [] 0) >>= fun o1 =>
  some o1
set_option maxRecDepth 100000 in
set_option maxHeartbeats 4000000 in
theorem R01_Join_ok : ∀ (p0 : (List (List UInt8))) (p1 : (List UInt8)) (o : (List UInt8)), R01_Join p0 p1 = some o → PCall Tryz.prog 52 [.sl false (p0.map cStr), sV p1] (t_R01_Join o) := by
  intro p0 p1 o h
  unfold R01_Join at h
  refine PCall.ofB mixed tbOk R01_Join_lv Tryz.func52 rfl (by kernel_rfl) (Nat.le_of_ble_eq_true rfl) ?_
  refine st_bind h (fun o1 ho hk => ?_)
  refine Exists.intro (JP1 _ _ o1 (.exit 0) (R01_Join_L1_x0 p0 p1)) (And.intro (T_le (τ := R01_Join_L1_st p0 p1 [] 0) ?_ (TL.loop (R01_Join_L1_ok p0 p1 [] 0 o1 ho))) (join1 ?_))
  · exact Le.tow 0 0 rfl (.cons rfl (.refl _) (.cons rfl (.refl _) (.cons rfl (.refl _) (.cons rfl (.refl _) (.nil))))) (.refl _) rfl
  have h := hk
  refine st_ret (t := t_R01_Join) h ?_
  exact .refl _
noncomputable def R01_Text (p0 : Int) : Option ((List UInt8)) :=
  need (-9223372036854775808 ≤ p0) >>= fun _ =>
  need (p0 ≤ 9223372036854775807) >>= fun _ =>
  some (textL p0)
set_option maxRecDepth 100000 in
set_option maxHeartbeats 4000000 in
theorem R01_Text_ok : ∀ (p0 : Int) (o : (List UInt8)), R01_Text p0 = some o → PCall Tryz.prog 14 [iV p0] (t_R01_Text o) := by
  intro p0 o h
  unfold R01_Text at h
  obtain ⟨h1, h⟩ := need_some h
  obtain ⟨h2, h⟩ := need_some h
  cases h
  exact rtext_ok _ h1 h2
noncomputable def R02_Rune (p0 : Int) : Option (Bool) :=
  ( if (decide (p0 ≥ 0)) then
      if (decide (p0 ≤ 1114111)) then
        if (decide (p0 ≥ 55296)) then
          some (!(decide (p0 ≤ 57343)))
        else
          some true
      else
        some false
    else
      some false : Option (Bool)) >>= fun o1 =>
  some o1
set_option maxRecDepth 100000 in
set_option maxHeartbeats 4000000 in
theorem R02_Rune_ok : ∀ (p0 : Int) (o : Bool), R02_Rune p0 = some o → PCall Tryz.prog 90 [iV p0] (t_R02_Rune o) := by
  intro p0 o h
  unfold R02_Rune at h
  refine PCall.ofB mixed tbOk R02_Rune_lv Tryz.func90 rfl (by kernel_rfl) (Nat.le_of_ble_eq_true rfl) ?_
  refine st_bind h (fun o1 ho hk => ?_)
  refine Exists.intro (JP1 _ _ o1 .normal (R02_Rune_J0_0 )) (And.intro ?_ (join1 ?_))
  · have h := ho
    refine st_test h (fun hb h => ?_) (fun hb h => ?_)
    · refine st_test h (fun hb h => ?_) (fun hb h => ?_)
      · refine st_test h (fun hb h => ?_) (fun hb h => ?_)
        · refine JP1.a h ?_
          exact Le.tow 0 0 rfl (.cons rfl (.refl _) (.nil)) (.refl _) rfl
        · refine JP1.a h ?_
          exact Le.tow 0 0 rfl (.cons rfl (.refl _) (.nil)) (.refl _) rfl
      · refine JP1.a h ?_
        exact Le.tow 0 0 rfl (.cons rfl (.refl _) (.nil)) (.refl _) rfl
    · refine bF ?_
      refine JP1.a h ?_
      exact Le.tow 0 0 rfl (.cons rfl (.refl _) (.nil)) (.refl _) rfl
  · have h := hk
    refine st_ret (t := t_R02_Rune) h ?_
    exact .refl _
noncomputable def R02_Bytes (p0 : Int) : Option ((List UInt8)) :=
  ( R02_Rune p0 >>= fun x2 =>
    if (!x2) then
      some 65533
    else
      some p0 : Option (Int)) >>= fun o1 =>
  if (decide (o1 < 128)) then
    b2s [(IntKind.u8.wrap o1)] >>= fun x3 =>
    some x3
  else
    if (decide (o1 < 2048)) then
      b2s [(IntKind.u8.wrap (wr (192 + (wr (o1.tdiv 64))))), (IntKind.u8.wrap (wr (128 + (o1.tmod 64))))] >>= fun x4 =>
      some x4
    else
      if (decide (o1 < 65536)) then
        b2s [(IntKind.u8.wrap (wr (224 + (wr (o1.tdiv 4096))))), (IntKind.u8.wrap (wr (128 + ((wr (o1.tdiv 64)).tmod 64)))), (IntKind.u8.wrap (wr (128 + (o1.tmod 64))))] >>= fun x5 =>
        some x5
      else
        b2s [(IntKind.u8.wrap (wr (240 + (wr (o1.tdiv 262144))))), (IntKind.u8.wrap (wr (128 + ((wr (o1.tdiv 4096)).tmod 64)))), (IntKind.u8.wrap (wr (128 + ((wr (o1.tdiv 64)).tmod 64)))), (IntKind.u8.wrap (wr (128 + (o1.tmod 64))))] >>= fun x6 =>
        some x6
set_option maxRecDepth 100000 in
set_option maxHeartbeats 4000000 in
theorem R02_Bytes_ok : ∀ (p0 : Int) (o : (List UInt8)), R02_Bytes p0 = some o → PCall Tryz.prog 91 [iV p0] (t_R02_Bytes o) := by
  intro p0 o h
  unfold R02_Bytes at h
  refine PCall.ofB mixed tbOk R02_Bytes_lv Tryz.func91 rfl (by kernel_rfl) (Nat.le_of_ble_eq_true rfl) ?_
  refine st_bind h (fun o1 ho hk => ?_)
  refine Exists.intro (JP1 _ _ o1 .normal (R02_Bytes_J0_0 )) (And.intro ?_ (join1 ?_))
  · have h := ho
    refine st_call [iV p0] t_R02_Rune h (fun x2 hy => (R02_Rune_ok p0 x2 hy)) (fun x2 hy h => ?_)
    refine st_test h (fun hb h => ?_) (fun hb h => ?_)
    · refine JP1.a h ?_
      exact Le.tow 0 0 rfl (.cons rfl (.refl _) (.nil)) (.refl _) rfl
    · refine JP1.a h ?_
      exact Le.tow 0 0 rfl (.cons rfl (.refl _) (.nil)) (.refl _) rfl
  · have h := hk
    refine st_test h (fun hb h => ?_) (fun hb h => ?_)
    · refine vrfl ?_
      refine st_b2s (l := [(IntKind.u8.wrap o1)]) h (fun x3 hi h => ?_)
      refine st_ret (t := t_R02_Bytes) h ?_
      exact .refl _
    · refine st_test h (fun hb h => ?_) (fun hb h => ?_)
      · refine And.intro (by decide) ?_
        refine vrfl ?_
        refine And.intro (by decide) ?_
        refine vrfl ?_
        refine st_b2s (l := [(IntKind.u8.wrap (wr (192 + (wr (o1.tdiv 64))))), (IntKind.u8.wrap (wr (128 + (o1.tmod 64))))]) h (fun x4 hi h => ?_)
        refine st_ret (t := t_R02_Bytes) h ?_
        exact .refl _
      · refine st_test h (fun hb h => ?_) (fun hb h => ?_)
        · refine And.intro (by decide) ?_
          refine vrfl ?_
          refine And.intro (by decide) ?_
          refine And.intro (by decide) ?_
          refine vrfl ?_
          refine And.intro (by decide) ?_
          refine vrfl ?_
          refine st_b2s (l := [(IntKind.u8.wrap (wr (224 + (wr (o1.tdiv 4096))))), (IntKind.u8.wrap (wr (128 + ((wr (o1.tdiv 64)).tmod 64)))), (IntKind.u8.wrap (wr (128 + (o1.tmod 64))))]) h (fun x5 hi h => ?_)
          refine st_ret (t := t_R02_Bytes) h ?_
          exact .refl _
        · refine And.intro (by decide) ?_
          refine vrfl ?_
          refine And.intro (by decide) ?_
          refine And.intro (by decide) ?_
          refine vrfl ?_
          refine And.intro (by decide) ?_
          refine And.intro (by decide) ?_
          refine vrfl ?_
          refine And.intro (by decide) ?_
          refine vrfl ?_
          refine st_b2s (l := [(IntKind.u8.wrap (wr (240 + (wr (o1.tdiv 262144))))), (IntKind.u8.wrap (wr (128 + ((wr (o1.tdiv 4096)).tmod 64)))), (IntKind.u8.wrap (wr (128 + ((wr (o1.tdiv 64)).tmod 64)))), (IntKind.u8.wrap (wr (128 + (o1.tmod 64))))]) h (fun x6 hi h => ?_)
          refine st_ret (t := t_R02_Bytes) h ?_
          exact .refl _
noncomputable def R02_Next_L2 (p0 : (List UInt8)) (p1 : Int) (v6 : (List Int)) (v7 : Int) (v8 : Int) (v9 : Int) : Option (Int) :=
  if (decide (v9 < v7)) then
    idx p0 (wr (p1 + v9)) >>= fun x9 =>
    R02_Next_L2 p0 p1 v6 v7 (wr ((wr ((wr (64 * v8)) + (wr (x9.toNat : Int)))) - 128)) (wr (v9 + 1))
  else
    some v8
  partial_fixpoint
set_option maxRecDepth 100000 in
set_option maxHeartbeats 4000000 in
theorem R02_Next_L2_grp : ∀ (p0 : (List UInt8)) (p1 : Int) (v6 : (List Int)) (v7 : Int), (∀ (v8 : Int) (v9 : Int) (o8 : Int), R02_Next_L2 p0 p1 v6 v7 v8 v9 = some o8 → TL (0, 0) Tryz.prog 74 R02_Next_L2_c (JP1 (0, 0) 74 o8 (.exit 2) (R02_Next_L2_x0 p0 p1 v6 v7)) (R02_Next_L2_st p0 p1 v6 v7 v8 v9)) := by
  intro p0 p1 v6 v7
  refine R02_Next_L2.partial_correctness p0 p1 v6 v7 _ ?_
  intro R02_Next_L2' ih_R02_Next_L2 v8 v9 o8 h
  refine TL.round (bwp_sound mixed tbOk (lv := R02_Next_lv) _ _ _ ?_)
  refine st_test h (fun hb h => ?_) (fun hb h => ?_)
  · refine st_sidx h (fun x9 hi h => ?_)
    refine vrfl ?_
    refine TL.le (τ := R02_Next_L2_st p0 p1 v6 v7 (wr ((wr ((wr (64 * v8)) + (wr (x9.toNat : Int)))) - 128)) (wr (v9 + 1))) ?_ ((ih_R02_Next_L2 (wr ((wr ((wr (64 * v8)) + (wr (x9.toNat : Int)))) - 128)) (wr (v9 + 1)) _ h))
    exact Le.tow 0 0 rfl (.cons rfl (.refl _) (.cons rfl (.refl _) (.cons rfl (.refl _) (.cons rfl (.refl _) (.cons rfl (.refl _) (.cons rfl (.refl _) (.nil))))))) (.refl _) rfl
  · exact JP1.a h (Le.tow 0 0 rfl (.cons rfl (.refl _) (.cons rfl (.refl _) (.cons rfl (.refl _) (.cons rfl (.refl _) (.cons rfl (.refl _) (.nil)))))) (.refl _) rfl)
theorem R02_Next_L2_ok : ∀ (p0 : (List UInt8)) (p1 : Int) (v6 : (List Int)) (v7 : Int) (v8 : Int) (v9 : Int) (o8 : Int), R02_Next_L2 p0 p1 v6 v7 v8 v9 = some o8 → TL (0, 0) Tryz.prog 74 R02_Next_L2_c (JP1 (0, 0) 74 o8 (.exit 2) (R02_Next_L2_x0 p0 p1 v6 v7)) (R02_Next_L2_st p0 p1 v6 v7 v8 v9) := fun p0 p1 v6 v7 v8 v9 o8 h => (R02_Next_L2_grp p0 p1 v6 v7) v8 v9 o8 h
noncomputable def R02_Next_L1 (p0 : (List UInt8)) (p1 : Int) (v6 : (List Int)) (v7 : Int) : Option (Unit ⊕ (Int × Int)) :=
  ( if (decide (v7 ≤ 4)) then
      some (decide (v7 ≤ (wr ((p0.length : Int) - p1))))
    else
      some false : Option (Bool)) >>= fun o5 =>
  if o5 then
    idx p0 p1 >>= fun x6 =>
    idx v6 v7 >>= fun x7 =>
    (R02_Next_L2 p0 p1 v6 v7 (wr ((wr (x6.toNat : Int)) - x7)) 1) >>= fun o8 =>
    ( if (decide (o8 ≥ 0)) then
        R02_Rune o8 >>= fun x11 =>
        if x11 then
          R02_Bytes o8 >>= fun x12 =>
          cutL p0 p1 (wr (p1 + v7)) >>= fun x13 =>
          some (x12 == x13)
        else
          some false
      else
        some false : Option (Bool)) >>= fun o10 =>
    if o10 then
      some (.inr (o8, v7))
    else
      R02_Next_L1 p0 p1 v6 (wr (v7 + 1))
  else
    some (.inl ())
  partial_fixpoint
set_option maxRecDepth 100000 in
set_option maxHeartbeats 4000000 in
theorem R02_Next_L1_grp : ∀ (p0 : (List UInt8)) (p1 : Int) (v6 : (List Int)), (∀ (v7 : Int) (o2 : Unit ⊕ (Int × Int)), R02_Next_L1 p0 p1 v6 v7 = some o2 → TL (0, 0) Tryz.prog 74 R02_Next_L1_c (JP2 (0, 0) 74 o2 (.exit 0) (R02_Next_L1_x0 p0 p1) .ret (R02_Next_L1_x1 p0 p1)) (R02_Next_L1_st p0 p1 v6 v7)) := by
  intro p0 p1 v6
  refine R02_Next_L1.partial_correctness p0 p1 v6 _ ?_
  intro R02_Next_L1' ih_R02_Next_L1 v7 o2 h
  refine TL.round (bwp_sound mixed tbOk (lv := R02_Next_lv) _ _ _ ?_)
  refine st_bind h (fun o5 ho hk => ?_)
  refine Exists.intro (JP1 _ _ o5 .normal (R02_Next_J1_0 p0 p1 v6 v7)) (And.intro ?_ (join1 ?_))
  · have h := ho
    refine st_test h (fun hb h => ?_) (fun hb h => ?_)
    · refine vrfl ?_
      refine JP1.a h ?_
      exact Le.tow 0 0 rfl (.cons rfl (.refl _) (.cons rfl (.refl _) (.cons rfl (.refl _) (.cons rfl (.refl _) (.cons rfl (.refl _) (.nil)))))) (.refl _) rfl
    · refine JP1.a h ?_
      exact Le.tow 0 0 rfl (.cons rfl (.refl _) (.cons rfl (.refl _) (.cons rfl (.refl _) (.cons rfl (.refl _) (.cons rfl (.refl _) (.nil)))))) (.refl _) rfl
  · have h := hk
    refine st_test h (fun hb h => ?_) (fun hb h => ?_)
    · refine And.intro (by decide +kernel) (And.intro rfl ?_)
      refine st_sidx h (fun x6 hi h => ?_)
      refine vrfl ?_
      refine st_idx (l := v6) (c := cInt) (c' := cInt) h (fun _ => rfl) (fun _ => rfl) (by decide) (fun x7 hi h => ?_)
      refine st_bind h (fun o8 ho hk => ?_)
      refine Exists.intro (JP1 _ _ o8 (.exit 2) (R02_Next_L2_x0 p0 p1 v6 v7)) (And.intro (T_le (τ := R02_Next_L2_st p0 p1 v6 v7 (wr ((wr (x6.toNat : Int)) - x7)) 1) ?_ (TL.loop (R02_Next_L2_ok p0 p1 v6 v7 (wr ((wr (x6.toNat : Int)) - x7)) 1 o8 ho))) (join1 ?_))
      · exact Le.tow 0 0 rfl (.cons rfl (.refl _) (.cons rfl (.refl _) (.cons rfl (.refl _) (.cons rfl (.refl _) (.cons rfl (.refl _) (.cons rfl (.refl _) (.nil))))))) (.refl _) rfl
      have h := hk
      refine st_bind h (fun o10 ho hk => ?_)
      refine Exists.intro (JP1 _ _ o10 .normal (R02_Next_J2_0 p0 p1 v6 v7 o8)) (And.intro ?_ (join1 ?_))
      · have h := ho
        refine And.intro (by decide +kernel) (And.intro rfl ?_)
        refine st_test h (fun hb h => ?_) (fun hb h => ?_)
        · refine st_calld [iV o8] t_R02_Rune h (fun x11 hy => (R02_Rune_ok o8 x11 hy)) (fun x11 hy h => ?_)
          refine st_test h (fun hb h => ?_) (fun hb h => ?_)
          · refine st_calld [iV o8] t_R02_Bytes h (fun x12 hy => (R02_Bytes_ok o8 x12 hy)) (fun x12 hy h => ?_)
            refine st_cuts (some p1) (some (wr (p1 + v7))) h (fun x13 hi h => ?_)
            refine JP1.a h ?_
            exact Le.tow 0 0 rfl (.cons rfl (.refl _) (.cons rfl (.refl _) (.cons rfl (.refl _) (.cons rfl (.refl _) (.cons rfl (.refl _) (.cons rfl (.refl _) (.nil))))))) (.refl _) rfl
          · refine JP1.a h ?_
            exact Le.tow 0 0 rfl (.cons rfl (.refl _) (.cons rfl (.refl _) (.cons rfl (.refl _) (.cons rfl (.refl _) (.cons rfl (.refl _) (.cons rfl (.refl _) (.nil))))))) (.refl _) rfl
        · refine bF ?_
          refine JP1.a h ?_
          exact Le.tow 0 0 rfl (.cons rfl (.refl _) (.cons rfl (.refl _) (.cons rfl (.refl _) (.cons rfl (.refl _) (.cons rfl (.refl _) (.cons rfl (.refl _) (.nil))))))) (.refl _) rfl
      · have h := hk
        refine st_test h (fun hb h => ?_) (fun hb h => ?_)
        · exact JP2.b h (Le.tow 0 0 rfl (.cons rfl (.refl _) (.cons rfl (.refl _) (.nil))) (.refl _) rfl)
        · refine TL.le (τ := R02_Next_L1_st p0 p1 v6 (wr (v7 + 1))) ?_ ((ih_R02_Next_L1 (wr (v7 + 1)) _ h))
          exact Le.tow 0 0 rfl (.cons rfl (.refl _) (.cons rfl (.refl _) (.cons rfl (.refl _) (.cons rfl (.refl _) (.nil))))) (.refl _) rfl
    · exact JP2.a h (Le.tow 0 0 rfl (.nil) (.refl _) rfl)
theorem R02_Next_L1_ok : ∀ (p0 : (List UInt8)) (p1 : Int) (v6 : (List Int)) (v7 : Int) (o2 : Unit ⊕ (Int × Int)), R02_Next_L1 p0 p1 v6 v7 = some o2 → TL (0, 0) Tryz.prog 74 R02_Next_L1_c (JP2 (0, 0) 74 o2 (.exit 0) (R02_Next_L1_x0 p0 p1) .ret (R02_Next_L1_x1 p0 p1)) (R02_Next_L1_st p0 p1 v6 v7) := fun p0 p1 v6 v7 o2 h => (R02_Next_L1_grp p0 p1 v6) v7 o2 h
noncomputable def R02_Next (p0 : (List UInt8)) (p1 : Int) : Option (Int × Int) :=
  ( if (decide (p1 < 0)) then
      some true
    else
      some (decide (p1 ≥ (p0.length : Int))) : Option (Bool)) >>= fun o1 =>
  if o1 then
    some (0, 0)
  else
    (R02_Next_L1 p0 p1 [0, 0, 192, 224, 240] 1) >>= fun o2 =>
    match o2 with
    | .inl y3 =>
      some (65533, 1)
    | .inr y4 =>
      some (y4.1, y4.2)
set_option maxRecDepth 100000 in
set_option maxHeartbeats 4000000 in
theorem R02_Next_ok : ∀ (p0 : (List UInt8)) (p1 : Int) (o : Int × Int), R02_Next p0 p1 = some o → PCall Tryz.prog 73 [sV p0, iV p1] (t_R02_Next o) := by
  intro p0 p1 o h
  unfold R02_Next at h
  refine PCall.ofB mixed tbOk R02_Next_lv Tryz.func73 rfl (by kernel_rfl) (Nat.le_of_ble_eq_true rfl) ?_
  refine st_bind h (fun o1 ho hk => ?_)
  refine Exists.intro (JP1 _ _ o1 .normal (R02_Next_J0_0 p0 p1)) (And.intro ?_ (join1 ?_))
  · have h := ho
    refine st_test h (fun hb h => ?_) (fun hb h => ?_)
    · refine JP1.a h ?_
      exact Le.tow 0 0 rfl (.cons rfl (.refl _) (.cons rfl (.refl _) (.cons rfl (.refl _) (.nil)))) (.refl _) rfl
    · refine vrfl ?_
      refine JP1.a h ?_
      exact Le.tow 0 0 rfl (.cons rfl (.refl _) (.cons rfl (.refl _) (.cons rfl (.refl _) (.nil)))) (.refl _) rfl
  · have h := hk
    refine st_test h (fun hb h => ?_) (fun hb h => ?_)
    · refine st_ret (t := t_R02_Next) h ?_
      exact .refl _
    · refine st_bind h (fun o2 ho hk => ?_)
      refine Exists.intro (JP2 _ _ o2 (.exit 0) (R02_Next_L1_x0 p0 p1) .ret (R02_Next_L1_x1 p0 p1)) (And.intro (T_le (τ := R02_Next_L1_st p0 p1 [0, 0, 192, 224, 240] 1) ?_ (TL.loop (R02_Next_L1_ok p0 p1 [0, 0, 192, 224, 240] 1 o2 ho))) (join2 (fun y3 hy => ?_) (fun y4 hy => ?_)))
      · exact Le.tow 0 0 rfl (.cons rfl (.refl _) (.cons rfl (.refl _) (.cons rfl (.refl _) (.cons rfl (.refl _) (.nil))))) (.refl _) rfl
      · have h := (by rw [hy] at hk; exact hk)
        refine st_ret (t := t_R02_Next) h ?_
        exact .refl _
      · have h := (by rw [hy] at hk; exact hk)
        refine st_ret (t := t_R02_Next) h ?_
        exact .refl _
noncomputable def R15_Call (p0 : (List UInt8)) (p1 : (List Int)) : Option (Int × Bool) :=
  some (callP p0 p1)
set_option maxRecDepth 100000 in
set_option maxHeartbeats 4000000 in
theorem R15_Call_ok : ∀ (p0 : (List UInt8)) (p1 : (List Int)) (o : Int × Bool), R15_Call p0 p1 = some o → PCall Tryz.prog 10 [sV p0, .sl false (p1.map cInt)] (t_R15_Call o) := by
  intro p0 p1 o h
  unfold R15_Call at h
  cases h
  exact rcall_p _ _ false
noncomputable def R15_Elem (p0 : Int) : Option (Int × Bool) :=
  if (p0 == 7) then
    some (1, true)
  else
    if (p0 == 8) then
      some (4, true)
    else
      if (p0 == 9) then
        some (5, true)
      else
        some (0, false)
set_option maxRecDepth 100000 in
set_option maxHeartbeats 4000000 in
theorem R15_Elem_ok : ∀ (p0 : Int) (o : Int × Bool), R15_Elem p0 = some o → PCall Tryz.prog 26 [iV p0] (t_R15_Elem o) := by
  intro p0 o h
  unfold R15_Elem at h
  refine PCall.ofB mixed tbOk R15_Elem_lv Tryz.func26 rfl (by kernel_rfl) (Nat.le_of_ble_eq_true rfl) ?_
  refine st_test h (fun hb h => ?_) (fun hb h => ?_)
  · refine st_ret (t := t_R15_Elem) h ?_
    exact .refl _
  · refine st_test h (fun hb h => ?_) (fun hb h => ?_)
    · refine st_ret (t := t_R15_Elem) h ?_
      exact .refl _
    · refine st_test h (fun hb h => ?_) (fun hb h => ?_)
      · refine st_ret (t := t_R15_Elem) h ?_
        exact .refl _
      · refine st_ret (t := t_R15_Elem) h ?_
        exact .refl _
noncomputable def R15_Field_L1 (p1 : (List UInt8)) (x1 : (List (List UInt8)) × (List Int)) (v8 : Int) : Option (Unit ⊕ Int) :=
  if (decide (v8 < (x1.1.length : Int))) then
    idx x1.1 v8 >>= fun x5 =>
    if (x5 == p1) then
      idx x1.2 v8 >>= fun x6 =>
      some (.inr x6)
    else
      R15_Field_L1 p1 x1 (wr (v8 + 1))
  else
    some (.inl ())
  partial_fixpoint
set_option maxRecDepth 100000 in
set_option maxHeartbeats 4000000 in
theorem R15_Field_L1_grp : ∀ (p1 : (List UInt8)) (x1 : (List (List UInt8)) × (List Int)), (∀ (v8 : Int) (o2 : Unit ⊕ Int), R15_Field_L1 p1 x1 v8 = some o2 → TL (0, 0) Tryz.prog 30 R15_Field_L1_c (JP2 (0, 0) 30 o2 (.exit 0) (R15_Field_L1_x0 p1 x1) .ret (R15_Field_L1_x1 p1 x1)) (R15_Field_L1_st p1 x1 v8)) := by
  intro p1 x1
  refine R15_Field_L1.partial_correctness p1 x1 _ ?_
  intro R15_Field_L1' ih_R15_Field_L1 v8 o2 h
  refine TL.round (bwp_sound mixed tbOk (lv := R15_Field_lv) _ _ _ ?_)
  refine view (lenMap _ _) rfl ?_
  refine st_test h (fun hb h => ?_) (fun hb h => ?_)
  · refine st_idx (l := x1.1) (c := cStr) (c' := cStr) h (fun _ => rfl) (fun _ => rfl) (by decide) (fun x5 hi h => ?_)
    refine st_test h (fun hb h => ?_) (fun hb h => ?_)
    · refine st_idx (l := x1.2) (c := cInt) (c' := cInt) h (fun _ => rfl) (fun _ => rfl) (by decide) (fun x6 hi h => ?_)
      exact JP2.b h (Le.tow 0 0 rfl (.cons rfl (.refl _) (.cons rfl (.refl _) (.nil))) (.refl _) rfl)
    · refine TL.le (τ := R15_Field_L1_st p1 x1 (wr (v8 + 1))) ?_ ((ih_R15_Field_L1 (wr (v8 + 1)) _ h))
      exact Le.tow 0 0 rfl (.cons rfl (.refl _) (.cons rfl (.refl _) (.cons rfl (.refl _) (.cons rfl (.refl _) (.nil))))) (.refl _) rfl
  · exact JP2.a h (Le.tow 0 0 rfl (.nil) (.refl _) rfl)
theorem R15_Field_L1_ok : ∀ (p1 : (List UInt8)) (x1 : (List (List UInt8)) × (List Int)) (v8 : Int) (o2 : Unit ⊕ Int), R15_Field_L1 p1 x1 v8 = some o2 → TL (0, 0) Tryz.prog 30 R15_Field_L1_c (JP2 (0, 0) 30 o2 (.exit 0) (R15_Field_L1_x0 p1 x1) .ret (R15_Field_L1_x1 p1 x1)) (R15_Field_L1_st p1 x1 v8) := fun p1 x1 v8 o2 h => (R15_Field_L1_grp p1 x1) v8 o2 h
noncomputable def R15_fields (p0 : Int) : Option ((List (List UInt8)) × (List Int)) :=
  if (p0 == 4) then
    some ([[107, 101, 121], [118, 97, 108]], [1, 1])
  else
    if (p0 == 5) then
      some ([[102, 105, 114, 105, 110, 103], [115, 116, 97, 114, 116, 115], [118, 97, 108, 117, 101], [108, 97, 98, 101, 108, 115], [110, 111, 116, 101, 115], [108, 105, 110, 107]], [3, 2, 2, 8, 8, 1])
    else
      if (p0 == 6) then
        some ([[114, 101, 99, 101, 105, 118, 101, 114], [102, 105, 114, 105, 110, 103], [99, 111, 109, 109, 111, 110], [108, 105, 110, 107], [97, 108, 101, 114, 116, 115]], [1, 3, 8, 1, 9])
      else
        some ([], [])
set_option maxRecDepth 100000 in
set_option maxHeartbeats 4000000 in
theorem R15_fields_ok : ∀ (p0 : Int) (o : (List (List UInt8)) × (List Int)), R15_fields p0 = some o → PCall Tryz.prog 57 [iV p0] (t_R15_fields o) := by
  intro p0 o h
  unfold R15_fields at h
  refine PCall.ofB mixed tbOk R15_fields_lv Tryz.func57 rfl (by kernel_rfl) (Nat.le_of_ble_eq_true rfl) ?_
  refine st_test h (fun hb h => ?_) (fun hb h => ?_)
  · refine st_ret (t := t_R15_fields) h ?_
    exact .tup (xs := [.sl true [[sV [107, 101, 121]], [sV [118, 97, 108]]], .sl true [[iV 1], [iV 1]]]) (ys := [.sl false (([[107, 101, 121], [118, 97, 108]]).map cStr), .sl false ([1, 1].map cInt)]) (.cons (.not) (.cons (.not) (.nil)))
  · refine st_test h (fun hb h => ?_) (fun hb h => ?_)
    · refine st_ret (t := t_R15_fields) h ?_
      exact .tup (xs := [.sl true [[sV [102, 105, 114, 105, 110, 103]], [sV [115, 116, 97, 114, 116, 115]], [sV [118, 97, 108, 117, 101]], [sV [108, 97, 98, 101, 108, 115]], [sV [110, 111, 116, 101, 115]], [sV [108, 105, 110, 107]]], .sl true [[iV 3], [iV 2], [iV 2], [iV 8], [iV 8], [iV 1]]]) (ys := [.sl false (([[102, 105, 114, 105, 110, 103], [115, 116, 97, 114, 116, 115], [118, 97, 108, 117, 101], [108, 97, 98, 101, 108, 115], [110, 111, 116, 101, 115], [108, 105, 110, 107]]).map cStr), .sl false ([3, 2, 2, 8, 8, 1].map cInt)]) (.cons (.not) (.cons (.not) (.nil)))
    · refine st_test h (fun hb h => ?_) (fun hb h => ?_)
      · refine st_ret (t := t_R15_fields) h ?_
        exact .tup (xs := [.sl true [[sV [114, 101, 99, 101, 105, 118, 101, 114]], [sV [102, 105, 114, 105, 110, 103]], [sV [99, 111, 109, 109, 111, 110]], [sV [108, 105, 110, 107]], [sV [97, 108, 101, 114, 116, 115]]], .sl true [[iV 1], [iV 3], [iV 8], [iV 1], [iV 9]]]) (ys := [.sl false (([[114, 101, 99, 101, 105, 118, 101, 114], [102, 105, 114, 105, 110, 103], [99, 111, 109, 109, 111, 110], [108, 105, 110, 107], [97, 108, 101, 114, 116, 115]]).map cStr), .sl false ([1, 3, 8, 1, 9].map cInt)]) (.cons (.not) (.cons (.not) (.nil)))
      · refine st_ret (t := t_R15_fields) h ?_
        exact .tup (xs := [.sl true [], .sl true []]) (ys := [.sl false [], .sl false []]) (.cons (.not) (.cons (.not) (.nil)))
noncomputable def R15_Field (p0 : Int) (p1 : (List UInt8)) : Option (Int × Bool) :=
  R15_fields p0 >>= fun x1 =>
  (R15_Field_L1 p1 x1 0) >>= fun o2 =>
  match o2 with
  | .inl y3 =>
    some (0, false)
  | .inr y4 =>
    some (y4, true)
set_option maxRecDepth 100000 in
set_option maxHeartbeats 4000000 in
theorem R15_Field_ok : ∀ (p0 : Int) (p1 : (List UInt8)) (o : Int × Bool), R15_Field p0 p1 = some o → PCall Tryz.prog 28 [iV p0, sV p1] (t_R15_Field o) := by
  intro p0 p1 o h
  unfold R15_Field at h
  refine PCall.ofB mixed tbOk R15_Field_lv Tryz.func28 rfl (by kernel_rfl) (Nat.le_of_ble_eq_true rfl) ?_
  refine st_call [iV p0] t_R15_fields h (fun x1 hy => (R15_fields_ok p0 x1 hy)) (fun x1 hy h => ?_)
  refine st_bind h (fun o2 ho hk => ?_)
  refine Exists.intro (JP2 _ _ o2 (.exit 0) (R15_Field_L1_x0 p1 x1) .ret (R15_Field_L1_x1 p1 x1)) (And.intro (T_le (τ := R15_Field_L1_st p1 x1 0) ?_ (TL.loop (R15_Field_L1_ok p1 x1 0 o2 ho))) (join2 (fun y3 hy => ?_) (fun y4 hy => ?_)))
  · exact Le.tow 0 0 rfl (.cons rfl (.refl _) (.cons rfl (.refl _) (.cons rfl (.refl _) (.cons rfl (.refl _) (.nil))))) (.refl _) rfl
  · have h := (by rw [hy] at hk; exact hk)
    refine st_ret (t := t_R15_Field) h ?_
    exact .refl _
  · have h := (by rw [hy] at hk; exact hk)
    refine st_ret (t := t_R15_Field) h ?_
    exact .refl _
noncomputable def R15_Fields (p0 : Int) : Option ((List (List UInt8))) :=
  R15_fields p0 >>= fun x1 =>
  some x1.1
set_option maxRecDepth 100000 in
set_option maxHeartbeats 4000000 in
theorem R15_Fields_ok : ∀ (p0 : Int) (o : (List (List UInt8))), R15_Fields p0 = some o → PCall Tryz.prog 27 [iV p0] (t_R15_Fields o) := by
  intro p0 o h
  unfold R15_Fields at h
  refine PCall.ofB mixed tbOk R15_Fields_lv Tryz.func27 rfl (by kernel_rfl) (Nat.le_of_ble_eq_true rfl) ?_
  refine st_call [iV p0] t_R15_fields h (fun x1 hy => (R15_fields_ok p0 x1 hy)) (fun x1 hy h => ?_)
  refine st_ret (t := t_R15_Fields) h ?_
  exact .refl _
noncomputable def R15_Plain (p0 : Int) : Option (Bool) :=
  ( if (p0 == 1) then
      some true
    else
      if (p0 == 2) then
        some true
      else
        some (p0 == 3) : Option (Bool)) >>= fun o1 =>
  some o1
set_option maxRecDepth 100000 in
set_option maxHeartbeats 4000000 in
theorem R15_Plain_ok : ∀ (p0 : Int) (o : Bool), R15_Plain p0 = some o → PCall Tryz.prog 25 [iV p0] (t_R15_Plain o) := by
  intro p0 o h
  unfold R15_Plain at h
  refine PCall.ofB mixed tbOk R15_Plain_lv Tryz.func25 rfl (by kernel_rfl) (Nat.le_of_ble_eq_true rfl) ?_
  refine st_bind h (fun o1 ho hk => ?_)
  refine Exists.intro (JP1 _ _ o1 .normal (R15_Plain_J0_0 )) (And.intro ?_ (join1 ?_))
  · have h := ho
    refine st_test h (fun hb h => ?_) (fun hb h => ?_)
    · refine bT ?_
      refine JP1.a h ?_
      exact Le.tow 0 0 rfl (.cons rfl (.refl _) (.nil)) (.refl _) rfl
    · refine st_test h (fun hb h => ?_) (fun hb h => ?_)
      · refine JP1.a h ?_
        exact Le.tow 0 0 rfl (.cons rfl (.refl _) (.nil)) (.refl _) rfl
      · refine JP1.a h ?_
        exact Le.tow 0 0 rfl (.cons rfl (.refl _) (.nil)) (.refl _) rfl
  · have h := hk
    refine st_ret (t := t_R15_Plain) h ?_
    exact .refl _
noncomputable def R16_Find_L1 (p0 : api_Val) (p1 : (List UInt8)) (v6 : Int) : Option (Unit ⊕ (List UInt8)) :=
  if (decide (v6 < (p0.L.length : Int))) then
    idx p0.L v6 >>= fun x6 =>
    idx x6.L 0 >>= fun x7 =>
    if (x7.S == p1) then
      idx p0.L v6 >>= fun x8 =>
      idx x8.L 1 >>= fun x9 =>
      some (.inr x9.S)
    else
      R16_Find_L1 p0 p1 (wr (v6 + 1))
  else
    some (.inl ())
  partial_fixpoint
set_option maxRecDepth 100000 in
set_option maxHeartbeats 4000000 in
theorem R16_Find_L1_grp : ∀ (p0 : api_Val) (p1 : (List UInt8)), (∀ (v6 : Int) (o3 : Unit ⊕ (List UInt8)), R16_Find_L1 p0 p1 v6 = some o3 → TL (0, 0) Tryz.prog 42 R16_Find_L1_c (JP2 (0, 0) 42 o3 (.exit 0) (R16_Find_L1_x0 p0 p1) .ret (R16_Find_L1_x1 p0 p1)) (R16_Find_L1_st p0 p1 v6)) := by
  intro p0 p1
  refine R16_Find_L1.partial_correctness p0 p1 _ ?_
  intro R16_Find_L1' ih_R16_Find_L1 v6 o3 h
  refine TL.round (bwp_sound mixed tbOk (lv := R16_Find_lv) _ _ _ ?_)
  refine view (lenMap _ _) rfl ?_
  refine st_test h (fun hb h => ?_) (fun hb h => ?_)
  · refine st_idx (l := p0.L) (c := c_api_Val) (c' := l_api_Val) h c_api_Val_eq (fun _ => rfl) (by decide) (fun x6 hi h => ?_)
    refine st_idx (l := x6.L) (c := c_api_Val) (c' := l_api_Val) h c_api_Val_eq (fun _ => rfl) (by decide) (fun x7 hi h => ?_)
    refine st_test h (fun hb h => ?_) (fun hb h => ?_)
    · refine st_idx (l := p0.L) (c := c_api_Val) (c' := l_api_Val) h c_api_Val_eq (fun _ => rfl) (by decide) (fun x8 hi h => ?_)
      refine st_idx (l := x8.L) (c := c_api_Val) (c' := l_api_Val) h c_api_Val_eq (fun _ => rfl) (by decide) (fun x9 hi h => ?_)
      exact JP2.b h (Le.tow 1 0 rfl (.cons rfl (.refl _) (.cons rfl (.refl _) (.nil))) (.refl _) rfl)
    · refine TL.le (τ := R16_Find_L1_st p0 p1 (wr (v6 + 1))) ?_ ((ih_R16_Find_L1 (wr (v6 + 1)) _ h))
      exact Le.tow 1 0 rfl (.cons rfl (.refl _) (.cons rfl (.refl _) (.cons rfl (.refl _) (.nil)))) (.refl _) rfl
  · exact JP2.a h (Le.tow 1 0 rfl (.nil) (.refl _) rfl)
theorem R16_Find_L1_ok : ∀ (p0 : api_Val) (p1 : (List UInt8)) (v6 : Int) (o3 : Unit ⊕ (List UInt8)), R16_Find_L1 p0 p1 v6 = some o3 → TL (0, 0) Tryz.prog 42 R16_Find_L1_c (JP2 (0, 0) 42 o3 (.exit 0) (R16_Find_L1_x0 p0 p1) .ret (R16_Find_L1_x1 p0 p1)) (R16_Find_L1_st p0 p1 v6) := fun p0 p1 v6 o3 h => (R16_Find_L1_grp p0 p1) v6 o3 h
mutual
noncomputable def R16_Is (p0 : api_Val) : Option (Bool) :=
  ( if (decide (p0.K < 1)) then
      some true
    else
      some (decide (p0.K > 9)) : Option (Bool)) >>= fun o1 =>
  if o1 then
    some false
  else
    ( if (p0.K != 1) then
        if (!(p0.S == [])) then
          some true
        else
          if (p0.K != 2) then
            if (p0.N != 0) then
              some true
            else
              if (p0.K != 3) then
                some p0.B
              else
                some false
          else
            if (p0.K != 3) then
              some p0.B
            else
              some false
      else
        if (p0.K != 2) then
          if (p0.N != 0) then
            some true
          else
            if (p0.K != 3) then
              some p0.B
            else
              some false
        else
          if (p0.K != 3) then
            some p0.B
          else
            some false : Option (Bool)) >>= fun o2 =>
    if o2 then
      some false
    else
      R15_Plain p0.K >>= fun x3 =>
      if x3 then
        some ((p0.L.length : Int) == 0)
      else
        R15_Elem p0.K >>= fun x4 =>
        R15_Fields p0.K >>= fun x5 =>
        ( if x4.2 then
            if (decide ((p0.L.length : Int) > 4096)) then
              some true
            else
              if (!x4.2) then
                some ((p0.L.length : Int) != (x5.length : Int))
              else
                some false
          else
            if (!x4.2) then
              some ((p0.L.length : Int) != (x5.length : Int))
            else
              some false : Option (Bool)) >>= fun o6 =>
        if o6 then
          some false
        else
          (R16_Is_L1 p0 x4 x5 0) >>= fun o7 =>
          match o7 with
          | .inl y8 =>
            some true
          | .inr y9 =>
            some false
  partial_fixpoint
noncomputable def R16_Is_L1 (p0 : api_Val) (x4 : Int × Bool) (x5 : (List (List UInt8))) (v6 : Int) : Option (Unit ⊕ Unit) :=
  if (decide (v6 < (p0.L.length : Int))) then
    ( if (!x4.2) then
        idx x5 v6 >>= fun x11 =>
        R15_Field p0.K x11 >>= fun x12 =>
        some x12.1
      else
        some x4.1 : Option (Int)) >>= fun o10 =>
    ( idx p0.L v6 >>= fun x14 =>
      if (x14.K != o10) then
        some true
      else
        idx p0.L v6 >>= fun x15 =>
        R16_Is x15 >>= fun x16 =>
        some (!x16) : Option (Bool)) >>= fun o13 =>
    if o13 then
      some (.inr ())
    else
      R16_Is_L1 p0 x4 x5 (wr (v6 + 1))
  else
    some (.inl ())
  partial_fixpoint
end
set_option maxRecDepth 100000 in
set_option maxHeartbeats 4000000 in
theorem R16_Is_grp : (∀ (p0 : api_Val) (o : Bool), R16_Is p0 = some o → PCall Tryz.prog 11 [.agg [iV p0.K, sV p0.S, iV p0.N, bV p0.B, .sl false (p0.L.map c_api_Val)]] (t_R16_Is o)) ∧ (∀ (p0 : api_Val) (x4 : Int × Bool) (x5 : (List (List UInt8))) (v6 : Int) (o7 : Unit ⊕ Unit), R16_Is_L1 p0 x4 x5 v6 = some o7 → TL (0, 0) Tryz.prog 115 R16_Is_L1_c (JP2 (0, 0) 115 o7 (.exit 0) (R16_Is_L1_x0 p0 x4 x5) .ret (R16_Is_L1_x1 p0 x4 x5)) (R16_Is_L1_st p0 x4 x5 v6)) := by
  refine R16_Is.mutual_partial_correctness _ _ ?_ ?_
  · intro R16_Is_L1' ih_R16_Is_L1 p0 o h
    refine PCall.ofB mixed tbOk R16_Is_lv Tryz.func11 rfl (by kernel_rfl) (Nat.le_of_ble_eq_true rfl) ?_
    refine st_bind h (fun o1 ho hk => ?_)
    refine Exists.intro (JP1 _ _ o1 .normal (R16_Is_J0_0 p0)) (And.intro ?_ (join1 ?_))
    · have h := ho
      refine st_test h (fun hb h => ?_) (fun hb h => ?_)
      · refine JP1.a h ?_
        exact Le.tow 1 0 rfl (.cons rfl (.refl _) (.cons rfl (.refl _) (.nil))) (.refl _) rfl
      · refine JP1.a h ?_
        exact Le.tow 1 0 rfl (.cons rfl (.refl _) (.cons rfl (.refl _) (.nil))) (.refl _) rfl
    · have h := hk
      refine st_test h (fun hb h => ?_) (fun hb h => ?_)
      · refine st_ret (t := t_R16_Is) h ?_
        exact .refl _
      · refine st_bind h (fun o2 ho hk => ?_)
        refine Exists.intro (JP1 _ _ o2 .normal (R16_Is_J1_0 p0)) (And.intro ?_ (join1 ?_))
        · have h := ho
          refine st_test h (fun hb h => ?_) (fun hb h => ?_)
          · refine st_test h (fun hb h => ?_) (fun hb h => ?_)
            · refine bT ?_
              refine JP1.a h ?_
              exact Le.tow 1 0 rfl (.cons rfl (.refl _) (.cons rfl (.refl _) (.nil))) (.refl _) rfl
            · refine st_test h (fun hb h => ?_) (fun hb h => ?_)
              · refine st_test h (fun hb h => ?_) (fun hb h => ?_)
                · refine JP1.a h ?_
                  exact Le.tow 1 0 rfl (.cons rfl (.refl _) (.cons rfl (.refl _) (.nil))) (.refl _) rfl
                · refine st_test h (fun hb h => ?_) (fun hb h => ?_)
                  · refine JP1.a h ?_
                    exact Le.tow 1 0 rfl (.cons rfl (.refl _) (.cons rfl (.refl _) (.nil))) (.refl _) rfl
                  · refine JP1.a h ?_
                    exact Le.tow 1 0 rfl (.cons rfl (.refl _) (.cons rfl (.refl _) (.nil))) (.refl _) rfl
              · refine bF ?_
                refine st_test h (fun hb h => ?_) (fun hb h => ?_)
                · refine JP1.a h ?_
                  exact Le.tow 1 0 rfl (.cons rfl (.refl _) (.cons rfl (.refl _) (.nil))) (.refl _) rfl
                · refine JP1.a h ?_
                  exact Le.tow 1 0 rfl (.cons rfl (.refl _) (.cons rfl (.refl _) (.nil))) (.refl _) rfl
          · refine bF ?_
            refine st_test h (fun hb h => ?_) (fun hb h => ?_)
            · refine st_test h (fun hb h => ?_) (fun hb h => ?_)
              · refine JP1.a h ?_
                exact Le.tow 1 0 rfl (.cons rfl (.refl _) (.cons rfl (.refl _) (.nil))) (.refl _) rfl
              · refine st_test h (fun hb h => ?_) (fun hb h => ?_)
                · refine JP1.a h ?_
                  exact Le.tow 1 0 rfl (.cons rfl (.refl _) (.cons rfl (.refl _) (.nil))) (.refl _) rfl
                · refine JP1.a h ?_
                  exact Le.tow 1 0 rfl (.cons rfl (.refl _) (.cons rfl (.refl _) (.nil))) (.refl _) rfl
            · refine bF ?_
              refine st_test h (fun hb h => ?_) (fun hb h => ?_)
              · refine JP1.a h ?_
                exact Le.tow 1 0 rfl (.cons rfl (.refl _) (.cons rfl (.refl _) (.nil))) (.refl _) rfl
              · refine JP1.a h ?_
                exact Le.tow 1 0 rfl (.cons rfl (.refl _) (.cons rfl (.refl _) (.nil))) (.refl _) rfl
        · have h := hk
          refine st_test h (fun hb h => ?_) (fun hb h => ?_)
          · refine st_ret (t := t_R16_Is) h ?_
            exact .refl _
          · refine st_call [iV p0.K] t_R15_Plain h (fun x3 hy => (R15_Plain_ok p0.K x3 hy)) (fun x3 hy h => ?_)
            refine st_test h (fun hb h => ?_) (fun hb h => ?_)
            · refine view (lenMap _ _) rfl ?_
              refine st_ret (t := t_R16_Is) h ?_
              exact .refl _
            · refine st_call [iV p0.K] t_R15_Elem h (fun x4 hy => (R15_Elem_ok p0.K x4 hy)) (fun x4 hy h => ?_)
              refine st_call [iV p0.K] t_R15_Fields h (fun x5 hy => (R15_Fields_ok p0.K x5 hy)) (fun x5 hy h => ?_)
              refine st_bind h (fun o6 ho hk => ?_)
              refine Exists.intro (JP1 _ _ o6 .normal (R16_Is_J2_0 p0 x4 x5)) (And.intro ?_ (join1 ?_))
              · have h := ho
                refine st_test h (fun hb h => ?_) (fun hb h => ?_)
                · refine view (lenMap _ _) rfl ?_
                  refine st_test h (fun hb h => ?_) (fun hb h => ?_)
                  · refine JP1.a h ?_
                    exact Le.tow 1 0 rfl (.cons rfl (.refl _) (.cons rfl (.refl _) (.cons rfl (.refl _) (.cons rfl (.refl _) (.cons rfl (.refl _) (.nil)))))) (.refl _) rfl
                  · refine st_test h (fun hb h => ?_) (fun hb h => ?_)
                    · refine view (lenMap _ _) rfl ?_
                      refine view (lenMap _ _) rfl ?_
                      refine JP1.a h ?_
                      exact Le.tow 1 0 rfl (.cons rfl (.refl _) (.cons rfl (.refl _) (.cons rfl (.refl _) (.cons rfl (.refl _) (.cons rfl (.refl _) (.nil)))))) (.refl _) rfl
                    · refine JP1.a h ?_
                      exact Le.tow 1 0 rfl (.cons rfl (.refl _) (.cons rfl (.refl _) (.cons rfl (.refl _) (.cons rfl (.refl _) (.cons rfl (.refl _) (.nil)))))) (.refl _) rfl
                · refine bF ?_
                  refine st_test h (fun hb h => ?_) (fun hb h => ?_)
                  · refine view (lenMap _ _) rfl ?_
                    refine view (lenMap _ _) rfl ?_
                    refine JP1.a h ?_
                    exact Le.tow 1 0 rfl (.cons rfl (.refl _) (.cons rfl (.refl _) (.cons rfl (.refl _) (.cons rfl (.refl _) (.cons rfl (.refl _) (.nil)))))) (.refl _) rfl
                  · refine JP1.a h ?_
                    exact Le.tow 1 0 rfl (.cons rfl (.refl _) (.cons rfl (.refl _) (.cons rfl (.refl _) (.cons rfl (.refl _) (.cons rfl (.refl _) (.nil)))))) (.refl _) rfl
              · have h := hk
                refine st_test h (fun hb h => ?_) (fun hb h => ?_)
                · refine st_ret (t := t_R16_Is) h ?_
                  exact .refl _
                · refine st_bind h (fun o7 ho hk => ?_)
                  refine Exists.intro (JP2 _ _ o7 (.exit 0) (R16_Is_L1_x0 p0 x4 x5) .ret (R16_Is_L1_x1 p0 x4 x5)) (And.intro (T_le (τ := R16_Is_L1_st p0 x4 x5 0) ?_ (TL.loop (ih_R16_Is_L1 p0 x4 x5 0 o7 ho))) (join2 (fun y8 hy => ?_) (fun y9 hy => ?_)))
                  · exact Le.tow 1 0 rfl (.cons rfl (.refl _) (.cons rfl (.refl _) (.cons rfl (.refl _) (.cons rfl (.refl _) (.cons rfl (.refl _) (.nil)))))) (.refl _) rfl
                  · have h := (by rw [hy] at hk; exact hk)
                    refine st_ret (t := t_R16_Is) h ?_
                    exact .refl _
                  · have h := (by rw [hy] at hk; exact hk)
                    refine st_ret (t := t_R16_Is) h ?_
                    exact .refl _
  · intro R16_Is' R16_Is_L1' ih_R16_Is ih_R16_Is_L1 p0 x4 x5 v6 o7 h
    refine TL.round (bwp_sound mixed tbOk (lv := R16_Is_lv) _ _ _ ?_)
    refine view (lenMap _ _) rfl ?_
    refine st_test h (fun hb h => ?_) (fun hb h => ?_)
    · refine st_bind h (fun o10 ho hk => ?_)
      refine Exists.intro (JP1 _ _ o10 .normal (R16_Is_J3_0 p0 x4 x5 v6)) (And.intro ?_ (join1 ?_))
      · have h := ho
        refine st_test h (fun hb h => ?_) (fun hb h => ?_)
        · refine And.intro (by decide +kernel) (And.intro rfl ?_)
          refine st_idx (l := x5) (c := cStr) (c' := cStr) h (fun _ => rfl) (fun _ => rfl) (by decide) (fun x11 hi h => ?_)
          refine st_calld [iV p0.K, sV x11] t_R15_Field h (fun x12 hy => (R15_Field_ok p0.K x11 x12 hy)) (fun x12 hy h => ?_)
          refine JP1.a h ?_
          exact Le.tow 1 0 rfl (.cons rfl (.refl _) (.cons rfl (.refl _) (.cons rfl (.refl _) (.cons rfl (.refl _) (.cons rfl (.refl _) (.cons rfl (.refl _) (.nil))))))) (.refl _) rfl
        · refine JP1.a h ?_
          exact Le.tow 1 0 rfl (.cons rfl (.refl _) (.cons rfl (.refl _) (.cons rfl (.refl _) (.cons rfl (.refl _) (.cons rfl (.refl _) (.cons rfl (.refl _) (.nil))))))) (.refl _) rfl
      · have h := hk
        refine st_bind h (fun o13 ho hk => ?_)
        refine Exists.intro (JP1 _ _ o13 .normal (R16_Is_J4_0 p0 x4 x5 v6)) (And.intro ?_ (join1 ?_))
        · have h := ho
          refine st_idx (l := p0.L) (c := c_api_Val) (c' := l_api_Val) h c_api_Val_eq (fun _ => rfl) (by decide) (fun x14 hi h => ?_)
          refine st_test h (fun hb h => ?_) (fun hb h => ?_)
          · refine JP1.a h ?_
            exact Le.tow 1 0 rfl (.cons rfl (.refl _) (.cons rfl (.refl _) (.cons rfl (.refl _) (.cons rfl (.refl _) (.cons rfl (.refl _) (.cons rfl (.refl _) (.nil))))))) (.refl _) rfl
          · refine st_idx (l := p0.L) (c := c_api_Val) (c' := l_api_Val) h c_api_Val_eq (fun _ => rfl) (by decide) (fun x15 hi h => ?_)
            refine st_call [.agg [iV x15.K, sV x15.S, iV x15.N, bV x15.B, .sl false (x15.L.map c_api_Val)]] t_R16_Is h (fun x16 hy => (ih_R16_Is x15 x16 hy)) (fun x16 hy h => ?_)
            refine JP1.a h ?_
            exact Le.tow 1 0 rfl (.cons rfl (.refl _) (.cons rfl (.refl _) (.cons rfl (.refl _) (.cons rfl (.refl _) (.cons rfl (.refl _) (.cons rfl (.refl _) (.nil))))))) (.refl _) rfl
        · have h := hk
          refine st_test h (fun hb h => ?_) (fun hb h => ?_)
          · exact JP2.b h (Le.tow 1 0 rfl (.cons rfl (.refl _) (.nil)) (.refl _) rfl)
          · refine TL.le (τ := R16_Is_L1_st p0 x4 x5 (wr (v6 + 1))) ?_ ((ih_R16_Is_L1 p0 x4 x5 (wr (v6 + 1)) _ h))
            exact Le.tow 1 0 rfl (.cons rfl (.refl _) (.cons rfl (.refl _) (.cons rfl (.refl _) (.cons rfl (.refl _) (.cons rfl (.refl _) (.nil)))))) (.refl _) rfl
    · exact JP2.a h (Le.tow 1 0 rfl (.nil) (.refl _) rfl)
theorem R16_Is_ok : ∀ (p0 : api_Val) (o : Bool), R16_Is p0 = some o → PCall Tryz.prog 11 [.agg [iV p0.K, sV p0.S, iV p0.N, bV p0.B, .sl false (p0.L.map c_api_Val)]] (t_R16_Is o) := fun p0 o h => R16_Is_grp.1 p0 o h
noncomputable def R16_Find (p0 : api_Val) (p1 : (List UInt8)) : Option ((List UInt8) × Bool) :=
  ( if (p0.K != 8) then
      some true
    else
      R16_Is p0 >>= fun x2 =>
      some (!x2) : Option (Bool)) >>= fun o1 =>
  if o1 then
    some ([], false)
  else
    (R16_Find_L1 p0 p1 0) >>= fun o3 =>
    match o3 with
    | .inl y4 =>
      some ([], false)
    | .inr y5 =>
      some (y5, true)
set_option maxRecDepth 100000 in
set_option maxHeartbeats 4000000 in
theorem R16_Find_ok : ∀ (p0 : api_Val) (p1 : (List UInt8)) (o : (List UInt8) × Bool), R16_Find p0 p1 = some o → PCall Tryz.prog 54 [.agg [iV p0.K, sV p0.S, iV p0.N, bV p0.B, .sl false (p0.L.map c_api_Val)], sV p1] (t_R16_Find o) := by
  intro p0 p1 o h
  unfold R16_Find at h
  refine PCall.ofB mixed tbOk R16_Find_lv Tryz.func54 rfl (by kernel_rfl) (Nat.le_of_ble_eq_true rfl) ?_
  refine st_bind h (fun o1 ho hk => ?_)
  refine Exists.intro (JP1 _ _ o1 .normal (R16_Find_J0_0 p0 p1)) (And.intro ?_ (join1 ?_))
  · have h := ho
    refine st_test h (fun hb h => ?_) (fun hb h => ?_)
    · refine JP1.a h ?_
      exact Le.tow 1 0 rfl (.cons rfl (.refl _) (.cons rfl (.refl _) (.cons rfl (.refl _) (.nil)))) (.refl _) rfl
    · refine st_call [.agg [iV p0.K, sV p0.S, iV p0.N, bV p0.B, .sl false (p0.L.map c_api_Val)]] t_R16_Is h (fun x2 hy => (R16_Is_ok p0 x2 hy)) (fun x2 hy h => ?_)
      refine JP1.a h ?_
      exact Le.tow 1 0 rfl (.cons rfl (.refl _) (.cons rfl (.refl _) (.cons rfl (.refl _) (.nil)))) (.refl _) rfl
  · have h := hk
    refine st_test h (fun hb h => ?_) (fun hb h => ?_)
    · refine st_ret (t := t_R16_Find) h ?_
      exact .refl _
    · refine st_bind h (fun o3 ho hk => ?_)
      refine Exists.intro (JP2 _ _ o3 (.exit 0) (R16_Find_L1_x0 p0 p1) .ret (R16_Find_L1_x1 p0 p1)) (And.intro (T_le (τ := R16_Find_L1_st p0 p1 0) ?_ (TL.loop (R16_Find_L1_ok p0 p1 0 o3 ho))) (join2 (fun y4 hy => ?_) (fun y5 hy => ?_)))
      · exact Le.tow 1 0 rfl (.cons rfl (.refl _) (.cons rfl (.refl _) (.cons rfl (.refl _) (.nil)))) (.refl _) rfl
      · have h := (by rw [hy] at hk; exact hk)
        refine st_ret (t := t_R16_Find) h ?_
        exact .refl _
      · have h := (by rw [hy] at hk; exact hk)
        refine st_ret (t := t_R16_Find) h ?_
        exact .refl _
mutual
noncomputable def R16_Same (p0 : api_Val) (p1 : api_Val) : Option (Bool) :=
  ( if (p0.K != p1.K) then
      some true
    else
      if (!(p0.S == p1.S)) then
        some true
      else
        if (p0.N != p1.N) then
          some true
        else
          if (p0.B != p1.B) then
            some true
          else
            some ((p0.L.length : Int) != (p1.L.length : Int)) : Option (Bool)) >>= fun o1 =>
  if o1 then
    some false
  else
    (R16_Same_L1 p0 p1 0) >>= fun o2 =>
    match o2 with
    | .inl y3 =>
      some true
    | .inr y4 =>
      some false
  partial_fixpoint
noncomputable def R16_Same_L1 (p0 : api_Val) (p1 : api_Val) (v5 : Int) : Option (Unit ⊕ Unit) :=
  if (decide (v5 < (p0.L.length : Int))) then
    idx p0.L v5 >>= fun x5 =>
    idx p1.L v5 >>= fun x6 =>
    R16_Same x5 x6 >>= fun x7 =>
    if (!x7) then
      some (.inr ())
    else
      R16_Same_L1 p0 p1 (wr (v5 + 1))
  else
    some (.inl ())
  partial_fixpoint
end
set_option maxRecDepth 100000 in
set_option maxHeartbeats 4000000 in
theorem R16_Same_grp : (∀ (p0 : api_Val) (p1 : api_Val) (o : Bool), R16_Same p0 p1 = some o → PCall Tryz.prog 9 [.agg [iV p0.K, sV p0.S, iV p0.N, bV p0.B, .sl false (p0.L.map c_api_Val)], .agg [iV p1.K, sV p1.S, iV p1.N, bV p1.B, .sl false (p1.L.map c_api_Val)]] (t_R16_Same o)) ∧ (∀ (p0 : api_Val) (p1 : api_Val) (v5 : Int) (o2 : Unit ⊕ Unit), R16_Same_L1 p0 p1 v5 = some o2 → TL (0, 0) Tryz.prog 60 R16_Same_L1_c (JP2 (0, 0) 60 o2 (.exit 0) (R16_Same_L1_x0 p0 p1) .ret (R16_Same_L1_x1 p0 p1)) (R16_Same_L1_st p0 p1 v5)) := by
  refine R16_Same.mutual_partial_correctness _ _ ?_ ?_
  · intro R16_Same_L1' ih_R16_Same_L1 p0 p1 o h
    refine PCall.ofB mixed tbOk R16_Same_lv Tryz.func9 rfl (by kernel_rfl) (Nat.le_of_ble_eq_true rfl) ?_
    refine st_bind h (fun o1 ho hk => ?_)
    refine Exists.intro (JP1 _ _ o1 .normal (R16_Same_J0_0 p0 p1)) (And.intro ?_ (join1 ?_))
    · have h := ho
      refine st_test h (fun hb h => ?_) (fun hb h => ?_)
      · refine bT ?_
        refine bT ?_
        refine bT ?_
        refine JP1.a h ?_
        exact Le.tow 2 0 rfl (.cons rfl (.refl _) (.cons rfl (.refl _) (.cons rfl (.refl _) (.nil)))) (.refl _) rfl
      · refine st_test h (fun hb h => ?_) (fun hb h => ?_)
        · refine bT ?_
          refine bT ?_
          refine JP1.a h ?_
          exact Le.tow 2 0 rfl (.cons rfl (.refl _) (.cons rfl (.refl _) (.cons rfl (.refl _) (.nil)))) (.refl _) rfl
        · refine st_test h (fun hb h => ?_) (fun hb h => ?_)
          · refine bT ?_
            refine JP1.a h ?_
            exact Le.tow 2 0 rfl (.cons rfl (.refl _) (.cons rfl (.refl _) (.cons rfl (.refl _) (.nil)))) (.refl _) rfl
          · refine st_test h (fun hb h => ?_) (fun hb h => ?_)
            · refine JP1.a h ?_
              exact Le.tow 2 0 rfl (.cons rfl (.refl _) (.cons rfl (.refl _) (.cons rfl (.refl _) (.nil)))) (.refl _) rfl
            · refine view (lenMap _ _) rfl ?_
              refine view (lenMap _ _) rfl ?_
              refine JP1.a h ?_
              exact Le.tow 2 0 rfl (.cons rfl (.refl _) (.cons rfl (.refl _) (.cons rfl (.refl _) (.nil)))) (.refl _) rfl
    · have h := hk
      refine st_test h (fun hb h => ?_) (fun hb h => ?_)
      · refine st_ret (t := t_R16_Same) h ?_
        exact .refl _
      · refine st_bind h (fun o2 ho hk => ?_)
        refine Exists.intro (JP2 _ _ o2 (.exit 0) (R16_Same_L1_x0 p0 p1) .ret (R16_Same_L1_x1 p0 p1)) (And.intro (T_le (τ := R16_Same_L1_st p0 p1 0) ?_ (TL.loop (ih_R16_Same_L1 p0 p1 0 o2 ho))) (join2 (fun y3 hy => ?_) (fun y4 hy => ?_)))
        · exact Le.tow 2 0 rfl (.cons rfl (.refl _) (.cons rfl (.refl _) (.cons rfl (.refl _) (.nil)))) (.refl _) rfl
        · have h := (by rw [hy] at hk; exact hk)
          refine st_ret (t := t_R16_Same) h ?_
          exact .refl _
        · have h := (by rw [hy] at hk; exact hk)
          refine st_ret (t := t_R16_Same) h ?_
          exact .refl _
  · intro R16_Same' R16_Same_L1' ih_R16_Same ih_R16_Same_L1 p0 p1 v5 o2 h
    refine TL.round (bwp_sound mixed tbOk (lv := R16_Same_lv) _ _ _ ?_)
    refine view (lenMap _ _) rfl ?_
    refine st_test h (fun hb h => ?_) (fun hb h => ?_)
    · refine And.intro (by decide +kernel) (And.intro rfl ?_)
      refine st_idx (l := p0.L) (c := c_api_Val) (c' := l_api_Val) h c_api_Val_eq (fun _ => rfl) (by decide) (fun x5 hi h => ?_)
      refine st_idx (l := p1.L) (c := c_api_Val) (c' := l_api_Val) h c_api_Val_eq (fun _ => rfl) (by decide) (fun x6 hi h => ?_)
      refine st_calld [.agg [iV x5.K, sV x5.S, iV x5.N, bV x5.B, .sl false (x5.L.map c_api_Val)], .agg [iV x6.K, sV x6.S, iV x6.N, bV x6.B, .sl false (x6.L.map c_api_Val)]] t_R16_Same h (fun x7 hy => (ih_R16_Same x5 x6 x7 hy)) (fun x7 hy h => ?_)
      refine st_test h (fun hb h => ?_) (fun hb h => ?_)
      · exact JP2.b h (Le.tow 2 0 rfl (.cons rfl (.refl _) (.nil)) (.refl _) rfl)
      · refine TL.le (τ := R16_Same_L1_st p0 p1 (wr (v5 + 1))) ?_ ((ih_R16_Same_L1 p0 p1 (wr (v5 + 1)) _ h))
        exact Le.tow 2 0 rfl (.cons rfl (.refl _) (.cons rfl (.refl _) (.cons rfl (.refl _) (.nil)))) (.refl _) rfl
    · exact JP2.a h (Le.tow 2 0 rfl (.nil) (.refl _) rfl)
theorem R16_Same_ok : ∀ (p0 : api_Val) (p1 : api_Val) (o : Bool), R16_Same p0 p1 = some o → PCall Tryz.prog 9 [.agg [iV p0.K, sV p0.S, iV p0.N, bV p0.B, .sl false (p0.L.map c_api_Val)], .agg [iV p1.K, sV p1.S, iV p1.N, bV p1.B, .sl false (p1.L.map c_api_Val)]] (t_R16_Same o) := fun p0 p1 o h => R16_Same_grp.1 p0 p1 o h
noncomputable def R16_Text (p0 : (List UInt8)) : Option (api_Val) :=
  some (api_Val.mk 1 p0 0 false [])
set_option maxRecDepth 100000 in
set_option maxHeartbeats 4000000 in
theorem R16_Text_ok : ∀ (p0 : (List UInt8)) (o : api_Val), R16_Text p0 = some o → PCall Tryz.prog 15 [sV p0] (t_R16_Text o) := by
  intro p0 o h
  unfold R16_Text at h
  refine PCall.ofB mixed tbOk R16_Text_lv Tryz.func15 rfl (by kernel_rfl) (Nat.le_of_ble_eq_true rfl) ?_
  refine st_ret (t := t_R16_Text) h ?_
  exact .p (.agg' (.cons (.refl _) (.cons (.refl _) (.cons (.refl _) (.cons (.refl _) (.cons (.not) (.nil)))))))
noncomputable def R31_Call_L1 (p0 : (List UInt8)) (p1 : (List api_Val)) (v6 : (List Int)) (v7 : Int) : Option ((List Int) ⊕ Unit) :=
  if (decide (v7 < (p1.length : Int))) then
    idx p1 v7 >>= fun x4 =>
    R16_Is x4 >>= fun x5 =>
    if (!x5) then
      some (.inr ())
    else
      idx p1 v7 >>= fun x6 =>
      appL 8 v6 [x6.K] >>= fun x7 =>
      R31_Call_L1 p0 p1 x7 (wr (v7 + 1))
  else
    some (.inl v6)
  partial_fixpoint
set_option maxRecDepth 100000 in
set_option maxHeartbeats 4000000 in
theorem R31_Call_L1_grp : ∀ (p0 : (List UInt8)) (p1 : (List api_Val)), (∀ (v6 : (List Int)) (v7 : Int) (o1 : (List Int) ⊕ Unit), R31_Call_L1 p0 p1 v6 v7 = some o1 → TL (0, 0) Tryz.prog 98 R31_Call_L1_c (JP2 (0, 0) 98 o1 (.exit 0) (R31_Call_L1_x0 p0 p1) .ret (R31_Call_L1_x1 p0 p1)) (R31_Call_L1_st p0 p1 v6 v7)) := by
  intro p0 p1
  refine R31_Call_L1.partial_correctness p0 p1 _ ?_
  intro R31_Call_L1' ih_R31_Call_L1 v6 v7 o1 h
  refine TL.round (bwp_sound mixed tbOk (lv := R31_Call_lv) _ _ _ ?_)
  refine view (lenMap _ _) rfl ?_
  refine st_test h (fun hb h => ?_) (fun hb h => ?_)
  · refine st_idx (l := p1) (c := c_api_Val) (c' := l_api_Val) h c_api_Val_eq (fun _ => rfl) (by decide) (fun x4 hi h => ?_)
    refine st_call [.agg [iV x4.K, sV x4.S, iV x4.N, bV x4.B, .sl false (x4.L.map c_api_Val)]] t_R16_Is h (fun x5 hy => (R16_Is_ok x4 x5 hy)) (fun x5 hy h => ?_)
    refine st_test h (fun hb h => ?_) (fun hb h => ?_)
    · exact JP2.b h (Le.tow 1 0 rfl (.cons rfl (.refl _) (.cons rfl (.refl _) (.nil))) (.refl _) rfl)
    · refine st_idx (l := p1) (c := c_api_Val) (c' := l_api_Val) h c_api_Val_eq (fun _ => rfl) (by decide) (fun x6 hi h => ?_)
      refine st_appo (a := v6) (b := [x6.K]) (c := cInt) h (.refl _) (fun _ => rfl) rfl (fun x7 hi h => ?_)
      refine TL.le (τ := R31_Call_L1_st p0 p1 x7 (wr (v7 + 1))) ?_ ((ih_R31_Call_L1 x7 (wr (v7 + 1)) _ h))
      exact Le.tow 1 1 rfl (.cons rfl (.refl _) (.cons rfl (.refl _) (.cons rfl (.refl _) (.cons rfl (.refl _) (.cons rfl (.refl _) (.nil)))))) (.refl _) rfl
  · exact JP2.a h (Le.tow 1 1 rfl (.cons rfl (.refl _) (.cons rfl (.refl _) (.cons rfl (.refl _) (.cons rfl (.refl _) (.nil))))) (.refl _) rfl)
theorem R31_Call_L1_ok : ∀ (p0 : (List UInt8)) (p1 : (List api_Val)) (v6 : (List Int)) (v7 : Int) (o1 : (List Int) ⊕ Unit), R31_Call_L1 p0 p1 v6 v7 = some o1 → TL (0, 0) Tryz.prog 98 R31_Call_L1_c (JP2 (0, 0) 98 o1 (.exit 0) (R31_Call_L1_x0 p0 p1) .ret (R31_Call_L1_x1 p0 p1)) (R31_Call_L1_st p0 p1 v6 v7) := fun p0 p1 v6 v7 o1 h => (R31_Call_L1_grp p0 p1) v6 v7 o1 h
noncomputable def R31_Call_L2 (p1 : (List api_Val)) (y2 : (List Int)) (v12 : Int) (h1_4 : (List api_Val)) : Option ((List api_Val)) :=
  idx p1 0 >>= fun x14 =>
  if (decide (v12 < (x14.L.length : Int))) then
    idx p1 0 >>= fun x15 =>
    idx x15.L v12 >>= fun x16 =>
    idx x16.L 0 >>= fun x17 =>
    R16_Text x17.S >>= fun x18 =>
    appL 64 h1_4 [x18] >>= fun x19 =>
    R31_Call_L2 p1 y2 (wr (v12 + 1)) x19
  else
    some h1_4
  partial_fixpoint
set_option maxRecDepth 100000 in
set_option maxHeartbeats 4000000 in
theorem R31_Call_L2_grp : ∀ (p1 : (List api_Val)) (y2 : (List Int)), (∀ (v12 : Int) (h1_4 : (List api_Val)) (o13 : (List api_Val)), R31_Call_L2 p1 y2 v12 h1_4 = some o13 → TL (0, 0) Tryz.prog 98 R31_Call_L2_c (JP1 (0, 0) 98 o13 (.exit 3) (R31_Call_L2_x0 p1 y2)) (R31_Call_L2_st p1 y2 v12 h1_4)) := by
  intro p1 y2
  refine R31_Call_L2.partial_correctness p1 y2 _ ?_
  intro R31_Call_L2' ih_R31_Call_L2 v12 h1_4 o13 h
  refine TL.round (bwp_sound mixed tbOk (lv := R31_Call_lv) _ _ _ ?_)
  refine st_idx (l := p1) (c := c_api_Val) (c' := l_api_Val) h c_api_Val_eq (fun _ => rfl) (by decide) (fun x14 hi h => ?_)
  refine view (lenMap _ _) rfl ?_
  refine st_test h (fun hb h => ?_) (fun hb h => ?_)
  · refine And.intro (by decide +kernel) (And.intro rfl ?_)
    refine st_idx (l := p1) (c := c_api_Val) (c' := l_api_Val) h c_api_Val_eq (fun _ => rfl) (by decide) (fun x15 hi h => ?_)
    refine st_idx (l := x15.L) (c := c_api_Val) (c' := l_api_Val) h c_api_Val_eq (fun _ => rfl) (by decide) (fun x16 hi h => ?_)
    refine st_idx (l := x16.L) (c := c_api_Val) (c' := l_api_Val) h c_api_Val_eq (fun _ => rfl) (by decide) (fun x17 hi h => ?_)
    refine st_calld [sV x17.S] t_R16_Text h (fun x18 hy => (R16_Text_ok x17.S x18 hy)) (fun x18 hy h => ?_)
    refine st_appo (a := h1_4) (b := [x18]) (c := c_api_Val) h (.cons (.ceq (c_api_Val_eq _) (.refl _)) (.nil)) (fun x => by rw [c_api_Val_eq]; rfl) rfl (fun x19 hi h => ?_)
    refine TL.le (τ := R31_Call_L2_st p1 y2 (wr (v12 + 1)) x19) ?_ ((ih_R31_Call_L2 (wr (v12 + 1)) x19 _ h))
    exact Le.tow 2 2 rfl (.cons rfl (.refl _) (.cons rfl (.refl _) (.cons rfl (.refl _) (.cons rfl (.refl _) (.nil))))) (.refl _) rfl
  · exact JP1.a h (Le.tow 2 2 rfl (.cons rfl (.refl _) (.cons rfl (.refl _) (.nil))) (.refl _) rfl)
theorem R31_Call_L2_ok : ∀ (p1 : (List api_Val)) (y2 : (List Int)) (v12 : Int) (h1_4 : (List api_Val)) (o13 : (List api_Val)), R31_Call_L2 p1 y2 v12 h1_4 = some o13 → TL (0, 0) Tryz.prog 98 R31_Call_L2_c (JP1 (0, 0) 98 o13 (.exit 3) (R31_Call_L2_x0 p1 y2)) (R31_Call_L2_st p1 y2 v12 h1_4) := fun p1 y2 v12 h1_4 o13 h => (R31_Call_L2_grp p1 y2) v12 h1_4 o13 h
noncomputable def R31_add (p0 : Int) (p1 : Int) : Option (Int) :=
  ( if (decide (p1 > 0)) then
      some (decide (p0 > (wr (9223372036854775807 - p1))))
    else
      some false : Option (Bool)) >>= fun o1 =>
  if o1 then
    some 9223372036854775807
  else
    ( if (decide (p1 < 0)) then
        some (decide (p0 < (wr ((-9223372036854775808) - p1))))
      else
        some false : Option (Bool)) >>= fun o2 =>
    if o2 then
      some (-9223372036854775808)
    else
      some (wr (p0 + p1))
set_option maxRecDepth 100000 in
set_option maxHeartbeats 4000000 in
theorem R31_add_ok : ∀ (p0 : Int) (p1 : Int) (o : Int), R31_add p0 p1 = some o → PCall Tryz.prog 55 [iV p0, iV p1] (t_R31_add o) := by
  intro p0 p1 o h
  unfold R31_add at h
  refine PCall.ofB mixed tbOk R31_add_lv Tryz.func55 rfl (by kernel_rfl) (Nat.le_of_ble_eq_true rfl) ?_
  refine st_bind h (fun o1 ho hk => ?_)
  refine Exists.intro (JP1 _ _ o1 .normal (R31_add_J0_0 p0 p1)) (And.intro ?_ (join1 ?_))
  · have h := ho
    refine st_test h (fun hb h => ?_) (fun hb h => ?_)
    · refine JP1.a h ?_
      exact Le.tow 0 0 rfl (.cons rfl (.refl _) (.cons rfl (.refl _) (.cons rfl (.refl _) (.cons rfl (.refl _) (.cons rfl (.refl _) (.nil)))))) (.refl _) rfl
    · refine JP1.a h ?_
      exact Le.tow 0 0 rfl (.cons rfl (.refl _) (.cons rfl (.refl _) (.cons rfl (.refl _) (.cons rfl (.refl _) (.cons rfl (.refl _) (.nil)))))) (.refl _) rfl
  · have h := hk
    refine st_test h (fun hb h => ?_) (fun hb h => ?_)
    · refine st_ret (t := t_R31_add) h ?_
      exact .refl _
    · refine st_bind h (fun o2 ho hk => ?_)
      refine Exists.intro (JP1 _ _ o2 .normal (R31_add_J1_0 p0 p1)) (And.intro ?_ (join1 ?_))
      · have h := ho
        refine st_test h (fun hb h => ?_) (fun hb h => ?_)
        · refine JP1.a h ?_
          exact Le.tow 0 0 rfl (.cons rfl (.refl _) (.cons rfl (.refl _) (.cons rfl (.refl _) (.cons rfl (.refl _) (.nil))))) (.refl _) rfl
        · refine JP1.a h ?_
          exact Le.tow 0 0 rfl (.cons rfl (.refl _) (.cons rfl (.refl _) (.cons rfl (.refl _) (.cons rfl (.refl _) (.nil))))) (.refl _) rfl
      · have h := hk
        refine st_test h (fun hb h => ?_) (fun hb h => ?_)
        · refine st_ret (t := t_R31_add) h ?_
          exact .refl _
        · refine st_ret (t := t_R31_add) h ?_
          exact .refl _
noncomputable def R31_steps_L1 (p0 : (List UInt8)) (v3 : (List (List UInt8))) (v4 : Int) : Option ((List (List UInt8))) :=
  if (decide (v4 < (p0.length : Int))) then
    R02_Next p0 v4 >>= fun x2 =>
    cutL p0 v4 (wr (v4 + x2.2)) >>= fun x3 =>
    appL 16 v3 [x3] >>= fun x4 =>
    R31_steps_L1 p0 x4 (wr (v4 + x2.2))
  else
    some v3
  partial_fixpoint
set_option maxRecDepth 100000 in
set_option maxHeartbeats 4000000 in
theorem R31_steps_L1_grp : ∀ (p0 : (List UInt8)), (∀ (v3 : (List (List UInt8))) (v4 : Int) (o1 : (List (List UInt8))), R31_steps_L1 p0 v3 v4 = some o1 → TL (0, 0) Tryz.prog 31 R31_steps_L1_c (JP1 (0, 0) 31 o1 (.exit 0) (R31_steps_L1_x0 p0)) (R31_steps_L1_st p0 v3 v4)) := by
  intro p0
  refine R31_steps_L1.partial_correctness p0 _ ?_
  intro R31_steps_L1' ih_R31_steps_L1 v3 v4 o1 h
  refine TL.round (bwp_sound mixed tbOk (lv := R31_steps_lv) _ _ _ ?_)
  refine vrfl ?_
  refine st_test h (fun hb h => ?_) (fun hb h => ?_)
  · refine st_call [sV p0, iV v4] t_R02_Next h (fun x2 hy => (R02_Next_ok p0 v4 x2 hy)) (fun x2 hy h => ?_)
    refine st_cuts (some v4) (some (wr (v4 + x2.2))) h (fun x3 hi h => ?_)
    refine st_appo (a := v3) (b := [x3]) (c := cStr) h (.refl _) (fun _ => rfl) rfl (fun x4 hi h => ?_)
    refine TL.le (τ := R31_steps_L1_st p0 x4 (wr (v4 + x2.2))) ?_ ((ih_R31_steps_L1 x4 (wr (v4 + x2.2)) _ h))
    exact Le.tow 0 1 rfl (.cons rfl (.refl _) (.cons rfl (.refl _) (.cons rfl (.refl _) (.nil)))) (.refl _) rfl
  · exact JP1.a h (Le.tow 0 1 rfl (.cons rfl (.refl _) (.nil)) (.refl _) rfl)
theorem R31_steps_L1_ok : ∀ (p0 : (List UInt8)) (v3 : (List (List UInt8))) (v4 : Int) (o1 : (List (List UInt8))), R31_steps_L1 p0 v3 v4 = some o1 → TL (0, 0) Tryz.prog 31 R31_steps_L1_c (JP1 (0, 0) 31 o1 (.exit 0) (R31_steps_L1_x0 p0)) (R31_steps_L1_st p0 v3 v4) := fun p0 v3 v4 o1 h => (R31_steps_L1_grp p0) v3 v4 o1 h
noncomputable def R31_steps (p0 : (List UInt8)) : Option ((List (List UInt8))) :=
  (R31_steps_L1 p0 [] 0) >>= fun o1 =>
  some o1
set_option maxRecDepth 100000 in
set_option maxHeartbeats 4000000 in
theorem R31_steps_ok : ∀ (p0 : (List UInt8)) (o : (List (List UInt8))), R31_steps p0 = some o → PCall Tryz.prog 51 [sV p0] (t_R31_steps o) := by
  intro p0 o h
  unfold R31_steps at h
  refine PCall.ofB mixed tbOk R31_steps_lv Tryz.func51 rfl (by kernel_rfl) (Nat.le_of_ble_eq_true rfl) ?_
  refine st_bind h (fun o1 ho hk => ?_)
  refine Exists.intro (JP1 _ _ o1 (.exit 0) (R31_steps_L1_x0 p0)) (And.intro (T_le (τ := R31_steps_L1_st p0 [] 0) ?_ (TL.loop (R31_steps_L1_ok p0 [] 0 o1 ho))) (join1 ?_))
  · exact Le.trans (τ := ⟨[(0, .p (sV p0)), (3, .p (.sl true [])), (4, .p (iV 0))], ⟨[], []⟩⟩) (Le.tow 0 0 rfl (.cons rfl (.refl _) (.cons rfl (.refl _) (.cons rfl (.refl _) (.nil)))) (.refl _) rfl) ((Le.own 3 9 1 rfl sizeNil).trans (Le.tow 0 1 rfl (.cons rfl (.refl _) (.cons rfl (.refl _) (.cons rfl (.refl _) (.nil)))) (.refl _) rfl))
  have h := hk
  refine st_ret (t := t_R31_steps) h ?_
  exact .refl _
noncomputable def R31_sub (p0 : Int) (p1 : Int) : Option (Int) :=
  ( if (decide (p1 < 0)) then
      some (decide (p0 > (wr (9223372036854775807 + p1))))
    else
      some false : Option (Bool)) >>= fun o1 =>
  if o1 then
    some 9223372036854775807
  else
    ( if (decide (p1 > 0)) then
        some (decide (p0 < (wr ((-9223372036854775808) + p1))))
      else
        some false : Option (Bool)) >>= fun o2 =>
    if o2 then
      some (-9223372036854775808)
    else
      some (wr (p0 - p1))
set_option maxRecDepth 100000 in
set_option maxHeartbeats 4000000 in
theorem R31_sub_ok : ∀ (p0 : Int) (p1 : Int) (o : Int), R31_sub p0 p1 = some o → PCall Tryz.prog 56 [iV p0, iV p1] (t_R31_sub o) := by
  intro p0 p1 o h
  unfold R31_sub at h
  refine PCall.ofB mixed tbOk R31_sub_lv Tryz.func56 rfl (by kernel_rfl) (Nat.le_of_ble_eq_true rfl) ?_
  refine st_bind h (fun o1 ho hk => ?_)
  refine Exists.intro (JP1 _ _ o1 .normal (R31_sub_J0_0 p0 p1)) (And.intro ?_ (join1 ?_))
  · have h := ho
    refine st_test h (fun hb h => ?_) (fun hb h => ?_)
    · refine JP1.a h ?_
      exact Le.tow 0 0 rfl (.cons rfl (.refl _) (.cons rfl (.refl _) (.cons rfl (.refl _) (.cons rfl (.refl _) (.cons rfl (.refl _) (.nil)))))) (.refl _) rfl
    · refine JP1.a h ?_
      exact Le.tow 0 0 rfl (.cons rfl (.refl _) (.cons rfl (.refl _) (.cons rfl (.refl _) (.cons rfl (.refl _) (.cons rfl (.refl _) (.nil)))))) (.refl _) rfl
  · have h := hk
    refine st_test h (fun hb h => ?_) (fun hb h => ?_)
    · refine st_ret (t := t_R31_sub) h ?_
      exact .refl _
    · refine st_bind h (fun o2 ho hk => ?_)
      refine Exists.intro (JP1 _ _ o2 .normal (R31_sub_J1_0 p0 p1)) (And.intro ?_ (join1 ?_))
      · have h := ho
        refine st_test h (fun hb h => ?_) (fun hb h => ?_)
        · refine JP1.a h ?_
          exact Le.tow 0 0 rfl (.cons rfl (.refl _) (.cons rfl (.refl _) (.cons rfl (.refl _) (.cons rfl (.refl _) (.nil))))) (.refl _) rfl
        · refine JP1.a h ?_
          exact Le.tow 0 0 rfl (.cons rfl (.refl _) (.cons rfl (.refl _) (.cons rfl (.refl _) (.cons rfl (.refl _) (.nil))))) (.refl _) rfl
      · have h := hk
        refine st_test h (fun hb h => ?_) (fun hb h => ?_)
        · refine st_ret (t := t_R31_sub) h ?_
          exact .refl _
        · refine st_ret (t := t_R31_sub) h ?_
          exact .refl _
noncomputable def R31_number (p0 : (List UInt8)) (p1 : (List api_Val)) : Option (Int) :=
  if (p0 == [115, 105, 122, 101]) then
    idx p1 0 >>= fun x1 =>
    R31_steps x1.S >>= fun x2 =>
    some (x2.length : Int)
  else
    if (p0 == [99, 111, 117, 110, 116]) then
      idx p1 0 >>= fun x3 =>
      some (x3.L.length : Int)
    else
      if (p0 == [97, 100, 100]) then
        idx p1 0 >>= fun x4 =>
        idx p1 1 >>= fun x5 =>
        R31_add x4.N x5.N >>= fun x6 =>
        some x6
      else
        idx p1 0 >>= fun x7 =>
        idx p1 1 >>= fun x8 =>
        R31_sub x7.N x8.N >>= fun x9 =>
        some x9
set_option maxRecDepth 100000 in
set_option maxHeartbeats 4000000 in
theorem R31_number_ok : ∀ (p0 : (List UInt8)) (p1 : (List api_Val)) (o : Int), R31_number p0 p1 = some o → PCall Tryz.prog 22 [sV p0, .sl false (p1.map c_api_Val)] (t_R31_number o) := by
  intro p0 p1 o h
  unfold R31_number at h
  refine PCall.ofB mixed tbOk R31_number_lv Tryz.func22 rfl (by kernel_rfl) (Nat.le_of_ble_eq_true rfl) ?_
  refine st_test h (fun hb h => ?_) (fun hb h => ?_)
  · refine st_idx (l := p1) (c := c_api_Val) (c' := l_api_Val) h c_api_Val_eq (fun _ => rfl) (by decide) (fun x1 hi h => ?_)
    refine st_call [sV x1.S] t_R31_steps h (fun x2 hy => (R31_steps_ok x1.S x2 hy)) (fun x2 hy h => ?_)
    refine view (lenMap _ _) rfl ?_
    refine st_ret (t := t_R31_number) h ?_
    exact .refl _
  · refine st_test h (fun hb h => ?_) (fun hb h => ?_)
    · refine st_idx (l := p1) (c := c_api_Val) (c' := l_api_Val) h c_api_Val_eq (fun _ => rfl) (by decide) (fun x3 hi h => ?_)
      refine view (lenMap _ _) rfl ?_
      refine st_ret (t := t_R31_number) h ?_
      exact .refl _
    · refine st_test h (fun hb h => ?_) (fun hb h => ?_)
      · refine And.intro (by decide +kernel) (And.intro rfl ?_)
        refine st_idx (l := p1) (c := c_api_Val) (c' := l_api_Val) h c_api_Val_eq (fun _ => rfl) (by decide) (fun x4 hi h => ?_)
        refine st_idx (l := p1) (c := c_api_Val) (c' := l_api_Val) h c_api_Val_eq (fun _ => rfl) (by decide) (fun x5 hi h => ?_)
        refine st_calld [iV x4.N, iV x5.N] t_R31_add h (fun x6 hy => (R31_add_ok x4.N x5.N x6 hy)) (fun x6 hy h => ?_)
        refine st_ret (t := t_R31_number) h ?_
        exact .refl _
      · refine And.intro (by decide +kernel) (And.intro rfl ?_)
        refine st_idx (l := p1) (c := c_api_Val) (c' := l_api_Val) h c_api_Val_eq (fun _ => rfl) (by decide) (fun x7 hi h => ?_)
        refine st_idx (l := p1) (c := c_api_Val) (c' := l_api_Val) h c_api_Val_eq (fun _ => rfl) (by decide) (fun x8 hi h => ?_)
        refine st_calld [iV x7.N, iV x8.N] t_R31_sub h (fun x9 hy => (R31_sub_ok x7.N x8.N x9 hy)) (fun x9 hy h => ?_)
        refine st_ret (t := t_R31_number) h ?_
        exact .refl _
noncomputable def R31_letters_L1 (p0 : (List UInt8)) (p1 : Int) (p2 : Int) (p3 : Int) (v9 : (List Int)) (v10 : Int) : Option ((List Int)) :=
  if (decide (v10 < (p0.length : Int))) then
    idx p0 v10 >>= fun x2 =>
    ( ( if (decide ((x2.toNat : Int) ≥ p1)) then
          some (decide ((x2.toNat : Int) ≤ p2))
        else
          some false : Option (Bool)) >>= fun o4 =>
      if o4 then
        some (IntKind.u8.wrap (wr ((wr (x2.toNat : Int)) + p3)))
      else
        some (x2.toNat : Int) : Option (Int)) >>= fun o3 =>
    appL 1 v9 [o3] >>= fun x5 =>
    R31_letters_L1 p0 p1 p2 p3 x5 (wr (v10 + 1))
  else
    some v9
  partial_fixpoint
set_option maxRecDepth 100000 in
set_option maxHeartbeats 4000000 in
theorem R31_letters_L1_grp : ∀ (p0 : (List UInt8)) (p1 : Int) (p2 : Int) (p3 : Int), (∀ (v9 : (List Int)) (v10 : Int) (o1 : (List Int)), R31_letters_L1 p0 p1 p2 p3 v9 v10 = some o1 → TL (0, 0) Tryz.prog 41 R31_letters_L1_c (JP1 (0, 0) 41 o1 (.exit 0) (R31_letters_L1_x0 p0 p1 p2 p3)) (R31_letters_L1_st p0 p1 p2 p3 v9 v10)) := by
  intro p0 p1 p2 p3
  refine R31_letters_L1.partial_correctness p0 p1 p2 p3 _ ?_
  intro R31_letters_L1' ih_R31_letters_L1 v9 v10 o1 h
  refine TL.round (bwp_sound mixed tbOk (lv := R31_letters_lv) _ _ _ ?_)
  refine vrfl ?_
  refine st_test h (fun hb h => ?_) (fun hb h => ?_)
  · refine st_sidx h (fun x2 hi h => ?_)
    refine st_bind h (fun o3 ho hk => ?_)
    refine Exists.intro (JP1 _ _ o3 .normal (R31_letters_J0_0 p0 p1 p2 p3 v9 v10)) (And.intro ?_ (join1 ?_))
    · have h := ho
      refine st_bind h (fun o4 ho hk => ?_)
      refine Exists.intro (JP1 _ _ o4 .normal (R31_letters_J1_0 p0 p1 p2 p3 v9 v10 x2)) (And.intro ?_ (join1 ?_))
      · have h := ho
        refine st_test h (fun hb h => ?_) (fun hb h => ?_)
        · refine JP1.a h ?_
          exact Le.tow 0 1 rfl (.cons rfl (.refl _) (.cons rfl (.refl _) (.cons rfl (.refl _) (.cons rfl (.refl _) (.cons rfl (.refl _) (.cons rfl (.refl _) (.cons rfl (.refl _) (.cons rfl (.refl _) (.nil))))))))) (.refl _) rfl
        · refine JP1.a h ?_
          exact Le.tow 0 1 rfl (.cons rfl (.refl _) (.cons rfl (.refl _) (.cons rfl (.refl _) (.cons rfl (.refl _) (.cons rfl (.refl _) (.cons rfl (.refl _) (.cons rfl (.refl _) (.cons rfl (.refl _) (.nil))))))))) (.refl _) rfl
      · have h := hk
        refine st_test h (fun hb h => ?_) (fun hb h => ?_)
        · refine vrfl ?_
          refine vrfl ?_
          refine JP1.a h ?_
          exact Le.tow 0 1 rfl (.cons rfl (.refl _) (.cons rfl (.refl _) (.cons rfl (.refl _) (.cons rfl (.refl _) (.cons rfl (.refl _) (.cons rfl (.refl _) (.cons rfl (.refl _) (.nil)))))))) (.refl _) rfl
        · refine JP1.a h ?_
          exact Le.tow 0 1 rfl (.cons rfl (.refl _) (.cons rfl (.refl _) (.cons rfl (.refl _) (.cons rfl (.refl _) (.cons rfl (.refl _) (.cons rfl (.refl _) (.cons rfl (.refl _) (.nil)))))))) (.refl _) rfl
    · have h := hk
      refine st_appo (a := v9) (b := [o3]) (c := (cNum .u8)) h (.refl _) (fun _ => rfl) rfl (fun x5 hi h => ?_)
      refine TL.le (τ := R31_letters_L1_st p0 p1 p2 p3 x5 (wr (v10 + 1))) ?_ ((ih_R31_letters_L1 x5 (wr (v10 + 1)) _ h))
      exact Le.tow 0 1 rfl (.cons rfl (.refl _) (.cons rfl (.refl _) (.cons rfl (.refl _) (.cons rfl (.refl _) (.cons rfl (.refl _) (.cons rfl (.refl _) (.nil))))))) (.refl _) rfl
  · exact JP1.a h (Le.tow 0 1 rfl (.cons rfl (.refl _) (.nil)) (.refl _) rfl)
theorem R31_letters_L1_ok : ∀ (p0 : (List UInt8)) (p1 : Int) (p2 : Int) (p3 : Int) (v9 : (List Int)) (v10 : Int) (o1 : (List Int)), R31_letters_L1 p0 p1 p2 p3 v9 v10 = some o1 → TL (0, 0) Tryz.prog 41 R31_letters_L1_c (JP1 (0, 0) 41 o1 (.exit 0) (R31_letters_L1_x0 p0 p1 p2 p3)) (R31_letters_L1_st p0 p1 p2 p3 v9 v10) := fun p0 p1 p2 p3 v9 v10 o1 h => (R31_letters_L1_grp p0 p1 p2 p3) v9 v10 o1 h
noncomputable def R31_letters (p0 : (List UInt8)) (p1 : Int) (p2 : Int) (p3 : Int) : Option ((List UInt8)) :=
  (R31_letters_L1 p0 p1 p2 p3 [] 0) >>= fun o1 =>
  b2s o1 >>= fun x6 =>
  some x6
set_option maxRecDepth 100000 in
set_option maxHeartbeats 4000000 in
theorem R31_letters_ok : ∀ (p0 : (List UInt8)) (p1 : Int) (p2 : Int) (p3 : Int) (o : (List UInt8)), R31_letters p0 p1 p2 p3 = some o → PCall Tryz.prog 49 [sV p0, nV .u8 p1, nV .u8 p2, iV p3] (t_R31_letters o) := by
  intro p0 p1 p2 p3 o h
  unfold R31_letters at h
  refine PCall.ofB mixed tbOk R31_letters_lv Tryz.func49 rfl (by kernel_rfl) (Nat.le_of_ble_eq_true rfl) ?_
  refine st_bind h (fun o1 ho hk => ?_)
  refine Exists.intro (JP1 _ _ o1 (.exit 0) (R31_letters_L1_x0 p0 p1 p2 p3)) (And.intro (T_le (τ := R31_letters_L1_st p0 p1 p2 p3 [] 0) ?_ (TL.loop (R31_letters_L1_ok p0 p1 p2 p3 [] 0 o1 ho))) (join1 ?_))
  · exact Le.trans (τ := ⟨[(0, .p (sV p0)), (1, .p (nV .u8 p1)), (2, .p (nV .u8 p2)), (3, .p (iV p3)), (9, .p (.sl true [])), (10, .p (iV 0))], ⟨[], []⟩⟩) (Le.tow 0 0 rfl (.cons rfl (.refl _) (.cons rfl (.refl _) (.cons rfl (.refl _) (.cons rfl (.refl _) (.cons rfl (.refl _) (.cons rfl (.refl _) (.nil))))))) (.refl _) rfl) ((Le.own 9 5 1 rfl sizeNil).trans (Le.tow 0 1 rfl (.cons rfl (.refl _) (.cons rfl (.refl _) (.cons rfl (.refl _) (.cons rfl (.refl _) (.cons rfl (.refl _) (.cons rfl (.refl _) (.nil))))))) (.refl _) rfl))
  have h := hk
  refine st_b2s (l := o1) h (fun x6 hi h => ?_)
  refine st_ret (t := t_R31_letters) h ?_
  exact .refl _
noncomputable def R31_replace_L1 (p0 : (List UInt8)) (p1 : (List UInt8)) (p2 : (List UInt8)) (v7 : (List UInt8)) (v8 : Int) : Option ((List UInt8)) :=
  if (decide (v8 < (p0.length : Int))) then
    R01_Begins p0 p1 v8 >>= fun x2 =>
    if x2 then
      need (v7.length + p2.length ≤ 9223372036854775807) >>= fun _ =>
      R31_replace_L1 p0 p1 p2 (v7 ++ p2) (wr (v8 + (p1.length : Int)))
    else
      cutL p0 v8 (wr (v8 + 1)) >>= fun x3 =>
      need (v7.length + x3.length ≤ 9223372036854775807) >>= fun _ =>
      R31_replace_L1 p0 p1 p2 (v7 ++ x3) (wr (v8 + 1))
  else
    some v7
  partial_fixpoint
set_option maxRecDepth 100000 in
set_option maxHeartbeats 4000000 in
theorem R31_replace_L1_grp : ∀ (p0 : (List UInt8)) (p1 : (List UInt8)) (p2 : (List UInt8)), (∀ (v7 : (List UInt8)) (v8 : Int) (o1 : (List UInt8)), R31_replace_L1 p0 p1 p2 v7 v8 = some o1 → TL (0, 0) Tryz.prog 37 R31_replace_L1_c (JP1 (0, 0) 37 o1 (.exit 0) (R31_replace_L1_x0 p0 p1 p2)) (R31_replace_L1_st p0 p1 p2 v7 v8)) := by
  intro p0 p1 p2
  refine R31_replace_L1.partial_correctness p0 p1 p2 _ ?_
  intro R31_replace_L1' ih_R31_replace_L1 v7 v8 o1 h
  refine TL.round (bwp_sound mixed tbOk (lv := R31_replace_lv) _ _ _ ?_)
  refine vrfl ?_
  refine st_test h (fun hb h => ?_) (fun hb h => ?_)
  · refine st_call [sV p0, sV p1, iV v8] t_R01_Begins h (fun x2 hy => (R01_Begins_ok p0 p1 v8 x2 hy)) (fun x2 hy h => ?_)
    refine st_test h (fun hb h => ?_) (fun hb h => ?_)
    · refine st_need h (fun h => ?_)
      refine vrfl ?_
      refine TL.le (τ := R31_replace_L1_st p0 p1 p2 (v7 ++ p2) (wr (v8 + (p1.length : Int)))) ?_ ((ih_R31_replace_L1 (v7 ++ p2) (wr (v8 + (p1.length : Int))) _ h))
      exact Le.tow 0 0 rfl (.cons rfl (.refl _) (.cons rfl (.refl _) (.cons rfl (.refl _) (.cons rfl (.refl _) (.cons rfl (.refl _) (.nil)))))) (.refl _) rfl
    · refine st_cuts (some v8) (some (wr (v8 + 1))) h (fun x3 hi h => ?_)
      refine st_need h (fun h => ?_)
      refine TL.le (τ := R31_replace_L1_st p0 p1 p2 (v7 ++ x3) (wr (v8 + 1))) ?_ ((ih_R31_replace_L1 (v7 ++ x3) (wr (v8 + 1)) _ h))
      exact Le.tow 0 0 rfl (.cons rfl (.refl _) (.cons rfl (.refl _) (.cons rfl (.refl _) (.cons rfl (.refl _) (.cons rfl (.refl _) (.nil)))))) (.refl _) rfl
  · exact JP1.a h (Le.tow 0 0 rfl (.cons rfl (.refl _) (.nil)) (.refl _) rfl)
theorem R31_replace_L1_ok : ∀ (p0 : (List UInt8)) (p1 : (List UInt8)) (p2 : (List UInt8)) (v7 : (List UInt8)) (v8 : Int) (o1 : (List UInt8)), R31_replace_L1 p0 p1 p2 v7 v8 = some o1 → TL (0, 0) Tryz.prog 37 R31_replace_L1_c (JP1 (0, 0) 37 o1 (.exit 0) (R31_replace_L1_x0 p0 p1 p2)) (R31_replace_L1_st p0 p1 p2 v7 v8) := fun p0 p1 p2 v7 v8 o1 h => (R31_replace_L1_grp p0 p1 p2) v7 v8 o1 h
noncomputable def R31_replace (p0 : (List UInt8)) (p1 : (List UInt8)) (p2 : (List UInt8)) : Option ((List UInt8)) :=
  if (p1 == []) then
    some p0
  else
    (R31_replace_L1 p0 p1 p2 [] 0) >>= fun o1 =>
    some o1
set_option maxRecDepth 100000 in
set_option maxHeartbeats 4000000 in
theorem R31_replace_ok : ∀ (p0 : (List UInt8)) (p1 : (List UInt8)) (p2 : (List UInt8)) (o : (List UInt8)), R31_replace p0 p1 p2 = some o → PCall Tryz.prog 53 [sV p0, sV p1, sV p2] (t_R31_replace o) := by
  intro p0 p1 p2 o h
  unfold R31_replace at h
  refine PCall.ofB mixed tbOk R31_replace_lv Tryz.func53 rfl (by kernel_rfl) (Nat.le_of_ble_eq_true rfl) ?_
  refine st_test h (fun hb h => ?_) (fun hb h => ?_)
  · refine st_ret (t := t_R31_replace) h ?_
    exact .refl _
  · refine st_bind h (fun o1 ho hk => ?_)
    refine Exists.intro (JP1 _ _ o1 (.exit 0) (R31_replace_L1_x0 p0 p1 p2)) (And.intro (T_le (τ := R31_replace_L1_st p0 p1 p2 [] 0) ?_ (TL.loop (R31_replace_L1_ok p0 p1 p2 [] 0 o1 ho))) (join1 ?_))
    · exact Le.tow 0 0 rfl (.cons rfl (.refl _) (.cons rfl (.refl _) (.cons rfl (.refl _) (.cons rfl (.refl _) (.cons rfl (.refl _) (.nil)))))) (.refl _) rfl
    have h := hk
    refine st_ret (t := t_R31_replace) h ?_
    exact .refl _
noncomputable def R31_gap (p0 : Int) : Option (Bool) :=
  ( if (p0 == 32) then
      some true
    else
      if (p0 == 9) then
        some true
      else
        if (p0 == 10) then
          some true
        else
          some (p0 == 13) : Option (Bool)) >>= fun o1 =>
  some o1
end Go.Proofs.YteahaflhihioaaaGreatDoor
end
