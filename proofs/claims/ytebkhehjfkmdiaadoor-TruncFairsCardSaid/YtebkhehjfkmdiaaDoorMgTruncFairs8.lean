/- The proof's texts, part 8 of 9: the walks by a logic in which data are by value, the plain laws, and at the end the law, for every input. -/
import Derived.Test.YtebkhehjfkmdiaaDoorMgTruncFairs7

section
set_option linter.unusedVariables false
set_option linter.unusedSimpArgs false
namespace Go.Proofs.YtebkhehjfkmdiaaDoor
open Go.RowKit

noncomputable def t_R35_Asked (y : Int) : D := .p (iV y)
noncomputable def R35_Asked_lv : List (Nat × List Nat) := [(0, [0]), (1, [2])]
noncomputable def t_R35_Fair (y : (List Int)) : D := .p (.sl false (y.map cInt))
noncomputable def R35_Fair_lv : List (Nat × List Nat) := [(0, [0, 1]), (1, [0, 1]), (2, [0, 1, 5]), (3, [0, 1, 5, 6]), (4, [0, 1, 5, 6, 7]), (5, [0, 1, 5, 6, 7, 22]), (6, [0, 1, 5, 6, 7]), (7, [0, 1, 5, 6, 7]), (8, [0, 1, 5, 8, 9]), (9, [0, 1, 5, 8, 9, 37]), (10, [0, 1, 5, 8, 9, 10]), (11, [0, 1, 5, 8, 9, 10, 47]), (12, [0, 1, 5, 8, 9]), (13, [0, 1, 5, 8, 9]), (14, [0, 5, 8, 11]), (15, [0, 5, 8, 11, 12]), (16, [0, 5, 8, 11, 12, 55]), (17, [0, 5, 8, 11, 12]), (18, [0, 5, 8, 11, 12]), (19, [0, 5, 8, 11, 12]), (20, [0, 5, 11, 13]), (21, [0, 5, 11, 13, 81]), (22, [0, 5, 11, 13]), (23, [0, 5, 11, 13, 93]), (24, [0, 5, 11, 13]), (25, [0, 5, 11, 13]), (26, [4]), (1000005, [0, 1, 5, 6, 7]), (1000009, [0, 1, 5, 8, 9]), (1000016, [0, 5, 8, 11, 12]), (1000021, [0, 5, 11, 13]), (3000021, []), (5000023, [2007, 2008]), (9000002, [2, 0, 0, 0]), (9000018, [9, 0, 0, 0, 10, 1, 5, 0]), (9000019, [3, 0, 0, 0, 4, 0, 0, 0]), (9000024, [2, 0, 0, 0, 3, 0, 0, 0, 5, 0, 0, 0, 6, 1, 5, 0]), (9500026, [])]
noncomputable def R35_Fair_L1_st (p0 : (List Int)) (p1 : Int) (x1 : (List Int)) (v6 : Int) (v7 : Int) : St := ⟨[(0, .p (.sl false (p0.map cInt))), (1, .p (iV (if 0 > p1 then 0 else p1))), (5, .x 0 1 (.sl 3 1 (x1.map cInt))), (6, .p (iV v6)), (7, .p (iV v7))], ⟨[], [1]⟩⟩
noncomputable def R35_Fair_L1_x0 (p0 : (List Int)) (p1 : Int) (x1 : (List Int)) (o2 : Int) : St := ⟨[(0, .p (.sl false (p0.map cInt))), (1, .p (iV (if 0 > p1 then 0 else p1))), (5, .x 0 1 (.sl 3 1 (x1.map cInt))), (6, .p (iV o2))], ⟨[], [1]⟩⟩
noncomputable def R35_Fair_L1_c : Code := ((loopsOf (Tryd.f23.body.getD .skip)).getD 0 .skip)
noncomputable def R35_Fair_L2_st (p0 : (List Int)) (p1 : Int) (x1 : (List Int)) (v8 : Int) (v9 : Int) : St := ⟨[(0, .p (.sl false (p0.map cInt))), (1, .p (iV (if 0 > p1 then 0 else p1))), (5, .x 0 1 (.sl 3 1 (x1.map cInt))), (8, .p (iV v8)), (9, .p (iV v9))], ⟨[], [1]⟩⟩
noncomputable def R35_Fair_L2_x0 (p0 : (List Int)) (p1 : Int) (x1 : (List Int)) (o5 : Int) : St := ⟨[(0, .p (.sl false (p0.map cInt))), (1, .p (iV (if 0 > p1 then 0 else p1))), (5, .x 0 1 (.sl 3 1 (x1.map cInt))), (8, .p (iV o5))], ⟨[], [1]⟩⟩
noncomputable def R35_Fair_L2_c : Code := ((loopsOf (Tryd.f23.body.getD .skip)).getD 1 .skip)
noncomputable def R35_Fair_L3_st (p0 : (List Int)) (o5 : Int) (v5 : (List Int)) (v11 : Int) (v12 : Int) : St := ⟨[(0, .p (.sl false (p0.map cInt))), (5, .x 0 1 (.sl 3 1 (v5.map cInt))), (8, .p (iV o5)), (11, .p (iV v11)), (12, .p (iV v12))], ⟨[], [1]⟩⟩
noncomputable def R35_Fair_L3_x0 (p0 : (List Int)) (o5 : Int) (o7 : (List Int) × Int) : St := ⟨[(0, .p (.sl false (p0.map cInt))), (5, .x 0 1 (.sl 3 1 (o7.1.map cInt))), (11, .p (iV o7.2))], ⟨[], [1]⟩⟩
noncomputable def R35_Fair_L3_c : Code := ((loopsOf (Tryd.f23.body.getD .skip)).getD 2 .skip)
noncomputable def R35_Fair_J0_0 (p0 : (List Int)) (v5 : (List Int)) (v11 : Int) (v13 : Int) (o13 : Bool) : St := ⟨[(0, .p (.sl false (p0.map cInt))), (5, .x 0 1 (.sl 3 1 (v5.map cInt))), (11, .p (iV v11)), (13, .p (iV v13)), (81, .p (bV o13))], ⟨[], [1]⟩⟩
noncomputable def R35_Fair_L4_st (p0 : (List Int)) (v5 : (List Int)) (v11 : Int) (v13 : Int) : St := ⟨[(0, .p (.sl false (p0.map cInt))), (5, .x 0 1 (.sl 3 1 (v5.map cInt))), (11, .p (iV v11)), (13, .p (iV v13))], ⟨[], [1]⟩⟩
noncomputable def R35_Fair_L4_x0 (p0 : (List Int)) (o12 : (List Int)) : St := ⟨[(5, .x 0 1 (.sl 3 1 (o12.map cInt)))], ⟨[], [1]⟩⟩
noncomputable def R35_Fair_L4_c : Code := ((loopsOf (Tryd.f23.body.getD .skip)).getD 3 .skip)
noncomputable def t_R35_fits (y : Bool) : D := .p (bV y)
noncomputable def R35_fits_lv : List (Nat × List Nat) := [(0, [0, 1, 2]), (1, [0, 1, 2, 7]), (2, [0, 1, 2, 7, 8]), (3, [0, 1, 2, 7, 8, 13]), (4, [0, 1, 2, 7, 8]), (5, [0, 1, 2, 7, 8, 9]), (6, [0, 1, 2, 7, 8, 9, 27]), (7, [6]), (8, [0, 1, 2, 7, 8]), (9, [6]), (1000003, [0, 1, 2, 7, 8])]
noncomputable def R35_fits_L1_st (p0 : (List Int)) (p1 : Int) (p2 : Int) (v7 : Int) (v8 : Int) : St := ⟨[(0, .p (.sl false (p0.map cInt))), (1, .p (iV p1)), (2, .p (iV p2)), (7, .p (iV v7)), (8, .p (iV v8))], ⟨[], []⟩⟩
noncomputable def R35_fits_L1_x0 (p0 : (List Int)) (p1 : Int) (p2 : Int) (y2 : Unit) : St := ⟨[], ⟨[], []⟩⟩
noncomputable def R35_fits_L1_x1 (p0 : (List Int)) (p1 : Int) (p2 : Int) (y3 : Unit) : St := ⟨[(6, .p (bV false))], ⟨[], []⟩⟩
noncomputable def R35_fits_L1_c : Code := ((loopsOf (Tryd.f48.body.getD .skip)).getD 0 .skip)
noncomputable def t_nunciolaw35_TruncFairs (y : Bool) : D := .p (bV y)
noncomputable def nunciolaw35_TruncFairs_lv : List (Nat × List Nat) := [(0, [0, 1]), (1, [0, 1]), (2, [0, 1, 5]), (3, [0, 1, 5, 23]), (4, [4]), (5, [0, 5, 6]), (6, [0, 5, 6, 7]), (7, [0, 5, 6, 7, 8]), (8, [0, 5, 6, 7, 8, 29]), (9, [0, 5, 6, 7, 8]), (10, [0, 5, 6, 7, 8, 56]), (11, [4]), (12, [0, 5, 6, 7, 8]), (13, [0, 5, 6, 7, 8]), (14, [0, 5, 6, 7, 8, 9]), (15, [0, 5, 6, 7, 8, 9, 78]), (16, [0, 5, 6, 7, 8, 9]), (17, [0, 5, 6, 7, 8, 9, 102]), (18, [4]), (19, [4]), (1000008, [0, 5, 6, 7, 8]), (1000015, [0, 5, 6, 7, 8, 9]), (3000010, []), (3000013, []), (3000017, []), (3000019, [])]
noncomputable def nunciolaw35_TruncFairs_J0_0 (x1 : (List Int)) (x2 : (List Int)) (v6 : Int) (v7 : Bool) (v8 : Int) (o8 : Bool) : St := ⟨[(0, .p (.sl false (x1.map cInt))), (5, .p (.sl false (x2.map cInt))), (6, .p (iV v6)), (7, .p (bV v7)), (8, .p (iV v8)), (56, .p (bV o8))], ⟨[], []⟩⟩
noncomputable def nunciolaw35_TruncFairs_J1_0 (x1 : (List Int)) (x2 : (List Int)) (v6 : Int) (v8 : Int) (x14 : Int) (o15 : Bool) : St := ⟨[(0, .p (.sl false (x1.map cInt))), (5, .p (.sl false (x2.map cInt))), (6, .p (iV (wr (v6 - x14)))), (7, .p (bV o15)), (8, .p (iV v8))], ⟨[], []⟩⟩
noncomputable def nunciolaw35_TruncFairs_J2_0 (x1 : (List Int)) (x2 : (List Int)) (v6 : Int) (v8 : Int) (x14 : Int) (o15 : Bool) (v9 : Int) (o22 : Bool) : St := ⟨[(0, .p (.sl false (x1.map cInt))), (5, .p (.sl false (x2.map cInt))), (6, .p (iV (wr (v6 - x14)))), (7, .p (bV o15)), (8, .p (iV v8)), (9, .p (iV v9)), (102, .p (bV o22))], ⟨[], []⟩⟩
noncomputable def nunciolaw35_TruncFairs_L2_st (x1 : (List Int)) (x2 : (List Int)) (v6 : Int) (v8 : Int) (x14 : Int) (o15 : Bool) (v9 : Int) : St := ⟨[(0, .p (.sl false (x1.map cInt))), (5, .p (.sl false (x2.map cInt))), (6, .p (iV (wr (v6 - x14)))), (7, .p (bV o15)), (8, .p (iV v8)), (9, .p (iV v9))], ⟨[], []⟩⟩
noncomputable def nunciolaw35_TruncFairs_L2_x0 (x1 : (List Int)) (x2 : (List Int)) (v6 : Int) (v8 : Int) (x14 : Int) (o15 : Bool) (y20 : Unit) : St := ⟨[(0, .p (.sl false (x1.map cInt))), (5, .p (.sl false (x2.map cInt))), (6, .p (iV (wr (v6 - x14)))), (7, .p (bV o15)), (8, .p (iV v8))], ⟨[], []⟩⟩
noncomputable def nunciolaw35_TruncFairs_L2_x1 (x1 : (List Int)) (x2 : (List Int)) (v6 : Int) (v8 : Int) (x14 : Int) (o15 : Bool) (y21 : Unit) : St := ⟨[(4, .p (bV false))], ⟨[], []⟩⟩
noncomputable def nunciolaw35_TruncFairs_L2_c : Code := ((loopsOf (Tryd.f6.body.getD .skip)).getD 1 .skip)
noncomputable def nunciolaw35_TruncFairs_L1_st (x1 : (List Int)) (x2 : (List Int)) (v6 : Int) (v7 : Bool) (v8 : Int) : St := ⟨[(0, .p (.sl false (x1.map cInt))), (5, .p (.sl false (x2.map cInt))), (6, .p (iV v6)), (7, .p (bV v7)), (8, .p (iV v8))], ⟨[], []⟩⟩
noncomputable def nunciolaw35_TruncFairs_L1_x0 (x1 : (List Int)) (x2 : (List Int)) (y6 : Int × Bool) : St := ⟨[(6, .p (iV y6.1)), (7, .p (bV y6.2))], ⟨[], []⟩⟩
noncomputable def nunciolaw35_TruncFairs_L1_x1 (x1 : (List Int)) (x2 : (List Int)) (y7 : Unit) : St := ⟨[(4, .p (bV false))], ⟨[], []⟩⟩
noncomputable def nunciolaw35_TruncFairs_L1_c : Code := ((loopsOf (Tryd.f6.body.getD .skip)).getD 0 .skip)
noncomputable def nunciolaw35_TruncFairs_J3_0  (o29 : Bool) : St := ⟨[(4, .p (bV o29))], ⟨[], []⟩⟩
noncomputable def t_nunciolaw35_awake (y : Bool) : D := .p (bV y)
noncomputable def nunciolaw35_awake_lv : List (Nat × List Nat) := [(0, []), (1, [1, 2]), (2, [1, 2, 3, 4]), (3, [1, 2, 3, 4, 5, 6]), (4, [0]), (3000004, [])]
noncomputable def nunciolaw35_awake_J0_0  (o4 : Bool) : St := ⟨[(0, .p (bV o4))], ⟨[], []⟩⟩
noncomputable def t_nunciolaw35_numbers (y : Bool) : D := .p (bV y)
noncomputable def nunciolaw35_numbers_lv : List (Nat × List Nat) := [(0, [0, 1]), (1, [0, 1, 10]), (2, [4]), (3, [0, 1, 5]), (4, [0, 1, 5, 14]), (5, [0, 1, 5]), (6, [0, 1, 5, 25]), (7, [4]), (8, [4]), (1000004, [0, 1, 5])]
noncomputable def nunciolaw35_numbers_L1_st (p0 : (List Int)) (p1 : (List Int)) (v5 : Int) : St := ⟨[(0, .p (.sl false (p0.map cInt))), (1, .p (.sl false (p1.map cInt))), (5, .p (iV v5))], ⟨[], []⟩⟩
noncomputable def nunciolaw35_numbers_L1_x0 (p0 : (List Int)) (p1 : (List Int)) (y2 : Unit) : St := ⟨[], ⟨[], []⟩⟩
noncomputable def nunciolaw35_numbers_L1_x1 (p0 : (List Int)) (p1 : (List Int)) (y3 : Unit) : St := ⟨[(4, .p (bV false))], ⟨[], []⟩⟩
noncomputable def nunciolaw35_numbers_L1_c : Code := ((loopsOf (Tryd.f22.body.getD .skip)).getD 0 .skip)
noncomputable def t_sort_Search_trunc_Fair_3 (y : Int) : D := .p (iV y)
noncomputable def sort_Search_trunc_Fair_3_lv : List (Nat × List Nat) := [(0, [0, 1]), (1, [1, 5, 6]), (2, [1, 5, 6, 11]), (3, [1, 5, 6, 7]), (4, [1, 5, 6, 7, 21]), (5, [1, 5, 6]), (6, [1, 5, 6]), (7, [4]), (1000002, [1, 5, 6])]
noncomputable def sort_Search_trunc_Fair_3_L1_st (h1_0 : Int) (h3_0 : (List Int)) (v5 : Int) (v6 : Int) : St := ⟨[(1, .fn (.func 47) [] [.ptr 0 0]), (5, .p (iV v5)), (6, .p (iV v6))], ⟨[[.fn (.func 45) [] [.ptr 1 0, .ptr 2 0]], [.p (iV h1_0)], [.fn (.func 44) [] [.ptr 3 0]], [.p (.sl false (h3_0.map cInt))]], []⟩⟩
noncomputable def sort_Search_trunc_Fair_3_L1_x0 (h1_0 : Int) (h3_0 : (List Int)) (o1 : Int) : St := ⟨[(5, .p (iV o1))], ⟨[[.fn (.func 45) [] [.ptr 1 0, .ptr 2 0]], [.p (iV h1_0)], [.fn (.func 44) [] [.ptr 3 0]], [.p (.sl false (h3_0.map cInt))]], []⟩⟩
noncomputable def sort_Search_trunc_Fair_3_L1_c : Code := ((loopsOf (Tryd.f46.body.getD .skip)).getD 0 .skip)
noncomputable def t_strings_Join (y : (List UInt8)) : D := .p (sV y)
noncomputable def t_strings_SplitAfter (y : (List (List UInt8))) : D := .p (.sl false (y.map cStr))
noncomputable def strings_SplitAfter_lv : List (Nat × List Nat) := [(0, [0, 1]), (1, [4])]
noncomputable def t_strings_genSplit (y : (List (List UInt8))) : D := .p (.sl false (y.map cStr))
noncomputable def t_trunc_Cut (y : (List UInt8) × Bool) : D := .tup [.p (sV y.1), .p (bV y.2)]
noncomputable def trunc_Cut_lv : List (Nat × List Nat) := [(0, [0, 1]), (1, [0, 1, 6, 7, 8]), (2, [0, 1, 6, 7, 16]), (3, [4, 5]), (4, [4, 5])]
noncomputable def t_trunc_Fair (y : (List Int)) : D := .p (.sl false (y.map cInt))
noncomputable def trunc_Fair_lv : List (Nat × List Nat) := [(0, [2, 3]), (1, [2, 3]), (2, [2, 3, 5]), (3, [2, 3, 5, 6]), (4, [2, 3, 5, 6, 7]), (5, [2, 3, 5, 6, 7, 19, 20, 21]), (6, [2, 3, 5, 6, 7, 19, 20, 21, 22]), (7, [2, 3, 5, 6, 7, 9, 19, 20, 21]), (8, [2, 3, 5, 6, 7, 19, 20, 21]), (9, [2, 3, 5, 6, 7, 19, 20, 21]), (10, [2, 5, 6, 10]), (11, [2, 11, 12]), (12, [11, 12, 40, 41, 42]), (13, [11, 12, 40, 41, 42, 43]), (14, [11, 12, 13, 14, 40, 41, 42]), (15, [11, 12, 13, 40, 41, 42, 56]), (16, [11, 12, 40, 41, 42]), (17, [11, 12, 40, 41, 42]), (18, [11, 12, 40, 41, 42]), (19, [4]), (1000006, [2, 3, 5, 6, 7, 19, 20, 21]), (1000013, [11, 12, 40, 41, 42]), (3000015, []), (5000011, [1002]), (9000015, [6, 0, 0, 0, 7, 0, 0, 0]), (9000016, [2, 0, 0, 0, 3, 0, 0, 0, 5, 0, 0, 0, 6, 1, 11, 0]), (9500019, [])]
noncomputable def trunc_Fair_L1_st (p0 : (List Int)) (p1 : Int) (v7 : Int) (v21 : Int) : St := ⟨[(2, .ptr 0 0), (3, .ptr 1 0), (5, .ptr 2 0), (6, .ptr 3 0), (7, .p (iV v7)), (19, .p (.sl false (p0.map cInt))), (20, .p (iV (p0.length : Int))), (21, .p (iV v21))], ⟨[[.p (.sl false (p0.map cInt))], [.p (iV (if 0 > p1 then 0 else p1))], [.fn (.func 44) [] [.ptr 0 0]], [.fn (.func 45) [] [.ptr 1 0, .ptr 2 0]]], []⟩⟩
noncomputable def trunc_Fair_L1_x0 (p0 : (List Int)) (p1 : Int) (o1 : Int) : St := ⟨[(2, .ptr 0 0), (5, .ptr 2 0), (6, .ptr 3 0), (7, .p (iV o1))], ⟨[[.p (.sl false (p0.map cInt))], [.p (iV (if 0 > p1 then 0 else p1))], [.fn (.func 44) [] [.ptr 0 0]], [.fn (.func 45) [] [.ptr 1 0, .ptr 2 0]]], []⟩⟩
noncomputable def trunc_Fair_L1_c : Code := ((loopsOf (Tryd.f21.body.getD .skip)).getD 0 .skip)
noncomputable def trunc_Fair_J0_0 (p0 : (List Int)) (p1 : Int) (v11 : (List Int)) (v12 : Int) (v42 : Int) (o8 : Bool) : St := ⟨[(11, .x 0 1 (.sl 3 1 (v11.map cInt))), (12, .p (iV v12)), (13, .p (iV v42)), (40, .p (.sl false (p0.map cInt))), (41, .p (iV (p0.length : Int))), (42, .p (iV v42)), (56, .p (bV o8))], ⟨[[.p (.sl false (p0.map cInt))], [.p (iV (if 0 > p1 then 0 else p1))], [.fn (.func 44) [] [.ptr 0 0]], [.fn (.func 45) [] [.ptr 1 0, .ptr 2 0]]], [1]⟩⟩
noncomputable def trunc_Fair_L2_st (p0 : (List Int)) (p1 : Int) (v11 : (List Int)) (v12 : Int) (v42 : Int) : St := ⟨[(11, .x 0 1 (.sl 3 1 (v11.map cInt))), (12, .p (iV v12)), (40, .p (.sl false (p0.map cInt))), (41, .p (iV (p0.length : Int))), (42, .p (iV v42))], ⟨[[.p (.sl false (p0.map cInt))], [.p (iV (if 0 > p1 then 0 else p1))], [.fn (.func 44) [] [.ptr 0 0]], [.fn (.func 45) [] [.ptr 1 0, .ptr 2 0]]], [1]⟩⟩
noncomputable def trunc_Fair_L2_x0 (p0 : (List Int)) (p1 : Int) (o6 : (List Int)) : St := ⟨[(11, .x 0 1 (.sl 3 1 (o6.map cInt)))], ⟨[[.p (.sl false (p0.map cInt))], [.p (iV (if 0 > p1 then 0 else p1))], [.fn (.func 44) [] [.ptr 0 0]], [.fn (.func 45) [] [.ptr 1 0, .ptr 2 0]]], [1]⟩⟩
noncomputable def trunc_Fair_L2_c : Code := ((loopsOf (Tryd.f21.body.getD .skip)).getD 1 .skip)
noncomputable def t_trunc_Fair_1 (y : (List Int)) : D := .x 0 1 (.sl 3 1 (y.map cInt))
noncomputable def trunc_Fair_1_lv : List (Nat × List Nat) := [(0, [0, 1]), (1, [0, 1, 4]), (2, [0, 4, 10, 11, 12]), (3, [0, 4, 10, 11, 12, 13]), (4, [0, 4, 5, 6, 10, 11, 12]), (5, [0, 4, 10, 11, 12]), (6, [0, 4, 10, 11, 12]), (7, [3]), (1000003, [0, 4, 10, 11, 12]), (9000001, [2, 0, 0, 0]), (9000005, [6, 0, 0, 0, 7, 1, 4, 0])]
noncomputable def trunc_Fair_1_L1_st (p0 : Int) (h0_0 : (List Int)) (v4 : (List Int)) (v12 : Int) : St := ⟨[(0, .p (iV p0)), (4, .x 0 1 (.sl 3 1 (v4.map cInt))), (10, .p (.sl false (h0_0.map cInt))), (11, .p (iV (h0_0.length : Int))), (12, .p (iV v12))], ⟨[[.p (.sl false (h0_0.map cInt))]], [1]⟩⟩
noncomputable def trunc_Fair_1_L1_x0 (p0 : Int) (h0_0 : (List Int)) (o2 : (List Int)) : St := ⟨[(4, .x 0 1 (.sl 3 1 (o2.map cInt)))], ⟨[[.p (.sl false (h0_0.map cInt))]], [1]⟩⟩
noncomputable def trunc_Fair_1_L1_c : Code := ((loopsOf (Tryd.f44.body.getD .skip)).getD 0 .skip)
noncomputable def t_trunc_Fair_2 (y : Int) : D := .p (iV y)
noncomputable def trunc_Fair_2_lv : List (Nat × List Nat) := [(0, [0, 1, 2]), (1, [0, 2, 5]), (2, [5, 11, 12, 13]), (3, [5, 11, 12, 13, 14]), (4, [5, 7, 11, 12, 13]), (5, [5, 11, 12, 13]), (6, [5, 11, 12, 13, 21]), (7, [4]), (8, [5, 11, 12, 13]), (9, [4]), (1000003, [5, 11, 12, 13]), (9000002, [3, 0, 0, 0]), (9000004, [0, 0, 0, 0, 1, 0, 0, 0])]
noncomputable def trunc_Fair_2_L1_st (h0_0 : Int) (h2_0 : (List Int)) (x1 : (List Int)) (v5 : Int) (v13 : Int) : St := ⟨[(5, .p (iV v5)), (11, .x 0 1 (.sl 3 1 (x1.map cInt))), (12, .p (iV (x1.length : Int))), (13, .p (iV v13))], ⟨[[.p (iV h0_0)], [.fn (.func 44) [] [.ptr 2 0]], [.p (.sl false (h2_0.map cInt))]], [1]⟩⟩
noncomputable def trunc_Fair_2_L1_x0 (h0_0 : Int) (h2_0 : (List Int)) (x1 : (List Int)) (y3 : Int) : St := ⟨[(5, .p (iV y3))], ⟨[[.p (iV h0_0)], [.fn (.func 44) [] [.ptr 2 0]], [.p (.sl false (h2_0.map cInt))]], [1]⟩⟩
noncomputable def trunc_Fair_2_L1_x1 (h0_0 : Int) (h2_0 : (List Int)) (x1 : (List Int)) (y4 : Unit) : St := ⟨[(4, .p (iV (-1)))], ⟨[[.p (iV h0_0)], [.fn (.func 44) [] [.ptr 2 0]], [.p (.sl false (h2_0.map cInt))]], [1]⟩⟩
noncomputable def trunc_Fair_2_L1_c : Code := ((loopsOf (Tryd.f45.body.getD .skip)).getD 0 .skip)
noncomputable def t_trunc_Fair_3 (y : Bool) : D := .p (bV y)
noncomputable def trunc_Fair_3_lv : List (Nat × List Nat) := [(0, [0, 1]), (1, [3])]
noncomputable def t_trunc_Lines (y : (List UInt8) × Bool) : D := .tup [.p (sV y.1), .p (bV y.2)]
noncomputable def trunc_Lines_lv : List (Nat × List Nat) := [(0, [0, 1]), (1, [0, 1, 6]), (2, [0, 1, 6, 9]), (3, [4, 5]), (4, [1, 6, 15]), (5, [4, 5]), (6, [4, 5])]
noncomputable def t_trunc_Middle (y : (List UInt8) × Bool) : D := .tup [.p (sV y.1), .p (bV y.2)]
noncomputable def trunc_Middle_lv : List (Nat × List Nat) := [(0, [0, 1]), (1, [0, 1, 6, 7, 8]), (2, [0, 1, 6, 7, 20]), (3, [4, 5]), (4, [0, 1]), (5, [0, 1, 9]), (6, [0, 1, 9, 10]), (7, [0, 1, 9, 10, 34]), (8, [0, 1, 9, 10, 12]), (9, [0, 1, 9, 10]), (10, [4, 5]), (1000007, [0, 1, 9, 10])]
noncomputable def trunc_Middle_L1_st (p0 : (List UInt8)) (p1 : Int) (v10 : Int) : St := ⟨[(0, .p (sV p0)), (1, .p (iV (wr (p1 - 3)))), (9, .p (iV (wr ((wr (p1 - 3)).tdiv 2)))), (10, .p (iV v10))], ⟨[], []⟩⟩
noncomputable def trunc_Middle_L1_x0 (p0 : (List UInt8)) (p1 : Int) (o2 : Int) : St := ⟨[(0, .p (sV p0)), (9, .p (iV (wr ((wr (p1 - 3)).tdiv 2)))), (10, .p (iV o2))], ⟨[], []⟩⟩
noncomputable def trunc_Middle_L1_c : Code := ((loopsOf (Tryd.f19.body.getD .skip)).getD 0 .skip)
noncomputable def t_trunc_short (y : (List UInt8) × Bool × Bool) : D := .tup [.p (sV y.1), .p (bV y.2.1), .p (bV y.2.2)]
noncomputable def trunc_short_lv : List (Nat × List Nat) := [(0, [0, 1]), (1, [0, 1, 7]), (2, [4, 5, 6]), (3, [13]), (4, [4, 5, 6]), (5, [4, 5, 6])]
noncomputable def t_utf_Front (y : (List UInt8)) : D := .p (sV y)
noncomputable def utf_Front_lv : List (Nat × List Nat) := [(0, [0, 3, 7]), (1, [0, 3, 5, 7]), (2, [0, 3, 5, 7, 9]), (3, [0, 3, 5, 7, 9]), (4, [0, 3, 5, 7, 9, 16]), (5, [0, 3, 5, 7, 9]), (6, [4]), (4000003, [0, 3, 5, 7, 9]), (2002013, [])]
noncomputable def utf_Front_J0_0 (p0 : (List UInt8)) (p1 : Int) (o1 : Int) : St := ⟨[(0, .p (sV p0)), (5, .ptr 1 0)], ⟨[[.p (iV p1)], [.p (iV o1)]], []⟩⟩
noncomputable def utf_Front_L1_st (p0 : (List UInt8)) (p1 : Int) (x2 : (List UInt8)) (h1_0 : Int) : St := ⟨[(0, .p (sV p0)), (3, .ptr 0 0), (5, .ptr 1 0), (9, .fn (.func 86) [] [.p (.ep [sV x2])])], ⟨[[.p (iV p1)], [.p (iV h1_0)]], []⟩⟩
noncomputable def utf_Front_L1_x0 (p0 : (List UInt8)) (p1 : Int) (x2 : (List UInt8)) (y8 : Int) : St := ⟨[(0, .p (sV p0)), (3, .ptr 0 0), (5, .ptr 1 0), (9, .fn (.func 86) [] [.p (.ep [sV x2])])], ⟨[[.p (iV p1)], [.p (iV y8)]], []⟩⟩
noncomputable def utf_Front_L1_x1 (p0 : (List UInt8)) (p1 : Int) (x2 : (List UInt8)) (y9 : Int) : St := ⟨[(0, .p (sV p0)), (5, .ptr 1 0)], ⟨[[.p (iV p1)], [.p (iV y9)]], []⟩⟩
noncomputable def utf_Front_L1_c : Code := ((loopsOf (Tryd.f37.body.getD .skip)).getD 0 .skip)
noncomputable def R35_Asked (p0 : Int) : Option (Int) :=
  some (if 0 > p0 then 0 else p0)
set_option maxRecDepth 100000 in
set_option maxHeartbeats 4000000 in
theorem R35_Asked_ok : ∀ (p0 : Int) (o : Int), R35_Asked p0 = some o → PCall Tryd.prog 24 [iV p0] (t_R35_Asked o) := by
  intro p0 o h
  unfold R35_Asked at h
  refine PCall.ofB mixed tbOk R35_Asked_lv Tryd.func24 rfl (by kernel_rfl) (Nat.le_of_ble_eq_true rfl) ?_
  refine st_ret (t := t_R35_Asked) h ?_
  exact .refl _
noncomputable def R35_Fair_L1 (p0 : (List Int)) (p1 : Int) (x1 : (List Int)) (v6 : Int) (v7 : Int) : Option (Int) :=
  if (decide (v7 < (p0.length : Int))) then
    idx p0 v7 >>= fun x3 =>
    R35_Asked x3 >>= fun x4 =>
    R35_Fair_L1 p0 p1 x1 (if x4 > v6 then x4 else v6) (wr (v7 + 1))
  else
    some v6
  partial_fixpoint
set_option maxRecDepth 100000 in
set_option maxHeartbeats 4000000 in
theorem R35_Fair_L1_grp : ∀ (p0 : (List Int)) (p1 : Int) (x1 : (List Int)), (∀ (v6 : Int) (v7 : Int) (o2 : Int), R35_Fair_L1 p0 p1 x1 v6 v7 = some o2 → TL (0, 0) Tryd.prog 103 R35_Fair_L1_c (JP1 (0, 0) 103 o2 (.exit 0) (R35_Fair_L1_x0 p0 p1 x1)) (R35_Fair_L1_st p0 p1 x1 v6 v7)) := by
  intro p0 p1 x1
  refine R35_Fair_L1.partial_correctness p0 p1 x1 _ ?_
  intro R35_Fair_L1' ih_R35_Fair_L1 v6 v7 o2 h
  refine TL.round (bwp_sound mixed tbOk (lv := R35_Fair_lv) _ _ _ ?_)
  refine view (lenMap _ _) rfl ?_
  refine st_test h (fun hb h => ?_) (fun hb h => ?_)
  · refine st_idx (l := p0) (c := cInt) (c' := cInt) h (fun _ => rfl) (fun _ => rfl) (by decide) (fun x3 hi h => ?_)
    refine st_call [iV x3] t_R35_Asked h (fun x4 hy => (R35_Asked_ok x3 x4 hy)) (fun x4 hy h => ?_)
    refine TL.le (τ := R35_Fair_L1_st p0 p1 x1 (if x4 > v6 then x4 else v6) (wr (v7 + 1))) ?_ ((ih_R35_Fair_L1 (if x4 > v6 then x4 else v6) (wr (v7 + 1)) _ h))
    exact Le.tow 0 1 rfl (.cons rfl (.refl _) (.cons rfl (.refl _) (.cons rfl (.refl _) (.cons rfl (.refl _) (.cons rfl (.refl _) (.nil)))))) (.refl _) rfl
  · exact JP1.a h (Le.tow 0 1 rfl (.cons rfl (.refl _) (.cons rfl (.refl _) (.cons rfl (.refl _) (.cons rfl (.refl _) (.nil))))) (.refl _) rfl)
theorem R35_Fair_L1_ok : ∀ (p0 : (List Int)) (p1 : Int) (x1 : (List Int)) (v6 : Int) (v7 : Int) (o2 : Int), R35_Fair_L1 p0 p1 x1 v6 v7 = some o2 → TL (0, 0) Tryd.prog 103 R35_Fair_L1_c (JP1 (0, 0) 103 o2 (.exit 0) (R35_Fair_L1_x0 p0 p1 x1)) (R35_Fair_L1_st p0 p1 x1 v6 v7) := fun p0 p1 x1 v6 v7 o2 h => (R35_Fair_L1_grp p0 p1 x1) v6 v7 o2 h
noncomputable def R35_fits_L1 (p0 : (List Int)) (p1 : Int) (p2 : Int) (v7 : Int) (v8 : Int) : Option (Unit ⊕ Unit) :=
  if (decide (v8 < (p0.length : Int))) then
    idx p0 v8 >>= fun x4 =>
    R35_Asked x4 >>= fun x5 =>
    if (decide ((if p1 < x5 then p1 else x5) > (wr (p2 - v7)))) then
      some (.inr ())
    else
      R35_fits_L1 p0 p1 p2 (wr (v7 + (if p1 < x5 then p1 else x5))) (wr (v8 + 1))
  else
    some (.inl ())
  partial_fixpoint
set_option maxRecDepth 100000 in
set_option maxHeartbeats 4000000 in
theorem R35_fits_L1_grp : ∀ (p0 : (List Int)) (p1 : Int) (p2 : Int), (∀ (v7 : Int) (v8 : Int) (o1 : Unit ⊕ Unit), R35_fits_L1 p0 p1 p2 v7 v8 = some o1 → TL (0, 0) Tryd.prog 31 R35_fits_L1_c (JP2 (0, 0) 31 o1 (.exit 0) (R35_fits_L1_x0 p0 p1 p2) .ret (R35_fits_L1_x1 p0 p1 p2)) (R35_fits_L1_st p0 p1 p2 v7 v8)) := by
  intro p0 p1 p2
  refine R35_fits_L1.partial_correctness p0 p1 p2 _ ?_
  intro R35_fits_L1' ih_R35_fits_L1 v7 v8 o1 h
  refine TL.round (bwp_sound mixed tbOk (lv := R35_fits_lv) _ _ _ ?_)
  refine view (lenMap _ _) rfl ?_
  refine st_test h (fun hb h => ?_) (fun hb h => ?_)
  · refine st_idx (l := p0) (c := cInt) (c' := cInt) h (fun _ => rfl) (fun _ => rfl) (by decide) (fun x4 hi h => ?_)
    refine st_call [iV x4] t_R35_Asked h (fun x5 hy => (R35_Asked_ok x4 x5 hy)) (fun x5 hy h => ?_)
    refine st_test h (fun hb h => ?_) (fun hb h => ?_)
    · exact JP2.b h (Le.tow 0 0 rfl (.cons rfl (.refl _) (.nil)) (.refl _) rfl)
    · refine TL.le (τ := R35_fits_L1_st p0 p1 p2 (wr (v7 + (if p1 < x5 then p1 else x5))) (wr (v8 + 1))) ?_ ((ih_R35_fits_L1 (wr (v7 + (if p1 < x5 then p1 else x5))) (wr (v8 + 1)) _ h))
      exact Le.tow 0 0 rfl (.cons rfl (.refl _) (.cons rfl (.refl _) (.cons rfl (.refl _) (.cons rfl (.refl _) (.cons rfl (.refl _) (.nil)))))) (.refl _) rfl
  · exact JP2.a h (Le.tow 0 0 rfl (.nil) (.refl _) rfl)
theorem R35_fits_L1_ok : ∀ (p0 : (List Int)) (p1 : Int) (p2 : Int) (v7 : Int) (v8 : Int) (o1 : Unit ⊕ Unit), R35_fits_L1 p0 p1 p2 v7 v8 = some o1 → TL (0, 0) Tryd.prog 31 R35_fits_L1_c (JP2 (0, 0) 31 o1 (.exit 0) (R35_fits_L1_x0 p0 p1 p2) .ret (R35_fits_L1_x1 p0 p1 p2)) (R35_fits_L1_st p0 p1 p2 v7 v8) := fun p0 p1 p2 v7 v8 o1 h => (R35_fits_L1_grp p0 p1 p2) v7 v8 o1 h
noncomputable def R35_fits (p0 : (List Int)) (p1 : Int) (p2 : Int) : Option (Bool) :=
  (R35_fits_L1 p0 p1 p2 0 0) >>= fun o1 =>
  match o1 with
  | .inl y2 =>
    some true
  | .inr y3 =>
    some false
set_option maxRecDepth 100000 in
set_option maxHeartbeats 4000000 in
theorem R35_fits_ok : ∀ (p0 : (List Int)) (p1 : Int) (p2 : Int) (o : Bool), R35_fits p0 p1 p2 = some o → PCall Tryd.prog 48 [.sl false (p0.map cInt), iV p1, iV p2] (t_R35_fits o) := by
  intro p0 p1 p2 o h
  unfold R35_fits at h
  refine PCall.ofB mixed tbOk R35_fits_lv Tryd.func48 rfl (by kernel_rfl) (Nat.le_of_ble_eq_true rfl) ?_
  refine st_bind h (fun o1 ho hk => ?_)
  refine Exists.intro (JP2 _ _ o1 (.exit 0) (R35_fits_L1_x0 p0 p1 p2) .ret (R35_fits_L1_x1 p0 p1 p2)) (And.intro (T_le (τ := R35_fits_L1_st p0 p1 p2 0 0) ?_ (TL.loop (R35_fits_L1_ok p0 p1 p2 0 0 o1 ho))) (join2 (fun y2 hy => ?_) (fun y3 hy => ?_)))
  · exact Le.tow 0 0 rfl (.cons rfl (.refl _) (.cons rfl (.refl _) (.cons rfl (.refl _) (.cons rfl (.refl _) (.cons rfl (.refl _) (.nil)))))) (.refl _) rfl
  · have h := (by rw [hy] at hk; exact hk)
    refine st_ret (t := t_R35_fits) h ?_
    exact .refl _
  · have h := (by rw [hy] at hk; exact hk)
    refine st_ret (t := t_R35_fits) h ?_
    exact .refl _
noncomputable def R35_Fair_L2 (p0 : (List Int)) (p1 : Int) (x1 : (List Int)) (v8 : Int) (v9 : Int) : Option (Int) :=
  if (decide (v8 < v9)) then
    R35_fits p0 (wr (v9 - (wr ((wr (v9 - v8)).tdiv 2)))) (if 0 > p1 then 0 else p1) >>= fun x6 =>
    if x6 then
      R35_Fair_L2 p0 p1 x1 (wr (v9 - (wr ((wr (v9 - v8)).tdiv 2)))) v9
    else
      R35_Fair_L2 p0 p1 x1 v8 (wr ((wr (v9 - (wr ((wr (v9 - v8)).tdiv 2)))) - 1))
  else
    some v8
  partial_fixpoint
set_option maxRecDepth 100000 in
set_option maxHeartbeats 4000000 in
theorem R35_Fair_L2_grp : ∀ (p0 : (List Int)) (p1 : Int) (x1 : (List Int)), (∀ (v8 : Int) (v9 : Int) (o5 : Int), R35_Fair_L2 p0 p1 x1 v8 v9 = some o5 → TL (0, 0) Tryd.prog 103 R35_Fair_L2_c (JP1 (0, 0) 103 o5 (.exit 2) (R35_Fair_L2_x0 p0 p1 x1)) (R35_Fair_L2_st p0 p1 x1 v8 v9)) := by
  intro p0 p1 x1
  refine R35_Fair_L2.partial_correctness p0 p1 x1 _ ?_
  intro R35_Fair_L2' ih_R35_Fair_L2 v8 v9 o5 h
  refine TL.round (bwp_sound mixed tbOk (lv := R35_Fair_lv) _ _ _ ?_)
  refine st_test h (fun hb h => ?_) (fun hb h => ?_)
  · refine And.intro (by decide) ?_
    refine st_call [.sl false (p0.map cInt), iV (wr (v9 - (wr ((wr (v9 - v8)).tdiv 2)))), iV (if 0 > p1 then 0 else p1)] t_R35_fits h (fun x6 hy => (R35_fits_ok p0 (wr (v9 - (wr ((wr (v9 - v8)).tdiv 2)))) (if 0 > p1 then 0 else p1) x6 hy)) (fun x6 hy h => ?_)
    refine st_test h (fun hb h => ?_) (fun hb h => ?_)
    · refine TL.le (τ := R35_Fair_L2_st p0 p1 x1 (wr (v9 - (wr ((wr (v9 - v8)).tdiv 2)))) v9) ?_ ((ih_R35_Fair_L2 (wr (v9 - (wr ((wr (v9 - v8)).tdiv 2)))) v9 _ h))
      exact Le.tow 0 1 rfl (.cons rfl (.refl _) (.cons rfl (.refl _) (.cons rfl (.refl _) (.cons rfl (.refl _) (.cons rfl (.refl _) (.nil)))))) (.refl _) rfl
    · refine TL.le (τ := R35_Fair_L2_st p0 p1 x1 v8 (wr ((wr (v9 - (wr ((wr (v9 - v8)).tdiv 2)))) - 1))) ?_ ((ih_R35_Fair_L2 v8 (wr ((wr (v9 - (wr ((wr (v9 - v8)).tdiv 2)))) - 1)) _ h))
      exact Le.tow 0 1 rfl (.cons rfl (.refl _) (.cons rfl (.refl _) (.cons rfl (.refl _) (.cons rfl (.refl _) (.cons rfl (.refl _) (.nil)))))) (.refl _) rfl
  · exact JP1.a h (Le.tow 0 1 rfl (.cons rfl (.refl _) (.cons rfl (.refl _) (.cons rfl (.refl _) (.cons rfl (.refl _) (.nil))))) (.refl _) rfl)
theorem R35_Fair_L2_ok : ∀ (p0 : (List Int)) (p1 : Int) (x1 : (List Int)) (v8 : Int) (v9 : Int) (o5 : Int), R35_Fair_L2 p0 p1 x1 v8 v9 = some o5 → TL (0, 0) Tryd.prog 103 R35_Fair_L2_c (JP1 (0, 0) 103 o5 (.exit 2) (R35_Fair_L2_x0 p0 p1 x1)) (R35_Fair_L2_st p0 p1 x1 v8 v9) := fun p0 p1 x1 v8 v9 o5 h => (R35_Fair_L2_grp p0 p1 x1) v8 v9 o5 h
noncomputable def R35_Fair_L3 (p0 : (List Int)) (o5 : Int) (v5 : (List Int)) (v11 : Int) (v12 : Int) : Option (((List Int) × Int)) :=
  if (decide (v12 < (p0.length : Int))) then
    idx p0 v12 >>= fun x8 =>
    R35_Asked x8 >>= fun x9 =>
    idx v5 v12 >>= fun x10 =>
    idx (v5.set v12.toNat (if o5 < x9 then o5 else x9)) v12 >>= fun x11 =>
    R35_Fair_L3 p0 o5 (v5.set v12.toNat (if o5 < x9 then o5 else x9)) (wr (v11 - x11)) (wr (v12 + 1))
  else
    some (v5, v11)
  partial_fixpoint
set_option maxRecDepth 100000 in
set_option maxHeartbeats 4000000 in
theorem R35_Fair_L3_grp : ∀ (p0 : (List Int)) (o5 : Int), (∀ (v5 : (List Int)) (v11 : Int) (v12 : Int) (o7 : ((List Int) × Int)), R35_Fair_L3 p0 o5 v5 v11 v12 = some o7 → TL (0, 0) Tryd.prog 103 R35_Fair_L3_c (JP1 (0, 0) 103 o7 (.exit 4) (R35_Fair_L3_x0 p0 o5)) (R35_Fair_L3_st p0 o5 v5 v11 v12)) := by
  intro p0 o5
  refine R35_Fair_L3.partial_correctness p0 o5 _ ?_
  intro R35_Fair_L3' ih_R35_Fair_L3 v5 v11 v12 o7 h
  refine TL.round (bwp_sound mixed tbOk (lv := R35_Fair_lv) _ _ _ ?_)
  refine view (lenMap _ _) rfl ?_
  refine st_test h (fun hb h => ?_) (fun hb h => ?_)
  · refine st_idx (l := p0) (c := cInt) (c' := cInt) h (fun _ => rfl) (fun _ => rfl) (by decide) (fun x8 hi h => ?_)
    refine st_call [iV x8] t_R35_Asked h (fun x9 hy => (R35_Asked_ok x8 x9 hy)) (fun x9 hy h => ?_)
    refine st_xidx (l := v5) (c := cInt) (c' := cInt) h rfl (fun _ => rfl) (fun _ => rfl) (by decide) (fun x10 hi h => ?_)
    refine And.intro rfl (And.intro (Nat.le_of_ble_eq_true rfl) (And.intro rfl (And.intro rfl (Exists.intro ((v5.set v12.toNat (if o5 < x9 then o5 else x9)).map cInt) (And.intro (setMap (.refl _)) ?_)))))
    refine st_xidx (l := (v5.set v12.toNat (if o5 < x9 then o5 else x9))) (c := cInt) (c' := cInt) h rfl (fun _ => rfl) (fun _ => rfl) (by decide) (fun x11 hi h => ?_)
    refine And.intro rfl (And.intro (Nat.le_of_ble_eq_true rfl) ?_)
    refine TL.le (τ := R35_Fair_L3_st p0 o5 (v5.set v12.toNat (if o5 < x9 then o5 else x9)) (wr (v11 - x11)) (wr (v12 + 1))) ?_ ((ih_R35_Fair_L3 (v5.set v12.toNat (if o5 < x9 then o5 else x9)) (wr (v11 - x11)) (wr (v12 + 1)) _ h))
    exact Le.trans (τ := ⟨[(0, .p (.sl false (p0.map cInt))), (5, .x 0 2 (.sl 3 1 ((v5.set v12.toNat (if o5 < x9 then o5 else x9)).map cInt))), (8, .p (iV o5)), (11, .p (iV (wr (v11 - x11)))), (12, .p (iV (wr (v12 + 1))))], ⟨[], [2]⟩⟩) (Le.tow 0 1 rfl (.cons rfl (.refl _) (.cons rfl (.refl _) (.cons rfl (.refl _) (.cons rfl (.refl _) (.cons rfl (.refl _) (.nil)))))) (.refl _) rfl) ((Le.ver (.s 5) 0 2 1 rfl rfl rfl rfl).trans (Le.tow 0 1 rfl (.cons rfl (.refl _) (.cons rfl (.refl _) (.cons rfl (.refl _) (.cons rfl (.refl _) (.cons rfl (.refl _) (.nil)))))) (.refl _) rfl))
  · exact JP1.a h (Le.tow 0 1 rfl (.cons rfl (.refl _) (.cons rfl (.refl _) (.cons rfl (.refl _) (.nil)))) (.refl _) rfl)
theorem R35_Fair_L3_ok : ∀ (p0 : (List Int)) (o5 : Int) (v5 : (List Int)) (v11 : Int) (v12 : Int) (o7 : ((List Int) × Int)), R35_Fair_L3 p0 o5 v5 v11 v12 = some o7 → TL (0, 0) Tryd.prog 103 R35_Fair_L3_c (JP1 (0, 0) 103 o7 (.exit 4) (R35_Fair_L3_x0 p0 o5)) (R35_Fair_L3_st p0 o5 v5 v11 v12) := fun p0 o5 v5 v11 v12 o7 h => (R35_Fair_L3_grp p0 o5) v5 v11 v12 o7 h
noncomputable def R35_Fair_L4 (p0 : (List Int)) (v5 : (List Int)) (v11 : Int) (v13 : Int) : Option ((List Int)) :=
  ( if (decide (v13 < (p0.length : Int))) then
      some (decide (v11 > 0))
    else
      some false : Option (Bool)) >>= fun o13 =>
  if o13 then
    idx p0 v13 >>= fun x14 =>
    R35_Asked x14 >>= fun x15 =>
    idx v5 v13 >>= fun x16 =>
    if (decide (x15 > x16)) then
      idx v5 v13 >>= fun x17 =>
      idx v5 v13 >>= fun x18 =>
      R35_Fair_L4 p0 (v5.set v13.toNat (wr (x17 + 1))) (wr (v11 - 1)) (wr (v13 + 1))
    else
      R35_Fair_L4 p0 v5 v11 (wr (v13 + 1))
  else
    some v5
  partial_fixpoint
set_option maxRecDepth 100000 in
set_option maxHeartbeats 4000000 in
theorem R35_Fair_L4_grp : ∀ (p0 : (List Int)), (∀ (v5 : (List Int)) (v11 : Int) (v13 : Int) (o12 : (List Int)), R35_Fair_L4 p0 v5 v11 v13 = some o12 → TL (0, 0) Tryd.prog 103 R35_Fair_L4_c (JP1 (0, 0) 103 o12 (.exit 6) (R35_Fair_L4_x0 p0)) (R35_Fair_L4_st p0 v5 v11 v13)) := by
  intro p0
  refine R35_Fair_L4.partial_correctness p0 _ ?_
  intro R35_Fair_L4' ih_R35_Fair_L4 v5 v11 v13 o12 h
  refine TL.round (bwp_sound mixed tbOk (lv := R35_Fair_lv) _ _ _ ?_)
  refine st_bind h (fun o13 ho hk => ?_)
  refine Exists.intro (JP1 _ _ o13 .normal (R35_Fair_J0_0 p0 v5 v11 v13)) (And.intro ?_ (join1 ?_))
  · have h := ho
    refine view (lenMap _ _) rfl ?_
    refine st_test h (fun hb h => ?_) (fun hb h => ?_)
    · refine JP1.a h ?_
      exact Le.tow 0 1 rfl (.cons rfl (.refl _) (.cons rfl (.refl _) (.cons rfl (.refl _) (.cons rfl (.refl _) (.cons rfl (.refl _) (.nil)))))) (.refl _) rfl
    · refine JP1.a h ?_
      exact Le.tow 0 1 rfl (.cons rfl (.refl _) (.cons rfl (.refl _) (.cons rfl (.refl _) (.cons rfl (.refl _) (.cons rfl (.refl _) (.nil)))))) (.refl _) rfl
  · have h := hk
    refine st_test h (fun hb h => ?_) (fun hb h => ?_)
    · refine And.intro (by decide +kernel) (And.intro rfl ?_)
      refine st_idx (l := p0) (c := cInt) (c' := cInt) h (fun _ => rfl) (fun _ => rfl) (by decide) (fun x14 hi h => ?_)
      refine st_calld [iV x14] t_R35_Asked h (fun x15 hy => (R35_Asked_ok x14 x15 hy)) (fun x15 hy h => ?_)
      refine And.intro rfl ?_
      refine st_xidx (l := v5) (c := cInt) (c' := cInt) h rfl (fun _ => rfl) (fun _ => rfl) (by decide) (fun x16 hi h => ?_)
      refine And.intro rfl ?_
      refine And.intro rfl (And.intro (Nat.le_of_ble_eq_true rfl) ?_)
      refine st_test h (fun hb h => ?_) (fun hb h => ?_)
      · refine st_xidx (l := v5) (c := cInt) (c' := cInt) h rfl (fun _ => rfl) (fun _ => rfl) (by decide) (fun x17 hi h => ?_)
        refine And.intro rfl (And.intro (Nat.le_of_ble_eq_true rfl) ?_)
        refine st_xidx (l := v5) (c := cInt) (c' := cInt) h rfl (fun _ => rfl) (fun _ => rfl) (by decide) (fun x18 hi h => ?_)
        refine And.intro rfl (And.intro (Nat.le_of_ble_eq_true rfl) (And.intro rfl (And.intro rfl (Exists.intro ((v5.set v13.toNat (wr (x17 + 1))).map cInt) (And.intro (setMap (.refl _)) ?_)))))
        refine TL.le (τ := R35_Fair_L4_st p0 (v5.set v13.toNat (wr (x17 + 1))) (wr (v11 - 1)) (wr (v13 + 1))) ?_ ((ih_R35_Fair_L4 (v5.set v13.toNat (wr (x17 + 1))) (wr (v11 - 1)) (wr (v13 + 1)) _ h))
        exact Le.trans (τ := ⟨[(0, .p (.sl false (p0.map cInt))), (5, .x 0 2 (.sl 3 1 ((v5.set v13.toNat (wr (x17 + 1))).map cInt))), (11, .p (iV (wr (v11 - 1)))), (13, .p (iV (wr (v13 + 1))))], ⟨[], [2]⟩⟩) (Le.tow 0 1 rfl (.cons rfl (.refl _) (.cons rfl (.refl _) (.cons rfl (.refl _) (.cons rfl (.refl _) (.nil))))) (.refl _) rfl) ((Le.ver (.s 5) 0 2 1 rfl rfl rfl rfl).trans (Le.tow 0 1 rfl (.cons rfl (.refl _) (.cons rfl (.refl _) (.cons rfl (.refl _) (.cons rfl (.refl _) (.nil))))) (.refl _) rfl))
      · refine TL.le (τ := R35_Fair_L4_st p0 v5 v11 (wr (v13 + 1))) ?_ ((ih_R35_Fair_L4 v5 v11 (wr (v13 + 1)) _ h))
        exact Le.tow 0 1 rfl (.cons rfl (.refl _) (.cons rfl (.refl _) (.cons rfl (.refl _) (.cons rfl (.refl _) (.nil))))) (.refl _) rfl
    · exact JP1.a h (Le.tow 0 1 rfl (.cons rfl (.refl _) (.nil)) (.refl _) rfl)
theorem R35_Fair_L4_ok : ∀ (p0 : (List Int)) (v5 : (List Int)) (v11 : Int) (v13 : Int) (o12 : (List Int)), R35_Fair_L4 p0 v5 v11 v13 = some o12 → TL (0, 0) Tryd.prog 103 R35_Fair_L4_c (JP1 (0, 0) 103 o12 (.exit 6) (R35_Fair_L4_x0 p0)) (R35_Fair_L4_st p0 v5 v11 v13) := fun p0 v5 v11 v13 o12 h => (R35_Fair_L4_grp p0) v5 v11 v13 o12 h
noncomputable def R35_Fair (p0 : (List Int)) (p1 : Int) : Option ((List Int)) :=
  mkL 8 (p0.length : Int) 0 >>= fun x1 =>
  (R35_Fair_L1 p0 p1 x1 0 0) >>= fun o2 =>
  (R35_Fair_L2 p0 p1 x1 0 (if (if 0 > p1 then 0 else p1) < o2 then (if 0 > p1 then 0 else p1) else o2)) >>= fun o5 =>
  (R35_Fair_L3 p0 o5 x1 (if 0 > p1 then 0 else p1) 0) >>= fun o7 =>
  (R35_Fair_L4 p0 o7.1 o7.2 0) >>= fun o12 =>
  some o12
set_option maxRecDepth 100000 in
set_option maxHeartbeats 4000000 in
theorem R35_Fair_ok : ∀ (p0 : (List Int)) (p1 : Int) (o : (List Int)), R35_Fair p0 p1 = some o → PCall Tryd.prog 23 [.sl false (p0.map cInt), iV p1] (t_R35_Fair o) := by
  intro p0 p1 o h
  unfold R35_Fair at h
  refine PCall.ofB mixed tbOk R35_Fair_lv Tryd.func23 rfl (by kernel_rfl) (Nat.le_of_ble_eq_true rfl) ?_
  refine view (lenMap _ _) rfl ?_
  refine st_xmk (c := cInt) h rfl ⟨rfl, by decide⟩ (fun x1 hi h => ?_)
  refine st_bind h (fun o2 ho hk => ?_)
  refine Exists.intro (JP1 _ _ o2 (.exit 0) (R35_Fair_L1_x0 p0 p1 x1)) (And.intro (T_le (τ := R35_Fair_L1_st p0 p1 x1 0 0) ?_ (TL.loop (R35_Fair_L1_ok p0 p1 x1 0 0 o2 ho))) (join1 ?_))
  · exact Le.tow 0 1 rfl (.cons rfl (.refl _) (.cons rfl (.refl _) (.cons rfl (.refl _) (.cons rfl (.refl _) (.cons rfl (.refl _) (.nil)))))) (.refl _) rfl
  have h := hk
  refine st_bind h (fun o5 ho hk => ?_)
  refine Exists.intro (JP1 _ _ o5 (.exit 2) (R35_Fair_L2_x0 p0 p1 x1)) (And.intro (T_le (τ := R35_Fair_L2_st p0 p1 x1 0 (if (if 0 > p1 then 0 else p1) < o2 then (if 0 > p1 then 0 else p1) else o2)) ?_ (TL.loop (R35_Fair_L2_ok p0 p1 x1 0 (if (if 0 > p1 then 0 else p1) < o2 then (if 0 > p1 then 0 else p1) else o2) o5 ho))) (join1 ?_))
  · exact Le.tow 0 1 rfl (.cons rfl (.refl _) (.cons rfl (.refl _) (.cons rfl (.refl _) (.cons rfl (.refl _) (.cons rfl (.refl _) (.nil)))))) (.refl _) rfl
  have h := hk
  refine st_bind h (fun o7 ho hk => ?_)
  refine Exists.intro (JP1 _ _ o7 (.exit 4) (R35_Fair_L3_x0 p0 o5)) (And.intro (T_le (τ := R35_Fair_L3_st p0 o5 x1 (if 0 > p1 then 0 else p1) 0) ?_ (TL.loop (R35_Fair_L3_ok p0 o5 x1 (if 0 > p1 then 0 else p1) 0 o7 ho))) (join1 ?_))
  · exact Le.tow 0 1 rfl (.cons rfl (.refl _) (.cons rfl (.refl _) (.cons rfl (.refl _) (.cons rfl (.refl _) (.cons rfl (.refl _) (.nil)))))) (.refl _) rfl
  have h := hk
  refine st_bind h (fun o12 ho hk => ?_)
  refine Exists.intro (JP1 _ _ o12 (.exit 6) (R35_Fair_L4_x0 p0)) (And.intro (T_le (τ := R35_Fair_L4_st p0 o7.1 o7.2 0) ?_ (TL.loop (R35_Fair_L4_ok p0 o7.1 o7.2 0 o12 ho))) (join1 ?_))
  · exact Le.tow 0 1 rfl (.cons rfl (.refl _) (.cons rfl (.refl _) (.cons rfl (.refl _) (.cons rfl (.refl _) (.nil))))) (.refl _) rfl
  have h := hk
  refine Exists.intro _ (And.intro (Le.frzv (.s 5) 0 1 rfl rfl rfl rfl) ?_)
  refine st_ret (t := t_R35_Fair) h ?_
  exact .refl _
noncomputable def nunciolaw35_numbers_L1 (p0 : (List Int)) (p1 : (List Int)) (v5 : Int) : Option (Unit ⊕ Unit) :=
  if (decide (v5 < (p0.length : Int))) then
    idx p0 v5 >>= fun x4 =>
    idx p1 v5 >>= fun x5 =>
    if (x4 != x5) then
      some (.inr ())
    else
      nunciolaw35_numbers_L1 p0 p1 (wr (v5 + 1))
  else
    some (.inl ())
  partial_fixpoint
set_option maxRecDepth 100000 in
set_option maxHeartbeats 4000000 in
theorem nunciolaw35_numbers_L1_grp : ∀ (p0 : (List Int)) (p1 : (List Int)), (∀ (v5 : Int) (o1 : Unit ⊕ Unit), nunciolaw35_numbers_L1 p0 p1 v5 = some o1 → TL (0, 0) Tryd.prog 26 nunciolaw35_numbers_L1_c (JP2 (0, 0) 26 o1 (.exit 0) (nunciolaw35_numbers_L1_x0 p0 p1) .ret (nunciolaw35_numbers_L1_x1 p0 p1)) (nunciolaw35_numbers_L1_st p0 p1 v5)) := by
  intro p0 p1
  refine nunciolaw35_numbers_L1.partial_correctness p0 p1 _ ?_
  intro nunciolaw35_numbers_L1' ih_nunciolaw35_numbers_L1 v5 o1 h
  refine TL.round (bwp_sound mixed tbOk (lv := nunciolaw35_numbers_lv) _ _ _ ?_)
  refine view (lenMap _ _) rfl ?_
  refine st_test h (fun hb h => ?_) (fun hb h => ?_)
  · refine And.intro (by decide +kernel) (And.intro rfl ?_)
    refine st_idx (l := p0) (c := cInt) (c' := cInt) h (fun _ => rfl) (fun _ => rfl) (by decide) (fun x4 hi h => ?_)
    refine st_idx (l := p1) (c := cInt) (c' := cInt) h (fun _ => rfl) (fun _ => rfl) (by decide) (fun x5 hi h => ?_)
    refine st_test h (fun hb h => ?_) (fun hb h => ?_)
    · exact JP2.b h (Le.tow 0 0 rfl (.cons rfl (.refl _) (.nil)) (.refl _) rfl)
    · refine TL.le (τ := nunciolaw35_numbers_L1_st p0 p1 (wr (v5 + 1))) ?_ ((ih_nunciolaw35_numbers_L1 (wr (v5 + 1)) _ h))
      exact Le.tow 0 0 rfl (.cons rfl (.refl _) (.cons rfl (.refl _) (.cons rfl (.refl _) (.nil)))) (.refl _) rfl
  · exact JP2.a h (Le.tow 0 0 rfl (.nil) (.refl _) rfl)
theorem nunciolaw35_numbers_L1_ok : ∀ (p0 : (List Int)) (p1 : (List Int)) (v5 : Int) (o1 : Unit ⊕ Unit), nunciolaw35_numbers_L1 p0 p1 v5 = some o1 → TL (0, 0) Tryd.prog 26 nunciolaw35_numbers_L1_c (JP2 (0, 0) 26 o1 (.exit 0) (nunciolaw35_numbers_L1_x0 p0 p1) .ret (nunciolaw35_numbers_L1_x1 p0 p1)) (nunciolaw35_numbers_L1_st p0 p1 v5) := fun p0 p1 v5 o1 h => (nunciolaw35_numbers_L1_grp p0 p1) v5 o1 h
noncomputable def nunciolaw35_numbers (p0 : (List Int)) (p1 : (List Int)) : Option (Bool) :=
  if ((p0.length : Int) != (p1.length : Int)) then
    some false
  else
    (nunciolaw35_numbers_L1 p0 p1 0) >>= fun o1 =>
    match o1 with
    | .inl y2 =>
      some true
    | .inr y3 =>
      some false
set_option maxRecDepth 100000 in
set_option maxHeartbeats 4000000 in
theorem nunciolaw35_numbers_ok : ∀ (p0 : (List Int)) (p1 : (List Int)) (o : Bool), nunciolaw35_numbers p0 p1 = some o → PCall Tryd.prog 22 [.sl false (p0.map cInt), .sl false (p1.map cInt)] (t_nunciolaw35_numbers o) := by
  intro p0 p1 o h
  unfold nunciolaw35_numbers at h
  refine PCall.ofB mixed tbOk nunciolaw35_numbers_lv Tryd.func22 rfl (by kernel_rfl) (Nat.le_of_ble_eq_true rfl) ?_
  refine view (lenMap _ _) rfl ?_
  refine view (lenMap _ _) rfl ?_
  refine st_test h (fun hb h => ?_) (fun hb h => ?_)
  · refine st_ret (t := t_nunciolaw35_numbers) h ?_
    exact .refl _
  · refine st_bind h (fun o1 ho hk => ?_)
    refine Exists.intro (JP2 _ _ o1 (.exit 0) (nunciolaw35_numbers_L1_x0 p0 p1) .ret (nunciolaw35_numbers_L1_x1 p0 p1)) (And.intro (T_le (τ := nunciolaw35_numbers_L1_st p0 p1 0) ?_ (TL.loop (nunciolaw35_numbers_L1_ok p0 p1 0 o1 ho))) (join2 (fun y2 hy => ?_) (fun y3 hy => ?_)))
    · exact Le.tow 0 0 rfl (.cons rfl (.refl _) (.cons rfl (.refl _) (.cons rfl (.refl _) (.nil)))) (.refl _) rfl
    · have h := (by rw [hy] at hk; exact hk)
      refine st_ret (t := t_nunciolaw35_numbers) h ?_
      exact .refl _
    · have h := (by rw [hy] at hk; exact hk)
      refine st_ret (t := t_nunciolaw35_numbers) h ?_
      exact .refl _
noncomputable def trunc_short (p0 : (List UInt8)) (p1 : Int) : Option ((List UInt8) × Bool × Bool) :=
  if (decide ((p0.length : Int) ≤ p1)) then
    some (p0, false, true)
  else
    if (decide (p1 < 3)) then
      some ([], true, true)
    else
      some ([], false, false)
set_option maxRecDepth 100000 in
set_option maxHeartbeats 4000000 in
theorem trunc_short_ok : ∀ (p0 : (List UInt8)) (p1 : Int) (o : (List UInt8) × Bool × Bool), trunc_short p0 p1 = some o → PCall Tryd.prog 36 [sV p0, iV p1] (t_trunc_short o) := by
  intro p0 p1 o h
  unfold trunc_short at h
  refine PCall.ofB mixed tbOk trunc_short_lv Tryd.func36 rfl (by kernel_rfl) (Nat.le_of_ble_eq_true rfl) ?_
  refine vrfl ?_
  refine st_test h (fun hb h => ?_) (fun hb h => ?_)
  · refine st_ret (t := t_trunc_short) h ?_
    exact .refl _
  · refine st_test h (fun hb h => ?_) (fun hb h => ?_)
    · refine st_ret (t := t_trunc_short) h ?_
      exact .refl _
    · refine st_ret (t := t_trunc_short) h ?_
      exact .refl _
noncomputable def utf_Front_L1 (p0 : (List UInt8)) (p1 : Int) (x2 : (List UInt8)) (l5 : (List (Int × Int))) (h1_0 : Int) : Option (Int ⊕ Int) :=
  match l5 with
  | [] =>
    some (.inl h1_0)
  | x3 :: r4 =>
    if (decide (x3.2 > (wr (p1 - h1_0)))) then
      some (.inr h1_0)
    else
      utf_Front_L1 p0 p1 x2 r4 (wr (h1_0 + x3.2))
  partial_fixpoint
set_option maxRecDepth 100000 in
set_option maxHeartbeats 4000000 in
theorem utf_Front_L1_grp : ∀ (p0 : (List UInt8)) (p1 : Int) (x2 : (List UInt8)), (∀ (l5 : (List (Int × Int))) (h1_0 : Int) (o7 : Int ⊕ Int), utf_Front_L1 p0 p1 x2 l5 h1_0 = some o7 → RL 2 0 Tryd.prog 23 (rgP utf_Front_L1_c) (rgA utf_Front_L1_c) (rgB utf_Front_L1_c) (utf_Front_L1_st p0 p1 x2 h1_0).env (JP2 (0, 0) 23 o7 .normal (utf_Front_L1_x0 p0 p1 x2) (.exit 0) (utf_Front_L1_x1 p0 p1 x2)) (l5.map e_utf_all_1) (utf_Front_L1_st p0 p1 x2 h1_0).s) := by
  intro p0 p1 x2
  refine utf_Front_L1.partial_correctness p0 p1 x2 _ ?_
  intro utf_Front_L1' ih_utf_Front_L1 l5 h1_0 o7 h
  cases l5 with
  | nil =>
    refine rl_nil ?_
    exact JP2.a h (Le.tow 2 0 rfl (.cons rfl (.refl _) (.cons rfl (.refl _) (.cons rfl (.refl _) (.cons rfl (.refl _) (.nil))))) (.refl _) rfl)
  | cons x3 r4 =>
    refine rl_cons (bwp_sound mixed tbOk (lv := utf_Front_lv) _ _ _ ?_)
    refine And.intro rfl (bwp_sound mixed tbOk (lv := utf_Front_lv) _ _ _ ?_)
    refine st_test h (fun hb h => ?_) (fun hb h => ?_)
    · exact Exists.intro (⟨[[.p (iV p1)], [.p (iV h1_0)]], []⟩ : S) (And.intro (Le.tow 2 0 rfl .nil (.refl _) rfl) (And.intro rfl (And.intro rfl (JP2.b h (Le.tow 2 0 rfl (.cons rfl (.refl _) (.cons rfl (.refl _) (.nil))) (.refl _) rfl)))))
    · exact Exists.intro (utf_Front_L1_st p0 p1 x2 (wr (h1_0 + x3.2))).s (And.intro (Le.tow 2 0 rfl (.nil) (.refl _) rfl) (And.intro rfl (And.intro rfl ((ih_utf_Front_L1 r4 (wr (h1_0 + x3.2)) _ h)))))
theorem utf_Front_L1_ok : ∀ (p0 : (List UInt8)) (p1 : Int) (x2 : (List UInt8)) (l5 : (List (Int × Int))) (h1_0 : Int) (o7 : Int ⊕ Int), utf_Front_L1 p0 p1 x2 l5 h1_0 = some o7 → RL 2 0 Tryd.prog 23 (rgP utf_Front_L1_c) (rgA utf_Front_L1_c) (rgB utf_Front_L1_c) (utf_Front_L1_st p0 p1 x2 h1_0).env (JP2 (0, 0) 23 o7 .normal (utf_Front_L1_x0 p0 p1 x2) (.exit 0) (utf_Front_L1_x1 p0 p1 x2)) (l5.map e_utf_all_1) (utf_Front_L1_st p0 p1 x2 h1_0).s := fun p0 p1 x2 l5 h1_0 o7 h => (utf_Front_L1_grp p0 p1 x2) l5 h1_0 o7 h
noncomputable def utf_Front (p0 : (List UInt8)) (p1 : Int) : Option ((List UInt8)) :=
  ( utf_all p0 >>= fun x2 =>
    utf_all_1 x2 >>= fun y6 =>
    (utf_Front_L1 p0 p1 x2 y6.1 0) >>= fun o7 =>
    match o7 with
    | .inl y8 =>
      some y8
    | .inr y9 =>
      some y9 : Option (Int)) >>= fun o1 =>
  cutL p0 0 o1 >>= fun x10 =>
  some x10
set_option maxRecDepth 100000 in
set_option maxHeartbeats 4000000 in
theorem utf_Front_ok : ∀ (p0 : (List UInt8)) (p1 : Int) (o : (List UInt8)), utf_Front p0 p1 = some o → PCall Tryd.prog 37 [sV p0, iV p1] (t_utf_Front o) := by
  intro p0 p1 o h
  unfold utf_Front at h
  refine PCall.ofB mixed tbOk utf_Front_lv Tryd.func37 rfl (by kernel_rfl) (Nat.le_of_ble_eq_true rfl) ?_
  refine st_bind h (fun o1 ho hk => ?_)
  refine Exists.intro (JP1 _ _ o1 .normal (utf_Front_J0_0 p0 p1)) (And.intro ?_ (join1 ?_))
  · have h := ho
    refine st_call [sV p0] t_utf_all h (fun x2 hy => (utf_all_ok p0 x2 hy)) (fun x2 hy h => ?_)
    refine st_bind h (fun y6 hy6 h => ?_)
    refine st_bind h (fun o7 ho hk => ?_)
    refine Exists.intro (JP2 _ _ o7 .normal (utf_Front_L1_x0 p0 p1 x2) (.exit 0) (utf_Front_L1_x1 p0 p1 x2)) (And.intro (T_le (τ := utf_Front_L1_st p0 p1 x2 0) ?_ (T_range (g := 86) (cap := [.ep [sV x2]]) rfl ((utf_all_1_ok x2 y6 hy6) _ rfl) (mapSize fun _ => rfl) rfl (Nat.le_of_ble_eq_true rfl) (Nat.le_of_ble_eq_true rfl) (utf_Front_L1_ok p0 p1 x2 y6.1 0 o7 ho))) (join2 (fun y8 hy => ?_) (fun y9 hy => ?_)))
    · exact Le.tow 2 0 rfl (.cons rfl (.refl _) (.cons rfl (.refl _) (.cons rfl (.refl _) (.cons rfl (.refl _) (.nil))))) (.refl _) rfl
    · have h := (by rw [hy] at hk; exact hk)
      refine JP1.a h ?_
      exact Le.tow 2 0 rfl (.cons rfl (.refl _) (.cons rfl (.refl _) (.nil))) (.refl _) rfl
    · have h := (by rw [hy] at hk; exact hk)
      refine JP1.a h ?_
      exact Le.tow 2 0 rfl (.cons rfl (.refl _) (.cons rfl (.refl _) (.nil))) (.refl _) rfl
  · have h := hk
    refine st_cuts none (some o1) h (fun x10 hi h => ?_)
    refine st_ret (t := t_utf_Front) h ?_
    exact .refl _
noncomputable def trunc_Cut (p0 : (List UInt8)) (p1 : Int) : Option ((List UInt8) × Bool) :=
  trunc_short p0 p1 >>= fun x1 =>
  if x1.2.2 then
    some (x1.1, x1.2.1)
  else
    utf_Front p0 (wr (p1 - 3)) >>= fun x2 =>
    need (x2.length + [226, 128, 166].length ≤ 9223372036854775807) >>= fun _ =>
    some ((x2 ++ [226, 128, 166]), true)
set_option maxRecDepth 100000 in
set_option maxHeartbeats 4000000 in
theorem trunc_Cut_ok : ∀ (p0 : (List UInt8)) (p1 : Int) (o : (List UInt8) × Bool), trunc_Cut p0 p1 = some o → PCall Tryd.prog 12 [sV p0, iV p1] (t_trunc_Cut o) := by
  intro p0 p1 o h
  unfold trunc_Cut at h
  refine PCall.ofB mixed tbOk trunc_Cut_lv Tryd.func12 rfl (by kernel_rfl) (Nat.le_of_ble_eq_true rfl) ?_
  refine st_call [sV p0, iV p1] t_trunc_short h (fun x1 hy => (trunc_short_ok p0 p1 x1 hy)) (fun x1 hy h => ?_)
  refine st_test h (fun hb h => ?_) (fun hb h => ?_)
  · refine st_ret (t := t_trunc_Cut) h ?_
    exact .refl _
  · refine st_call [sV p0, iV (wr (p1 - 3))] t_utf_Front h (fun x2 hy => (utf_Front_ok p0 (wr (p1 - 3)) x2 hy)) (fun x2 hy h => ?_)
    refine st_need h (fun h => ?_)
    refine st_ret (t := t_trunc_Cut) h ?_
    exact .refl _
noncomputable def trunc_Fair_1_L1 (p0 : Int) (h0_0 : (List Int)) (v4 : (List Int)) (v12 : Int) : Option ((List Int)) :=
  if (decide (v12 < (h0_0.length : Int))) then
    idx h0_0 v12 >>= fun x3 =>
    idx v4 v12 >>= fun x4 =>
    trunc_Fair_1_L1 p0 h0_0 (v4.set v12.toNat (if p0 < (if 0 > x3 then 0 else x3) then p0 else (if 0 > x3 then 0 else x3))) (wr (v12 + 1))
  else
    some v4
  partial_fixpoint
set_option maxRecDepth 100000 in
set_option maxHeartbeats 4000000 in
theorem trunc_Fair_1_L1_grp : ∀ (p0 : Int) (h0_0 : (List Int)), (∀ (v4 : (List Int)) (v12 : Int) (o2 : (List Int)), trunc_Fair_1_L1 p0 h0_0 v4 v12 = some o2 → TL (1, 0) Tryd.prog 26 trunc_Fair_1_L1_c (JP1 (1, 0) 26 o2 (.exit 0) (trunc_Fair_1_L1_x0 p0 h0_0)) (trunc_Fair_1_L1_st p0 h0_0 v4 v12)) := by
  intro p0 h0_0
  refine trunc_Fair_1_L1.partial_correctness p0 h0_0 _ ?_
  intro trunc_Fair_1_L1' ih_trunc_Fair_1_L1 v4 v12 o2 h
  refine TL.round (bwp_sound mixed tbOk (lv := trunc_Fair_1_lv) _ _ _ ?_)
  refine st_test h (fun hb h => ?_) (fun hb h => ?_)
  · refine st_idx (l := h0_0) (c := cInt) (c' := cInt) h (fun _ => rfl) (fun _ => rfl) (by decide) (fun x3 hi h => ?_)
    refine st_xidx (l := v4) (c := cInt) (c' := cInt) h rfl (fun _ => rfl) (fun _ => rfl) (by decide) (fun x4 hi h => ?_)
    refine And.intro rfl (And.intro (Nat.le_of_ble_eq_true rfl) (And.intro rfl (And.intro rfl (Exists.intro ((v4.set v12.toNat (if p0 < (if 0 > x3 then 0 else x3) then p0 else (if 0 > x3 then 0 else x3))).map cInt) (And.intro (setMap (.refl _)) ?_)))))
    refine TL.le (τ := trunc_Fair_1_L1_st p0 h0_0 (v4.set v12.toNat (if p0 < (if 0 > x3 then 0 else x3) then p0 else (if 0 > x3 then 0 else x3))) (wr (v12 + 1))) ?_ ((ih_trunc_Fair_1_L1 (v4.set v12.toNat (if p0 < (if 0 > x3 then 0 else x3) then p0 else (if 0 > x3 then 0 else x3))) (wr (v12 + 1)) _ h))
    exact Le.trans (τ := ⟨[(0, .p (iV p0)), (4, .x 0 2 (.sl 3 1 ((v4.set v12.toNat (if p0 < (if 0 > x3 then 0 else x3) then p0 else (if 0 > x3 then 0 else x3))).map cInt))), (10, .p (.sl false (h0_0.map cInt))), (11, .p (iV (h0_0.length : Int))), (12, .p (iV (wr (v12 + 1))))], ⟨[[.p (.sl false (h0_0.map cInt))]], [2]⟩⟩) (Le.tow 1 1 rfl (.cons rfl (.refl _) (.cons rfl (.refl _) (.cons rfl (.refl _) (.cons rfl (.refl _) (.cons rfl (.refl _) (.nil)))))) (.refl _) rfl) ((Le.ver (.s 4) 0 2 1 rfl rfl rfl rfl).trans (Le.tow 1 1 rfl (.cons rfl (.refl _) (.cons rfl (.refl _) (.cons rfl (.refl _) (.cons rfl (.refl _) (.cons rfl (.refl _) (.nil)))))) (.refl _) rfl))
  · exact JP1.a h (Le.tow 1 1 rfl (.cons rfl (.refl _) (.nil)) (.refl _) rfl)
theorem trunc_Fair_1_L1_ok : ∀ (p0 : Int) (h0_0 : (List Int)) (v4 : (List Int)) (v12 : Int) (o2 : (List Int)), trunc_Fair_1_L1 p0 h0_0 v4 v12 = some o2 → TL (1, 0) Tryd.prog 26 trunc_Fair_1_L1_c (JP1 (1, 0) 26 o2 (.exit 0) (trunc_Fair_1_L1_x0 p0 h0_0)) (trunc_Fair_1_L1_st p0 h0_0 v4 v12) := fun p0 h0_0 v4 v12 o2 h => (trunc_Fair_1_L1_grp p0 h0_0) v4 v12 o2 h
noncomputable def trunc_Fair_1 (p0 : Int) (h0_0 : (List Int)) : Option ((List Int)) :=
  mkL 8 (h0_0.length : Int) 0 >>= fun x1 =>
  (trunc_Fair_1_L1 p0 h0_0 x1 0) >>= fun o2 =>
  some o2
set_option maxRecDepth 100000 in
set_option maxHeartbeats 4000000 in
theorem trunc_Fair_1_ok : ∀ (p0 : Int) (h0_0 : (List Int)) (o : (List Int)), trunc_Fair_1 p0 h0_0 = some o → CallOK Tryd.prog 44 [.p (iV p0), .ptr 0 0] ⟨[[.p (.sl false (h0_0.map cInt))]], []⟩ (t_trunc_Fair_1 o) ⟨[[.p (.sl false (h0_0.map cInt))]], [1]⟩ := by
  intro p0 h0_0 o h
  unfold trunc_Fair_1 at h
  refine CallOK.ofB mixed tbOk trunc_Fair_1_lv Tryd.func44 rfl (by kernel_rfl) (Nat.le_of_ble_eq_true rfl) rfl rfl rfl ?_
  refine view (lenMap _ _) rfl ?_
  refine st_xmk (c := cInt) h rfl ⟨rfl, by decide⟩ (fun x1 hi h => ?_)
  refine view (lenMap _ _) rfl ?_
  refine st_bind h (fun o2 ho hk => ?_)
  refine Exists.intro (JP1 _ _ o2 (.exit 0) (trunc_Fair_1_L1_x0 p0 h0_0)) (And.intro (T_le (τ := trunc_Fair_1_L1_st p0 h0_0 x1 0) ?_ (TL.loop (trunc_Fair_1_L1_ok p0 h0_0 x1 0 o2 ho))) (join1 ?_))
  · exact Le.tow 1 1 rfl (.cons rfl (.refl _) (.cons rfl (.refl _) (.cons rfl (.refl _) (.cons rfl (.refl _) (.cons rfl (.refl _) (.nil)))))) (.refl _) rfl
  have h := hk
  refine Exists.intro _ (And.intro (Le.refl _ _ _) ?_)
  exact st_retc (t := t_trunc_Fair_1) (ss := fun o => ⟨[[.p (.sl false (h0_0.map cInt))]], [1]⟩) h ⟨[0], rfl, .refl _, .refl _, rfl⟩
noncomputable def trunc_Fair_2_L1 (h0_0 : Int) (h2_0 : (List Int)) (x1 : (List Int)) (v5 : Int) (v13 : Int) : Option (Int ⊕ Unit) :=
  if (decide (v13 < (x1.length : Int))) then
    idx x1 v13 >>= fun x5 =>
    if (decide ((wr (v5 - x5)) < 0)) then
      some (.inr ())
    else
      trunc_Fair_2_L1 h0_0 h2_0 x1 (wr (v5 - x5)) (wr (v13 + 1))
  else
    some (.inl v5)
  partial_fixpoint
set_option maxRecDepth 100000 in
set_option maxHeartbeats 4000000 in
theorem trunc_Fair_2_L1_grp : ∀ (h0_0 : Int) (h2_0 : (List Int)) (x1 : (List Int)), (∀ (v5 : Int) (v13 : Int) (o2 : Int ⊕ Unit), trunc_Fair_2_L1 h0_0 h2_0 x1 v5 v13 = some o2 → TL (3, 0) Tryd.prog 24 trunc_Fair_2_L1_c (JP2 (3, 0) 24 o2 (.exit 0) (trunc_Fair_2_L1_x0 h0_0 h2_0 x1) .ret (trunc_Fair_2_L1_x1 h0_0 h2_0 x1)) (trunc_Fair_2_L1_st h0_0 h2_0 x1 v5 v13)) := by
  intro h0_0 h2_0 x1
  refine trunc_Fair_2_L1.partial_correctness h0_0 h2_0 x1 _ ?_
  intro trunc_Fair_2_L1' ih_trunc_Fair_2_L1 v5 v13 o2 h
  refine TL.round (bwp_sound mixed tbOk (lv := trunc_Fair_2_lv) _ _ _ ?_)
  refine st_test h (fun hb h => ?_) (fun hb h => ?_)
  · refine st_xidx (l := x1) (c := cInt) (c' := cInt) h rfl (fun _ => rfl) (fun _ => rfl) (by decide) (fun x5 hi h => ?_)
    refine And.intro rfl (And.intro (Nat.le_of_ble_eq_true rfl) ?_)
    refine st_test h (fun hb h => ?_) (fun hb h => ?_)
    · exact JP2.b h (Le.tow 3 1 rfl (.cons rfl (.refl _) (.nil)) (.refl _) rfl)
    · refine TL.le (τ := trunc_Fair_2_L1_st h0_0 h2_0 x1 (wr (v5 - x5)) (wr (v13 + 1))) ?_ ((ih_trunc_Fair_2_L1 (wr (v5 - x5)) (wr (v13 + 1)) _ h))
      exact Le.tow 3 1 rfl (.cons rfl (.refl _) (.cons rfl (.refl _) (.cons rfl (.refl _) (.cons rfl (.refl _) (.nil))))) (.refl _) rfl
  · exact JP2.a h (Le.tow 3 1 rfl (.cons rfl (.refl _) (.nil)) (.refl _) rfl)
theorem trunc_Fair_2_L1_ok : ∀ (h0_0 : Int) (h2_0 : (List Int)) (x1 : (List Int)) (v5 : Int) (v13 : Int) (o2 : Int ⊕ Unit), trunc_Fair_2_L1 h0_0 h2_0 x1 v5 v13 = some o2 → TL (3, 0) Tryd.prog 24 trunc_Fair_2_L1_c (JP2 (3, 0) 24 o2 (.exit 0) (trunc_Fair_2_L1_x0 h0_0 h2_0 x1) .ret (trunc_Fair_2_L1_x1 h0_0 h2_0 x1)) (trunc_Fair_2_L1_st h0_0 h2_0 x1 v5 v13) := fun h0_0 h2_0 x1 v5 v13 o2 h => (trunc_Fair_2_L1_grp h0_0 h2_0 x1) v5 v13 o2 h
noncomputable def trunc_Fair_2 (p0 : Int) (h0_0 : Int) (h2_0 : (List Int)) : Option (Int) :=
  trunc_Fair_1 p0 h2_0 >>= fun x1 =>
  (trunc_Fair_2_L1 h0_0 h2_0 x1 h0_0 0) >>= fun o2 =>
  match o2 with
  | .inl y3 =>
    some y3
  | .inr y4 =>
    some (-1)
set_option maxRecDepth 100000 in
set_option maxHeartbeats 4000000 in
theorem trunc_Fair_2_ok : ∀ (p0 : Int) (h0_0 : Int) (h2_0 : (List Int)) (o : Int), trunc_Fair_2 p0 h0_0 h2_0 = some o → CallOK Tryd.prog 45 [.p (iV p0), .ptr 0 0, .ptr 1 0] ⟨[[.p (iV h0_0)], [.fn (.func 44) [] [.ptr 2 0]], [.p (.sl false (h2_0.map cInt))]], []⟩ (t_trunc_Fair_2 o) ⟨[[.p (iV h0_0)], [.fn (.func 44) [] [.ptr 2 0]], [.p (.sl false (h2_0.map cInt))]], []⟩ := by
  intro p0 h0_0 h2_0 o h
  unfold trunc_Fair_2 at h
  refine CallOK.ofB mixed tbOk trunc_Fair_2_lv Tryd.func45 rfl (by kernel_rfl) (Nat.le_of_ble_eq_true rfl) rfl rfl rfl ?_
  refine st_callc _ _ h (fun x1 hy => ((trunc_Fair_1_ok p0 h2_0 x1 hy).fr [2] [] rfl rfl rfl)) (fun x1 hy h => ?_)
  refine And.intro rfl (Exists.intro _ (And.intro (List.length_map _) ?_))
  refine st_bind h (fun o2 ho hk => ?_)
  refine Exists.intro (JP2 _ _ o2 (.exit 0) (trunc_Fair_2_L1_x0 h0_0 h2_0 x1) .ret (trunc_Fair_2_L1_x1 h0_0 h2_0 x1)) (And.intro (T_le (τ := trunc_Fair_2_L1_st h0_0 h2_0 x1 h0_0 0) ?_ (TL.loop (trunc_Fair_2_L1_ok h0_0 h2_0 x1 h0_0 0 o2 ho))) (join2 (fun y3 hy => ?_) (fun y4 hy => ?_)))
  · exact Le.tow 3 1 rfl (.cons rfl (.refl _) (.cons rfl (.refl _) (.cons rfl (.refl _) (.cons rfl (.refl _) (.nil))))) (.refl _) rfl
  · have h := (by rw [hy] at hk; exact hk)
    refine Exists.intro _ (And.intro (Le.refl _ _ _) ?_)
    exact st_retc (t := t_trunc_Fair_2) (ss := fun o => ⟨[[.p (iV h0_0)], [.fn (.func 44) [] [.ptr 2 0]], [.p (.sl false (h2_0.map cInt))]], []⟩) h ⟨[], rfl, .refl _, .refl _, rfl⟩
  · have h := (by rw [hy] at hk; exact hk)
    refine Exists.intro _ (And.intro (Le.refl _ _ _) ?_)
    exact st_retc (t := t_trunc_Fair_2) (ss := fun o => ⟨[[.p (iV h0_0)], [.fn (.func 44) [] [.ptr 2 0]], [.p (.sl false (h2_0.map cInt))]], []⟩) h ⟨[], rfl, .refl _, .refl _, rfl⟩
noncomputable def trunc_Fair_3 (p0 : Int) (h1_0 : Int) (h3_0 : (List Int)) : Option (Bool) :=
  trunc_Fair_2 (wr (p0 + 1)) h1_0 h3_0 >>= fun x1 =>
  some (decide (x1 < 0))
set_option maxRecDepth 100000 in
set_option maxHeartbeats 4000000 in
theorem trunc_Fair_3_ok : ∀ (p0 : Int) (h1_0 : Int) (h3_0 : (List Int)) (o : Bool), trunc_Fair_3 p0 h1_0 h3_0 = some o → CallOK Tryd.prog 47 [.p (iV p0), .ptr 0 0] ⟨[[.fn (.func 45) [] [.ptr 1 0, .ptr 2 0]], [.p (iV h1_0)], [.fn (.func 44) [] [.ptr 3 0]], [.p (.sl false (h3_0.map cInt))]], []⟩ (t_trunc_Fair_3 o) ⟨[[.fn (.func 45) [] [.ptr 1 0, .ptr 2 0]], [.p (iV h1_0)], [.fn (.func 44) [] [.ptr 3 0]], [.p (.sl false (h3_0.map cInt))]], []⟩ := by
  intro p0 h1_0 h3_0 o h
  unfold trunc_Fair_3 at h
  refine CallOK.ofB mixed tbOk trunc_Fair_3_lv Tryd.func47 rfl (by kernel_rfl) (Nat.le_of_ble_eq_true rfl) rfl rfl rfl ?_
  refine st_callc _ _ h (fun x1 hy => ((trunc_Fair_2_ok (wr (p0 + 1)) h1_0 h3_0 x1 hy).fr [1, 2, 3] [] rfl rfl rfl)) (fun x1 hy h => ?_)
  refine Exists.intro _ (And.intro (Le.refl _ _ _) ?_)
  exact st_retc (t := t_trunc_Fair_3) (ss := fun o => ⟨[[.fn (.func 45) [] [.ptr 1 0, .ptr 2 0]], [.p (iV h1_0)], [.fn (.func 44) [] [.ptr 3 0]], [.p (.sl false (h3_0.map cInt))]], []⟩) h ⟨[], rfl, .refl _, .refl _, rfl⟩
noncomputable def sort_Search_trunc_Fair_3_L1 (h1_0 : Int) (h3_0 : (List Int)) (v5 : Int) (v6 : Int) : Option (Int) :=
  if (decide (v5 < v6)) then
    trunc_Fair_3 (wr ((IntKind.u64.wrap (wr (v5 + v6))).fdiv (2 ^ (min (1 : Int).toNat (IntKind.u64.bits))))) h1_0 h3_0 >>= fun x2 =>
    if (!x2) then
      sort_Search_trunc_Fair_3_L1 h1_0 h3_0 (wr ((wr ((IntKind.u64.wrap (wr (v5 + v6))).fdiv (2 ^ (min (1 : Int).toNat (IntKind.u64.bits))))) + 1)) v6
    else
      sort_Search_trunc_Fair_3_L1 h1_0 h3_0 v5 (wr ((IntKind.u64.wrap (wr (v5 + v6))).fdiv (2 ^ (min (1 : Int).toNat (IntKind.u64.bits)))))
  else
    some v5
  partial_fixpoint
set_option maxRecDepth 100000 in
set_option maxHeartbeats 4000000 in
theorem sort_Search_trunc_Fair_3_L1_grp : ∀ (h1_0 : Int) (h3_0 : (List Int)), (∀ (v5 : Int) (v6 : Int) (o1 : Int), sort_Search_trunc_Fair_3_L1 h1_0 h3_0 v5 v6 = some o1 → TL (4, 0) Tryd.prog 26 sort_Search_trunc_Fair_3_L1_c (JP1 (4, 0) 26 o1 (.exit 0) (sort_Search_trunc_Fair_3_L1_x0 h1_0 h3_0)) (sort_Search_trunc_Fair_3_L1_st h1_0 h3_0 v5 v6)) := by
  intro h1_0 h3_0
  refine sort_Search_trunc_Fair_3_L1.partial_correctness h1_0 h3_0 _ ?_
  intro sort_Search_trunc_Fair_3_L1' ih_sort_Search_trunc_Fair_3_L1 v5 v6 o1 h
  refine TL.round (bwp_sound mixed tbOk (lv := sort_Search_trunc_Fair_3_lv) _ _ _ ?_)
  refine st_test h (fun hb h => ?_) (fun hb h => ?_)
  · refine vrfl ?_
    refine And.intro (by decide) ?_
    refine vrfl ?_
    refine st_callc _ _ h (fun x2 hy => ((trunc_Fair_3_ok (wr ((IntKind.u64.wrap (wr (v5 + v6))).fdiv (2 ^ (min (1 : Int).toNat (IntKind.u64.bits))))) h1_0 h3_0 x2 hy).fr [0, 1, 2, 3] [] rfl rfl rfl)) (fun x2 hy h => ?_)
    refine st_test h (fun hb h => ?_) (fun hb h => ?_)
    · refine TL.le (τ := sort_Search_trunc_Fair_3_L1_st h1_0 h3_0 (wr ((wr ((IntKind.u64.wrap (wr (v5 + v6))).fdiv (2 ^ (min (1 : Int).toNat (IntKind.u64.bits))))) + 1)) v6) ?_ ((ih_sort_Search_trunc_Fair_3_L1 (wr ((wr ((IntKind.u64.wrap (wr (v5 + v6))).fdiv (2 ^ (min (1 : Int).toNat (IntKind.u64.bits))))) + 1)) v6 _ h))
      exact Le.tow 4 0 rfl (.cons rfl (.refl _) (.cons rfl (.refl _) (.cons rfl (.refl _) (.nil)))) (.refl _) rfl
    · refine TL.le (τ := sort_Search_trunc_Fair_3_L1_st h1_0 h3_0 v5 (wr ((IntKind.u64.wrap (wr (v5 + v6))).fdiv (2 ^ (min (1 : Int).toNat (IntKind.u64.bits)))))) ?_ ((ih_sort_Search_trunc_Fair_3_L1 v5 (wr ((IntKind.u64.wrap (wr (v5 + v6))).fdiv (2 ^ (min (1 : Int).toNat (IntKind.u64.bits))))) _ h))
      exact Le.tow 4 0 rfl (.cons rfl (.refl _) (.cons rfl (.refl _) (.cons rfl (.refl _) (.nil)))) (.refl _) rfl
  · exact JP1.a h (Le.tow 4 0 rfl (.cons rfl (.refl _) (.nil)) (.refl _) rfl)
theorem sort_Search_trunc_Fair_3_L1_ok : ∀ (h1_0 : Int) (h3_0 : (List Int)) (v5 : Int) (v6 : Int) (o1 : Int), sort_Search_trunc_Fair_3_L1 h1_0 h3_0 v5 v6 = some o1 → TL (4, 0) Tryd.prog 26 sort_Search_trunc_Fair_3_L1_c (JP1 (4, 0) 26 o1 (.exit 0) (sort_Search_trunc_Fair_3_L1_x0 h1_0 h3_0)) (sort_Search_trunc_Fair_3_L1_st h1_0 h3_0 v5 v6) := fun h1_0 h3_0 v5 v6 o1 h => (sort_Search_trunc_Fair_3_L1_grp h1_0 h3_0) v5 v6 o1 h
noncomputable def sort_Search_trunc_Fair_3 (p0 : Int) (h1_0 : Int) (h3_0 : (List Int)) : Option (Int) :=
  (sort_Search_trunc_Fair_3_L1 h1_0 h3_0 0 p0) >>= fun o1 =>
  some o1
set_option maxRecDepth 100000 in
set_option maxHeartbeats 4000000 in
theorem sort_Search_trunc_Fair_3_ok : ∀ (p0 : Int) (h1_0 : Int) (h3_0 : (List Int)) (o : Int), sort_Search_trunc_Fair_3 p0 h1_0 h3_0 = some o → CallOK Tryd.prog 46 [.p (iV p0), .fn (.func 47) [] [.ptr 0 0]] ⟨[[.fn (.func 45) [] [.ptr 1 0, .ptr 2 0]], [.p (iV h1_0)], [.fn (.func 44) [] [.ptr 3 0]], [.p (.sl false (h3_0.map cInt))]], []⟩ (t_sort_Search_trunc_Fair_3 o) ⟨[[.fn (.func 45) [] [.ptr 1 0, .ptr 2 0]], [.p (iV h1_0)], [.fn (.func 44) [] [.ptr 3 0]], [.p (.sl false (h3_0.map cInt))]], []⟩ := by
  intro p0 h1_0 h3_0 o h
  unfold sort_Search_trunc_Fair_3 at h
  refine CallOK.ofB mixed tbOk sort_Search_trunc_Fair_3_lv Tryd.func46 rfl (by kernel_rfl) (Nat.le_of_ble_eq_true rfl) rfl rfl rfl ?_
  refine st_bind h (fun o1 ho hk => ?_)
  refine Exists.intro (JP1 _ _ o1 (.exit 0) (sort_Search_trunc_Fair_3_L1_x0 h1_0 h3_0)) (And.intro (T_le (τ := sort_Search_trunc_Fair_3_L1_st h1_0 h3_0 0 p0) ?_ (TL.loop (sort_Search_trunc_Fair_3_L1_ok h1_0 h3_0 0 p0 o1 ho))) (join1 ?_))
  · exact Le.tow 4 0 rfl (.cons rfl (.refl _) (.cons rfl (.refl _) (.cons rfl (.refl _) (.nil)))) (.refl _) rfl
  have h := hk
  refine Exists.intro _ (And.intro (Le.refl _ _ _) ?_)
  exact st_retc (t := t_sort_Search_trunc_Fair_3) (ss := fun o => ⟨[[.fn (.func 45) [] [.ptr 1 0, .ptr 2 0]], [.p (iV h1_0)], [.fn (.func 44) [] [.ptr 3 0]], [.p (.sl false (h3_0.map cInt))]], []⟩) h ⟨[], rfl, .refl _, .refl _, rfl⟩
noncomputable def trunc_Fair_L1 (p0 : (List Int)) (p1 : Int) (v7 : Int) (v21 : Int) : Option (Int) :=
  if (decide (v21 < (p0.length : Int))) then
    idx p0 v21 >>= fun x2 =>
    trunc_Fair_L1 p0 p1 (if (if (if 0 > p1 then 0 else p1) < x2 then (if 0 > p1 then 0 else p1) else x2) > v7 then (if (if 0 > p1 then 0 else p1) < x2 then (if 0 > p1 then 0 else p1) else x2) else v7) (wr (v21 + 1))
  else
    some v7
  partial_fixpoint
set_option maxRecDepth 100000 in
set_option maxHeartbeats 4000000 in
theorem trunc_Fair_L1_grp : ∀ (p0 : (List Int)) (p1 : Int), (∀ (v7 : Int) (v21 : Int) (o1 : Int), trunc_Fair_L1 p0 p1 v7 v21 = some o1 → TL (0, 0) Tryd.prog 67 trunc_Fair_L1_c (JP1 (0, 0) 67 o1 (.exit 0) (trunc_Fair_L1_x0 p0 p1)) (trunc_Fair_L1_st p0 p1 v7 v21)) := by
  intro p0 p1
  refine trunc_Fair_L1.partial_correctness p0 p1 _ ?_
  intro trunc_Fair_L1' ih_trunc_Fair_L1 v7 v21 o1 h
  refine TL.round (bwp_sound mixed tbOk (lv := trunc_Fair_lv) _ _ _ ?_)
  refine st_test h (fun hb h => ?_) (fun hb h => ?_)
  · refine st_idx (l := p0) (c := cInt) (c' := cInt) h (fun _ => rfl) (fun _ => rfl) (by decide) (fun x2 hi h => ?_)
    refine TL.le (τ := trunc_Fair_L1_st p0 p1 (if (if (if 0 > p1 then 0 else p1) < x2 then (if 0 > p1 then 0 else p1) else x2) > v7 then (if (if 0 > p1 then 0 else p1) < x2 then (if 0 > p1 then 0 else p1) else x2) else v7) (wr (v21 + 1))) ?_ ((ih_trunc_Fair_L1 (if (if (if 0 > p1 then 0 else p1) < x2 then (if 0 > p1 then 0 else p1) else x2) > v7 then (if (if 0 > p1 then 0 else p1) < x2 then (if 0 > p1 then 0 else p1) else x2) else v7) (wr (v21 + 1)) _ h))
    exact Le.tow 4 0 rfl (.cons rfl (.refl _) (.cons rfl (.refl _) (.cons rfl (.refl _) (.cons rfl (.refl _) (.cons rfl (.refl _) (.cons rfl (.refl _) (.cons rfl (.refl _) (.cons rfl (.refl _) (.nil))))))))) (.refl _) rfl
  · exact JP1.a h (Le.tow 4 0 rfl (.cons rfl (.refl _) (.cons rfl (.refl _) (.cons rfl (.refl _) (.cons rfl (.refl _) (.nil))))) (.refl _) rfl)
theorem trunc_Fair_L1_ok : ∀ (p0 : (List Int)) (p1 : Int) (v7 : Int) (v21 : Int) (o1 : Int), trunc_Fair_L1 p0 p1 v7 v21 = some o1 → TL (0, 0) Tryd.prog 67 trunc_Fair_L1_c (JP1 (0, 0) 67 o1 (.exit 0) (trunc_Fair_L1_x0 p0 p1)) (trunc_Fair_L1_st p0 p1 v7 v21) := fun p0 p1 v7 v21 o1 h => (trunc_Fair_L1_grp p0 p1) v7 v21 o1 h
noncomputable def trunc_Fair_L2 (p0 : (List Int)) (p1 : Int) (v11 : (List Int)) (v12 : Int) (v42 : Int) : Option ((List Int)) :=
  if (decide (v42 < (p0.length : Int))) then
    idx p0 v42 >>= fun x7 =>
    ( if (decide (v12 > 0)) then
        idx v11 v42 >>= fun x9 =>
        some (decide (x7 > x9))
      else
        some false : Option (Bool)) >>= fun o8 =>
    if o8 then
      idx v11 v42 >>= fun x10 =>
      idx v11 v42 >>= fun x11 =>
      trunc_Fair_L2 p0 p1 (v11.set v42.toNat (wr (x10 + 1))) (wr (v12 - 1)) (wr (v42 + 1))
    else
      trunc_Fair_L2 p0 p1 v11 v12 (wr (v42 + 1))
  else
    some v11
  partial_fixpoint
set_option maxRecDepth 100000 in
set_option maxHeartbeats 4000000 in
theorem trunc_Fair_L2_grp : ∀ (p0 : (List Int)) (p1 : Int), (∀ (v11 : (List Int)) (v12 : Int) (v42 : Int) (o6 : (List Int)), trunc_Fair_L2 p0 p1 v11 v12 v42 = some o6 → TL (0, 0) Tryd.prog 67 trunc_Fair_L2_c (JP1 (0, 0) 67 o6 (.exit 2) (trunc_Fair_L2_x0 p0 p1)) (trunc_Fair_L2_st p0 p1 v11 v12 v42)) := by
  intro p0 p1
  refine trunc_Fair_L2.partial_correctness p0 p1 _ ?_
  intro trunc_Fair_L2' ih_trunc_Fair_L2 v11 v12 v42 o6 h
  refine TL.round (bwp_sound mixed tbOk (lv := trunc_Fair_lv) _ _ _ ?_)
  refine st_test h (fun hb h => ?_) (fun hb h => ?_)
  · refine st_idx (l := p0) (c := cInt) (c' := cInt) h (fun _ => rfl) (fun _ => rfl) (by decide) (fun x7 hi h => ?_)
    refine st_bind h (fun o8 ho hk => ?_)
    refine Exists.intro (JP1 _ _ o8 .normal (trunc_Fair_J0_0 p0 p1 v11 v12 v42)) (And.intro ?_ (join1 ?_))
    · have h := ho
      refine st_test h (fun hb h => ?_) (fun hb h => ?_)
      · refine st_xidx (l := v11) (c := cInt) (c' := cInt) h rfl (fun _ => rfl) (fun _ => rfl) (by decide) (fun x9 hi h => ?_)
        refine And.intro rfl (And.intro (Nat.le_of_ble_eq_true rfl) ?_)
        refine JP1.a h ?_
        exact Le.tow 4 1 rfl (.cons rfl (.refl _) (.cons rfl (.refl _) (.cons rfl (.refl _) (.cons rfl (.refl _) (.cons rfl (.refl _) (.cons rfl (.refl _) (.cons rfl (.refl _) (.nil)))))))) (.refl _) rfl
      · refine JP1.a h ?_
        exact Le.tow 4 1 rfl (.cons rfl (.refl _) (.cons rfl (.refl _) (.cons rfl (.refl _) (.cons rfl (.refl _) (.cons rfl (.refl _) (.cons rfl (.refl _) (.cons rfl (.refl _) (.nil)))))))) (.refl _) rfl
    · have h := hk
      refine st_test h (fun hb h => ?_) (fun hb h => ?_)
      · refine st_xidx (l := v11) (c := cInt) (c' := cInt) h rfl (fun _ => rfl) (fun _ => rfl) (by decide) (fun x10 hi h => ?_)
        refine And.intro rfl (And.intro (Nat.le_of_ble_eq_true rfl) ?_)
        refine st_xidx (l := v11) (c := cInt) (c' := cInt) h rfl (fun _ => rfl) (fun _ => rfl) (by decide) (fun x11 hi h => ?_)
        refine And.intro rfl (And.intro (Nat.le_of_ble_eq_true rfl) (And.intro rfl (And.intro rfl (Exists.intro ((v11.set v42.toNat (wr (x10 + 1))).map cInt) (And.intro (setMap (.refl _)) ?_)))))
        refine TL.le (τ := trunc_Fair_L2_st p0 p1 (v11.set v42.toNat (wr (x10 + 1))) (wr (v12 - 1)) (wr (v42 + 1))) ?_ ((ih_trunc_Fair_L2 (v11.set v42.toNat (wr (x10 + 1))) (wr (v12 - 1)) (wr (v42 + 1)) _ h))
        exact Le.trans (τ := ⟨[(11, .x 0 2 (.sl 3 1 ((v11.set v42.toNat (wr (x10 + 1))).map cInt))), (12, .p (iV (wr (v12 - 1)))), (40, .p (.sl false (p0.map cInt))), (41, .p (iV (p0.length : Int))), (42, .p (iV (wr (v42 + 1))))], ⟨[[.p (.sl false (p0.map cInt))], [.p (iV (if 0 > p1 then 0 else p1))], [.fn (.func 44) [] [.ptr 0 0]], [.fn (.func 45) [] [.ptr 1 0, .ptr 2 0]]], [2]⟩⟩) (Le.tow 4 1 rfl (.cons rfl (.refl _) (.cons rfl (.refl _) (.cons rfl (.refl _) (.cons rfl (.refl _) (.cons rfl (.refl _) (.nil)))))) (.refl _) rfl) ((Le.ver (.s 11) 0 2 1 rfl rfl rfl rfl).trans (Le.tow 4 1 rfl (.cons rfl (.refl _) (.cons rfl (.refl _) (.cons rfl (.refl _) (.cons rfl (.refl _) (.cons rfl (.refl _) (.nil)))))) (.refl _) rfl))
      · refine TL.le (τ := trunc_Fair_L2_st p0 p1 v11 v12 (wr (v42 + 1))) ?_ ((ih_trunc_Fair_L2 v11 v12 (wr (v42 + 1)) _ h))
        exact Le.tow 4 1 rfl (.cons rfl (.refl _) (.cons rfl (.refl _) (.cons rfl (.refl _) (.cons rfl (.refl _) (.cons rfl (.refl _) (.nil)))))) (.refl _) rfl
  · exact JP1.a h (Le.tow 4 1 rfl (.cons rfl (.refl _) (.nil)) (.refl _) rfl)
theorem trunc_Fair_L2_ok : ∀ (p0 : (List Int)) (p1 : Int) (v11 : (List Int)) (v12 : Int) (v42 : Int) (o6 : (List Int)), trunc_Fair_L2 p0 p1 v11 v12 v42 = some o6 → TL (0, 0) Tryd.prog 67 trunc_Fair_L2_c (JP1 (0, 0) 67 o6 (.exit 2) (trunc_Fair_L2_x0 p0 p1)) (trunc_Fair_L2_st p0 p1 v11 v12 v42) := fun p0 p1 v11 v12 v42 o6 h => (trunc_Fair_L2_grp p0 p1) v11 v12 v42 o6 h
noncomputable def trunc_Fair (p0 : (List Int)) (p1 : Int) : Option ((List Int)) :=
  (trunc_Fair_L1 p0 p1 0 0) >>= fun o1 =>
  sort_Search_trunc_Fair_3 o1 (if 0 > p1 then 0 else p1) p0 >>= fun x3 =>
  trunc_Fair_1 x3 p0 >>= fun x4 =>
  trunc_Fair_2 x3 (if 0 > p1 then 0 else p1) p0 >>= fun x5 =>
  (trunc_Fair_L2 p0 p1 x4 x5 0) >>= fun o6 =>
  some o6
set_option maxRecDepth 100000 in
set_option maxHeartbeats 4000000 in
theorem trunc_Fair_ok : ∀ (p0 : (List Int)) (p1 : Int) (o : (List Int)), trunc_Fair p0 p1 = some o → PCall Tryd.prog 21 [.sl false (p0.map cInt), iV p1] (t_trunc_Fair o) := by
  intro p0 p1 o h
  unfold trunc_Fair at h
  refine PCall.ofB mixed tbOk trunc_Fair_lv Tryd.func21 rfl (by kernel_rfl) (Nat.le_of_ble_eq_true rfl) ?_
  refine view (lenMap _ _) rfl ?_
  refine st_bind h (fun o1 ho hk => ?_)
  refine Exists.intro (JP1 _ _ o1 (.exit 0) (trunc_Fair_L1_x0 p0 p1)) (And.intro (T_le (τ := trunc_Fair_L1_st p0 p1 0 0) ?_ (TL.loop (trunc_Fair_L1_ok p0 p1 0 0 o1 ho))) (join1 ?_))
  · exact Le.tow 4 0 rfl (.cons rfl (.refl _) (.cons rfl (.refl _) (.cons rfl (.refl _) (.cons rfl (.refl _) (.cons rfl (.refl _) (.cons rfl (.refl _) (.cons rfl (.refl _) (.cons rfl (.refl _) (.nil))))))))) (.refl _) rfl
  have h := hk
  refine st_callc _ _ h (fun x3 hy => ((sort_Search_trunc_Fair_3_ok o1 (if 0 > p1 then 0 else p1) p0 x3 hy).fr [3, 1, 2, 0] [] rfl rfl rfl)) (fun x3 hy h => ?_)
  refine And.intro (by decide +kernel) (And.intro rfl ?_)
  refine st_callt _ _ h (fun x4 hy => ((trunc_Fair_1_ok x3 p0 x4 hy).ft rfl [0] rfl rfl rfl)) (fun x4 hy h => ?_)
  refine st_callq (fun x5 => (t_trunc_Fair_2 x5).ren [1, 2, 0] []) h (fun x5 hy => (trunc_Fair_2_ok x3 (if 0 > p1 then 0 else p1) p0 x5 hy).fd rfl rfl [1, 2, 0] rfl rfl) (fun x5 hy h => ?_)
  refine view (lenMap _ _) rfl ?_
  refine st_bind h (fun o6 ho hk => ?_)
  refine Exists.intro (JP1 _ _ o6 (.exit 2) (trunc_Fair_L2_x0 p0 p1)) (And.intro (T_le (τ := trunc_Fair_L2_st p0 p1 x4 x5 0) ?_ (TL.loop (trunc_Fair_L2_ok p0 p1 x4 x5 0 o6 ho))) (join1 ?_))
  · exact Le.tow 4 1 rfl (.cons rfl (.refl _) (.cons rfl (.refl _) (.cons rfl (.refl _) (.cons rfl (.refl _) (.cons rfl (.refl _) (.nil)))))) (.refl _) rfl
  have h := hk
  refine Exists.intro _ (And.intro (Le.frzv (.s 11) 0 1 rfl rfl rfl rfl) ?_)
  refine st_ret (t := t_trunc_Fair) h ?_
  exact .refl _
noncomputable def strings_Join (p0 : (List (List UInt8))) (p1 : (List UInt8)) : Option ((List UInt8)) :=
  need (p0.length ≤ 140737488355328) >>= fun _ =>
  need ((Lib.join p0 p1).length ≤ 140737488355328) >>= fun _ =>
  some (Lib.join p0 p1)
set_option maxRecDepth 100000 in
set_option maxHeartbeats 4000000 in
theorem strings_Join_ok : ∀ (p0 : (List (List UInt8))) (p1 : (List UInt8)) (o : (List UInt8)), strings_Join p0 p1 = some o → PCall Tryd.prog 42 [.sl false (p0.map cStr), sV p1] (t_strings_Join o) := by
  intro p0 p1 o h
  unfold strings_Join at h
  obtain ⟨h0, h⟩ := need_some h
  obtain ⟨h1, h⟩ := need_some h
  cases h
  exact join_ok _ _ h0 h1
noncomputable def strings_genSplit (p0 : (List UInt8)) (p1 : (List UInt8)) (p2 : Int) (p3 : Int) : Option ((List (List UInt8))) :=
  need (p0.length < 4294967281) >>= fun _ =>
  need (1 ≤ p1.length) >>= fun _ =>
  need (0 ≤ p2) >>= fun _ =>
  need (p2 ≤ p1.length) >>= fun _ =>
  need (p3 < 0) >>= fun _ =>
  some (Lib.splitK p1 p2.toNat (Lib.count p0 p1) p0)
set_option maxRecDepth 100000 in
set_option maxHeartbeats 4000000 in
theorem strings_genSplit_ok : ∀ (p0 : (List UInt8)) (p1 : (List UInt8)) (p2 : Int) (p3 : Int) (o : (List (List UInt8))), strings_genSplit p0 p1 p2 p3 = some o → PCall Tryd.prog 68 [sV p0, sV p1, iV p2, iV p3] (t_strings_genSplit o) := by
  intro p0 p1 p2 p3 o h
  unfold strings_genSplit at h
  obtain ⟨h1, h⟩ := need_some h
  obtain ⟨h2, h⟩ := need_some h
  obtain ⟨h3, h⟩ := need_some h
  obtain ⟨h4, h⟩ := need_some h
  obtain ⟨h5, h⟩ := need_some h
  cases h
  exact genSplit_ok _ _ _ _ h1 h2 h3 h4 h5
noncomputable def strings_SplitAfter (p0 : (List UInt8)) (p1 : (List UInt8)) : Option ((List (List UInt8))) :=
  strings_genSplit p0 p1 (p1.length : Int) (-1) >>= fun x1 =>
  some x1
set_option maxRecDepth 100000 in
set_option maxHeartbeats 4000000 in
theorem strings_SplitAfter_ok : ∀ (p0 : (List UInt8)) (p1 : (List UInt8)) (o : (List (List UInt8))), strings_SplitAfter p0 p1 = some o → PCall Tryd.prog 41 [sV p0, sV p1] (t_strings_SplitAfter o) := by
  intro p0 p1 o h
  unfold strings_SplitAfter at h
  refine PCall.ofB mixed tbOk strings_SplitAfter_lv Tryd.func41 rfl (by kernel_rfl) (Nat.le_of_ble_eq_true rfl) ?_
  refine vrfl ?_
  refine st_call [sV p0, sV p1, iV (p1.length : Int), iV (-1)] t_strings_genSplit h (fun x1 hy => (strings_genSplit_ok p0 p1 (p1.length : Int) (-1) x1 hy)) (fun x1 hy h => ?_)
  refine st_ret (t := t_strings_SplitAfter) h ?_
  exact .refl _
noncomputable def trunc_Lines (p0 : (List UInt8)) (p1 : Int) : Option ((List UInt8) × Bool) :=
  strings_SplitAfter p0 [10] >>= fun x1 =>
  if (decide ((x1.length : Int) ≤ p1)) then
    some (p0, false)
  else
    if (decide (p1 < 1)) then
      some ([], true)
    else
      cutL x1 0 (wr (p1 - 1)) >>= fun x2 =>
      strings_Join x2 [] >>= fun x3 =>
      need (x3.length + [226, 128, 166].length ≤ 9223372036854775807) >>= fun _ =>
      some ((x3 ++ [226, 128, 166]), true)
set_option maxRecDepth 100000 in
set_option maxHeartbeats 4000000 in
theorem trunc_Lines_ok : ∀ (p0 : (List UInt8)) (p1 : Int) (o : (List UInt8) × Bool), trunc_Lines p0 p1 = some o → PCall Tryd.prog 16 [sV p0, iV p1] (t_trunc_Lines o) := by
  intro p0 p1 o h
  unfold trunc_Lines at h
  refine PCall.ofB mixed tbOk trunc_Lines_lv Tryd.func16 rfl (by kernel_rfl) (Nat.le_of_ble_eq_true rfl) ?_
  refine st_call [sV p0, sV [10]] t_strings_SplitAfter h (fun x1 hy => (strings_SplitAfter_ok p0 [10] x1 hy)) (fun x1 hy h => ?_)
  refine view (lenMap _ _) rfl ?_
  refine st_test h (fun hb h => ?_) (fun hb h => ?_)
  · refine st_ret (t := t_trunc_Lines) h ?_
    exact .refl _
  · refine st_test h (fun hb h => ?_) (fun hb h => ?_)
    · refine st_ret (t := t_trunc_Lines) h ?_
      exact .refl _
    · refine st_cut (c := cStr) none (some (wr (p1 - 1))) h (fun _ => rfl) (fun x2 hi h => ?_)
      refine st_call [.sl false (x2.map cStr), sV []] t_strings_Join h (fun x3 hy => (strings_Join_ok x2 [] x3 hy)) (fun x3 hy h => ?_)
      refine st_need h (fun h => ?_)
      refine st_ret (t := t_trunc_Lines) h ?_
      exact .refl _
noncomputable def trunc_Middle_L1 (p0 : (List UInt8)) (p1 : Int) (v10 : Int) : Option (Int) :=
  if (decide ((wr ((p0.length : Int) - v10)) > (wr ((wr (p1 - 3)) - (wr ((wr (p1 - 3)).tdiv 2)))))) then
    utf_Next p0 v10 >>= fun x3 =>
    trunc_Middle_L1 p0 p1 (wr (v10 + x3.2))
  else
    some v10
  partial_fixpoint
set_option maxRecDepth 100000 in
set_option maxHeartbeats 4000000 in
theorem trunc_Middle_L1_grp : ∀ (p0 : (List UInt8)) (p1 : Int), (∀ (v10 : Int) (o2 : Int), trunc_Middle_L1 p0 p1 v10 = some o2 → TL (0, 0) Tryd.prog 52 trunc_Middle_L1_c (JP1 (0, 0) 52 o2 (.exit 0) (trunc_Middle_L1_x0 p0 p1)) (trunc_Middle_L1_st p0 p1 v10)) := by
  intro p0 p1
  refine trunc_Middle_L1.partial_correctness p0 p1 _ ?_
  intro trunc_Middle_L1' ih_trunc_Middle_L1 v10 o2 h
  refine TL.round (bwp_sound mixed tbOk (lv := trunc_Middle_lv) _ _ _ ?_)
  refine vrfl ?_
  refine st_test h (fun hb h => ?_) (fun hb h => ?_)
  · refine st_call [sV p0, iV v10] t_utf_Next h (fun x3 hy => (utf_Next_ok p0 v10 x3 hy)) (fun x3 hy h => ?_)
    refine TL.le (τ := trunc_Middle_L1_st p0 p1 (wr (v10 + x3.2))) ?_ ((ih_trunc_Middle_L1 (wr (v10 + x3.2)) _ h))
    exact Le.tow 0 0 rfl (.cons rfl (.refl _) (.cons rfl (.refl _) (.cons rfl (.refl _) (.cons rfl (.refl _) (.nil))))) (.refl _) rfl
  · exact JP1.a h (Le.tow 0 0 rfl (.cons rfl (.refl _) (.cons rfl (.refl _) (.cons rfl (.refl _) (.nil)))) (.refl _) rfl)
theorem trunc_Middle_L1_ok : ∀ (p0 : (List UInt8)) (p1 : Int) (v10 : Int) (o2 : Int), trunc_Middle_L1 p0 p1 v10 = some o2 → TL (0, 0) Tryd.prog 52 trunc_Middle_L1_c (JP1 (0, 0) 52 o2 (.exit 0) (trunc_Middle_L1_x0 p0 p1)) (trunc_Middle_L1_st p0 p1 v10) := fun p0 p1 v10 o2 h => (trunc_Middle_L1_grp p0 p1) v10 o2 h
noncomputable def trunc_Middle (p0 : (List UInt8)) (p1 : Int) : Option ((List UInt8) × Bool) :=
  trunc_short p0 p1 >>= fun x1 =>
  if x1.2.2 then
    some (x1.1, x1.2.1)
  else
    (trunc_Middle_L1 p0 p1 0) >>= fun o2 =>
    utf_Front p0 (wr ((wr (p1 - 3)).tdiv 2)) >>= fun x4 =>
    need (x4.length + [226, 128, 166].length ≤ 9223372036854775807) >>= fun _ =>
    cutL p0 o2 (p0.length : Int) >>= fun x5 =>
    need ((x4 ++ [226, 128, 166]).length + x5.length ≤ 9223372036854775807) >>= fun _ =>
    some (((x4 ++ [226, 128, 166]) ++ x5), true)
set_option maxRecDepth 100000 in
set_option maxHeartbeats 4000000 in
theorem trunc_Middle_ok : ∀ (p0 : (List UInt8)) (p1 : Int) (o : (List UInt8) × Bool), trunc_Middle p0 p1 = some o → PCall Tryd.prog 19 [sV p0, iV p1] (t_trunc_Middle o) := by
  intro p0 p1 o h
  unfold trunc_Middle at h
  refine PCall.ofB mixed tbOk trunc_Middle_lv Tryd.func19 rfl (by kernel_rfl) (Nat.le_of_ble_eq_true rfl) ?_
  refine st_call [sV p0, iV p1] t_trunc_short h (fun x1 hy => (trunc_short_ok p0 p1 x1 hy)) (fun x1 hy h => ?_)
  refine st_test h (fun hb h => ?_) (fun hb h => ?_)
  · refine st_ret (t := t_trunc_Middle) h ?_
    exact .refl _
  · refine And.intro (by decide) ?_
    refine st_bind h (fun o2 ho hk => ?_)
    refine Exists.intro (JP1 _ _ o2 (.exit 0) (trunc_Middle_L1_x0 p0 p1)) (And.intro (T_le (τ := trunc_Middle_L1_st p0 p1 0) ?_ (TL.loop (trunc_Middle_L1_ok p0 p1 0 o2 ho))) (join1 ?_))
    · exact Le.tow 0 0 rfl (.cons rfl (.refl _) (.cons rfl (.refl _) (.cons rfl (.refl _) (.cons rfl (.refl _) (.nil))))) (.refl _) rfl
    have h := hk
    refine And.intro (by decide +kernel) (And.intro rfl ?_)
    refine st_calld [sV p0, iV (wr ((wr (p1 - 3)).tdiv 2))] t_utf_Front h (fun x4 hy => (utf_Front_ok p0 (wr ((wr (p1 - 3)).tdiv 2)) x4 hy)) (fun x4 hy h => ?_)
    refine st_need h (fun h => ?_)
    refine st_cuts (some o2) none h (fun x5 hi h => ?_)
    refine st_need h (fun h => ?_)
    refine st_ret (t := t_trunc_Middle) h ?_
    exact .refl _
noncomputable def nunciolaw35_awake : Option (Bool) :=
  trunc_Cut [97, 98, 99, 100, 101, 102] 5 >>= fun x1 =>
  trunc_Lines [97, 10, 98, 10, 99] 2 >>= fun x2 =>
  trunc_Middle [97, 98, 99, 100, 101, 102, 103, 104] 7 >>= fun x3 =>
  ( if (x1.1 == [97, 98, 226, 128, 166]) then
      if x1.2 then
        if (x2.1 == [97, 10, 226, 128, 166]) then
          if x2.2 then
            if (x3.1 == [97, 98, 226, 128, 166, 103, 104]) then
              if x3.2 then
                trunc_Fair [5, 1, 9, 9] 12 >>= fun x5 =>
                nunciolaw35_numbers x5 [4, 1, 4, 3] >>= fun x6 =>
                some x6
              else
                some false
            else
              some false
          else
            some false
        else
          some false
      else
        some false
    else
      some false : Option (Bool)) >>= fun o4 =>
  some o4
set_option maxRecDepth 100000 in
set_option maxHeartbeats 4000000 in
theorem nunciolaw35_awake_ok : ∀ (o : Bool), nunciolaw35_awake  = some o → PCall Tryd.prog 15 [] (t_nunciolaw35_awake o) := by
  intro o h
  unfold nunciolaw35_awake at h
  refine PCall.ofB mixed tbOk nunciolaw35_awake_lv Tryd.func15 rfl (by kernel_rfl) (Nat.le_of_ble_eq_true rfl) ?_
  refine st_call [sV [97, 98, 99, 100, 101, 102], iV 5] t_trunc_Cut h (fun x1 hy => (trunc_Cut_ok [97, 98, 99, 100, 101, 102] 5 x1 hy)) (fun x1 hy h => ?_)
  refine st_call [sV [97, 10, 98, 10, 99], iV 2] t_trunc_Lines h (fun x2 hy => (trunc_Lines_ok [97, 10, 98, 10, 99] 2 x2 hy)) (fun x2 hy h => ?_)
  refine st_call [sV [97, 98, 99, 100, 101, 102, 103, 104], iV 7] t_trunc_Middle h (fun x3 hy => (trunc_Middle_ok [97, 98, 99, 100, 101, 102, 103, 104] 7 x3 hy)) (fun x3 hy h => ?_)
  refine st_bind h (fun o4 ho hk => ?_)
  refine Exists.intro (JP1 _ _ o4 .normal (nunciolaw35_awake_J0_0 )) (And.intro ?_ (join1 ?_))
  · have h := ho
    refine st_test h (fun hb h => ?_) (fun hb h => ?_)
    · refine st_test h (fun hb h => ?_) (fun hb h => ?_)
      · refine st_test h (fun hb h => ?_) (fun hb h => ?_)
        · refine st_test h (fun hb h => ?_) (fun hb h => ?_)
          · refine st_test h (fun hb h => ?_) (fun hb h => ?_)
            · refine st_test h (fun hb h => ?_) (fun hb h => ?_)
              · refine st_call [.sl true [[iV 5], [iV 1], [iV 9], [iV 9]], iV 12] t_trunc_Fair h (fun x5 hy => (trunc_Fair_ok [5, 1, 9, 9] 12 x5 hy).weak (.cons (.not) (.cons (.refl _) (.nil)))) (fun x5 hy h => ?_)
                refine st_call [.sl false (x5.map cInt), .sl true [[iV 4], [iV 1], [iV 4], [iV 3]]] t_nunciolaw35_numbers h (fun x6 hy => (nunciolaw35_numbers_ok x5 [4, 1, 4, 3] x6 hy).weak (.cons (.refl _) (.cons (.not) (.nil)))) (fun x6 hy h => ?_)
                refine JP1.a h ?_
                exact Le.tow 0 0 rfl (.cons rfl (.refl _) (.nil)) (.refl _) rfl
              · refine JP1.a h ?_
                exact Le.tow 0 0 rfl (.cons rfl (.refl _) (.nil)) (.refl _) rfl
            · refine bF ?_
              refine JP1.a h ?_
              exact Le.tow 0 0 rfl (.cons rfl (.refl _) (.nil)) (.refl _) rfl
          · refine bF ?_
            refine bF ?_
            refine JP1.a h ?_
            exact Le.tow 0 0 rfl (.cons rfl (.refl _) (.nil)) (.refl _) rfl
        · refine bF ?_
          refine bF ?_
          refine bF ?_
          refine JP1.a h ?_
          exact Le.tow 0 0 rfl (.cons rfl (.refl _) (.nil)) (.refl _) rfl
      · refine bF ?_
        refine bF ?_
        refine bF ?_
        refine bF ?_
        refine JP1.a h ?_
        exact Le.tow 0 0 rfl (.cons rfl (.refl _) (.nil)) (.refl _) rfl
    · refine bF ?_
      refine bF ?_
      refine bF ?_
      refine bF ?_
      refine bF ?_
      refine JP1.a h ?_
      exact Le.tow 0 0 rfl (.cons rfl (.refl _) (.nil)) (.refl _) rfl
  · have h := hk
    refine st_ret (t := t_nunciolaw35_awake) h ?_
    exact .refl _
noncomputable def nunciolaw35_TruncFairs_L2 (x1 : (List Int)) (x2 : (List Int)) (v6 : Int) (v8 : Int) (x14 : Int) (o15 : Bool) (v9 : Int) : Option (Unit ⊕ Unit) :=
  if (decide (v9 < v8)) then
    ( idx x1 v9 >>= fun x23 =>
      R35_Asked x23 >>= fun x24 =>
      idx x1 v8 >>= fun x25 =>
      R35_Asked x25 >>= fun x26 =>
      if (decide (x24 ≥ x26)) then
        idx x2 v9 >>= fun x27 =>
        idx x2 v8 >>= fun x28 =>
        some (decide (x27 < x28))
      else
        some false : Option (Bool)) >>= fun o22 =>
    if o22 then
      some (.inr ())
    else
      nunciolaw35_TruncFairs_L2 x1 x2 v6 v8 x14 o15 (wr (v9 + 1))
  else
    some (.inl ())
  partial_fixpoint
set_option maxRecDepth 100000 in
set_option maxHeartbeats 4000000 in
theorem nunciolaw35_TruncFairs_L2_grp : ∀ (x1 : (List Int)) (x2 : (List Int)) (v6 : Int) (v8 : Int) (x14 : Int) (o15 : Bool), (∀ (v9 : Int) (o19 : Unit ⊕ Unit), nunciolaw35_TruncFairs_L2 x1 x2 v6 v8 x14 o15 v9 = some o19 → TL (0, 0) Tryd.prog 112 nunciolaw35_TruncFairs_L2_c (JP2 (0, 0) 112 o19 (.exit 2) (nunciolaw35_TruncFairs_L2_x0 x1 x2 v6 v8 x14 o15) .ret (nunciolaw35_TruncFairs_L2_x1 x1 x2 v6 v8 x14 o15)) (nunciolaw35_TruncFairs_L2_st x1 x2 v6 v8 x14 o15 v9)) := by
  intro x1 x2 v6 v8 x14 o15
  refine nunciolaw35_TruncFairs_L2.partial_correctness x1 x2 v6 v8 x14 o15 _ ?_
  intro nunciolaw35_TruncFairs_L2' ih_nunciolaw35_TruncFairs_L2 v9 o19 h
  refine TL.round (bwp_sound mixed tbOk (lv := nunciolaw35_TruncFairs_lv) _ _ _ ?_)
  refine st_test h (fun hb h => ?_) (fun hb h => ?_)
  · refine st_bind h (fun o22 ho hk => ?_)
    refine Exists.intro (JP1 _ _ o22 .normal (nunciolaw35_TruncFairs_J2_0 x1 x2 v6 v8 x14 o15 v9)) (And.intro ?_ (join1 ?_))
    · have h := ho
      refine And.intro (by decide +kernel) (And.intro rfl ?_)
      refine st_idx (l := x1) (c := cInt) (c' := cInt) h (fun _ => rfl) (fun _ => rfl) (by decide) (fun x23 hi h => ?_)
      refine st_calld [iV x23] t_R35_Asked h (fun x24 hy => (R35_Asked_ok x23 x24 hy)) (fun x24 hy h => ?_)
      refine st_idx (l := x1) (c := cInt) (c' := cInt) h (fun _ => rfl) (fun _ => rfl) (by decide) (fun x25 hi h => ?_)
      refine st_calld [iV x25] t_R35_Asked h (fun x26 hy => (R35_Asked_ok x25 x26 hy)) (fun x26 hy h => ?_)
      refine st_test h (fun hb h => ?_) (fun hb h => ?_)
      · refine st_idx (l := x2) (c := cInt) (c' := cInt) h (fun _ => rfl) (fun _ => rfl) (by decide) (fun x27 hi h => ?_)
        refine st_idx (l := x2) (c := cInt) (c' := cInt) h (fun _ => rfl) (fun _ => rfl) (by decide) (fun x28 hi h => ?_)
        refine JP1.a h ?_
        exact Le.tow 0 0 rfl (.cons rfl (.refl _) (.cons rfl (.refl _) (.cons rfl (.refl _) (.cons rfl (.refl _) (.cons rfl (.refl _) (.cons rfl (.refl _) (.cons rfl (.refl _) (.nil)))))))) (.refl _) rfl
      · refine JP1.a h ?_
        exact Le.tow 0 0 rfl (.cons rfl (.refl _) (.cons rfl (.refl _) (.cons rfl (.refl _) (.cons rfl (.refl _) (.cons rfl (.refl _) (.cons rfl (.refl _) (.cons rfl (.refl _) (.nil)))))))) (.refl _) rfl
    · have h := hk
      refine st_test h (fun hb h => ?_) (fun hb h => ?_)
      · exact JP2.b h (Le.tow 0 0 rfl (.cons rfl (.refl _) (.nil)) (.refl _) rfl)
      · refine TL.le (τ := nunciolaw35_TruncFairs_L2_st x1 x2 v6 v8 x14 o15 (wr (v9 + 1))) ?_ ((ih_nunciolaw35_TruncFairs_L2 (wr (v9 + 1)) _ h))
        exact Le.tow 0 0 rfl (.cons rfl (.refl _) (.cons rfl (.refl _) (.cons rfl (.refl _) (.cons rfl (.refl _) (.cons rfl (.refl _) (.cons rfl (.refl _) (.nil))))))) (.refl _) rfl
  · exact JP2.a h (Le.tow 0 0 rfl (.cons rfl (.refl _) (.cons rfl (.refl _) (.cons rfl (.refl _) (.cons rfl (.refl _) (.cons rfl (.refl _) (.nil)))))) (.refl _) rfl)
theorem nunciolaw35_TruncFairs_L2_ok : ∀ (x1 : (List Int)) (x2 : (List Int)) (v6 : Int) (v8 : Int) (x14 : Int) (o15 : Bool) (v9 : Int) (o19 : Unit ⊕ Unit), nunciolaw35_TruncFairs_L2 x1 x2 v6 v8 x14 o15 v9 = some o19 → TL (0, 0) Tryd.prog 112 nunciolaw35_TruncFairs_L2_c (JP2 (0, 0) 112 o19 (.exit 2) (nunciolaw35_TruncFairs_L2_x0 x1 x2 v6 v8 x14 o15) .ret (nunciolaw35_TruncFairs_L2_x1 x1 x2 v6 v8 x14 o15)) (nunciolaw35_TruncFairs_L2_st x1 x2 v6 v8 x14 o15 v9) := fun x1 x2 v6 v8 x14 o15 v9 o19 h => (nunciolaw35_TruncFairs_L2_grp x1 x2 v6 v8 x14 o15) v9 o19 h
noncomputable def nunciolaw35_TruncFairs_L1 (x1 : (List Int)) (x2 : (List Int)) (v6 : Int) (v7 : Bool) (v8 : Int) : Option ((Int × Bool) ⊕ Unit) :=
  if (decide (v8 < (x1.length : Int))) then
    ( idx x2 v8 >>= fun x9 =>
      if (decide (x9 < 0)) then
        some true
      else
        idx x2 v8 >>= fun x10 =>
        idx x1 v8 >>= fun x11 =>
        R35_Asked x11 >>= fun x12 =>
        if (decide (x10 > x12)) then
          some true
        else
          idx x2 v8 >>= fun x13 =>
          some (decide (x13 > v6)) : Option (Bool)) >>= fun o8 =>
    if o8 then
      some (.inr ())
    else
      idx x2 v8 >>= fun x14 =>
      ( if v7 then
          some true
        else
          idx x2 v8 >>= fun x16 =>
          idx x1 v8 >>= fun x17 =>
          R35_Asked x17 >>= fun x18 =>
          some (decide (x16 < x18)) : Option (Bool)) >>= fun o15 =>
      (nunciolaw35_TruncFairs_L2 x1 x2 v6 v8 x14 o15 0) >>= fun o19 =>
      match o19 with
      | .inl y20 =>
        nunciolaw35_TruncFairs_L1 x1 x2 (wr (v6 - x14)) o15 (wr (v8 + 1))
      | .inr y21 =>
        some (.inr ())
  else
    some (.inl (v6, v7))
  partial_fixpoint
set_option maxRecDepth 100000 in
set_option maxHeartbeats 4000000 in
theorem nunciolaw35_TruncFairs_L1_grp : ∀ (x1 : (List Int)) (x2 : (List Int)), (∀ (v6 : Int) (v7 : Bool) (v8 : Int) (o5 : (Int × Bool) ⊕ Unit), nunciolaw35_TruncFairs_L1 x1 x2 v6 v7 v8 = some o5 → TL (0, 0) Tryd.prog 112 nunciolaw35_TruncFairs_L1_c (JP2 (0, 0) 112 o5 (.exit 0) (nunciolaw35_TruncFairs_L1_x0 x1 x2) .ret (nunciolaw35_TruncFairs_L1_x1 x1 x2)) (nunciolaw35_TruncFairs_L1_st x1 x2 v6 v7 v8)) := by
  intro x1 x2
  refine nunciolaw35_TruncFairs_L1.partial_correctness x1 x2 _ ?_
  intro nunciolaw35_TruncFairs_L1' ih_nunciolaw35_TruncFairs_L1 v6 v7 v8 o5 h
  refine TL.round (bwp_sound mixed tbOk (lv := nunciolaw35_TruncFairs_lv) _ _ _ ?_)
  refine view (lenMap _ _) rfl ?_
  refine st_test h (fun hb h => ?_) (fun hb h => ?_)
  · refine st_bind h (fun o8 ho hk => ?_)
    refine Exists.intro (JP1 _ _ o8 .normal (nunciolaw35_TruncFairs_J0_0 x1 x2 v6 v7 v8)) (And.intro ?_ (join1 ?_))
    · have h := ho
      refine And.intro (by decide +kernel) (And.intro rfl ?_)
      refine st_idx (l := x2) (c := cInt) (c' := cInt) h (fun _ => rfl) (fun _ => rfl) (by decide) (fun x9 hi h => ?_)
      refine st_test h (fun hb h => ?_) (fun hb h => ?_)
      · refine bT ?_
        refine JP1.a h ?_
        exact Le.tow 0 0 rfl (.cons rfl (.refl _) (.cons rfl (.refl _) (.cons rfl (.refl _) (.cons rfl (.refl _) (.cons rfl (.refl _) (.cons rfl (.refl _) (.nil))))))) (.refl _) rfl
      · refine st_idx (l := x2) (c := cInt) (c' := cInt) h (fun _ => rfl) (fun _ => rfl) (by decide) (fun x10 hi h => ?_)
        refine st_idx (l := x1) (c := cInt) (c' := cInt) h (fun _ => rfl) (fun _ => rfl) (by decide) (fun x11 hi h => ?_)
        refine st_calld [iV x11] t_R35_Asked h (fun x12 hy => (R35_Asked_ok x11 x12 hy)) (fun x12 hy h => ?_)
        refine st_test h (fun hb h => ?_) (fun hb h => ?_)
        · refine JP1.a h ?_
          exact Le.tow 0 0 rfl (.cons rfl (.refl _) (.cons rfl (.refl _) (.cons rfl (.refl _) (.cons rfl (.refl _) (.cons rfl (.refl _) (.cons rfl (.refl _) (.nil))))))) (.refl _) rfl
        · refine st_idx (l := x2) (c := cInt) (c' := cInt) h (fun _ => rfl) (fun _ => rfl) (by decide) (fun x13 hi h => ?_)
          refine JP1.a h ?_
          exact Le.tow 0 0 rfl (.cons rfl (.refl _) (.cons rfl (.refl _) (.cons rfl (.refl _) (.cons rfl (.refl _) (.cons rfl (.refl _) (.cons rfl (.refl _) (.nil))))))) (.refl _) rfl
    · have h := hk
      refine st_test h (fun hb h => ?_) (fun hb h => ?_)
      · exact JP2.b h (Le.tow 0 0 rfl (.cons rfl (.refl _) (.nil)) (.refl _) rfl)
      · refine st_idx (l := x2) (c := cInt) (c' := cInt) h (fun _ => rfl) (fun _ => rfl) (by decide) (fun x14 hi h => ?_)
        refine st_bind h (fun o15 ho hk => ?_)
        refine Exists.intro (JP1 _ _ o15 .normal (nunciolaw35_TruncFairs_J1_0 x1 x2 v6 v8 x14)) (And.intro ?_ (join1 ?_))
        · have h := ho
          refine And.intro (by decide +kernel) (And.intro rfl ?_)
          refine st_test h (fun hb h => ?_) (fun hb h => ?_)
          · refine JP1.a h ?_
            exact Le.tow 0 0 rfl (.cons rfl (.refl _) (.cons rfl (.refl _) (.cons rfl (.refl _) (.cons rfl (.refl _) (.cons rfl (.refl _) (.nil)))))) (.refl _) rfl
          · refine st_idx (l := x2) (c := cInt) (c' := cInt) h (fun _ => rfl) (fun _ => rfl) (by decide) (fun x16 hi h => ?_)
            refine st_idx (l := x1) (c := cInt) (c' := cInt) h (fun _ => rfl) (fun _ => rfl) (by decide) (fun x17 hi h => ?_)
            refine st_calld [iV x17] t_R35_Asked h (fun x18 hy => (R35_Asked_ok x17 x18 hy)) (fun x18 hy h => ?_)
            refine JP1.a h ?_
            exact Le.tow 0 0 rfl (.cons rfl (.refl _) (.cons rfl (.refl _) (.cons rfl (.refl _) (.cons rfl (.refl _) (.cons rfl (.refl _) (.nil)))))) (.refl _) rfl
        · have h := hk
          refine st_bind h (fun o19 ho hk => ?_)
          refine Exists.intro (JP2 _ _ o19 (.exit 2) (nunciolaw35_TruncFairs_L2_x0 x1 x2 v6 v8 x14 o15) .ret (nunciolaw35_TruncFairs_L2_x1 x1 x2 v6 v8 x14 o15)) (And.intro (T_le (τ := nunciolaw35_TruncFairs_L2_st x1 x2 v6 v8 x14 o15 0) ?_ (TL.loop (nunciolaw35_TruncFairs_L2_ok x1 x2 v6 v8 x14 o15 0 o19 ho))) (join2 (fun y20 hy => ?_) (fun y21 hy => ?_)))
          · exact Le.tow 0 0 rfl (.cons rfl (.refl _) (.cons rfl (.refl _) (.cons rfl (.refl _) (.cons rfl (.refl _) (.cons rfl (.refl _) (.cons rfl (.refl _) (.nil))))))) (.refl _) rfl
          · have h := (by rw [hy] at hk; exact hk)
            refine TL.le (τ := nunciolaw35_TruncFairs_L1_st x1 x2 (wr (v6 - x14)) o15 (wr (v8 + 1))) ?_ ((ih_nunciolaw35_TruncFairs_L1 (wr (v6 - x14)) o15 (wr (v8 + 1)) _ h))
            exact Le.tow 0 0 rfl (.cons rfl (.refl _) (.cons rfl (.refl _) (.cons rfl (.refl _) (.cons rfl (.refl _) (.cons rfl (.refl _) (.nil)))))) (.refl _) rfl
          · have h := (by rw [hy] at hk; exact hk)
            exact JP2.b h (Le.tow 0 0 rfl (.cons rfl (.refl _) (.nil)) (.refl _) rfl)
  · exact JP2.a h (Le.tow 0 0 rfl (.cons rfl (.refl _) (.cons rfl (.refl _) (.nil))) (.refl _) rfl)
theorem nunciolaw35_TruncFairs_L1_ok : ∀ (x1 : (List Int)) (x2 : (List Int)) (v6 : Int) (v7 : Bool) (v8 : Int) (o5 : (Int × Bool) ⊕ Unit), nunciolaw35_TruncFairs_L1 x1 x2 v6 v7 v8 = some o5 → TL (0, 0) Tryd.prog 112 nunciolaw35_TruncFairs_L1_c (JP2 (0, 0) 112 o5 (.exit 0) (nunciolaw35_TruncFairs_L1_x0 x1 x2) .ret (nunciolaw35_TruncFairs_L1_x1 x1 x2)) (nunciolaw35_TruncFairs_L1_st x1 x2 v6 v7 v8) := fun x1 x2 v6 v7 v8 o5 h => (nunciolaw35_TruncFairs_L1_grp x1 x2) v6 v7 v8 o5 h
noncomputable def nunciolaw35_TruncFairs (p0 : (List Int)) (p1 : Int) : Option (Bool) :=
  cutL p0 0 (if 20 < (p0.length : Int) then 20 else (p0.length : Int)) >>= fun x1 =>
  trunc_Fair x1 p1 >>= fun x2 =>
  R35_Fair x1 p1 >>= fun x3 =>
  nunciolaw35_numbers x2 x3 >>= fun x4 =>
  if (!x4) then
    some false
  else
    (nunciolaw35_TruncFairs_L1 x1 x2 (if 0 > p1 then 0 else p1) false 0) >>= fun o5 =>
    match o5 with
    | .inl y6 =>
      ( if (!y6.2) then
          nunciolaw35_awake >>= fun x30 =>
          some x30
        else
          if (y6.1 == 0) then
            nunciolaw35_awake >>= fun x31 =>
            some x31
          else
            some false : Option (Bool)) >>= fun o29 =>
      some o29
    | .inr y7 =>
      some false
set_option maxRecDepth 100000 in
set_option maxHeartbeats 4000000 in
theorem nunciolaw35_TruncFairs_ok : ∀ (p0 : (List Int)) (p1 : Int) (o : Bool), nunciolaw35_TruncFairs p0 p1 = some o → PCall Tryd.prog 6 [.sl false (p0.map cInt), iV p1] (t_nunciolaw35_TruncFairs o) := by
  intro p0 p1 o h
  unfold nunciolaw35_TruncFairs at h
  refine PCall.ofB mixed tbOk nunciolaw35_TruncFairs_lv Tryd.func6 rfl (by kernel_rfl) (Nat.le_of_ble_eq_true rfl) ?_
  refine view (lenMap _ _) rfl ?_
  refine st_cut (c := cInt) none (some (if 20 < (p0.length : Int) then 20 else (p0.length : Int))) h (fun _ => rfl) (fun x1 hi h => ?_)
  refine st_call [.sl false (x1.map cInt), iV p1] t_trunc_Fair h (fun x2 hy => (trunc_Fair_ok x1 p1 x2 hy)) (fun x2 hy h => ?_)
  refine st_call [.sl false (x1.map cInt), iV p1] t_R35_Fair h (fun x3 hy => (R35_Fair_ok x1 p1 x3 hy)) (fun x3 hy h => ?_)
  refine st_call [.sl false (x2.map cInt), .sl false (x3.map cInt)] t_nunciolaw35_numbers h (fun x4 hy => (nunciolaw35_numbers_ok x2 x3 x4 hy)) (fun x4 hy h => ?_)
  refine st_test h (fun hb h => ?_) (fun hb h => ?_)
  · refine st_ret (t := t_nunciolaw35_TruncFairs) h ?_
    exact .refl _
  · refine st_bind h (fun o5 ho hk => ?_)
    refine Exists.intro (JP2 _ _ o5 (.exit 0) (nunciolaw35_TruncFairs_L1_x0 x1 x2) .ret (nunciolaw35_TruncFairs_L1_x1 x1 x2)) (And.intro (T_le (τ := nunciolaw35_TruncFairs_L1_st x1 x2 (if 0 > p1 then 0 else p1) false 0) ?_ (TL.loop (nunciolaw35_TruncFairs_L1_ok x1 x2 (if 0 > p1 then 0 else p1) false 0 o5 ho))) (join2 (fun y6 hy => ?_) (fun y7 hy => ?_)))
    · exact Le.tow 0 0 rfl (.cons rfl (.refl _) (.cons rfl (.refl _) (.cons rfl (.refl _) (.cons rfl (.refl _) (.cons rfl (.refl _) (.nil)))))) (.refl _) rfl
    · have h := (by rw [hy] at hk; exact hk)
      refine st_bind h (fun o29 ho hk => ?_)
      refine Exists.intro (JP1 _ _ o29 .normal (nunciolaw35_TruncFairs_J3_0 )) (And.intro ?_ (join1 ?_))
      · have h := ho
        refine st_test h (fun hb h => ?_) (fun hb h => ?_)
        · refine bT ?_
          refine st_call [] t_nunciolaw35_awake h (fun x30 hy => (nunciolaw35_awake_ok x30 hy)) (fun x30 hy h => ?_)
          refine JP1.a h ?_
          exact Le.tow 0 0 rfl (.cons rfl (.refl _) (.nil)) (.refl _) rfl
        · refine st_test h (fun hb h => ?_) (fun hb h => ?_)
          · refine st_call [] t_nunciolaw35_awake h (fun x31 hy => (nunciolaw35_awake_ok x31 hy)) (fun x31 hy h => ?_)
            refine JP1.a h ?_
            exact Le.tow 0 0 rfl (.cons rfl (.refl _) (.nil)) (.refl _) rfl
          · refine JP1.a h ?_
            exact Le.tow 0 0 rfl (.cons rfl (.refl _) (.nil)) (.refl _) rfl
      · have h := hk
        refine st_ret (t := t_nunciolaw35_TruncFairs) h ?_
        exact .refl _
    · have h := (by rw [hy] at hk; exact hk)
      refine st_ret (t := t_nunciolaw35_TruncFairs) h ?_
      exact .refl _
end Go.Proofs.YtebkhehjfkmdiaaDoor
end

section
namespace Go.Proofs.YtebkhehjfkmdiaaDoor
open Go.RowKit

def frontF : Nat → List UInt8 → Nat → Nat
  | 0, _, _ => 0
  | n + 1, l, m => match l with
    | [] => 0
    | _ :: _ => if (nextP l).2 ≤ m then (nextP l).2 + frontF n (l.drop (nextP l).2) (m - (nextP l).2) else 0
theorem frontF_step (n : Nat) (l : List UInt8) (m : Nat) (h : l ≠ []) : frontF (n + 1) l m = if (nextP l).2 ≤ m then (nextP l).2 + frontF n (l.drop (nextP l).2) (m - (nextP l).2) else 0 := by
  cases l with
  | nil => exact absurd rfl h
  | cons c r => rfl
theorem frontF_le : ∀ (n : Nat) (l : List UInt8) (m : Nat), frontF n l m ≤ m ∧ frontF n l m ≤ l.length
  | 0, l, m => by simp [frontF]
  | n + 1, [], m => by simp [frontF]
  | n + 1, c :: r, m => by
    rw [frontF_step n (c :: r) m (List.cons_ne_nil _ _)]
    obtain ⟨z1, z2⟩ := nextP_size (c :: r) (List.cons_ne_nil _ _)
    split
    · rename_i h
      obtain ⟨h1, h2⟩ := frontF_le n ((c :: r).drop (nextP (c :: r)).2) (m - (nextP (c :: r)).2)
      rw [List.length_drop] at h2
      omega
    · omega
theorem gtI (a b : Nat) : decide ((a : Int) > (b : Int)) = decide (b < a) := ltI b a
theorem tFrontL (s : List UInt8) (hs : s.length < 9000000000000) (m : Nat) (hm : m < 9000000000000) (p0 x2 : List UInt8) : ∀ n k, k ≤ s.length → s.length - k ≤ n → k ≤ m →
    ∃ out, utf_all_1_L1 s k = some (out, ()) ∧ ∃ o, utf_Front_L1 p0 m x2 out k = some o ∧ (o = .inl ((k + frontF n (s.drop k) (m - k) : Nat) : Int) ∨ o = .inr ((k + frontF n (s.drop k) (m - k) : Nat) : Int)) := by
  have key : ∀ n k, k ≤ s.length → s.length - k ≤ n → ∃ out, utf_all_1_L1 s k = some (out, ()) ∧ ((hkm : k ≤ m) → ∃ o, utf_Front_L1 p0 m x2 out k = some o ∧ (o = .inl ((k + frontF n (s.drop k) (m - k) : Nat) : Int) ∨ o = .inr ((k + frontF n (s.drop k) (m - k) : Nat) : Int))) := by
    intro n
    induction n with
    | zero =>
      intro k h1 h2
      rw [utf_all_1_L1, ltI, decide_eq_false (by omega : ¬ k < s.length)]
      refine ⟨[], rfl, fun h3 => ⟨.inl (k : Int), ?_, .inl rfl⟩⟩
      rw [utf_Front_L1]
    | succ n ih =>
      intro k h1 h2
      by_cases hk : k < s.length
      · have hne : s.drop k ≠ [] := by rw [dropE hk]; exact List.cons_ne_nil _ _
        obtain ⟨z1, z2⟩ := nextP_size _ hne
        rw [List.length_drop] at z2
        have ew : wr ((k : Int) + ((nextP (s.drop k)).2 : Int)) = ((k + (nextP (s.drop k)).2 : Nat) : Int) := by rw [wr_in (by omega) (by omega)]; rfl
        obtain ⟨out, o1, o2⟩ := ih (k + (nextP (s.drop k)).2) (by omega) (by omega)
        rw [utf_all_1_L1, ltI, decide_eq_true hk, tNext s k hk (by omega)]
        simp only [if_true, bind_some']
        rw [ew, o1]
        refine ⟨_, rfl, fun h3 => ?_⟩
        have em : wr ((m : Int) - (k : Int)) = ((m - k : Nat) : Int) := by rw [wr_in (by omega) (by omega)]; omega
        rw [utf_Front_L1, frontF_step n _ _ hne]
        simp only
        rw [em, gtI, ew]
        by_cases hb : (nextP (s.drop k)).2 ≤ m - k
        · obtain ⟨o, q1, q2⟩ := o2 (by omega)
          rw [decide_eq_false (by omega), if_neg (by decide), if_pos hb]
          refine ⟨o, q1, ?_⟩
          rw [List.drop_drop, Nat.sub_sub, ← Nat.add_assoc]
          exact q2
        · rw [decide_eq_true (by omega), if_pos rfl, if_neg hb, Nat.add_zero]
          exact ⟨_, rfl, .inr rfl⟩
      · rw [utf_all_1_L1, ltI, decide_eq_false hk, List.drop_eq_nil_of_le (by omega)]
        refine ⟨[], rfl, fun h3 => ⟨.inl (k : Int), ?_, .inl ?_⟩⟩
        · rw [utf_Front_L1]
        · rw [frontF]; rfl
  intro n k h1 h2 h3
  obtain ⟨out, o1, o2⟩ := key n k h1 h2
  exact ⟨out, o1, o2 h3⟩
theorem tFront (s : List UInt8) (hs : s.length < 9000000000000) (m : Nat) (hm : m < 9000000000000) : utf_Front s m = some (s.take (frontF s.length s m)) := by
  obtain ⟨out, o1, o, o2, o3⟩ := tFrontL s hs m hm s s s.length 0 (by omega) (by omega) (by omega)
  rw [List.drop_zero, Nat.zero_add, Nat.sub_zero] at o3
  rw [utf_Front, utf_all]
  simp only [bind_some']
  rw [utf_all_1, show (0 : Int) = ((0 : Nat) : Int) from rfl, o1]
  simp only [bind_some', List.append_nil, o2]
  have hl := (frontF_le s.length s m).2
  rcases o3 with rfl | rfl
  · simp only [bind_some']
    rw [cutL_ok (by omega) (by omega) (by omega)]
    simp
  · simp only [bind_some']
    rw [cutL_ok (by omega) (by omega) (by omega)]
    simp

def mark : List UInt8 := [226, 128, 166]
end Go.Proofs.YtebkhehjfkmdiaaDoor
end

section
namespace Go.Proofs.YtebkhehjfkmdiaaDoor
open Go.RowKit

def cutS (b : UInt8) : List UInt8 → List (List UInt8)
  | [] => [[]]
  | a :: t => if a == b then [] :: cutS b t else match cutS b t with
    | x :: r => (a :: x) :: r
    | [] => [[a]]
theorem cutS_ne (b : UInt8) : ∀ l, cutS b l ≠ []
  | [] => by simp [cutS]
  | a :: t => by
    rw [cutS]
    split
    · simp
    · split <;> simp
theorem cutS_free (b : UInt8) : ∀ p : List UInt8, b ∉ p → cutS b p = [p]
  | [], _ => rfl
  | a :: t, h => by
    simp only [List.mem_cons, not_or] at h
    have ha : ¬ (a == b) = true := by simpa using fun e : a = b => h.1 e.symm
    rw [cutS, if_neg ha, cutS_free b t h.2]
theorem cutS_at (b : UInt8) (t : List UInt8) : ∀ p : List UInt8, b ∉ p → cutS b (p ++ b :: t) = p :: cutS b t
  | [], _ => by simp [cutS]
  | a :: p, h => by
    simp only [List.mem_cons, not_or] at h
    have ha : ¬ (a == b) = true := by simpa using fun e : a = b => h.1 e.symm
    rw [List.cons_append, cutS, if_neg ha, cutS_at b t p h.2]
theorem cutS_len (b : UInt8) (l : List UInt8) : (cutS b l).length ≤ l.length + 1 ∧ ∀ x ∈ cutS b l, x.length ≤ l.length := by
  induction l with
  | nil => simp [cutS]
  | cons a t ih =>
    obtain ⟨h1, h2⟩ := ih
    rw [cutS]
    split
    · refine ⟨by simp; omega, fun x hx => ?_⟩
      rcases List.mem_cons.1 hx with rfl | hx
      · simp
      · have := h2 x hx; rw [List.length_cons]; omega
    · split
      · rename_i x r hc
        rw [hc] at h1 h2
        refine ⟨by simp at h1 ⊢; omega, fun y hy => ?_⟩
        rcases List.mem_cons.1 hy with rfl | hy
        · have := h2 x (by simp); simp; omega
        · have := h2 y (by simp [hy]); rw [List.length_cons]; omega
      · exact ⟨by simp, fun y hy => by simp at hy; subst hy; simp⟩
theorem index_one (b : UInt8) : ∀ l : List UInt8, (Lib.index l [b] = -1 ∧ b ∉ l) ∨ ∃ p t, l = p ++ b :: t ∧ b ∉ p ∧ Lib.index l [b] = (p.length : Int)
  | [] => .inl ⟨rfl, by simp⟩
  | a :: l => by
    by_cases h : (b == a) = true
    · have e : b = a := by simpa using h
      subst e
      exact .inr ⟨[], l, rfl, by simp, by unfold Lib.index; rw [if_pos (by simp [List.isPrefixOf])]; rfl⟩
    · have hp : [b].isPrefixOf (a :: l) = false := by simp [List.isPrefixOf]; simpa using h
      have hne : b ≠ a := by simpa using h
      rcases index_one b l with ⟨h1, h2⟩ | ⟨p, t, h1, h2, h3⟩
      · refine .inl ⟨by unfold Lib.index; rw [hp, h1]; rfl, by simp [h2, hne]⟩
      · refine .inr ⟨a :: p, t, by rw [h1]; rfl, by simp [h2, hne], ?_⟩
        unfold Lib.index
        rw [hp, h3]
        have : ((p.length : Int) == -1) = false := by rw [beq_eq_false_iff_ne]; omega
        simp [this]
end Go.Proofs.YtebkhehjfkmdiaaDoor
end

section
namespace Go.Proofs.YtebkhehjfkmdiaaDoor
open Go.RowKit

def cutP (s : List UInt8) (m : Int) : List UInt8 × Bool :=
  if (s.length : Int) ≤ m then (s, false) else if m < 3 then ([], true) else (s.take (frontF s.length s (m - 3).toNat) ++ mark, true)
theorem tCut (s : List UInt8) (hs : s.length ≤ 1000000) (m : Int) : trunc_Cut s m = some (cutP s m) := by
  rw [trunc_Cut, trunc_short, cutP]
  by_cases h1 : (s.length : Int) ≤ m
  · rw [decide_eq_true h1, if_pos rfl, if_pos h1]; rfl
  · rw [decide_eq_false h1, if_neg h1]
    by_cases h2 : m < 3
    · rw [decide_eq_true h2, if_pos h2]; rfl
    · rw [decide_eq_false h2, if_neg h2]
      have e : wr (m - 3) = (((m - 3).toNat : Nat) : Int) := by rw [wr_in (by omega) (by omega)]; omega
      simp only [Bool.false_eq_true, if_false, bind_some']
      rw [e, tFront s (by omega) _ (by omega)]
      have := (frontF_le s.length s (m - 3).toNat).1
      simp only [bind_some']
      rw [need_ok (by simp; omega)]
      rfl
def backF : Nat → List UInt8 → Nat → Nat
  | 0, _, _ => 0
  | n + 1, l, r => if l.length ≤ r then 0 else (nextP l).2 + backF n (l.drop (nextP l).2) r
theorem backF_le : ∀ (n : Nat) (l : List UInt8) (r : Nat), l.length ≤ n → backF n l r ≤ l.length ∧ l.length - backF n l r ≤ r
  | 0, l, r, h => by simp [backF]; omega
  | n + 1, l, r, h => by
    rw [backF]
    split
    · omega
    · rename_i h1
      have hne : l ≠ [] := fun e => h1 (by rw [e]; simp)
      obtain ⟨z1, z2⟩ := nextP_size l hne
      obtain ⟨h3, h4⟩ := backF_le n (l.drop (nextP l).2) r (by rw [List.length_drop]; omega)
      rw [List.length_drop] at h3 h4
      omega
theorem tMidL (s : List UInt8) (hs : s.length ≤ 1000000) (m : Int) (r : Nat) (hr : wr ((wr (m - 3)) - (wr ((wr (m - 3)).tdiv 2))) = (r : Int)) : ∀ n k, k ≤ s.length → s.length - k ≤ n → trunc_Middle_L1 s m k = some (((k + backF n (s.drop k) r : Nat) : Int)) := by
  have ek : ∀ k : Nat, k ≤ s.length → wr ((s.length : Int) - (k : Int)) = ((s.length - k : Nat) : Int) := fun k h => by rw [wr_in (by omega) (by omega)]; omega
  intro n
  induction n with
  | zero =>
    intro k h1 h2
    rw [trunc_Middle_L1, hr, ek k h1, gtI, decide_eq_false (by omega), backF]
    rfl
  | succ n ih =>
    intro k h1 h2
    rw [trunc_Middle_L1, hr, ek k h1, gtI, backF]
    by_cases hb : s.length - k ≤ r
    · rw [decide_eq_false (by omega), if_neg (by decide), if_pos (by rw [List.length_drop]; exact hb)]; rfl
    · have hk : k < s.length := by omega
      have hne : s.drop k ≠ [] := by rw [dropE hk]; exact List.cons_ne_nil _ _
      obtain ⟨z1, z2⟩ := nextP_size _ hne
      rw [List.length_drop] at z2
      have ew : wr ((k : Int) + ((nextP (s.drop k)).2 : Int)) = ((k + (nextP (s.drop k)).2 : Nat) : Int) := by rw [wr_in (by omega) (by omega)]; rfl
      rw [decide_eq_true (by omega), if_pos rfl, if_neg (by rw [List.length_drop]; omega), tNext s k hk (by omega)]
      simp only [bind_some']
      rw [ew, ih _ (by omega) (by omega), List.drop_drop, Nat.add_assoc]
def midP (s : List UInt8) (m : Int) : List UInt8 × Bool :=
  if (s.length : Int) ≤ m then (s, false) else if m < 3 then ([], true) else
    (s.take (frontF s.length s ((m - 3).toNat / 2)) ++ mark ++ s.drop (backF s.length s ((m - 3).toNat - (m - 3).toNat / 2)), true)
theorem midNums {m : Int} {n : Nat} (h : m < n) (hn : n ≤ 1000000) (h3 : ¬ m < 3) : wr ((wr (m - 3)).tdiv 2) = (((m - 3).toNat / 2 : Nat) : Int) ∧ wr ((wr (m - 3)) - (wr ((wr (m - 3)).tdiv 2))) = (((m - 3).toNat - (m - 3).toNat / 2 : Nat) : Int) := by
  have e : wr (m - 3) = (((m - 3).toNat : Nat) : Int) := by rw [wr_in (by omega) (by omega)]; omega
  have e2 : (((m - 3).toNat : Nat) : Int).tdiv 2 = (((m - 3).toNat / 2 : Nat) : Int) := td _ 2
  have e3 : wr (((m - 3).toNat / 2 : Nat) : Int) = (((m - 3).toNat / 2 : Nat) : Int) := by rw [wr_in (by omega) (by omega)]
  rw [e, e2, e3]
  refine ⟨rfl, ?_⟩
  rw [wr_in (by omega) (by omega)]
  omega
theorem tMid (s : List UInt8) (hs : s.length ≤ 1000000) (m : Int) : trunc_Middle s m = some (midP s m) := by
  rw [trunc_Middle, trunc_short, midP]
  by_cases h1 : (s.length : Int) ≤ m
  · rw [decide_eq_true h1, if_pos rfl, if_pos h1]; rfl
  · rw [decide_eq_false h1, if_neg h1]
    by_cases h2 : m < 3
    · rw [decide_eq_true h2, if_pos h2]; rfl
    · rw [decide_eq_false h2, if_neg h2]
      obtain ⟨n1, n2⟩ := midNums (n := s.length) (by omega) hs h2
      simp only [Bool.false_eq_true, if_false, bind_some']
      have hL := tMidL s hs m _ n2 s.length 0 (by omega) (by omega)
      rw [show (0 : Int) = ((0 : Nat) : Int) from rfl, hL, n1, tFront s (by omega) _ (by omega), List.drop_zero, Nat.zero_add]
      have b1 := (frontF_le s.length s ((m - 3).toNat / 2)).1
      have b2 := (backF_le s.length s ((m - 3).toNat - (m - 3).toNat / 2) (Nat.le_refl _)).1
      simp only [bind_some']
      rw [need_ok (by simp; omega), bind_some', cutL_ok (by omega) (by omega) (by omega), bind_some', need_ok (by simp; omega), bind_some']
      simp [mark]
def nlS (b : UInt8) : List (List UInt8) → List (List UInt8)
  | [] => []
  | [x] => [x]
  | x :: y :: r => (x ++ [b]) :: nlS b (y :: r)
theorem nlS_cons (b : UInt8) (x : List UInt8) (l : List (List UInt8)) (h : l ≠ []) : nlS b (x :: l) = (x ++ [b]) :: nlS b l := by
  cases l with
  | nil => exact absurd rfl h
  | cons y r => rfl
theorem nlS_len (b : UInt8) : ∀ l, (nlS b l).length = l.length
  | [] => rfl
  | [x] => rfl
  | x :: y :: r => by rw [nlS, List.length_cons, nlS_len b (y :: r)]; rfl
theorem nlS_take (b : UInt8) : ∀ (l : List (List UInt8)) (k : Nat), k < l.length → (nlS b l).take k = (l.take k).map (· ++ [b])
  | [], k, h => by simp at h
  | [x], k, h => by
    have : k = 0 := by simp at h; omega
    subst this; rfl
  | x :: y :: r, 0, h => rfl
  | x :: y :: r, k + 1, h => by
    rw [nlS, List.take_succ_cons, nlS_take b (y :: r) k (by simpa using h), List.take_succ_cons, List.map_cons]
theorem splitK_nl (b : UInt8) : ∀ (n : Nat) (l : List UInt8), l.length < n → Lib.splitK [b] 1 (Lib.countFrom [b] n l) l = nlS b (cutS b l)
  | 0, _, h => by omega
  | n + 1, l, h => by
    rcases index_one b l with ⟨h1, h2⟩ | ⟨p, t, h1, h2, h3⟩
    · rw [Lib.countFrom, h1]
      simp only [beq_self_eq_true, if_true]
      rw [Lib.splitK, cutS_free b l h2, nlS]
    · have hm : ((p.length : Int) == -1) = false := by rw [beq_eq_false_iff_ne]; omega
      have hd : l.drop (p.length + 1) = t := by rw [h1]; simp
      rw [Lib.countFrom, h3, hm]
      simp only [Bool.false_eq_true, if_false, Int.toNat_natCast, List.length_cons, List.length_nil, Nat.zero_add]
      rw [hd, Nat.add_comm 1, Lib.splitK, h3, hm]
      simp only [Bool.false_eq_true, if_false, Int.toNat_natCast, List.length_cons, List.length_nil, Nat.zero_add]
      rw [hd, splitK_nl b n t (by rw [h1] at h; simp at h; omega)]
      have ht : l.take (p.length + 1) = p ++ [b] := by
        rw [h1, show p ++ b :: t = (p ++ [b]) ++ t by simp, List.take_append_of_le_length (by simp), List.take_of_length_le (by simp)]
      rw [ht, h1, cutS_at b t p h2, nlS_cons b p _ (cutS_ne b t)]
theorem cutS_flat (b : UInt8) : ∀ l : List UInt8, (nlS b (cutS b l)).flatten = l
  | [] => rfl
  | a :: t => by
    have ih := cutS_flat b t
    rw [cutS]
    split
    · rename_i h
      have e : a = b := by simpa using h
      rw [nlS_cons b _ _ (cutS_ne b t), List.flatten_cons, ih, e]; rfl
    · split
      · rename_i x r hc
        rw [hc] at ih
        cases r with
        | nil => rw [nlS, List.flatten_cons] at ih ⊢; simp at ih ⊢; exact ih
        | cons y r => rw [nlS, List.flatten_cons] at ih ⊢; simp at ih ⊢; exact ih
      · rename_i hc; exact absurd hc (cutS_ne b t)
def joinNl (l : List (List UInt8)) : List UInt8 := (l.map (· ++ [10])).flatten
theorem joinNl_len (s : List UInt8) (k : Nat) (h : k < (cutS 10 s).length) : (joinNl ((cutS 10 s).take k)).length ≤ s.length := by
  unfold joinNl
  rw [← nlS_take 10 _ k h]
  have e : ((nlS 10 (cutS 10 s)).take k).flatten ++ ((nlS 10 (cutS 10 s)).drop k).flatten = s := by rw [← List.flatten_append, List.take_append_drop, cutS_flat]
  have := congrArg List.length e
  rw [List.length_append] at this
  omega
def linesP (s : List UInt8) (m : Int) : List UInt8 × Bool :=
  if ((cutS 10 s).length : Int) ≤ m then (s, false) else if m < 1 then ([], true) else (joinNl ((cutS 10 s).take (m - 1).toNat) ++ mark, true)
theorem join_nil' : ∀ l : List (List UInt8), Lib.join l [] = l.flatten
  | [] => rfl
  | [x] => by simp [Lib.join, List.intercalate]
  | x :: y :: r => by
    have := join_nil' (y :: r)
    unfold Lib.join at this ⊢
    rw [List.intercalate_cons_cons, this]
    simp
theorem tLines (s : List UInt8) (hs : s.length ≤ 1000000) (m : Int) : trunc_Lines s m = some (linesP s m) := by
  have hl := (cutS_len 10 s).1
  have e : strings_SplitAfter s [10] = some (nlS 10 (cutS 10 s)) := by
    rw [strings_SplitAfter, strings_genSplit, need_ok (by omega), bind_some', need_ok (by simp), bind_some', need_ok (by simp), bind_some', need_ok (by simp), bind_some', need_ok (by omega), bind_some', bind_some']
    have := splitK_nl 10 (s.length + 1) s (Nat.lt_succ_self _)
    exact congrArg some this
  rw [trunc_Lines, e, bind_some', nlS_len, linesP]
  by_cases h1 : ((cutS 10 s).length : Int) ≤ m
  · rw [decide_eq_true h1, if_pos rfl, if_pos h1]
  · rw [decide_eq_false h1, if_neg (by decide), if_neg h1]
    by_cases h2 : m < 1
    · rw [decide_eq_true h2, if_pos rfl, if_pos h2]
    · rw [decide_eq_false h2, if_neg (by decide), if_neg h2]
      have ew : wr (m - 1) = m - 1 := wr_in (by omega) (by omega)
      have hk : (m - 1).toNat < (cutS 10 s).length := by omega
      have hj := joinNl_len s _ hk
      rw [ew, cutL_ok (by omega) (by omega) (by rw [nlS_len]; omega), bind_some', show ((0 : Int)).toNat = 0 from rfl, List.drop_zero, nlS_take 10 _ _ hk, strings_Join]
      have hf : (List.map (· ++ [10]) ((cutS 10 s).take (m - 1).toNat)).flatten = joinNl ((cutS 10 s).take (m - 1).toNat) := rfl
      rw [join_nil', hf, need_ok (by simp; omega), bind_some', need_ok (by omega), bind_some', bind_some', need_ok (by simp only [List.length_cons, List.length_nil]; omega)]
      rfl
end Go.Proofs.YtebkhehjfkmdiaaDoor
end

section
namespace Go.Proofs.YtebkhehjfkmdiaaDoor
open Go.RowKit

def ask (n : Int) : Int := if 0 > n then 0 else n
theorem ask_nn (n : Int) : 0 ≤ ask n := by unfold ask; split <;> omega
/-- What one is given, if none is given more than e. -/
def mn (e n : Int) : Int := if e < ask n then e else ask n
theorem mn_nn {e : Int} (he : 0 ≤ e) (n : Int) : 0 ≤ mn e n := by unfold mn; have := ask_nn n; split <;> omega
theorem mn_le (e n : Int) : mn e n ≤ e ∧ mn e n ≤ ask n := by unfold mn; split <;> omega
def tot (e : Int) : List Int → Int
  | [] => 0
  | n :: r => mn e n + tot e r
theorem tot_nn {e : Int} (he : 0 ≤ e) : ∀ l, 0 ≤ tot e l
  | [] => Int.le_refl _
  | n :: r => by have := mn_nn he n; have := tot_nn he r; rw [tot]; omega
def cnt (e : Int) : List Int → Int
  | [] => 0
  | n :: r => (if e < ask n then 1 else 0) + cnt e r
theorem cnt_nn (e : Int) : ∀ l, 0 ≤ cnt e l
  | [] => Int.le_refl _
  | n :: r => by have := cnt_nn e r; rw [cnt]; split <;> omega
theorem tot_succ (e : Int) : ∀ l, tot (e + 1) l = tot e l + cnt e l
  | [] => rfl
  | n :: r => by
    have := tot_succ e r
    rw [tot, tot, cnt, this]
    unfold mn
    by_cases h : e < ask n
    · rw [if_pos h, if_pos h]; split <;> omega
    · rw [if_neg h, if_neg h, if_neg (by omega)]; omega
theorem tot_mono {a b : Int} (h : a ≤ b) : ∀ l, tot a l ≤ tot b l
  | [] => Int.le_refl _
  | n :: r => by
    have := tot_mono h r
    rw [tot, tot]
    unfold mn
    split <;> split <;> omega
theorem tot_0 : ∀ l, tot 0 l = 0
  | [] => rfl
  | n :: r => by
    have := tot_0 r
    have := ask_nn n
    rw [tot]; unfold mn; split <;> omega

theorem set_grow {l v : List Int} {f : Int → Int} {k : Nat} (hk : k < l.length) (hv : v.length = l.length) (h : v.take k = (l.map f).take k) : (v.set k (f l[k])).take (k + 1) = (l.map f).take (k + 1) := by
  apply List.ext_getElem?
  intro i
  rw [List.getElem?_take, List.getElem?_take]
  by_cases hi : i < k + 1
  · rw [if_pos hi, if_pos hi]
    by_cases e : i = k
    · subst e
      rw [List.getElem?_set_self (by omega), List.getElem?_map, List.getElem?_eq_getElem hk]; rfl
    · rw [List.getElem?_set_ne (fun h => e h.symm)]
      have := congrArg (·[i]?) h
      simp only [List.getElem?_take, if_pos (by omega : i < k)] at this
      exact this
  · rw [if_neg hi, if_neg hi]
theorem tGivenL (e : Int) (l : List Int) (hl : l.length ≤ 1000000) : ∀ k, k ≤ l.length → ∀ v : List Int, v.length = l.length → v.take k = (l.map (mn e)).take k → trunc_Fair_1_L1 e l v k = some (l.map (mn e)) := by
  refine upto (fun v hv h => ?_) fun k hk ih v hv h => ?_
  · rw [trunc_Fair_1_L1, ltI, decide_eq_false (by omega), if_neg (by decide)]
    rw [List.take_of_length_le (by omega), List.take_of_length_le (by simp)] at h
    rw [h]
  · rw [trunc_Fair_1_L1, ltI, decide_eq_true hk, if_pos rfl, wr_succ (by omega)]
    simp only [idx_nat, getE hk, bind_some', getE (show k < v.length by omega), Int.toNat_natCast]
    exact ih (v.set k (mn e l[k])) (by simpa using hv) (set_grow hk hv h)
theorem tGiven (e : Int) (l : List Int) (hl : l.length ≤ 1000000) : trunc_Fair_1 e l = some (l.map (mn e)) := by
  rw [trunc_Fair_1]
  have hm : mkL 8 (l.length : Int) (0 : Int) = some (List.replicate l.length 0) := by
    unfold mkL
    rw [if_pos (by omega)]; rfl
  rw [hm, bind_some']
  show (trunc_Fair_1_L1 e l (List.replicate l.length 0) ((0 : Nat) : Int) >>= _) = _
  rw [tGivenL e l hl 0 (by omega) (List.replicate l.length 0) (by simp) rfl]
  rfl
theorem tRestL {e most : Int} (he : 0 ≤ e) (hm : most ≤ 9223372036854775807) (he2 : e ≤ 9223372036854775807) (h0 : Int) (h2 : List Int) (L : List Int) (hl : L.length ≤ 1000000) : ∀ k, k ≤ L.length → ∀ v : Int, 0 ≤ v → v ≤ most →
    trunc_Fair_2_L1 h0 h2 (L.map (mn e)) v k = some (if tot e (L.drop k) ≤ v then .inl (v - tot e (L.drop k)) else .inr ()) := by
  refine upto (fun v h1 h2 => ?_) fun k hk ih v h1 h2 => ?_
  · rw [trunc_Fair_2_L1, List.length_map, ltI, decide_eq_false (by omega), if_neg (by decide), List.drop_length, tot, if_pos h1, Int.sub_zero]
  · have hmn := mn_nn he L[k]
    have hmn2 := (mn_le e L[k]).1
    have ht := tot_nn he (L.drop (k + 1))
    rw [trunc_Fair_2_L1, List.length_map, ltI, decide_eq_true hk, if_pos rfl, wr_succ (by omega), idx_nat, List.getElem?_map, getE hk]
    simp only [Option.map_some, bind_some']
    rw [wr_in (by omega) (by omega), dropE hk, tot]
    by_cases hb : v - mn e L[k] < 0
    · rw [decide_eq_true hb, if_pos rfl, if_neg (by omega)]
    · rw [decide_eq_false hb, if_neg (by decide), ih _ (by omega) (by omega)]
      by_cases hc : tot e (L.drop (k + 1)) ≤ v - mn e L[k]
      · rw [if_pos hc, if_pos (by omega), Int.sub_sub]
      · rw [if_neg hc, if_neg (by omega)]
theorem tRest {e most : Int} (he : 0 ≤ e) (hm0 : 0 ≤ most) (hm : most ≤ 9223372036854775807) (he2 : e ≤ 9223372036854775807) (l : List Int) (hl : l.length ≤ 1000000) : trunc_Fair_2 e most l = some (if tot e l ≤ most then most - tot e l else -1) := by
  rw [trunc_Fair_2, tGiven e l hl, bind_some', show (0 : Int) = ((0 : Nat) : Int) from rfl, tRestL he hm he2 most l l hl 0 (by omega) most hm0 (Int.le_refl _), List.drop_zero]
  split <;> rfl
/-- What is the greatest that each may be given. -/
structure Best (l : List Int) (most hi r : Int) : Prop where
  lo : 0 ≤ r
  le : r ≤ hi
  fit : tot r l ≤ most
  max : r < hi → most < tot (r + 1) l
theorem Best.uniq {l : List Int} {most hi r r' : Int} (h : Best l most hi r) (h' : Best l most hi r') : r = r' := by
  rcases Int.lt_trichotomy r r' with hlt | rfl | hlt
  · have a := h.max (by have := h'.le; omega)
    have b := tot_mono (show r + 1 ≤ r' by omega) l
    have := h'.fit
    omega
  · rfl
  · have a := h'.max (by have := h.le; omega)
    have b := tot_mono (show r' + 1 ≤ r by omega) l
    have := h.fit
    omega
theorem hmid {i j : Int} (h0 : 0 ≤ i) (hij : i ≤ j) (hj : j ≤ 9223372036854775807) : wr ((IntKind.u64.wrap (wr (i + j))).fdiv (2 ^ (min (1 : Int).toNat (IntKind.u64.bits)))) = (i + j) / 2 := by
  have e1 : (2 : Int) ^ (min (1 : Int).toNat (IntKind.u64.bits)) = 2 := rfl
  have e2 : IntKind.u64.wrap (wr (i + j)) = i + j := by
    unfold wr
    simp only [IntKind.wrap, IntKind.bits, IntKind.signed, Bool.false_and, Bool.false_eq_true, if_false, Bool.true_and]
    split <;> omega
  rw [e1, e2, Int.fdiv_eq_ediv_of_nonneg _ (by omega), wr_in (by omega) (by omega)]
theorem tSearchL {most hi : Int} (l : List Int) (hl : l.length ≤ 1000000) (hm0 : 0 ≤ most) (hm : most ≤ 9223372036854775807) (hhi : hi ≤ most) : ∀ (n : Nat) (i j : Int), (j - i).toNat ≤ n → 0 ≤ i → i ≤ j → j ≤ hi → tot i l ≤ most → (j < hi → most < tot (j + 1) l) →
    ∃ r, sort_Search_trunc_Fair_3_L1 most l i j = some r ∧ Best l most hi r := by
  intro n
  induction n with
  | zero =>
    intro i j h1 h2 h3 h4 h5 h6
    have e : i = j := by omega
    subst e
    rw [sort_Search_trunc_Fair_3_L1, decide_eq_false (by omega), if_neg (by decide)]
    exact ⟨i, rfl, h2, h4, h5, h6⟩
  | succ n ih =>
    intro i j h1 h2 h3 h4 h5 h6
    by_cases hij : i < j
    · rw [sort_Search_trunc_Fair_3_L1, decide_eq_true hij, if_pos rfl, hmid h2 h3 (by omega), trunc_Fair_3, wr_in (n := (i + j) / 2 + 1) (by omega) (by omega), tRest (by omega) hm0 hm (by omega) l hl]
      simp only [bind_some']
      by_cases hc : tot ((i + j) / 2 + 1) l ≤ most
      · rw [if_pos hc, decide_eq_false (by omega)]
        exact ih _ _ (by omega) (by omega) (by omega) h4 hc h6
      · rw [if_neg hc, decide_eq_true (by decide)]
        exact ih _ _ (by omega) h2 (by omega) (by omega) h5 (fun _ => by omega)
    · rw [sort_Search_trunc_Fair_3_L1, decide_eq_false hij, if_neg (by decide)]
      have e : i = j := by omega
      subst e
      exact ⟨i, rfl, h2, h4, h5, h6⟩
theorem tSearch {most hi : Int} (l : List Int) (hl : l.length ≤ 1000000) (hm0 : 0 ≤ most) (hm : most ≤ 9223372036854775807) (h0 : 0 ≤ hi) (hhi : hi ≤ most) : ∃ r, sort_Search_trunc_Fair_3 hi most l = some r ∧ Best l most hi r := by
  obtain ⟨r, h1, h2⟩ := tSearchL l hl hm0 hm hhi _ 0 hi (Nat.le_refl _) (Int.le_refl _) h0 (Int.le_refl _) (by rw [tot_0]; exact hm0) (fun h => absurd h (by omega))
  exact ⟨r, by rw [sort_Search_trunc_Fair_3, h1]; rfl, h2⟩

theorem rAsk (n : Int) : R35_Asked n = some (ask n) := rfl
theorem rFitsL {e most : Int} (he : 0 ≤ e) (hm : most ≤ 9223372036854775807) (l : List Int) (hl : l.length ≤ 1000000) : ∀ k, k ≤ l.length → ∀ v : Int, 0 ≤ v → v ≤ most →
    R35_fits_L1 l e most v k = some (if tot e (l.drop k) ≤ most - v then .inl () else .inr ()) := by
  refine upto (fun v h1 h2 => ?_) fun k hk ih v h1 h2 => ?_
  · rw [R35_fits_L1, ltI, decide_eq_false (by omega), if_neg (by decide), List.drop_length, tot, if_pos (by omega)]
  · have hmn := mn_nn he l[k]
    have ht := tot_nn he (l.drop (k + 1))
    rw [R35_fits_L1, ltI, decide_eq_true hk, if_pos rfl, wr_succ (by omega), idx_nat, getE hk]
    simp only [bind_some', rAsk]
    have em : (if e < ask l[k] then e else ask l[k]) = mn e l[k] := rfl
    rw [em, wr_in (n := most - v) (by omega) (by omega), dropE hk, tot]
    by_cases hb : mn e l[k] > most - v
    · rw [decide_eq_true hb, if_pos rfl, if_neg (by omega)]
    · rw [decide_eq_false hb, if_neg (by decide), wr_in (by omega) (by omega), ih _ (by omega) (by omega)]
      by_cases hc : tot e (l.drop (k + 1)) ≤ most - (v + mn e l[k])
      · rw [if_pos hc, if_pos (by omega)]
      · rw [if_neg hc, if_neg (by omega)]
theorem rFits {e most : Int} (he : 0 ≤ e) (hm0 : 0 ≤ most) (hm : most ≤ 9223372036854775807) (l : List Int) (hl : l.length ≤ 1000000) : R35_fits l e most = some (decide (tot e l ≤ most)) := by
  rw [R35_fits, show (0 : Int) = ((0 : Nat) : Int) from rfl, rFitsL he hm l hl 0 (by omega) _ (by omega) (by omega), List.drop_zero]
  by_cases hc : tot e l ≤ most
  · rw [if_pos (by omega), decide_eq_true hc]; rfl
  · rw [if_neg (by omega), decide_eq_false hc]; rfl
theorem rSearchL {p1 hi : Int} (l x1 : List Int) (hl : l.length ≤ 1000000) (hm : ask p1 ≤ 9223372036854775807) (hhi : hi ≤ ask p1) : ∀ (n : Nat) (i j : Int), (j - i).toNat ≤ n → 0 ≤ i → i ≤ j → j ≤ hi → tot i l ≤ ask p1 → (j < hi → ask p1 < tot (j + 1) l) →
    ∃ r, R35_Fair_L2 l p1 x1 i j = some r ∧ Best l (ask p1) hi r := by
  have ea : (if 0 > p1 then 0 else p1) = ask p1 := rfl
  have h0 := ask_nn p1
  intro n
  induction n with
  | zero =>
    intro i j h1 h2 h3 h4 h5 h6
    have e : i = j := by omega
    subst e
    rw [R35_Fair_L2, decide_eq_false (by omega), if_neg (by decide)]
    exact ⟨i, rfl, h2, h4, h5, h6⟩
  | succ n ih =>
    intro i j h1 h2 h3 h4 h5 h6
    by_cases hij : i < j
    · have e1 : wr (j - (wr ((wr (j - i)).tdiv 2))) = j - (j - i) / 2 := by
        rw [wr_in (n := j - i) (by omega) (by omega), Int.tdiv_eq_ediv_of_nonneg (by omega), wr_in (n := (j - i) / 2) (by omega) (by omega), wr_in (by omega) (by omega)]
      rw [R35_Fair_L2, decide_eq_true hij, if_pos rfl, e1, ea, rFits (by omega) h0 hm l hl]
      simp only [bind_some']
      by_cases hc : tot (j - (j - i) / 2) l ≤ ask p1
      · rw [decide_eq_true hc, if_pos rfl]
        exact ih _ _ (by omega) (by omega) (by omega) h4 hc h6
      · rw [decide_eq_false hc, if_neg (by decide), wr_in (by omega) (by omega)]
        exact ih _ _ (by omega) h2 (by omega) (by omega) h5 (fun _ => by rw [Int.sub_add_cancel]; omega)
    · rw [R35_Fair_L2, decide_eq_false hij, if_neg (by decide)]
      have e : i = j := by omega
      subst e
      exact ⟨i, rfl, h2, h4, h5, h6⟩

def gr (v : Int) : List Int → Int
  | [] => v
  | n :: r => gr (if ask n > v then ask n else v) r
theorem gr_ge : ∀ (l : List Int) (v : Int), v ≤ gr v l ∧ ∀ n ∈ l, ask n ≤ gr v l
  | [], v => ⟨Int.le_refl _, fun n hn => by simp at hn⟩
  | n :: r, v => by
    have hw : v ≤ (if ask n > v then ask n else v) ∧ ask n ≤ (if ask n > v then ask n else v) := by split <;> omega
    rw [gr]
    generalize (if ask n > v then ask n else v) = u at hw ⊢
    obtain ⟨h1, h2⟩ := gr_ge r u
    refine ⟨by omega, fun q hq => ?_⟩
    rcases List.mem_cons.1 hq with rfl | hq
    · omega
    · exact h2 q hq
def capM (most v : Int) : Int := if most < v then most else v
theorem rHiL (l x1 : List Int) (p1 : Int) (hl : l.length ≤ 1000000) : ∀ k, k ≤ l.length → ∀ v : Int, R35_Fair_L1 l p1 x1 v k = some (gr v (l.drop k)) := by
  refine upto (fun v => ?_) fun k hk ih v => ?_
  · rw [R35_Fair_L1, ltI, decide_eq_false (by omega), if_neg (by decide), List.drop_length, gr]
  · rw [R35_Fair_L1, ltI, decide_eq_true hk, if_pos rfl, wr_succ (by omega), idx_nat, getE hk]
    simp only [bind_some', rAsk]
    rw [ih, dropE hk, gr]
theorem tHiL (l : List Int) (p1 : Int) (hl : l.length ≤ 1000000) : ∀ k, k ≤ l.length → ∀ v : Int, 0 ≤ v → trunc_Fair_L1 l p1 (capM (ask p1) v) k = some (capM (ask p1) (gr v (l.drop k))) := by
  have ea : (if 0 > p1 then 0 else p1) = ask p1 := rfl
  have h0 := ask_nn p1
  refine upto (fun v _ => ?_) fun k hk ih v hv => ?_
  · rw [trunc_Fair_L1, ltI, decide_eq_false (by omega), if_neg (by decide), List.drop_length, gr]
  · have e : (if (if ask p1 < l[k] then ask p1 else l[k]) > capM (ask p1) v then (if ask p1 < l[k] then ask p1 else l[k]) else capM (ask p1) v) = capM (ask p1) (if ask l[k] > v then ask l[k] else v) := by
      generalize hA : ask p1 = A at h0
      unfold capM ask
      repeat' split
      all_goals omega
    rw [trunc_Fair_L1, ltI, decide_eq_true hk, if_pos rfl, wr_succ (by omega), idx_nat, getE hk]
    simp only [bind_some']
    rw [ea, e, ih _ (by split <;> omega), dropE hk, gr]

def inc : List Int → List Int → Int → List Int
  | a :: r, o :: os, left => if 0 < left ∧ o < ask a then (o + 1) :: inc r os (left - 1) else o :: inc r os left
  | _, os, _ => os
theorem inc_0 : ∀ (l os : List Int) (left : Int), left ≤ 0 → inc l os left = os
  | [], os, left, _ => by cases os <;> rfl
  | a :: r, [], left, _ => rfl
  | a :: r, o :: os, left, h => by rw [inc, if_neg (by omega), inc_0 r os left h]
theorem inc_len : ∀ (l os : List Int) (left : Int), (inc l os left).length = os.length
  | [], os, left => by cases os <;> rfl
  | a :: r, [], left => rfl
  | a :: r, o :: os, left => by rw [inc]; split <;> simp [inc_len]
theorem take_set {v : List Int} {k : Nat} {x : Int} : (v.set k x).take k = v.take k := by
  rw [List.take_set_of_le (Nat.le_refl _)]
theorem drop_set {v : List Int} {k : Nat} {x : Int} : (v.set k x).drop (k + 1) = v.drop (k + 1) := by
  rw [List.drop_set_of_lt (Nat.lt_succ_self _)]
theorem tIncL (l : List Int) (p1 : Int) (hl : l.length ≤ 1000000) (hla : ∀ n ∈ l, n ≤ 9223372036854775807) : ∀ k, k ≤ l.length → ∀ (v : List Int) (left : Int), v.length = l.length → (∀ x ∈ v, 0 ≤ x ∧ x ≤ 9223372036854775807) → left ≤ 9223372036854775807 → -1 ≤ left →
    trunc_Fair_L2 l p1 v left k = some (v.take k ++ inc (l.drop k) (v.drop k) left) := by
  refine upto (fun v left hv hx h1 h2 => ?_) fun k hk ih v left hv hx h1 h2 => ?_
  · rw [trunc_Fair_L2, ltI, decide_eq_false (by omega), if_neg (by decide), List.drop_length, List.take_of_length_le (by omega), List.drop_eq_nil_of_le (by omega)]
    simp [inc]
  · have hkv : k < v.length := by omega
    obtain ⟨x1, x2⟩ := hx v[k] (List.getElem_mem hkv)
    have hlk := hla l[k] (List.getElem_mem hk)
    have hak : ask l[k] ≤ 9223372036854775807 := by unfold ask; split <;> omega
    rw [trunc_Fair_L2, ltI, decide_eq_true hk, if_pos rfl, wr_succ (by omega)]
    simp only [idx_nat, getE hk, bind_some', getE hkv, Int.toNat_natCast]
    rw [dropE hk, dropE hkv, inc]
    have hcond : (decide (l[k] > v[k]) = true) ↔ v[k] < ask l[k] := by
      rw [decide_eq_true_iff]
      unfold ask; split <;> omega
    by_cases hleft : 0 < left
    · rw [decide_eq_true hleft, if_pos rfl, bind_some']
      by_cases hc : v[k] < ask l[k]
      · rw [hcond.2 hc, if_pos rfl, if_pos ⟨hleft, hc⟩, wr_in (n := v[k] + 1) (by omega) (by omega), wr_in (n := left - 1) (by omega) (by omega)]
        rw [ih (v.set k (v[k] + 1)) (left - 1) (by simpa using hv) (fun x hx' => by
          rcases List.mem_or_eq_of_mem_set hx' with h | rfl
          · exact hx x h
          · omega) (by omega) (by omega)]
        rw [drop_set, List.take_succ_eq_append_getElem (by simpa using hkv), take_set]
        simp
      · have : decide (l[k] > v[k]) = false := by
          cases hd : decide (l[k] > v[k]) with
          | false => rfl
          | true => exact absurd (hcond.1 hd) hc
        rw [this, if_neg (by decide), if_neg (fun h => hc h.2), ih v left hv hx h1 h2, List.take_succ_eq_append_getElem hkv, List.append_assoc]
        rfl
    · rw [decide_eq_false hleft, if_neg (by decide), bind_some', if_neg (by decide), if_neg (fun h => hleft h.1), ih v left hv hx h1 h2, List.take_succ_eq_append_getElem hkv, List.append_assoc]
      rfl
theorem rOutL (l : List Int) (e most : Int) (hl : l.length ≤ 1000000) (he : 0 ≤ e) (hm : most ≤ 9223372036854775807) : ∀ k, k ≤ l.length → ∀ (v : List Int) (left : Int), v.length = l.length → v.take k = (l.map (mn e)).take k → left ≤ most → tot e (l.drop k) ≤ left →
    R35_Fair_L3 l e v left k = some (l.map (mn e), left - tot e (l.drop k)) := by
  refine upto (fun v left hv h h1 h2 => ?_) fun k hk ih v left hv h h1 h2 => ?_
  · rw [R35_Fair_L3, ltI, decide_eq_false (by omega), if_neg (by decide), List.drop_length, tot, Int.sub_zero]
    rw [List.take_of_length_le (by omega), List.take_of_length_le (by simp)] at h
    rw [h]
  · have hkv : k < v.length := by omega
    have hmn := mn_nn he l[k]
    have ht := tot_nn he (l.drop (k + 1))
    rw [dropE hk, tot] at h2
    have em : (if e < ask l[k] then e else ask l[k]) = mn e l[k] := rfl
    rw [R35_Fair_L3, ltI, decide_eq_true hk, if_pos rfl, wr_succ (by omega)]
    simp only [idx_nat, getE hk, bind_some', getE hkv, Int.toNat_natCast, rAsk, em]
    rw [List.getElem?_set_self hkv, bind_some', wr_in (by omega) (by omega), ih (v.set k (mn e l[k])) (left - mn e l[k]) (by simpa using hv) (set_grow hk hv h) (by omega) (by omega), dropE hk, tot, Int.sub_sub]
theorem rIncL (l : List Int) (hl : l.length ≤ 1000000) (hla : ∀ n ∈ l, n ≤ 9223372036854775807) : ∀ k, k ≤ l.length → ∀ (v : List Int) (left : Int), v.length = l.length → (∀ x ∈ v, 0 ≤ x ∧ x ≤ 9223372036854775807) → left ≤ 9223372036854775807 → -1 ≤ left →
    R35_Fair_L4 l v left k = some (v.take k ++ inc (l.drop k) (v.drop k) left) := by
  refine upto (fun v left hv hx h1 h2 => ?_) fun k hk ih v left hv hx h1 h2 => ?_
  · rw [R35_Fair_L4, ltI, decide_eq_false (by omega), if_neg (by decide), bind_some', if_neg (by decide), List.drop_length, List.take_of_length_le (by omega), List.drop_eq_nil_of_le (by omega)]
    simp [inc]
  · have hkv : k < v.length := by omega
    obtain ⟨x1, x2⟩ := hx v[k] (List.getElem_mem hkv)
    have hlk := hla l[k] (List.getElem_mem hk)
    have hak : ask l[k] ≤ 9223372036854775807 := by unfold ask; split <;> omega
    rw [R35_Fair_L4, ltI, decide_eq_true hk, if_pos rfl, bind_some']
    by_cases hleft : 0 < left
    · rw [decide_eq_true hleft, if_pos rfl, wr_succ (by omega)]
      simp only [idx_nat, getE hk, bind_some', getE hkv, Int.toNat_natCast, rAsk]
      rw [dropE hk, dropE hkv, inc]
      by_cases hc : v[k] < ask l[k]
      · rw [decide_eq_true hc, if_pos rfl, if_pos ⟨hleft, hc⟩, wr_in (n := left - 1) (by omega) (by omega)]
        rw [wr_in (n := v[k] + 1) (by omega) (by omega), ih (v.set k (v[k] + 1)) (left - 1) (by simpa using hv) (fun x hx' => by
          rcases List.mem_or_eq_of_mem_set hx' with h | rfl
          · exact hx x h
          · omega) (by omega) (by omega)]
        rw [drop_set, List.take_succ_eq_append_getElem (by simpa using hkv), take_set]
        simp
      · rw [decide_eq_false hc, if_neg (by decide), if_neg (fun h => hc h.2), ih v left hv hx h1 h2, List.take_succ_eq_append_getElem hkv, List.append_assoc]
        rfl
    · rw [decide_eq_false hleft, if_neg (by decide), inc_0 _ _ _ (by omega), List.take_append_drop]
end Go.Proofs.YtebkhehjfkmdiaaDoor
end
