/- The proof's texts, part 8 of 10: the walks by a logic in which data are by value, the plain laws, and at the end the law, for every input. -/
import Derived.Test.YtagokkpnfceidaaDoorMgFoldLines7

section
set_option linter.unusedVariables false
set_option linter.unusedSimpArgs false
namespace Go.Proofs.YtagokkpnfceidaaDoor
open Go.RowKit

noncomputable def t_b64_Decode (y : (List UInt8) × Int) : D := .tup [.p (sV y.1), .p (iV y.2)]
noncomputable def b64_Decode_lv : List (Nat × List Nat) := [(0, [0]), (1, [0, 11]), (2, [2, 3]), (3, [0, 4]), (4, [0, 4, 5]), (5, [0, 4, 5, 15]), (6, [0, 4, 5]), (7, [0, 4, 5, 6, 7]), (8, [0, 4, 5, 6, 33]), (9, [2, 3]), (10, [0, 4, 5]), (11, [2, 3]), (1000005, [0, 4, 5])]
noncomputable def b64_Decode_L1_st (p0 : (List UInt8)) (v5 : Int) (h0_0 : Bool) (h0_1 : (List Int)) : St := ⟨[(0, .p (sV p0)), (4, .ptr 0 0), (5, .p (iV v5))], ⟨[[.sp Tryd.prog 44 h0_0 0 0, .own 0 5 1 (h0_1.map (cNum .u8))]], [(h0_1.map (cNum .u8)).length]⟩⟩
noncomputable def b64_Decode_L1_x0 (p0 : (List UInt8)) (y2 : Bool × (List Int)) : St := ⟨[(4, .ptr 0 0)], ⟨[[.sp Tryd.prog 44 y2.1 0 0, .own 0 5 1 (y2.2.map (cNum .u8))]], [(y2.2.map (cNum .u8)).length]⟩⟩
noncomputable def b64_Decode_L1_x1 (p0 : (List UInt8)) (y3 : Bool × (List Int)) : St := ⟨[(2, .p (sV [])), (3, .p (iV 7))], ⟨[[.sp Tryd.prog 44 y3.1 0 0, .own 0 5 1 (y3.2.map (cNum .u8))]], [(y3.2.map (cNum .u8)).length]⟩⟩
noncomputable def b64_Decode_L1_c : Code := ((loopsOf (Tryd.f66.body.getD .skip)).getD 0 .skip)
noncomputable def t_b64_Encode (y : (List UInt8)) : D := .p (sV y)
noncomputable def b64_Encode_lv : List (Nat × List Nat) := [(0, [0]), (1, [0, 3]), (2, [0, 3, 10]), (3, [0, 3, 4]), (4, [0, 3, 4, 5]), (5, [0, 3, 4, 5, 14]), (6, [0, 3, 4, 5, 14, 15]), (7, [0, 3, 4, 5, 6, 14]), (8, [0, 3, 4, 5, 6, 14]), (9, [0, 3, 4, 5, 6, 14, 21]), (10, [0, 3, 4, 5, 14]), (11, [0, 3, 4, 5, 14]), (12, [0, 3, 4, 5, 29]), (13, [0, 3, 4, 5, 29, 30]), (14, [0, 3, 4, 5, 7, 29]), (15, [0, 3, 4, 5, 7, 29, 34]), (16, [0, 3, 4, 5, 29]), (17, [0, 3, 4, 5, 29]), (18, [0, 3, 4, 5, 29]), (19, [0, 3]), (20, [2]), (1000002, [0, 3]), (1000006, [0, 3, 4, 5, 14]), (1000013, [0, 3, 4, 5, 29])]
noncomputable def b64_Encode_L2_st (v0 : (List UInt8)) (h0_0 : Bool) (h0_1 : (List Int)) (v5 : Int) (v14 : Int) : St := ⟨[(0, .p (sV v0)), (3, .ptr 0 0), (4, .p (iV (if (v0.length : Int) < (3 : Int) then (v0.length : Int) else (3 : Int)))), (5, .p (nV .u32 v5)), (14, .p (iV v14))], ⟨[[.sp Tryd.prog 44 h0_0 0 0, .own 0 5 1 (h0_1.map (cNum .u8))]], [(h0_1.map (cNum .u8)).length]⟩⟩
noncomputable def b64_Encode_L2_x0 (v0 : (List UInt8)) (h0_0 : Bool) (h0_1 : (List Int)) (o2 : Int) : St := ⟨[(0, .p (sV v0)), (3, .ptr 0 0), (4, .p (iV (if (v0.length : Int) < (3 : Int) then (v0.length : Int) else (3 : Int)))), (5, .p (nV .u32 o2))], ⟨[[.sp Tryd.prog 44 h0_0 0 0, .own 0 5 1 (h0_1.map (cNum .u8))]], [(h0_1.map (cNum .u8)).length]⟩⟩
noncomputable def b64_Encode_L2_c : Code := ((loopsOf (Tryd.f57.body.getD .skip)).getD 1 .skip)
noncomputable def b64_Encode_L3_st (v0 : (List UInt8)) (o2 : Int) (v29 : Int) (h0_0_ : Bool) (h0_1_ : (List Int)) : St := ⟨[(0, .p (sV v0)), (3, .ptr 0 0), (4, .p (iV (if (v0.length : Int) < (3 : Int) then (v0.length : Int) else (3 : Int)))), (5, .p (nV .u32 o2)), (29, .p (iV v29))], ⟨[[.sp Tryd.prog 44 h0_0_ 0 0, .own 0 5 1 (h0_1_.map (cNum .u8))]], [(h0_1_.map (cNum .u8)).length]⟩⟩
noncomputable def b64_Encode_L3_x0 (v0 : (List UInt8)) (o2 : Int) (o4 : Bool × (List Int)) : St := ⟨[(0, .p (sV v0)), (3, .ptr 0 0), (4, .p (iV (if (v0.length : Int) < (3 : Int) then (v0.length : Int) else (3 : Int))))], ⟨[[.sp Tryd.prog 44 o4.1 0 0, .own 0 5 1 (o4.2.map (cNum .u8))]], [(o4.2.map (cNum .u8)).length]⟩⟩
noncomputable def b64_Encode_L3_c : Code := ((loopsOf (Tryd.f57.body.getD .skip)).getD 2 .skip)
noncomputable def b64_Encode_L1_st  (v0 : (List UInt8)) (h0_0 : Bool) (h0_1 : (List Int)) : St := ⟨[(0, .p (sV v0)), (3, .ptr 0 0)], ⟨[[.sp Tryd.prog 44 h0_0 0 0, .own 0 5 1 (h0_1.map (cNum .u8))]], [(h0_1.map (cNum .u8)).length]⟩⟩
noncomputable def b64_Encode_L1_x0  (o1 : Bool × (List Int)) : St := ⟨[(3, .ptr 0 0)], ⟨[[.sp Tryd.prog 44 o1.1 0 0, .own 0 5 1 (o1.2.map (cNum .u8))]], [(o1.2.map (cNum .u8)).length]⟩⟩
noncomputable def b64_Encode_L1_c : Code := ((loopsOf (Tryd.f57.body.getD .skip)).getD 0 .skip)
noncomputable def t_b64_digit (y : Int) : D := .p (nV .u8 y)
noncomputable def t_b64_four (y : (List UInt8) × Bool) : D := .tup [.p (sV y.1), .p (bV y.2)]
noncomputable def b64_four_lv : List (Nat × List Nat) := [(0, [0, 1]), (1, [0, 1, 6]), (2, [0, 1, 6, 23]), (3, [0, 1, 6]), (4, [0, 6, 7]), (5, [0, 6, 7, 26]), (6, [0, 6, 7, 26, 27]), (7, [0, 6, 7, 8, 26]), (8, [0, 6, 7, 8, 26]), (9, [0, 6, 7, 8, 26, 33]), (10, [0, 6, 7, 9, 10, 26]), (11, [0, 6, 7, 9, 26, 42]), (12, [4, 5]), (13, [0, 6, 7, 26]), (14, [0, 6, 7, 26]), (15, [6, 7, 11]), (16, [4, 5]), (1000002, [0, 1, 6]), (1000006, [0, 6, 7, 26]), (3000002, [])]
noncomputable def b64_four_J0_0 (p0 : (List UInt8)) (p1 : Bool) (v6 : Int) (o2 : Bool) : St := ⟨[(0, .p (sV p0)), (1, .p (bV p1)), (6, .p (iV v6)), (23, .p (bV o2))], ⟨[], []⟩⟩
noncomputable def b64_four_L1_st (p0 : (List UInt8)) (p1 : Bool) (v6 : Int) : St := ⟨[(0, .p (sV p0)), (1, .p (bV p1)), (6, .p (iV v6))], ⟨[], []⟩⟩
noncomputable def b64_four_L1_x0 (p0 : (List UInt8)) (p1 : Bool) (o1 : Int) : St := ⟨[(0, .p (sV p0)), (6, .p (iV o1))], ⟨[], []⟩⟩
noncomputable def b64_four_L1_c : Code := ((loopsOf (Tryd.f101.body.getD .skip)).getD 0 .skip)
noncomputable def b64_four_L2_st (p0 : (List UInt8)) (o1 : Int) (v7 : Int) (v26 : Int) : St := ⟨[(0, .p (sV p0)), (6, .p (iV o1)), (7, .p (nV .u32 v7)), (26, .p (iV v26))], ⟨[], []⟩⟩
noncomputable def b64_four_L2_x0 (p0 : (List UInt8)) (o1 : Int) (y5 : Int) : St := ⟨[(6, .p (iV o1)), (7, .p (nV .u32 y5))], ⟨[], []⟩⟩
noncomputable def b64_four_L2_x1 (p0 : (List UInt8)) (o1 : Int) (y6 : Unit) : St := ⟨[(4, .p (sV [])), (5, .p (bV false))], ⟨[], []⟩⟩
noncomputable def b64_four_L2_c : Code := ((loopsOf (Tryd.f101.body.getD .skip)).getD 1 .skip)
noncomputable def t_b64_worth (y : Int × Bool) : D := .tup [.p (nV .u32 y.1), .p (bV y.2)]
noncomputable def b64_worth_lv : List (Nat × List Nat) := [(0, [0]), (1, [0, 4]), (2, [2, 3]), (3, [0, 14]), (4, [2, 3]), (5, [0, 25]), (6, [2, 3]), (7, [0, 36]), (8, [2, 3]), (9, [39]), (10, [2, 3]), (11, [2, 3]), (3000001, []), (3000003, []), (3000005, [])]
noncomputable def b64_worth_J0_0 (p0 : Int) (o1 : Bool) : St := ⟨[(0, .p (nV .u8 p0)), (4, .p (bV o1))], ⟨[], []⟩⟩
noncomputable def b64_worth_J1_0 (p0 : Int) (o2 : Bool) : St := ⟨[(0, .p (nV .u8 p0)), (14, .p (bV o2))], ⟨[], []⟩⟩
noncomputable def b64_worth_J2_0 (p0 : Int) (o3 : Bool) : St := ⟨[(0, .p (nV .u8 p0)), (25, .p (bV o3))], ⟨[], []⟩⟩
noncomputable def t_fold_Plain (y : Bool) : D := .p (bV y)
noncomputable def fold_Plain_lv : List (Nat × List Nat) := [(0, [0]), (1, [0, 7]), (2, [2]), (3, [0, 3]), (4, [0, 3, 9, 10]), (5, [0, 3, 9, 10, 11]), (6, [0, 3, 4, 9, 10]), (7, [0, 3, 4, 5, 9, 10]), (8, [0, 3, 5, 9, 10, 34]), (9, [2]), (10, [0, 3, 5, 9, 10]), (11, [0, 3, 9, 10, 38]), (12, [0, 3, 9, 10]), (13, [0, 3, 9, 10, 40]), (14, [2]), (15, [0, 3, 9, 10]), (16, [2]), (1000005, [0, 3, 9, 10]), (2010007, []), (3000008, [])]
noncomputable def fold_Plain_J0_0 (p0 : (List UInt8)) (v3 : Int) (v10 : Int) (x4 : UInt8) (o5 : Bool) : St := ⟨[(0, .p (sV p0)), (3, .p (iV v3)), (5, .p (nV .u8 (x4.toNat : Int))), (9, .p (iV (p0.length : Int))), (10, .p (iV v10)), (34, .p (bV o5))], ⟨[], []⟩⟩
noncomputable def fold_Plain_J1_0 (p0 : (List UInt8)) (v10 : Int) (o8 : Int) : St := ⟨[(0, .p (sV p0)), (3, .p (iV o8)), (9, .p (iV (p0.length : Int))), (10, .p (iV v10))], ⟨[], []⟩⟩
noncomputable def fold_Plain_L1_st (p0 : (List UInt8)) (v3 : Int) (v10 : Int) : St := ⟨[(0, .p (sV p0)), (3, .p (iV v3)), (9, .p (iV (p0.length : Int))), (10, .p (iV v10))], ⟨[], []⟩⟩
noncomputable def fold_Plain_L1_x0 (p0 : (List UInt8)) (y2 : Int) : St := ⟨[(3, .p (iV y2))], ⟨[], []⟩⟩
noncomputable def fold_Plain_L1_x1 (p0 : (List UInt8)) (y3 : Unit) : St := ⟨[(2, .p (bV false))], ⟨[], []⟩⟩
noncomputable def fold_Plain_L1_c : Code := ((loopsOf (Tryd.f12.body.getD .skip)).getD 0 .skip)
noncomputable def t_fold_Read (y : (List UInt8) × (List UInt8) × Int) : D := .tup [.p (sV y.1), .p (sV y.2.1), .p (iV y.2.2)]
noncomputable def fold_Read_lv : List (Nat × List Nat) := [(0, [0]), (1, [5, 6]), (2, [2, 6, 7, 8]), (3, [2, 7, 37]), (4, [2, 3, 4]), (5, [2, 7, 9]), (6, [2, 7, 9, 10, 11]), (7, [2, 9, 10, 11, 40, 41, 42]), (8, [2, 9, 10, 11, 40, 41, 42, 43]), (9, [2, 9, 10, 11, 13, 40, 41, 42]), (10, [2, 9, 10, 11, 13, 40, 41, 42, 47]), (11, [2, 9, 10, 11, 14, 15, 40, 41, 42]), (12, [2, 9, 14, 15, 40, 41, 42, 60]), (13, [2, 9, 14, 15, 40, 41, 42]), (14, [2, 9, 15, 40, 41, 42]), (15, [2, 9, 10, 11, 40, 41, 42]), (16, [2, 9, 10, 11, 40, 41, 42]), (17, [2, 3, 4]), (1000008, [2, 9, 10, 11, 40, 41, 42]), (3000003, []), (3000012, [])]
noncomputable def fold_Read_J0_0 (x2 : (List UInt8) × (List UInt8) × Bool) (o3 : Bool) : St := ⟨[(2, .p (sV x2.1)), (7, .p (sV x2.2.1)), (37, .p (bV o3))], ⟨[], []⟩⟩
noncomputable def fold_Read_J1_0 (x2 : (List UInt8) × (List UInt8) × Bool) (x6 : (List (List UInt8))) (v42 : Int) (h0_0 : Bool) (h0_1 : (List Int)) (x9 : (List UInt8) × Bool) (o10 : Bool) : St := ⟨[(2, .p (sV x2.1)), (9, .ptr 0 0), (14, .p (sV x9.1)), (15, .p (bV x9.2)), (40, .p (.sl false (x6.map cStr))), (41, .p (iV (x6.length : Int))), (42, .p (iV v42)), (60, .p (bV o10))], ⟨[[.sp Tryd.prog 44 h0_0 0 0, .own 0 5 1 (h0_1.map (cNum .u8))]], [(h0_1.map (cNum .u8)).length]⟩⟩
noncomputable def fold_Read_L1_st (x2 : (List UInt8) × (List UInt8) × Bool) (x6 : (List (List UInt8))) (v42 : Int) (v10 : Bool) (v11 : Bool) (h0_0 : Bool) (h0_1 : (List Int)) : St := ⟨[(2, .p (sV x2.1)), (9, .ptr 0 0), (10, .p (bV v10)), (11, .p (bV v11)), (40, .p (.sl false (x6.map cStr))), (41, .p (iV (x6.length : Int))), (42, .p (iV v42))], ⟨[[.sp Tryd.prog 44 h0_0 0 0, .own 0 5 1 (h0_1.map (cNum .u8))]], [(h0_1.map (cNum .u8)).length]⟩⟩
noncomputable def fold_Read_L1_x0 (x2 : (List UInt8) × (List UInt8) × Bool) (x6 : (List (List UInt8))) (o7 : Bool × (List Int)) : St := ⟨[(2, .p (sV x2.1)), (9, .ptr 0 0)], ⟨[[.sp Tryd.prog 44 o7.1 0 0, .own 0 5 1 (o7.2.map (cNum .u8))]], [(o7.2.map (cNum .u8)).length]⟩⟩
noncomputable def fold_Read_L1_c : Code := ((loopsOf (Tryd.f15.body.getD .skip)).getD 0 .skip)
noncomputable def t_fold_Write (y : (List UInt8) × Int) : D := .tup [.p (sV y.1), .p (iV y.2)]
noncomputable def fold_Write_lv : List (Nat × List Nat) := [(0, [0, 1, 7]), (1, [0, 1, 7, 10]), (2, [4, 5]), (3, [0, 1, 6, 7]), (4, [1, 6, 7]), (5, [6, 7, 20]), (6, [6, 7, 20]), (7, [6, 7, 20]), (8, [6]), (9, [4, 5]), (4000006, [6, 7, 20])]
noncomputable def fold_Write_L1_st (x3 : (List UInt8)) (h0_0 : Bool) (h0_1 : (List Int)) (h0_2 : Int) : St := ⟨[(6, .ptr 0 0), (20, .fn (.func 54) [] [.p (.ep [sV x3])])], ⟨[[.sp Tryd.prog 44 h0_0 0 0, .own 0 5 1 (h0_1.map (cNum .u8)), .p (iV h0_2)]], [(h0_1.map (cNum .u8)).length]⟩⟩
noncomputable def fold_Write_L1_x0 (x3 : (List UInt8)) (o8 : Bool × (List Int) × Int) : St := ⟨[(6, .ptr 0 0), (20, .fn (.func 54) [] [.p (.ep [sV x3])])], ⟨[[.sp Tryd.prog 44 o8.1 0 0, .own 0 5 1 (o8.2.1.map (cNum .u8)), .p (iV o8.2.2)]], [(o8.2.1.map (cNum .u8)).length]⟩⟩
noncomputable def fold_Write_L1_c : Code := ((loopsOf (Tryd.f10.body.getD .skip)).getD 0 .skip)
noncomputable def t_fold_blank (y : Bool) : D := .p (bV y)
noncomputable def fold_blank_lv : List (Nat × List Nat) := [(0, [0]), (1, [2]), (3000001, [])]
noncomputable def fold_blank_J0_0  (o1 : Bool) : St := ⟨[(2, .p (bV o1))], ⟨[], []⟩⟩
noncomputable def t_fold_decoded (y : (List UInt8) × Bool) : D := .tup [.p (sV y.1), .p (bV y.2)]
noncomputable def fold_decoded_lv : List (Nat × List Nat) := [(0, [0]), (1, [0, 4, 5]), (2, [0, 4, 5, 6]), (3, [0, 4, 24]), (4, [2, 3]), (5, [0, 7, 8]), (6, [0, 7, 37]), (7, [2, 3]), (8, [2, 3]), (3000003, []), (3000006, [])]
noncomputable def fold_decoded_J0_0 (p0 : (List UInt8)) (x2 : (List UInt8) × Bool) (o3 : Bool) : St := ⟨[(0, .p (sV p0)), (4, .p (sV x2.1)), (24, .p (bV o3))], ⟨[], []⟩⟩
noncomputable def fold_decoded_J1_0 (p0 : (List UInt8)) (x4 : (List UInt8) × Int) (o5 : Bool) : St := ⟨[(0, .p (sV p0)), (7, .p (sV x4.1)), (37, .p (bV o5))], ⟨[], []⟩⟩
noncomputable def t_fold_line (y : (List UInt8) × Bool) : D := .tup [.p (sV y.1), .p (bV y.2)]
noncomputable def fold_line_lv : List (Nat × List Nat) := [(0, [0]), (1, [0, 4]), (2, [0, 13]), (3, [2, 3]), (4, [0, 5]), (5, [0, 5, 6]), (6, [0, 5, 6, 17]), (7, [0, 5, 6]), (8, [0, 5, 6, 36]), (9, [0, 5, 6]), (10, [0, 5, 6, 48]), (11, [2, 3]), (12, [0, 5, 6]), (13, [2, 3]), (1000006, [0, 5, 6]), (3000008, []), (3000010, [])]
noncomputable def fold_line_J0_0 (x1 : (List UInt8) × Bool) (v6 : Int) (h0_0 : Bool) (h0_1 : (List Int)) (o5 : Bool) : St := ⟨[(0, .p (sV x1.1)), (5, .ptr 0 0), (6, .p (iV v6)), (36, .p (bV o5))], ⟨[[.sp Tryd.prog 44 h0_0 0 0, .own 0 5 1 (h0_1.map (cNum .u8))]], [(h0_1.map (cNum .u8)).length]⟩⟩
noncomputable def fold_line_J1_0 (x1 : (List UInt8) × Bool) (v6 : Int) (h0_0 : Bool) (h0_1 : (List Int)) (o9 : Bool) : St := ⟨[(0, .p (sV x1.1)), (5, .ptr 0 0), (6, .p (iV v6)), (48, .p (bV o9))], ⟨[[.sp Tryd.prog 44 h0_0 0 0, .own 0 5 1 (h0_1.map (cNum .u8))]], [(h0_1.map (cNum .u8)).length]⟩⟩
noncomputable def fold_line_L1_st (x1 : (List UInt8) × Bool) (v6 : Int) (h0_0 : Bool) (h0_1 : (List Int)) : St := ⟨[(0, .p (sV x1.1)), (5, .ptr 0 0), (6, .p (iV v6))], ⟨[[.sp Tryd.prog 44 h0_0 0 0, .own 0 5 1 (h0_1.map (cNum .u8))]], [(h0_1.map (cNum .u8)).length]⟩⟩
noncomputable def fold_line_L1_x0 (x1 : (List UInt8) × Bool) (y3 : Bool × (List Int)) : St := ⟨[(5, .ptr 0 0)], ⟨[[.sp Tryd.prog 44 y3.1 0 0, .own 0 5 1 (y3.2.map (cNum .u8))]], [(y3.2.map (cNum .u8)).length]⟩⟩
noncomputable def fold_line_L1_x1 (x1 : (List UInt8) × Bool) (y4 : Bool × (List Int)) : St := ⟨[(2, .p (sV [])), (3, .p (bV false))], ⟨[[.sp Tryd.prog 44 y4.1 0 0, .own 0 5 1 (y4.2.map (cNum .u8))]], [(y4.2.map (cNum .u8)).length]⟩⟩
noncomputable def fold_line_L1_c : Code := ((loopsOf (Tryd.f34.body.getD .skip)).getD 0 .skip)
noncomputable def t_fold_lines_put_2 (_ : Bool × (List Int) × Int) : D := .tup []
noncomputable def fold_lines_put_2_lv : List (Nat × List Nat) := [(0, [0, 1, 11]), (1, [0, 1]), (2, [0, 1]), (3, [0, 1]), (4, []), (2000007, [])]
noncomputable def fold_lines_put_2_J0_0 (p1 : (List UInt8)) (o1 : Bool × (List Int) × Int) : St := ⟨[(0, .ptr 0 0), (1, .p (sV p1))], ⟨[[.sp Tryd.prog 44 o1.1 0 0, .own 0 5 1 (o1.2.1.map (cNum .u8)), .p (iV o1.2.2)]], [(o1.2.1.map (cNum .u8)).length]⟩⟩
noncomputable def t_fold_name (y : Bool) : D := .p (bV y)
noncomputable def fold_name_lv : List (Nat × List Nat) := [(0, [0]), (1, [0, 6, 7]), (2, [0, 6, 7, 8]), (3, [0, 3, 6, 7]), (4, [0, 4, 6, 7]), (5, [0, 6, 7, 32]), (6, [2]), (7, [0, 6, 7]), (8, [2]), (1000002, [0, 6, 7]), (3000005, []), (3000008, [])]
noncomputable def fold_name_J0_0 (p0 : (List UInt8)) (v7 : Int) (o5 : Bool) : St := ⟨[(0, .p (sV p0)), (6, .p (iV (p0.length : Int))), (7, .p (iV v7)), (32, .p (bV o5))], ⟨[], []⟩⟩
noncomputable def fold_name_L1_st (p0 : (List UInt8)) (v7 : Int) : St := ⟨[(0, .p (sV p0)), (6, .p (iV (p0.length : Int))), (7, .p (iV v7))], ⟨[], []⟩⟩
noncomputable def fold_name_L1_x0 (p0 : (List UInt8)) (y2 : Unit) : St := ⟨[(0, .p (sV p0))], ⟨[], []⟩⟩
noncomputable def fold_name_L1_x1 (p0 : (List UInt8)) (y3 : Unit) : St := ⟨[(2, .p (bV false))], ⟨[], []⟩⟩
noncomputable def fold_name_L1_c : Code := ((loopsOf (Tryd.f25.body.getD .skip)).getD 0 .skip)
noncomputable def fold_name_J1_0  (o6 : Bool) : St := ⟨[(2, .p (bV o6))], ⟨[], []⟩⟩
noncomputable def t_fold_words (y : (List UInt8)) : D := .fn (.func 54) [] [.p (.ep [sV y])]
noncomputable def fold_words_lv : List (Nat × List Nat) := [(0, [1]), (1, [2])]
noncomputable def e_fold_words_1 (y : (List UInt8)) : List V := [sV y]
noncomputable def fold_words_1_lv : List (Nat × List Nat) := [(0, [0, 1, 10]), (1, [0, 1, 12]), (2, [0, 14, 15, 16]), (3, [0, 14, 15, 16, 17]), (4, [0, 4, 14, 15, 16]), (5, [0, 14, 15, 16, 23]), (6, [0, 14, 15, 16]), (7, [0, 1, 5]), (8, [0, 5, 26, 27, 28]), (9, [0, 5, 26, 27, 28, 29]), (10, [0, 5, 7, 26, 27, 28]), (11, [0, 5, 8, 26, 27, 28]), (12, [0, 5, 8, 26, 27, 28, 39]), (13, [0, 8, 26, 27, 28, 46]), (14, [0, 5, 8, 26, 27, 28]), (15, [0, 5, 26, 27, 28]), (16, [0, 5, 26, 27, 28]), (17, []), (1000003, [0, 14, 15, 16]), (1000009, [0, 5, 26, 27, 28]), (2012011, [])]
noncomputable def fold_words_1_L1_st (x2 : (List (List UInt8))) (v16 : Int) (gxs gp : List (List V)) : St := ⟨[(0, .yld Tryd.prog 0 gxs), (14, .p (.sl false (x2.map cStr))), (15, .p (iV (x2.length : Int))), (16, .p (iV v16))], ⟨[], [gp.length]⟩⟩
noncomputable def fold_words_1_L1_x0 (x2 : (List (List UInt8))) (gxs : List (List V)) (gq3 : List (List V)) (oy : Unit) : St := ⟨[], ⟨[], [gq3.length]⟩⟩
noncomputable def fold_words_1_L1_c : Code := ((loopsOf (Tryd.f54.body.getD .skip)).getD 0 .skip)
noncomputable def fold_words_1_J0_0 (x6 : (List Int)) (v28 : Int) (x10 : (List UInt8)) (gxs : List (List V)) (gq11 : List (List V)) (oy : (List UInt8)) : St := ⟨[(0, .yld Tryd.prog 0 gxs), (5, .p (sV oy)), (8, .p (sV x10)), (26, .p (.sl false (x6.map (cNum .i32)))), (27, .p (iV (x6.length : Int))), (28, .p (iV v28))], ⟨[], [gq11.length]⟩⟩
noncomputable def fold_words_1_L2_st (x6 : (List Int)) (v5 : (List UInt8)) (v28 : Int) (gxs gp : List (List V)) : St := ⟨[(0, .yld Tryd.prog 0 gxs), (5, .p (sV v5)), (26, .p (.sl false (x6.map (cNum .i32)))), (27, .p (iV (x6.length : Int))), (28, .p (iV v28))], ⟨[], [gp.length]⟩⟩
noncomputable def fold_words_1_L2_x0 (x6 : (List Int)) (gxs : List (List V)) (gq7 : List (List V)) (oy : (List UInt8)) : St := ⟨[(0, .yld Tryd.prog 0 gxs), (5, .p (sV oy))], ⟨[], [gq7.length]⟩⟩
noncomputable def fold_words_1_L2_c : Code := ((loopsOf (Tryd.f54.body.getD .skip)).getD 1 .skip)
noncomputable def t_internal_stringslite_Cut (y : (List UInt8) × (List UInt8) × Bool) : D := .tup [.p (sV y.1), .p (sV y.2.1), .p (bV y.2.2)]
noncomputable def internal_stringslite_Cut_lv : List (Nat × List Nat) := [(0, [0, 1]), (1, [0, 1, 7]), (2, [0, 1, 7, 12]), (3, [4, 5, 6]), (4, [4, 5, 6])]
noncomputable def t_internal_stringslite_CutPrefix (y : (List UInt8) × Bool) : D := .tup [.p (sV y.1), .p (bV y.2)]
noncomputable def internal_stringslite_CutPrefix_lv : List (Nat × List Nat) := [(0, [0, 1]), (1, [0, 1, 9]), (2, [4, 5]), (3, [4, 5])]
noncomputable def t_internal_stringslite_CutSuffix (y : (List UInt8) × Bool) : D := .tup [.p (sV y.1), .p (bV y.2)]
noncomputable def internal_stringslite_CutSuffix_lv : List (Nat × List Nat) := [(0, [0, 1]), (1, [0, 1, 9]), (2, [4, 5]), (3, [4, 5])]
noncomputable def t_internal_stringslite_HasPrefix (y : Bool) : D := .p (bV y)
noncomputable def internal_stringslite_HasPrefix_lv : List (Nat × List Nat) := [(0, [0, 1]), (1, [4]), (3000001, [])]
noncomputable def internal_stringslite_HasPrefix_J0_0  (o1 : Bool) : St := ⟨[(4, .p (bV o1))], ⟨[], []⟩⟩
noncomputable def t_internal_stringslite_HasSuffix (y : Bool) : D := .p (bV y)
noncomputable def internal_stringslite_HasSuffix_lv : List (Nat × List Nat) := [(0, [0, 1]), (1, [4]), (3000001, [])]
noncomputable def internal_stringslite_HasSuffix_J0_0  (o1 : Bool) : St := ⟨[(4, .p (bV o1))], ⟨[], []⟩⟩
noncomputable def t_internal_stringslite_Index (y : Int) : D := .p (iV y)
noncomputable def t_nunciolaw09_FoldLines (y : Bool) : D := .p (bV y)
noncomputable def nunciolaw09_FoldLines_lv : List (Nat × List Nat) := [(0, [0, 1]), (1, [5, 6]), (2, [5, 18]), (3, [4]), (4, [5, 7]), (5, [5, 7, 8]), (6, [5, 7, 8, 23]), (7, [5, 7, 8]), (8, [5, 7, 8, 35]), (9, [5, 8, 67]), (10, [4]), (11, [5, 8]), (12, [5, 7, 8]), (13, [5, 7, 8]), (14, [5, 7, 8, 85]), (15, [4]), (16, [4]), (1000006, [5, 7, 8]), (3000008, []), (3000009, []), (3000014, []), (3000016, [])]
noncomputable def nunciolaw09_FoldLines_J0_0 (x3 : (List UInt8) × Int) (v8 : Int) (v7 : Int) (o8 : Bool) : St := ⟨[(5, .p (sV x3.1)), (7, .p (iV v7)), (8, .p (iV v8)), (35, .p (bV o8))], ⟨[], []⟩⟩
noncomputable def nunciolaw09_FoldLines_J1_0 (x3 : (List UInt8) × Int) (v8 : Int) (o11 : Bool) : St := ⟨[(5, .p (sV x3.1)), (8, .p (iV v8)), (67, .p (bV o11))], ⟨[], []⟩⟩
noncomputable def nunciolaw09_FoldLines_J2_0 (x3 : (List UInt8) × Int) (v8 : Int) (v7 : Int) (o15 : Bool) : St := ⟨[(5, .p (sV x3.1)), (7, .p (iV (wr (v7 + 1)))), (8, .p (iV v8)), (85, .p (bV o15))], ⟨[], []⟩⟩
noncomputable def nunciolaw09_FoldLines_L1_st (x3 : (List UInt8) × Int) (v8 : Int) (v7 : Int) : St := ⟨[(5, .p (sV x3.1)), (7, .p (iV v7)), (8, .p (iV v8))], ⟨[], []⟩⟩
noncomputable def nunciolaw09_FoldLines_L1_x0 (x3 : (List UInt8) × Int) (y6 : Int) : St := ⟨[(7, .p (iV y6))], ⟨[], []⟩⟩
noncomputable def nunciolaw09_FoldLines_L1_x1 (x3 : (List UInt8) × Int) (y7 : Unit) : St := ⟨[(4, .p (bV false))], ⟨[], []⟩⟩
noncomputable def nunciolaw09_FoldLines_L1_c : Code := ((loopsOf (Tryd.f6.body.getD .skip)).getD 0 .skip)
noncomputable def nunciolaw09_FoldLines_J3_0  (o18 : Bool) : St := ⟨[(4, .p (bV o18))], ⟨[], []⟩⟩
noncomputable def t_nunciolaw09_awake (y : Bool) : D := .p (bV y)
noncomputable def nunciolaw09_awake_lv : List (Nat × List Nat) := [(0, []), (1, [1, 2]), (2, [1, 2, 3, 4]), (3, [1, 2, 3, 4, 5, 6, 7]), (4, [0]), (3000004, [])]
noncomputable def nunciolaw09_awake_J0_0  (o4 : Bool) : St := ⟨[(0, .p (bV o4))], ⟨[], []⟩⟩
noncomputable def t_nunciolaw09_few (y : (List UInt8)) : D := .p (sV y)
noncomputable def nunciolaw09_few_lv : List (Nat × List Nat) := [(0, [0]), (1, [2])]
noncomputable def t_octet_Begins (y : Bool) : D := .p (bV y)
noncomputable def octet_Begins_lv : List (Nat × List Nat) := [(0, [0, 1, 2]), (1, [6]), (3000001, [])]
noncomputable def octet_Begins_J0_0  (o1 : Bool) : St := ⟨[(6, .p (bV o1))], ⟨[], []⟩⟩
noncomputable def t_octet_Cut (y : (List (List UInt8))) : D := .p (.sl false (y.map cStr))
noncomputable def t_strings_Builder_String_3 (y : (List UInt8)) : D := .p (sV y)
noncomputable def t_strings_Builder_String_4 (y : (List UInt8)) : D := .p (sV y)
noncomputable def t_strings_Builder_WriteByte_2 (y : Unit × Bool × (List Int)) : D := .p (.v .nilIface)
noncomputable def strings_Builder_WriteByte_2_lv : List (Nat × List Nat) := [(0, [0, 1]), (1, [0, 1]), (2, []), (3, [4])]
noncomputable def t_strings_Builder_WriteString (y : Int × Unit × Bool × (List Int)) : D := .tup [.p (iV y.1), .p (.v .nilIface)]
noncomputable def strings_Builder_WriteString_lv : List (Nat × List Nat) := [(0, [0, 1]), (1, [0, 1]), (2, [1]), (3, [4, 5])]
noncomputable def t_strings_Builder_WriteString_3 (y : Int × Unit × Bool × (List Int)) : D := .tup [.p (iV y.1), .p (.v .nilIface)]
noncomputable def strings_Builder_WriteString_3_lv : List (Nat × List Nat) := [(0, [0, 1]), (1, [0, 1]), (2, [1]), (3, [4, 5])]
noncomputable def t_strings_Builder_WriteString_4 (y : Int × Unit × Bool × (List Int)) : D := .tup [.p (iV y.1), .p (.v .nilIface)]
noncomputable def strings_Builder_WriteString_4_lv : List (Nat × List Nat) := [(0, [0, 1]), (1, [0, 1]), (2, [1]), (3, [4, 5])]
noncomputable def t_strings_Builder_WriteString_5 (y : Int × Unit × Bool × (List Int)) : D := .tup [.p (iV y.1), .p (.v .nilIface)]
noncomputable def strings_Builder_WriteString_5_lv : List (Nat × List Nat) := [(0, [0, 1]), (1, [0, 1]), (2, [1]), (3, [4, 5])]
noncomputable def t_strings_Builder_copyCheck (_ : Bool) : D := .tup []
noncomputable def t_strings_Builder_copyCheck_2 (_ : Bool) : D := .tup []
noncomputable def t_strings_Builder_copyCheck_4 (_ : Bool) : D := .tup []
noncomputable def t_strings_Builder_copyCheck_5 (_ : Bool) : D := .tup []
noncomputable def t_strings_Cut (y : (List UInt8) × (List UInt8) × Bool) : D := .tup [.p (sV y.1), .p (sV y.2.1), .p (bV y.2.2)]
noncomputable def strings_Cut_lv : List (Nat × List Nat) := [(0, [0, 1]), (1, [4, 5, 6])]
noncomputable def t_strings_CutPrefix (y : (List UInt8) × Bool) : D := .tup [.p (sV y.1), .p (bV y.2)]
noncomputable def strings_CutPrefix_lv : List (Nat × List Nat) := [(0, [0, 1]), (1, [4, 5])]
noncomputable def t_strings_CutSuffix (y : (List UInt8) × Bool) : D := .tup [.p (sV y.1), .p (bV y.2)]
noncomputable def strings_CutSuffix_lv : List (Nat × List Nat) := [(0, [0, 1]), (1, [4, 5])]
noncomputable def t_strings_HasPrefix (y : Bool) : D := .p (bV y)
noncomputable def strings_HasPrefix_lv : List (Nat × List Nat) := [(0, [0, 1]), (1, [4])]
noncomputable def t_strings_ReplaceAll (y : (List UInt8)) : D := .p (sV y)
noncomputable def t_utf_Bytes (y : (List UInt8)) : D := .p (sV y)
noncomputable def t_utf_Is (y : Bool) : D := .p (bV y)
noncomputable def utf_Is_lv : List (Nat × List Nat) := [(0, [0, 2, 3, 4]), (1, [2, 3, 4, 6]), (2, [2, 3, 6, 8]), (3, [2, 3, 4, 6]), (4, [2, 3, 4, 6, 14]), (5, [2]), (6, [2]), (4000002, [2, 3, 4, 6]), (3000004, [])]
noncomputable def utf_Is_J0_0 (x1 : (List UInt8)) (x2 : (Int × Int)) (o9 : Bool) : St := ⟨[(2, .ptr 0 0), (3, .p (nV .i32 x2.1)), (4, .p (iV x2.2)), (6, .fn (.func 117) [] [.p (.ep [sV x1])]), (14, .p (bV o9))], ⟨[[.p (bV false)]], []⟩⟩
noncomputable def utf_Is_L1_st (x1 : (List UInt8)) : St := ⟨[(2, .ptr 0 0), (6, .fn (.func 117) [] [.p (.ep [sV x1])])], ⟨[[.p (bV false)]], []⟩⟩
noncomputable def utf_Is_L1_x0 (x1 : (List UInt8)) (y7 : Unit) : St := ⟨[(2, .ptr 0 0), (6, .fn (.func 117) [] [.p (.ep [sV x1])])], ⟨[[.p (bV false)]], []⟩⟩
noncomputable def utf_Is_L1_x1 (x1 : (List UInt8)) (y8 : Unit) : St := ⟨[(2, .ptr 0 0)], ⟨[[.p (bV false)]], []⟩⟩
noncomputable def utf_Is_L1_c : Code := ((loopsOf (Tryd.f67.body.getD .skip)).getD 0 .skip)
noncomputable def t_utf_Next (y : Int × Int) : D := .tup [.p (nV .i32 y.1), .p (iV y.2)]
noncomputable def utf_Next_lv : List (Nat × List Nat) := [(0, [0, 1]), (1, [0, 1, 17]), (2, [4, 5]), (3, [0, 1, 6]), (4, [4, 5]), (5, [0, 1, 6, 21]), (6, [4, 5]), (7, [0, 1, 6, 26]), (8, [0, 1, 4, 7, 8]), (9, [0, 1, 6, 36]), (10, [0, 1, 4, 7, 8]), (11, [0, 1, 6, 46]), (12, [0, 1, 4, 7, 8]), (13, [4, 7, 8, 9]), (14, [4, 8, 77]), (15, [4, 5]), (16, [4, 5]), (2004022, []), (3000001, []), (3000007, []), (3000009, []), (3000011, []), (3000014, [])]
noncomputable def utf_Next_J0_0 (p0 : (List UInt8)) (p1 : Int) (o1 : Bool) : St := ⟨[(0, .p (sV p0)), (1, .p (iV p1)), (17, .p (bV o1))], ⟨[], []⟩⟩
noncomputable def utf_Next_J1_0 (p0 : (List UInt8)) (p1 : Int) (y4 : Int × Int × Int) : St := ⟨[(0, .p (sV p0)), (1, .p (iV p1)), (4, .p (nV .i32 y4.1)), (7, .p (nV .i32 y4.2.1)), (8, .p (iV y4.2.2))], ⟨[], []⟩⟩
noncomputable def utf_Next_J1_1 (p0 : (List UInt8)) (p1 : Int) (y5 : Int) : St := ⟨[(4, .p (nV .i32 y5)), (5, .p (iV 1))], ⟨[], []⟩⟩
noncomputable def utf_Next_J2_0 (p0 : (List UInt8)) (p1 : Int) (x2 : UInt8) (o6 : Bool) : St := ⟨[(0, .p (sV p0)), (1, .p (iV p1)), (6, .p (nV .u8 (x2.toNat : Int))), (26, .p (bV o6))], ⟨[], []⟩⟩
noncomputable def utf_Next_J3_0 (p0 : (List UInt8)) (p1 : Int) (x2 : UInt8) (o7 : Bool) : St := ⟨[(0, .p (sV p0)), (1, .p (iV p1)), (6, .p (nV .u8 (x2.toNat : Int))), (36, .p (bV o7))], ⟨[], []⟩⟩
noncomputable def utf_Next_J4_0 (p0 : (List UInt8)) (p1 : Int) (x2 : UInt8) (o8 : Bool) : St := ⟨[(0, .p (sV p0)), (1, .p (iV p1)), (6, .p (nV .u8 (x2.toNat : Int))), (46, .p (bV o8))], ⟨[], []⟩⟩
noncomputable def utf_Next_J5_0 (y4 : Int × Int × Int) (x10 : Int × Bool) (o11 : Bool) : St := ⟨[(4, .p (nV .i32 x10.1)), (8, .p (iV y4.2.2)), (77, .p (bV o11))], ⟨[], []⟩⟩
noncomputable def t_utf_Runes (y : (List Int)) : D := .p (.sl false (y.map (cNum .i32)))
noncomputable def utf_Runes_lv : List (Nat × List Nat) := [(0, [0, 4]), (1, [0, 3, 4]), (2, [3, 4, 6]), (3, [3, 4, 6]), (4, [3, 4, 6]), (5, [2]), (4000003, [3, 4, 6])]
noncomputable def utf_Runes_L1_st (x1 : (List UInt8)) (h0_0 : (List Int)) : St := ⟨[(3, .ptr 0 0), (6, .fn (.func 117) [] [.p (.ep [sV x1])])], ⟨[[.own 0 21 1 (h0_0.map (cNum .i32))]], [(h0_0.map (cNum .i32)).length]⟩⟩
noncomputable def utf_Runes_L1_x0 (x1 : (List UInt8)) (o6 : (List Int)) : St := ⟨[(3, .ptr 0 0), (6, .fn (.func 117) [] [.p (.ep [sV x1])])], ⟨[[.own 0 21 1 (o6.map (cNum .i32))]], [(o6.map (cNum .i32)).length]⟩⟩
noncomputable def utf_Runes_L1_c : Code := ((loopsOf (Tryd.f55.body.getD .skip)).getD 0 .skip)
noncomputable def t_utf_all (y : (List UInt8)) : D := .fn (.func 117) [] [.p (.ep [sV y])]
noncomputable def utf_all_lv : List (Nat × List Nat) := [(0, [1]), (1, [2])]
noncomputable def e_utf_all_1 (y : (Int × Int)) : List V := [nV .i32 y.1, iV y.2]
noncomputable def utf_all_1_lv : List (Nat × List Nat) := [(0, [0, 1, 3]), (1, [0, 1, 3, 9]), (2, [0, 1, 3, 4, 5]), (3, [0, 1, 3, 5, 20]), (4, [0, 1, 3]), (1000001, [0, 1, 3])]
noncomputable def utf_all_1_L1_st (p0 : (List UInt8)) (v3 : Int) (gxs gp : List (List V)) : St := ⟨[(0, .yld Tryd.prog 0 gxs), (1, .p (.ep [sV p0])), (3, .p (iV v3))], ⟨[], [gp.length]⟩⟩
noncomputable def utf_all_1_L1_x0 (p0 : (List UInt8)) (gxs : List (List V)) (gq1 : List (List V)) (oy : Unit) : St := ⟨[], ⟨[], [gq1.length]⟩⟩
noncomputable def utf_all_1_L1_c : Code := ((loopsOf (Tryd.f117.body.getD .skip)).getD 0 .skip)
noncomputable def t_utf_is (y : Bool) : D := .p (bV y)
noncomputable def utf_is_lv : List (Nat × List Nat) := [(0, [0]), (1, [2]), (3000001, [])]
noncomputable def utf_is_J0_0  (o1 : Bool) : St := ⟨[(2, .p (bV o1))], ⟨[], []⟩⟩
noncomputable def t_utf_tail (y : Int × Bool) : D := .tup [.p (nV .i32 y.1), .p (bV y.2)]
noncomputable def utf_tail_lv : List (Nat × List Nat) := [(0, [0, 1, 2]), (1, [0, 1, 2, 12]), (2, [6, 7]), (3, [0, 1, 13, 14]), (4, [0, 1, 13, 14, 15]), (5, [0, 1, 8, 13, 14]), (6, [0, 1, 8, 13, 14, 21]), (7, [6, 7]), (8, [0, 1, 13, 14]), (9, [0, 1, 13, 14]), (10, [6, 7]), (1000004, [0, 1, 13, 14])]
noncomputable def utf_tail_L1_st (p0 : (List UInt8)) (p2 : Int) (v1 : Int) (v14 : Int) : St := ⟨[(0, .p (sV p0)), (1, .p (nV .i32 v1)), (13, .p (iV p2)), (14, .p (iV v14))], ⟨[], []⟩⟩
noncomputable def utf_tail_L1_x0 (p0 : (List UInt8)) (p2 : Int) (y2 : Int) : St := ⟨[(1, .p (nV .i32 y2))], ⟨[], []⟩⟩
noncomputable def utf_tail_L1_x1 (p0 : (List UInt8)) (p2 : Int) (y3 : Unit) : St := ⟨[(6, .p (nV .i32 0)), (7, .p (bV false))], ⟨[], []⟩⟩
noncomputable def utf_tail_L1_c : Code := ((loopsOf (Tryd.f147.body.getD .skip)).getD 0 .skip)
noncomputable def b64_four_L1 (p0 : (List UInt8)) (p1 : Bool) (v6 : Int) : Option (Int) :=
  ( if p1 then
      if (decide (v6 > 2)) then
        idx p0 (wr (v6 - 1)) >>= fun x3 =>
        some ((x3.toNat : Int) == 61)
      else
        some false
    else
      some false : Option (Bool)) >>= fun o2 =>
  if o2 then
    b64_four_L1 p0 p1 (wr (v6 - 1))
  else
    some v6
  partial_fixpoint
set_option maxRecDepth 100000 in
set_option maxHeartbeats 4000000 in
theorem b64_four_L1_grp : ∀ (p0 : (List UInt8)) (p1 : Bool), (∀ (v6 : Int) (o1 : Int), b64_four_L1 p0 p1 v6 = some o1 → TL (0, 0) Tryd.prog 69 b64_four_L1_c (JP1 (0, 0) 69 o1 (.exit 0) (b64_four_L1_x0 p0 p1)) (b64_four_L1_st p0 p1 v6)) := by
  intro p0 p1
  refine b64_four_L1.partial_correctness p0 p1 _ ?_
  intro b64_four_L1' ih_b64_four_L1 v6 o1 h
  refine TL.round (bwp_sound mixed tbOk (lv := b64_four_lv) _ _ _ ?_)
  refine st_bind h (fun o2 ho hk => ?_)
  refine Exists.intro (JP1 _ _ o2 .normal (b64_four_J0_0 p0 p1 v6)) (And.intro ?_ (join1 ?_))
  · have h := ho
    refine st_test h (fun hb h => ?_) (fun hb h => ?_)
    · refine st_test h (fun hb h => ?_) (fun hb h => ?_)
      · refine st_sidx h (fun x3 hi h => ?_)
        refine JP1.a h ?_
        exact Le.tow 0 0 rfl (.cons rfl (.refl _) (.cons rfl (.refl _) (.cons rfl (.refl _) (.cons rfl (.refl _) (.nil))))) (.refl _) rfl
      · refine JP1.a h ?_
        exact Le.tow 0 0 rfl (.cons rfl (.refl _) (.cons rfl (.refl _) (.cons rfl (.refl _) (.cons rfl (.refl _) (.nil))))) (.refl _) rfl
    · refine bF ?_
      refine JP1.a h ?_
      exact Le.tow 0 0 rfl (.cons rfl (.refl _) (.cons rfl (.refl _) (.cons rfl (.refl _) (.cons rfl (.refl _) (.nil))))) (.refl _) rfl
  · have h := hk
    refine st_test h (fun hb h => ?_) (fun hb h => ?_)
    · refine TL.le (τ := b64_four_L1_st p0 p1 (wr (v6 - 1))) ?_ ((ih_b64_four_L1 (wr (v6 - 1)) _ h))
      exact Le.tow 0 0 rfl (.cons rfl (.refl _) (.cons rfl (.refl _) (.cons rfl (.refl _) (.nil)))) (.refl _) rfl
    · exact JP1.a h (Le.tow 0 0 rfl (.cons rfl (.refl _) (.cons rfl (.refl _) (.nil))) (.refl _) rfl)
theorem b64_four_L1_ok : ∀ (p0 : (List UInt8)) (p1 : Bool) (v6 : Int) (o1 : Int), b64_four_L1 p0 p1 v6 = some o1 → TL (0, 0) Tryd.prog 69 b64_four_L1_c (JP1 (0, 0) 69 o1 (.exit 0) (b64_four_L1_x0 p0 p1)) (b64_four_L1_st p0 p1 v6) := fun p0 p1 v6 o1 h => (b64_four_L1_grp p0 p1) v6 o1 h
noncomputable def b64_worth (p0 : Int) : Option (Int × Bool) :=
  ( if (decide (p0 ≥ 65)) then
      some (decide (p0 ≤ 90))
    else
      some false : Option (Bool)) >>= fun o1 =>
  if o1 then
    some ((IntKind.u32.wrap (IntKind.u8.wrap (p0 - 65))), true)
  else
    ( if (decide (p0 ≥ 97)) then
        some (decide (p0 ≤ 122))
      else
        some false : Option (Bool)) >>= fun o2 =>
    if o2 then
      some ((IntKind.u32.wrap ((IntKind.u32.wrap (IntKind.u8.wrap (p0 - 97))) + 26)), true)
    else
      ( if (decide (p0 ≥ 48)) then
          some (decide (p0 ≤ 57))
        else
          some false : Option (Bool)) >>= fun o3 =>
      if o3 then
        some ((IntKind.u32.wrap ((IntKind.u32.wrap (IntKind.u8.wrap (p0 - 48))) + 52)), true)
      else
        if (p0 == 43) then
          some (62, true)
        else
          if (p0 == 47) then
            some (63, true)
          else
            some (0, false)
set_option maxRecDepth 100000 in
set_option maxHeartbeats 4000000 in
theorem b64_worth_ok : ∀ (p0 : Int) (o : Int × Bool), b64_worth p0 = some o → PCall Tryd.prog 130 [nV .u8 p0] (t_b64_worth o) := by
  intro p0 o h
  unfold b64_worth at h
  refine PCall.ofB mixed tbOk b64_worth_lv Tryd.func130 rfl (by kernel_rfl) (Nat.le_of_ble_eq_true rfl) ?_
  refine st_bind h (fun o1 ho hk => ?_)
  refine Exists.intro (JP1 _ _ o1 .normal (b64_worth_J0_0 p0)) (And.intro ?_ (join1 ?_))
  · have h := ho
    refine st_test h (fun hb h => ?_) (fun hb h => ?_)
    · refine JP1.a h ?_
      exact Le.tow 0 0 rfl (.cons rfl (.refl _) (.cons rfl (.refl _) (.nil))) (.refl _) rfl
    · refine JP1.a h ?_
      exact Le.tow 0 0 rfl (.cons rfl (.refl _) (.cons rfl (.refl _) (.nil))) (.refl _) rfl
  · have h := hk
    refine st_test h (fun hb h => ?_) (fun hb h => ?_)
    · refine vrfl ?_
      refine st_ret (t := t_b64_worth) h ?_
      exact .refl _
    · refine st_bind h (fun o2 ho hk => ?_)
      refine Exists.intro (JP1 _ _ o2 .normal (b64_worth_J1_0 p0)) (And.intro ?_ (join1 ?_))
      · have h := ho
        refine st_test h (fun hb h => ?_) (fun hb h => ?_)
        · refine JP1.a h ?_
          exact Le.tow 0 0 rfl (.cons rfl (.refl _) (.cons rfl (.refl _) (.nil))) (.refl _) rfl
        · refine JP1.a h ?_
          exact Le.tow 0 0 rfl (.cons rfl (.refl _) (.cons rfl (.refl _) (.nil))) (.refl _) rfl
      · have h := hk
        refine st_test h (fun hb h => ?_) (fun hb h => ?_)
        · refine vrfl ?_
          refine st_ret (t := t_b64_worth) h ?_
          exact .refl _
        · refine st_bind h (fun o3 ho hk => ?_)
          refine Exists.intro (JP1 _ _ o3 .normal (b64_worth_J2_0 p0)) (And.intro ?_ (join1 ?_))
          · have h := ho
            refine st_test h (fun hb h => ?_) (fun hb h => ?_)
            · refine JP1.a h ?_
              exact Le.tow 0 0 rfl (.cons rfl (.refl _) (.cons rfl (.refl _) (.nil))) (.refl _) rfl
            · refine JP1.a h ?_
              exact Le.tow 0 0 rfl (.cons rfl (.refl _) (.cons rfl (.refl _) (.nil))) (.refl _) rfl
          · have h := hk
            refine st_test h (fun hb h => ?_) (fun hb h => ?_)
            · refine vrfl ?_
              refine st_ret (t := t_b64_worth) h ?_
              exact .refl _
            · refine st_test h (fun hb h => ?_) (fun hb h => ?_)
              · refine st_ret (t := t_b64_worth) h ?_
                exact .refl _
              · refine st_test h (fun hb h => ?_) (fun hb h => ?_)
                · refine st_ret (t := t_b64_worth) h ?_
                  exact .refl _
                · refine st_ret (t := t_b64_worth) h ?_
                  exact .refl _
noncomputable def b64_four_L2 (p0 : (List UInt8)) (o1 : Int) (v7 : Int) (v26 : Int) : Option (Int ⊕ Unit) :=
  if (decide (v26 < 4)) then
    if (decide (v26 ≥ o1)) then
      b64_four_L2 p0 o1 (IntKind.u32.wrap (v7 * 2 ^ (min (6 : Int).toNat (IntKind.u32.bits)))) (wr (v26 + 1))
    else
      idx p0 v26 >>= fun x7 =>
      b64_worth (x7.toNat : Int) >>= fun x8 =>
      if (!x8.2) then
        some (.inr ())
      else
        b64_four_L2 p0 o1 (bits .or .u32 (IntKind.u32.wrap (v7 * 2 ^ (min (6 : Int).toNat (IntKind.u32.bits)))) x8.1) (wr (v26 + 1))
  else
    some (.inl v7)
  partial_fixpoint
set_option maxRecDepth 100000 in
set_option maxHeartbeats 4000000 in
theorem b64_four_L2_grp : ∀ (p0 : (List UInt8)) (o1 : Int), (∀ (v7 : Int) (v26 : Int) (o4 : Int ⊕ Unit), b64_four_L2 p0 o1 v7 v26 = some o4 → TL (0, 0) Tryd.prog 69 b64_four_L2_c (JP2 (0, 0) 69 o4 (.exit 2) (b64_four_L2_x0 p0 o1) .ret (b64_four_L2_x1 p0 o1)) (b64_four_L2_st p0 o1 v7 v26)) := by
  intro p0 o1
  refine b64_four_L2.partial_correctness p0 o1 _ ?_
  intro b64_four_L2' ih_b64_four_L2 v7 v26 o4 h
  refine TL.round (bwp_sound mixed tbOk (lv := b64_four_lv) _ _ _ ?_)
  refine st_test h (fun hb h => ?_) (fun hb h => ?_)
  · refine And.intro (by decide) ?_
    refine st_test h (fun hb h => ?_) (fun hb h => ?_)
    · refine TL.le (τ := b64_four_L2_st p0 o1 (IntKind.u32.wrap (v7 * 2 ^ (min (6 : Int).toNat (IntKind.u32.bits)))) (wr (v26 + 1))) ?_ ((ih_b64_four_L2 (IntKind.u32.wrap (v7 * 2 ^ (min (6 : Int).toNat (IntKind.u32.bits)))) (wr (v26 + 1)) _ h))
      exact Le.tow 0 0 rfl (.cons rfl (.refl _) (.cons rfl (.refl _) (.cons rfl (.refl _) (.cons rfl (.refl _) (.nil))))) (.refl _) rfl
    · refine st_sidx h (fun x7 hi h => ?_)
      refine st_call [nV .u8 (x7.toNat : Int)] t_b64_worth h (fun x8 hy => (b64_worth_ok (x7.toNat : Int) x8 hy)) (fun x8 hy h => ?_)
      refine st_test h (fun hb h => ?_) (fun hb h => ?_)
      · exact JP2.b h (Le.tow 0 0 rfl (.cons rfl (.refl _) (.cons rfl (.refl _) (.nil))) (.refl _) rfl)
      · refine TL.le (τ := b64_four_L2_st p0 o1 (bits .or .u32 (IntKind.u32.wrap (v7 * 2 ^ (min (6 : Int).toNat (IntKind.u32.bits)))) x8.1) (wr (v26 + 1))) ?_ ((ih_b64_four_L2 (bits .or .u32 (IntKind.u32.wrap (v7 * 2 ^ (min (6 : Int).toNat (IntKind.u32.bits)))) x8.1) (wr (v26 + 1)) _ h))
        exact Le.tow 0 0 rfl (.cons rfl (.refl _) (.cons rfl (.refl _) (.cons rfl (.refl _) (.cons rfl (.refl _) (.nil))))) (.refl _) rfl
  · exact JP2.a h (Le.tow 0 0 rfl (.cons rfl (.refl _) (.cons rfl (.refl _) (.nil))) (.refl _) rfl)
theorem b64_four_L2_ok : ∀ (p0 : (List UInt8)) (o1 : Int) (v7 : Int) (v26 : Int) (o4 : Int ⊕ Unit), b64_four_L2 p0 o1 v7 v26 = some o4 → TL (0, 0) Tryd.prog 69 b64_four_L2_c (JP2 (0, 0) 69 o4 (.exit 2) (b64_four_L2_x0 p0 o1) .ret (b64_four_L2_x1 p0 o1)) (b64_four_L2_st p0 o1 v7 v26) := fun p0 o1 v7 v26 o4 h => (b64_four_L2_grp p0 o1) v7 v26 o4 h
noncomputable def b64_four (p0 : (List UInt8)) (p1 : Bool) : Option ((List UInt8) × Bool) :=
  (b64_four_L1 p0 p1 4) >>= fun o1 =>
  (b64_four_L2 p0 o1 0 0) >>= fun o4 =>
  match o4 with
  | .inl y5 =>
    b2s [(IntKind.u8.wrap (y5.fdiv (2 ^ (min (16 : Int).toNat (IntKind.u32.bits))))), (IntKind.u8.wrap (y5.fdiv (2 ^ (min (8 : Int).toNat (IntKind.u32.bits))))), (IntKind.u8.wrap y5)] >>= fun x9 =>
    cutL x9 0 (wr (o1 - 1)) >>= fun x10 =>
    need (0 ≤ (wr (8 * (wr (4 - o1))))) >>= fun _ =>
    some (x10, ((bits .and .u32 y5 (IntKind.u32.wrap ((IntKind.u32.wrap (1 * 2 ^ (min (wr (8 * (wr (4 - o1)))).toNat (IntKind.u32.bits)))) - 1))) == 0))
  | .inr y6 =>
    some ([], false)
set_option maxRecDepth 100000 in
set_option maxHeartbeats 4000000 in
theorem b64_four_ok : ∀ (p0 : (List UInt8)) (p1 : Bool) (o : (List UInt8) × Bool), b64_four p0 p1 = some o → PCall Tryd.prog 101 [sV p0, bV p1] (t_b64_four o) := by
  intro p0 p1 o h
  unfold b64_four at h
  refine PCall.ofB mixed tbOk b64_four_lv Tryd.func101 rfl (by kernel_rfl) (Nat.le_of_ble_eq_true rfl) ?_
  refine st_bind h (fun o1 ho hk => ?_)
  refine Exists.intro (JP1 _ _ o1 (.exit 0) (b64_four_L1_x0 p0 p1)) (And.intro (T_le (τ := b64_four_L1_st p0 p1 4) ?_ (TL.loop (b64_four_L1_ok p0 p1 4 o1 ho))) (join1 ?_))
  · exact Le.tow 0 0 rfl (.cons rfl (.refl _) (.cons rfl (.refl _) (.cons rfl (.refl _) (.nil)))) (.refl _) rfl
  have h := hk
  refine st_bind h (fun o4 ho hk => ?_)
  refine Exists.intro (JP2 _ _ o4 (.exit 2) (b64_four_L2_x0 p0 o1) .ret (b64_four_L2_x1 p0 o1)) (And.intro (T_le (τ := b64_four_L2_st p0 o1 0 0) ?_ (TL.loop (b64_four_L2_ok p0 o1 0 0 o4 ho))) (join2 (fun y5 hy => ?_) (fun y6 hy => ?_)))
  · exact Le.tow 0 0 rfl (.cons rfl (.refl _) (.cons rfl (.refl _) (.cons rfl (.refl _) (.cons rfl (.refl _) (.nil))))) (.refl _) rfl
  · have h := (by rw [hy] at hk; exact hk)
    refine And.intro (by decide) ?_
    refine vrfl ?_
    refine And.intro (by decide) ?_
    refine vrfl ?_
    refine vrfl ?_
    refine st_b2s (l := [(IntKind.u8.wrap (y5.fdiv (2 ^ (min (16 : Int).toNat (IntKind.u32.bits))))), (IntKind.u8.wrap (y5.fdiv (2 ^ (min (8 : Int).toNat (IntKind.u32.bits))))), (IntKind.u8.wrap y5)]) h (fun x9 hi h => ?_)
    refine And.intro (by decide +kernel) (And.intro rfl ?_)
    refine st_cuts none (some (wr (o1 - 1))) h (fun x10 hi h => ?_)
    refine st_need h (fun h => ?_)
    refine st_ret (t := t_b64_four) h ?_
    exact .refl _
  · have h := (by rw [hy] at hk; exact hk)
    refine st_ret (t := t_b64_four) h ?_
    exact .refl _
noncomputable def strings_Builder_copyCheck_4 (h0_0 : Bool) (h0_1 : (List Int)) : Option (Bool) :=
  some true
set_option maxRecDepth 100000 in
set_option maxHeartbeats 4000000 in
theorem strings_Builder_copyCheck_4_ok : ∀ (h0_0 : Bool) (h0_1 : (List Int)) (o : Bool), strings_Builder_copyCheck_4 h0_0 h0_1 = some o → CallOK Tryd.prog 53 [.ptr 0 0] ⟨[[.sp Tryd.prog 44 h0_0 0 0, .own 0 5 1 (h0_1.map (cNum .u8))]], [(h0_1.map (cNum .u8)).length]⟩ (t_strings_Builder_copyCheck_4 o) ⟨[[.sp Tryd.prog 44 o 0 0, .own 0 5 1 (h0_1.map (cNum .u8))]], [(h0_1.map (cNum .u8)).length]⟩ := by
  intro h0_0 h0_1 o h
  unfold strings_Builder_copyCheck_4 at h
  cases h
  exact copyCheck_ok [[.sp Tryd.prog 44 h0_0 0 0, .own 0 5 1 (h0_1.map (cNum .u8))]] _ 0 [.sp Tryd.prog 44 h0_0 0 0, .own 0 5 1 (h0_1.map (cNum .u8))] rfl rfl
noncomputable def strings_Builder_WriteString_5 (p1 : (List UInt8)) (h0_0 : Bool) (h0_1 : (List Int)) : Option (Int × Unit × Bool × (List Int)) :=
  strings_Builder_copyCheck_4 h0_0 h0_1 >>= fun x1 =>
  appL 1 h0_1 (s2b p1) >>= fun x2 =>
  some ((p1.length : Int), (), x1, x2)
set_option maxRecDepth 100000 in
set_option maxHeartbeats 4000000 in
theorem strings_Builder_WriteString_5_ok : ∀ (p1 : (List UInt8)) (h0_0 : Bool) (h0_1 : (List Int)) (o : Int × Unit × Bool × (List Int)), strings_Builder_WriteString_5 p1 h0_0 h0_1 = some o → CallOK Tryd.prog 26 [.ptr 0 0, .p (sV p1)] ⟨[[.sp Tryd.prog 44 h0_0 0 0, .own 0 5 1 (h0_1.map (cNum .u8))]], [(h0_1.map (cNum .u8)).length]⟩ (t_strings_Builder_WriteString_5 o) ⟨[[.sp Tryd.prog 44 o.2.2.1 0 0, .own 0 5 1 (o.2.2.2.map (cNum .u8))]], [(o.2.2.2.map (cNum .u8)).length]⟩ := by
  intro p1 h0_0 h0_1 o h
  unfold strings_Builder_WriteString_5 at h
  refine CallOK.ofB mixed tbOk strings_Builder_WriteString_5_lv Tryd.func26 rfl (by kernel_rfl) (Nat.le_of_ble_eq_true rfl) rfl rfl rfl ?_
  refine st_callc _ _ h (fun x1 hy => ((strings_Builder_copyCheck_4_ok h0_0 h0_1 x1 hy).fr [0] [0] rfl rfl rfl)) (fun x1 hy h => ?_)
  refine st_appso (a := h0_1) (b := p1) h rfl (fun x2 hi h => ?_)
  refine vrfl ?_
  refine Exists.intro _ (And.intro (Le.refl _ _ _) ?_)
  exact st_retc (t := t_strings_Builder_WriteString_5) (ss := fun o => ⟨[[.sp Tryd.prog 44 o.2.2.1 0 0, .own 0 5 1 (o.2.2.2.map (cNum .u8))]], [(o.2.2.2.map (cNum .u8)).length]⟩) h ⟨[0], rfl, .refl _, .refl _, rfl⟩
noncomputable def b64_Decode_L1 (p0 : (List UInt8)) (v5 : Int) (h0_0 : Bool) (h0_1 : (List Int)) : Option ((Bool × (List Int)) ⊕ (Bool × (List Int))) :=
  if (decide (v5 < (p0.length : Int))) then
    cutL p0 v5 (wr (v5 + 4)) >>= fun x4 =>
    b64_four x4 ((wr (v5 + 4)) == (p0.length : Int)) >>= fun x5 =>
    if (!x5.2) then
      some (.inr (h0_0, h0_1))
    else
      strings_Builder_WriteString_5 x5.1 h0_0 h0_1 >>= fun x6 =>
      b64_Decode_L1 p0 (wr (v5 + 4)) x6.2.2.1 x6.2.2.2
  else
    some (.inl (h0_0, h0_1))
  partial_fixpoint
set_option maxRecDepth 100000 in
set_option maxHeartbeats 4000000 in
theorem b64_Decode_L1_grp : ∀ (p0 : (List UInt8)), (∀ (v5 : Int) (h0_0 : Bool) (h0_1 : (List Int)) (o1 : (Bool × (List Int)) ⊕ (Bool × (List Int))), b64_Decode_L1 p0 v5 h0_0 h0_1 = some o1 → TL (0, 0) Tryd.prog 37 b64_Decode_L1_c (JP2 (0, 0) 37 o1 (.exit 0) (b64_Decode_L1_x0 p0) .ret (b64_Decode_L1_x1 p0)) (b64_Decode_L1_st p0 v5 h0_0 h0_1)) := by
  intro p0
  refine b64_Decode_L1.partial_correctness p0 _ ?_
  intro b64_Decode_L1' ih_b64_Decode_L1 v5 h0_0 h0_1 o1 h
  refine TL.round (bwp_sound mixed tbOk (lv := b64_Decode_lv) _ _ _ ?_)
  refine vrfl ?_
  refine st_test h (fun hb h => ?_) (fun hb h => ?_)
  · refine st_cuts (some v5) (some (wr (v5 + 4))) h (fun x4 hi h => ?_)
    refine vrfl ?_
    refine st_call [sV x4, bV ((wr (v5 + 4)) == (p0.length : Int))] t_b64_four h (fun x5 hy => (b64_four_ok x4 ((wr (v5 + 4)) == (p0.length : Int)) x5 hy)) (fun x5 hy h => ?_)
    refine st_test h (fun hb h => ?_) (fun hb h => ?_)
    · exact JP2.b h (Le.tow 1 1 rfl (.cons rfl (.refl _) (.cons rfl (.refl _) (.nil))) (.refl _) rfl)
    · refine st_callc _ _ h (fun x6 hy => ((strings_Builder_WriteString_5_ok x5.1 h0_0 h0_1 x6 hy).fr [0] [0] rfl rfl rfl)) (fun x6 hy h => ?_)
      refine TL.le (τ := b64_Decode_L1_st p0 (wr (v5 + 4)) x6.2.2.1 x6.2.2.2) ?_ ((ih_b64_Decode_L1 (wr (v5 + 4)) x6.2.2.1 x6.2.2.2 _ h))
      exact Le.tow 1 1 rfl (.cons rfl (.refl _) (.cons rfl (.refl _) (.cons rfl (.refl _) (.nil)))) (.refl _) rfl
  · exact JP2.a h (Le.tow 1 1 rfl (.cons rfl (.refl _) (.nil)) (.refl _) rfl)
theorem b64_Decode_L1_ok : ∀ (p0 : (List UInt8)) (v5 : Int) (h0_0 : Bool) (h0_1 : (List Int)) (o1 : (Bool × (List Int)) ⊕ (Bool × (List Int))), b64_Decode_L1 p0 v5 h0_0 h0_1 = some o1 → TL (0, 0) Tryd.prog 37 b64_Decode_L1_c (JP2 (0, 0) 37 o1 (.exit 0) (b64_Decode_L1_x0 p0) .ret (b64_Decode_L1_x1 p0)) (b64_Decode_L1_st p0 v5 h0_0 h0_1) := fun p0 v5 h0_0 h0_1 o1 h => (b64_Decode_L1_grp p0) v5 h0_0 h0_1 o1 h
noncomputable def strings_Builder_String_4 (h0_0 : Bool) (h0_1 : (List Int)) : Option ((List UInt8)) :=
  b2s h0_1
set_option maxRecDepth 100000 in
set_option maxHeartbeats 4000000 in
theorem strings_Builder_String_4_ok : ∀ (h0_0 : Bool) (h0_1 : (List Int)) (o : (List UInt8)), strings_Builder_String_4 h0_0 h0_1 = some o → CallOK Tryd.prog 29 [.ptr 0 0] ⟨[[.sp Tryd.prog 44 h0_0 0 0, .own 0 5 1 (h0_1.map (cNum .u8))]], [(h0_1.map (cNum .u8)).length]⟩ (t_strings_Builder_String_4 o) ⟨[[.sp Tryd.prog 44 h0_0 0 0, .p (.sl false (h0_1.map (cNum .u8)))]], [((h0_1.map (cNum .u8)).length + 1)]⟩ := by
  intro h0_0 h0_1 o h
  unfold strings_Builder_String_4 at h
  exact builderString_ok [[.sp Tryd.prog 44 h0_0 0 0, .own 0 5 1 (h0_1.map (cNum .u8))]] [(h0_1.map (cNum .u8)).length] 0 0 [.sp Tryd.prog 44 h0_0 0 0, .own 0 5 1 (h0_1.map (cNum .u8))] (h0_1.map (cNum .u8)) rfl rfl rfl (b2s_cells h)
noncomputable def b64_Decode (p0 : (List UInt8)) : Option ((List UInt8) × Int) :=
  if (((p0.length : Int).tmod 4) != 0) then
    some ([], 7)
  else
    (b64_Decode_L1 p0 0 false []) >>= fun o1 =>
    match o1 with
    | .inl y2 =>
      strings_Builder_String_4 y2.1 y2.2 >>= fun x7 =>
      some (x7, 0)
    | .inr y3 =>
      some ([], 7)
set_option maxRecDepth 100000 in
set_option maxHeartbeats 4000000 in
theorem b64_Decode_ok : ∀ (p0 : (List UInt8)) (o : (List UInt8) × Int), b64_Decode p0 = some o → PCall Tryd.prog 66 [sV p0] (t_b64_Decode o) := by
  intro p0 o h
  unfold b64_Decode at h
  refine PCall.ofB mixed tbOk b64_Decode_lv Tryd.func66 rfl (by kernel_rfl) (Nat.le_of_ble_eq_true rfl) ?_
  refine vrfl ?_
  refine And.intro (by decide) ?_
  refine st_test h (fun hb h => ?_) (fun hb h => ?_)
  · refine st_ret (t := t_b64_Decode) h ?_
    exact .refl _
  · refine st_bind h (fun o1 ho hk => ?_)
    refine Exists.intro (JP2 _ _ o1 (.exit 0) (b64_Decode_L1_x0 p0) .ret (b64_Decode_L1_x1 p0)) (And.intro (T_le (τ := b64_Decode_L1_st p0 0 false []) ?_ (TL.loop (b64_Decode_L1_ok p0 0 false [] o1 ho))) (join2 (fun y2 hy => ?_) (fun y3 hy => ?_)))
    · exact (Le.ownH 0 1 5 1 rfl rfl sizeNil).trans (Le.tow 1 1 rfl (.cons rfl (.refl _) (.cons rfl (.refl _) (.cons rfl (.refl _) (.nil)))) (.refl _) rfl)
    · have h := (by rw [hy] at hk; exact hk)
      refine st_callc _ _ h (fun x7 hy => ((strings_Builder_String_4_ok y2.1 y2.2 x7 hy).fr [0] [0] rfl rfl rfl)) (fun x7 hy h => ?_)
      refine st_ret (t := t_b64_Decode) h ?_
      exact .refl _
    · have h := (by rw [hy] at hk; exact hk)
      refine st_ret (t := t_b64_Decode) h ?_
      exact .refl _
noncomputable def b64_Encode_L2 (v0 : (List UInt8)) (h0_0 : Bool) (h0_1 : (List Int)) (v5 : Int) (v14 : Int) : Option (Int) :=
  if (decide (v14 < 3)) then
    if (decide (v14 < (if (v0.length : Int) < (3 : Int) then (v0.length : Int) else (3 : Int)))) then
      idx v0 v14 >>= fun x3 =>
      b64_Encode_L2 v0 h0_0 h0_1 (bits .or .u32 (IntKind.u32.wrap (v5 * 2 ^ (min (8 : Int).toNat (IntKind.u32.bits)))) (IntKind.u32.wrap (x3.toNat : Int))) (wr (v14 + 1))
    else
      b64_Encode_L2 v0 h0_0 h0_1 (IntKind.u32.wrap (v5 * 2 ^ (min (8 : Int).toNat (IntKind.u32.bits)))) (wr (v14 + 1))
  else
    some v5
  partial_fixpoint
set_option maxRecDepth 100000 in
set_option maxHeartbeats 4000000 in
theorem b64_Encode_L2_grp : ∀ (v0 : (List UInt8)) (h0_0 : Bool) (h0_1 : (List Int)), (∀ (v5 : Int) (v14 : Int) (o2 : Int), b64_Encode_L2 v0 h0_0 h0_1 v5 v14 = some o2 → TL (0, 0) Tryd.prog 49 b64_Encode_L2_c (JP1 (0, 0) 49 o2 (.exit 2) (b64_Encode_L2_x0 v0 h0_0 h0_1)) (b64_Encode_L2_st v0 h0_0 h0_1 v5 v14)) := by
  intro v0 h0_0 h0_1
  refine b64_Encode_L2.partial_correctness v0 h0_0 h0_1 _ ?_
  intro b64_Encode_L2' ih_b64_Encode_L2 v5 v14 o2 h
  refine TL.round (bwp_sound mixed tbOk (lv := b64_Encode_lv) _ _ _ ?_)
  refine st_test h (fun hb h => ?_) (fun hb h => ?_)
  · refine And.intro (by decide) ?_
    refine st_test h (fun hb h => ?_) (fun hb h => ?_)
    · refine st_sidx h (fun x3 hi h => ?_)
      refine vrfl ?_
      refine TL.le (τ := b64_Encode_L2_st v0 h0_0 h0_1 (bits .or .u32 (IntKind.u32.wrap (v5 * 2 ^ (min (8 : Int).toNat (IntKind.u32.bits)))) (IntKind.u32.wrap (x3.toNat : Int))) (wr (v14 + 1))) ?_ ((ih_b64_Encode_L2 (bits .or .u32 (IntKind.u32.wrap (v5 * 2 ^ (min (8 : Int).toNat (IntKind.u32.bits)))) (IntKind.u32.wrap (x3.toNat : Int))) (wr (v14 + 1)) _ h))
      exact Le.tow 1 1 rfl (.cons rfl (.refl _) (.cons rfl (.refl _) (.cons rfl (.refl _) (.cons rfl (.refl _) (.cons rfl (.refl _) (.nil)))))) (.refl _) rfl
    · refine TL.le (τ := b64_Encode_L2_st v0 h0_0 h0_1 (IntKind.u32.wrap (v5 * 2 ^ (min (8 : Int).toNat (IntKind.u32.bits)))) (wr (v14 + 1))) ?_ ((ih_b64_Encode_L2 (IntKind.u32.wrap (v5 * 2 ^ (min (8 : Int).toNat (IntKind.u32.bits)))) (wr (v14 + 1)) _ h))
      exact Le.tow 1 1 rfl (.cons rfl (.refl _) (.cons rfl (.refl _) (.cons rfl (.refl _) (.cons rfl (.refl _) (.cons rfl (.refl _) (.nil)))))) (.refl _) rfl
  · exact JP1.a h (Le.tow 1 1 rfl (.cons rfl (.refl _) (.cons rfl (.refl _) (.cons rfl (.refl _) (.cons rfl (.refl _) (.nil))))) (.refl _) rfl)
theorem b64_Encode_L2_ok : ∀ (v0 : (List UInt8)) (h0_0 : Bool) (h0_1 : (List Int)) (v5 : Int) (v14 : Int) (o2 : Int), b64_Encode_L2 v0 h0_0 h0_1 v5 v14 = some o2 → TL (0, 0) Tryd.prog 49 b64_Encode_L2_c (JP1 (0, 0) 49 o2 (.exit 2) (b64_Encode_L2_x0 v0 h0_0 h0_1)) (b64_Encode_L2_st v0 h0_0 h0_1 v5 v14) := fun v0 h0_0 h0_1 v5 v14 o2 h => (b64_Encode_L2_grp v0 h0_0 h0_1) v5 v14 o2 h
noncomputable def b64_digit (p0 : Int) : Option (Int) :=
  need (0 ≤ p0) >>= fun _ =>
  need (p0 < 64) >>= fun _ =>
  some ((dgN p0.toNat).toNat : Int)
set_option maxRecDepth 100000 in
set_option maxHeartbeats 4000000 in
theorem b64_digit_ok : ∀ (p0 : Int) (o : Int), b64_digit p0 = some o → PCall Tryd.prog 90 [nV .u32 p0] (t_b64_digit o) := by
  intro p0 o h
  unfold b64_digit at h
  obtain ⟨h1, h⟩ := need_some h
  obtain ⟨h2, h⟩ := need_some h
  cases h
  exact digit_ok _ h1 h2
noncomputable def strings_Builder_WriteByte_2 (p1 : Int) (h0_0 : Bool) (h0_1 : (List Int)) : Option (Unit × Bool × (List Int)) :=
  strings_Builder_copyCheck_4 h0_0 h0_1 >>= fun x1 =>
  appL 1 h0_1 [p1] >>= fun x2 =>
  some ((), x1, x2)
set_option maxRecDepth 100000 in
set_option maxHeartbeats 4000000 in
theorem strings_Builder_WriteByte_2_ok : ∀ (p1 : Int) (h0_0 : Bool) (h0_1 : (List Int)) (o : Unit × Bool × (List Int)), strings_Builder_WriteByte_2 p1 h0_0 h0_1 = some o → CallOK Tryd.prog 39 [.ptr 0 0, .p (nV .u8 p1)] ⟨[[.sp Tryd.prog 44 h0_0 0 0, .own 0 5 1 (h0_1.map (cNum .u8))]], [(h0_1.map (cNum .u8)).length]⟩ (t_strings_Builder_WriteByte_2 o) ⟨[[.sp Tryd.prog 44 o.2.1 0 0, .own 0 5 1 (o.2.2.map (cNum .u8))]], [(o.2.2.map (cNum .u8)).length]⟩ := by
  intro p1 h0_0 h0_1 o h
  unfold strings_Builder_WriteByte_2 at h
  refine CallOK.ofB mixed tbOk strings_Builder_WriteByte_2_lv Tryd.func39 rfl (by kernel_rfl) (Nat.le_of_ble_eq_true rfl) rfl rfl rfl ?_
  refine st_callc _ _ h (fun x1 hy => ((strings_Builder_copyCheck_4_ok h0_0 h0_1 x1 hy).fr [0] [0] rfl rfl rfl)) (fun x1 hy h => ?_)
  refine st_appo (a := h0_1) (b := [p1]) (c := (cNum .u8)) h (.refl _) (fun _ => rfl) rfl (fun x2 hi h => ?_)
  refine Exists.intro _ (And.intro (Le.refl _ _ _) ?_)
  exact st_retc (t := t_strings_Builder_WriteByte_2) (ss := fun o => ⟨[[.sp Tryd.prog 44 o.2.1 0 0, .own 0 5 1 (o.2.2.map (cNum .u8))]], [(o.2.2.map (cNum .u8)).length]⟩) h ⟨[0], rfl, .refl _, .refl _, rfl⟩
noncomputable def b64_Encode_L3 (v0 : (List UInt8)) (o2 : Int) (v29 : Int) (h0_0_ : Bool) (h0_1_ : (List Int)) : Option ((Bool × (List Int))) :=
  if (decide (v29 < 4)) then
    if (decide (v29 > (if (v0.length : Int) < (3 : Int) then (v0.length : Int) else (3 : Int)))) then
      strings_Builder_WriteByte_2 61 h0_0_ h0_1_ >>= fun x5 =>
      b64_Encode_L3 v0 o2 (wr (v29 + 1)) x5.2.1 x5.2.2
    else
      need (0 ≤ (wr (18 - (wr (6 * v29))))) >>= fun _ =>
      b64_digit (bits .and .u32 (o2.fdiv (2 ^ (min (wr (18 - (wr (6 * v29)))).toNat (IntKind.u32.bits)))) 63) >>= fun x6 =>
      strings_Builder_WriteByte_2 x6 h0_0_ h0_1_ >>= fun x7 =>
      b64_Encode_L3 v0 o2 (wr (v29 + 1)) x7.2.1 x7.2.2
  else
    some (h0_0_, h0_1_)
  partial_fixpoint
set_option maxRecDepth 100000 in
set_option maxHeartbeats 4000000 in
theorem b64_Encode_L3_grp : ∀ (v0 : (List UInt8)) (o2 : Int), (∀ (v29 : Int) (h0_0_ : Bool) (h0_1_ : (List Int)) (o4 : (Bool × (List Int))), b64_Encode_L3 v0 o2 v29 h0_0_ h0_1_ = some o4 → TL (0, 0) Tryd.prog 49 b64_Encode_L3_c (JP1 (0, 0) 49 o4 (.exit 4) (b64_Encode_L3_x0 v0 o2)) (b64_Encode_L3_st v0 o2 v29 h0_0_ h0_1_)) := by
  intro v0 o2
  refine b64_Encode_L3.partial_correctness v0 o2 _ ?_
  intro b64_Encode_L3' ih_b64_Encode_L3 v29 h0_0_ h0_1_ o4 h
  refine TL.round (bwp_sound mixed tbOk (lv := b64_Encode_lv) _ _ _ ?_)
  refine st_test h (fun hb h => ?_) (fun hb h => ?_)
  · refine st_test h (fun hb h => ?_) (fun hb h => ?_)
    · refine st_callc _ _ h (fun x5 hy => ((strings_Builder_WriteByte_2_ok 61 h0_0_ h0_1_ x5 hy).fr [0] [0] rfl rfl rfl)) (fun x5 hy h => ?_)
      refine TL.le (τ := b64_Encode_L3_st v0 o2 (wr (v29 + 1)) x5.2.1 x5.2.2) ?_ ((ih_b64_Encode_L3 (wr (v29 + 1)) x5.2.1 x5.2.2 _ h))
      exact Le.tow 1 1 rfl (.cons rfl (.refl _) (.cons rfl (.refl _) (.cons rfl (.refl _) (.cons rfl (.refl _) (.cons rfl (.refl _) (.nil)))))) (.refl _) rfl
    · refine st_need h (fun h => ?_)
      refine st_call [nV .u32 (bits .and .u32 (o2.fdiv (2 ^ (min (wr (18 - (wr (6 * v29)))).toNat (IntKind.u32.bits)))) 63)] t_b64_digit h (fun x6 hy => (b64_digit_ok (bits .and .u32 (o2.fdiv (2 ^ (min (wr (18 - (wr (6 * v29)))).toNat (IntKind.u32.bits)))) 63) x6 hy)) (fun x6 hy h => ?_)
      refine st_callc _ _ h (fun x7 hy => ((strings_Builder_WriteByte_2_ok x6 h0_0_ h0_1_ x7 hy).fr [0] [0] rfl rfl rfl)) (fun x7 hy h => ?_)
      refine TL.le (τ := b64_Encode_L3_st v0 o2 (wr (v29 + 1)) x7.2.1 x7.2.2) ?_ ((ih_b64_Encode_L3 (wr (v29 + 1)) x7.2.1 x7.2.2 _ h))
      exact Le.tow 1 1 rfl (.cons rfl (.refl _) (.cons rfl (.refl _) (.cons rfl (.refl _) (.cons rfl (.refl _) (.cons rfl (.refl _) (.nil)))))) (.refl _) rfl
  · exact JP1.a h (Le.tow 1 1 rfl (.cons rfl (.refl _) (.cons rfl (.refl _) (.cons rfl (.refl _) (.nil)))) (.refl _) rfl)
theorem b64_Encode_L3_ok : ∀ (v0 : (List UInt8)) (o2 : Int) (v29 : Int) (h0_0_ : Bool) (h0_1_ : (List Int)) (o4 : (Bool × (List Int))), b64_Encode_L3 v0 o2 v29 h0_0_ h0_1_ = some o4 → TL (0, 0) Tryd.prog 49 b64_Encode_L3_c (JP1 (0, 0) 49 o4 (.exit 4) (b64_Encode_L3_x0 v0 o2)) (b64_Encode_L3_st v0 o2 v29 h0_0_ h0_1_) := fun v0 o2 v29 h0_0_ h0_1_ o4 h => (b64_Encode_L3_grp v0 o2) v29 h0_0_ h0_1_ o4 h
noncomputable def b64_Encode_L1 (v0 : (List UInt8)) (h0_0 : Bool) (h0_1 : (List Int)) : Option ((Bool × (List Int))) :=
  if (decide ((v0.length : Int) > 0)) then
    (b64_Encode_L2 v0 h0_0 h0_1 0 0) >>= fun o2 =>
    (b64_Encode_L3 v0 o2 0 h0_0 h0_1) >>= fun o4 =>
    cutL v0 (if (v0.length : Int) < (3 : Int) then (v0.length : Int) else (3 : Int)) (v0.length : Int) >>= fun x8 =>
    b64_Encode_L1  x8 o4.1 o4.2
  else
    some (h0_0, h0_1)
  partial_fixpoint
set_option maxRecDepth 100000 in
set_option maxHeartbeats 4000000 in
theorem b64_Encode_L1_grp : (∀ (v0 : (List UInt8)) (h0_0 : Bool) (h0_1 : (List Int)) (o1 : (Bool × (List Int))), b64_Encode_L1 v0 h0_0 h0_1 = some o1 → TL (0, 0) Tryd.prog 49 b64_Encode_L1_c (JP1 (0, 0) 49 o1 (.exit 0) (b64_Encode_L1_x0 )) (b64_Encode_L1_st v0 h0_0 h0_1)) := by
  refine b64_Encode_L1.partial_correctness _ ?_
  intro b64_Encode_L1' ih_b64_Encode_L1 v0 h0_0 h0_1 o1 h
  refine TL.round (bwp_sound mixed tbOk (lv := b64_Encode_lv) _ _ _ ?_)
  refine vrfl ?_
  refine st_test h (fun hb h => ?_) (fun hb h => ?_)
  · refine vrfl ?_
    refine st_bind h (fun o2 ho hk => ?_)
    refine Exists.intro (JP1 _ _ o2 (.exit 2) (b64_Encode_L2_x0 v0 h0_0 h0_1)) (And.intro (T_le (τ := b64_Encode_L2_st v0 h0_0 h0_1 0 0) ?_ (TL.loop (b64_Encode_L2_ok v0 h0_0 h0_1 0 0 o2 ho))) (join1 ?_))
    · exact Le.tow 1 1 rfl (.cons rfl (.refl _) (.cons rfl (.refl _) (.cons rfl (.refl _) (.cons rfl (.refl _) (.cons rfl (.refl _) (.nil)))))) (.refl _) rfl
    have h := hk
    refine st_bind h (fun o4 ho hk => ?_)
    refine Exists.intro (JP1 _ _ o4 (.exit 4) (b64_Encode_L3_x0 v0 o2)) (And.intro (T_le (τ := b64_Encode_L3_st v0 o2 0 h0_0 h0_1) ?_ (TL.loop (b64_Encode_L3_ok v0 o2 0 h0_0 h0_1 o4 ho))) (join1 ?_))
    · exact Le.tow 1 1 rfl (.cons rfl (.refl _) (.cons rfl (.refl _) (.cons rfl (.refl _) (.cons rfl (.refl _) (.cons rfl (.refl _) (.nil)))))) (.refl _) rfl
    have h := hk
    refine st_cuts (some (if (v0.length : Int) < (3 : Int) then (v0.length : Int) else (3 : Int))) none h (fun x8 hi h => ?_)
    refine TL.le (τ := b64_Encode_L1_st  x8 o4.1 o4.2) ?_ ((ih_b64_Encode_L1 x8 o4.1 o4.2 _ h))
    exact Le.tow 1 1 rfl (.cons rfl (.refl _) (.cons rfl (.refl _) (.nil))) (.refl _) rfl
  · exact JP1.a h (Le.tow 1 1 rfl (.cons rfl (.refl _) (.nil)) (.refl _) rfl)
theorem b64_Encode_L1_ok : ∀ (v0 : (List UInt8)) (h0_0 : Bool) (h0_1 : (List Int)) (o1 : (Bool × (List Int))), b64_Encode_L1 v0 h0_0 h0_1 = some o1 → TL (0, 0) Tryd.prog 49 b64_Encode_L1_c (JP1 (0, 0) 49 o1 (.exit 0) (b64_Encode_L1_x0 )) (b64_Encode_L1_st v0 h0_0 h0_1) := fun v0 h0_0 h0_1 o1 h => b64_Encode_L1_grp v0 h0_0 h0_1 o1 h
noncomputable def b64_Encode (p0 : (List UInt8)) : Option ((List UInt8)) :=
  (b64_Encode_L1 p0 false []) >>= fun o1 =>
  strings_Builder_String_4 o1.1 o1.2 >>= fun x9 =>
  some x9
set_option maxRecDepth 100000 in
set_option maxHeartbeats 4000000 in
theorem b64_Encode_ok : ∀ (p0 : (List UInt8)) (o : (List UInt8)), b64_Encode p0 = some o → PCall Tryd.prog 57 [sV p0] (t_b64_Encode o) := by
  intro p0 o h
  unfold b64_Encode at h
  refine PCall.ofB mixed tbOk b64_Encode_lv Tryd.func57 rfl (by kernel_rfl) (Nat.le_of_ble_eq_true rfl) ?_
  refine st_bind h (fun o1 ho hk => ?_)
  refine Exists.intro (JP1 _ _ o1 (.exit 0) (b64_Encode_L1_x0 )) (And.intro (T_le (τ := b64_Encode_L1_st p0 false []) ?_ (TL.loop (b64_Encode_L1_ok p0 false [] o1 ho))) (join1 ?_))
  · exact (Le.ownH 0 1 5 1 rfl rfl sizeNil).trans (Le.tow 1 1 rfl (.cons rfl (.refl _) (.cons rfl (.refl _) (.nil))) (.refl _) rfl)
  have h := hk
  refine st_callc _ _ h (fun x9 hy => ((strings_Builder_String_4_ok o1.1 o1.2 x9 hy).fr [0] [0] rfl rfl rfl)) (fun x9 hy h => ?_)
  refine st_ret (t := t_b64_Encode) h ?_
  exact .refl _
noncomputable def internal_stringslite_HasPrefix (p0 : (List UInt8)) (p1 : (List UInt8)) : Option (Bool) :=
  ( if (decide ((p0.length : Int) ≥ (p1.length : Int))) then
      cutL p0 0 (p1.length : Int) >>= fun x2 =>
      some (x2 == p1)
    else
      some false : Option (Bool)) >>= fun o1 =>
  some o1
set_option maxRecDepth 100000 in
set_option maxHeartbeats 4000000 in
theorem internal_stringslite_HasPrefix_ok : ∀ (p0 : (List UInt8)) (p1 : (List UInt8)) (o : Bool), internal_stringslite_HasPrefix p0 p1 = some o → PCall Tryd.prog 92 [sV p0, sV p1] (t_internal_stringslite_HasPrefix o) := by
  intro p0 p1 o h
  unfold internal_stringslite_HasPrefix at h
  refine PCall.ofB mixed tbOk internal_stringslite_HasPrefix_lv Tryd.func92 rfl (by kernel_rfl) (Nat.le_of_ble_eq_true rfl) ?_
  refine st_bind h (fun o1 ho hk => ?_)
  refine Exists.intro (JP1 _ _ o1 .normal (internal_stringslite_HasPrefix_J0_0 )) (And.intro ?_ (join1 ?_))
  · have h := ho
    refine vrfl ?_
    refine vrfl ?_
    refine st_test h (fun hb h => ?_) (fun hb h => ?_)
    · refine vrfl ?_
      refine st_cuts none (some (p1.length : Int)) h (fun x2 hi h => ?_)
      refine JP1.a h ?_
      exact Le.tow 0 0 rfl (.cons rfl (.refl _) (.nil)) (.refl _) rfl
    · refine JP1.a h ?_
      exact Le.tow 0 0 rfl (.cons rfl (.refl _) (.nil)) (.refl _) rfl
  · have h := hk
    refine st_ret (t := t_internal_stringslite_HasPrefix) h ?_
    exact .refl _
noncomputable def strings_HasPrefix (p0 : (List UInt8)) (p1 : (List UInt8)) : Option (Bool) :=
  internal_stringslite_HasPrefix p0 p1 >>= fun x1 =>
  some x1
set_option maxRecDepth 100000 in
set_option maxHeartbeats 4000000 in
theorem strings_HasPrefix_ok : ∀ (p0 : (List UInt8)) (p1 : (List UInt8)) (o : Bool), strings_HasPrefix p0 p1 = some o → PCall Tryd.prog 59 [sV p0, sV p1] (t_strings_HasPrefix o) := by
  intro p0 p1 o h
  unfold strings_HasPrefix at h
  refine PCall.ofB mixed tbOk strings_HasPrefix_lv Tryd.func59 rfl (by kernel_rfl) (Nat.le_of_ble_eq_true rfl) ?_
  refine st_call [sV p0, sV p1] t_internal_stringslite_HasPrefix h (fun x1 hy => (internal_stringslite_HasPrefix_ok p0 p1 x1 hy)) (fun x1 hy h => ?_)
  refine st_ret (t := t_strings_HasPrefix) h ?_
  exact .refl _
noncomputable def octet_Begins (p0 : (List UInt8)) (p1 : (List UInt8)) (p2 : Int) : Option (Bool) :=
  ( if (decide (p2 ≥ 0)) then
      if (decide (p2 ≤ (p0.length : Int))) then
        cutL p0 p2 (p0.length : Int) >>= fun x2 =>
        strings_HasPrefix x2 p1 >>= fun x3 =>
        some x3
      else
        some false
    else
      some false : Option (Bool)) >>= fun o1 =>
  some o1
set_option maxRecDepth 100000 in
set_option maxHeartbeats 4000000 in
theorem octet_Begins_ok : ∀ (p0 : (List UInt8)) (p1 : (List UInt8)) (p2 : Int) (o : Bool), octet_Begins p0 p1 p2 = some o → PCall Tryd.prog 31 [sV p0, sV p1, iV p2] (t_octet_Begins o) := by
  intro p0 p1 p2 o h
  unfold octet_Begins at h
  refine PCall.ofB mixed tbOk octet_Begins_lv Tryd.func31 rfl (by kernel_rfl) (Nat.le_of_ble_eq_true rfl) ?_
  refine st_bind h (fun o1 ho hk => ?_)
  refine Exists.intro (JP1 _ _ o1 .normal (octet_Begins_J0_0 )) (And.intro ?_ (join1 ?_))
  · have h := ho
    refine st_test h (fun hb h => ?_) (fun hb h => ?_)
    · refine vrfl ?_
      refine st_test h (fun hb h => ?_) (fun hb h => ?_)
      · refine st_cuts (some p2) none h (fun x2 hi h => ?_)
        refine st_call [sV x2, sV p1] t_strings_HasPrefix h (fun x3 hy => (strings_HasPrefix_ok x2 p1 x3 hy)) (fun x3 hy h => ?_)
        refine JP1.a h ?_
        exact Le.tow 0 0 rfl (.cons rfl (.refl _) (.nil)) (.refl _) rfl
      · refine JP1.a h ?_
        exact Le.tow 0 0 rfl (.cons rfl (.refl _) (.nil)) (.refl _) rfl
    · refine bF ?_
      refine JP1.a h ?_
      exact Le.tow 0 0 rfl (.cons rfl (.refl _) (.nil)) (.refl _) rfl
  · have h := hk
    refine st_ret (t := t_octet_Begins) h ?_
    exact .refl _
noncomputable def fold_Plain_L1 (p0 : (List UInt8)) (v3 : Int) (v10 : Int) : Option (Int ⊕ Unit) :=
  if (decide (v10 < (p0.length : Int))) then
    idx p0 v10 >>= fun x4 =>
    ( if ((x4.toNat : Int) == 32) then
        if (v3 == 0) then
          some true
        else
          if (decide ((x4.toNat : Int) < 32)) then
            some true
          else
            if (decide ((x4.toNat : Int) > 126)) then
              some true
            else
              octet_Begins p0 [61, 63] v10 >>= fun x6 =>
              some x6
      else
        if (decide ((x4.toNat : Int) < 32)) then
          some true
        else
          if (decide ((x4.toNat : Int) > 126)) then
            some true
          else
            octet_Begins p0 [61, 63] v10 >>= fun x7 =>
            some x7 : Option (Bool)) >>= fun o5 =>
    if o5 then
      some (.inr ())
    else
      ( if ((x4.toNat : Int) == 32) then
          some 0
        else
          some (wr (v3 + 1)) : Option (Int)) >>= fun o8 =>
      if (decide (o8 > 60)) then
        some (.inr ())
      else
        fold_Plain_L1 p0 o8 (wr (v10 + 1))
  else
    some (.inl v3)
  partial_fixpoint
set_option maxRecDepth 100000 in
set_option maxHeartbeats 4000000 in
theorem fold_Plain_L1_grp : ∀ (p0 : (List UInt8)), (∀ (v3 : Int) (v10 : Int) (o1 : Int ⊕ Unit), fold_Plain_L1 p0 v3 v10 = some o1 → TL (0, 0) Tryd.prog 44 fold_Plain_L1_c (JP2 (0, 0) 44 o1 (.exit 0) (fold_Plain_L1_x0 p0) .ret (fold_Plain_L1_x1 p0)) (fold_Plain_L1_st p0 v3 v10)) := by
  intro p0
  refine fold_Plain_L1.partial_correctness p0 _ ?_
  intro fold_Plain_L1' ih_fold_Plain_L1 v3 v10 o1 h
  refine TL.round (bwp_sound mixed tbOk (lv := fold_Plain_lv) _ _ _ ?_)
  refine st_test h (fun hb h => ?_) (fun hb h => ?_)
  · refine st_sidx h (fun x4 hi h => ?_)
    refine st_bind h (fun o5 ho hk => ?_)
    refine Exists.intro (JP1 _ _ o5 .normal (fold_Plain_J0_0 p0 v3 v10 x4)) (And.intro ?_ (join1 ?_))
    · have h := ho
      refine st_test h (fun hb h => ?_) (fun hb h => ?_)
      · refine st_test h (fun hb h => ?_) (fun hb h => ?_)
        · refine bT ?_
          refine bT ?_
          refine JP1.a h ?_
          exact Le.tow 0 0 rfl (.cons rfl (.refl _) (.cons rfl (.refl _) (.cons rfl (.refl _) (.cons rfl (.refl _) (.cons rfl (.refl _) (.cons rfl (.refl _) (.nil))))))) (.refl _) rfl
        · refine st_test h (fun hb h => ?_) (fun hb h => ?_)
          · refine bT ?_
            refine JP1.a h ?_
            exact Le.tow 0 0 rfl (.cons rfl (.refl _) (.cons rfl (.refl _) (.cons rfl (.refl _) (.cons rfl (.refl _) (.cons rfl (.refl _) (.cons rfl (.refl _) (.nil))))))) (.refl _) rfl
          · refine st_test h (fun hb h => ?_) (fun hb h => ?_)
            · refine JP1.a h ?_
              exact Le.tow 0 0 rfl (.cons rfl (.refl _) (.cons rfl (.refl _) (.cons rfl (.refl _) (.cons rfl (.refl _) (.cons rfl (.refl _) (.cons rfl (.refl _) (.nil))))))) (.refl _) rfl
            · refine st_call [sV p0, sV [61, 63], iV v10] t_octet_Begins h (fun x6 hy => (octet_Begins_ok p0 [61, 63] v10 x6 hy)) (fun x6 hy h => ?_)
              refine JP1.a h ?_
              exact Le.tow 0 0 rfl (.cons rfl (.refl _) (.cons rfl (.refl _) (.cons rfl (.refl _) (.cons rfl (.refl _) (.cons rfl (.refl _) (.cons rfl (.refl _) (.nil))))))) (.refl _) rfl
      · refine bF ?_
        refine st_test h (fun hb h => ?_) (fun hb h => ?_)
        · refine bT ?_
          refine JP1.a h ?_
          exact Le.tow 0 0 rfl (.cons rfl (.refl _) (.cons rfl (.refl _) (.cons rfl (.refl _) (.cons rfl (.refl _) (.cons rfl (.refl _) (.cons rfl (.refl _) (.nil))))))) (.refl _) rfl
        · refine st_test h (fun hb h => ?_) (fun hb h => ?_)
          · refine JP1.a h ?_
            exact Le.tow 0 0 rfl (.cons rfl (.refl _) (.cons rfl (.refl _) (.cons rfl (.refl _) (.cons rfl (.refl _) (.cons rfl (.refl _) (.cons rfl (.refl _) (.nil))))))) (.refl _) rfl
          · refine st_call [sV p0, sV [61, 63], iV v10] t_octet_Begins h (fun x7 hy => (octet_Begins_ok p0 [61, 63] v10 x7 hy)) (fun x7 hy h => ?_)
            refine JP1.a h ?_
            exact Le.tow 0 0 rfl (.cons rfl (.refl _) (.cons rfl (.refl _) (.cons rfl (.refl _) (.cons rfl (.refl _) (.cons rfl (.refl _) (.cons rfl (.refl _) (.nil))))))) (.refl _) rfl
    · have h := hk
      refine st_test h (fun hb h => ?_) (fun hb h => ?_)
      · exact JP2.b h (Le.tow 0 0 rfl (.cons rfl (.refl _) (.nil)) (.refl _) rfl)
      · refine st_bind h (fun o8 ho hk => ?_)
        refine Exists.intro (JP1 _ _ o8 .normal (fold_Plain_J1_0 p0 v10)) (And.intro ?_ (join1 ?_))
        · have h := ho
          refine st_test h (fun hb h => ?_) (fun hb h => ?_)
          · refine JP1.a h ?_
            exact Le.tow 0 0 rfl (.cons rfl (.refl _) (.cons rfl (.refl _) (.cons rfl (.refl _) (.cons rfl (.refl _) (.nil))))) (.refl _) rfl
          · refine JP1.a h ?_
            exact Le.tow 0 0 rfl (.cons rfl (.refl _) (.cons rfl (.refl _) (.cons rfl (.refl _) (.cons rfl (.refl _) (.nil))))) (.refl _) rfl
        · have h := hk
          refine st_test h (fun hb h => ?_) (fun hb h => ?_)
          · exact JP2.b h (Le.tow 0 0 rfl (.cons rfl (.refl _) (.nil)) (.refl _) rfl)
          · refine TL.le (τ := fold_Plain_L1_st p0 o8 (wr (v10 + 1))) ?_ ((ih_fold_Plain_L1 o8 (wr (v10 + 1)) _ h))
            exact Le.tow 0 0 rfl (.cons rfl (.refl _) (.cons rfl (.refl _) (.cons rfl (.refl _) (.cons rfl (.refl _) (.nil))))) (.refl _) rfl
  · exact JP2.a h (Le.tow 0 0 rfl (.cons rfl (.refl _) (.nil)) (.refl _) rfl)
theorem fold_Plain_L1_ok : ∀ (p0 : (List UInt8)) (v3 : Int) (v10 : Int) (o1 : Int ⊕ Unit), fold_Plain_L1 p0 v3 v10 = some o1 → TL (0, 0) Tryd.prog 44 fold_Plain_L1_c (JP2 (0, 0) 44 o1 (.exit 0) (fold_Plain_L1_x0 p0) .ret (fold_Plain_L1_x1 p0)) (fold_Plain_L1_st p0 v3 v10) := fun p0 v3 v10 o1 h => (fold_Plain_L1_grp p0) v3 v10 o1 h
noncomputable def fold_Plain (p0 : (List UInt8)) : Option (Bool) :=
  if (p0 == []) then
    some true
  else
    (fold_Plain_L1 p0 0 0) >>= fun o1 =>
    match o1 with
    | .inl y2 =>
      some (decide (y2 > 0))
    | .inr y3 =>
      some false
set_option maxRecDepth 100000 in
set_option maxHeartbeats 4000000 in
theorem fold_Plain_ok : ∀ (p0 : (List UInt8)) (o : Bool), fold_Plain p0 = some o → PCall Tryd.prog 12 [sV p0] (t_fold_Plain o) := by
  intro p0 o h
  unfold fold_Plain at h
  refine PCall.ofB mixed tbOk fold_Plain_lv Tryd.func12 rfl (by kernel_rfl) (Nat.le_of_ble_eq_true rfl) ?_
  refine st_test h (fun hb h => ?_) (fun hb h => ?_)
  · refine st_ret (t := t_fold_Plain) h ?_
    exact .refl _
  · refine vrfl ?_
    refine st_bind h (fun o1 ho hk => ?_)
    refine Exists.intro (JP2 _ _ o1 (.exit 0) (fold_Plain_L1_x0 p0) .ret (fold_Plain_L1_x1 p0)) (And.intro (T_le (τ := fold_Plain_L1_st p0 0 0) ?_ (TL.loop (fold_Plain_L1_ok p0 0 0 o1 ho))) (join2 (fun y2 hy => ?_) (fun y3 hy => ?_)))
    · exact Le.tow 0 0 rfl (.cons rfl (.refl _) (.cons rfl (.refl _) (.cons rfl (.refl _) (.cons rfl (.refl _) (.nil))))) (.refl _) rfl
    · have h := (by rw [hy] at hk; exact hk)
      refine st_ret (t := t_fold_Plain) h ?_
      exact .refl _
    · have h := (by rw [hy] at hk; exact hk)
      refine st_ret (t := t_fold_Plain) h ?_
      exact .refl _
noncomputable def internal_stringslite_CutPrefix (p0 : (List UInt8)) (p1 : (List UInt8)) : Option ((List UInt8) × Bool) :=
  internal_stringslite_HasPrefix p0 p1 >>= fun x1 =>
  if (!x1) then
    some (p0, false)
  else
    cutL p0 (p1.length : Int) (p0.length : Int) >>= fun x2 =>
    some (x2, true)
set_option maxRecDepth 100000 in
set_option maxHeartbeats 4000000 in
theorem internal_stringslite_CutPrefix_ok : ∀ (p0 : (List UInt8)) (p1 : (List UInt8)) (o : (List UInt8) × Bool), internal_stringslite_CutPrefix p0 p1 = some o → PCall Tryd.prog 100 [sV p0, sV p1] (t_internal_stringslite_CutPrefix o) := by
  intro p0 p1 o h
  unfold internal_stringslite_CutPrefix at h
  refine PCall.ofB mixed tbOk internal_stringslite_CutPrefix_lv Tryd.func100 rfl (by kernel_rfl) (Nat.le_of_ble_eq_true rfl) ?_
  refine st_call [sV p0, sV p1] t_internal_stringslite_HasPrefix h (fun x1 hy => (internal_stringslite_HasPrefix_ok p0 p1 x1 hy)) (fun x1 hy h => ?_)
  refine st_test h (fun hb h => ?_) (fun hb h => ?_)
  · refine st_ret (t := t_internal_stringslite_CutPrefix) h ?_
    exact .refl _
  · refine vrfl ?_
    refine st_cuts (some (p1.length : Int)) none h (fun x2 hi h => ?_)
    refine st_ret (t := t_internal_stringslite_CutPrefix) h ?_
    exact .refl _
noncomputable def strings_CutPrefix (p0 : (List UInt8)) (p1 : (List UInt8)) : Option ((List UInt8) × Bool) :=
  internal_stringslite_CutPrefix p0 p1 >>= fun x1 =>
  some (x1.1, x1.2)
set_option maxRecDepth 100000 in
set_option maxHeartbeats 4000000 in
theorem strings_CutPrefix_ok : ∀ (p0 : (List UInt8)) (p1 : (List UInt8)) (o : (List UInt8) × Bool), strings_CutPrefix p0 p1 = some o → PCall Tryd.prog 65 [sV p0, sV p1] (t_strings_CutPrefix o) := by
  intro p0 p1 o h
  unfold strings_CutPrefix at h
  refine PCall.ofB mixed tbOk strings_CutPrefix_lv Tryd.func65 rfl (by kernel_rfl) (Nat.le_of_ble_eq_true rfl) ?_
  refine st_call [sV p0, sV p1] t_internal_stringslite_CutPrefix h (fun x1 hy => (internal_stringslite_CutPrefix_ok p0 p1 x1 hy)) (fun x1 hy h => ?_)
  refine st_ret (t := t_strings_CutPrefix) h ?_
  exact .refl _
noncomputable def internal_stringslite_HasSuffix (p0 : (List UInt8)) (p1 : (List UInt8)) : Option (Bool) :=
  ( if (decide ((p0.length : Int) ≥ (p1.length : Int))) then
      cutL p0 (wr ((p0.length : Int) - (p1.length : Int))) (p0.length : Int) >>= fun x2 =>
      some (x2 == p1)
    else
      some false : Option (Bool)) >>= fun o1 =>
  some o1
set_option maxRecDepth 100000 in
set_option maxHeartbeats 4000000 in
theorem internal_stringslite_HasSuffix_ok : ∀ (p0 : (List UInt8)) (p1 : (List UInt8)) (o : Bool), internal_stringslite_HasSuffix p0 p1 = some o → PCall Tryd.prog 121 [sV p0, sV p1] (t_internal_stringslite_HasSuffix o) := by
  intro p0 p1 o h
  unfold internal_stringslite_HasSuffix at h
  refine PCall.ofB mixed tbOk internal_stringslite_HasSuffix_lv Tryd.func121 rfl (by kernel_rfl) (Nat.le_of_ble_eq_true rfl) ?_
  refine st_bind h (fun o1 ho hk => ?_)
  refine Exists.intro (JP1 _ _ o1 .normal (internal_stringslite_HasSuffix_J0_0 )) (And.intro ?_ (join1 ?_))
  · have h := ho
    refine vrfl ?_
    refine vrfl ?_
    refine st_test h (fun hb h => ?_) (fun hb h => ?_)
    · refine vrfl ?_
      refine vrfl ?_
      refine st_cuts (some (wr ((p0.length : Int) - (p1.length : Int)))) none h (fun x2 hi h => ?_)
      refine JP1.a h ?_
      exact Le.tow 0 0 rfl (.cons rfl (.refl _) (.nil)) (.refl _) rfl
    · refine JP1.a h ?_
      exact Le.tow 0 0 rfl (.cons rfl (.refl _) (.nil)) (.refl _) rfl
  · have h := hk
    refine st_ret (t := t_internal_stringslite_HasSuffix) h ?_
    exact .refl _
noncomputable def internal_stringslite_CutSuffix (p0 : (List UInt8)) (p1 : (List UInt8)) : Option ((List UInt8) × Bool) :=
  internal_stringslite_HasSuffix p0 p1 >>= fun x1 =>
  if (!x1) then
    some (p0, false)
  else
    cutL p0 0 (wr ((p0.length : Int) - (p1.length : Int))) >>= fun x2 =>
    some (x2, true)
set_option maxRecDepth 100000 in
set_option maxHeartbeats 4000000 in
theorem internal_stringslite_CutSuffix_ok : ∀ (p0 : (List UInt8)) (p1 : (List UInt8)) (o : (List UInt8) × Bool), internal_stringslite_CutSuffix p0 p1 = some o → PCall Tryd.prog 93 [sV p0, sV p1] (t_internal_stringslite_CutSuffix o) := by
  intro p0 p1 o h
  unfold internal_stringslite_CutSuffix at h
  refine PCall.ofB mixed tbOk internal_stringslite_CutSuffix_lv Tryd.func93 rfl (by kernel_rfl) (Nat.le_of_ble_eq_true rfl) ?_
  refine st_call [sV p0, sV p1] t_internal_stringslite_HasSuffix h (fun x1 hy => (internal_stringslite_HasSuffix_ok p0 p1 x1 hy)) (fun x1 hy h => ?_)
  refine st_test h (fun hb h => ?_) (fun hb h => ?_)
  · refine st_ret (t := t_internal_stringslite_CutSuffix) h ?_
    exact .refl _
  · refine vrfl ?_
    refine vrfl ?_
    refine st_cuts none (some (wr ((p0.length : Int) - (p1.length : Int)))) h (fun x2 hi h => ?_)
    refine st_ret (t := t_internal_stringslite_CutSuffix) h ?_
    exact .refl _
noncomputable def strings_CutSuffix (p0 : (List UInt8)) (p1 : (List UInt8)) : Option ((List UInt8) × Bool) :=
  internal_stringslite_CutSuffix p0 p1 >>= fun x1 =>
  some (x1.1, x1.2)
set_option maxRecDepth 100000 in
set_option maxHeartbeats 4000000 in
theorem strings_CutSuffix_ok : ∀ (p0 : (List UInt8)) (p1 : (List UInt8)) (o : (List UInt8) × Bool), strings_CutSuffix p0 p1 = some o → PCall Tryd.prog 60 [sV p0, sV p1] (t_strings_CutSuffix o) := by
  intro p0 p1 o h
  unfold strings_CutSuffix at h
  refine PCall.ofB mixed tbOk strings_CutSuffix_lv Tryd.func60 rfl (by kernel_rfl) (Nat.le_of_ble_eq_true rfl) ?_
  refine st_call [sV p0, sV p1] t_internal_stringslite_CutSuffix h (fun x1 hy => (internal_stringslite_CutSuffix_ok p0 p1 x1 hy)) (fun x1 hy h => ?_)
  refine st_ret (t := t_strings_CutSuffix) h ?_
  exact .refl _
noncomputable def utf_Is_L1 (x1 : (List UInt8)) (l4 : (List (Int × Int))) : Option (Unit ⊕ Unit) :=
  match l4 with
  | [] =>
    some (.inl ())
  | x2 :: r3 =>
    ( if (x2.1 == 65533) then
        some (x2.2 == 1)
      else
        some false : Option (Bool)) >>= fun o9 =>
    if o9 then
      some (.inr ())
    else
      utf_Is_L1 x1 r3 
  partial_fixpoint
set_option maxRecDepth 100000 in
set_option maxHeartbeats 4000000 in
theorem utf_Is_L1_grp : ∀ (x1 : (List UInt8)), (∀ (l4 : (List (Int × Int))) (o6 : Unit ⊕ Unit), utf_Is_L1 x1 l4 = some o6 → RL 1 0 Tryd.prog 15 (rgP utf_Is_L1_c) (rgA utf_Is_L1_c) (rgB utf_Is_L1_c) (utf_Is_L1_st x1).env (JP2 (0, 0) 15 o6 .normal (utf_Is_L1_x0 x1) .ret (utf_Is_L1_x1 x1)) (l4.map e_utf_all_1) (utf_Is_L1_st x1).s) := by
  intro x1
  refine utf_Is_L1.partial_correctness x1 _ ?_
  intro utf_Is_L1' ih_utf_Is_L1 l4 o6 h
  cases l4 with
  | nil =>
    refine rl_nil ?_
    exact JP2.a h (Le.tow 1 0 rfl (.cons rfl (.refl _) (.cons rfl (.refl _) (.nil))) (.refl _) rfl)
  | cons x2 r3 =>
    refine rl_cons (bwp_sound mixed tbOk (lv := utf_Is_lv) _ _ _ ?_)
    refine And.intro rfl (bwp_sound mixed tbOk (lv := utf_Is_lv) _ _ _ ?_)
    refine st_bind h (fun o9 ho hk => ?_)
    refine Exists.intro (JP1 _ _ o9 .normal (utf_Is_J0_0 x1 x2)) (And.intro ?_ (join1 ?_))
    · have h := ho
      refine st_test h (fun hb h => ?_) (fun hb h => ?_)
      · refine JP1.a h ?_
        exact Le.tow 1 0 rfl (.cons rfl (.refl _) (.cons rfl (.refl _) (.cons rfl (.refl _) (.cons rfl (.refl _) (.cons rfl (.refl _) (.nil)))))) (.refl _) rfl
      · refine JP1.a h ?_
        exact Le.tow 1 0 rfl (.cons rfl (.refl _) (.cons rfl (.refl _) (.cons rfl (.refl _) (.cons rfl (.refl _) (.cons rfl (.refl _) (.nil)))))) (.refl _) rfl
    · have h := hk
      refine st_test h (fun hb h => ?_) (fun hb h => ?_)
      · exact Exists.intro (⟨[[.p (bV false)]], []⟩ : S) (And.intro (Le.tow 1 0 rfl .nil (.refl _) rfl) (And.intro rfl (And.intro rfl (JP2.b h (Le.tow 1 0 rfl (.cons rfl (.refl _) (.nil)) (.refl _) rfl)))))
      · exact Exists.intro (utf_Is_L1_st x1 ).s (And.intro (Le.tow 1 0 rfl (.nil) (.refl _) rfl) (And.intro rfl (And.intro rfl ((ih_utf_Is_L1 r3 _ h)))))
theorem utf_Is_L1_ok : ∀ (x1 : (List UInt8)) (l4 : (List (Int × Int))) (o6 : Unit ⊕ Unit), utf_Is_L1 x1 l4 = some o6 → RL 1 0 Tryd.prog 15 (rgP utf_Is_L1_c) (rgA utf_Is_L1_c) (rgB utf_Is_L1_c) (utf_Is_L1_st x1).env (JP2 (0, 0) 15 o6 .normal (utf_Is_L1_x0 x1) .ret (utf_Is_L1_x1 x1)) (l4.map e_utf_all_1) (utf_Is_L1_st x1).s := fun x1 l4 o6 h => (utf_Is_L1_grp x1) l4 o6 h
noncomputable def utf_all (p0 : (List UInt8)) : Option ((List UInt8)) :=
  some p0
set_option maxRecDepth 100000 in
set_option maxHeartbeats 4000000 in
theorem utf_all_ok : ∀ (p0 : (List UInt8)) (o : (List UInt8)), utf_all p0 = some o → PCall Tryd.prog 88 [sV p0] (t_utf_all o) := by
  intro p0 o h
  unfold utf_all at h
  refine PCall.ofM mixed tbOk utf_all_lv Tryd.func88 rfl (by kernel_rfl) (Nat.le_of_ble_eq_true rfl) ?_
  refine st_ret (t := t_utf_all) h ?_
  exact .refl _
noncomputable def utf_is (p0 : Int) : Option (Bool) :=
  ( if (decide (p0 ≥ 0)) then
      if (decide (p0 ≤ 1114111)) then
        if (decide (p0 < 55296)) then
          some true
        else
          some (decide (p0 > 57343))
      else
        some false
    else
      some false : Option (Bool)) >>= fun o1 =>
  some o1
set_option maxRecDepth 100000 in
set_option maxHeartbeats 4000000 in
theorem utf_is_ok : ∀ (p0 : Int) (o : Bool), utf_is p0 = some o → PCall Tryd.prog 89 [nV .i32 p0] (t_utf_is o) := by
  intro p0 o h
  unfold utf_is at h
  refine PCall.ofB mixed tbOk utf_is_lv Tryd.func89 rfl (by kernel_rfl) (Nat.le_of_ble_eq_true rfl) ?_
  refine st_bind h (fun o1 ho hk => ?_)
  refine Exists.intro (JP1 _ _ o1 .normal (utf_is_J0_0 )) (And.intro ?_ (join1 ?_))
  · have h := ho
    refine st_test h (fun hb h => ?_) (fun hb h => ?_)
    · refine st_test h (fun hb h => ?_) (fun hb h => ?_)
      · refine st_test h (fun hb h => ?_) (fun hb h => ?_)
        · refine JP1.a h ?_
          exact Le.tow 0 0 rfl (.cons rfl (.refl _) (.nil)) (.refl _) rfl
        · refine JP1.a h ?_
          exact Le.tow 0 0 rfl (.cons rfl (.refl _) (.nil)) (.refl _) rfl
      · refine JP1.a h ?_
        exact Le.tow 0 0 rfl (.cons rfl (.refl _) (.nil)) (.refl _) rfl
    · refine bF ?_
      refine JP1.a h ?_
      exact Le.tow 0 0 rfl (.cons rfl (.refl _) (.nil)) (.refl _) rfl
  · have h := hk
    refine st_ret (t := t_utf_is) h ?_
    exact .refl _
noncomputable def utf_tail_L1 (p0 : (List UInt8)) (p2 : Int) (v1 : Int) (v14 : Int) : Option (Int ⊕ Unit) :=
  if (decide (v14 < p2)) then
    idx p0 v14 >>= fun x4 =>
    if ((bits .and .u8 (x4.toNat : Int) 192) != 128) then
      some (.inr ())
    else
      idx p0 v14 >>= fun x5 =>
      utf_tail_L1 p0 p2 (bits .or .i32 (IntKind.i32.wrap (v1 * 2 ^ (min (6 : Int).toNat (IntKind.i32.bits)))) (IntKind.i32.wrap (bits .and .u8 (x5.toNat : Int) 63))) (wr (v14 + 1))
  else
    some (.inl v1)
  partial_fixpoint
set_option maxRecDepth 100000 in
set_option maxHeartbeats 4000000 in
theorem utf_tail_L1_grp : ∀ (p0 : (List UInt8)) (p2 : Int), (∀ (v1 : Int) (v14 : Int) (o1 : Int ⊕ Unit), utf_tail_L1 p0 p2 v1 v14 = some o1 → TL (0, 0) Tryd.prog 32 utf_tail_L1_c (JP2 (0, 0) 32 o1 (.exit 0) (utf_tail_L1_x0 p0 p2) .ret (utf_tail_L1_x1 p0 p2)) (utf_tail_L1_st p0 p2 v1 v14)) := by
  intro p0 p2
  refine utf_tail_L1.partial_correctness p0 p2 _ ?_
  intro utf_tail_L1' ih_utf_tail_L1 v1 v14 o1 h
  refine TL.round (bwp_sound mixed tbOk (lv := utf_tail_lv) _ _ _ ?_)
  refine st_test h (fun hb h => ?_) (fun hb h => ?_)
  · refine st_sidx h (fun x4 hi h => ?_)
    refine st_test h (fun hb h => ?_) (fun hb h => ?_)
    · exact JP2.b h (Le.tow 0 0 rfl (.cons rfl (.refl _) (.cons rfl (.refl _) (.nil))) (.refl _) rfl)
    · refine And.intro (by decide) ?_
      refine st_sidx h (fun x5 hi h => ?_)
      refine vrfl ?_
      refine TL.le (τ := utf_tail_L1_st p0 p2 (bits .or .i32 (IntKind.i32.wrap (v1 * 2 ^ (min (6 : Int).toNat (IntKind.i32.bits)))) (IntKind.i32.wrap (bits .and .u8 (x5.toNat : Int) 63))) (wr (v14 + 1))) ?_ ((ih_utf_tail_L1 (bits .or .i32 (IntKind.i32.wrap (v1 * 2 ^ (min (6 : Int).toNat (IntKind.i32.bits)))) (IntKind.i32.wrap (bits .and .u8 (x5.toNat : Int) 63))) (wr (v14 + 1)) _ h))
      exact Le.tow 0 0 rfl (.cons rfl (.refl _) (.cons rfl (.refl _) (.cons rfl (.refl _) (.cons rfl (.refl _) (.nil))))) (.refl _) rfl
  · exact JP2.a h (Le.tow 0 0 rfl (.cons rfl (.refl _) (.nil)) (.refl _) rfl)
theorem utf_tail_L1_ok : ∀ (p0 : (List UInt8)) (p2 : Int) (v1 : Int) (v14 : Int) (o1 : Int ⊕ Unit), utf_tail_L1 p0 p2 v1 v14 = some o1 → TL (0, 0) Tryd.prog 32 utf_tail_L1_c (JP2 (0, 0) 32 o1 (.exit 0) (utf_tail_L1_x0 p0 p2) .ret (utf_tail_L1_x1 p0 p2)) (utf_tail_L1_st p0 p2 v1 v14) := fun p0 p2 v1 v14 o1 h => (utf_tail_L1_grp p0 p2) v1 v14 o1 h
noncomputable def utf_tail (p0 : (List UInt8)) (p1 : Int) (p2 : Int) : Option (Int × Bool) :=
  if (decide ((p0.length : Int) < p2)) then
    some (0, false)
  else
    (utf_tail_L1 p0 p2 p1 0) >>= fun o1 =>
    match o1 with
    | .inl y2 =>
      some (y2, true)
    | .inr y3 =>
      some (0, false)
set_option maxRecDepth 100000 in
set_option maxHeartbeats 4000000 in
theorem utf_tail_ok : ∀ (p0 : (List UInt8)) (p1 : Int) (p2 : Int) (o : Int × Bool), utf_tail p0 p1 p2 = some o → PCall Tryd.prog 147 [sV p0, nV .i32 p1, iV p2] (t_utf_tail o) := by
  intro p0 p1 p2 o h
  unfold utf_tail at h
  refine PCall.ofB mixed tbOk utf_tail_lv Tryd.func147 rfl (by kernel_rfl) (Nat.le_of_ble_eq_true rfl) ?_
  refine vrfl ?_
  refine st_test h (fun hb h => ?_) (fun hb h => ?_)
  · refine st_ret (t := t_utf_tail) h ?_
    exact .refl _
  · refine st_bind h (fun o1 ho hk => ?_)
    refine Exists.intro (JP2 _ _ o1 (.exit 0) (utf_tail_L1_x0 p0 p2) .ret (utf_tail_L1_x1 p0 p2)) (And.intro (T_le (τ := utf_tail_L1_st p0 p2 p1 0) ?_ (TL.loop (utf_tail_L1_ok p0 p2 p1 0 o1 ho))) (join2 (fun y2 hy => ?_) (fun y3 hy => ?_)))
    · exact Le.tow 0 0 rfl (.cons rfl (.refl _) (.cons rfl (.refl _) (.cons rfl (.refl _) (.cons rfl (.refl _) (.nil))))) (.refl _) rfl
    · have h := (by rw [hy] at hk; exact hk)
      refine st_ret (t := t_utf_tail) h ?_
      exact .refl _
    · have h := (by rw [hy] at hk; exact hk)
      refine st_ret (t := t_utf_tail) h ?_
      exact .refl _
noncomputable def utf_Next (p0 : (List UInt8)) (p1 : Int) : Option (Int × Int) :=
  ( if (decide (p1 < 0)) then
      some true
    else
      some (decide (p1 ≥ (p0.length : Int))) : Option (Bool)) >>= fun o1 =>
  if o1 then
    some (0, 0)
  else
    idx p0 p1 >>= fun x2 =>
    ( if (decide ((x2.toNat : Int) < 128)) then
        some (.inr (IntKind.i32.wrap (x2.toNat : Int)))
      else
        ( if (decide ((x2.toNat : Int) ≥ 192)) then
            some (decide ((x2.toNat : Int) < 224))
          else
            some false : Option (Bool)) >>= fun o6 =>
        if o6 then
          some (.inl ((IntKind.i32.wrap (bits .and .u8 (x2.toNat : Int) 31)), 128, 1))
        else
          ( if (decide ((x2.toNat : Int) ≥ 224)) then
              some (decide ((x2.toNat : Int) < 240))
            else
              some false : Option (Bool)) >>= fun o7 =>
          if o7 then
            some (.inl ((IntKind.i32.wrap (bits .and .u8 (x2.toNat : Int) 15)), 2048, 2))
          else
            ( if (decide ((x2.toNat : Int) ≥ 240)) then
                some (decide ((x2.toNat : Int) < 248))
              else
                some false : Option (Bool)) >>= fun o8 =>
            if o8 then
              some (.inl ((IntKind.i32.wrap (bits .and .u8 (x2.toNat : Int) 7)), 65536, 3))
            else
              some (.inr 65533) : Option ((Int × Int × Int) ⊕ Int)) >>= fun o3 =>
    match o3 with
    | .inl y4 =>
      cutL p0 (wr (p1 + 1)) (p0.length : Int) >>= fun x9 =>
      utf_tail x9 y4.1 y4.2.2 >>= fun x10 =>
      ( if (!x10.2) then
          some true
        else
          if (decide (x10.1 < y4.2.1)) then
            some true
          else
            utf_is x10.1 >>= fun x12 =>
            some (!x12) : Option (Bool)) >>= fun o11 =>
      if o11 then
        some (65533, 1)
      else
        some (x10.1, (wr (y4.2.2 + 1)))
    | .inr y5 =>
      some (y5, 1)
set_option maxRecDepth 100000 in
set_option maxHeartbeats 4000000 in
theorem utf_Next_ok : ∀ (p0 : (List UInt8)) (p1 : Int) (o : Int × Int), utf_Next p0 p1 = some o → PCall Tryd.prog 118 [sV p0, iV p1] (t_utf_Next o) := by
  intro p0 p1 o h
  unfold utf_Next at h
  refine PCall.ofB mixed tbOk utf_Next_lv Tryd.func118 rfl (by kernel_rfl) (Nat.le_of_ble_eq_true rfl) ?_
  refine st_bind h (fun o1 ho hk => ?_)
  refine Exists.intro (JP1 _ _ o1 .normal (utf_Next_J0_0 p0 p1)) (And.intro ?_ (join1 ?_))
  · have h := ho
    refine st_test h (fun hb h => ?_) (fun hb h => ?_)
    · refine JP1.a h ?_
      exact Le.tow 0 0 rfl (.cons rfl (.refl _) (.cons rfl (.refl _) (.cons rfl (.refl _) (.nil)))) (.refl _) rfl
    · refine vrfl ?_
      refine JP1.a h ?_
      exact Le.tow 0 0 rfl (.cons rfl (.refl _) (.cons rfl (.refl _) (.cons rfl (.refl _) (.nil)))) (.refl _) rfl
  · have h := hk
    refine st_test h (fun hb h => ?_) (fun hb h => ?_)
    · refine st_ret (t := t_utf_Next) h ?_
      exact .refl _
    · refine st_sidx h (fun x2 hi h => ?_)
      refine st_bind h (fun o3 ho hk => ?_)
      refine Exists.intro (JP2 _ _ o3 .normal (utf_Next_J1_0 p0 p1) .ret (utf_Next_J1_1 p0 p1)) (And.intro ?_ (join2 (fun y4 hy => ?_) (fun y5 hy => ?_)))
      · have h := ho
        refine st_test h (fun hb h => ?_) (fun hb h => ?_)
        · refine vrfl ?_
          refine JP2.b h ?_
          exact Le.tow 0 0 rfl (.cons rfl (.refl _) (.cons rfl (.refl _) (.nil))) (.refl _) rfl
        · refine st_bind h (fun o6 ho hk => ?_)
          refine Exists.intro (JP1 _ _ o6 .normal (utf_Next_J2_0 p0 p1 x2)) (And.intro ?_ (join1 ?_))
          · have h := ho
            refine st_test h (fun hb h => ?_) (fun hb h => ?_)
            · refine JP1.a h ?_
              exact Le.tow 0 0 rfl (.cons rfl (.refl _) (.cons rfl (.refl _) (.cons rfl (.refl _) (.cons rfl (.refl _) (.nil))))) (.refl _) rfl
            · refine JP1.a h ?_
              exact Le.tow 0 0 rfl (.cons rfl (.refl _) (.cons rfl (.refl _) (.cons rfl (.refl _) (.cons rfl (.refl _) (.nil))))) (.refl _) rfl
          · have h := hk
            refine st_test h (fun hb h => ?_) (fun hb h => ?_)
            · refine vrfl ?_
              refine JP2.a h ?_
              exact Le.tow 0 0 rfl (.cons rfl (.refl _) (.cons rfl (.refl _) (.cons rfl (.refl _) (.cons rfl (.refl _) (.cons rfl (.refl _) (.nil)))))) (.refl _) rfl
            · refine st_bind h (fun o7 ho hk => ?_)
              refine Exists.intro (JP1 _ _ o7 .normal (utf_Next_J3_0 p0 p1 x2)) (And.intro ?_ (join1 ?_))
              · have h := ho
                refine st_test h (fun hb h => ?_) (fun hb h => ?_)
                · refine JP1.a h ?_
                  exact Le.tow 0 0 rfl (.cons rfl (.refl _) (.cons rfl (.refl _) (.cons rfl (.refl _) (.cons rfl (.refl _) (.nil))))) (.refl _) rfl
                · refine JP1.a h ?_
                  exact Le.tow 0 0 rfl (.cons rfl (.refl _) (.cons rfl (.refl _) (.cons rfl (.refl _) (.cons rfl (.refl _) (.nil))))) (.refl _) rfl
              · have h := hk
                refine st_test h (fun hb h => ?_) (fun hb h => ?_)
                · refine vrfl ?_
                  refine JP2.a h ?_
                  exact Le.tow 0 0 rfl (.cons rfl (.refl _) (.cons rfl (.refl _) (.cons rfl (.refl _) (.cons rfl (.refl _) (.cons rfl (.refl _) (.nil)))))) (.refl _) rfl
                · refine st_bind h (fun o8 ho hk => ?_)
                  refine Exists.intro (JP1 _ _ o8 .normal (utf_Next_J4_0 p0 p1 x2)) (And.intro ?_ (join1 ?_))
                  · have h := ho
                    refine st_test h (fun hb h => ?_) (fun hb h => ?_)
                    · refine JP1.a h ?_
                      exact Le.tow 0 0 rfl (.cons rfl (.refl _) (.cons rfl (.refl _) (.cons rfl (.refl _) (.cons rfl (.refl _) (.nil))))) (.refl _) rfl
                    · refine JP1.a h ?_
                      exact Le.tow 0 0 rfl (.cons rfl (.refl _) (.cons rfl (.refl _) (.cons rfl (.refl _) (.cons rfl (.refl _) (.nil))))) (.refl _) rfl
                  · have h := hk
                    refine st_test h (fun hb h => ?_) (fun hb h => ?_)
                    · refine vrfl ?_
                      refine JP2.a h ?_
                      exact Le.tow 0 0 rfl (.cons rfl (.refl _) (.cons rfl (.refl _) (.cons rfl (.refl _) (.cons rfl (.refl _) (.cons rfl (.refl _) (.nil)))))) (.refl _) rfl
                    · refine JP2.b h ?_
                      exact Le.tow 0 0 rfl (.cons rfl (.refl _) (.cons rfl (.refl _) (.nil))) (.refl _) rfl
      · have h := (by rw [hy] at hk; exact hk)
        refine st_cuts (some (wr (p1 + 1))) none h (fun x9 hi h => ?_)
        refine st_call [sV x9, nV .i32 y4.1, iV y4.2.2] t_utf_tail h (fun x10 hy => (utf_tail_ok x9 y4.1 y4.2.2 x10 hy)) (fun x10 hy h => ?_)
        refine st_bind h (fun o11 ho hk => ?_)
        refine Exists.intro (JP1 _ _ o11 .normal (utf_Next_J5_0 y4 x10)) (And.intro ?_ (join1 ?_))
        · have h := ho
          refine st_test h (fun hb h => ?_) (fun hb h => ?_)
          · refine bT ?_
            refine JP1.a h ?_
            exact Le.tow 0 0 rfl (.cons rfl (.refl _) (.cons rfl (.refl _) (.cons rfl (.refl _) (.nil)))) (.refl _) rfl
          · refine st_test h (fun hb h => ?_) (fun hb h => ?_)
            · refine JP1.a h ?_
              exact Le.tow 0 0 rfl (.cons rfl (.refl _) (.cons rfl (.refl _) (.cons rfl (.refl _) (.nil)))) (.refl _) rfl
            · refine st_call [nV .i32 x10.1] t_utf_is h (fun x12 hy => (utf_is_ok x10.1 x12 hy)) (fun x12 hy h => ?_)
              refine JP1.a h ?_
              exact Le.tow 0 0 rfl (.cons rfl (.refl _) (.cons rfl (.refl _) (.cons rfl (.refl _) (.nil)))) (.refl _) rfl
        · have h := hk
          refine st_test h (fun hb h => ?_) (fun hb h => ?_)
          · refine st_ret (t := t_utf_Next) h ?_
            exact .refl _
          · refine st_ret (t := t_utf_Next) h ?_
            exact .refl _
      · have h := (by rw [hy] at hk; exact hk)
        refine st_ret (t := t_utf_Next) h ?_
        exact .refl _
noncomputable def utf_all_1_L1 (p0 : (List UInt8)) (v3 : Int) : Option ((List (Int × Int)) × (Unit)) :=
  if (decide (v3 < (p0.length : Int))) then
    utf_Next p0 v3 >>= fun x3 =>
    ( utf_all_1_L1 p0 (wr (v3 + x3.2))) >>= fun q => some ((x3.1, x3.2) :: q.1, q.2)
  else
    some ([], ())
  partial_fixpoint
set_option maxRecDepth 100000 in
set_option maxHeartbeats 4000000 in
theorem utf_all_1_L1_grp : ∀ (p0 : (List UInt8)), (∀ (v3 : Int) (o2 : (List (Int × Int)) × (Unit)), utf_all_1_L1 p0 v3 = some o2 → ∀ (gxs gp gpost gq1 : List (List V)), gxs = gp ++ (o2.1.map e_utf_all_1 ++ gpost) → gxs = gq1 ++ gpost → TL (0, 1) Tryd.prog 24 utf_all_1_L1_c (Qs (0, 1) 24 gxs (JP1 (0, 1) 24 o2.2 (.exit 0) (utf_all_1_L1_x0 p0 gxs gq1))) (utf_all_1_L1_st p0 v3 gxs gp)) := by
  intro p0
  refine utf_all_1_L1.partial_correctness p0 _ ?_
  intro utf_all_1_L1' ih_utf_all_1_L1 v3 o2 h
  intro gxs gp gpost gq1 hx hq
  refine TL.round (bwp_sound mixed tbOk (lv := utf_all_1_lv) _ _ _ ?_)
  refine vrfl ?_
  refine st_test h (fun hb h => ?_) (fun hb h => ?_)
  · refine st_call [sV p0, iV v3] t_utf_Next h (fun x3 hy => (utf_Next_ok p0 v3 x3 hy)) (fun x3 hy h => ?_)
    refine st_yld (c := e_utf_all_1) h hx (.refl _) (by exact rfl) (by exact rfl) (fun _ h hx => ?_) ?_
    · refine bF ?_
      refine TL.le (τ := utf_all_1_L1_st p0 (wr (v3 + x3.2)) gxs (gp ++ [e_utf_all_1 (x3.1, x3.2)])) ?_ ((ih_utf_all_1_L1 (wr (v3 + x3.2)) _ h) _ _ _ _ hx hq)
      exact Le.tow 0 1 rfl (.cons rfl (.refl _) (.cons rfl (.refl _) (.cons rfl (.refl _) (.nil)))) (.refl _) rfl
    · refine bT ?_
      exact .inr ⟨rfl, _, (Le.env0 _).trans (Le.tow 0 1 rfl .nil (.refl _) rfl), rfl, rfl, rfl⟩
  · exact .inl (JP1.a (sndI h) (Le.tow 0 1 rfl (.nil) (.refl _) (liveQ h hx hq rfl)))
theorem utf_all_1_L1_ok : ∀ (p0 : (List UInt8)) (v3 : Int) (o2 : (List (Int × Int)) × (Unit)), utf_all_1_L1 p0 v3 = some o2 → ∀ (gxs gp gpost gq1 : List (List V)), gxs = gp ++ (o2.1.map e_utf_all_1 ++ gpost) → gxs = gq1 ++ gpost → TL (0, 1) Tryd.prog 24 utf_all_1_L1_c (Qs (0, 1) 24 gxs (JP1 (0, 1) 24 o2.2 (.exit 0) (utf_all_1_L1_x0 p0 gxs gq1))) (utf_all_1_L1_st p0 v3 gxs gp) := fun p0 v3 o2 h => (utf_all_1_L1_grp p0) v3 o2 h
noncomputable def utf_all_1 (p0 : (List UInt8)) : Option ((List (Int × Int)) × Unit) :=
  ( utf_all_1_L1 p0 0) >>= fun o2 => (
    some ([], ())) >>= fun q => some (o2.1 ++ q.1, q.2)
set_option maxRecDepth 100000 in
set_option maxHeartbeats 4000000 in
theorem utf_all_1_ok : ∀ (p0 : (List UInt8)) (o : (List (Int × Int)) × Unit), utf_all_1 p0 = some o → ∀ gxs : List (List V), gxs = o.1.map e_utf_all_1 → IterOK Tryd.prog 117 [.ep [sV p0]] gxs := by
  intro p0 o h
  unfold utf_all_1 at h
  intro gxs hg
  have hx : gxs = [] ++ (o.1.map e_utf_all_1 ++ []) := by simp [hg]
  refine IterOK.ofB mixed tbOk utf_all_1_lv Tryd.func117 rfl (by kernel_rfl) (Nat.le_of_ble_eq_true rfl) rfl ?_
  refine st_bindI h hx (fun o2 lgq1 gq1 ho hk hxa hjgq1 => ?_)
  refine Exists.intro (Qs _ _ gxs (JP1 _ _ o2.2 (.exit 0) (utf_all_1_L1_x0 p0 gxs gq1))) (And.intro (T_le (τ := utf_all_1_L1_st p0 0 gxs ([] : List (List V))) ?_ (TL.loop ((utf_all_1_L1_ok p0 0 o2 ho) _ _ _ _ hxa hjgq1))) (joinS (join1 ?_) ?_))
  · exact Le.tow 0 1 rfl (.cons rfl (.refl _) (.cons rfl (.refl _) (.cons rfl (.refl _) (.nil)))) (.refl _) rfl
  · have h := hk
    have hx := hjgq1
    exact st_iend h hx (.inl rfl) rfl
  · exact fun s1 h1 h2 hs => st_istop (.inr rfl) hs
noncomputable def utf_Is (p0 : (List UInt8)) : Option (Bool) :=
  utf_all p0 >>= fun x1 =>
  utf_all_1 x1 >>= fun y5 =>
  (utf_Is_L1 x1 y5.1) >>= fun o6 =>
  match o6 with
  | .inl y7 =>
    some true
  | .inr y8 =>
    some false
set_option maxRecDepth 100000 in
set_option maxHeartbeats 4000000 in
theorem utf_Is_ok : ∀ (p0 : (List UInt8)) (o : Bool), utf_Is p0 = some o → PCall Tryd.prog 67 [sV p0] (t_utf_Is o) := by
  intro p0 o h
  unfold utf_Is at h
  refine PCall.ofB mixed tbOk utf_Is_lv Tryd.func67 rfl (by kernel_rfl) (Nat.le_of_ble_eq_true rfl) ?_
  refine st_call [sV p0] t_utf_all h (fun x1 hy => (utf_all_ok p0 x1 hy)) (fun x1 hy h => ?_)
  refine st_bind h (fun y5 hy5 h => ?_)
  refine st_bind h (fun o6 ho hk => ?_)
  refine Exists.intro (JP2 _ _ o6 .normal (utf_Is_L1_x0 x1) .ret (utf_Is_L1_x1 x1)) (And.intro (T_le (τ := utf_Is_L1_st x1) ?_ (T_range (g := 117) (cap := [.ep [sV x1]]) rfl ((utf_all_1_ok x1 y5 hy5) _ rfl) (mapSize fun _ => rfl) rfl (Nat.le_of_ble_eq_true rfl) (Nat.le_of_ble_eq_true rfl) (utf_Is_L1_ok x1 y5.1 o6 ho))) (join2 (fun y7 hy => ?_) (fun y8 hy => ?_)))
  · exact Le.tow 1 0 rfl (.cons rfl (.refl _) (.cons rfl (.refl _) (.nil))) (.refl _) rfl
  · have h := (by rw [hy] at hk; exact hk)
    refine st_ret (t := t_utf_Is) h ?_
    exact .refl _
  · have h := (by rw [hy] at hk; exact hk)
    refine st_ret (t := t_utf_Is) h ?_
    exact .refl _
noncomputable def fold_decoded (p0 : (List UInt8)) : Option ((List UInt8) × Bool) :=
  strings_CutPrefix p0 [61, 63, 85, 84, 70, 45, 56, 63, 66, 63] >>= fun x1 =>
  strings_CutSuffix x1.1 [63, 61] >>= fun x2 =>
  ( if (!x1.2) then
      some true
    else
      some (!x2.2) : Option (Bool)) >>= fun o3 =>
  if o3 then
    some (p0, false)
  else
    b64_Decode x2.1 >>= fun x4 =>
    ( if (x4.2 != 0) then
        some true
      else
        utf_Is x4.1 >>= fun x6 =>
        some (!x6) : Option (Bool)) >>= fun o5 =>
    if o5 then
      some (p0, false)
    else
      some (x4.1, true)
set_option maxRecDepth 100000 in
set_option maxHeartbeats 4000000 in
theorem fold_decoded_ok : ∀ (p0 : (List UInt8)) (o : (List UInt8) × Bool), fold_decoded p0 = some o → PCall Tryd.prog 38 [sV p0] (t_fold_decoded o) := by
  intro p0 o h
  unfold fold_decoded at h
  refine PCall.ofB mixed tbOk fold_decoded_lv Tryd.func38 rfl (by kernel_rfl) (Nat.le_of_ble_eq_true rfl) ?_
  refine st_call [sV p0, sV [61, 63, 85, 84, 70, 45, 56, 63, 66, 63]] t_strings_CutPrefix h (fun x1 hy => (strings_CutPrefix_ok p0 [61, 63, 85, 84, 70, 45, 56, 63, 66, 63] x1 hy)) (fun x1 hy h => ?_)
  refine st_call [sV x1.1, sV [63, 61]] t_strings_CutSuffix h (fun x2 hy => (strings_CutSuffix_ok x1.1 [63, 61] x2 hy)) (fun x2 hy h => ?_)
  refine st_bind h (fun o3 ho hk => ?_)
  refine Exists.intro (JP1 _ _ o3 .normal (fold_decoded_J0_0 p0 x2)) (And.intro ?_ (join1 ?_))
  · have h := ho
    refine st_test h (fun hb h => ?_) (fun hb h => ?_)
    · refine JP1.a h ?_
      exact Le.tow 0 0 rfl (.cons rfl (.refl _) (.cons rfl (.refl _) (.cons rfl (.refl _) (.nil)))) (.refl _) rfl
    · refine JP1.a h ?_
      exact Le.tow 0 0 rfl (.cons rfl (.refl _) (.cons rfl (.refl _) (.cons rfl (.refl _) (.nil)))) (.refl _) rfl
  · have h := hk
    refine st_test h (fun hb h => ?_) (fun hb h => ?_)
    · refine st_ret (t := t_fold_decoded) h ?_
      exact .refl _
    · refine st_call [sV x2.1] t_b64_Decode h (fun x4 hy => (b64_Decode_ok x2.1 x4 hy)) (fun x4 hy h => ?_)
      refine st_bind h (fun o5 ho hk => ?_)
      refine Exists.intro (JP1 _ _ o5 .normal (fold_decoded_J1_0 p0 x4)) (And.intro ?_ (join1 ?_))
      · have h := ho
        refine st_test h (fun hb h => ?_) (fun hb h => ?_)
        · refine JP1.a h ?_
          exact Le.tow 0 0 rfl (.cons rfl (.refl _) (.cons rfl (.refl _) (.cons rfl (.refl _) (.nil)))) (.refl _) rfl
        · refine st_call [sV x4.1] t_utf_Is h (fun x6 hy => (utf_Is_ok x4.1 x6 hy)) (fun x6 hy h => ?_)
          refine JP1.a h ?_
          exact Le.tow 0 0 rfl (.cons rfl (.refl _) (.cons rfl (.refl _) (.cons rfl (.refl _) (.nil)))) (.refl _) rfl
      · have h := hk
        refine st_test h (fun hb h => ?_) (fun hb h => ?_)
        · refine st_ret (t := t_fold_decoded) h ?_
          exact .refl _
        · refine st_ret (t := t_fold_decoded) h ?_
          exact .refl _
noncomputable def fold_Read_L1 (x2 : (List UInt8) × (List UInt8) × Bool) (x6 : (List (List UInt8))) (v42 : Int) (v10 : Bool) (v11 : Bool) (h0_0 : Bool) (h0_1 : (List Int)) : Option ((Bool × (List Int))) :=
  if (decide (v42 < (x6.length : Int))) then
    idx x6 v42 >>= fun x8 =>
    if (x8 == []) then
      fold_Read_L1 x2 x6 (wr (v42 + 1)) v10 v11 h0_0 h0_1
    else
      fold_decoded x8 >>= fun x9 =>
      ( if v10 then
          if v11 then
            some (!x9.2)
          else
            some true
        else
          some false : Option (Bool)) >>= fun o10 =>
      if o10 then
        strings_Builder_WriteByte_2 32 h0_0 h0_1 >>= fun x11 =>
        strings_Builder_WriteString_5 x9.1 x11.2.1 x11.2.2 >>= fun x12 =>
        fold_Read_L1 x2 x6 (wr (v42 + 1)) true x9.2 x12.2.2.1 x12.2.2.2
      else
        strings_Builder_WriteString_5 x9.1 h0_0 h0_1 >>= fun x13 =>
        fold_Read_L1 x2 x6 (wr (v42 + 1)) true x9.2 x13.2.2.1 x13.2.2.2
  else
    some (h0_0, h0_1)
  partial_fixpoint
set_option maxRecDepth 100000 in
set_option maxHeartbeats 4000000 in
theorem fold_Read_L1_grp : ∀ (x2 : (List UInt8) × (List UInt8) × Bool) (x6 : (List (List UInt8))), (∀ (v42 : Int) (v10 : Bool) (v11 : Bool) (h0_0 : Bool) (h0_1 : (List Int)) (o7 : (Bool × (List Int))), fold_Read_L1 x2 x6 v42 v10 v11 h0_0 h0_1 = some o7 → TL (0, 0) Tryd.prog 68 fold_Read_L1_c (JP1 (0, 0) 68 o7 (.exit 0) (fold_Read_L1_x0 x2 x6)) (fold_Read_L1_st x2 x6 v42 v10 v11 h0_0 h0_1)) := by
  intro x2 x6
  refine fold_Read_L1.partial_correctness x2 x6 _ ?_
  intro fold_Read_L1' ih_fold_Read_L1 v42 v10 v11 h0_0 h0_1 o7 h
  refine TL.round (bwp_sound mixed tbOk (lv := fold_Read_lv) _ _ _ ?_)
  refine st_test h (fun hb h => ?_) (fun hb h => ?_)
  · refine st_idx (l := x6) (c := cStr) (c' := cStr) h (fun _ => rfl) (fun _ => rfl) (by decide) (fun x8 hi h => ?_)
    refine st_test h (fun hb h => ?_) (fun hb h => ?_)
    · refine TL.le (τ := fold_Read_L1_st x2 x6 (wr (v42 + 1)) v10 v11 h0_0 h0_1) ?_ ((ih_fold_Read_L1 (wr (v42 + 1)) v10 v11 h0_0 h0_1 _ h))
      exact Le.tow 1 1 rfl (.cons rfl (.refl _) (.cons rfl (.refl _) (.cons rfl (.refl _) (.cons rfl (.refl _) (.cons rfl (.refl _) (.cons rfl (.refl _) (.cons rfl (.refl _) (.nil)))))))) (.refl _) rfl
    · refine st_call [sV x8] t_fold_decoded h (fun x9 hy => (fold_decoded_ok x8 x9 hy)) (fun x9 hy h => ?_)
      refine st_bind h (fun o10 ho hk => ?_)
      refine Exists.intro (JP1 _ _ o10 .normal (fold_Read_J1_0 x2 x6 v42 h0_0 h0_1 x9)) (And.intro ?_ (join1 ?_))
      · have h := ho
        refine st_test h (fun hb h => ?_) (fun hb h => ?_)
        · refine st_test h (fun hb h => ?_) (fun hb h => ?_)
          · refine JP1.a h ?_
            exact Le.tow 1 1 rfl (.cons rfl (.refl _) (.cons rfl (.refl _) (.cons rfl (.refl _) (.cons rfl (.refl _) (.cons rfl (.refl _) (.cons rfl (.refl _) (.cons rfl (.refl _) (.cons rfl (.refl _) (.nil))))))))) (.refl _) rfl
          · refine JP1.a h ?_
            exact Le.tow 1 1 rfl (.cons rfl (.refl _) (.cons rfl (.refl _) (.cons rfl (.refl _) (.cons rfl (.refl _) (.cons rfl (.refl _) (.cons rfl (.refl _) (.cons rfl (.refl _) (.cons rfl (.refl _) (.nil))))))))) (.refl _) rfl
        · refine JP1.a h ?_
          exact Le.tow 1 1 rfl (.cons rfl (.refl _) (.cons rfl (.refl _) (.cons rfl (.refl _) (.cons rfl (.refl _) (.cons rfl (.refl _) (.cons rfl (.refl _) (.cons rfl (.refl _) (.cons rfl (.refl _) (.nil))))))))) (.refl _) rfl
      · have h := hk
        refine st_test h (fun hb h => ?_) (fun hb h => ?_)
        · refine st_callc _ _ h (fun x11 hy => ((strings_Builder_WriteByte_2_ok 32 h0_0 h0_1 x11 hy).fr [0] [0] rfl rfl rfl)) (fun x11 hy h => ?_)
          refine st_callc _ _ h (fun x12 hy => ((strings_Builder_WriteString_5_ok x9.1 x11.2.1 x11.2.2 x12 hy).fr [0] [0] rfl rfl rfl)) (fun x12 hy h => ?_)
          refine TL.le (τ := fold_Read_L1_st x2 x6 (wr (v42 + 1)) true x9.2 x12.2.2.1 x12.2.2.2) ?_ ((ih_fold_Read_L1 (wr (v42 + 1)) true x9.2 x12.2.2.1 x12.2.2.2 _ h))
          exact Le.tow 1 1 rfl (.cons rfl (.refl _) (.cons rfl (.refl _) (.cons rfl (.refl _) (.cons rfl (.refl _) (.cons rfl (.refl _) (.cons rfl (.refl _) (.cons rfl (.refl _) (.nil)))))))) (.refl _) rfl
        · refine st_callc _ _ h (fun x13 hy => ((strings_Builder_WriteString_5_ok x9.1 h0_0 h0_1 x13 hy).fr [0] [0] rfl rfl rfl)) (fun x13 hy h => ?_)
          refine TL.le (τ := fold_Read_L1_st x2 x6 (wr (v42 + 1)) true x9.2 x13.2.2.1 x13.2.2.2) ?_ ((ih_fold_Read_L1 (wr (v42 + 1)) true x9.2 x13.2.2.1 x13.2.2.2 _ h))
          exact Le.tow 1 1 rfl (.cons rfl (.refl _) (.cons rfl (.refl _) (.cons rfl (.refl _) (.cons rfl (.refl _) (.cons rfl (.refl _) (.cons rfl (.refl _) (.cons rfl (.refl _) (.nil)))))))) (.refl _) rfl
  · exact JP1.a h (Le.tow 1 1 rfl (.cons rfl (.refl _) (.cons rfl (.refl _) (.nil))) (.refl _) rfl)
theorem fold_Read_L1_ok : ∀ (x2 : (List UInt8) × (List UInt8) × Bool) (x6 : (List (List UInt8))) (v42 : Int) (v10 : Bool) (v11 : Bool) (h0_0 : Bool) (h0_1 : (List Int)) (o7 : (Bool × (List Int))), fold_Read_L1 x2 x6 v42 v10 v11 h0_0 h0_1 = some o7 → TL (0, 0) Tryd.prog 68 fold_Read_L1_c (JP1 (0, 0) 68 o7 (.exit 0) (fold_Read_L1_x0 x2 x6)) (fold_Read_L1_st x2 x6 v42 v10 v11 h0_0 h0_1) := fun x2 x6 v42 v10 v11 h0_0 h0_1 o7 h => (fold_Read_L1_grp x2 x6) v42 v10 v11 h0_0 h0_1 o7 h
noncomputable def fold_blank (p0 : Int) : Option (Bool) :=
  ( if (p0 == 32) then
      some true
    else
      some (p0 == 9) : Option (Bool)) >>= fun o1 =>
  some o1
set_option maxRecDepth 100000 in
set_option maxHeartbeats 4000000 in
theorem fold_blank_ok : ∀ (p0 : Int) (o : Bool), fold_blank p0 = some o → PCall Tryd.prog 61 [nV .u8 p0] (t_fold_blank o) := by
  intro p0 o h
  unfold fold_blank at h
  refine PCall.ofB mixed tbOk fold_blank_lv Tryd.func61 rfl (by kernel_rfl) (Nat.le_of_ble_eq_true rfl) ?_
  refine st_bind h (fun o1 ho hk => ?_)
  refine Exists.intro (JP1 _ _ o1 .normal (fold_blank_J0_0 )) (And.intro ?_ (join1 ?_))
  · have h := ho
    refine st_test h (fun hb h => ?_) (fun hb h => ?_)
    · refine JP1.a h ?_
      exact Le.tow 0 0 rfl (.cons rfl (.refl _) (.nil)) (.refl _) rfl
    · refine JP1.a h ?_
      exact Le.tow 0 0 rfl (.cons rfl (.refl _) (.nil)) (.refl _) rfl
  · have h := hk
    refine st_ret (t := t_fold_blank) h ?_
    exact .refl _
noncomputable def fold_line_L1 (x1 : (List UInt8) × Bool) (v6 : Int) (h0_0 : Bool) (h0_1 : (List Int)) : Option ((Bool × (List Int)) ⊕ (Bool × (List Int))) :=
  if (decide (v6 < (x1.1.length : Int))) then
    ( octet_Begins x1.1 [13, 10] v6 >>= fun x6 =>
      if x6 then
        if (decide ((wr (v6 + 2)) < (x1.1.length : Int))) then
          idx x1.1 (wr (v6 + 2)) >>= fun x7 =>
          fold_blank (x7.toNat : Int) >>= fun x8 =>
          some x8
        else
          some false
      else
        some false : Option (Bool)) >>= fun o5 =>
    if o5 then
      fold_line_L1 x1 (wr ((wr (v6 + 1)) + 1)) h0_0 h0_1
    else
      ( idx x1.1 v6 >>= fun x10 =>
        if ((x10.toNat : Int) == 13) then
          some true
        else
          idx x1.1 v6 >>= fun x11 =>
          some ((x11.toNat : Int) == 10) : Option (Bool)) >>= fun o9 =>
      if o9 then
        some (.inr (h0_0, h0_1))
      else
        idx x1.1 v6 >>= fun x12 =>
        strings_Builder_WriteByte_2 (x12.toNat : Int) h0_0 h0_1 >>= fun x13 =>
        fold_line_L1 x1 (wr (v6 + 1)) x13.2.1 x13.2.2
  else
    some (.inl (h0_0, h0_1))
  partial_fixpoint
set_option maxRecDepth 100000 in
set_option maxHeartbeats 4000000 in
theorem fold_line_L1_grp : ∀ (x1 : (List UInt8) × Bool), (∀ (v6 : Int) (h0_0 : Bool) (h0_1 : (List Int)) (o2 : (Bool × (List Int)) ⊕ (Bool × (List Int))), fold_line_L1 x1 v6 h0_0 h0_1 = some o2 → TL (0, 0) Tryd.prog 54 fold_line_L1_c (JP2 (0, 0) 54 o2 (.exit 0) (fold_line_L1_x0 x1) .ret (fold_line_L1_x1 x1)) (fold_line_L1_st x1 v6 h0_0 h0_1)) := by
  intro x1
  refine fold_line_L1.partial_correctness x1 _ ?_
  intro fold_line_L1' ih_fold_line_L1 v6 h0_0 h0_1 o2 h
  refine TL.round (bwp_sound mixed tbOk (lv := fold_line_lv) _ _ _ ?_)
  refine vrfl ?_
  refine st_test h (fun hb h => ?_) (fun hb h => ?_)
  · refine st_bind h (fun o5 ho hk => ?_)
    refine Exists.intro (JP1 _ _ o5 .normal (fold_line_J0_0 x1 v6 h0_0 h0_1)) (And.intro ?_ (join1 ?_))
    · have h := ho
      refine st_call [sV x1.1, sV [13, 10], iV v6] t_octet_Begins h (fun x6 hy => (octet_Begins_ok x1.1 [13, 10] v6 x6 hy)) (fun x6 hy h => ?_)
      refine st_test h (fun hb h => ?_) (fun hb h => ?_)
      · refine vrfl ?_
        refine st_test h (fun hb h => ?_) (fun hb h => ?_)
        · refine st_sidx h (fun x7 hi h => ?_)
          refine st_call [nV .u8 (x7.toNat : Int)] t_fold_blank h (fun x8 hy => (fold_blank_ok (x7.toNat : Int) x8 hy)) (fun x8 hy h => ?_)
          refine JP1.a h ?_
          exact Le.tow 1 1 rfl (.cons rfl (.refl _) (.cons rfl (.refl _) (.cons rfl (.refl _) (.cons rfl (.refl _) (.nil))))) (.refl _) rfl
        · refine JP1.a h ?_
          exact Le.tow 1 1 rfl (.cons rfl (.refl _) (.cons rfl (.refl _) (.cons rfl (.refl _) (.cons rfl (.refl _) (.nil))))) (.refl _) rfl
      · refine bF ?_
        refine JP1.a h ?_
        exact Le.tow 1 1 rfl (.cons rfl (.refl _) (.cons rfl (.refl _) (.cons rfl (.refl _) (.cons rfl (.refl _) (.nil))))) (.refl _) rfl
    · have h := hk
      refine st_test h (fun hb h => ?_) (fun hb h => ?_)
      · refine TL.le (τ := fold_line_L1_st x1 (wr ((wr (v6 + 1)) + 1)) h0_0 h0_1) ?_ ((ih_fold_line_L1 (wr ((wr (v6 + 1)) + 1)) h0_0 h0_1 _ h))
        exact Le.tow 1 1 rfl (.cons rfl (.refl _) (.cons rfl (.refl _) (.cons rfl (.refl _) (.nil)))) (.refl _) rfl
      · refine st_bind h (fun o9 ho hk => ?_)
        refine Exists.intro (JP1 _ _ o9 .normal (fold_line_J1_0 x1 v6 h0_0 h0_1)) (And.intro ?_ (join1 ?_))
        · have h := ho
          refine st_sidx h (fun x10 hi h => ?_)
          refine st_test h (fun hb h => ?_) (fun hb h => ?_)
          · refine JP1.a h ?_
            exact Le.tow 1 1 rfl (.cons rfl (.refl _) (.cons rfl (.refl _) (.cons rfl (.refl _) (.cons rfl (.refl _) (.nil))))) (.refl _) rfl
          · refine st_sidx h (fun x11 hi h => ?_)
            refine JP1.a h ?_
            exact Le.tow 1 1 rfl (.cons rfl (.refl _) (.cons rfl (.refl _) (.cons rfl (.refl _) (.cons rfl (.refl _) (.nil))))) (.refl _) rfl
        · have h := hk
          refine st_test h (fun hb h => ?_) (fun hb h => ?_)
          · exact JP2.b h (Le.tow 1 1 rfl (.cons rfl (.refl _) (.cons rfl (.refl _) (.nil))) (.refl _) rfl)
          · refine st_sidx h (fun x12 hi h => ?_)
            refine st_callc _ _ h (fun x13 hy => ((strings_Builder_WriteByte_2_ok (x12.toNat : Int) h0_0 h0_1 x13 hy).fr [0] [0] rfl rfl rfl)) (fun x13 hy h => ?_)
            refine TL.le (τ := fold_line_L1_st x1 (wr (v6 + 1)) x13.2.1 x13.2.2) ?_ ((ih_fold_line_L1 (wr (v6 + 1)) x13.2.1 x13.2.2 _ h))
            exact Le.tow 1 1 rfl (.cons rfl (.refl _) (.cons rfl (.refl _) (.cons rfl (.refl _) (.nil)))) (.refl _) rfl
  · exact JP2.a h (Le.tow 1 1 rfl (.cons rfl (.refl _) (.nil)) (.refl _) rfl)
theorem fold_line_L1_ok : ∀ (x1 : (List UInt8) × Bool) (v6 : Int) (h0_0 : Bool) (h0_1 : (List Int)) (o2 : (Bool × (List Int)) ⊕ (Bool × (List Int))), fold_line_L1 x1 v6 h0_0 h0_1 = some o2 → TL (0, 0) Tryd.prog 54 fold_line_L1_c (JP2 (0, 0) 54 o2 (.exit 0) (fold_line_L1_x0 x1) .ret (fold_line_L1_x1 x1)) (fold_line_L1_st x1 v6 h0_0 h0_1) := fun x1 v6 h0_0 h0_1 o2 h => (fold_line_L1_grp x1) v6 h0_0 h0_1 o2 h
noncomputable def fold_line (p0 : (List UInt8)) : Option ((List UInt8) × Bool) :=
  strings_CutSuffix p0 [13, 10] >>= fun x1 =>
  if (!x1.2) then
    some ([], false)
  else
    (fold_line_L1 x1 0 false []) >>= fun o2 =>
    match o2 with
    | .inl y3 =>
      strings_Builder_String_4 y3.1 y3.2 >>= fun x14 =>
      some (x14, true)
    | .inr y4 =>
      some ([], false)
set_option maxRecDepth 100000 in
set_option maxHeartbeats 4000000 in
theorem fold_line_ok : ∀ (p0 : (List UInt8)) (o : (List UInt8) × Bool), fold_line p0 = some o → PCall Tryd.prog 34 [sV p0] (t_fold_line o) := by
  intro p0 o h
  unfold fold_line at h
  refine PCall.ofB mixed tbOk fold_line_lv Tryd.func34 rfl (by kernel_rfl) (Nat.le_of_ble_eq_true rfl) ?_
  refine st_call [sV p0, sV [13, 10]] t_strings_CutSuffix h (fun x1 hy => (strings_CutSuffix_ok p0 [13, 10] x1 hy)) (fun x1 hy h => ?_)
  refine st_test h (fun hb h => ?_) (fun hb h => ?_)
  · refine st_ret (t := t_fold_line) h ?_
    exact .refl _
  · refine st_bind h (fun o2 ho hk => ?_)
    refine Exists.intro (JP2 _ _ o2 (.exit 0) (fold_line_L1_x0 x1) .ret (fold_line_L1_x1 x1)) (And.intro (T_le (τ := fold_line_L1_st x1 0 false []) ?_ (TL.loop (fold_line_L1_ok x1 0 false [] o2 ho))) (join2 (fun y3 hy => ?_) (fun y4 hy => ?_)))
    · exact (Le.ownH 0 1 5 1 rfl rfl sizeNil).trans (Le.tow 1 1 rfl (.cons rfl (.refl _) (.cons rfl (.refl _) (.cons rfl (.refl _) (.nil)))) (.refl _) rfl)
    · have h := (by rw [hy] at hk; exact hk)
      refine st_callc _ _ h (fun x14 hy => ((strings_Builder_String_4_ok y3.1 y3.2 x14 hy).fr [0] [0] rfl rfl rfl)) (fun x14 hy h => ?_)
      refine st_ret (t := t_fold_line) h ?_
      exact .refl _
    · have h := (by rw [hy] at hk; exact hk)
      refine st_ret (t := t_fold_line) h ?_
      exact .refl _
noncomputable def fold_name_L1 (p0 : (List UInt8)) (v7 : Int) : Option (Unit ⊕ Unit) :=
  if (decide (v7 < (p0.length : Int))) then
    idx p0 v7 >>= fun x4 =>
    ( if (decide ((bits .or .u8 (x4.toNat : Int) 32) < 97)) then
        if (decide ((x4.toNat : Int) < 48)) then
          some ((x4.toNat : Int) != 45)
        else
          if (decide ((x4.toNat : Int) > 57)) then
            some ((x4.toNat : Int) != 45)
          else
            some false
      else
        if (decide ((bits .or .u8 (x4.toNat : Int) 32) > 122)) then
          if (decide ((x4.toNat : Int) < 48)) then
            some ((x4.toNat : Int) != 45)
          else
            if (decide ((x4.toNat : Int) > 57)) then
              some ((x4.toNat : Int) != 45)
            else
              some false
        else
          some false : Option (Bool)) >>= fun o5 =>
    if o5 then
      some (.inr ())
    else
      fold_name_L1 p0 (wr (v7 + 1))
  else
    some (.inl ())
  partial_fixpoint
set_option maxRecDepth 100000 in
set_option maxHeartbeats 4000000 in
theorem fold_name_L1_grp : ∀ (p0 : (List UInt8)), (∀ (v7 : Int) (o1 : Unit ⊕ Unit), fold_name_L1 p0 v7 = some o1 → TL (0, 0) Tryd.prog 41 fold_name_L1_c (JP2 (0, 0) 41 o1 (.exit 0) (fold_name_L1_x0 p0) .ret (fold_name_L1_x1 p0)) (fold_name_L1_st p0 v7)) := by
  intro p0
  refine fold_name_L1.partial_correctness p0 _ ?_
  intro fold_name_L1' ih_fold_name_L1 v7 o1 h
  refine TL.round (bwp_sound mixed tbOk (lv := fold_name_lv) _ _ _ ?_)
  refine st_test h (fun hb h => ?_) (fun hb h => ?_)
  · refine st_sidx h (fun x4 hi h => ?_)
    refine st_bind h (fun o5 ho hk => ?_)
    refine Exists.intro (JP1 _ _ o5 .normal (fold_name_J0_0 p0 v7)) (And.intro ?_ (join1 ?_))
    · have h := ho
      refine st_test h (fun hb h => ?_) (fun hb h => ?_)
      · refine bT ?_
        refine st_test h (fun hb h => ?_) (fun hb h => ?_)
        · refine bT ?_
          refine JP1.a h ?_
          exact Le.tow 0 0 rfl (.cons rfl (.refl _) (.cons rfl (.refl _) (.cons rfl (.refl _) (.cons rfl (.refl _) (.nil))))) (.refl _) rfl
        · refine st_test h (fun hb h => ?_) (fun hb h => ?_)
          · refine JP1.a h ?_
            exact Le.tow 0 0 rfl (.cons rfl (.refl _) (.cons rfl (.refl _) (.cons rfl (.refl _) (.cons rfl (.refl _) (.nil))))) (.refl _) rfl
          · refine JP1.a h ?_
            exact Le.tow 0 0 rfl (.cons rfl (.refl _) (.cons rfl (.refl _) (.cons rfl (.refl _) (.cons rfl (.refl _) (.nil))))) (.refl _) rfl
      · refine st_test h (fun hb h => ?_) (fun hb h => ?_)
        · refine st_test h (fun hb h => ?_) (fun hb h => ?_)
          · refine bT ?_
            refine JP1.a h ?_
            exact Le.tow 0 0 rfl (.cons rfl (.refl _) (.cons rfl (.refl _) (.cons rfl (.refl _) (.cons rfl (.refl _) (.nil))))) (.refl _) rfl
          · refine st_test h (fun hb h => ?_) (fun hb h => ?_)
            · refine JP1.a h ?_
              exact Le.tow 0 0 rfl (.cons rfl (.refl _) (.cons rfl (.refl _) (.cons rfl (.refl _) (.cons rfl (.refl _) (.nil))))) (.refl _) rfl
            · refine JP1.a h ?_
              exact Le.tow 0 0 rfl (.cons rfl (.refl _) (.cons rfl (.refl _) (.cons rfl (.refl _) (.cons rfl (.refl _) (.nil))))) (.refl _) rfl
        · refine bF ?_
          refine JP1.a h ?_
          exact Le.tow 0 0 rfl (.cons rfl (.refl _) (.cons rfl (.refl _) (.cons rfl (.refl _) (.cons rfl (.refl _) (.nil))))) (.refl _) rfl
    · have h := hk
      refine st_test h (fun hb h => ?_) (fun hb h => ?_)
      · exact JP2.b h (Le.tow 0 0 rfl (.cons rfl (.refl _) (.nil)) (.refl _) rfl)
      · refine TL.le (τ := fold_name_L1_st p0 (wr (v7 + 1))) ?_ ((ih_fold_name_L1 (wr (v7 + 1)) _ h))
        exact Le.tow 0 0 rfl (.cons rfl (.refl _) (.cons rfl (.refl _) (.cons rfl (.refl _) (.nil)))) (.refl _) rfl
  · exact JP2.a h (Le.tow 0 0 rfl (.cons rfl (.refl _) (.nil)) (.refl _) rfl)
theorem fold_name_L1_ok : ∀ (p0 : (List UInt8)) (v7 : Int) (o1 : Unit ⊕ Unit), fold_name_L1 p0 v7 = some o1 → TL (0, 0) Tryd.prog 41 fold_name_L1_c (JP2 (0, 0) 41 o1 (.exit 0) (fold_name_L1_x0 p0) .ret (fold_name_L1_x1 p0)) (fold_name_L1_st p0 v7) := fun p0 v7 o1 h => (fold_name_L1_grp p0) v7 o1 h
noncomputable def fold_name (p0 : (List UInt8)) : Option (Bool) :=
  (fold_name_L1 p0 0) >>= fun o1 =>
  match o1 with
  | .inl y2 =>
    ( if (!(p0 == [])) then
        some (decide ((p0.length : Int) ≤ 32))
      else
        some false : Option (Bool)) >>= fun o6 =>
    some o6
  | .inr y3 =>
    some false
set_option maxRecDepth 100000 in
set_option maxHeartbeats 4000000 in
theorem fold_name_ok : ∀ (p0 : (List UInt8)) (o : Bool), fold_name p0 = some o → PCall Tryd.prog 25 [sV p0] (t_fold_name o) := by
  intro p0 o h
  unfold fold_name at h
  refine PCall.ofB mixed tbOk fold_name_lv Tryd.func25 rfl (by kernel_rfl) (Nat.le_of_ble_eq_true rfl) ?_
  refine vrfl ?_
  refine st_bind h (fun o1 ho hk => ?_)
  refine Exists.intro (JP2 _ _ o1 (.exit 0) (fold_name_L1_x0 p0) .ret (fold_name_L1_x1 p0)) (And.intro (T_le (τ := fold_name_L1_st p0 0) ?_ (TL.loop (fold_name_L1_ok p0 0 o1 ho))) (join2 (fun y2 hy => ?_) (fun y3 hy => ?_)))
  · exact Le.tow 0 0 rfl (.cons rfl (.refl _) (.cons rfl (.refl _) (.cons rfl (.refl _) (.nil)))) (.refl _) rfl
  · have h := (by rw [hy] at hk; exact hk)
    refine st_bind h (fun o6 ho hk => ?_)
    refine Exists.intro (JP1 _ _ o6 .normal (fold_name_J1_0 )) (And.intro ?_ (join1 ?_))
    · have h := ho
      refine st_test h (fun hb h => ?_) (fun hb h => ?_)
      · refine vrfl ?_
        refine JP1.a h ?_
        exact Le.tow 0 0 rfl (.cons rfl (.refl _) (.nil)) (.refl _) rfl
      · refine JP1.a h ?_
        exact Le.tow 0 0 rfl (.cons rfl (.refl _) (.nil)) (.refl _) rfl
    · have h := hk
      refine st_ret (t := t_fold_name) h ?_
      exact .refl _
  · have h := (by rw [hy] at hk; exact hk)
    refine st_ret (t := t_fold_name) h ?_
    exact .refl _
noncomputable def octet_Cut (p0 : (List UInt8)) (p1 : Int) : Option ((List (List UInt8))) :=
  need (p0.length ≤ 1000000000) >>= fun _ =>
  some (cutC p1.toNat.toUInt8 p0)
set_option maxRecDepth 100000 in
set_option maxHeartbeats 4000000 in
theorem octet_Cut_ok : ∀ (p0 : (List UInt8)) (p1 : Int) (o : (List (List UInt8))), octet_Cut p0 p1 = some o → PCall Tryd.prog 36 [sV p0, nV .u8 p1] (t_octet_Cut o) := by
  intro p0 p1 o h
  unfold octet_Cut at h
  obtain ⟨h1, h⟩ := need_some h
  cases h
  exact cut_ok _ _ h1
noncomputable def internal_stringslite_Index (p0 : (List UInt8)) (p1 : (List UInt8)) : Option (Int) :=
  need (p0.length < 4294967281) >>= fun _ =>
  some (Lib.index p0 p1)
set_option maxRecDepth 100000 in
set_option maxHeartbeats 4000000 in
theorem internal_stringslite_Index_ok : ∀ (p0 : (List UInt8)) (p1 : (List UInt8)) (o : Int), internal_stringslite_Index p0 p1 = some o → PCall Tryd.prog 94 [sV p0, sV p1] (t_internal_stringslite_Index o) := by
  intro p0 p1 o h
  unfold internal_stringslite_Index at h
  obtain ⟨h1, h⟩ := need_some h
  cases h
  exact index_ok _ _ h1
noncomputable def internal_stringslite_Cut (p0 : (List UInt8)) (p1 : (List UInt8)) : Option ((List UInt8) × (List UInt8) × Bool) :=
  internal_stringslite_Index p0 p1 >>= fun x1 =>
  if (decide (x1 ≥ 0)) then
    cutL p0 0 x1 >>= fun x2 =>
    cutL p0 (wr (x1 + (p1.length : Int))) (p0.length : Int) >>= fun x3 =>
    some (x2, x3, true)
  else
    some (p0, [], false)
set_option maxRecDepth 100000 in
set_option maxHeartbeats 4000000 in
theorem internal_stringslite_Cut_ok : ∀ (p0 : (List UInt8)) (p1 : (List UInt8)) (o : (List UInt8) × (List UInt8) × Bool), internal_stringslite_Cut p0 p1 = some o → PCall Tryd.prog 62 [sV p0, sV p1] (t_internal_stringslite_Cut o) := by
  intro p0 p1 o h
  unfold internal_stringslite_Cut at h
  refine PCall.ofB mixed tbOk internal_stringslite_Cut_lv Tryd.func62 rfl (by kernel_rfl) (Nat.le_of_ble_eq_true rfl) ?_
  refine st_call [sV p0, sV p1] t_internal_stringslite_Index h (fun x1 hy => (internal_stringslite_Index_ok p0 p1 x1 hy)) (fun x1 hy h => ?_)
  refine st_test h (fun hb h => ?_) (fun hb h => ?_)
  · refine And.intro (by decide +kernel) (And.intro rfl ?_)
    refine st_cuts none (some x1) h (fun x2 hi h => ?_)
    refine vrfl ?_
    refine st_cuts (some (wr (x1 + (p1.length : Int)))) none h (fun x3 hi h => ?_)
    refine st_ret (t := t_internal_stringslite_Cut) h ?_
    exact .refl _
  · refine st_ret (t := t_internal_stringslite_Cut) h ?_
    exact .refl _
noncomputable def strings_Cut (p0 : (List UInt8)) (p1 : (List UInt8)) : Option ((List UInt8) × (List UInt8) × Bool) :=
  internal_stringslite_Cut p0 p1 >>= fun x1 =>
  some (x1.1, x1.2.1, x1.2.2)
set_option maxRecDepth 100000 in
set_option maxHeartbeats 4000000 in
theorem strings_Cut_ok : ∀ (p0 : (List UInt8)) (p1 : (List UInt8)) (o : (List UInt8) × (List UInt8) × Bool), strings_Cut p0 p1 = some o → PCall Tryd.prog 35 [sV p0, sV p1] (t_strings_Cut o) := by
  intro p0 p1 o h
  unfold strings_Cut at h
  refine PCall.ofB mixed tbOk strings_Cut_lv Tryd.func35 rfl (by kernel_rfl) (Nat.le_of_ble_eq_true rfl) ?_
  refine st_call [sV p0, sV p1] t_internal_stringslite_Cut h (fun x1 hy => (internal_stringslite_Cut_ok p0 p1 x1 hy)) (fun x1 hy h => ?_)
  refine st_ret (t := t_strings_Cut) h ?_
  exact .refl _
noncomputable def strings_ReplaceAll (p0 : (List UInt8)) (p1 : (List UInt8)) (p2 : (List UInt8)) : Option ((List UInt8)) :=
  need (p0.length < 4294967281) >>= fun _ =>
  need (1 ≤ p1.length) >>= fun _ =>
  need (p0.length + Lib.countB ⟨p0.toArray⟩ ⟨p1.toArray⟩ * p2.length ≤ 140737488355328) >>= fun _ =>
  some (Lib.replaceAll p0 p1 p2)
set_option maxRecDepth 100000 in
set_option maxHeartbeats 4000000 in
theorem strings_ReplaceAll_ok : ∀ (p0 : (List UInt8)) (p1 : (List UInt8)) (p2 : (List UInt8)) (o : (List UInt8)), strings_ReplaceAll p0 p1 p2 = some o → PCall Tryd.prog 37 [sV p0, sV p1, sV p2] (t_strings_ReplaceAll o) := by
  intro p0 p1 p2 o h
  unfold strings_ReplaceAll at h
  obtain ⟨h1, h⟩ := need_some h
  obtain ⟨h2, h⟩ := need_some h
  obtain ⟨h3, h⟩ := need_some h
  cases h
  exact replaceAll_ok _ _ _ h1 h2 h3
noncomputable def fold_Read (p0 : (List UInt8)) : Option ((List UInt8) × (List UInt8) × Int) :=
  fold_line p0 >>= fun x1 =>
  strings_Cut x1.1 [58] >>= fun x2 =>
  ( if (!x1.2) then
      some true
    else
      if (!x2.2.2) then
        some true
      else
        fold_name x2.1 >>= fun x4 =>
        some (!x4) : Option (Bool)) >>= fun o3 =>
  if o3 then
    some ([], [], 7)
  else
    strings_ReplaceAll x2.2.1 [9] [32] >>= fun x5 =>
    octet_Cut x5 32 >>= fun x6 =>
    (fold_Read_L1 x2 x6 0 false false false []) >>= fun o7 =>
    strings_Builder_String_4 o7.1 o7.2 >>= fun x14 =>
    some (x2.1, x14, 0)
set_option maxRecDepth 100000 in
set_option maxHeartbeats 4000000 in
theorem fold_Read_ok : ∀ (p0 : (List UInt8)) (o : (List UInt8) × (List UInt8) × Int), fold_Read p0 = some o → PCall Tryd.prog 15 [sV p0] (t_fold_Read o) := by
  intro p0 o h
  unfold fold_Read at h
  refine PCall.ofB mixed tbOk fold_Read_lv Tryd.func15 rfl (by kernel_rfl) (Nat.le_of_ble_eq_true rfl) ?_
  refine st_call [sV p0] t_fold_line h (fun x1 hy => (fold_line_ok p0 x1 hy)) (fun x1 hy h => ?_)
  refine st_call [sV x1.1, sV [58]] t_strings_Cut h (fun x2 hy => (strings_Cut_ok x1.1 [58] x2 hy)) (fun x2 hy h => ?_)
  refine st_bind h (fun o3 ho hk => ?_)
  refine Exists.intro (JP1 _ _ o3 .normal (fold_Read_J0_0 x2)) (And.intro ?_ (join1 ?_))
  · have h := ho
    refine st_test h (fun hb h => ?_) (fun hb h => ?_)
    · refine bT ?_
      refine JP1.a h ?_
      exact Le.tow 0 0 rfl (.cons rfl (.refl _) (.cons rfl (.refl _) (.cons rfl (.refl _) (.nil)))) (.refl _) rfl
    · refine st_test h (fun hb h => ?_) (fun hb h => ?_)
      · refine JP1.a h ?_
        exact Le.tow 0 0 rfl (.cons rfl (.refl _) (.cons rfl (.refl _) (.cons rfl (.refl _) (.nil)))) (.refl _) rfl
      · refine st_call [sV x2.1] t_fold_name h (fun x4 hy => (fold_name_ok x2.1 x4 hy)) (fun x4 hy h => ?_)
        refine JP1.a h ?_
        exact Le.tow 0 0 rfl (.cons rfl (.refl _) (.cons rfl (.refl _) (.cons rfl (.refl _) (.nil)))) (.refl _) rfl
  · have h := hk
    refine st_test h (fun hb h => ?_) (fun hb h => ?_)
    · refine st_ret (t := t_fold_Read) h ?_
      exact .refl _
    · refine st_call [sV x2.2.1, sV [9], sV [32]] t_strings_ReplaceAll h (fun x5 hy => (strings_ReplaceAll_ok x2.2.1 [9] [32] x5 hy)) (fun x5 hy h => ?_)
      refine st_call [sV x5, nV .u8 32] t_octet_Cut h (fun x6 hy => (octet_Cut_ok x5 32 x6 hy)) (fun x6 hy h => ?_)
      refine view (lenMap _ _) rfl ?_
      refine st_bind h (fun o7 ho hk => ?_)
      refine Exists.intro (JP1 _ _ o7 (.exit 0) (fold_Read_L1_x0 x2 x6)) (And.intro (T_le (τ := fold_Read_L1_st x2 x6 0 false false false []) ?_ (TL.loop (fold_Read_L1_ok x2 x6 0 false false false [] o7 ho))) (join1 ?_))
      · exact (Le.ownH 0 1 5 1 rfl rfl sizeNil).trans (Le.tow 1 1 rfl (.cons rfl (.refl _) (.cons rfl (.refl _) (.cons rfl (.refl _) (.cons rfl (.refl _) (.cons rfl (.refl _) (.cons rfl (.refl _) (.cons rfl (.refl _) (.nil)))))))) (.refl _) rfl)
      have h := hk
      refine st_callc _ _ h (fun x14 hy => ((strings_Builder_String_4_ok o7.1 o7.2 x14 hy).fr [0] [0] rfl rfl rfl)) (fun x14 hy h => ?_)
      refine st_ret (t := t_fold_Read) h ?_
      exact .refl _
noncomputable def strings_Builder_copyCheck_2 (h0_0 : Bool) (h0_1 : (List Int)) (h0_2 : Int) : Option (Bool) :=
  some true
set_option maxRecDepth 100000 in
set_option maxHeartbeats 4000000 in
theorem strings_Builder_copyCheck_2_ok : ∀ (h0_0 : Bool) (h0_1 : (List Int)) (h0_2 : Int) (o : Bool), strings_Builder_copyCheck_2 h0_0 h0_1 h0_2 = some o → CallOK Tryd.prog 53 [.ptr 0 0] ⟨[[.sp Tryd.prog 44 h0_0 0 0, .own 0 5 1 (h0_1.map (cNum .u8)), .p (iV h0_2)]], [(h0_1.map (cNum .u8)).length]⟩ (t_strings_Builder_copyCheck_2 o) ⟨[[.sp Tryd.prog 44 o 0 0, .own 0 5 1 (h0_1.map (cNum .u8)), .p (iV h0_2)]], [(h0_1.map (cNum .u8)).length]⟩ := by
  intro h0_0 h0_1 h0_2 o h
  unfold strings_Builder_copyCheck_2 at h
  cases h
  exact copyCheck_ok [[.sp Tryd.prog 44 h0_0 0 0, .own 0 5 1 (h0_1.map (cNum .u8)), .p (iV h0_2)]] _ 0 [.sp Tryd.prog 44 h0_0 0 0, .own 0 5 1 (h0_1.map (cNum .u8)), .p (iV h0_2)] rfl rfl
noncomputable def strings_Builder_WriteString_3 (p1 : (List UInt8)) (h0_0 : Bool) (h0_1 : (List Int)) (h0_2 : Int) : Option (Int × Unit × Bool × (List Int)) :=
  strings_Builder_copyCheck_2 h0_0 h0_1 h0_2 >>= fun x1 =>
  appL 1 h0_1 (s2b p1) >>= fun x2 =>
  some ((p1.length : Int), (), x1, x2)
set_option maxRecDepth 100000 in
set_option maxHeartbeats 4000000 in
theorem strings_Builder_WriteString_3_ok : ∀ (p1 : (List UInt8)) (h0_0 : Bool) (h0_1 : (List Int)) (h0_2 : Int) (o : Int × Unit × Bool × (List Int)), strings_Builder_WriteString_3 p1 h0_0 h0_1 h0_2 = some o → CallOK Tryd.prog 26 [.ptr 0 0, .p (sV p1)] ⟨[[.sp Tryd.prog 44 h0_0 0 0, .own 0 5 1 (h0_1.map (cNum .u8)), .p (iV h0_2)]], [(h0_1.map (cNum .u8)).length]⟩ (t_strings_Builder_WriteString_3 o) ⟨[[.sp Tryd.prog 44 o.2.2.1 0 0, .own 0 5 1 (o.2.2.2.map (cNum .u8)), .p (iV h0_2)]], [(o.2.2.2.map (cNum .u8)).length]⟩ := by
  intro p1 h0_0 h0_1 h0_2 o h
  unfold strings_Builder_WriteString_3 at h
  refine CallOK.ofB mixed tbOk strings_Builder_WriteString_3_lv Tryd.func26 rfl (by kernel_rfl) (Nat.le_of_ble_eq_true rfl) rfl rfl rfl ?_
  refine st_callc _ _ h (fun x1 hy => ((strings_Builder_copyCheck_2_ok h0_0 h0_1 h0_2 x1 hy).fr [0] [0] rfl rfl rfl)) (fun x1 hy h => ?_)
  refine st_appso (a := h0_1) (b := p1) h rfl (fun x2 hi h => ?_)
  refine vrfl ?_
  refine Exists.intro _ (And.intro (Le.refl _ _ _) ?_)
  exact st_retc (t := t_strings_Builder_WriteString_3) (ss := fun o => ⟨[[.sp Tryd.prog 44 o.2.2.1 0 0, .own 0 5 1 (o.2.2.2.map (cNum .u8)), .p (iV h0_2)]], [(o.2.2.2.map (cNum .u8)).length]⟩) h ⟨[0], rfl, .refl _, .refl _, rfl⟩
noncomputable def strings_Builder_copyCheck_5 (h0_0 : Bool) (h0_1 : (List Int)) (h0_2 : Int) : Option (Bool) :=
  some true
set_option maxRecDepth 100000 in
set_option maxHeartbeats 4000000 in
theorem strings_Builder_copyCheck_5_ok : ∀ (h0_0 : Bool) (h0_1 : (List Int)) (h0_2 : Int) (o : Bool), strings_Builder_copyCheck_5 h0_0 h0_1 h0_2 = some o → CallOK Tryd.prog 53 [.ptr 0 0] ⟨[[.sp Tryd.prog 44 h0_0 0 0, .own 0 5 1 (h0_1.map (cNum .u8)), .p (iV h0_2)]], [(h0_1.map (cNum .u8)).length]⟩ (t_strings_Builder_copyCheck_5 o) ⟨[[.sp Tryd.prog 44 o 0 0, .own 0 5 1 (h0_1.map (cNum .u8)), .p (iV h0_2)]], [(h0_1.map (cNum .u8)).length]⟩ := by
  intro h0_0 h0_1 h0_2 o h
  unfold strings_Builder_copyCheck_5 at h
  cases h
  exact copyCheck_ok [[.sp Tryd.prog 44 h0_0 0 0, .own 0 5 1 (h0_1.map (cNum .u8)), .p (iV h0_2)]] _ 0 [.sp Tryd.prog 44 h0_0 0 0, .own 0 5 1 (h0_1.map (cNum .u8)), .p (iV h0_2)] rfl rfl
noncomputable def strings_Builder_WriteString_4 (p1 : (List UInt8)) (h0_0 : Bool) (h0_1 : (List Int)) (h0_2 : Int) : Option (Int × Unit × Bool × (List Int)) :=
  strings_Builder_copyCheck_5 h0_0 h0_1 h0_2 >>= fun x1 =>
  appL 1 h0_1 (s2b p1) >>= fun x2 =>
  some ((p1.length : Int), (), x1, x2)
set_option maxRecDepth 100000 in
set_option maxHeartbeats 4000000 in
theorem strings_Builder_WriteString_4_ok : ∀ (p1 : (List UInt8)) (h0_0 : Bool) (h0_1 : (List Int)) (h0_2 : Int) (o : Int × Unit × Bool × (List Int)), strings_Builder_WriteString_4 p1 h0_0 h0_1 h0_2 = some o → CallOK Tryd.prog 26 [.ptr 0 0, .p (sV p1)] ⟨[[.sp Tryd.prog 44 h0_0 0 0, .own 0 5 1 (h0_1.map (cNum .u8)), .p (iV h0_2)]], [(h0_1.map (cNum .u8)).length]⟩ (t_strings_Builder_WriteString_4 o) ⟨[[.sp Tryd.prog 44 o.2.2.1 0 0, .own 0 5 1 (o.2.2.2.map (cNum .u8)), .p (iV h0_2)]], [(o.2.2.2.map (cNum .u8)).length]⟩ := by
  intro p1 h0_0 h0_1 h0_2 o h
  unfold strings_Builder_WriteString_4 at h
  refine CallOK.ofB mixed tbOk strings_Builder_WriteString_4_lv Tryd.func26 rfl (by kernel_rfl) (Nat.le_of_ble_eq_true rfl) rfl rfl rfl ?_
  refine st_callc _ _ h (fun x1 hy => ((strings_Builder_copyCheck_5_ok h0_0 h0_1 h0_2 x1 hy).fr [0] [0] rfl rfl rfl)) (fun x1 hy h => ?_)
  refine st_appso (a := h0_1) (b := p1) h rfl (fun x2 hi h => ?_)
  refine vrfl ?_
  refine Exists.intro _ (And.intro (Le.refl _ _ _) ?_)
  exact st_retc (t := t_strings_Builder_WriteString_4) (ss := fun o => ⟨[[.sp Tryd.prog 44 o.2.2.1 0 0, .own 0 5 1 (o.2.2.2.map (cNum .u8)), .p (iV h0_2)]], [(o.2.2.2.map (cNum .u8)).length]⟩) h ⟨[0], rfl, .refl _, .refl _, rfl⟩
noncomputable def fold_lines_put_2 (p1 : (List UInt8)) (h0_0 : Bool) (h0_1 : (List Int)) (h0_2 : Int) : Option (Bool × (List Int) × Int) :=
  ( if (decide ((p1.length : Int) ≥ (wr (76 - h0_2)))) then
      strings_Builder_WriteString_3 [13, 10] h0_0 h0_1 h0_2 >>= fun x2 =>
      some (x2.2.2.1, x2.2.2.2, 0)
    else
      some (h0_0, h0_1, h0_2) : Option ((Bool × (List Int) × Int))) >>= fun o1 =>
  need ([32].length + p1.length ≤ 9223372036854775807) >>= fun _ =>
  strings_Builder_WriteString_4 ([32] ++ p1) o1.1 o1.2.1 o1.2.2 >>= fun x3 =>
  some (x3.2.2.1, x3.2.2.2, (wr (o1.2.2 + (wr (1 + (p1.length : Int))))))
set_option maxRecDepth 100000 in
set_option maxHeartbeats 4000000 in
theorem fold_lines_put_2_ok : ∀ (p1 : (List UInt8)) (h0_0 : Bool) (h0_1 : (List Int)) (h0_2 : Int) (o : Bool × (List Int) × Int), fold_lines_put_2 p1 h0_0 h0_1 h0_2 = some o → CallOK Tryd.prog 28 [.ptr 0 0, .p (sV p1)] ⟨[[.sp Tryd.prog 44 h0_0 0 0, .own 0 5 1 (h0_1.map (cNum .u8)), .p (iV h0_2)]], [(h0_1.map (cNum .u8)).length]⟩ (t_fold_lines_put_2 o) ⟨[[.sp Tryd.prog 44 o.1 0 0, .own 0 5 1 (o.2.1.map (cNum .u8)), .p (iV o.2.2)]], [(o.2.1.map (cNum .u8)).length]⟩ := by
  intro p1 h0_0 h0_1 h0_2 o h
  unfold fold_lines_put_2 at h
  refine CallOK.ofB mixed tbOk fold_lines_put_2_lv Tryd.func28 rfl (by kernel_rfl) (Nat.le_of_ble_eq_true rfl) rfl rfl rfl ?_
  refine st_bind h (fun o1 ho hk => ?_)
  refine Exists.intro (JP1 _ _ o1 .normal (fold_lines_put_2_J0_0 p1)) (And.intro ?_ (join1 ?_))
  · have h := ho
    refine vrfl ?_
    refine st_test h (fun hb h => ?_) (fun hb h => ?_)
    · refine st_callc _ _ h (fun x2 hy => ((strings_Builder_WriteString_3_ok [13, 10] h0_0 h0_1 h0_2 x2 hy).fr [0] [0] rfl rfl rfl)) (fun x2 hy h => ?_)
      refine JP1.a h ?_
      exact Le.tow 1 1 rfl (.cons rfl (.refl _) (.cons rfl (.refl _) (.nil))) (.refl _) rfl
    · refine JP1.a h ?_
      exact Le.tow 1 1 rfl (.cons rfl (.refl _) (.cons rfl (.refl _) (.nil))) (.refl _) rfl
  · have h := hk
    refine st_need h (fun h => ?_)
    refine st_callc _ _ h (fun x3 hy => ((strings_Builder_WriteString_4_ok ([32] ++ p1) o1.1 o1.2.1 o1.2.2 x3 hy).fr [0] [0] rfl rfl rfl)) (fun x3 hy h => ?_)
    refine vrfl ?_
    refine Exists.intro _ (And.intro (Le.refl _ _ _) ?_)
    exact st_retc (t := t_fold_lines_put_2) (ss := fun o => ⟨[[.sp Tryd.prog 44 o.1 0 0, .own 0 5 1 (o.2.1.map (cNum .u8)), .p (iV o.2.2)]], [(o.2.1.map (cNum .u8)).length]⟩) h ⟨[0], rfl, .refl _, .refl _, rfl⟩
noncomputable def fold_Write_L1 (x3 : (List UInt8)) (l6 : (List (List UInt8))) (h0_0 : Bool) (h0_1 : (List Int)) (h0_2 : Int) : Option ((Bool × (List Int) × Int)) :=
  match l6 with
  | [] =>
    some (h0_0, h0_1, h0_2)
  | x4 :: r5 =>
    fold_lines_put_2 x4 h0_0 h0_1 h0_2 >>= fun x9 =>
    fold_Write_L1 x3 r5 x9.1 x9.2.1 x9.2.2
  partial_fixpoint
set_option maxRecDepth 100000 in
set_option maxHeartbeats 4000000 in
theorem fold_Write_L1_grp : ∀ (x3 : (List UInt8)), (∀ (l6 : (List (List UInt8))) (h0_0 : Bool) (h0_1 : (List Int)) (h0_2 : Int) (o8 : (Bool × (List Int) × Int)), fold_Write_L1 x3 l6 h0_0 h0_1 h0_2 = some o8 → RL 1 1 Tryd.prog 28 (rgP fold_Write_L1_c) (rgA fold_Write_L1_c) (rgB fold_Write_L1_c) (fold_Write_L1_st x3 h0_0 h0_1 h0_2).env (JP1 (0, 0) 28 o8 .normal (fold_Write_L1_x0 x3)) (l6.map e_fold_words_1) (fold_Write_L1_st x3 h0_0 h0_1 h0_2).s) := by
  intro x3
  refine fold_Write_L1.partial_correctness x3 _ ?_
  intro fold_Write_L1' ih_fold_Write_L1 l6 h0_0 h0_1 h0_2 o8 h
  cases l6 with
  | nil =>
    refine rl_nil ?_
    exact JP1.a h (Le.tow 1 1 rfl (.cons rfl (.refl _) (.cons rfl (.refl _) (.nil))) (.refl _) rfl)
  | cons x4 r5 =>
    refine rl_cons (bwp_sound mixed tbOk (lv := fold_Write_lv) _ _ _ ?_)
    refine And.intro rfl (bwp_sound mixed tbOk (lv := fold_Write_lv) _ _ _ ?_)
    refine st_callc _ _ h (fun x9 hy => ((fold_lines_put_2_ok x4 h0_0 h0_1 h0_2 x9 hy).fr [0] [0] rfl rfl rfl)) (fun x9 hy h => ?_)
    exact Exists.intro (fold_Write_L1_st x3 x9.1 x9.2.1 x9.2.2).s (And.intro (Le.tow 1 1 rfl (.nil) (.refl _) rfl) (And.intro rfl (And.intro rfl ((ih_fold_Write_L1 r5 x9.1 x9.2.1 x9.2.2 _ h)))))
theorem fold_Write_L1_ok : ∀ (x3 : (List UInt8)) (l6 : (List (List UInt8))) (h0_0 : Bool) (h0_1 : (List Int)) (h0_2 : Int) (o8 : (Bool × (List Int) × Int)), fold_Write_L1 x3 l6 h0_0 h0_1 h0_2 = some o8 → RL 1 1 Tryd.prog 28 (rgP fold_Write_L1_c) (rgA fold_Write_L1_c) (rgB fold_Write_L1_c) (fold_Write_L1_st x3 h0_0 h0_1 h0_2).env (JP1 (0, 0) 28 o8 .normal (fold_Write_L1_x0 x3)) (l6.map e_fold_words_1) (fold_Write_L1_st x3 h0_0 h0_1 h0_2).s := fun x3 l6 h0_0 h0_1 h0_2 o8 h => (fold_Write_L1_grp x3) l6 h0_0 h0_1 h0_2 o8 h
noncomputable def fold_words (p0 : (List UInt8)) : Option ((List UInt8)) :=
  some p0
set_option maxRecDepth 100000 in
set_option maxHeartbeats 4000000 in
theorem fold_words_ok : ∀ (p0 : (List UInt8)) (o : (List UInt8)), fold_words p0 = some o → PCall Tryd.prog 27 [sV p0] (t_fold_words o) := by
  intro p0 o h
  unfold fold_words at h
  refine PCall.ofM mixed tbOk fold_words_lv Tryd.func27 rfl (by kernel_rfl) (Nat.le_of_ble_eq_true rfl) ?_
  refine st_ret (t := t_fold_words) h ?_
  exact .refl _
noncomputable def fold_words_1_L1 (x2 : (List (List UInt8))) (v16 : Int) : Option ((List (List UInt8)) × (Unit)) :=
  if (decide (v16 < (x2.length : Int))) then
    idx x2 v16 >>= fun x5 =>
    ( fold_words_1_L1 x2 (wr (v16 + 1))) >>= fun q => some (x5 :: q.1, q.2)
  else
    some ([], ())
  partial_fixpoint
end Go.Proofs.YtagokkpnfceidaaDoor
end
