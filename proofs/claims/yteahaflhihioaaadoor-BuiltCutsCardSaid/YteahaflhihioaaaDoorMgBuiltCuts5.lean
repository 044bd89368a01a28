/- The proof's texts, part 5 of 6: the walks by a logic in which data are by value, the plain laws, and at the end the law, for every input. -/
import Derived.Test.YteahaflhihioaaaDoorMgBuiltCuts4

section
set_option linter.unusedVariables false
set_option linter.unusedSimpArgs false
namespace Go.Proofs.YteahaflhihioaaaDoor
open Go.RowKit

structure api_Val where
  K : Int
  S : (List UInt8)
  N : Int
  B : Bool
  L : (List api_Val)
mutual
noncomputable def c_api_Val : api_Val → List V
  | ⟨x0, x1, x2, x3, x4⟩ => [iV x0, sV x1, iV x2, bV x3, .sl false (cs_api_Val x4)]
noncomputable def cs_api_Val : List api_Val → List (List V)
  | [] => []
  | x :: r => c_api_Val x :: cs_api_Val r
end
theorem cs_api_Val_map : ∀ l : List api_Val, cs_api_Val l = l.map c_api_Val
  | [] => rfl
  | x :: r => by rw [cs_api_Val, cs_api_Val_map r]; rfl
noncomputable def l_api_Val (x : api_Val) : List V := [iV x.K, sV x.S, iV x.N, bV x.B, .sl false (x.L.map c_api_Val)]
theorem c_api_Val_eq (x : api_Val) : c_api_Val x = l_api_Val x := by cases x; simp [c_api_Val, l_api_Val, cs_api_Val_map]
structure kind_field where
  of_ : Int
  name_ : (List UInt8)
  is_ : Int
noncomputable def c_kind_field (x : kind_field) : List V := [iV x.of_, sV x.name_, iV x.is_]
noncomputable def t_R16_Text (y : api_Val) : D := .p (.agg [iV y.K, sV y.S, iV y.N, bV y.B, .sl false (y.L.map c_api_Val)])
noncomputable def R16_Text_lv : List (Nat × List Nat) := [(0, [0, 2]), (1, [2])]
noncomputable def t_built_Call (y : api_Val × Int) : D := .tup [.p (.agg [iV y.1.K, sV y.1.S, iV y.1.N, bV y.1.B, .sl false (y.1.L.map c_api_Val)]), .p (iV y.2)]
noncomputable def built_Call_lv : List (Nat × List Nat) := [(0, [0, 1, 4]), (1, [0, 1, 4, 6]), (2, [0, 1, 4, 6, 11, 12, 13]), (3, [0, 1, 4, 6, 11, 12, 13, 14]), (4, [0, 1, 4, 6, 8, 11, 12, 13]), (5, [0, 1, 4, 6, 11, 12, 13]), (6, [0, 1, 4, 6, 11, 12, 13]), (7, [0, 1, 4, 10]), (8, [0, 1, 4, 34]), (9, [4, 5]), (10, [4, 5]), (1000003, [0, 1, 4, 6, 11, 12, 13]), (3000008, [])]
noncomputable def built_Call_L1_st (p0 : (List UInt8)) (p1 : (List api_Val)) (v6 : (List Int)) (v13 : Int) : St := ⟨[(0, .p (sV p0)), (1, .p (.sl false (p1.map c_api_Val))), (4, .ptr 0 0), (6, .own 0 29 1 (v6.map cInt)), (11, .p (.sl false (p1.map c_api_Val))), (12, .p (iV (p1.length : Int))), (13, .p (iV v13))], ⟨[[.p (iV 0), .p (sV []), .p (iV 0), .p (bV false), .p (.sl true [])]], [(v6.map cInt).length]⟩⟩
noncomputable def built_Call_L1_x0 (p0 : (List UInt8)) (p1 : (List api_Val)) (o1 : (List Int)) : St := ⟨[(0, .p (sV p0)), (1, .p (.sl false (p1.map c_api_Val))), (4, .ptr 0 0), (6, .own 0 29 1 (o1.map cInt))], ⟨[[.p (iV 0), .p (sV []), .p (iV 0), .p (bV false), .p (.sl true [])]], [(o1.map cInt).length]⟩⟩
noncomputable def built_Call_L1_c : Code := ((loopsOf (Tryd.f13.body.getD .skip)).getD 0 .skip)
noncomputable def built_Call_J0_0 (p0 : (List UInt8)) (p1 : (List api_Val)) (o1 : (List Int)) (o5 : Bool) : St := ⟨[(0, .p (sV p0)), (1, .p (.sl false (p1.map c_api_Val))), (4, .ptr 0 0), (34, .p (bV o5))], ⟨[[.p (iV 0), .p (sV []), .p (iV 0), .p (bV false), .p (.sl true [])]], [(o1.map cInt).length]⟩⟩
noncomputable def t_built_Call_1 (y : Bool) : D := .p (bV y)
noncomputable def built_Call_1_lv : List (Nat × List Nat) := [(0, [1]), (1, [2])]
noncomputable def t_built_add (y : Int) : D := .p (iV y)
noncomputable def built_add_lv : List (Nat × List Nat) := [(0, [0, 1]), (1, [4])]
noncomputable def t_built_cut (y : Int) : D := .p (iV y)
noncomputable def built_cut_lv : List (Nat × List Nat) := [(0, [0, 3, 6]), (1, [0, 3, 5, 6]), (2, [3, 5, 6, 8]), (3, [3, 5, 6, 8]), (4, [3, 5, 6, 8]), (5, [3, 5, 6, 8, 13]), (6, [3, 5, 6, 8]), (7, [4]), (4000003, [3, 5, 6, 8])]
noncomputable def built_cut_L1_st (x1 : (List UInt8)) (h0_0 : Int) (h1_0 : Int) : St := ⟨[(3, .ptr 0 0), (5, .ptr 1 0), (8, .fn (.func 101) [] [.p (.ep [sV x1])])], ⟨[[.p (iV h0_0)], [.p (iV h1_0)]], []⟩⟩
noncomputable def built_cut_L1_x0 (x1 : (List UInt8)) (y7 : Int × Int) : St := ⟨[(3, .ptr 0 0), (5, .ptr 1 0), (8, .fn (.func 101) [] [.p (.ep [sV x1])])], ⟨[[.p (iV y7.1)], [.p (iV y7.2)]], []⟩⟩
noncomputable def built_cut_L1_x1 (x1 : (List UInt8)) (y8 : Int × Int) : St := ⟨[(5, .ptr 1 0)], ⟨[[.p (iV y8.1)], [.p (iV y8.2)]], []⟩⟩
noncomputable def built_cut_L1_c : Code := ((loopsOf (Tryd.f76.body.getD .skip)).getD 0 .skip)
noncomputable def t_built_do (y : api_Val × Int) : D := .tup [.p (.agg [iV y.1.K, sV y.1.S, iV y.1.N, bV y.1.B, .sl false (y.1.L.map c_api_Val)]), .p (iV y.2)]
noncomputable def built_do_lv : List (Nat × List Nat) := [(0, [0, 1, 4]), (1, [0, 1, 4, 11]), (2, [0, 1, 4, 11, 12]), (3, [4, 5]), (4, [0, 1, 4, 11, 20]), (5, [4, 5]), (6, [0, 1, 4, 11, 33]), (7, [1, 4, 6]), (8, [4, 6, 39, 40, 41]), (9, [4, 6, 39, 40, 41, 42]), (10, [4, 6, 8, 39, 40, 41]), (11, [4, 6, 39, 40, 41]), (12, [4, 6, 39, 40, 41]), (13, [4, 5]), (14, [0, 1, 4, 11, 58]), (15, [4, 10]), (16, [4, 5]), (17, [0, 1, 4, 11, 73]), (18, [4, 5]), (19, [0, 1, 4, 11, 81]), (20, [1, 4, 87]), (21, [4, 5]), (22, [4, 97]), (23, [4, 5]), (24, [4, 5]), (25, [0, 1, 4, 11, 100]), (26, [4, 5]), (27, [0, 1, 4, 11, 112]), (28, [4, 5]), (29, [0, 1, 4, 11, 124]), (30, [4, 5]), (31, [0, 1, 4, 11, 136]), (32, [4, 5]), (33, [0, 1, 4, 11, 146]), (34, [4, 5]), (35, [0, 1, 4, 11, 159]), (36, [4, 5]), (37, [0, 1, 4, 172]), (38, [4, 5]), (39, [4, 5]), (1000009, [4, 6, 39, 40, 41]), (3000034, []), (3000036, [])]
noncomputable def built_do_L1_st (x7 : api_Val) (v41 : Int) (h1_4 : (List api_Val)) : St := ⟨[(4, .ptr 0 0), (6, .ptr 1 0), (39, .p (.sl false (x7.L.map c_api_Val))), (40, .p (iV (x7.L.length : Int))), (41, .p (iV v41))], ⟨[[.p (iV 0), .p (sV []), .p (iV 0), .p (bV false), .p (.sl true [])], [.p (iV 7), .p (sV []), .p (iV 0), .p (bV false), .own 0 32 5 (h1_4.map c_api_Val)]], [(h1_4.map c_api_Val).length]⟩⟩
noncomputable def built_do_L1_x0 (x7 : api_Val) (o8 : (List api_Val)) : St := ⟨[(4, .ptr 0 0), (6, .ptr 1 0)], ⟨[[.p (iV 0), .p (sV []), .p (iV 0), .p (bV false), .p (.sl true [])], [.p (iV 7), .p (sV []), .p (iV 0), .p (bV false), .own 0 32 5 (o8.map c_api_Val)]], [(o8.map c_api_Val).length]⟩⟩
noncomputable def built_do_L1_c : Code := ((loopsOf (Tryd.f29.body.getD .skip)).getD 0 .skip)
noncomputable def built_do_J0_0  (o41 : Int × (List UInt8) × Int × Bool × (List api_Val)) : St := ⟨[(4, .ptr 0 0), (5, .p (iV 0))], ⟨[[.p (iV o41.1), .p (sV o41.2.1), .p (iV o41.2.2.1), .p (bV o41.2.2.2.1), .p (.sl false (o41.2.2.2.2.map c_api_Val))]], []⟩⟩
noncomputable def built_do_J1_0  (o46 : Int × (List UInt8) × Int × Bool × (List api_Val)) : St := ⟨[(4, .ptr 0 0), (5, .p (iV 0))], ⟨[[.p (iV o46.1), .p (sV o46.2.1), .p (iV o46.2.2.1), .p (bV o46.2.2.2.1), .p (.sl false (o46.2.2.2.2.map c_api_Val))]], []⟩⟩
noncomputable def t_built_join (y : api_Val × Int) : D := .tup [.p (.agg [iV y.1.K, sV y.1.S, iV y.1.N, bV y.1.B, .sl false (y.1.L.map c_api_Val)]), .p (iV y.2)]
noncomputable def built_join_lv : List (Nat × List Nat) := [(0, [0, 3, 4]), (1, [0, 3, 4, 6]), (2, [0, 3, 4, 6, 7]), (3, [3, 4, 6, 7, 17, 18, 19]), (4, [3, 4, 6, 7, 17, 18, 19, 20]), (5, [3, 4, 6, 7, 9, 17, 18, 19]), (6, [3, 4, 6, 7, 9, 17, 18, 19]), (7, [3, 4, 6, 7, 17, 18, 19]), (8, [3, 4, 6, 7, 17, 18, 19]), (9, [4, 5]), (1000004, [3, 4, 6, 7, 17, 18, 19])]
noncomputable def built_join_L1_st (p0 : (List api_Val)) (p1 : (List UInt8)) (v7 : Int) (v19 : Int) (h2_0 : (List (List UInt8))) : St := ⟨[(3, .ptr 0 0), (4, .ptr 1 0), (6, .ptr 2 0), (7, .p (iV v7)), (17, .p (.sl false (p0.map c_api_Val))), (18, .p (iV (p0.length : Int))), (19, .p (iV v19))], ⟨[[.p (sV p1)], [.p (iV 0), .p (sV []), .p (iV 0), .p (bV false), .p (.sl true [])], [.own 0 9 1 (h2_0.map cStr)]], [(h2_0.map cStr).length]⟩⟩
noncomputable def built_join_L1_x0 (p0 : (List api_Val)) (p1 : (List UInt8)) (o1 : Int × (List (List UInt8))) : St := ⟨[(3, .ptr 0 0), (4, .ptr 1 0), (6, .ptr 2 0), (7, .p (iV o1.1))], ⟨[[.p (sV p1)], [.p (iV 0), .p (sV []), .p (iV 0), .p (bV false), .p (.sl true [])], [.own 0 9 1 (o1.2.map cStr)]], [(o1.2.map cStr).length]⟩⟩
noncomputable def built_join_L1_c : Code := ((loopsOf (Tryd.f53.body.getD .skip)).getD 0 .skip)
noncomputable def t_built_join_1 (y : (List UInt8)) : D := .p (sV y)
noncomputable def built_join_1_lv : List (Nat × List Nat) := [(0, [0, 1]), (1, [2])]
noncomputable def t_built_long_built_join_1 (y : api_Val × Int) : D := .tup [.p (.agg [iV y.1.K, sV y.1.S, iV y.1.N, bV y.1.B, .sl false (y.1.L.map c_api_Val)]), .p (iV y.2)]
noncomputable def built_long_built_join_1_lv : List (Nat × List Nat) := [(0, [0, 1, 4]), (1, [1, 4, 7]), (2, [4, 5]), (3, [4, 5])]
noncomputable def t_built_long_built_text_1 (y : api_Val × Int) : D := .tup [.p (.agg [iV y.1.K, sV y.1.S, iV y.1.N, bV y.1.B, .sl false (y.1.L.map c_api_Val)]), .p (iV y.2)]
noncomputable def built_long_built_text_1_lv : List (Nat × List Nat) := [(0, [0, 1, 4]), (1, [1, 4, 7]), (2, [4, 5]), (3, [4, 5])]
noncomputable def t_built_long_built_text_2 (y : api_Val × Int) : D := .tup [.p (.agg [iV y.1.K, sV y.1.S, iV y.1.N, bV y.1.B, .sl false (y.1.L.map c_api_Val)]), .p (iV y.2)]
noncomputable def built_long_built_text_2_lv : List (Nat × List Nat) := [(0, [0, 1, 4]), (1, [1, 4, 7]), (2, [4, 5]), (3, [4, 5])]
noncomputable def t_built_long_built_text_3 (y : api_Val × Int) : D := .tup [.p (.agg [iV y.1.K, sV y.1.S, iV y.1.N, bV y.1.B, .sl false (y.1.L.map c_api_Val)]), .p (iV y.2)]
noncomputable def built_long_built_text_3_lv : List (Nat × List Nat) := [(0, [0, 1, 4]), (1, [1, 4, 7]), (2, [4, 5]), (3, [4, 5])]
noncomputable def t_built_steps (y : (List UInt8)) : D := .fn (.func 101) [] [.p (.ep [sV y])]
noncomputable def built_steps_lv : List (Nat × List Nat) := [(0, [1]), (1, [2])]
noncomputable def e_built_steps_1 (y : Int) : List V := [iV y]
noncomputable def built_steps_1_lv : List (Nat × List Nat) := [(0, [0, 1, 3]), (1, [0, 1, 3, 9]), (2, [0, 1, 3, 5]), (3, [0, 1, 3]), (4, [0, 1, 3, 22]), (1000001, [0, 1, 3])]
noncomputable def built_steps_1_L1_st (p0 : (List UInt8)) (v3 : Int) (gxs gp : List (List V)) : St := ⟨[(0, .yld Tryd.prog 0 gxs), (1, .p (.ep [sV p0])), (3, .p (iV v3))], ⟨[], [gp.length]⟩⟩
noncomputable def built_steps_1_L1_x0 (p0 : (List UInt8)) (gxs : List (List V)) (gq1 : List (List V)) (oy : Unit) : St := ⟨[], ⟨[], [gq1.length]⟩⟩
noncomputable def built_steps_1_L1_c : Code := ((loopsOf (Tryd.f101.body.getD .skip)).getD 0 .skip)
noncomputable def t_built_sub (y : Int) : D := .p (iV y)
noncomputable def built_sub_lv : List (Nat × List Nat) := [(0, [0, 1]), (1, [0, 1, 6]), (2, [4]), (3, [4])]
noncomputable def t_built_text (y : api_Val × Int) : D := .tup [.p (.agg [iV y.1.K, sV y.1.S, iV y.1.N, bV y.1.B, .sl false (y.1.L.map c_api_Val)]), .p (iV y.2)]
noncomputable def built_text_lv : List (Nat × List Nat) := [(0, [0, 3, 4]), (1, [0, 3, 4, 6]), (2, [3, 4, 6, 14]), (3, [3, 4, 6, 14, 15]), (4, [4, 6]), (5, [3, 4, 6, 14, 19]), (6, [4, 6]), (7, [3, 4, 6, 14, 23]), (8, [4, 6]), (9, [3, 4, 6, 14, 27]), (10, [4, 6]), (11, [3, 4, 6, 14, 38]), (12, [4, 6]), (13, [3, 4, 6, 14, 55]), (14, [3, 4, 6, 58]), (15, [4, 6]), (16, [3, 4, 6, 14, 63]), (17, [4, 5]), (18, [3, 4, 6, 14, 77]), (19, [4, 6, 7, 8]), (20, [4, 6, 7, 8, 88]), (21, [4, 6, 7, 8, 9]), (22, [4, 5]), (23, [3, 4, 6, 106]), (24, [4, 6]), (25, [4, 5]), (2002058, []), (3000019, []), (6000019, [8, 9])]
noncomputable def built_text_J0_0 (p1 : (List api_Val)) (x1 : api_Val) (y3 : (List UInt8)) : St := ⟨[(4, .ptr 1 0), (6, .ptr 2 0)], ⟨[[.p (.sl false (p1.map c_api_Val))], [.p (iV 0), .p (sV []), .p (iV 0), .p (bV false), .p (.sl true [])], [.p (sV y3)]], []⟩⟩
noncomputable def built_text_J0_1 (p1 : (List api_Val)) (x1 : api_Val) (y4 : Int × Int × (List UInt8) × Int × Bool × (List api_Val)) : St := ⟨[(4, .ptr 1 0), (5, .p (iV y4.1))], ⟨[[.p (.sl false (p1.map c_api_Val))], [.p (iV y4.2.1), .p (sV y4.2.2.1), .p (iV y4.2.2.2.1), .p (bV y4.2.2.2.2.1), .p (.sl false (y4.2.2.2.2.2.map c_api_Val))], [.p (sV x1.S)]], []⟩⟩
noncomputable def built_text_J1_0 (p1 : (List api_Val)) (x1 : api_Val) (o19 : (List UInt8) × (List UInt8)) : St := ⟨[(4, .ptr 1 0), (6, .ptr 2 0), (7, .ptr 3 0), (8, .ptr 4 0)], ⟨[[.p (.sl false (p1.map c_api_Val))], [.p (iV 0), .p (sV []), .p (iV 0), .p (bV false), .p (.sl true [])], [.p (sV x1.S)], [.p (sV o19.1)], [.p (sV o19.2)]], []⟩⟩
noncomputable def t_built_text_1 (y : (List UInt8)) : D := .p (sV y)
noncomputable def built_text_1_lv : List (Nat × List Nat) := [(0, [0, 1]), (1, [2])]
noncomputable def t_built_text_2 (y : (List UInt8)) : D := .p (sV y)
noncomputable def built_text_2_lv : List (Nat × List Nat) := [(0, [0, 1, 2]), (1, [3])]
noncomputable def t_built_text_3 (y : (List UInt8)) : D := .p (sV y)
noncomputable def built_text_3_lv : List (Nat × List Nat) := [(0, [0]), (1, [1])]
noncomputable def t_built_turned (y : (List UInt8)) : D := .p (sV y)
noncomputable def t_built_within_int (y : Int) : D := .p (iV y)
noncomputable def built_within_int_lv : List (Nat × List Nat) := [(0, [0, 1, 2, 3]), (1, [0, 1, 2, 3, 9]), (2, [8]), (3, [0, 1, 2, 3, 9, 14]), (4, [8]), (5, [2, 9, 23]), (6, [8]), (3000003, []), (3000005, [])]
noncomputable def built_within_int_J0_0 (p0 : Int) (p1 : Int) (p2 : Int) (p3 : Int) (o1 : Bool) : St := ⟨[(0, .p (iV p0)), (1, .p (iV p1)), (2, .p (iV p2)), (3, .p (iV p3)), (9, .p (iV (wr (p0 + p1)))), (14, .p (bV o1))], ⟨[], []⟩⟩
noncomputable def built_within_int_J1_0 (p0 : Int) (p1 : Int) (p2 : Int) (o2 : Bool) : St := ⟨[(2, .p (iV p2)), (9, .p (iV (wr (p0 + p1)))), (23, .p (bV o2))], ⟨[], []⟩⟩
noncomputable def t_kind_Call (y : Int × Bool) : D := .tup [.p (iV y.1), .p (bV y.2)]
noncomputable def t_kind_Elem (y : Int × Bool) : D := .tup [.p (iV y.1), .p (bV y.2)]
noncomputable def kind_Elem_lv : List (Nat × List Nat) := [(0, [0]), (1, [4]), (2, [4, 5]), (3, [2, 3]), (4, [4, 7]), (5, [2, 3]), (6, [9]), (7, [2, 3]), (8, [2, 3])]
noncomputable def t_kind_Field (y : Int × Bool) : D := .tup [.p (iV y.1), .p (bV y.2)]
noncomputable def kind_Field_lv : List (Nat × List Nat) := [(0, [0, 1]), (1, [0, 1, 8, 9, 10]), (2, [0, 1, 8, 9, 10, 11]), (3, [0, 1, 7, 8, 9, 10]), (4, [0, 1, 7, 8, 9, 10, 23]), (5, [4, 5]), (6, [0, 1, 8, 9, 10]), (7, [4, 5]), (1000002, [0, 1, 8, 9, 10]), (3000004, [])]
noncomputable def kind_Field_J0_0 (p0 : Int) (p1 : (List UInt8)) (x1 : (List kind_field)) (v10 : Int) (x5 : kind_field) (o6 : Bool) : St := ⟨[(0, .p (iV p0)), (1, .p (sV p1)), (7, .ptr 0 0), (8, .p (.sl false (x1.map c_kind_field))), (9, .p (iV (x1.length : Int))), (10, .p (iV v10)), (23, .p (bV o6))], ⟨[[.p (iV x5.of_), .p (sV x5.name_), .p (iV x5.is_)]], []⟩⟩
noncomputable def kind_Field_L1_st (p0 : Int) (p1 : (List UInt8)) (x1 : (List kind_field)) (v10 : Int) : St := ⟨[(0, .p (iV p0)), (1, .p (sV p1)), (8, .p (.sl false (x1.map c_kind_field))), (9, .p (iV (x1.length : Int))), (10, .p (iV v10))], ⟨[], []⟩⟩
noncomputable def kind_Field_L1_x0 (p0 : Int) (p1 : (List UInt8)) (x1 : (List kind_field)) (y3 : Unit) : St := ⟨[], ⟨[], []⟩⟩
noncomputable def kind_Field_L1_x1 (p0 : Int) (p1 : (List UInt8)) (x1 : (List kind_field)) (y4 : Int) : St := ⟨[(4, .p (iV y4)), (5, .p (bV true))], ⟨[], []⟩⟩
noncomputable def kind_Field_L1_c : Code := ((loopsOf (Tryd.f50.body.getD .skip)).getD 0 .skip)
noncomputable def t_kind_Fields (y : (List (List UInt8))) : D := .p (.sl false (y.map cStr))
noncomputable def kind_Fields_lv : List (Nat × List Nat) := [(0, [0]), (1, [0, 3]), (2, [0, 3, 6, 7, 8]), (3, [0, 3, 6, 7, 8, 9]), (4, [0, 3, 5, 6, 7, 8]), (5, [0, 3, 5, 6, 7, 8, 15]), (6, [0, 3, 6, 7, 8]), (7, [0, 3, 6, 7, 8]), (8, [2]), (1000003, [0, 3, 6, 7, 8])]
noncomputable def kind_Fields_L1_st (p0 : Int) (x1 : (List kind_field)) (v3 : (List (List UInt8))) (v8 : Int) : St := ⟨[(0, .p (iV p0)), (3, .own 0 9 1 (v3.map cStr)), (6, .p (.sl false (x1.map c_kind_field))), (7, .p (iV (x1.length : Int))), (8, .p (iV v8))], ⟨[], [(v3.map cStr).length]⟩⟩
noncomputable def kind_Fields_L1_x0 (p0 : Int) (x1 : (List kind_field)) (o2 : (List (List UInt8))) : St := ⟨[(3, .own 0 9 1 (o2.map cStr))], ⟨[], [(o2.map cStr).length]⟩⟩
noncomputable def kind_Fields_L1_c : Code := ((loopsOf (Tryd.f49.body.getD .skip)).getD 0 .skip)
noncomputable def t_kind_Plain (y : Bool) : D := .p (bV y)
noncomputable def kind_Plain_lv : List (Nat × List Nat) := [(0, [0]), (1, [2]), (3000001, [])]
noncomputable def kind_Plain_J0_0  (o1 : Bool) : St := ⟨[(2, .p (bV o1))], ⟨[], []⟩⟩
noncomputable def t_kind_table (y : (List kind_field)) : D := .p (.sl false (y.map c_kind_field))
noncomputable def kind_table_lv : List (Nat × List Nat) := [(0, []), (1, [0])]
noncomputable def t_nunciolaw31_BuiltCuts (y : Bool) : D := .p (bV y)
noncomputable def nunciolaw31_BuiltCuts_lv : List (Nat × List Nat) := [(0, [0, 1]), (1, [0, 1]), (2, [0, 1, 5, 6]), (3, [0, 1, 5, 32]), (4, [4]), (5, [0, 5, 7]), (6, [0, 5, 7, 8, 9]), (7, [0, 8, 9, 10, 11]), (8, [0, 9, 11, 12, 13]), (9, [4]), (3000003, []), (3000009, [])]
noncomputable def nunciolaw31_BuiltCuts_J0_0 (p1 : Int) (x1 : (List UInt8)) (x3 : api_Val × Int) (o4 : Bool) : St := ⟨[(0, .p (sV x1)), (1, .p (nV .u16 p1)), (5, .ptr 0 0), (32, .p (bV o4))], ⟨[[.p (iV x3.1.K), .p (sV x3.1.S), .p (iV x3.1.N), .p (bV x3.1.B), .p (.sl false (x3.1.L.map c_api_Val))]], []⟩⟩
noncomputable def nunciolaw31_BuiltCuts_J1_0 (x3 : api_Val × Int) (x7 : api_Val × Int) (x10 : api_Val × Int) (x11 : api_Val × Int) (o12 : Bool) : St := ⟨[(4, .p (bV o12))], ⟨[[.p (iV x3.1.K), .p (sV x3.1.S), .p (iV x3.1.N), .p (bV x3.1.B), .p (.sl false (x3.1.L.map c_api_Val))], [.p (iV x7.1.K), .p (sV x7.1.S), .p (iV x7.1.N), .p (bV x7.1.B), .p (.sl false (x7.1.L.map c_api_Val))], [.p (iV x10.1.K), .p (sV x10.1.S), .p (iV x10.1.N), .p (bV x10.1.B), .p (.sl false (x10.1.L.map c_api_Val))], [.p (iV x11.1.K), .p (sV x11.1.S), .p (iV x11.1.N), .p (bV x11.1.B), .p (.sl false (x11.1.L.map c_api_Val))]], []⟩⟩
noncomputable def t_nunciolaw31_awake (y : Bool) : D := .p (bV y)
noncomputable def nunciolaw31_awake_lv : List (Nat × List Nat) := [(0, []), (1, [1, 2]), (2, [1, 2, 3, 4]), (3, [1, 2, 3, 4, 5, 6]), (4, [1, 2, 3, 4, 5, 6, 7, 8]), (5, [0]), (3000005, [])]
noncomputable def nunciolaw31_awake_J0_0 (x3 : api_Val × Int) (x7 : api_Val × Int) (x10 : api_Val × Int) (x12 : api_Val × Int) (o13 : Bool) : St := ⟨[(0, .p (bV o13))], ⟨[[.p (iV x3.1.K), .p (sV x3.1.S), .p (iV x3.1.N), .p (bV x3.1.B), .p (.sl false (x3.1.L.map c_api_Val))], [.p (iV x7.1.K), .p (sV x7.1.S), .p (iV x7.1.N), .p (bV x7.1.B), .p (.sl false (x7.1.L.map c_api_Val))], [.p (iV x10.1.K), .p (sV x10.1.S), .p (iV x10.1.N), .p (bV x10.1.B), .p (.sl false (x10.1.L.map c_api_Val))], [.p (iV x12.1.K), .p (sV x12.1.S), .p (iV x12.1.N), .p (bV x12.1.B), .p (.sl false (x12.1.L.map c_api_Val))]], []⟩⟩
noncomputable def t_nunciolaw31_number (y : api_Val) : D := .p (.agg [iV y.K, sV y.S, iV y.N, bV y.B, .sl false (y.L.map c_api_Val)])
noncomputable def nunciolaw31_number_lv : List (Nat × List Nat) := [(0, [0, 2]), (1, [2])]
noncomputable def t_octet_Join (y : (List UInt8)) : D := .p (sV y)
noncomputable def octet_Join_lv : List (Nat × List Nat) := [(0, [0, 1]), (1, [4])]
noncomputable def t_octet_Text (y : (List UInt8)) : D := .p (sV y)
noncomputable def t_schema_Find (y : (List UInt8) × Bool) : D := .tup [.p (sV y.1), .p (bV y.2)]
noncomputable def schema_Find_lv : List (Nat × List Nat) := [(0, [1, 2]), (1, [1, 2, 15]), (2, [4, 5]), (3, [1, 17, 18, 19]), (4, [1, 17, 18, 19, 20]), (5, [1, 7, 17, 18, 19]), (6, [1, 7, 17, 18, 19, 29]), (7, [4, 5]), (8, [1, 17, 18, 19]), (9, [4, 5]), (1000004, [1, 17, 18, 19]), (3000001, [])]
noncomputable def schema_Find_J0_0 (p0 : api_Val) (p1 : (List UInt8)) (o1 : Bool) : St := ⟨[(1, .p (sV p1)), (2, .ptr 0 0), (15, .p (bV o1))], ⟨[[.p (iV p0.K), .p (sV p0.S), .p (iV p0.N), .p (bV p0.B), .p (.sl false (p0.L.map c_api_Val))]], []⟩⟩
noncomputable def schema_Find_L1_st (p0 : api_Val) (p1 : (List UInt8)) (v19 : Int) : St := ⟨[(1, .p (sV p1)), (17, .p (.sl false (p0.L.map c_api_Val))), (18, .p (iV (p0.L.length : Int))), (19, .p (iV v19))], ⟨[[.p (iV p0.K), .p (sV p0.S), .p (iV p0.N), .p (bV p0.B), .p (.sl false (p0.L.map c_api_Val))]], []⟩⟩
noncomputable def schema_Find_L1_x0 (p0 : api_Val) (p1 : (List UInt8)) (y4 : Unit) : St := ⟨[], ⟨[[.p (iV p0.K), .p (sV p0.S), .p (iV p0.N), .p (bV p0.B), .p (.sl false (p0.L.map c_api_Val))]], []⟩⟩
noncomputable def schema_Find_L1_x1 (p0 : api_Val) (p1 : (List UInt8)) (y5 : (List UInt8)) : St := ⟨[(4, .p (sV y5)), (5, .p (bV true))], ⟨[[.p (iV p0.K), .p (sV p0.S), .p (iV p0.N), .p (bV p0.B), .p (.sl false (p0.L.map c_api_Val))]], []⟩⟩
noncomputable def schema_Find_L1_c : Code := ((loopsOf (Tryd.f55.body.getD .skip)).getD 0 .skip)
noncomputable def t_schema_Is (y : Bool) : D := .p (bV y)
noncomputable def schema_Is_lv : List (Nat × List Nat) := [(0, [1]), (1, [1, 3]), (2, [1, 3, 17]), (3, [1, 3, 17, 18]), (4, [1, 3]), (5, [1, 3, 17, 23]), (6, [1, 3]), (7, [1, 3, 28]), (8, [1, 3]), (9, [1, 51]), (10, [2]), (11, [1, 54]), (12, [2]), (13, [1, 4, 5]), (14, [1, 4, 65]), (15, [2]), (16, [1, 6]), (17, [1, 6, 90]), (18, [2]), (19, [1, 91, 92, 93]), (20, [1, 91, 92, 93, 94]), (21, [1, 7, 8, 91, 92, 93]), (22, [1, 7, 9, 91, 92, 93]), (23, [1, 91, 92, 93, 121]), (24, [2]), (25, [1, 91, 92, 93]), (26, [2]), (1000020, [1, 91, 92, 93]), (2002016, []), (3000009, []), (3000015, []), (3000017, []), (3000023, [])]
noncomputable def schema_Is_J0_0 (p0 : api_Val) (o1 : (List UInt8) × Int × Bool) : St := ⟨[(1, .ptr 0 0), (3, .ptr 1 0)], ⟨[[.p (iV p0.K), .p (sV p0.S), .p (iV p0.N), .p (bV p0.B), .p (.sl false (p0.L.map c_api_Val))], [.p (iV p0.K), .p (sV o1.1), .p (iV o1.2.1), .p (bV o1.2.2), .p (.sl false (p0.L.map c_api_Val))]], []⟩⟩
noncomputable def schema_Is_J1_0 (p0 : api_Val) (o1 : (List UInt8) × Int × Bool) (o2 : Bool) : St := ⟨[(1, .ptr 0 0), (51, .p (bV o2))], ⟨[[.p (iV p0.K), .p (sV p0.S), .p (iV p0.N), .p (bV p0.B), .p (.sl false (p0.L.map c_api_Val))], [.p (iV p0.K), .p (sV o1.1), .p (iV o1.2.1), .p (bV o1.2.2), .p (.sl false (p0.L.map c_api_Val))]], []⟩⟩
noncomputable def schema_Is_J2_0 (p0 : api_Val) (o1 : (List UInt8) × Int × Bool) (x4 : Int × Bool) (o5 : Bool) : St := ⟨[(2, .p (bV o5))], ⟨[[.p (iV p0.K), .p (sV p0.S), .p (iV p0.N), .p (bV p0.B), .p (.sl false (p0.L.map c_api_Val))], [.p (iV p0.K), .p (sV o1.1), .p (iV o1.2.1), .p (bV o1.2.2), .p (.sl false (p0.L.map c_api_Val))], [.p (iV x4.1)]], []⟩⟩
noncomputable def schema_Is_J3_0 (p0 : api_Val) (o1 : (List UInt8) × Int × Bool) (x4 : Int × Bool) (x7 : (List (List UInt8))) (o8 : Bool) : St := ⟨[(1, .ptr 0 0), (6, .p (.sl false (x7.map cStr))), (90, .p (bV o8))], ⟨[[.p (iV p0.K), .p (sV p0.S), .p (iV p0.N), .p (bV p0.B), .p (.sl false (p0.L.map c_api_Val))], [.p (iV p0.K), .p (sV o1.1), .p (iV o1.2.1), .p (bV o1.2.2), .p (.sl false (p0.L.map c_api_Val))], [.p (iV x4.1)]], []⟩⟩
noncomputable def schema_Is_J4_0 (p0 : api_Val) (o1 : (List UInt8) × Int × Bool) (x4 : Int × Bool) (x7 : (List (List UInt8))) (v93 : Int) (o14 : Bool) : St := ⟨[(1, .ptr 0 0), (91, .p (.sl false (x7.map cStr))), (92, .p (iV (x7.length : Int))), (93, .p (iV v93)), (121, .p (bV o14))], ⟨[[.p (iV p0.K), .p (sV p0.S), .p (iV p0.N), .p (bV p0.B), .p (.sl false (p0.L.map c_api_Val))], [.p (iV p0.K), .p (sV o1.1), .p (iV o1.2.1), .p (bV o1.2.2), .p (.sl false (p0.L.map c_api_Val))], [.p (iV x4.1)]], []⟩⟩
noncomputable def schema_Is_L1_st (p0 : api_Val) (o1 : (List UInt8) × Int × Bool) (x4 : Int × Bool) (x7 : (List (List UInt8))) (v93 : Int) : St := ⟨[(1, .ptr 0 0), (91, .p (.sl false (x7.map cStr))), (92, .p (iV (x7.length : Int))), (93, .p (iV v93))], ⟨[[.p (iV p0.K), .p (sV p0.S), .p (iV p0.N), .p (bV p0.B), .p (.sl false (p0.L.map c_api_Val))], [.p (iV p0.K), .p (sV o1.1), .p (iV o1.2.1), .p (bV o1.2.2), .p (.sl false (p0.L.map c_api_Val))], [.p (iV x4.1)]], []⟩⟩
noncomputable def schema_Is_L1_x0 (p0 : api_Val) (o1 : (List UInt8) × Int × Bool) (x4 : Int × Bool) (x7 : (List (List UInt8))) (y10 : Unit) : St := ⟨[], ⟨[[.p (iV p0.K), .p (sV p0.S), .p (iV p0.N), .p (bV p0.B), .p (.sl false (p0.L.map c_api_Val))], [.p (iV p0.K), .p (sV o1.1), .p (iV o1.2.1), .p (bV o1.2.2), .p (.sl false (p0.L.map c_api_Val))], [.p (iV x4.1)]], []⟩⟩
noncomputable def schema_Is_L1_x1 (p0 : api_Val) (o1 : (List UInt8) × Int × Bool) (x4 : Int × Bool) (x7 : (List (List UInt8))) (y11 : Unit) : St := ⟨[(2, .p (bV false))], ⟨[[.p (iV p0.K), .p (sV p0.S), .p (iV p0.N), .p (bV p0.B), .p (.sl false (p0.L.map c_api_Val))], [.p (iV p0.K), .p (sV o1.1), .p (iV o1.2.1), .p (bV o1.2.2), .p (.sl false (p0.L.map c_api_Val))], [.p (iV x4.1)]], []⟩⟩
noncomputable def schema_Is_L1_c : Code := ((loopsOf (Tryd.f28.body.getD .skip)).getD 0 .skip)
noncomputable def t_schema_Is_1 (y : Bool) : D := .p (bV y)
noncomputable def schema_Is_1_lv : List (Nat × List Nat) := [(0, [1, 2]), (1, [3]), (3000001, [])]
noncomputable def schema_Is_1_J0_0 (p0 : api_Val) (h0_0 : Int) (o1 : Bool) : St := ⟨[(3, .p (bV o1))], ⟨[[.p (iV h0_0)], [.p (iV p0.K), .p (sV p0.S), .p (iV p0.N), .p (bV p0.B), .p (.sl false (p0.L.map c_api_Val))]], []⟩⟩
noncomputable def t_schema_Number (y : api_Val) : D := .p (.agg [iV y.K, sV y.S, iV y.N, bV y.B, .sl false (y.L.map c_api_Val)])
noncomputable def schema_Number_lv : List (Nat × List Nat) := [(0, [0, 2]), (1, [2])]
noncomputable def t_schema_Same (y : Bool) : D := .p (bV y)
noncomputable def schema_Same_lv : List (Nat × List Nat) := [(0, [2, 3]), (1, [4]), (3000001, [])]
noncomputable def schema_Same_J0_0 (p0 : api_Val) (p1 : api_Val) (o1 : Bool) : St := ⟨[(4, .p (bV o1))], ⟨[[.p (iV p0.K), .p (sV p0.S), .p (iV p0.N), .p (bV p0.B), .p (.sl false (p0.L.map c_api_Val))], [.p (iV p1.K), .p (sV p1.S), .p (iV p1.N), .p (bV p1.B), .p (.sl false (p1.L.map c_api_Val))]], []⟩⟩
noncomputable def t_schema_Text (y : api_Val) : D := .p (.agg [iV y.K, sV y.S, iV y.N, bV y.B, .sl false (y.L.map c_api_Val)])
noncomputable def schema_Text_lv : List (Nat × List Nat) := [(0, [0, 2]), (1, [2])]
noncomputable def t_schema_Truth (y : api_Val) : D := .p (.agg [iV y.K, sV y.S, iV y.N, bV y.B, .sl false (y.L.map c_api_Val)])
noncomputable def schema_Truth_lv : List (Nat × List Nat) := [(0, [0, 2]), (1, [2])]
noncomputable def t_slices_ContainsFunc_api_Val_api_Val_built_Call_1 (y : Bool) : D := .p (bV y)
noncomputable def slices_ContainsFunc_api_Val_api_Val_built_Call_1_lv : List (Nat × List Nat) := [(0, [0, 1]), (1, [4])]
noncomputable def t_slices_ContainsFunc_api_Val_api_Val_schema_Is_1 (y : Bool) : D := .p (bV y)
noncomputable def slices_ContainsFunc_api_Val_api_Val_schema_Is_1_lv : List (Nat × List Nat) := [(0, [0, 1]), (1, [4])]
noncomputable def t_slices_EqualFunc_api_Val_api_Val_api_Val_api_Val_schema_Same (y : Bool) : D := .p (bV y)
noncomputable def slices_EqualFunc_api_Val_api_Val_api_Val_api_Val_schema_Same_lv : List (Nat × List Nat) := [(0, [0, 1, 2]), (1, [0, 1, 2, 14]), (2, [6]), (3, [1, 2, 15, 16, 17]), (4, [1, 2, 15, 16, 17, 18]), (5, [1, 2, 7, 8, 15, 16, 17]), (6, [1, 2, 8, 9, 15, 16, 17]), (7, [1, 2, 15, 16, 17, 30]), (8, [6]), (9, [1, 2, 15, 16, 17]), (10, [6]), (1000004, [1, 2, 15, 16, 17])]
noncomputable def slices_EqualFunc_api_Val_api_Val_api_Val_api_Val_schema_Same_L1_st (p0 : (List api_Val)) (p1 : (List api_Val)) (v17 : Int) : St := ⟨[(1, .p (.sl false (p1.map c_api_Val))), (2, .fn (.func 59) [] []), (15, .p (.sl false (p0.map c_api_Val))), (16, .p (iV (p0.length : Int))), (17, .p (iV v17))], ⟨[], []⟩⟩
noncomputable def slices_EqualFunc_api_Val_api_Val_api_Val_api_Val_schema_Same_L1_x0 (p0 : (List api_Val)) (p1 : (List api_Val)) (y2 : Unit) : St := ⟨[], ⟨[], []⟩⟩
noncomputable def slices_EqualFunc_api_Val_api_Val_api_Val_api_Val_schema_Same_L1_x1 (p0 : (List api_Val)) (p1 : (List api_Val)) (y3 : Unit) : St := ⟨[(6, .p (bV false))], ⟨[], []⟩⟩
noncomputable def slices_EqualFunc_api_Val_api_Val_api_Val_api_Val_schema_Same_L1_c : Code := ((loopsOf (Tryd.f74.body.getD .skip)).getD 0 .skip)
noncomputable def t_slices_IndexFunc_api_Val_api_Val_built_Call_1 (y : Int) : D := .p (iV y)
noncomputable def slices_IndexFunc_api_Val_api_Val_built_Call_1_lv : List (Nat × List Nat) := [(0, [0, 1]), (1, [0, 1, 7, 8]), (2, [0, 1, 7, 8, 9]), (3, [0, 1, 5, 7, 8]), (4, [0, 1, 5, 7, 8, 16]), (5, [4]), (6, [0, 1, 7, 8]), (7, [4]), (1000002, [0, 1, 7, 8])]
noncomputable def slices_IndexFunc_api_Val_api_Val_built_Call_1_L1_st (p0 : (List api_Val)) (v8 : Int) : St := ⟨[(0, .p (.sl false (p0.map c_api_Val))), (1, .fn (.func 27) [] []), (7, .p (iV (p0.length : Int))), (8, .p (iV v8))], ⟨[], []⟩⟩
noncomputable def slices_IndexFunc_api_Val_api_Val_built_Call_1_L1_x0 (p0 : (List api_Val)) (y2 : Unit) : St := ⟨[], ⟨[], []⟩⟩
noncomputable def slices_IndexFunc_api_Val_api_Val_built_Call_1_L1_x1 (p0 : (List api_Val)) (y3 : Int) : St := ⟨[(4, .p (iV y3))], ⟨[], []⟩⟩
noncomputable def slices_IndexFunc_api_Val_api_Val_built_Call_1_L1_c : Code := ((loopsOf (Tryd.f47.body.getD .skip)).getD 0 .skip)
noncomputable def t_slices_IndexFunc_api_Val_api_Val_schema_Is_1 (y : Int) : D := .p (iV y)
noncomputable def slices_IndexFunc_api_Val_api_Val_schema_Is_1_lv : List (Nat × List Nat) := [(0, [0, 1]), (1, [0, 1, 7, 8]), (2, [0, 1, 7, 8, 9]), (3, [0, 1, 5, 7, 8]), (4, [0, 1, 5, 7, 8, 16]), (5, [4]), (6, [0, 1, 7, 8]), (7, [4]), (1000002, [0, 1, 7, 8])]
noncomputable def slices_IndexFunc_api_Val_api_Val_schema_Is_1_L1_st (p0 : (List api_Val)) (h0_0 : Int) (v8 : Int) : St := ⟨[(0, .p (.sl false (p0.map c_api_Val))), (1, .fn (.func 48) [] [.ptr 0 0]), (7, .p (iV (p0.length : Int))), (8, .p (iV v8))], ⟨[[.p (iV h0_0)]], []⟩⟩
noncomputable def slices_IndexFunc_api_Val_api_Val_schema_Is_1_L1_x0 (p0 : (List api_Val)) (h0_0 : Int) (y2 : Unit) : St := ⟨[], ⟨[[.p (iV h0_0)]], []⟩⟩
noncomputable def slices_IndexFunc_api_Val_api_Val_schema_Is_1_L1_x1 (p0 : (List api_Val)) (h0_0 : Int) (y3 : Int) : St := ⟨[(4, .p (iV y3))], ⟨[[.p (iV h0_0)]], []⟩⟩
noncomputable def slices_IndexFunc_api_Val_api_Val_schema_Is_1_L1_c : Code := ((loopsOf (Tryd.f47.body.getD .skip)).getD 0 .skip)
noncomputable def t_strings_Count (y : Int) : D := .p (iV y)
noncomputable def t_strings_Join (y : (List UInt8)) : D := .p (sV y)
noncomputable def t_strings_ReplaceAll (y : (List UInt8)) : D := .p (sV y)
noncomputable def t_strings_Trim (y : (List UInt8)) : D := .p (sV y)
noncomputable def t_utf_Count (y : Int) : D := .p (iV y)
noncomputable def utf_Count_lv : List (Nat × List Nat) := [(0, [0]), (1, [0, 3]), (2, [3, 5]), (3, [3, 5]), (4, [2]), (4000003, [3, 5])]
noncomputable def utf_Count_L1_st (x1 : (List UInt8)) (h0_0 : Int) : St := ⟨[(3, .ptr 0 0), (5, .fn (.func 88) [] [.p (.ep [sV x1])])], ⟨[[.p (iV h0_0)]], []⟩⟩
noncomputable def utf_Count_L1_x0 (x1 : (List UInt8)) (o6 : Int) : St := ⟨[(3, .ptr 0 0), (5, .fn (.func 88) [] [.p (.ep [sV x1])])], ⟨[[.p (iV o6)]], []⟩⟩
noncomputable def utf_Count_L1_c : Code := ((loopsOf (Tryd.f52.body.getD .skip)).getD 0 .skip)
noncomputable def t_utf_Next (y : Int × Int) : D := .tup [.p (nV .i32 y.1), .p (iV y.2)]
noncomputable def utf_Next_lv : List (Nat × List Nat) := [(0, [0, 1]), (1, [0, 1, 17]), (2, [4, 5]), (3, [0, 1, 6]), (4, [4, 5]), (5, [0, 1, 6, 21]), (6, [4, 5]), (7, [0, 1, 6, 26]), (8, [0, 1, 4, 7, 8]), (9, [0, 1, 6, 36]), (10, [0, 1, 4, 7, 8]), (11, [0, 1, 6, 46]), (12, [0, 1, 4, 7, 8]), (13, [4, 7, 8, 9]), (14, [4, 8, 77]), (15, [4, 5]), (16, [4, 5]), (2004022, []), (3000001, []), (3000007, []), (3000009, []), (3000011, []), (3000014, [])]
noncomputable def utf_Next_J0_0 (p0 : (List UInt8)) (p1 : Int) (o1 : Bool) : St := ⟨[(0, .p (sV p0)), (1, .p (iV p1)), (17, .p (bV o1))], ⟨[], []⟩⟩
noncomputable def utf_Next_J1_0 (p0 : (List UInt8)) (p1 : Int) (y4 : Int × Int × Int) : St := ⟨[(0, .p (sV p0)), (1, .p (iV p1)), (4, .p (nV .i32 y4.1)), (7, .p (nV .i32 y4.2.1)), (8, .p (iV y4.2.2))], ⟨[], []⟩⟩
noncomputable def utf_Next_J1_1 (p0 : (List UInt8)) (p1 : Int) (y5 : Int) : St := ⟨[(4, .p (nV .i32 y5)), (5, .p (iV 1))], ⟨[], []⟩⟩
noncomputable def utf_Next_J2_0 (p0 : (List UInt8)) (p1 : Int) (x2 : UInt8) (o6 : Bool) : St := ⟨[(0, .p (sV p0)), (1, .p (iV p1)), (6, .p (nV .u8 (x2.toNat : Int))), (26, .p (bV o6))], ⟨[], []⟩⟩
noncomputable def utf_Next_J3_0 (p0 : (List UInt8)) (p1 : Int) (x2 : UInt8) (o7 : Bool) : St := ⟨[(0, .p (sV p0)), (1, .p (iV p1)), (6, .p (nV .u8 (x2.toNat : Int))), (36, .p (bV o7))], ⟨[], []⟩⟩
noncomputable def utf_Next_J4_0 (p0 : (List UInt8)) (p1 : Int) (x2 : UInt8) (o8 : Bool) : St := ⟨[(0, .p (sV p0)), (1, .p (iV p1)), (6, .p (nV .u8 (x2.toNat : Int))), (46, .p (bV o8))], ⟨[], []⟩⟩
noncomputable def utf_Next_J5_0 (y4 : Int × Int × Int) (x10 : Int × Bool) (o11 : Bool) : St := ⟨[(4, .p (nV .i32 x10.1)), (8, .p (iV y4.2.2)), (77, .p (bV o11))], ⟨[], []⟩⟩
noncomputable def t_utf_all (y : (List UInt8)) : D := .fn (.func 88) [] [.p (.ep [sV y])]
noncomputable def utf_all_lv : List (Nat × List Nat) := [(0, [1]), (1, [2])]
noncomputable def e_utf_all_1 (y : (Int × Int)) : List V := [nV .i32 y.1, iV y.2]
noncomputable def utf_all_1_lv : List (Nat × List Nat) := [(0, [0, 1, 3]), (1, [0, 1, 3, 9]), (2, [0, 1, 3, 4, 5]), (3, [0, 1, 3, 5, 20]), (4, [0, 1, 3]), (1000001, [0, 1, 3])]
noncomputable def utf_all_1_L1_st (p0 : (List UInt8)) (v3 : Int) (gxs gp : List (List V)) : St := ⟨[(0, .yld Tryd.prog 0 gxs), (1, .p (.ep [sV p0])), (3, .p (iV v3))], ⟨[], [gp.length]⟩⟩
noncomputable def utf_all_1_L1_x0 (p0 : (List UInt8)) (gxs : List (List V)) (gq1 : List (List V)) (oy : Unit) : St := ⟨[], ⟨[], [gq1.length]⟩⟩
noncomputable def utf_all_1_L1_c : Code := ((loopsOf (Tryd.f88.body.getD .skip)).getD 0 .skip)
noncomputable def t_utf_is (y : Bool) : D := .p (bV y)
noncomputable def utf_is_lv : List (Nat × List Nat) := [(0, [0]), (1, [2]), (3000001, [])]
noncomputable def utf_is_J0_0  (o1 : Bool) : St := ⟨[(2, .p (bV o1))], ⟨[], []⟩⟩
noncomputable def t_utf_tail (y : Int × Bool) : D := .tup [.p (nV .i32 y.1), .p (bV y.2)]
noncomputable def utf_tail_lv : List (Nat × List Nat) := [(0, [0, 1, 2]), (1, [0, 1, 2, 12]), (2, [6, 7]), (3, [0, 1, 13, 14]), (4, [0, 1, 13, 14, 15]), (5, [0, 1, 8, 13, 14]), (6, [0, 1, 8, 13, 14, 21]), (7, [6, 7]), (8, [0, 1, 13, 14]), (9, [0, 1, 13, 14]), (10, [6, 7]), (1000004, [0, 1, 13, 14])]
noncomputable def utf_tail_L1_st (p0 : (List UInt8)) (p2 : Int) (v1 : Int) (v14 : Int) : St := ⟨[(0, .p (sV p0)), (1, .p (nV .i32 v1)), (13, .p (iV p2)), (14, .p (iV v14))], ⟨[], []⟩⟩
noncomputable def utf_tail_L1_x0 (p0 : (List UInt8)) (p2 : Int) (y2 : Int) : St := ⟨[(1, .p (nV .i32 y2))], ⟨[], []⟩⟩
noncomputable def utf_tail_L1_x1 (p0 : (List UInt8)) (p2 : Int) (y3 : Unit) : St := ⟨[(6, .p (nV .i32 0)), (7, .p (bV false))], ⟨[], []⟩⟩
noncomputable def utf_tail_L1_c : Code := ((loopsOf (Tryd.f99.body.getD .skip)).getD 0 .skip)
noncomputable def R16_Text (p0 : (List UInt8)) : Option (api_Val) :=
  some (api_Val.mk 1 p0 0 false [])
set_option maxRecDepth 100000 in
set_option maxHeartbeats 4000000 in
theorem R16_Text_ok : ∀ (p0 : (List UInt8)) (o : api_Val), R16_Text p0 = some o → PCall Tryd.prog 14 [sV p0] (t_R16_Text o) := by
  intro p0 o h
  unfold R16_Text at h
  refine PCall.ofB mixed tbOk R16_Text_lv Tryd.func14 rfl (by kernel_rfl) (Nat.le_of_ble_eq_true rfl) ?_
  refine st_ret (t := t_R16_Text) h ?_
  exact .p (.agg' (.cons (.refl _) (.cons (.refl _) (.cons (.refl _) (.cons (.refl _) (.cons (.not) (.nil)))))))
noncomputable def built_Call_L1 (p0 : (List UInt8)) (p1 : (List api_Val)) (v6 : (List Int)) (v13 : Int) : Option ((List Int)) :=
  if (decide (v13 < (p1.length : Int))) then
    idx p1 v13 >>= fun x2 =>
    appL 8 v6 [x2.K] >>= fun x3 =>
    built_Call_L1 p0 p1 x3 (wr (v13 + 1))
  else
    some v6
  partial_fixpoint
set_option maxRecDepth 100000 in
set_option maxHeartbeats 4000000 in
theorem built_Call_L1_grp : ∀ (p0 : (List UInt8)) (p1 : (List api_Val)), (∀ (v6 : (List Int)) (v13 : Int) (o1 : (List Int)), built_Call_L1 p0 p1 v6 v13 = some o1 → TL (0, 0) Tryd.prog 41 built_Call_L1_c (JP1 (0, 0) 41 o1 (.exit 0) (built_Call_L1_x0 p0 p1)) (built_Call_L1_st p0 p1 v6 v13)) := by
  intro p0 p1
  refine built_Call_L1.partial_correctness p0 p1 _ ?_
  intro built_Call_L1' ih_built_Call_L1 v6 v13 o1 h
  refine TL.round (bwp_sound mixed tbOk (lv := built_Call_lv) _ _ _ ?_)
  refine st_test h (fun hb h => ?_) (fun hb h => ?_)
  · refine st_idx (l := p1) (c := c_api_Val) (c' := l_api_Val) h c_api_Val_eq (fun _ => rfl) (by decide) (fun x2 hi h => ?_)
    refine st_appo (a := v6) (b := [x2.K]) (c := cInt) h (.refl _) (fun _ => rfl) rfl (fun x3 hi h => ?_)
    refine TL.le (τ := built_Call_L1_st p0 p1 x3 (wr (v13 + 1))) ?_ ((ih_built_Call_L1 x3 (wr (v13 + 1)) _ h))
    exact Le.tow 1 1 rfl (.cons rfl (.refl _) (.cons rfl (.refl _) (.cons rfl (.refl _) (.cons rfl (.refl _) (.cons rfl (.refl _) (.cons rfl (.refl _) (.cons rfl (.refl _) (.nil)))))))) (.refl _) rfl
  · exact JP1.a h (Le.tow 1 1 rfl (.cons rfl (.refl _) (.cons rfl (.refl _) (.cons rfl (.refl _) (.cons rfl (.refl _) (.nil))))) (.refl _) rfl)
theorem built_Call_L1_ok : ∀ (p0 : (List UInt8)) (p1 : (List api_Val)) (v6 : (List Int)) (v13 : Int) (o1 : (List Int)), built_Call_L1 p0 p1 v6 v13 = some o1 → TL (0, 0) Tryd.prog 41 built_Call_L1_c (JP1 (0, 0) 41 o1 (.exit 0) (built_Call_L1_x0 p0 p1)) (built_Call_L1_st p0 p1 v6 v13) := fun p0 p1 v6 v13 o1 h => (built_Call_L1_grp p0 p1) v6 v13 o1 h
noncomputable def built_within_int (p0 : Int) (p1 : Int) (p2 : Int) (p3 : Int) : Option (Int) :=
  ( if (decide (p1 > 0)) then
      some (decide ((wr (p0 + p1)) < p0))
    else
      some false : Option (Bool)) >>= fun o1 =>
  if o1 then
    some p3
  else
    ( if (decide (p1 < 0)) then
        some (decide ((wr (p0 + p1)) > p0))
      else
        some false : Option (Bool)) >>= fun o2 =>
    if o2 then
      some p2
    else
      some (wr (p0 + p1))
set_option maxRecDepth 100000 in
set_option maxHeartbeats 4000000 in
theorem built_within_int_ok : ∀ (p0 : Int) (p1 : Int) (p2 : Int) (p3 : Int) (o : Int), built_within_int p0 p1 p2 p3 = some o → PCall Tryd.prog 73 [iV p0, iV p1, iV p2, iV p3] (t_built_within_int o) := by
  intro p0 p1 p2 p3 o h
  unfold built_within_int at h
  refine PCall.ofB mixed tbOk built_within_int_lv Tryd.func73 rfl (by kernel_rfl) (Nat.le_of_ble_eq_true rfl) ?_
  refine st_bind h (fun o1 ho hk => ?_)
  refine Exists.intro (JP1 _ _ o1 .normal (built_within_int_J0_0 p0 p1 p2 p3)) (And.intro ?_ (join1 ?_))
  · have h := ho
    refine st_test h (fun hb h => ?_) (fun hb h => ?_)
    · refine JP1.a h ?_
      exact Le.tow 0 0 rfl (.cons rfl (.refl _) (.cons rfl (.refl _) (.cons rfl (.refl _) (.cons rfl (.refl _) (.cons rfl (.refl _) (.cons rfl (.refl _) (.nil))))))) (.refl _) rfl
    · refine JP1.a h ?_
      exact Le.tow 0 0 rfl (.cons rfl (.refl _) (.cons rfl (.refl _) (.cons rfl (.refl _) (.cons rfl (.refl _) (.cons rfl (.refl _) (.cons rfl (.refl _) (.nil))))))) (.refl _) rfl
  · have h := hk
    refine st_test h (fun hb h => ?_) (fun hb h => ?_)
    · refine st_ret (t := t_built_within_int) h ?_
      exact .refl _
    · refine st_bind h (fun o2 ho hk => ?_)
      refine Exists.intro (JP1 _ _ o2 .normal (built_within_int_J1_0 p0 p1 p2)) (And.intro ?_ (join1 ?_))
      · have h := ho
        refine st_test h (fun hb h => ?_) (fun hb h => ?_)
        · refine JP1.a h ?_
          exact Le.tow 0 0 rfl (.cons rfl (.refl _) (.cons rfl (.refl _) (.cons rfl (.refl _) (.nil)))) (.refl _) rfl
        · refine JP1.a h ?_
          exact Le.tow 0 0 rfl (.cons rfl (.refl _) (.cons rfl (.refl _) (.cons rfl (.refl _) (.nil)))) (.refl _) rfl
      · have h := hk
        refine st_test h (fun hb h => ?_) (fun hb h => ?_)
        · refine st_ret (t := t_built_within_int) h ?_
          exact .refl _
        · refine st_ret (t := t_built_within_int) h ?_
          exact .refl _
noncomputable def built_add (p0 : Int) (p1 : Int) : Option (Int) :=
  built_within_int p0 p1 (-9223372036854775808) 9223372036854775807 >>= fun x1 =>
  some x1
set_option maxRecDepth 100000 in
set_option maxHeartbeats 4000000 in
theorem built_add_ok : ∀ (p0 : Int) (p1 : Int) (o : Int), built_add p0 p1 = some o → PCall Tryd.prog 57 [iV p0, iV p1] (t_built_add o) := by
  intro p0 p1 o h
  unfold built_add at h
  refine PCall.ofB mixed tbOk built_add_lv Tryd.func57 rfl (by kernel_rfl) (Nat.le_of_ble_eq_true rfl) ?_
  refine st_call [iV p0, iV p1, iV (-9223372036854775808), iV 9223372036854775807] t_built_within_int h (fun x1 hy => (built_within_int_ok p0 p1 (-9223372036854775808) 9223372036854775807 x1 hy)) (fun x1 hy h => ?_)
  refine st_ret (t := t_built_add) h ?_
  exact .refl _
noncomputable def schema_Text (p0 : (List UInt8)) : Option (api_Val) :=
  some (api_Val.mk 1 p0 0 false [])
set_option maxRecDepth 100000 in
set_option maxHeartbeats 4000000 in
theorem schema_Text_ok : ∀ (p0 : (List UInt8)) (o : api_Val), schema_Text p0 = some o → PCall Tryd.prog 54 [sV p0] (t_schema_Text o) := by
  intro p0 o h
  unfold schema_Text at h
  refine PCall.ofB mixed tbOk schema_Text_lv Tryd.func54 rfl (by kernel_rfl) (Nat.le_of_ble_eq_true rfl) ?_
  refine st_ret (t := t_schema_Text) h ?_
  exact .p (.agg' (.cons (.refl _) (.cons (.refl _) (.cons (.refl _) (.cons (.refl _) (.cons (.not) (.nil)))))))
noncomputable def built_do_L1 (x7 : api_Val) (v41 : Int) (h1_4 : (List api_Val)) : Option ((List api_Val)) :=
  if (decide (v41 < (x7.L.length : Int))) then
    idx x7.L v41 >>= fun x9 =>
    idx x9.L 0 >>= fun x10 =>
    schema_Text x10.S >>= fun x11 =>
    appL 64 h1_4 [x11] >>= fun x12 =>
    built_do_L1 x7 (wr (v41 + 1)) x12
  else
    some h1_4
  partial_fixpoint
set_option maxRecDepth 100000 in
set_option maxHeartbeats 4000000 in
theorem built_do_L1_grp : ∀ (x7 : api_Val), (∀ (v41 : Int) (h1_4 : (List api_Val)) (o8 : (List api_Val)), built_do_L1 x7 v41 h1_4 = some o8 → TL (0, 0) Tryd.prog 185 built_do_L1_c (JP1 (0, 0) 185 o8 (.exit 1) (built_do_L1_x0 x7)) (built_do_L1_st x7 v41 h1_4)) := by
  intro x7
  refine built_do_L1.partial_correctness x7 _ ?_
  intro built_do_L1' ih_built_do_L1 v41 h1_4 o8 h
  refine TL.round (bwp_sound mixed tbOk (lv := built_do_lv) _ _ _ ?_)
  refine st_test h (fun hb h => ?_) (fun hb h => ?_)
  · refine st_idx (l := x7.L) (c := c_api_Val) (c' := l_api_Val) h c_api_Val_eq (fun _ => rfl) (by decide) (fun x9 hi h => ?_)
    refine And.intro (by decide +kernel) (And.intro rfl ?_)
    refine st_idx (l := x9.L) (c := c_api_Val) (c' := l_api_Val) h c_api_Val_eq (fun _ => rfl) (by decide) (fun x10 hi h => ?_)
    refine st_calld [sV x10.S] t_schema_Text h (fun x11 hy => (schema_Text_ok x10.S x11 hy)) (fun x11 hy h => ?_)
    refine st_appo (a := h1_4) (b := [x11]) (c := c_api_Val) h (.cons (.ceq (c_api_Val_eq _) (.refl _)) (.nil)) (fun x => by rw [c_api_Val_eq]; rfl) rfl (fun x12 hi h => ?_)
    refine TL.le (τ := built_do_L1_st x7 (wr (v41 + 1)) x12) ?_ ((ih_built_do_L1 (wr (v41 + 1)) x12 _ h))
    exact Le.tow 2 1 rfl (.cons rfl (.refl _) (.cons rfl (.refl _) (.cons rfl (.refl _) (.cons rfl (.refl _) (.cons rfl (.refl _) (.nil)))))) (.refl _) rfl
  · exact JP1.a h (Le.tow 2 1 rfl (.cons rfl (.refl _) (.cons rfl (.refl _) (.nil))) (.refl _) rfl)
theorem built_do_L1_ok : ∀ (x7 : api_Val) (v41 : Int) (h1_4 : (List api_Val)) (o8 : (List api_Val)), built_do_L1 x7 v41 h1_4 = some o8 → TL (0, 0) Tryd.prog 185 built_do_L1_c (JP1 (0, 0) 185 o8 (.exit 1) (built_do_L1_x0 x7)) (built_do_L1_st x7 v41 h1_4) := fun x7 v41 h1_4 o8 h => (built_do_L1_grp x7) v41 h1_4 o8 h
noncomputable def built_join_L1 (p0 : (List api_Val)) (p1 : (List UInt8)) (v7 : Int) (v19 : Int) (h2_0 : (List (List UInt8))) : Option ((Int × (List (List UInt8)))) :=
  if (decide (v19 < (p0.length : Int))) then
    idx p0 v19 >>= fun x2 =>
    appL 16 h2_0 [x2.S] >>= fun x3 =>
    built_join_L1 p0 p1 (wr (v7 + (x2.S.length : Int))) (wr (v19 + 1)) x3
  else
    some (v7, h2_0)
  partial_fixpoint
set_option maxRecDepth 100000 in
set_option maxHeartbeats 4000000 in
theorem built_join_L1_grp : ∀ (p0 : (List api_Val)) (p1 : (List UInt8)), (∀ (v7 : Int) (v19 : Int) (h2_0 : (List (List UInt8))) (o1 : (Int × (List (List UInt8)))), built_join_L1 p0 p1 v7 v19 h2_0 = some o1 → TL (0, 0) Tryd.prog 39 built_join_L1_c (JP1 (0, 0) 39 o1 (.exit 0) (built_join_L1_x0 p0 p1)) (built_join_L1_st p0 p1 v7 v19 h2_0)) := by
  intro p0 p1
  refine built_join_L1.partial_correctness p0 p1 _ ?_
  intro built_join_L1' ih_built_join_L1 v7 v19 h2_0 o1 h
  refine TL.round (bwp_sound mixed tbOk (lv := built_join_lv) _ _ _ ?_)
  refine st_test h (fun hb h => ?_) (fun hb h => ?_)
  · refine st_idx (l := p0) (c := c_api_Val) (c' := l_api_Val) h c_api_Val_eq (fun _ => rfl) (by decide) (fun x2 hi h => ?_)
    refine st_appo (a := h2_0) (b := [x2.S]) (c := cStr) h (.refl _) (fun _ => rfl) rfl (fun x3 hi h => ?_)
    refine vrfl ?_
    refine TL.le (τ := built_join_L1_st p0 p1 (wr (v7 + (x2.S.length : Int))) (wr (v19 + 1)) x3) ?_ ((ih_built_join_L1 (wr (v7 + (x2.S.length : Int))) (wr (v19 + 1)) x3 _ h))
    exact Le.tow 3 1 rfl (.cons rfl (.refl _) (.cons rfl (.refl _) (.cons rfl (.refl _) (.cons rfl (.refl _) (.cons rfl (.refl _) (.cons rfl (.refl _) (.cons rfl (.refl _) (.nil)))))))) (.refl _) rfl
  · exact JP1.a h (Le.tow 3 1 rfl (.cons rfl (.refl _) (.cons rfl (.refl _) (.cons rfl (.refl _) (.cons rfl (.refl _) (.nil))))) (.refl _) rfl)
theorem built_join_L1_ok : ∀ (p0 : (List api_Val)) (p1 : (List UInt8)) (v7 : Int) (v19 : Int) (h2_0 : (List (List UInt8))) (o1 : (Int × (List (List UInt8)))), built_join_L1 p0 p1 v7 v19 h2_0 = some o1 → TL (0, 0) Tryd.prog 39 built_join_L1_c (JP1 (0, 0) 39 o1 (.exit 0) (built_join_L1_x0 p0 p1)) (built_join_L1_st p0 p1 v7 v19 h2_0) := fun p0 p1 v7 v19 h2_0 o1 h => (built_join_L1_grp p0 p1) v7 v19 h2_0 o1 h
noncomputable def strings_Join (p0 : (List (List UInt8))) (p1 : (List UInt8)) : Option ((List UInt8)) :=
  need (p0.length ≤ 140737488355328) >>= fun _ =>
  need ((Lib.join p0 p1).length ≤ 140737488355328) >>= fun _ =>
  some (Lib.join p0 p1)
set_option maxRecDepth 100000 in
set_option maxHeartbeats 4000000 in
theorem strings_Join_ok : ∀ (p0 : (List (List UInt8))) (p1 : (List UInt8)) (o : (List UInt8)), strings_Join p0 p1 = some o → PCall Tryd.prog 17 [.sl false (p0.map cStr), sV p1] (t_strings_Join o) := by
  intro p0 p1 o h
  unfold strings_Join at h
  obtain ⟨h0, h⟩ := need_some h
  obtain ⟨h1, h⟩ := need_some h
  cases h
  exact join_ok _ _ h0 h1
noncomputable def octet_Join (p0 : (List (List UInt8))) (p1 : (List UInt8)) : Option ((List UInt8)) :=
  strings_Join p0 p1 >>= fun x1 =>
  some x1
set_option maxRecDepth 100000 in
set_option maxHeartbeats 4000000 in
theorem octet_Join_ok : ∀ (p0 : (List (List UInt8))) (p1 : (List UInt8)) (o : (List UInt8)), octet_Join p0 p1 = some o → PCall Tryd.prog 6 [.sl false (p0.map cStr), sV p1] (t_octet_Join o) := by
  intro p0 p1 o h
  unfold octet_Join at h
  refine PCall.ofB mixed tbOk octet_Join_lv Tryd.func6 rfl (by kernel_rfl) (Nat.le_of_ble_eq_true rfl) ?_
  refine st_call [.sl false (p0.map cStr), sV p1] t_strings_Join h (fun x1 hy => (strings_Join_ok p0 p1 x1 hy)) (fun x1 hy h => ?_)
  refine st_ret (t := t_octet_Join) h ?_
  exact .refl _
noncomputable def built_join_1 (h0_0 : (List (List UInt8))) (h1_0 : (List UInt8)) : Option ((List UInt8)) :=
  octet_Join h0_0 h1_0 >>= fun x1 =>
  some x1
set_option maxRecDepth 100000 in
set_option maxHeartbeats 4000000 in
theorem built_join_1_ok : ∀ (h0_0 : (List (List UInt8))) (h1_0 : (List UInt8)) (o : (List UInt8)), built_join_1 h0_0 h1_0 = some o → CallOK Tryd.prog 72 [.ptr 0 0, .ptr 1 0] ⟨[[.own 0 9 1 (h0_0.map cStr)], [.p (sV h1_0)]], [(h0_0.map cStr).length]⟩ (t_built_join_1 o) ⟨[[.own 0 9 1 (h0_0.map cStr)], [.p (sV h1_0)]], [(h0_0.map cStr).length]⟩ := by
  intro h0_0 h1_0 o h
  unfold built_join_1 at h
  refine CallOK.ofB mixed tbOk built_join_1_lv Tryd.func72 rfl (by kernel_rfl) (Nat.le_of_ble_eq_true rfl) rfl rfl rfl ?_
  refine st_call [.sl false (h0_0.map cStr), sV h1_0] t_octet_Join h (fun x1 hy => (octet_Join_ok h0_0 h1_0 x1 hy)) (fun x1 hy h => ?_)
  refine Exists.intro _ (And.intro (Le.refl _ _ _) ?_)
  exact st_retc (t := t_built_join_1) (ss := fun o => ⟨[[.own 0 9 1 (h0_0.map cStr)], [.p (sV h1_0)]], [(h0_0.map cStr).length]⟩) h ⟨[0], rfl, .refl _, .refl _, rfl⟩
noncomputable def built_long_built_join_1 (p0 : Int) (h0_0 : (List (List UInt8))) (h1_0 : (List UInt8)) : Option (api_Val × Int) :=
  if (decide (p0 > 65536)) then
    some ((api_Val.mk 0 [] 0 false []), 204)
  else
    built_join_1 h0_0 h1_0 >>= fun x1 =>
    schema_Text x1 >>= fun x2 =>
    some (x2, 0)
set_option maxRecDepth 100000 in
set_option maxHeartbeats 4000000 in
theorem built_long_built_join_1_ok : ∀ (p0 : Int) (h0_0 : (List (List UInt8))) (h1_0 : (List UInt8)) (o : api_Val × Int), built_long_built_join_1 p0 h0_0 h1_0 = some o → CallOK Tryd.prog 71 [.p (iV p0), .fn (.func 72) [] [.ptr 0 0, .ptr 1 0]] ⟨[[.own 0 9 1 (h0_0.map cStr)], [.p (sV h1_0)]], [(h0_0.map cStr).length]⟩ (t_built_long_built_join_1 o) ⟨[[.own 0 9 1 (h0_0.map cStr)], [.p (sV h1_0)]], [(h0_0.map cStr).length]⟩ := by
  intro p0 h0_0 h1_0 o h
  unfold built_long_built_join_1 at h
  refine CallOK.ofB mixed tbOk built_long_built_join_1_lv Tryd.func71 rfl (by kernel_rfl) (Nat.le_of_ble_eq_true rfl) rfl rfl rfl ?_
  refine st_test h (fun hb h => ?_) (fun hb h => ?_)
  · refine Exists.intro _ (And.intro (Le.refl _ _ _) ?_)
    exact st_retc (t := t_built_long_built_join_1) (ss := fun o => ⟨[[.own 0 9 1 (h0_0.map cStr)], [.p (sV h1_0)]], [(h0_0.map cStr).length]⟩) h ⟨[0], rfl, .tup (xs := [.agg [iV 0, sV [], iV 0, bV false, .sl true []], iV 204]) (ys := [.agg [iV 0, sV [], iV 0, bV false, .sl false []], iV 204]) (.cons (.agg' (.cons (.refl _) (.cons (.refl _) (.cons (.refl _) (.cons (.refl _) (.cons (.not) (.nil))))))) (.cons (.refl _) (.nil))), .refl _, rfl⟩
  · refine st_callc _ _ h (fun x1 hy => ((built_join_1_ok h0_0 h1_0 x1 hy).fr [0, 1] [0] rfl rfl rfl)) (fun x1 hy h => ?_)
    refine st_call [sV x1] t_schema_Text h (fun x2 hy => (schema_Text_ok x1 x2 hy)) (fun x2 hy h => ?_)
    refine Exists.intro _ (And.intro (Le.refl _ _ _) ?_)
    exact st_retc (t := t_built_long_built_join_1) (ss := fun o => ⟨[[.own 0 9 1 (h0_0.map cStr)], [.p (sV h1_0)]], [(h0_0.map cStr).length]⟩) h ⟨[0], rfl, .refl _, .refl _, rfl⟩
noncomputable def built_join (p0 : (List api_Val)) (p1 : (List UInt8)) : Option (api_Val × Int) :=
  (built_join_L1 p0 p1 (wr ((if (wr ((p0.length : Int) - 1)) > (0 : Int) then (wr ((p0.length : Int) - 1)) else (0 : Int)) * (p1.length : Int))) 0 []) >>= fun o1 =>
  built_long_built_join_1 o1.1 o1.2 p1 >>= fun x4 =>
  some (x4.1, x4.2)
set_option maxRecDepth 100000 in
set_option maxHeartbeats 4000000 in
theorem built_join_ok : ∀ (p0 : (List api_Val)) (p1 : (List UInt8)) (o : api_Val × Int), built_join p0 p1 = some o → PCall Tryd.prog 53 [.sl false (p0.map c_api_Val), sV p1] (t_built_join o) := by
  intro p0 p1 o h
  unfold built_join at h
  refine PCall.ofB mixed tbOk built_join_lv Tryd.func53 rfl (by kernel_rfl) (Nat.le_of_ble_eq_true rfl) ?_
  refine view (lenMap _ _) rfl ?_
  refine vrfl ?_
  refine view (lenMap _ _) rfl ?_
  refine st_bind h (fun o1 ho hk => ?_)
  refine Exists.intro (JP1 _ _ o1 (.exit 0) (built_join_L1_x0 p0 p1)) (And.intro (T_le (τ := built_join_L1_st p0 p1 (wr ((if (wr ((p0.length : Int) - 1)) > (0 : Int) then (wr ((p0.length : Int) - 1)) else (0 : Int)) * (p1.length : Int))) 0 []) ?_ (TL.loop (built_join_L1_ok p0 p1 (wr ((if (wr ((p0.length : Int) - 1)) > (0 : Int) then (wr ((p0.length : Int) - 1)) else (0 : Int)) * (p1.length : Int))) 0 [] o1 ho))) (join1 ?_))
  · exact (Le.ownH 2 0 9 1 rfl rfl sizeNil).trans (Le.tow 3 1 rfl (.cons rfl (.refl _) (.cons rfl (.refl _) (.cons rfl (.refl _) (.cons rfl (.refl _) (.cons rfl (.refl _) (.cons rfl (.refl _) (.cons rfl (.refl _) (.nil)))))))) (.refl _) rfl)
  have h := hk
  refine st_callc _ _ h (fun x4 hy => ((built_long_built_join_1_ok o1.1 o1.2 p1 x4 hy).fr [2, 0] [0] rfl rfl rfl)) (fun x4 hy h => ?_)
  refine st_ret (t := t_built_join) h ?_
  exact .refl _
noncomputable def built_sub (p0 : Int) (p1 : Int) : Option (Int) :=
  if (p1 == (-9223372036854775808)) then
    built_add p0 9223372036854775807 >>= fun x1 =>
    built_add x1 1 >>= fun x2 =>
    some x2
  else
    built_add p0 (wr (0 - p1)) >>= fun x3 =>
    some x3
set_option maxRecDepth 100000 in
set_option maxHeartbeats 4000000 in
theorem built_sub_ok : ∀ (p0 : Int) (p1 : Int) (o : Int), built_sub p0 p1 = some o → PCall Tryd.prog 58 [iV p0, iV p1] (t_built_sub o) := by
  intro p0 p1 o h
  unfold built_sub at h
  refine PCall.ofB mixed tbOk built_sub_lv Tryd.func58 rfl (by kernel_rfl) (Nat.le_of_ble_eq_true rfl) ?_
  refine st_test h (fun hb h => ?_) (fun hb h => ?_)
  · refine st_call [iV p0, iV 9223372036854775807] t_built_add h (fun x1 hy => (built_add_ok p0 9223372036854775807 x1 hy)) (fun x1 hy h => ?_)
    refine st_call [iV x1, iV 1] t_built_add h (fun x2 hy => (built_add_ok x1 1 x2 hy)) (fun x2 hy h => ?_)
    refine st_ret (t := t_built_sub) h ?_
    exact .refl _
  · refine st_call [iV p0, iV (wr (0 - p1))] t_built_add h (fun x3 hy => (built_add_ok p0 (wr (0 - p1)) x3 hy)) (fun x3 hy h => ?_)
    refine st_ret (t := t_built_sub) h ?_
    exact .refl _
noncomputable def built_cut_L1 (x1 : (List UInt8)) (l4 : (List Int)) (h0_0 : Int) (h1_0 : Int) : Option ((Int × Int) ⊕ (Int × Int)) :=
  match l4 with
  | [] =>
    some (.inl (h0_0, h1_0))
  | x2 :: r3 =>
    if (decide ((wr (h0_0 - 1)) < 0)) then
      some (.inr ((wr (h0_0 - 1)), h1_0))
    else
      built_cut_L1 x1 r3 (wr (h0_0 - 1)) x2
  partial_fixpoint
set_option maxRecDepth 100000 in
set_option maxHeartbeats 4000000 in
theorem built_cut_L1_grp : ∀ (x1 : (List UInt8)), (∀ (l4 : (List Int)) (h0_0 : Int) (h1_0 : Int) (o6 : (Int × Int) ⊕ (Int × Int)), built_cut_L1 x1 l4 h0_0 h1_0 = some o6 → RL 2 0 Tryd.prog 16 (rgP built_cut_L1_c) (rgA built_cut_L1_c) (rgB built_cut_L1_c) (built_cut_L1_st x1 h0_0 h1_0).env (JP2 (0, 0) 16 o6 .normal (built_cut_L1_x0 x1) (.exit 0) (built_cut_L1_x1 x1)) (l4.map e_built_steps_1) (built_cut_L1_st x1 h0_0 h1_0).s) := by
  intro x1
  refine built_cut_L1.partial_correctness x1 _ ?_
  intro built_cut_L1' ih_built_cut_L1 l4 h0_0 h1_0 o6 h
  cases l4 with
  | nil =>
    refine rl_nil ?_
    exact JP2.a h (Le.tow 2 0 rfl (.cons rfl (.refl _) (.cons rfl (.refl _) (.cons rfl (.refl _) (.nil)))) (.refl _) rfl)
  | cons x2 r3 =>
    refine rl_cons (bwp_sound mixed tbOk (lv := built_cut_lv) _ _ _ ?_)
    refine And.intro rfl (bwp_sound mixed tbOk (lv := built_cut_lv) _ _ _ ?_)
    refine st_test h (fun hb h => ?_) (fun hb h => ?_)
    · exact Exists.intro (⟨[[.p (iV (wr (h0_0 - 1)))], [.p (iV h1_0)]], []⟩ : S) (And.intro (Le.tow 2 0 rfl .nil (.refl _) rfl) (And.intro rfl (And.intro rfl (JP2.b h (Le.tow 2 0 rfl (.cons rfl (.refl _) (.nil)) (.refl _) rfl)))))
    · exact Exists.intro (built_cut_L1_st x1 (wr (h0_0 - 1)) x2).s (And.intro (Le.tow 2 0 rfl (.nil) (.refl _) rfl) (And.intro rfl (And.intro rfl ((ih_built_cut_L1 r3 (wr (h0_0 - 1)) x2 _ h)))))
theorem built_cut_L1_ok : ∀ (x1 : (List UInt8)) (l4 : (List Int)) (h0_0 : Int) (h1_0 : Int) (o6 : (Int × Int) ⊕ (Int × Int)), built_cut_L1 x1 l4 h0_0 h1_0 = some o6 → RL 2 0 Tryd.prog 16 (rgP built_cut_L1_c) (rgA built_cut_L1_c) (rgB built_cut_L1_c) (built_cut_L1_st x1 h0_0 h1_0).env (JP2 (0, 0) 16 o6 .normal (built_cut_L1_x0 x1) (.exit 0) (built_cut_L1_x1 x1)) (l4.map e_built_steps_1) (built_cut_L1_st x1 h0_0 h1_0).s := fun x1 l4 h0_0 h1_0 o6 h => (built_cut_L1_grp x1) l4 h0_0 h1_0 o6 h
noncomputable def built_steps (p0 : (List UInt8)) : Option ((List UInt8)) :=
  some p0
set_option maxRecDepth 100000 in
set_option maxHeartbeats 4000000 in
theorem built_steps_ok : ∀ (p0 : (List UInt8)) (o : (List UInt8)), built_steps p0 = some o → PCall Tryd.prog 90 [sV p0] (t_built_steps o) := by
  intro p0 o h
  unfold built_steps at h
  refine PCall.ofM mixed tbOk built_steps_lv Tryd.func90 rfl (by kernel_rfl) (Nat.le_of_ble_eq_true rfl) ?_
  refine st_ret (t := t_built_steps) h ?_
  exact .refl _
noncomputable def utf_is (p0 : Int) : Option (Bool) :=
  ( if (decide (p0 ≥ 0)) then
      if (decide (p0 ≤ 1114111)) then
        if (decide (p0 < 55296)) then
          some true
        else
          some (decide (p0 > 57343))
      else
        some false
    else
      some false : Option (Bool)) >>= fun o1 =>
  some o1
set_option maxRecDepth 100000 in
set_option maxHeartbeats 4000000 in
theorem utf_is_ok : ∀ (p0 : Int) (o : Bool), utf_is p0 = some o → PCall Tryd.prog 100 [nV .i32 p0] (t_utf_is o) := by
  intro p0 o h
  unfold utf_is at h
  refine PCall.ofB mixed tbOk utf_is_lv Tryd.func100 rfl (by kernel_rfl) (Nat.le_of_ble_eq_true rfl) ?_
  refine st_bind h (fun o1 ho hk => ?_)
  refine Exists.intro (JP1 _ _ o1 .normal (utf_is_J0_0 )) (And.intro ?_ (join1 ?_))
  · have h := ho
    refine st_test h (fun hb h => ?_) (fun hb h => ?_)
    · refine st_test h (fun hb h => ?_) (fun hb h => ?_)
      · refine st_test h (fun hb h => ?_) (fun hb h => ?_)
        · refine JP1.a h ?_
          exact Le.tow 0 0 rfl (.cons rfl (.refl _) (.nil)) (.refl _) rfl
        · refine JP1.a h ?_
          exact Le.tow 0 0 rfl (.cons rfl (.refl _) (.nil)) (.refl _) rfl
      · refine JP1.a h ?_
        exact Le.tow 0 0 rfl (.cons rfl (.refl _) (.nil)) (.refl _) rfl
    · refine bF ?_
      refine JP1.a h ?_
      exact Le.tow 0 0 rfl (.cons rfl (.refl _) (.nil)) (.refl _) rfl
  · have h := hk
    refine st_ret (t := t_utf_is) h ?_
    exact .refl _
noncomputable def utf_tail_L1 (p0 : (List UInt8)) (p2 : Int) (v1 : Int) (v14 : Int) : Option (Int ⊕ Unit) :=
  if (decide (v14 < p2)) then
    idx p0 v14 >>= fun x4 =>
    if ((bits .and .u8 (x4.toNat : Int) 192) != 128) then
      some (.inr ())
    else
      idx p0 v14 >>= fun x5 =>
      utf_tail_L1 p0 p2 (bits .or .i32 (IntKind.i32.wrap (v1 * 2 ^ (min (6 : Int).toNat (IntKind.i32.bits)))) (IntKind.i32.wrap (bits .and .u8 (x5.toNat : Int) 63))) (wr (v14 + 1))
  else
    some (.inl v1)
  partial_fixpoint
set_option maxRecDepth 100000 in
set_option maxHeartbeats 4000000 in
theorem utf_tail_L1_grp : ∀ (p0 : (List UInt8)) (p2 : Int), (∀ (v1 : Int) (v14 : Int) (o1 : Int ⊕ Unit), utf_tail_L1 p0 p2 v1 v14 = some o1 → TL (0, 0) Tryd.prog 32 utf_tail_L1_c (JP2 (0, 0) 32 o1 (.exit 0) (utf_tail_L1_x0 p0 p2) .ret (utf_tail_L1_x1 p0 p2)) (utf_tail_L1_st p0 p2 v1 v14)) := by
  intro p0 p2
  refine utf_tail_L1.partial_correctness p0 p2 _ ?_
  intro utf_tail_L1' ih_utf_tail_L1 v1 v14 o1 h
  refine TL.round (bwp_sound mixed tbOk (lv := utf_tail_lv) _ _ _ ?_)
  refine st_test h (fun hb h => ?_) (fun hb h => ?_)
  · refine st_sidx h (fun x4 hi h => ?_)
    refine st_test h (fun hb h => ?_) (fun hb h => ?_)
    · exact JP2.b h (Le.tow 0 0 rfl (.cons rfl (.refl _) (.cons rfl (.refl _) (.nil))) (.refl _) rfl)
    · refine And.intro (by decide) ?_
      refine st_sidx h (fun x5 hi h => ?_)
      refine vrfl ?_
      refine TL.le (τ := utf_tail_L1_st p0 p2 (bits .or .i32 (IntKind.i32.wrap (v1 * 2 ^ (min (6 : Int).toNat (IntKind.i32.bits)))) (IntKind.i32.wrap (bits .and .u8 (x5.toNat : Int) 63))) (wr (v14 + 1))) ?_ ((ih_utf_tail_L1 (bits .or .i32 (IntKind.i32.wrap (v1 * 2 ^ (min (6 : Int).toNat (IntKind.i32.bits)))) (IntKind.i32.wrap (bits .and .u8 (x5.toNat : Int) 63))) (wr (v14 + 1)) _ h))
      exact Le.tow 0 0 rfl (.cons rfl (.refl _) (.cons rfl (.refl _) (.cons rfl (.refl _) (.cons rfl (.refl _) (.nil))))) (.refl _) rfl
  · exact JP2.a h (Le.tow 0 0 rfl (.cons rfl (.refl _) (.nil)) (.refl _) rfl)
theorem utf_tail_L1_ok : ∀ (p0 : (List UInt8)) (p2 : Int) (v1 : Int) (v14 : Int) (o1 : Int ⊕ Unit), utf_tail_L1 p0 p2 v1 v14 = some o1 → TL (0, 0) Tryd.prog 32 utf_tail_L1_c (JP2 (0, 0) 32 o1 (.exit 0) (utf_tail_L1_x0 p0 p2) .ret (utf_tail_L1_x1 p0 p2)) (utf_tail_L1_st p0 p2 v1 v14) := fun p0 p2 v1 v14 o1 h => (utf_tail_L1_grp p0 p2) v1 v14 o1 h
noncomputable def utf_tail (p0 : (List UInt8)) (p1 : Int) (p2 : Int) : Option (Int × Bool) :=
  if (decide ((p0.length : Int) < p2)) then
    some (0, false)
  else
    (utf_tail_L1 p0 p2 p1 0) >>= fun o1 =>
    match o1 with
    | .inl y2 =>
      some (y2, true)
    | .inr y3 =>
      some (0, false)
set_option maxRecDepth 100000 in
set_option maxHeartbeats 4000000 in
theorem utf_tail_ok : ∀ (p0 : (List UInt8)) (p1 : Int) (p2 : Int) (o : Int × Bool), utf_tail p0 p1 p2 = some o → PCall Tryd.prog 99 [sV p0, nV .i32 p1, iV p2] (t_utf_tail o) := by
  intro p0 p1 p2 o h
  unfold utf_tail at h
  refine PCall.ofB mixed tbOk utf_tail_lv Tryd.func99 rfl (by kernel_rfl) (Nat.le_of_ble_eq_true rfl) ?_
  refine vrfl ?_
  refine st_test h (fun hb h => ?_) (fun hb h => ?_)
  · refine st_ret (t := t_utf_tail) h ?_
    exact .refl _
  · refine st_bind h (fun o1 ho hk => ?_)
    refine Exists.intro (JP2 _ _ o1 (.exit 0) (utf_tail_L1_x0 p0 p2) .ret (utf_tail_L1_x1 p0 p2)) (And.intro (T_le (τ := utf_tail_L1_st p0 p2 p1 0) ?_ (TL.loop (utf_tail_L1_ok p0 p2 p1 0 o1 ho))) (join2 (fun y2 hy => ?_) (fun y3 hy => ?_)))
    · exact Le.tow 0 0 rfl (.cons rfl (.refl _) (.cons rfl (.refl _) (.cons rfl (.refl _) (.cons rfl (.refl _) (.nil))))) (.refl _) rfl
    · have h := (by rw [hy] at hk; exact hk)
      refine st_ret (t := t_utf_tail) h ?_
      exact .refl _
    · have h := (by rw [hy] at hk; exact hk)
      refine st_ret (t := t_utf_tail) h ?_
      exact .refl _
noncomputable def utf_Next (p0 : (List UInt8)) (p1 : Int) : Option (Int × Int) :=
  ( if (decide (p1 < 0)) then
      some true
    else
      some (decide (p1 ≥ (p0.length : Int))) : Option (Bool)) >>= fun o1 =>
  if o1 then
    some (0, 0)
  else
    idx p0 p1 >>= fun x2 =>
    ( if (decide ((x2.toNat : Int) < 128)) then
        some (.inr (IntKind.i32.wrap (x2.toNat : Int)))
      else
        ( if (decide ((x2.toNat : Int) ≥ 192)) then
            some (decide ((x2.toNat : Int) < 224))
          else
            some false : Option (Bool)) >>= fun o6 =>
        if o6 then
          some (.inl ((IntKind.i32.wrap (bits .and .u8 (x2.toNat : Int) 31)), 128, 1))
        else
          ( if (decide ((x2.toNat : Int) ≥ 224)) then
              some (decide ((x2.toNat : Int) < 240))
            else
              some false : Option (Bool)) >>= fun o7 =>
          if o7 then
            some (.inl ((IntKind.i32.wrap (bits .and .u8 (x2.toNat : Int) 15)), 2048, 2))
          else
            ( if (decide ((x2.toNat : Int) ≥ 240)) then
                some (decide ((x2.toNat : Int) < 248))
              else
                some false : Option (Bool)) >>= fun o8 =>
            if o8 then
              some (.inl ((IntKind.i32.wrap (bits .and .u8 (x2.toNat : Int) 7)), 65536, 3))
            else
              some (.inr 65533) : Option ((Int × Int × Int) ⊕ Int)) >>= fun o3 =>
    match o3 with
    | .inl y4 =>
      cutL p0 (wr (p1 + 1)) (p0.length : Int) >>= fun x9 =>
      utf_tail x9 y4.1 y4.2.2 >>= fun x10 =>
      ( if (!x10.2) then
          some true
        else
          if (decide (x10.1 < y4.2.1)) then
            some true
          else
            utf_is x10.1 >>= fun x12 =>
            some (!x12) : Option (Bool)) >>= fun o11 =>
      if o11 then
        some (65533, 1)
      else
        some (x10.1, (wr (y4.2.2 + 1)))
    | .inr y5 =>
      some (y5, 1)
set_option maxRecDepth 100000 in
set_option maxHeartbeats 4000000 in
theorem utf_Next_ok : ∀ (p0 : (List UInt8)) (p1 : Int) (o : Int × Int), utf_Next p0 p1 = some o → PCall Tryd.prog 89 [sV p0, iV p1] (t_utf_Next o) := by
  intro p0 p1 o h
  unfold utf_Next at h
  refine PCall.ofB mixed tbOk utf_Next_lv Tryd.func89 rfl (by kernel_rfl) (Nat.le_of_ble_eq_true rfl) ?_
  refine st_bind h (fun o1 ho hk => ?_)
  refine Exists.intro (JP1 _ _ o1 .normal (utf_Next_J0_0 p0 p1)) (And.intro ?_ (join1 ?_))
  · have h := ho
    refine st_test h (fun hb h => ?_) (fun hb h => ?_)
    · refine JP1.a h ?_
      exact Le.tow 0 0 rfl (.cons rfl (.refl _) (.cons rfl (.refl _) (.cons rfl (.refl _) (.nil)))) (.refl _) rfl
    · refine vrfl ?_
      refine JP1.a h ?_
      exact Le.tow 0 0 rfl (.cons rfl (.refl _) (.cons rfl (.refl _) (.cons rfl (.refl _) (.nil)))) (.refl _) rfl
  · have h := hk
    refine st_test h (fun hb h => ?_) (fun hb h => ?_)
    · refine st_ret (t := t_utf_Next) h ?_
      exact .refl _
    · refine st_sidx h (fun x2 hi h => ?_)
      refine st_bind h (fun o3 ho hk => ?_)
      refine Exists.intro (JP2 _ _ o3 .normal (utf_Next_J1_0 p0 p1) .ret (utf_Next_J1_1 p0 p1)) (And.intro ?_ (join2 (fun y4 hy => ?_) (fun y5 hy => ?_)))
      · have h := ho
        refine st_test h (fun hb h => ?_) (fun hb h => ?_)
        · refine vrfl ?_
          refine JP2.b h ?_
          exact Le.tow 0 0 rfl (.cons rfl (.refl _) (.cons rfl (.refl _) (.nil))) (.refl _) rfl
        · refine st_bind h (fun o6 ho hk => ?_)
          refine Exists.intro (JP1 _ _ o6 .normal (utf_Next_J2_0 p0 p1 x2)) (And.intro ?_ (join1 ?_))
          · have h := ho
            refine st_test h (fun hb h => ?_) (fun hb h => ?_)
            · refine JP1.a h ?_
              exact Le.tow 0 0 rfl (.cons rfl (.refl _) (.cons rfl (.refl _) (.cons rfl (.refl _) (.cons rfl (.refl _) (.nil))))) (.refl _) rfl
            · refine JP1.a h ?_
              exact Le.tow 0 0 rfl (.cons rfl (.refl _) (.cons rfl (.refl _) (.cons rfl (.refl _) (.cons rfl (.refl _) (.nil))))) (.refl _) rfl
          · have h := hk
            refine st_test h (fun hb h => ?_) (fun hb h => ?_)
            · refine vrfl ?_
              refine JP2.a h ?_
              exact Le.tow 0 0 rfl (.cons rfl (.refl _) (.cons rfl (.refl _) (.cons rfl (.refl _) (.cons rfl (.refl _) (.cons rfl (.refl _) (.nil)))))) (.refl _) rfl
            · refine st_bind h (fun o7 ho hk => ?_)
              refine Exists.intro (JP1 _ _ o7 .normal (utf_Next_J3_0 p0 p1 x2)) (And.intro ?_ (join1 ?_))
              · have h := ho
                refine st_test h (fun hb h => ?_) (fun hb h => ?_)
                · refine JP1.a h ?_
                  exact Le.tow 0 0 rfl (.cons rfl (.refl _) (.cons rfl (.refl _) (.cons rfl (.refl _) (.cons rfl (.refl _) (.nil))))) (.refl _) rfl
                · refine JP1.a h ?_
                  exact Le.tow 0 0 rfl (.cons rfl (.refl _) (.cons rfl (.refl _) (.cons rfl (.refl _) (.cons rfl (.refl _) (.nil))))) (.refl _) rfl
              · have h := hk
                refine st_test h (fun hb h => ?_) (fun hb h => ?_)
                · refine vrfl ?_
                  refine JP2.a h ?_
                  exact Le.tow 0 0 rfl (.cons rfl (.refl _) (.cons rfl (.refl _) (.cons rfl (.refl _) (.cons rfl (.refl _) (.cons rfl (.refl _) (.nil)))))) (.refl _) rfl
                · refine st_bind h (fun o8 ho hk => ?_)
                  refine Exists.intro (JP1 _ _ o8 .normal (utf_Next_J4_0 p0 p1 x2)) (And.intro ?_ (join1 ?_))
                  · have h := ho
                    refine st_test h (fun hb h => ?_) (fun hb h => ?_)
                    · refine JP1.a h ?_
                      exact Le.tow 0 0 rfl (.cons rfl (.refl _) (.cons rfl (.refl _) (.cons rfl (.refl _) (.cons rfl (.refl _) (.nil))))) (.refl _) rfl
                    · refine JP1.a h ?_
                      exact Le.tow 0 0 rfl (.cons rfl (.refl _) (.cons rfl (.refl _) (.cons rfl (.refl _) (.cons rfl (.refl _) (.nil))))) (.refl _) rfl
                  · have h := hk
                    refine st_test h (fun hb h => ?_) (fun hb h => ?_)
                    · refine vrfl ?_
                      refine JP2.a h ?_
                      exact Le.tow 0 0 rfl (.cons rfl (.refl _) (.cons rfl (.refl _) (.cons rfl (.refl _) (.cons rfl (.refl _) (.cons rfl (.refl _) (.nil)))))) (.refl _) rfl
                    · refine JP2.b h ?_
                      exact Le.tow 0 0 rfl (.cons rfl (.refl _) (.cons rfl (.refl _) (.nil))) (.refl _) rfl
      · have h := (by rw [hy] at hk; exact hk)
        refine st_cuts (some (wr (p1 + 1))) none h (fun x9 hi h => ?_)
        refine st_call [sV x9, nV .i32 y4.1, iV y4.2.2] t_utf_tail h (fun x10 hy => (utf_tail_ok x9 y4.1 y4.2.2 x10 hy)) (fun x10 hy h => ?_)
        refine st_bind h (fun o11 ho hk => ?_)
        refine Exists.intro (JP1 _ _ o11 .normal (utf_Next_J5_0 y4 x10)) (And.intro ?_ (join1 ?_))
        · have h := ho
          refine st_test h (fun hb h => ?_) (fun hb h => ?_)
          · refine bT ?_
            refine JP1.a h ?_
            exact Le.tow 0 0 rfl (.cons rfl (.refl _) (.cons rfl (.refl _) (.cons rfl (.refl _) (.nil)))) (.refl _) rfl
          · refine st_test h (fun hb h => ?_) (fun hb h => ?_)
            · refine JP1.a h ?_
              exact Le.tow 0 0 rfl (.cons rfl (.refl _) (.cons rfl (.refl _) (.cons rfl (.refl _) (.nil)))) (.refl _) rfl
            · refine st_call [nV .i32 x10.1] t_utf_is h (fun x12 hy => (utf_is_ok x10.1 x12 hy)) (fun x12 hy h => ?_)
              refine JP1.a h ?_
              exact Le.tow 0 0 rfl (.cons rfl (.refl _) (.cons rfl (.refl _) (.cons rfl (.refl _) (.nil)))) (.refl _) rfl
        · have h := hk
          refine st_test h (fun hb h => ?_) (fun hb h => ?_)
          · refine st_ret (t := t_utf_Next) h ?_
            exact .refl _
          · refine st_ret (t := t_utf_Next) h ?_
            exact .refl _
      · have h := (by rw [hy] at hk; exact hk)
        refine st_ret (t := t_utf_Next) h ?_
        exact .refl _
noncomputable def built_steps_1_L1 (p0 : (List UInt8)) (v3 : Int) : Option ((List Int) × (Unit)) :=
  if (decide (v3 < (p0.length : Int))) then
    utf_Next p0 v3 >>= fun x3 =>
    ( built_steps_1_L1 p0 (wr (v3 + x3.2))) >>= fun q => some ((wr (v3 + x3.2)) :: q.1, q.2)
  else
    some ([], ())
  partial_fixpoint
set_option maxRecDepth 100000 in
set_option maxHeartbeats 4000000 in
theorem built_steps_1_L1_grp : ∀ (p0 : (List UInt8)), (∀ (v3 : Int) (o2 : (List Int) × (Unit)), built_steps_1_L1 p0 v3 = some o2 → ∀ (gxs gp gpost gq1 : List (List V)), gxs = gp ++ (o2.1.map e_built_steps_1 ++ gpost) → gxs = gq1 ++ gpost → TL (0, 1) Tryd.prog 23 built_steps_1_L1_c (Qs (0, 1) 23 gxs (JP1 (0, 1) 23 o2.2 (.exit 0) (built_steps_1_L1_x0 p0 gxs gq1))) (built_steps_1_L1_st p0 v3 gxs gp)) := by
  intro p0
  refine built_steps_1_L1.partial_correctness p0 _ ?_
  intro built_steps_1_L1' ih_built_steps_1_L1 v3 o2 h
  intro gxs gp gpost gq1 hx hq
  refine TL.round (bwp_sound mixed tbOk (lv := built_steps_1_lv) _ _ _ ?_)
  refine vrfl ?_
  refine st_test h (fun hb h => ?_) (fun hb h => ?_)
  · refine st_call [sV p0, iV v3] t_utf_Next h (fun x3 hy => (utf_Next_ok p0 v3 x3 hy)) (fun x3 hy h => ?_)
    refine st_yld (c := e_built_steps_1) h hx (.refl _) (by exact rfl) (by exact rfl) (fun _ h hx => ?_) ?_
    · refine bF ?_
      refine TL.le (τ := built_steps_1_L1_st p0 (wr (v3 + x3.2)) gxs (gp ++ [e_built_steps_1 (wr (v3 + x3.2))])) ?_ ((ih_built_steps_1_L1 (wr (v3 + x3.2)) _ h) _ _ _ _ hx hq)
      exact Le.tow 0 1 rfl (.cons rfl (.refl _) (.cons rfl (.refl _) (.cons rfl (.refl _) (.nil)))) (.refl _) rfl
    · refine bT ?_
      exact .inr ⟨rfl, _, (Le.env0 _).trans (Le.tow 0 1 rfl .nil (.refl _) rfl), rfl, rfl, rfl⟩
  · exact .inl (JP1.a (sndI h) (Le.tow 0 1 rfl (.nil) (.refl _) (liveQ h hx hq rfl)))
theorem built_steps_1_L1_ok : ∀ (p0 : (List UInt8)) (v3 : Int) (o2 : (List Int) × (Unit)), built_steps_1_L1 p0 v3 = some o2 → ∀ (gxs gp gpost gq1 : List (List V)), gxs = gp ++ (o2.1.map e_built_steps_1 ++ gpost) → gxs = gq1 ++ gpost → TL (0, 1) Tryd.prog 23 built_steps_1_L1_c (Qs (0, 1) 23 gxs (JP1 (0, 1) 23 o2.2 (.exit 0) (built_steps_1_L1_x0 p0 gxs gq1))) (built_steps_1_L1_st p0 v3 gxs gp) := fun p0 v3 o2 h => (built_steps_1_L1_grp p0) v3 o2 h
noncomputable def built_steps_1 (p0 : (List UInt8)) : Option ((List Int) × Unit) :=
  ( built_steps_1_L1 p0 0) >>= fun o2 => (
    some ([], ())) >>= fun q => some (o2.1 ++ q.1, q.2)
set_option maxRecDepth 100000 in
set_option maxHeartbeats 4000000 in
theorem built_steps_1_ok : ∀ (p0 : (List UInt8)) (o : (List Int) × Unit), built_steps_1 p0 = some o → ∀ gxs : List (List V), gxs = o.1.map e_built_steps_1 → IterOK Tryd.prog 101 [.ep [sV p0]] gxs := by
  intro p0 o h
  unfold built_steps_1 at h
  intro gxs hg
  have hx : gxs = [] ++ (o.1.map e_built_steps_1 ++ []) := by simp [hg]
  refine IterOK.ofB mixed tbOk built_steps_1_lv Tryd.func101 rfl (by kernel_rfl) (Nat.le_of_ble_eq_true rfl) rfl ?_
  refine st_bindI h hx (fun o2 lgq1 gq1 ho hk hxa hjgq1 => ?_)
  refine Exists.intro (Qs _ _ gxs (JP1 _ _ o2.2 (.exit 0) (built_steps_1_L1_x0 p0 gxs gq1))) (And.intro (T_le (τ := built_steps_1_L1_st p0 0 gxs ([] : List (List V))) ?_ (TL.loop ((built_steps_1_L1_ok p0 0 o2 ho) _ _ _ _ hxa hjgq1))) (joinS (join1 ?_) ?_))
  · exact Le.tow 0 1 rfl (.cons rfl (.refl _) (.cons rfl (.refl _) (.cons rfl (.refl _) (.nil)))) (.refl _) rfl
  · have h := hk
    have hx := hjgq1
    exact st_iend h hx (.inl rfl) rfl
  · exact fun s1 h1 h2 hs => st_istop (.inr rfl) hs
noncomputable def built_cut (p0 : (List UInt8)) (p1 : Int) : Option (Int) :=
  built_steps p0 >>= fun x1 =>
  built_steps_1 x1 >>= fun y5 =>
  (built_cut_L1 x1 y5.1 p1 0) >>= fun o6 =>
  match o6 with
  | .inl y7 =>
    some y7.2
  | .inr y8 =>
    some y8.2
set_option maxRecDepth 100000 in
set_option maxHeartbeats 4000000 in
theorem built_cut_ok : ∀ (p0 : (List UInt8)) (p1 : Int) (o : Int), built_cut p0 p1 = some o → PCall Tryd.prog 76 [sV p0, iV p1] (t_built_cut o) := by
  intro p0 p1 o h
  unfold built_cut at h
  refine PCall.ofB mixed tbOk built_cut_lv Tryd.func76 rfl (by kernel_rfl) (Nat.le_of_ble_eq_true rfl) ?_
  refine st_call [sV p0] t_built_steps h (fun x1 hy => (built_steps_ok p0 x1 hy)) (fun x1 hy h => ?_)
  refine st_bind h (fun y5 hy5 h => ?_)
  refine st_bind h (fun o6 ho hk => ?_)
  refine Exists.intro (JP2 _ _ o6 .normal (built_cut_L1_x0 x1) (.exit 0) (built_cut_L1_x1 x1)) (And.intro (T_le (τ := built_cut_L1_st x1 p1 0) ?_ (T_range (g := 101) (cap := [.ep [sV x1]]) rfl ((built_steps_1_ok x1 y5 hy5) _ rfl) (mapSize fun _ => rfl) rfl (Nat.le_of_ble_eq_true rfl) (Nat.le_of_ble_eq_true rfl) (built_cut_L1_ok x1 y5.1 p1 0 o6 ho))) (join2 (fun y7 hy => ?_) (fun y8 hy => ?_)))
  · exact Le.tow 2 0 rfl (.cons rfl (.refl _) (.cons rfl (.refl _) (.cons rfl (.refl _) (.nil)))) (.refl _) rfl
  · have h := (by rw [hy] at hk; exact hk)
    refine st_ret (t := t_built_cut) h ?_
    exact .refl _
  · have h := (by rw [hy] at hk; exact hk)
    refine st_ret (t := t_built_cut) h ?_
    exact .refl _
noncomputable def built_text_1 (h0_0 : (List UInt8)) (h1_0 : (List api_Val)) : Option ((List UInt8)) :=
  idx h1_0 1 >>= fun x1 =>
  need (h0_0.length + x1.S.length ≤ 9223372036854775807) >>= fun _ =>
  some (h0_0 ++ x1.S)
set_option maxRecDepth 100000 in
set_option maxHeartbeats 4000000 in
theorem built_text_1_ok : ∀ (h0_0 : (List UInt8)) (h1_0 : (List api_Val)) (o : (List UInt8)), built_text_1 h0_0 h1_0 = some o → CallOK Tryd.prog 77 [.ptr 0 0, .ptr 1 0] ⟨[[.p (sV h0_0)], [.p (.sl false (h1_0.map c_api_Val))]], []⟩ (t_built_text_1 o) ⟨[[.p (sV h0_0)], [.p (.sl false (h1_0.map c_api_Val))]], []⟩ := by
  intro h0_0 h1_0 o h
  unfold built_text_1 at h
  refine CallOK.ofB mixed tbOk built_text_1_lv Tryd.func77 rfl (by kernel_rfl) (Nat.le_of_ble_eq_true rfl) rfl rfl rfl ?_
  refine And.intro (by decide +kernel) (And.intro rfl ?_)
  refine st_idx (l := h1_0) (c := c_api_Val) (c' := l_api_Val) h c_api_Val_eq (fun _ => rfl) (by decide) (fun x1 hi h => ?_)
  refine st_need h (fun h => ?_)
  refine Exists.intro _ (And.intro (Le.refl _ _ _) ?_)
  exact st_retc (t := t_built_text_1) (ss := fun o => ⟨[[.p (sV h0_0)], [.p (.sl false (h1_0.map c_api_Val))]], []⟩) h ⟨[], rfl, .refl _, .refl _, rfl⟩
noncomputable def built_long_built_text_1 (p0 : Int) (h0_0 : (List UInt8)) (h1_0 : (List api_Val)) : Option (api_Val × Int) :=
  if (decide (p0 > 65536)) then
    some ((api_Val.mk 0 [] 0 false []), 204)
  else
    built_text_1 h0_0 h1_0 >>= fun x1 =>
    schema_Text x1 >>= fun x2 =>
    some (x2, 0)
set_option maxRecDepth 100000 in
set_option maxHeartbeats 4000000 in
theorem built_long_built_text_1_ok : ∀ (p0 : Int) (h0_0 : (List UInt8)) (h1_0 : (List api_Val)) (o : api_Val × Int), built_long_built_text_1 p0 h0_0 h1_0 = some o → CallOK Tryd.prog 71 [.p (iV p0), .fn (.func 77) [] [.ptr 0 0, .ptr 1 0]] ⟨[[.p (sV h0_0)], [.p (.sl false (h1_0.map c_api_Val))]], []⟩ (t_built_long_built_text_1 o) ⟨[[.p (sV h0_0)], [.p (.sl false (h1_0.map c_api_Val))]], []⟩ := by
  intro p0 h0_0 h1_0 o h
  unfold built_long_built_text_1 at h
  refine CallOK.ofB mixed tbOk built_long_built_text_1_lv Tryd.func71 rfl (by kernel_rfl) (Nat.le_of_ble_eq_true rfl) rfl rfl rfl ?_
  refine st_test h (fun hb h => ?_) (fun hb h => ?_)
  · refine Exists.intro _ (And.intro (Le.refl _ _ _) ?_)
    exact st_retc (t := t_built_long_built_text_1) (ss := fun o => ⟨[[.p (sV h0_0)], [.p (.sl false (h1_0.map c_api_Val))]], []⟩) h ⟨[], rfl, .tup (xs := [.agg [iV 0, sV [], iV 0, bV false, .sl true []], iV 204]) (ys := [.agg [iV 0, sV [], iV 0, bV false, .sl false []], iV 204]) (.cons (.agg' (.cons (.refl _) (.cons (.refl _) (.cons (.refl _) (.cons (.refl _) (.cons (.not) (.nil))))))) (.cons (.refl _) (.nil))), .refl _, rfl⟩
  · refine st_callc _ _ h (fun x1 hy => ((built_text_1_ok h0_0 h1_0 x1 hy).fr [0, 1] [] rfl rfl rfl)) (fun x1 hy h => ?_)
    refine st_call [sV x1] t_schema_Text h (fun x2 hy => (schema_Text_ok x1 x2 hy)) (fun x2 hy h => ?_)
    refine Exists.intro _ (And.intro (Le.refl _ _ _) ?_)
    exact st_retc (t := t_built_long_built_text_1) (ss := fun o => ⟨[[.p (sV h0_0)], [.p (.sl false (h1_0.map c_api_Val))]], []⟩) h ⟨[], rfl, .refl _, .refl _, rfl⟩
noncomputable def strings_ReplaceAll (p0 : (List UInt8)) (p1 : (List UInt8)) (p2 : (List UInt8)) : Option ((List UInt8)) :=
  need (p0.length < 4294967281) >>= fun _ =>
  need (1 ≤ p1.length) >>= fun _ =>
  need (p0.length + Lib.countB ⟨p0.toArray⟩ ⟨p1.toArray⟩ * p2.length ≤ 140737488355328) >>= fun _ =>
  some (Lib.replaceAll p0 p1 p2)
set_option maxRecDepth 100000 in
set_option maxHeartbeats 4000000 in
theorem strings_ReplaceAll_ok : ∀ (p0 : (List UInt8)) (p1 : (List UInt8)) (p2 : (List UInt8)) (o : (List UInt8)), strings_ReplaceAll p0 p1 p2 = some o → PCall Tryd.prog 80 [sV p0, sV p1, sV p2] (t_strings_ReplaceAll o) := by
  intro p0 p1 p2 o h
  unfold strings_ReplaceAll at h
  obtain ⟨h1, h⟩ := need_some h
  obtain ⟨h2, h⟩ := need_some h
  obtain ⟨h3, h⟩ := need_some h
  cases h
  exact replaceAll_ok _ _ _ h1 h2 h3
noncomputable def built_text_2 (h0_0 : (List UInt8)) (h1_0 : (List UInt8)) (h2_0 : (List UInt8)) : Option ((List UInt8)) :=
  strings_ReplaceAll h0_0 h1_0 h2_0 >>= fun x1 =>
  some x1
set_option maxRecDepth 100000 in
set_option maxHeartbeats 4000000 in
theorem built_text_2_ok : ∀ (h0_0 : (List UInt8)) (h1_0 : (List UInt8)) (h2_0 : (List UInt8)) (o : (List UInt8)), built_text_2 h0_0 h1_0 h2_0 = some o → CallOK Tryd.prog 79 [.ptr 0 0, .ptr 1 0, .ptr 2 0] ⟨[[.p (sV h0_0)], [.p (sV h1_0)], [.p (sV h2_0)]], []⟩ (t_built_text_2 o) ⟨[[.p (sV h0_0)], [.p (sV h1_0)], [.p (sV h2_0)]], []⟩ := by
  intro h0_0 h1_0 h2_0 o h
  unfold built_text_2 at h
  refine CallOK.ofB mixed tbOk built_text_2_lv Tryd.func79 rfl (by kernel_rfl) (Nat.le_of_ble_eq_true rfl) rfl rfl rfl ?_
  refine st_call [sV h0_0, sV h1_0, sV h2_0] t_strings_ReplaceAll h (fun x1 hy => (strings_ReplaceAll_ok h0_0 h1_0 h2_0 x1 hy)) (fun x1 hy h => ?_)
  refine Exists.intro _ (And.intro (Le.refl _ _ _) ?_)
  exact st_retc (t := t_built_text_2) (ss := fun o => ⟨[[.p (sV h0_0)], [.p (sV h1_0)], [.p (sV h2_0)]], []⟩) h ⟨[], rfl, .refl _, .refl _, rfl⟩
noncomputable def built_long_built_text_2 (p0 : Int) (h0_0 : (List UInt8)) (h1_0 : (List UInt8)) (h2_0 : (List UInt8)) : Option (api_Val × Int) :=
  if (decide (p0 > 65536)) then
    some ((api_Val.mk 0 [] 0 false []), 204)
  else
    built_text_2 h0_0 h1_0 h2_0 >>= fun x1 =>
    schema_Text x1 >>= fun x2 =>
    some (x2, 0)
set_option maxRecDepth 100000 in
set_option maxHeartbeats 4000000 in
theorem built_long_built_text_2_ok : ∀ (p0 : Int) (h0_0 : (List UInt8)) (h1_0 : (List UInt8)) (h2_0 : (List UInt8)) (o : api_Val × Int), built_long_built_text_2 p0 h0_0 h1_0 h2_0 = some o → CallOK Tryd.prog 71 [.p (iV p0), .fn (.func 79) [] [.ptr 0 0, .ptr 1 0, .ptr 2 0]] ⟨[[.p (sV h0_0)], [.p (sV h1_0)], [.p (sV h2_0)]], []⟩ (t_built_long_built_text_2 o) ⟨[[.p (sV h0_0)], [.p (sV h1_0)], [.p (sV h2_0)]], []⟩ := by
  intro p0 h0_0 h1_0 h2_0 o h
  unfold built_long_built_text_2 at h
  refine CallOK.ofB mixed tbOk built_long_built_text_2_lv Tryd.func71 rfl (by kernel_rfl) (Nat.le_of_ble_eq_true rfl) rfl rfl rfl ?_
  refine st_test h (fun hb h => ?_) (fun hb h => ?_)
  · refine Exists.intro _ (And.intro (Le.refl _ _ _) ?_)
    exact st_retc (t := t_built_long_built_text_2) (ss := fun o => ⟨[[.p (sV h0_0)], [.p (sV h1_0)], [.p (sV h2_0)]], []⟩) h ⟨[], rfl, .tup (xs := [.agg [iV 0, sV [], iV 0, bV false, .sl true []], iV 204]) (ys := [.agg [iV 0, sV [], iV 0, bV false, .sl false []], iV 204]) (.cons (.agg' (.cons (.refl _) (.cons (.refl _) (.cons (.refl _) (.cons (.refl _) (.cons (.not) (.nil))))))) (.cons (.refl _) (.nil))), .refl _, rfl⟩
  · refine st_callc _ _ h (fun x1 hy => ((built_text_2_ok h0_0 h1_0 h2_0 x1 hy).fr [0, 1, 2] [] rfl rfl rfl)) (fun x1 hy h => ?_)
    refine st_call [sV x1] t_schema_Text h (fun x2 hy => (schema_Text_ok x1 x2 hy)) (fun x2 hy h => ?_)
    refine Exists.intro _ (And.intro (Le.refl _ _ _) ?_)
    exact st_retc (t := t_built_long_built_text_2) (ss := fun o => ⟨[[.p (sV h0_0)], [.p (sV h1_0)], [.p (sV h2_0)]], []⟩) h ⟨[], rfl, .refl _, .refl _, rfl⟩
noncomputable def built_text_3 (h0_0 : (List UInt8)) : Option ((List UInt8)) :=
  some h0_0
set_option maxRecDepth 100000 in
set_option maxHeartbeats 4000000 in
theorem built_text_3_ok : ∀ (h0_0 : (List UInt8)) (o : (List UInt8)), built_text_3 h0_0 = some o → CallOK Tryd.prog 81 [.ptr 0 0] ⟨[[.p (sV h0_0)]], []⟩ (t_built_text_3 o) ⟨[[.p (sV h0_0)]], []⟩ := by
  intro h0_0 o h
  unfold built_text_3 at h
  refine CallOK.ofB mixed tbOk built_text_3_lv Tryd.func81 rfl (by kernel_rfl) (Nat.le_of_ble_eq_true rfl) rfl rfl rfl ?_
  refine Exists.intro _ (And.intro (Le.refl _ _ _) ?_)
  exact st_retc (t := t_built_text_3) (ss := fun o => ⟨[[.p (sV h0_0)]], []⟩) h ⟨[], rfl, .refl _, .refl _, rfl⟩
noncomputable def built_long_built_text_3 (p0 : Int) (h0_0 : (List UInt8)) : Option (api_Val × Int) :=
  if (decide (p0 > 65536)) then
    some ((api_Val.mk 0 [] 0 false []), 204)
  else
    built_text_3 h0_0 >>= fun x1 =>
    schema_Text x1 >>= fun x2 =>
    some (x2, 0)
set_option maxRecDepth 100000 in
set_option maxHeartbeats 4000000 in
theorem built_long_built_text_3_ok : ∀ (p0 : Int) (h0_0 : (List UInt8)) (o : api_Val × Int), built_long_built_text_3 p0 h0_0 = some o → CallOK Tryd.prog 71 [.p (iV p0), .fn (.func 81) [] [.ptr 0 0]] ⟨[[.p (sV h0_0)]], []⟩ (t_built_long_built_text_3 o) ⟨[[.p (sV h0_0)]], []⟩ := by
  intro p0 h0_0 o h
  unfold built_long_built_text_3 at h
  refine CallOK.ofB mixed tbOk built_long_built_text_3_lv Tryd.func71 rfl (by kernel_rfl) (Nat.le_of_ble_eq_true rfl) rfl rfl rfl ?_
  refine st_test h (fun hb h => ?_) (fun hb h => ?_)
  · refine Exists.intro _ (And.intro (Le.refl _ _ _) ?_)
    exact st_retc (t := t_built_long_built_text_3) (ss := fun o => ⟨[[.p (sV h0_0)]], []⟩) h ⟨[], rfl, .tup (xs := [.agg [iV 0, sV [], iV 0, bV false, .sl true []], iV 204]) (ys := [.agg [iV 0, sV [], iV 0, bV false, .sl false []], iV 204]) (.cons (.agg' (.cons (.refl _) (.cons (.refl _) (.cons (.refl _) (.cons (.refl _) (.cons (.not) (.nil))))))) (.cons (.refl _) (.nil))), .refl _, rfl⟩
  · refine st_callc _ _ h (fun x1 hy => ((built_text_3_ok h0_0 x1 hy).fr [0] [] rfl rfl rfl)) (fun x1 hy h => ?_)
    refine st_call [sV x1] t_schema_Text h (fun x2 hy => (schema_Text_ok x1 x2 hy)) (fun x2 hy h => ?_)
    refine Exists.intro _ (And.intro (Le.refl _ _ _) ?_)
    exact st_retc (t := t_built_long_built_text_3) (ss := fun o => ⟨[[.p (sV h0_0)]], []⟩) h ⟨[], rfl, .refl _, .refl _, rfl⟩
noncomputable def built_turned (p0 : (List UInt8)) (p1 : Int) (p2 : Int) : Option ((List UInt8)) :=
  need (p0.length ≤ 140737488355328) >>= fun _ =>
  some (trnL p1 p2 p0)
set_option maxRecDepth 100000 in
set_option maxHeartbeats 4000000 in
theorem built_turned_ok : ∀ (p0 : (List UInt8)) (p1 : Int) (p2 : Int) (o : (List UInt8)), built_turned p0 p1 p2 = some o → PCall Tryd.prog 75 [sV p0, nV .u8 p1, nV .u8 p2] (t_built_turned o) := by
  intro p0 p1 p2 o h
  unfold built_turned at h
  obtain ⟨h1, h⟩ := need_some h
  cases h
  exact turned_ok _ _ _ h1
noncomputable def schema_Find_L1 (p0 : api_Val) (p1 : (List UInt8)) (v19 : Int) : Option (Unit ⊕ (List UInt8)) :=
  if (decide (v19 < (p0.L.length : Int))) then
    idx p0.L v19 >>= fun x6 =>
    idx x6.L 0 >>= fun x7 =>
    if (x7.S == p1) then
      idx x6.L 1 >>= fun x8 =>
      some (.inr x8.S)
    else
      schema_Find_L1 p0 p1 (wr (v19 + 1))
  else
    some (.inl ())
  partial_fixpoint
set_option maxRecDepth 100000 in
set_option maxHeartbeats 4000000 in
theorem schema_Find_L1_grp : ∀ (p0 : api_Val) (p1 : (List UInt8)), (∀ (v19 : Int) (o3 : Unit ⊕ (List UInt8)), schema_Find_L1 p0 p1 v19 = some o3 → TL (0, 0) Tryd.prog 36 schema_Find_L1_c (JP2 (0, 0) 36 o3 (.exit 0) (schema_Find_L1_x0 p0 p1) .ret (schema_Find_L1_x1 p0 p1)) (schema_Find_L1_st p0 p1 v19)) := by
  intro p0 p1
  refine schema_Find_L1.partial_correctness p0 p1 _ ?_
  intro schema_Find_L1' ih_schema_Find_L1 v19 o3 h
  refine TL.round (bwp_sound mixed tbOk (lv := schema_Find_lv) _ _ _ ?_)
  refine st_test h (fun hb h => ?_) (fun hb h => ?_)
  · refine st_idx (l := p0.L) (c := c_api_Val) (c' := l_api_Val) h c_api_Val_eq (fun _ => rfl) (by decide) (fun x6 hi h => ?_)
    refine st_idx (l := x6.L) (c := c_api_Val) (c' := l_api_Val) h c_api_Val_eq (fun _ => rfl) (by decide) (fun x7 hi h => ?_)
    refine st_test h (fun hb h => ?_) (fun hb h => ?_)
    · refine st_idx (l := x6.L) (c := c_api_Val) (c' := l_api_Val) h c_api_Val_eq (fun _ => rfl) (by decide) (fun x8 hi h => ?_)
      exact JP2.b h (Le.tow 1 0 rfl (.cons rfl (.refl _) (.cons rfl (.refl _) (.nil))) (.refl _) rfl)
    · refine TL.le (τ := schema_Find_L1_st p0 p1 (wr (v19 + 1))) ?_ ((ih_schema_Find_L1 (wr (v19 + 1)) _ h))
      exact Le.tow 1 0 rfl (.cons rfl (.refl _) (.cons rfl (.refl _) (.cons rfl (.refl _) (.cons rfl (.refl _) (.nil))))) (.refl _) rfl
  · exact JP2.a h (Le.tow 1 0 rfl (.nil) (.refl _) rfl)
theorem schema_Find_L1_ok : ∀ (p0 : api_Val) (p1 : (List UInt8)) (v19 : Int) (o3 : Unit ⊕ (List UInt8)), schema_Find_L1 p0 p1 v19 = some o3 → TL (0, 0) Tryd.prog 36 schema_Find_L1_c (JP2 (0, 0) 36 o3 (.exit 0) (schema_Find_L1_x0 p0 p1) .ret (schema_Find_L1_x1 p0 p1)) (schema_Find_L1_st p0 p1 v19) := fun p0 p1 v19 o3 h => (schema_Find_L1_grp p0 p1) v19 o3 h
noncomputable def kind_Elem (p0 : Int) : Option (Int × Bool) :=
  if (p0 == 7) then
    some (1, true)
  else
    if (p0 == 8) then
      some (4, true)
    else
      if (p0 == 9) then
        some (5, true)
      else
        some (0, false)
set_option maxRecDepth 100000 in
set_option maxHeartbeats 4000000 in
theorem kind_Elem_ok : ∀ (p0 : Int) (o : Int × Bool), kind_Elem p0 = some o → PCall Tryd.prog 45 [iV p0] (t_kind_Elem o) := by
  intro p0 o h
  unfold kind_Elem at h
  refine PCall.ofB mixed tbOk kind_Elem_lv Tryd.func45 rfl (by kernel_rfl) (Nat.le_of_ble_eq_true rfl) ?_
  refine st_test h (fun hb h => ?_) (fun hb h => ?_)
  · refine st_ret (t := t_kind_Elem) h ?_
    exact .refl _
  · refine st_test h (fun hb h => ?_) (fun hb h => ?_)
    · refine st_ret (t := t_kind_Elem) h ?_
      exact .refl _
    · refine st_test h (fun hb h => ?_) (fun hb h => ?_)
      · refine st_ret (t := t_kind_Elem) h ?_
        exact .refl _
      · refine st_ret (t := t_kind_Elem) h ?_
        exact .refl _
noncomputable def kind_Fields_L1 (p0 : Int) (x1 : (List kind_field)) (v3 : (List (List UInt8))) (v8 : Int) : Option ((List (List UInt8))) :=
  if (decide (v8 < (x1.length : Int))) then
    idx x1 v8 >>= fun x3 =>
    if (x3.of_ == p0) then
      appL 16 v3 [x3.name_] >>= fun x4 =>
      kind_Fields_L1 p0 x1 x4 (wr (v8 + 1))
    else
      kind_Fields_L1 p0 x1 v3 (wr (v8 + 1))
  else
    some v3
  partial_fixpoint
set_option maxRecDepth 100000 in
set_option maxHeartbeats 4000000 in
theorem kind_Fields_L1_grp : ∀ (p0 : Int) (x1 : (List kind_field)), (∀ (v3 : (List (List UInt8))) (v8 : Int) (o2 : (List (List UInt8))), kind_Fields_L1 p0 x1 v3 v8 = some o2 → TL (0, 0) Tryd.prog 23 kind_Fields_L1_c (JP1 (0, 0) 23 o2 (.exit 0) (kind_Fields_L1_x0 p0 x1)) (kind_Fields_L1_st p0 x1 v3 v8)) := by
  intro p0 x1
  refine kind_Fields_L1.partial_correctness p0 x1 _ ?_
  intro kind_Fields_L1' ih_kind_Fields_L1 v3 v8 o2 h
  refine TL.round (bwp_sound mixed tbOk (lv := kind_Fields_lv) _ _ _ ?_)
  refine st_test h (fun hb h => ?_) (fun hb h => ?_)
  · refine st_idx (l := x1) (c := c_kind_field) (c' := c_kind_field) h (fun _ => rfl) (fun _ => rfl) (by decide) (fun x3 hi h => ?_)
    refine st_test h (fun hb h => ?_) (fun hb h => ?_)
    · refine st_appo (a := v3) (b := [x3.name_]) (c := cStr) h (.refl _) (fun _ => rfl) rfl (fun x4 hi h => ?_)
      refine TL.le (τ := kind_Fields_L1_st p0 x1 x4 (wr (v8 + 1))) ?_ ((ih_kind_Fields_L1 x4 (wr (v8 + 1)) _ h))
      exact Le.tow 0 1 rfl (.cons rfl (.refl _) (.cons rfl (.refl _) (.cons rfl (.refl _) (.cons rfl (.refl _) (.cons rfl (.refl _) (.nil)))))) (.refl _) rfl
    · refine TL.le (τ := kind_Fields_L1_st p0 x1 v3 (wr (v8 + 1))) ?_ ((ih_kind_Fields_L1 v3 (wr (v8 + 1)) _ h))
      exact Le.tow 0 1 rfl (.cons rfl (.refl _) (.cons rfl (.refl _) (.cons rfl (.refl _) (.cons rfl (.refl _) (.cons rfl (.refl _) (.nil)))))) (.refl _) rfl
  · exact JP1.a h (Le.tow 0 1 rfl (.cons rfl (.refl _) (.nil)) (.refl _) rfl)
theorem kind_Fields_L1_ok : ∀ (p0 : Int) (x1 : (List kind_field)) (v3 : (List (List UInt8))) (v8 : Int) (o2 : (List (List UInt8))), kind_Fields_L1 p0 x1 v3 v8 = some o2 → TL (0, 0) Tryd.prog 23 kind_Fields_L1_c (JP1 (0, 0) 23 o2 (.exit 0) (kind_Fields_L1_x0 p0 x1)) (kind_Fields_L1_st p0 x1 v3 v8) := fun p0 x1 v3 v8 o2 h => (kind_Fields_L1_grp p0 x1) v3 v8 o2 h
noncomputable def kind_table : Option ((List kind_field)) :=
  some ([(kind_field.mk 4 [107, 101, 121] 1), (kind_field.mk 4 [118, 97, 108] 1), (kind_field.mk 5 [102, 105, 114, 105, 110, 103] 3), (kind_field.mk 5 [115, 116, 97, 114, 116, 115] 2), (kind_field.mk 5 [118, 97, 108, 117, 101] 2), (kind_field.mk 5 [108, 97, 98, 101, 108, 115] 8), (kind_field.mk 5 [110, 111, 116, 101, 115] 8), (kind_field.mk 5 [108, 105, 110, 107] 1), (kind_field.mk 6 [114, 101, 99, 101, 105, 118, 101, 114] 1), (kind_field.mk 6 [102, 105, 114, 105, 110, 103] 3), (kind_field.mk 6 [99, 111, 109, 109, 111, 110] 8), (kind_field.mk 6 [108, 105, 110, 107] 1), (kind_field.mk 6 [97, 108, 101, 114, 116, 115] 9)])
set_option maxRecDepth 100000 in
set_option maxHeartbeats 4000000 in
theorem kind_table_ok : ∀ (o : (List kind_field)), kind_table  = some o → PCall Tryd.prog 69 [] (t_kind_table o) := by
  intro o h
  unfold kind_table at h
  refine PCall.ofB mixed tbOk kind_table_lv Tryd.func69 rfl (by kernel_rfl) (Nat.le_of_ble_eq_true rfl) ?_
  refine st_ret (t := t_kind_table) h ?_
  exact .p (.not)
noncomputable def kind_Fields (p0 : Int) : Option ((List (List UInt8))) :=
  kind_table >>= fun x1 =>
  (kind_Fields_L1 p0 x1 [] 0) >>= fun o2 =>
  some o2
set_option maxRecDepth 100000 in
set_option maxHeartbeats 4000000 in
theorem kind_Fields_ok : ∀ (p0 : Int) (o : (List (List UInt8))), kind_Fields p0 = some o → PCall Tryd.prog 49 [iV p0] (t_kind_Fields o) := by
  intro p0 o h
  unfold kind_Fields at h
  refine PCall.ofB mixed tbOk kind_Fields_lv Tryd.func49 rfl (by kernel_rfl) (Nat.le_of_ble_eq_true rfl) ?_
  refine st_call [] t_kind_table h (fun x1 hy => (kind_table_ok x1 hy)) (fun x1 hy h => ?_)
  refine view (lenMap _ _) rfl ?_
  refine st_bind h (fun o2 ho hk => ?_)
  refine Exists.intro (JP1 _ _ o2 (.exit 0) (kind_Fields_L1_x0 p0 x1)) (And.intro (T_le (τ := kind_Fields_L1_st p0 x1 [] 0) ?_ (TL.loop (kind_Fields_L1_ok p0 x1 [] 0 o2 ho))) (join1 ?_))
  · exact (Le.own 3 9 1 rfl sizeNil).trans (Le.tow 0 1 rfl (.cons rfl (.refl _) (.cons rfl (.refl _) (.cons rfl (.refl _) (.cons rfl (.refl _) (.cons rfl (.refl _) (.nil)))))) (.refl _) rfl)
  have h := hk
  refine st_ret (t := t_kind_Fields) h ?_
  exact .refl _
noncomputable def kind_Plain (p0 : Int) : Option (Bool) :=
  ( if (decide (p0 ≥ 1)) then
      some (decide (p0 ≤ 3))
    else
      some false : Option (Bool)) >>= fun o1 =>
  some o1
set_option maxRecDepth 100000 in
set_option maxHeartbeats 4000000 in
theorem kind_Plain_ok : ∀ (p0 : Int) (o : Bool), kind_Plain p0 = some o → PCall Tryd.prog 46 [iV p0] (t_kind_Plain o) := by
  intro p0 o h
  unfold kind_Plain at h
  refine PCall.ofB mixed tbOk kind_Plain_lv Tryd.func46 rfl (by kernel_rfl) (Nat.le_of_ble_eq_true rfl) ?_
  refine st_bind h (fun o1 ho hk => ?_)
  refine Exists.intro (JP1 _ _ o1 .normal (kind_Plain_J0_0 )) (And.intro ?_ (join1 ?_))
  · have h := ho
    refine st_test h (fun hb h => ?_) (fun hb h => ?_)
    · refine JP1.a h ?_
      exact Le.tow 0 0 rfl (.cons rfl (.refl _) (.nil)) (.refl _) rfl
    · refine JP1.a h ?_
      exact Le.tow 0 0 rfl (.cons rfl (.refl _) (.nil)) (.refl _) rfl
  · have h := hk
    refine st_ret (t := t_kind_Plain) h ?_
    exact .refl _
noncomputable def kind_Field_L1 (p0 : Int) (p1 : (List UInt8)) (x1 : (List kind_field)) (v10 : Int) : Option (Unit ⊕ Int) :=
  if (decide (v10 < (x1.length : Int))) then
    idx x1 v10 >>= fun x5 =>
    ( if (x5.of_ == p0) then
        some (x5.name_ == p1)
      else
        some false : Option (Bool)) >>= fun o6 =>
    if o6 then
      some (.inr x5.is_)
    else
      kind_Field_L1 p0 p1 x1 (wr (v10 + 1))
  else
    some (.inl ())
  partial_fixpoint
set_option maxRecDepth 100000 in
set_option maxHeartbeats 4000000 in
theorem kind_Field_L1_grp : ∀ (p0 : Int) (p1 : (List UInt8)) (x1 : (List kind_field)), (∀ (v10 : Int) (o2 : Unit ⊕ Int), kind_Field_L1 p0 p1 x1 v10 = some o2 → TL (0, 0) Tryd.prog 27 kind_Field_L1_c (JP2 (0, 0) 27 o2 (.exit 0) (kind_Field_L1_x0 p0 p1 x1) .ret (kind_Field_L1_x1 p0 p1 x1)) (kind_Field_L1_st p0 p1 x1 v10)) := by
  intro p0 p1 x1
  refine kind_Field_L1.partial_correctness p0 p1 x1 _ ?_
  intro kind_Field_L1' ih_kind_Field_L1 v10 o2 h
  refine TL.round (bwp_sound mixed tbOk (lv := kind_Field_lv) _ _ _ ?_)
  refine st_test h (fun hb h => ?_) (fun hb h => ?_)
  · refine st_idx (l := x1) (c := c_kind_field) (c' := c_kind_field) h (fun _ => rfl) (fun _ => rfl) (by decide) (fun x5 hi h => ?_)
    refine st_bind h (fun o6 ho hk => ?_)
    refine Exists.intro (JP1 _ _ o6 .normal (kind_Field_J0_0 p0 p1 x1 v10 x5)) (And.intro ?_ (join1 ?_))
    · have h := ho
      refine st_test h (fun hb h => ?_) (fun hb h => ?_)
      · refine JP1.a h ?_
        exact Le.tow 1 0 rfl (.cons rfl (.refl _) (.cons rfl (.refl _) (.cons rfl (.refl _) (.cons rfl (.refl _) (.cons rfl (.refl _) (.cons rfl (.refl _) (.cons rfl (.refl _) (.nil)))))))) (.refl _) rfl
      · refine JP1.a h ?_
        exact Le.tow 1 0 rfl (.cons rfl (.refl _) (.cons rfl (.refl _) (.cons rfl (.refl _) (.cons rfl (.refl _) (.cons rfl (.refl _) (.cons rfl (.refl _) (.cons rfl (.refl _) (.nil)))))))) (.refl _) rfl
    · have h := hk
      refine st_test h (fun hb h => ?_) (fun hb h => ?_)
      · exact JP2.b h (Le.tow 0 0 rfl (.cons rfl (.refl _) (.cons rfl (.refl _) (.nil))) (.refl _) rfl)
      · refine TL.le (τ := kind_Field_L1_st p0 p1 x1 (wr (v10 + 1))) ?_ ((ih_kind_Field_L1 (wr (v10 + 1)) _ h))
        exact Le.tow 0 0 rfl (.cons rfl (.refl _) (.cons rfl (.refl _) (.cons rfl (.refl _) (.cons rfl (.refl _) (.cons rfl (.refl _) (.nil)))))) (.refl _) rfl
  · exact JP2.a h (Le.tow 0 0 rfl (.nil) (.refl _) rfl)
theorem kind_Field_L1_ok : ∀ (p0 : Int) (p1 : (List UInt8)) (x1 : (List kind_field)) (v10 : Int) (o2 : Unit ⊕ Int), kind_Field_L1 p0 p1 x1 v10 = some o2 → TL (0, 0) Tryd.prog 27 kind_Field_L1_c (JP2 (0, 0) 27 o2 (.exit 0) (kind_Field_L1_x0 p0 p1 x1) .ret (kind_Field_L1_x1 p0 p1 x1)) (kind_Field_L1_st p0 p1 x1 v10) := fun p0 p1 x1 v10 o2 h => (kind_Field_L1_grp p0 p1 x1) v10 o2 h
noncomputable def kind_Field (p0 : Int) (p1 : (List UInt8)) : Option (Int × Bool) :=
  kind_table >>= fun x1 =>
  (kind_Field_L1 p0 p1 x1 0) >>= fun o2 =>
  match o2 with
  | .inl y3 =>
    some (0, false)
  | .inr y4 =>
    some (y4, true)
set_option maxRecDepth 100000 in
set_option maxHeartbeats 4000000 in
theorem kind_Field_ok : ∀ (p0 : Int) (p1 : (List UInt8)) (o : Int × Bool), kind_Field p0 p1 = some o → PCall Tryd.prog 50 [iV p0, sV p1] (t_kind_Field o) := by
  intro p0 p1 o h
  unfold kind_Field at h
  refine PCall.ofB mixed tbOk kind_Field_lv Tryd.func50 rfl (by kernel_rfl) (Nat.le_of_ble_eq_true rfl) ?_
  refine st_call [] t_kind_table h (fun x1 hy => (kind_table_ok x1 hy)) (fun x1 hy h => ?_)
  refine view (lenMap _ _) rfl ?_
  refine st_bind h (fun o2 ho hk => ?_)
  refine Exists.intro (JP2 _ _ o2 (.exit 0) (kind_Field_L1_x0 p0 p1 x1) .ret (kind_Field_L1_x1 p0 p1 x1)) (And.intro (T_le (τ := kind_Field_L1_st p0 p1 x1 0) ?_ (TL.loop (kind_Field_L1_ok p0 p1 x1 0 o2 ho))) (join2 (fun y3 hy => ?_) (fun y4 hy => ?_)))
  · exact Le.tow 0 0 rfl (.cons rfl (.refl _) (.cons rfl (.refl _) (.cons rfl (.refl _) (.cons rfl (.refl _) (.cons rfl (.refl _) (.nil)))))) (.refl _) rfl
  · have h := (by rw [hy] at hk; exact hk)
    refine st_ret (t := t_kind_Field) h ?_
    exact .refl _
  · have h := (by rw [hy] at hk; exact hk)
    refine st_ret (t := t_kind_Field) h ?_
    exact .refl _
mutual
noncomputable def schema_Is (p0 : api_Val) : Option (Bool) :=
  ( if (p0.K == 1) then
      some (p0.S, 0, false)
    else
      if (p0.K == 2) then
        some ([], p0.N, false)
      else
        if (p0.K == 3) then
          some ([], 0, p0.B)
        else
          some ([], 0, false) : Option (((List UInt8) × Int × Bool))) >>= fun o1 =>
  ( if (!(o1.1 == p0.S)) then
      some true
    else
      if (o1.2.1 != p0.N) then
        some true
      else
        some (o1.2.2 != p0.B) : Option (Bool)) >>= fun o2 =>
  if o2 then
    some false
  else
    kind_Plain p0.K >>= fun x3 =>
    if x3 then
      some ((p0.L.length : Int) == 0)
    else
      kind_Elem p0.K >>= fun x4 =>
      if x4.2 then
        ( if (decide ((p0.L.length : Int) ≤ 4096)) then
            slices_ContainsFunc_api_Val_api_Val_schema_Is_1 p0.L x4.1 >>= fun x6 =>
            some (!x6)
          else
            some false : Option (Bool)) >>= fun o5 =>
        some o5
      else
        kind_Fields p0.K >>= fun x7 =>
        ( if ((x7.length : Int) == 0) then
            some true
          else
            some ((x7.length : Int) != (p0.L.length : Int)) : Option (Bool)) >>= fun o8 =>
        if o8 then
          some false
        else
          (schema_Is_L1 p0 o1 x4 x7 0) >>= fun o9 =>
          match o9 with
          | .inl y10 =>
            some true
          | .inr y11 =>
            some false
  partial_fixpoint
noncomputable def schema_Is_L1 (p0 : api_Val) (o1 : (List UInt8) × Int × Bool) (x4 : Int × Bool) (x7 : (List (List UInt8))) (v93 : Int) : Option (Unit ⊕ Unit) :=
  if (decide (v93 < (x7.length : Int))) then
    idx x7 v93 >>= fun x12 =>
    kind_Field p0.K x12 >>= fun x13 =>
    ( idx p0.L v93 >>= fun x15 =>
      if (x15.K != x13.1) then
        some true
      else
        idx p0.L v93 >>= fun x16 =>
        schema_Is x16 >>= fun x17 =>
        some (!x17) : Option (Bool)) >>= fun o14 =>
    if o14 then
      some (.inr ())
    else
      schema_Is_L1 p0 o1 x4 x7 (wr (v93 + 1))
  else
    some (.inl ())
  partial_fixpoint
noncomputable def slices_ContainsFunc_api_Val_api_Val_schema_Is_1 (p0 : (List api_Val)) (h0_0 : Int) : Option (Bool) :=
  slices_IndexFunc_api_Val_api_Val_schema_Is_1 p0 h0_0 >>= fun x1 =>
  some (decide (x1 ≥ 0))
  partial_fixpoint
noncomputable def slices_IndexFunc_api_Val_api_Val_schema_Is_1 (p0 : (List api_Val)) (h0_0 : Int) : Option (Int) :=
  (slices_IndexFunc_api_Val_api_Val_schema_Is_1_L1 p0 h0_0 0) >>= fun o1 =>
  match o1 with
  | .inl y2 =>
    some (-1)
  | .inr y3 =>
    some y3
  partial_fixpoint
noncomputable def slices_IndexFunc_api_Val_api_Val_schema_Is_1_L1 (p0 : (List api_Val)) (h0_0 : Int) (v8 : Int) : Option (Unit ⊕ Int) :=
  if (decide (v8 < (p0.length : Int))) then
    idx p0 v8 >>= fun x4 =>
    schema_Is_1 x4 h0_0 >>= fun x5 =>
    if x5 then
      some (.inr v8)
    else
      slices_IndexFunc_api_Val_api_Val_schema_Is_1_L1 p0 h0_0 (wr (v8 + 1))
  else
    some (.inl ())
  partial_fixpoint
noncomputable def schema_Is_1 (p0 : api_Val) (h0_0 : Int) : Option (Bool) :=
  ( if (p0.K != h0_0) then
      some true
    else
      schema_Is p0 >>= fun x2 =>
      some (!x2) : Option (Bool)) >>= fun o1 =>
  some o1
  partial_fixpoint
end
set_option maxRecDepth 100000 in
set_option maxHeartbeats 4000000 in
theorem schema_Is_grp : (∀ (p0 : api_Val) (o : Bool), schema_Is p0 = some o → PCall Tryd.prog 28 [.agg [iV p0.K, sV p0.S, iV p0.N, bV p0.B, .sl false (p0.L.map c_api_Val)]] (t_schema_Is o)) ∧ (∀ (p0 : api_Val) (o1 : (List UInt8) × Int × Bool) (x4 : Int × Bool) (x7 : (List (List UInt8))) (v93 : Int) (o9 : Unit ⊕ Unit), schema_Is_L1 p0 o1 x4 x7 v93 = some o9 → TL (0, 0) Tryd.prog 123 schema_Is_L1_c (JP2 (0, 0) 123 o9 (.exit 1) (schema_Is_L1_x0 p0 o1 x4 x7) .ret (schema_Is_L1_x1 p0 o1 x4 x7)) (schema_Is_L1_st p0 o1 x4 x7 v93)) ∧ (∀ (p0 : (List api_Val)) (h0_0 : Int) (o : Bool), slices_ContainsFunc_api_Val_api_Val_schema_Is_1 p0 h0_0 = some o → CallOK Tryd.prog 26 [.p (.sl false (p0.map c_api_Val)), .fn (.func 48) [] [.ptr 0 0]] ⟨[[.p (iV h0_0)]], []⟩ (t_slices_ContainsFunc_api_Val_api_Val_schema_Is_1 o) ⟨[[.p (iV h0_0)]], []⟩) ∧ (∀ (p0 : (List api_Val)) (h0_0 : Int) (o : Int), slices_IndexFunc_api_Val_api_Val_schema_Is_1 p0 h0_0 = some o → CallOK Tryd.prog 47 [.p (.sl false (p0.map c_api_Val)), .fn (.func 48) [] [.ptr 0 0]] ⟨[[.p (iV h0_0)]], []⟩ (t_slices_IndexFunc_api_Val_api_Val_schema_Is_1 o) ⟨[[.p (iV h0_0)]], []⟩) ∧ (∀ (p0 : (List api_Val)) (h0_0 : Int) (v8 : Int) (o1 : Unit ⊕ Int), slices_IndexFunc_api_Val_api_Val_schema_Is_1_L1 p0 h0_0 v8 = some o1 → TL (1, 0) Tryd.prog 19 slices_IndexFunc_api_Val_api_Val_schema_Is_1_L1_c (JP2 (1, 0) 19 o1 (.exit 0) (slices_IndexFunc_api_Val_api_Val_schema_Is_1_L1_x0 p0 h0_0) .ret (slices_IndexFunc_api_Val_api_Val_schema_Is_1_L1_x1 p0 h0_0)) (slices_IndexFunc_api_Val_api_Val_schema_Is_1_L1_st p0 h0_0 v8)) ∧ (∀ (p0 : api_Val) (h0_0 : Int) (o : Bool), schema_Is_1 p0 h0_0 = some o → CallOK Tryd.prog 48 [.p (.agg [iV p0.K, sV p0.S, iV p0.N, bV p0.B, .sl false (p0.L.map c_api_Val)]), .ptr 0 0] ⟨[[.p (iV h0_0)]], []⟩ (t_schema_Is_1 o) ⟨[[.p (iV h0_0)]], []⟩) := by
  refine schema_Is.mutual_partial_correctness _ _ _ _ _ _ ?_ ?_ ?_ ?_ ?_ ?_
  · intro schema_Is_L1' slices_ContainsFunc_api_Val_api_Val_schema_Is_1' ih_schema_Is_L1 ih_slices_ContainsFunc_api_Val_api_Val_schema_Is_1 p0 o h
    refine PCall.ofB mixed tbOk schema_Is_lv Tryd.func28 rfl (by kernel_rfl) (Nat.le_of_ble_eq_true rfl) ?_
    refine st_bind h (fun o1 ho hk => ?_)
    refine Exists.intro (JP1 _ _ o1 .normal (schema_Is_J0_0 p0)) (And.intro ?_ (join1 ?_))
    · have h := ho
      refine st_test h (fun hb h => ?_) (fun hb h => ?_)
      · refine JP1.a h ?_
        exact Le.tow 2 0 rfl (.cons rfl (.refl _) (.cons rfl (.refl _) (.nil))) (.refl _) rfl
      · refine st_test h (fun hb h => ?_) (fun hb h => ?_)
        · refine JP1.a h ?_
          exact Le.tow 2 0 rfl (.cons rfl (.refl _) (.cons rfl (.refl _) (.nil))) (.refl _) rfl
        · refine st_test h (fun hb h => ?_) (fun hb h => ?_)
          · refine JP1.a h ?_
            exact Le.tow 2 0 rfl (.cons rfl (.refl _) (.cons rfl (.refl _) (.nil))) (.refl _) rfl
          · refine JP1.a h ?_
            exact Le.tow 2 0 rfl (.cons rfl (.refl _) (.cons rfl (.refl _) (.nil))) (.refl _) rfl
    · have h := hk
      refine st_bind h (fun o2 ho hk => ?_)
      refine Exists.intro (JP1 _ _ o2 .normal (schema_Is_J1_0 p0 o1)) (And.intro ?_ (join1 ?_))
      · have h := ho
        refine st_test h (fun hb h => ?_) (fun hb h => ?_)
        · refine bT ?_
          refine JP1.a h ?_
          exact Le.tow 2 0 rfl (.cons rfl (.refl _) (.cons rfl (.refl _) (.nil))) (.refl _) rfl
        · refine st_test h (fun hb h => ?_) (fun hb h => ?_)
          · refine JP1.a h ?_
            exact Le.tow 2 0 rfl (.cons rfl (.refl _) (.cons rfl (.refl _) (.nil))) (.refl _) rfl
          · refine JP1.a h ?_
            exact Le.tow 2 0 rfl (.cons rfl (.refl _) (.cons rfl (.refl _) (.nil))) (.refl _) rfl
      · have h := hk
        refine st_test h (fun hb h => ?_) (fun hb h => ?_)
        · refine st_ret (t := t_schema_Is) h ?_
          exact .refl _
        · refine st_call [iV p0.K] t_kind_Plain h (fun x3 hy => (kind_Plain_ok p0.K x3 hy)) (fun x3 hy h => ?_)
          refine st_test h (fun hb h => ?_) (fun hb h => ?_)
          · refine view (lenMap _ _) rfl ?_
            refine st_ret (t := t_schema_Is) h ?_
            exact .refl _
          · refine st_call [iV p0.K] t_kind_Elem h (fun x4 hy => (kind_Elem_ok p0.K x4 hy)) (fun x4 hy h => ?_)
            refine st_test h (fun hb h => ?_) (fun hb h => ?_)
            · refine st_bind h (fun o5 ho hk => ?_)
              refine Exists.intro (JP1 _ _ o5 .normal (schema_Is_J2_0 p0 o1 x4)) (And.intro ?_ (join1 ?_))
              · have h := ho
                refine view (lenMap _ _) rfl ?_
                refine st_test h (fun hb h => ?_) (fun hb h => ?_)
                · refine st_callc _ _ h (fun x6 hy => ((ih_slices_ContainsFunc_api_Val_api_Val_schema_Is_1 p0.L x4.1 x6 hy).fr [2] [] rfl rfl rfl)) (fun x6 hy h => ?_)
                  refine JP1.a h ?_
                  exact Le.tow 3 0 rfl (.cons rfl (.refl _) (.nil)) (.refl _) rfl
                · refine JP1.a h ?_
                  exact Le.tow 3 0 rfl (.cons rfl (.refl _) (.nil)) (.refl _) rfl
              · have h := hk
                refine st_ret (t := t_schema_Is) h ?_
                exact .refl _
            · refine st_call [iV p0.K] t_kind_Fields h (fun x7 hy => (kind_Fields_ok p0.K x7 hy)) (fun x7 hy h => ?_)
              refine st_bind h (fun o8 ho hk => ?_)
              refine Exists.intro (JP1 _ _ o8 .normal (schema_Is_J3_0 p0 o1 x4 x7)) (And.intro ?_ (join1 ?_))
              · have h := ho
                refine view (lenMap _ _) rfl ?_
                refine st_test h (fun hb h => ?_) (fun hb h => ?_)
                · refine JP1.a h ?_
                  exact Le.tow 3 0 rfl (.cons rfl (.refl _) (.cons rfl (.refl _) (.cons rfl (.refl _) (.nil)))) (.refl _) rfl
                · refine view (lenMap _ _) rfl ?_
                  refine view (lenMap _ _) rfl ?_
                  refine JP1.a h ?_
                  exact Le.tow 3 0 rfl (.cons rfl (.refl _) (.cons rfl (.refl _) (.cons rfl (.refl _) (.nil)))) (.refl _) rfl
              · have h := hk
                refine st_test h (fun hb h => ?_) (fun hb h => ?_)
                · refine st_ret (t := t_schema_Is) h ?_
                  exact .refl _
                · refine view (lenMap _ _) rfl ?_
                  refine st_bind h (fun o9 ho hk => ?_)
                  refine Exists.intro (JP2 _ _ o9 (.exit 1) (schema_Is_L1_x0 p0 o1 x4 x7) .ret (schema_Is_L1_x1 p0 o1 x4 x7)) (And.intro (T_le (τ := schema_Is_L1_st p0 o1 x4 x7 0) ?_ (TL.loop (ih_schema_Is_L1 p0 o1 x4 x7 0 o9 ho))) (join2 (fun y10 hy => ?_) (fun y11 hy => ?_)))
                  · exact Le.tow 3 0 rfl (.cons rfl (.refl _) (.cons rfl (.refl _) (.cons rfl (.refl _) (.cons rfl (.refl _) (.nil))))) (.refl _) rfl
                  · have h := (by rw [hy] at hk; exact hk)
                    refine st_ret (t := t_schema_Is) h ?_
                    exact .refl _
                  · have h := (by rw [hy] at hk; exact hk)
                    refine st_ret (t := t_schema_Is) h ?_
                    exact .refl _
  · intro schema_Is' schema_Is_L1' ih_schema_Is ih_schema_Is_L1 p0 o1 x4 x7 v93 o9 h
    refine TL.round (bwp_sound mixed tbOk (lv := schema_Is_lv) _ _ _ ?_)
    refine st_test h (fun hb h => ?_) (fun hb h => ?_)
    · refine st_idx (l := x7) (c := cStr) (c' := cStr) h (fun _ => rfl) (fun _ => rfl) (by decide) (fun x12 hi h => ?_)
      refine st_call [iV p0.K, sV x12] t_kind_Field h (fun x13 hy => (kind_Field_ok p0.K x12 x13 hy)) (fun x13 hy h => ?_)
      refine st_bind h (fun o14 ho hk => ?_)
      refine Exists.intro (JP1 _ _ o14 .normal (schema_Is_J4_0 p0 o1 x4 x7 v93)) (And.intro ?_ (join1 ?_))
      · have h := ho
        refine st_idx (l := p0.L) (c := c_api_Val) (c' := l_api_Val) h c_api_Val_eq (fun _ => rfl) (by decide) (fun x15 hi h => ?_)
        refine st_test h (fun hb h => ?_) (fun hb h => ?_)
        · refine JP1.a h ?_
          exact Le.tow 3 0 rfl (.cons rfl (.refl _) (.cons rfl (.refl _) (.cons rfl (.refl _) (.cons rfl (.refl _) (.cons rfl (.refl _) (.nil)))))) (.refl _) rfl
        · refine st_idx (l := p0.L) (c := c_api_Val) (c' := l_api_Val) h c_api_Val_eq (fun _ => rfl) (by decide) (fun x16 hi h => ?_)
          refine st_call [.agg [iV x16.K, sV x16.S, iV x16.N, bV x16.B, .sl false (x16.L.map c_api_Val)]] t_schema_Is h (fun x17 hy => (ih_schema_Is x16 x17 hy)) (fun x17 hy h => ?_)
          refine JP1.a h ?_
          exact Le.tow 3 0 rfl (.cons rfl (.refl _) (.cons rfl (.refl _) (.cons rfl (.refl _) (.cons rfl (.refl _) (.cons rfl (.refl _) (.nil)))))) (.refl _) rfl
      · have h := hk
        refine st_test h (fun hb h => ?_) (fun hb h => ?_)
        · exact JP2.b h (Le.tow 3 0 rfl (.cons rfl (.refl _) (.nil)) (.refl _) rfl)
        · refine TL.le (τ := schema_Is_L1_st p0 o1 x4 x7 (wr (v93 + 1))) ?_ ((ih_schema_Is_L1 p0 o1 x4 x7 (wr (v93 + 1)) _ h))
          exact Le.tow 3 0 rfl (.cons rfl (.refl _) (.cons rfl (.refl _) (.cons rfl (.refl _) (.cons rfl (.refl _) (.nil))))) (.refl _) rfl
    · exact JP2.a h (Le.tow 3 0 rfl (.nil) (.refl _) rfl)
  · intro slices_IndexFunc_api_Val_api_Val_schema_Is_1' ih_slices_IndexFunc_api_Val_api_Val_schema_Is_1 p0 h0_0 o h
    refine CallOK.ofB mixed tbOk slices_ContainsFunc_api_Val_api_Val_schema_Is_1_lv Tryd.func26 rfl (by kernel_rfl) (Nat.le_of_ble_eq_true rfl) rfl rfl rfl ?_
    refine st_callc _ _ h (fun x1 hy => ((ih_slices_IndexFunc_api_Val_api_Val_schema_Is_1 p0 h0_0 x1 hy).fr [0] [] rfl rfl rfl)) (fun x1 hy h => ?_)
    refine Exists.intro _ (And.intro (Le.refl _ _ _) ?_)
    exact st_retc (t := t_slices_ContainsFunc_api_Val_api_Val_schema_Is_1) (ss := fun o => ⟨[[.p (iV h0_0)]], []⟩) h ⟨[], rfl, .refl _, .refl _, rfl⟩
  · intro slices_IndexFunc_api_Val_api_Val_schema_Is_1_L1' ih_slices_IndexFunc_api_Val_api_Val_schema_Is_1_L1 p0 h0_0 o h
    refine CallOK.ofB mixed tbOk slices_IndexFunc_api_Val_api_Val_schema_Is_1_lv Tryd.func47 rfl (by kernel_rfl) (Nat.le_of_ble_eq_true rfl) rfl rfl rfl ?_
    refine view (lenMap _ _) rfl ?_
    refine st_bind h (fun o1 ho hk => ?_)
    refine Exists.intro (JP2 _ _ o1 (.exit 0) (slices_IndexFunc_api_Val_api_Val_schema_Is_1_L1_x0 p0 h0_0) .ret (slices_IndexFunc_api_Val_api_Val_schema_Is_1_L1_x1 p0 h0_0)) (And.intro (T_le (τ := slices_IndexFunc_api_Val_api_Val_schema_Is_1_L1_st p0 h0_0 0) ?_ (TL.loop (ih_slices_IndexFunc_api_Val_api_Val_schema_Is_1_L1 p0 h0_0 0 o1 ho))) (join2 (fun y2 hy => ?_) (fun y3 hy => ?_)))
    · exact Le.tow 1 0 rfl (.cons rfl (.refl _) (.cons rfl (.refl _) (.cons rfl (.refl _) (.cons rfl (.refl _) (.nil))))) (.refl _) rfl
    · have h := (by rw [hy] at hk; exact hk)
      refine Exists.intro _ (And.intro (Le.refl _ _ _) ?_)
      exact st_retc (t := t_slices_IndexFunc_api_Val_api_Val_schema_Is_1) (ss := fun o => ⟨[[.p (iV h0_0)]], []⟩) h ⟨[], rfl, .refl _, .refl _, rfl⟩
    · have h := (by rw [hy] at hk; exact hk)
      refine Exists.intro _ (And.intro (Le.refl _ _ _) ?_)
      exact st_retc (t := t_slices_IndexFunc_api_Val_api_Val_schema_Is_1) (ss := fun o => ⟨[[.p (iV h0_0)]], []⟩) h ⟨[], rfl, .refl _, .refl _, rfl⟩
  · intro slices_IndexFunc_api_Val_api_Val_schema_Is_1_L1' schema_Is_1' ih_slices_IndexFunc_api_Val_api_Val_schema_Is_1_L1 ih_schema_Is_1 p0 h0_0 v8 o1 h
    refine TL.round (bwp_sound mixed tbOk (lv := slices_IndexFunc_api_Val_api_Val_schema_Is_1_lv) _ _ _ ?_)
    refine st_test h (fun hb h => ?_) (fun hb h => ?_)
    · refine st_idx (l := p0) (c := c_api_Val) (c' := l_api_Val) h c_api_Val_eq (fun _ => rfl) (by decide) (fun x4 hi h => ?_)
      refine st_callc _ _ h (fun x5 hy => ((ih_schema_Is_1 x4 h0_0 x5 hy).fr [0] [] rfl rfl rfl)) (fun x5 hy h => ?_)
      refine st_test h (fun hb h => ?_) (fun hb h => ?_)
      · exact JP2.b h (Le.tow 1 0 rfl (.cons rfl (.refl _) (.nil)) (.refl _) rfl)
      · refine TL.le (τ := slices_IndexFunc_api_Val_api_Val_schema_Is_1_L1_st p0 h0_0 (wr (v8 + 1))) ?_ ((ih_slices_IndexFunc_api_Val_api_Val_schema_Is_1_L1 p0 h0_0 (wr (v8 + 1)) _ h))
        exact Le.tow 1 0 rfl (.cons rfl (.refl _) (.cons rfl (.refl _) (.cons rfl (.refl _) (.cons rfl (.refl _) (.nil))))) (.refl _) rfl
    · exact JP2.a h (Le.tow 1 0 rfl (.nil) (.refl _) rfl)
  · intro schema_Is' ih_schema_Is p0 h0_0 o h
    refine CallOK.ofB mixed tbOk schema_Is_1_lv Tryd.func48 rfl (by kernel_rfl) (Nat.le_of_ble_eq_true rfl) rfl rfl rfl ?_
    refine st_bind h (fun o1 ho hk => ?_)
    refine Exists.intro (JP1 _ _ o1 .normal (schema_Is_1_J0_0 p0 h0_0)) (And.intro ?_ (join1 ?_))
    · have h := ho
      refine st_test h (fun hb h => ?_) (fun hb h => ?_)
      · refine JP1.a h ?_
        exact Le.tow 2 0 rfl (.cons rfl (.refl _) (.nil)) (.refl _) rfl
      · refine st_call [.agg [iV p0.K, sV p0.S, iV p0.N, bV p0.B, .sl false (p0.L.map c_api_Val)]] t_schema_Is h (fun x2 hy => (ih_schema_Is p0 x2 hy)) (fun x2 hy h => ?_)
        refine JP1.a h ?_
        exact Le.tow 2 0 rfl (.cons rfl (.refl _) (.nil)) (.refl _) rfl
    · have h := hk
      refine Exists.intro _ (And.intro (Le.refl _ _ _) ?_)
      exact st_retc (t := t_schema_Is_1) (ss := fun o => ⟨[[.p (iV h0_0)]], []⟩) h ⟨[], rfl, .refl _, .refl _, rfl⟩
theorem schema_Is_ok : ∀ (p0 : api_Val) (o : Bool), schema_Is p0 = some o → PCall Tryd.prog 28 [.agg [iV p0.K, sV p0.S, iV p0.N, bV p0.B, .sl false (p0.L.map c_api_Val)]] (t_schema_Is o) := fun p0 o h => schema_Is_grp.1 p0 o h
noncomputable def schema_Find (p0 : api_Val) (p1 : (List UInt8)) : Option ((List UInt8) × Bool) :=
  ( if (p0.K != 8) then
      some true
    else
      schema_Is p0 >>= fun x2 =>
      some (!x2) : Option (Bool)) >>= fun o1 =>
  if o1 then
    some ([], false)
  else
    (schema_Find_L1 p0 p1 0) >>= fun o3 =>
    match o3 with
    | .inl y4 =>
      some ([], false)
    | .inr y5 =>
      some (y5, true)
set_option maxRecDepth 100000 in
set_option maxHeartbeats 4000000 in
theorem schema_Find_ok : ∀ (p0 : api_Val) (p1 : (List UInt8)) (o : (List UInt8) × Bool), schema_Find p0 p1 = some o → PCall Tryd.prog 55 [.agg [iV p0.K, sV p0.S, iV p0.N, bV p0.B, .sl false (p0.L.map c_api_Val)], sV p1] (t_schema_Find o) := by
  intro p0 p1 o h
  unfold schema_Find at h
  refine PCall.ofB mixed tbOk schema_Find_lv Tryd.func55 rfl (by kernel_rfl) (Nat.le_of_ble_eq_true rfl) ?_
  refine st_bind h (fun o1 ho hk => ?_)
  refine Exists.intro (JP1 _ _ o1 .normal (schema_Find_J0_0 p0 p1)) (And.intro ?_ (join1 ?_))
  · have h := ho
    refine st_test h (fun hb h => ?_) (fun hb h => ?_)
    · refine JP1.a h ?_
      exact Le.tow 1 0 rfl (.cons rfl (.refl _) (.cons rfl (.refl _) (.cons rfl (.refl _) (.nil)))) (.refl _) rfl
    · refine st_call [.agg [iV p0.K, sV p0.S, iV p0.N, bV p0.B, .sl false (p0.L.map c_api_Val)]] t_schema_Is h (fun x2 hy => (schema_Is_ok p0 x2 hy)) (fun x2 hy h => ?_)
      refine JP1.a h ?_
      exact Le.tow 1 0 rfl (.cons rfl (.refl _) (.cons rfl (.refl _) (.cons rfl (.refl _) (.nil)))) (.refl _) rfl
  · have h := hk
    refine st_test h (fun hb h => ?_) (fun hb h => ?_)
    · refine st_ret (t := t_schema_Find) h ?_
      exact .refl _
    · refine view (lenMap _ _) rfl ?_
      refine st_bind h (fun o3 ho hk => ?_)
      refine Exists.intro (JP2 _ _ o3 (.exit 0) (schema_Find_L1_x0 p0 p1) .ret (schema_Find_L1_x1 p0 p1)) (And.intro (T_le (τ := schema_Find_L1_st p0 p1 0) ?_ (TL.loop (schema_Find_L1_ok p0 p1 0 o3 ho))) (join2 (fun y4 hy => ?_) (fun y5 hy => ?_)))
      · exact Le.tow 1 0 rfl (.cons rfl (.refl _) (.cons rfl (.refl _) (.cons rfl (.refl _) (.cons rfl (.refl _) (.nil))))) (.refl _) rfl
      · have h := (by rw [hy] at hk; exact hk)
        refine st_ret (t := t_schema_Find) h ?_
        exact .refl _
      · have h := (by rw [hy] at hk; exact hk)
        refine st_ret (t := t_schema_Find) h ?_
        exact .refl _
noncomputable def strings_Count (p0 : (List UInt8)) (p1 : (List UInt8)) : Option (Int) :=
  need (p0.length < 4294967281) >>= fun _ =>
  need (1 ≤ p1.length) >>= fun _ =>
  some ((Lib.countB ⟨p0.toArray⟩ ⟨p1.toArray⟩ : Nat) : Int)
set_option maxRecDepth 100000 in
set_option maxHeartbeats 4000000 in
theorem strings_Count_ok : ∀ (p0 : (List UInt8)) (p1 : (List UInt8)) (o : Int), strings_Count p0 p1 = some o → PCall Tryd.prog 78 [sV p0, sV p1] (t_strings_Count o) := by
  intro p0 p1 o h
  unfold strings_Count at h
  obtain ⟨h1, h⟩ := need_some h
  obtain ⟨h2, h⟩ := need_some h
  cases h
  exact count_ok _ _ h1 h2
noncomputable def strings_Trim (p0 : (List UInt8)) (p1 : (List UInt8)) : Option ((List UInt8)) :=
  need (p0.length ≤ 9223372036854775807) >>= fun _ =>
  need (p1.length < 4294967281) >>= fun _ =>
  need (p1.all (fun b => decide (b.toNat < 128)) = true) >>= fun _ =>
  some (Lib.trimS p0 p1)
set_option maxRecDepth 100000 in
set_option maxHeartbeats 4000000 in
theorem strings_Trim_ok : ∀ (p0 : (List UInt8)) (p1 : (List UInt8)) (o : (List UInt8)), strings_Trim p0 p1 = some o → PCall Tryd.prog 18 [sV p0, sV p1] (t_strings_Trim o) := by
  intro p0 p1 o h
  unfold strings_Trim at h
  obtain ⟨h1, h⟩ := need_some h
  obtain ⟨h2, h⟩ := need_some h
  obtain ⟨h3, h⟩ := need_some h
  cases h
  exact trim_ok _ _ h1 h2 h3
noncomputable def utf_Count_L1 (x1 : (List UInt8)) (l4 : (List (Int × Int))) (h0_0 : Int) : Option (Int) :=
  match l4 with
  | [] =>
    some h0_0
  | x2 :: r3 =>
    utf_Count_L1 x1 r3 (wr (h0_0 + 1))
  partial_fixpoint
set_option maxRecDepth 100000 in
set_option maxHeartbeats 4000000 in
theorem utf_Count_L1_grp : ∀ (x1 : (List UInt8)), (∀ (l4 : (List (Int × Int))) (h0_0 : Int) (o6 : Int), utf_Count_L1 x1 l4 h0_0 = some o6 → RL 1 0 Tryd.prog 11 (rgP utf_Count_L1_c) (rgA utf_Count_L1_c) (rgB utf_Count_L1_c) (utf_Count_L1_st x1 h0_0).env (JP1 (0, 0) 11 o6 .normal (utf_Count_L1_x0 x1)) (l4.map e_utf_all_1) (utf_Count_L1_st x1 h0_0).s) := by
  intro x1
  refine utf_Count_L1.partial_correctness x1 _ ?_
  intro utf_Count_L1' ih_utf_Count_L1 l4 h0_0 o6 h
  cases l4 with
  | nil =>
    refine rl_nil ?_
    exact JP1.a h (Le.tow 1 0 rfl (.cons rfl (.refl _) (.cons rfl (.refl _) (.nil))) (.refl _) rfl)
  | cons x2 r3 =>
    refine rl_cons (bwp_sound mixed tbOk (lv := utf_Count_lv) _ _ _ ?_)
    refine And.intro rfl (bwp_sound mixed tbOk (lv := utf_Count_lv) _ _ _ ?_)
    exact Exists.intro (utf_Count_L1_st x1 (wr (h0_0 + 1))).s (And.intro (Le.tow 1 0 rfl (.nil) (.refl _) rfl) (And.intro rfl (And.intro rfl ((ih_utf_Count_L1 r3 (wr (h0_0 + 1)) _ h)))))
theorem utf_Count_L1_ok : ∀ (x1 : (List UInt8)) (l4 : (List (Int × Int))) (h0_0 : Int) (o6 : Int), utf_Count_L1 x1 l4 h0_0 = some o6 → RL 1 0 Tryd.prog 11 (rgP utf_Count_L1_c) (rgA utf_Count_L1_c) (rgB utf_Count_L1_c) (utf_Count_L1_st x1 h0_0).env (JP1 (0, 0) 11 o6 .normal (utf_Count_L1_x0 x1)) (l4.map e_utf_all_1) (utf_Count_L1_st x1 h0_0).s := fun x1 l4 h0_0 o6 h => (utf_Count_L1_grp x1) l4 h0_0 o6 h
noncomputable def utf_all (p0 : (List UInt8)) : Option ((List UInt8)) :=
  some p0
set_option maxRecDepth 100000 in
set_option maxHeartbeats 4000000 in
theorem utf_all_ok : ∀ (p0 : (List UInt8)) (o : (List UInt8)), utf_all p0 = some o → PCall Tryd.prog 70 [sV p0] (t_utf_all o) := by
  intro p0 o h
  unfold utf_all at h
  refine PCall.ofM mixed tbOk utf_all_lv Tryd.func70 rfl (by kernel_rfl) (Nat.le_of_ble_eq_true rfl) ?_
  refine st_ret (t := t_utf_all) h ?_
  exact .refl _
noncomputable def utf_all_1_L1 (p0 : (List UInt8)) (v3 : Int) : Option ((List (Int × Int)) × (Unit)) :=
  if (decide (v3 < (p0.length : Int))) then
    utf_Next p0 v3 >>= fun x3 =>
    ( utf_all_1_L1 p0 (wr (v3 + x3.2))) >>= fun q => some ((x3.1, x3.2) :: q.1, q.2)
  else
    some ([], ())
  partial_fixpoint
set_option maxRecDepth 100000 in
set_option maxHeartbeats 4000000 in
theorem utf_all_1_L1_grp : ∀ (p0 : (List UInt8)), (∀ (v3 : Int) (o2 : (List (Int × Int)) × (Unit)), utf_all_1_L1 p0 v3 = some o2 → ∀ (gxs gp gpost gq1 : List (List V)), gxs = gp ++ (o2.1.map e_utf_all_1 ++ gpost) → gxs = gq1 ++ gpost → TL (0, 1) Tryd.prog 24 utf_all_1_L1_c (Qs (0, 1) 24 gxs (JP1 (0, 1) 24 o2.2 (.exit 0) (utf_all_1_L1_x0 p0 gxs gq1))) (utf_all_1_L1_st p0 v3 gxs gp)) := by
  intro p0
  refine utf_all_1_L1.partial_correctness p0 _ ?_
  intro utf_all_1_L1' ih_utf_all_1_L1 v3 o2 h
  intro gxs gp gpost gq1 hx hq
  refine TL.round (bwp_sound mixed tbOk (lv := utf_all_1_lv) _ _ _ ?_)
  refine vrfl ?_
  refine st_test h (fun hb h => ?_) (fun hb h => ?_)
  · refine st_call [sV p0, iV v3] t_utf_Next h (fun x3 hy => (utf_Next_ok p0 v3 x3 hy)) (fun x3 hy h => ?_)
    refine st_yld (c := e_utf_all_1) h hx (.refl _) (by exact rfl) (by exact rfl) (fun _ h hx => ?_) ?_
    · refine bF ?_
      refine TL.le (τ := utf_all_1_L1_st p0 (wr (v3 + x3.2)) gxs (gp ++ [e_utf_all_1 (x3.1, x3.2)])) ?_ ((ih_utf_all_1_L1 (wr (v3 + x3.2)) _ h) _ _ _ _ hx hq)
      exact Le.tow 0 1 rfl (.cons rfl (.refl _) (.cons rfl (.refl _) (.cons rfl (.refl _) (.nil)))) (.refl _) rfl
    · refine bT ?_
      exact .inr ⟨rfl, _, (Le.env0 _).trans (Le.tow 0 1 rfl .nil (.refl _) rfl), rfl, rfl, rfl⟩
  · exact .inl (JP1.a (sndI h) (Le.tow 0 1 rfl (.nil) (.refl _) (liveQ h hx hq rfl)))
theorem utf_all_1_L1_ok : ∀ (p0 : (List UInt8)) (v3 : Int) (o2 : (List (Int × Int)) × (Unit)), utf_all_1_L1 p0 v3 = some o2 → ∀ (gxs gp gpost gq1 : List (List V)), gxs = gp ++ (o2.1.map e_utf_all_1 ++ gpost) → gxs = gq1 ++ gpost → TL (0, 1) Tryd.prog 24 utf_all_1_L1_c (Qs (0, 1) 24 gxs (JP1 (0, 1) 24 o2.2 (.exit 0) (utf_all_1_L1_x0 p0 gxs gq1))) (utf_all_1_L1_st p0 v3 gxs gp) := fun p0 v3 o2 h => (utf_all_1_L1_grp p0) v3 o2 h
noncomputable def utf_all_1 (p0 : (List UInt8)) : Option ((List (Int × Int)) × Unit) :=
  ( utf_all_1_L1 p0 0) >>= fun o2 => (
    some ([], ())) >>= fun q => some (o2.1 ++ q.1, q.2)
set_option maxRecDepth 100000 in
set_option maxHeartbeats 4000000 in
theorem utf_all_1_ok : ∀ (p0 : (List UInt8)) (o : (List (Int × Int)) × Unit), utf_all_1 p0 = some o → ∀ gxs : List (List V), gxs = o.1.map e_utf_all_1 → IterOK Tryd.prog 88 [.ep [sV p0]] gxs := by
  intro p0 o h
  unfold utf_all_1 at h
  intro gxs hg
  have hx : gxs = [] ++ (o.1.map e_utf_all_1 ++ []) := by simp [hg]
  refine IterOK.ofB mixed tbOk utf_all_1_lv Tryd.func88 rfl (by kernel_rfl) (Nat.le_of_ble_eq_true rfl) rfl ?_
  refine st_bindI h hx (fun o2 lgq1 gq1 ho hk hxa hjgq1 => ?_)
  refine Exists.intro (Qs _ _ gxs (JP1 _ _ o2.2 (.exit 0) (utf_all_1_L1_x0 p0 gxs gq1))) (And.intro (T_le (τ := utf_all_1_L1_st p0 0 gxs ([] : List (List V))) ?_ (TL.loop ((utf_all_1_L1_ok p0 0 o2 ho) _ _ _ _ hxa hjgq1))) (joinS (join1 ?_) ?_))
  · exact Le.tow 0 1 rfl (.cons rfl (.refl _) (.cons rfl (.refl _) (.cons rfl (.refl _) (.nil)))) (.refl _) rfl
  · have h := hk
    have hx := hjgq1
    exact st_iend h hx (.inl rfl) rfl
  · exact fun s1 h1 h2 hs => st_istop (.inr rfl) hs
noncomputable def utf_Count (p0 : (List UInt8)) : Option (Int) :=
  utf_all p0 >>= fun x1 =>
  utf_all_1 x1 >>= fun y5 =>
  (utf_Count_L1 x1 y5.1 0) >>= fun o6 =>
  some o6
set_option maxRecDepth 100000 in
set_option maxHeartbeats 4000000 in
theorem utf_Count_ok : ∀ (p0 : (List UInt8)) (o : Int), utf_Count p0 = some o → PCall Tryd.prog 52 [sV p0] (t_utf_Count o) := by
  intro p0 o h
  unfold utf_Count at h
  refine PCall.ofB mixed tbOk utf_Count_lv Tryd.func52 rfl (by kernel_rfl) (Nat.le_of_ble_eq_true rfl) ?_
  refine st_call [sV p0] t_utf_all h (fun x1 hy => (utf_all_ok p0 x1 hy)) (fun x1 hy h => ?_)
  refine st_bind h (fun y5 hy5 h => ?_)
  refine st_bind h (fun o6 ho hk => ?_)
  refine Exists.intro (JP1 _ _ o6 .normal (utf_Count_L1_x0 x1)) (And.intro (T_le (τ := utf_Count_L1_st x1 0) ?_ (T_range (g := 88) (cap := [.ep [sV x1]]) rfl ((utf_all_1_ok x1 y5 hy5) _ rfl) (mapSize fun _ => rfl) rfl (Nat.le_of_ble_eq_true rfl) (Nat.le_of_ble_eq_true rfl) (utf_Count_L1_ok x1 y5.1 0 o6 ho))) (join1 ?_))
  · exact Le.tow 1 0 rfl (.cons rfl (.refl _) (.cons rfl (.refl _) (.nil))) (.refl _) rfl
  have h := hk
  refine st_ret (t := t_utf_Count) h ?_
  exact .refl _
noncomputable def built_text (p0 : (List UInt8)) (p1 : (List api_Val)) : Option (api_Val × Int) :=
  idx p1 0 >>= fun x1 =>
  ( if (p0 == [117, 112, 112, 101, 114]) then
      built_turned x1.S 97 122 >>= fun x5 =>
      some (.inl x5)
    else
      if (p0 == [108, 111, 119, 101, 114]) then
        built_turned x1.S 65 90 >>= fun x6 =>
        some (.inl x6)
      else
        if (p0 == [116, 114, 105, 109]) then
          strings_Trim x1.S [32, 9, 10, 13] >>= fun x7 =>
          some (.inl x7)
        else
          if (p0 == [102, 105, 114, 115, 116]) then
            idx p1 1 >>= fun x8 =>
            built_cut x1.S (if 0 > x8.N then 0 else x8.N) >>= fun x9 =>
            cutL x1.S 0 x9 >>= fun x10 =>
            some (.inl x10)
          else
            if (p0 == [108, 97, 115, 116]) then
              utf_Count x1.S >>= fun x11 =>
              idx p1 1 >>= fun x12 =>
              utf_Count x1.S >>= fun x13 =>
              built_cut x1.S (wr (x11 - (if x13 < (if 0 > x12.N then 0 else x12.N) then x13 else (if 0 > x12.N then 0 else x12.N)))) >>= fun x14 =>
              cutL x1.S x14 (x1.S.length : Int) >>= fun x15 =>
              some (.inl x15)
            else
              if (p0 == [100, 101, 102, 97, 117, 108, 116]) then
                if (x1.S == []) then
                  idx p1 1 >>= fun x16 =>
                  some (.inl x16.S)
                else
                  some (.inl x1.S)
              else
                if (p0 == [99, 97, 116]) then
                  idx p1 1 >>= fun x17 =>
                  built_long_built_text_1 (wr ((x1.S.length : Int) + (x17.S.length : Int))) x1.S p1 >>= fun x18 =>
                  some (.inr (x18.2, x18.1.K, x18.1.S, x18.1.N, x18.1.B, x18.1.L))
                else
                  if (p0 == [114, 101, 112, 108, 97, 99, 101]) then
                    ( idx p1 1 >>= fun x20 =>
                      idx p1 2 >>= fun x21 =>
                      some (x20.S, x21.S) : Option (((List UInt8) × (List UInt8)))) >>= fun o19 =>
                    if (o19.1 == []) then
                      some (.inl x1.S)
                    else
                      strings_Count x1.S o19.1 >>= fun x22 =>
                      built_long_built_text_2 (wr ((x1.S.length : Int) + (wr (x22 * (wr ((o19.2.length : Int) - (o19.1.length : Int))))))) x1.S o19.1 o19.2 >>= fun x23 =>
                      some (.inr (x23.2, x23.1.K, x23.1.S, x23.1.N, x23.1.B, x23.1.L))
                  else
                    if (p0 == [103, 101, 116]) then
                      idx p1 0 >>= fun x24 =>
                      idx p1 1 >>= fun x25 =>
                      schema_Find x24 x25.S >>= fun x26 =>
                      some (.inl x26.1)
                    else
                      some (.inl x1.S) : Option ((List UInt8) ⊕ (Int × Int × (List UInt8) × Int × Bool × (List api_Val)))) >>= fun o2 =>
  match o2 with
  | .inl y3 =>
    built_long_built_text_3 (y3.length : Int) y3 >>= fun x27 =>
    some (x27.1, x27.2)
  | .inr y4 =>
    some ((api_Val.mk y4.2.1 y4.2.2.1 y4.2.2.2.1 y4.2.2.2.2.1 y4.2.2.2.2.2), y4.1)
set_option maxRecDepth 100000 in
set_option maxHeartbeats 4000000 in
theorem built_text_ok : ∀ (p0 : (List UInt8)) (p1 : (List api_Val)) (o : api_Val × Int), built_text p0 p1 = some o → PCall Tryd.prog 60 [sV p0, .sl false (p1.map c_api_Val)] (t_built_text o) := by
  intro p0 p1 o h
  unfold built_text at h
  refine PCall.ofB mixed tbOk built_text_lv Tryd.func60 rfl (by kernel_rfl) (Nat.le_of_ble_eq_true rfl) ?_
  refine st_idx (l := p1) (c := c_api_Val) (c' := l_api_Val) h c_api_Val_eq (fun _ => rfl) (by decide) (fun x1 hi h => ?_)
  refine st_bind h (fun o2 ho hk => ?_)
  refine Exists.intro (JP2 _ _ o2 .normal (built_text_J0_0 p1 x1) .ret (built_text_J0_1 p1 x1)) (And.intro ?_ (join2 (fun y3 hy => ?_) (fun y4 hy => ?_)))
  · have h := ho
    refine st_test h (fun hb h => ?_) (fun hb h => ?_)
    · refine st_call [sV x1.S, nV .u8 97, nV .u8 122] t_built_turned h (fun x5 hy => (built_turned_ok x1.S 97 122 x5 hy)) (fun x5 hy h => ?_)
      refine JP2.a h ?_
      exact Le.tow 3 0 rfl (.cons rfl (.refl _) (.cons rfl (.refl _) (.nil))) (.refl _) rfl
    · refine st_test h (fun hb h => ?_) (fun hb h => ?_)
      · refine st_call [sV x1.S, nV .u8 65, nV .u8 90] t_built_turned h (fun x6 hy => (built_turned_ok x1.S 65 90 x6 hy)) (fun x6 hy h => ?_)
        refine JP2.a h ?_
        exact Le.tow 3 0 rfl (.cons rfl (.refl _) (.cons rfl (.refl _) (.nil))) (.refl _) rfl
      · refine st_test h (fun hb h => ?_) (fun hb h => ?_)
        · refine st_call [sV x1.S, sV [32, 9, 10, 13]] t_strings_Trim h (fun x7 hy => (strings_Trim_ok x1.S [32, 9, 10, 13] x7 hy)) (fun x7 hy h => ?_)
          refine JP2.a h ?_
          exact Le.tow 3 0 rfl (.cons rfl (.refl _) (.cons rfl (.refl _) (.nil))) (.refl _) rfl
        · refine st_test h (fun hb h => ?_) (fun hb h => ?_)
          · refine And.intro (by decide +kernel) (And.intro rfl ?_)
            refine st_idx (l := p1) (c := c_api_Val) (c' := l_api_Val) h c_api_Val_eq (fun _ => rfl) (by decide) (fun x8 hi h => ?_)
            refine st_calld [sV x1.S, iV (if 0 > x8.N then 0 else x8.N)] t_built_cut h (fun x9 hy => (built_cut_ok x1.S (if 0 > x8.N then 0 else x8.N) x9 hy)) (fun x9 hy h => ?_)
            refine st_cuts none (some x9) h (fun x10 hi h => ?_)
            refine JP2.a h ?_
            exact Le.tow 3 0 rfl (.cons rfl (.refl _) (.cons rfl (.refl _) (.nil))) (.refl _) rfl
          · refine st_test h (fun hb h => ?_) (fun hb h => ?_)
            · refine And.intro (by decide +kernel) (And.intro rfl ?_)
              refine st_calld [sV x1.S] t_utf_Count h (fun x11 hy => (utf_Count_ok x1.S x11 hy)) (fun x11 hy h => ?_)
              refine st_idx (l := p1) (c := c_api_Val) (c' := l_api_Val) h c_api_Val_eq (fun _ => rfl) (by decide) (fun x12 hi h => ?_)
              refine st_calld [sV x1.S] t_utf_Count h (fun x13 hy => (utf_Count_ok x1.S x13 hy)) (fun x13 hy h => ?_)
              refine st_calld [sV x1.S, iV (wr (x11 - (if x13 < (if 0 > x12.N then 0 else x12.N) then x13 else (if 0 > x12.N then 0 else x12.N))))] t_built_cut h (fun x14 hy => (built_cut_ok x1.S (wr (x11 - (if x13 < (if 0 > x12.N then 0 else x12.N) then x13 else (if 0 > x12.N then 0 else x12.N)))) x14 hy)) (fun x14 hy h => ?_)
              refine st_cuts (some x14) none h (fun x15 hi h => ?_)
              refine JP2.a h ?_
              exact Le.tow 3 0 rfl (.cons rfl (.refl _) (.cons rfl (.refl _) (.nil))) (.refl _) rfl
            · refine st_test h (fun hb h => ?_) (fun hb h => ?_)
              · refine st_test h (fun hb h => ?_) (fun hb h => ?_)
                · refine st_idx (l := p1) (c := c_api_Val) (c' := l_api_Val) h c_api_Val_eq (fun _ => rfl) (by decide) (fun x16 hi h => ?_)
                  refine JP2.a h ?_
                  exact Le.tow 3 0 rfl (.cons rfl (.refl _) (.cons rfl (.refl _) (.nil))) (.refl _) rfl
                · refine JP2.a h ?_
                  exact Le.tow 3 0 rfl (.cons rfl (.refl _) (.cons rfl (.refl _) (.nil))) (.refl _) rfl
              · refine st_test h (fun hb h => ?_) (fun hb h => ?_)
                · refine And.intro (by decide +kernel) (And.intro rfl ?_)
                  refine vrfl ?_
                  refine st_idx (l := p1) (c := c_api_Val) (c' := l_api_Val) h c_api_Val_eq (fun _ => rfl) (by decide) (fun x17 hi h => ?_)
                  refine vrfl ?_
                  refine st_callq (fun x18 => (t_built_long_built_text_1 x18).ren [2, 0] []) h (fun x18 hy => (built_long_built_text_1_ok (wr ((x1.S.length : Int) + (x17.S.length : Int))) x1.S p1 x18 hy).fd rfl rfl [2, 0] rfl rfl) (fun x18 hy h => ?_)
                  refine JP2.b h ?_
                  exact Le.tow 3 0 rfl (.cons rfl (.refl _) (.cons rfl (.refl _) (.nil))) (.refl _) rfl
                · refine st_test h (fun hb h => ?_) (fun hb h => ?_)
                  · refine st_bind h (fun o19 ho hk => ?_)
                    refine Exists.intro (JP1 _ _ o19 .normal (built_text_J1_0 p1 x1)) (And.intro ?_ (join1 ?_))
                    · have h := ho
                      refine And.intro (by decide +kernel) (And.intro (by decide +kernel) (And.intro (by decide +kernel) (And.intro rfl ?_)))
                      refine st_idx (l := p1) (c := c_api_Val) (c' := l_api_Val) h c_api_Val_eq (fun _ => rfl) (by decide) (fun x20 hi h => ?_)
                      refine st_idx (l := p1) (c := c_api_Val) (c' := l_api_Val) h c_api_Val_eq (fun _ => rfl) (by decide) (fun x21 hi h => ?_)
                      refine And.intro (Nat.le_of_ble_eq_true rfl) (And.intro ?_ ?_)
                      · refine JP1.a h ?_
                        exact Le.tow 5 0 rfl (.cons rfl (.refl _) (.cons rfl (.refl _) (.cons rfl (.refl _) (.cons rfl (.refl _) (.nil))))) (.refl _) rfl
                      · refine JP1.a h ?_
                        exact Le.trans (τ := ⟨[(4, .ptr 1 0), (6, .ptr 2 0), (7, .ptr 3 0), (8, .ptr 4 0)], ⟨[[.p (.sl false (p1.map c_api_Val))], [.p (iV 0), .p (sV []), .p (iV 0), .p (bV false), .p (.sl true [])], [.p (sV x1.S)], [.p (sV x20.S)], [.p (sV x21.S)]], []⟩⟩) (Le.perm [0, 1, 2, 4, 3] rfl rfl rfl) (Le.tow 5 0 rfl (.cons rfl (.refl _) (.cons rfl (.refl _) (.cons rfl (.refl _) (.cons rfl (.refl _) (.nil))))) (.refl _) rfl)
                    · have h := hk
                      refine st_test h (fun hb h => ?_) (fun hb h => ?_)
                      · refine JP2.a h ?_
                        exact Le.trans (τ := ⟨[(4, .ptr 1 0), (6, .ptr 2 0)], ⟨[[.p (.sl false (p1.map c_api_Val))], [.p (iV 0), .p (sV []), .p (iV 0), .p (bV false), .p (.sl true [])], [.p (sV x1.S)], [.p (sV o19.1)], [.p (sV o19.2)]], []⟩⟩) (Le.weak (.cons rfl (.refl _) (.cons rfl (.refl _) (.nil))) (.refl _) rfl) (Le.tow 3 0 rfl (.cons rfl (.refl _) (.cons rfl (.refl _) (.nil))) (.refl _) rfl)
                      · refine st_call [sV x1.S, sV o19.1] t_strings_Count h (fun x22 hy => (strings_Count_ok x1.S o19.1 x22 hy)) (fun x22 hy h => ?_)
                        refine vrfl ?_
                        refine vrfl ?_
                        refine vrfl ?_
                        refine st_callc _ _ h (fun x23 hy => ((built_long_built_text_2_ok (wr ((x1.S.length : Int) + (wr (x22 * (wr ((o19.2.length : Int) - (o19.1.length : Int))))))) x1.S o19.1 o19.2 x23 hy).fr [2, 3, 4] [] rfl rfl rfl)) (fun x23 hy h => ?_)
                        refine JP2.b h ?_
                        exact Le.tow 3 0 rfl (.cons rfl (.refl _) (.cons rfl (.refl _) (.nil))) (.refl _) rfl
                  · refine st_test h (fun hb h => ?_) (fun hb h => ?_)
                    · refine And.intro (by decide +kernel) (And.intro rfl ?_)
                      refine st_idx (l := p1) (c := c_api_Val) (c' := l_api_Val) h c_api_Val_eq (fun _ => rfl) (by decide) (fun x24 hi h => ?_)
                      refine st_idx (l := p1) (c := c_api_Val) (c' := l_api_Val) h c_api_Val_eq (fun _ => rfl) (by decide) (fun x25 hi h => ?_)
                      refine st_calld [.agg [iV x24.K, sV x24.S, iV x24.N, bV x24.B, .sl false (x24.L.map c_api_Val)], sV x25.S] t_schema_Find h (fun x26 hy => (schema_Find_ok x24 x25.S x26 hy)) (fun x26 hy h => ?_)
                      refine JP2.a h ?_
                      exact Le.tow 3 0 rfl (.cons rfl (.refl _) (.cons rfl (.refl _) (.nil))) (.refl _) rfl
                    · refine JP2.a h ?_
                      exact Le.tow 3 0 rfl (.cons rfl (.refl _) (.cons rfl (.refl _) (.nil))) (.refl _) rfl
  · have h := (by rw [hy] at hk; exact hk)
    refine vrfl ?_
    refine st_callc _ _ h (fun x27 hy => ((built_long_built_text_3_ok (y3.length : Int) y3 x27 hy).fr [2] [] rfl rfl rfl)) (fun x27 hy h => ?_)
    refine st_ret (t := t_built_text) h ?_
    exact .refl _
  · have h := (by rw [hy] at hk; exact hk)
    refine st_ret (t := t_built_text) h ?_
    exact .refl _
noncomputable def octet_Text (p0 : Int) : Option ((List UInt8)) :=
  need (-9223372036854775808 ≤ p0) >>= fun _ =>
  need (p0 ≤ 9223372036854775807) >>= fun _ =>
  some (textL p0)
set_option maxRecDepth 100000 in
set_option maxHeartbeats 4000000 in
theorem octet_Text_ok : ∀ (p0 : Int) (o : (List UInt8)), octet_Text p0 = some o → PCall Tryd.prog 21 [iV p0] (t_octet_Text o) := by
  intro p0 o h
  unfold octet_Text at h
  obtain ⟨h1, h⟩ := need_some h
  obtain ⟨h2, h⟩ := need_some h
  cases h
  exact text_ok _ h1 h2
noncomputable def schema_Number (p0 : Int) : Option (api_Val) :=
  some (api_Val.mk 2 [] p0 false [])
set_option maxRecDepth 100000 in
set_option maxHeartbeats 4000000 in
theorem schema_Number_ok : ∀ (p0 : Int) (o : api_Val), schema_Number p0 = some o → PCall Tryd.prog 51 [iV p0] (t_schema_Number o) := by
  intro p0 o h
  unfold schema_Number at h
  refine PCall.ofB mixed tbOk schema_Number_lv Tryd.func51 rfl (by kernel_rfl) (Nat.le_of_ble_eq_true rfl) ?_
  refine st_ret (t := t_schema_Number) h ?_
  exact .p (.agg' (.cons (.refl _) (.cons (.refl _) (.cons (.refl _) (.cons (.refl _) (.cons (.not) (.nil)))))))
mutual
noncomputable def schema_Same (p0 : api_Val) (p1 : api_Val) : Option (Bool) :=
  ( if (p0.K == p1.K) then
      if (p0.S == p1.S) then
        if (p0.N == p1.N) then
          if (p0.B == p1.B) then
            slices_EqualFunc_api_Val_api_Val_api_Val_api_Val_schema_Same p0.L p1.L >>= fun x2 =>
            some x2
          else
            some false
        else
          some false
      else
        some false
    else
      some false : Option (Bool)) >>= fun o1 =>
  some o1
  partial_fixpoint
noncomputable def slices_EqualFunc_api_Val_api_Val_api_Val_api_Val_schema_Same (p0 : (List api_Val)) (p1 : (List api_Val)) : Option (Bool) :=
  if ((p0.length : Int) != (p1.length : Int)) then
    some false
  else
    (slices_EqualFunc_api_Val_api_Val_api_Val_api_Val_schema_Same_L1 p0 p1 0) >>= fun o1 =>
    match o1 with
    | .inl y2 =>
      some true
    | .inr y3 =>
      some false
  partial_fixpoint
noncomputable def slices_EqualFunc_api_Val_api_Val_api_Val_api_Val_schema_Same_L1 (p0 : (List api_Val)) (p1 : (List api_Val)) (v17 : Int) : Option (Unit ⊕ Unit) :=
  if (decide (v17 < (p0.length : Int))) then
    idx p0 v17 >>= fun x4 =>
    idx p1 v17 >>= fun x5 =>
    schema_Same x4 x5 >>= fun x6 =>
    if (!x6) then
      some (.inr ())
    else
      slices_EqualFunc_api_Val_api_Val_api_Val_api_Val_schema_Same_L1 p0 p1 (wr (v17 + 1))
  else
    some (.inl ())
  partial_fixpoint
end
set_option maxRecDepth 100000 in
set_option maxHeartbeats 4000000 in
theorem schema_Same_grp : (∀ (p0 : api_Val) (p1 : api_Val) (o : Bool), schema_Same p0 p1 = some o → PCall Tryd.prog 59 [.agg [iV p0.K, sV p0.S, iV p0.N, bV p0.B, .sl false (p0.L.map c_api_Val)], .agg [iV p1.K, sV p1.S, iV p1.N, bV p1.B, .sl false (p1.L.map c_api_Val)]] (t_schema_Same o)) ∧ (∀ (p0 : (List api_Val)) (p1 : (List api_Val)) (o : Bool), slices_EqualFunc_api_Val_api_Val_api_Val_api_Val_schema_Same p0 p1 = some o → CallOK Tryd.prog 74 [.p (.sl false (p0.map c_api_Val)), .p (.sl false (p1.map c_api_Val)), .fn (.func 59) [] []] ⟨[], []⟩ (t_slices_EqualFunc_api_Val_api_Val_api_Val_api_Val_schema_Same o) ⟨[], []⟩) ∧ (∀ (p0 : (List api_Val)) (p1 : (List api_Val)) (v17 : Int) (o1 : Unit ⊕ Unit), slices_EqualFunc_api_Val_api_Val_api_Val_api_Val_schema_Same_L1 p0 p1 v17 = some o1 → TL (0, 0) Tryd.prog 32 slices_EqualFunc_api_Val_api_Val_api_Val_api_Val_schema_Same_L1_c (JP2 (0, 0) 32 o1 (.exit 0) (slices_EqualFunc_api_Val_api_Val_api_Val_api_Val_schema_Same_L1_x0 p0 p1) .ret (slices_EqualFunc_api_Val_api_Val_api_Val_api_Val_schema_Same_L1_x1 p0 p1)) (slices_EqualFunc_api_Val_api_Val_api_Val_api_Val_schema_Same_L1_st p0 p1 v17)) := by
  refine schema_Same.mutual_partial_correctness _ _ _ ?_ ?_ ?_
  · intro slices_EqualFunc_api_Val_api_Val_api_Val_api_Val_schema_Same' ih_slices_EqualFunc_api_Val_api_Val_api_Val_api_Val_schema_Same p0 p1 o h
    refine PCall.ofB mixed tbOk schema_Same_lv Tryd.func59 rfl (by kernel_rfl) (Nat.le_of_ble_eq_true rfl) ?_
    refine st_bind h (fun o1 ho hk => ?_)
    refine Exists.intro (JP1 _ _ o1 .normal (schema_Same_J0_0 p0 p1)) (And.intro ?_ (join1 ?_))
    · have h := ho
      refine st_test h (fun hb h => ?_) (fun hb h => ?_)
      · refine st_test h (fun hb h => ?_) (fun hb h => ?_)
        · refine st_test h (fun hb h => ?_) (fun hb h => ?_)
          · refine st_test h (fun hb h => ?_) (fun hb h => ?_)
            · refine st_callc _ _ h (fun x2 hy => ((ih_slices_EqualFunc_api_Val_api_Val_api_Val_api_Val_schema_Same p0.L p1.L x2 hy).fr [] [] rfl rfl rfl)) (fun x2 hy h => ?_)
              refine JP1.a h ?_
              exact Le.tow 2 0 rfl (.cons rfl (.refl _) (.nil)) (.refl _) rfl
            · refine JP1.a h ?_
              exact Le.tow 2 0 rfl (.cons rfl (.refl _) (.nil)) (.refl _) rfl
          · refine bF ?_
            refine JP1.a h ?_
            exact Le.tow 2 0 rfl (.cons rfl (.refl _) (.nil)) (.refl _) rfl
        · refine bF ?_
          refine bF ?_
          refine JP1.a h ?_
          exact Le.tow 2 0 rfl (.cons rfl (.refl _) (.nil)) (.refl _) rfl
      · refine bF ?_
        refine bF ?_
        refine bF ?_
        refine JP1.a h ?_
        exact Le.tow 2 0 rfl (.cons rfl (.refl _) (.nil)) (.refl _) rfl
    · have h := hk
      refine st_ret (t := t_schema_Same) h ?_
      exact .refl _
  · intro slices_EqualFunc_api_Val_api_Val_api_Val_api_Val_schema_Same_L1' ih_slices_EqualFunc_api_Val_api_Val_api_Val_api_Val_schema_Same_L1 p0 p1 o h
    refine CallOK.ofB mixed tbOk slices_EqualFunc_api_Val_api_Val_api_Val_api_Val_schema_Same_lv Tryd.func74 rfl (by kernel_rfl) (Nat.le_of_ble_eq_true rfl) rfl rfl rfl ?_
    refine view (lenMap _ _) rfl ?_
    refine view (lenMap _ _) rfl ?_
    refine st_test h (fun hb h => ?_) (fun hb h => ?_)
    · refine Exists.intro _ (And.intro (Le.refl _ _ _) ?_)
      exact st_retc (t := t_slices_EqualFunc_api_Val_api_Val_api_Val_api_Val_schema_Same) (ss := fun o => ⟨[], []⟩) h ⟨[], rfl, .refl _, .refl _, rfl⟩
    · refine view (lenMap _ _) rfl ?_
      refine st_bind h (fun o1 ho hk => ?_)
      refine Exists.intro (JP2 _ _ o1 (.exit 0) (slices_EqualFunc_api_Val_api_Val_api_Val_api_Val_schema_Same_L1_x0 p0 p1) .ret (slices_EqualFunc_api_Val_api_Val_api_Val_api_Val_schema_Same_L1_x1 p0 p1)) (And.intro (T_le (τ := slices_EqualFunc_api_Val_api_Val_api_Val_api_Val_schema_Same_L1_st p0 p1 0) ?_ (TL.loop (ih_slices_EqualFunc_api_Val_api_Val_api_Val_api_Val_schema_Same_L1 p0 p1 0 o1 ho))) (join2 (fun y2 hy => ?_) (fun y3 hy => ?_)))
      · exact Le.tow 0 0 rfl (.cons rfl (.refl _) (.cons rfl (.refl _) (.cons rfl (.refl _) (.cons rfl (.refl _) (.cons rfl (.refl _) (.nil)))))) (.refl _) rfl
      · have h := (by rw [hy] at hk; exact hk)
        refine Exists.intro _ (And.intro (Le.refl _ _ _) ?_)
        exact st_retc (t := t_slices_EqualFunc_api_Val_api_Val_api_Val_api_Val_schema_Same) (ss := fun o => ⟨[], []⟩) h ⟨[], rfl, .refl _, .refl _, rfl⟩
      · have h := (by rw [hy] at hk; exact hk)
        refine Exists.intro _ (And.intro (Le.refl _ _ _) ?_)
        exact st_retc (t := t_slices_EqualFunc_api_Val_api_Val_api_Val_api_Val_schema_Same) (ss := fun o => ⟨[], []⟩) h ⟨[], rfl, .refl _, .refl _, rfl⟩
  · intro schema_Same' slices_EqualFunc_api_Val_api_Val_api_Val_api_Val_schema_Same_L1' ih_schema_Same ih_slices_EqualFunc_api_Val_api_Val_api_Val_api_Val_schema_Same_L1 p0 p1 v17 o1 h
    refine TL.round (bwp_sound mixed tbOk (lv := slices_EqualFunc_api_Val_api_Val_api_Val_api_Val_schema_Same_lv) _ _ _ ?_)
    refine st_test h (fun hb h => ?_) (fun hb h => ?_)
    · refine st_idx (l := p0) (c := c_api_Val) (c' := l_api_Val) h c_api_Val_eq (fun _ => rfl) (by decide) (fun x4 hi h => ?_)
      refine st_idx (l := p1) (c := c_api_Val) (c' := l_api_Val) h c_api_Val_eq (fun _ => rfl) (by decide) (fun x5 hi h => ?_)
      refine st_call [.agg [iV x4.K, sV x4.S, iV x4.N, bV x4.B, .sl false (x4.L.map c_api_Val)], .agg [iV x5.K, sV x5.S, iV x5.N, bV x5.B, .sl false (x5.L.map c_api_Val)]] t_schema_Same h (fun x6 hy => (ih_schema_Same x4 x5 x6 hy)) (fun x6 hy h => ?_)
      refine st_test h (fun hb h => ?_) (fun hb h => ?_)
      · exact JP2.b h (Le.tow 0 0 rfl (.cons rfl (.refl _) (.nil)) (.refl _) rfl)
      · refine TL.le (τ := slices_EqualFunc_api_Val_api_Val_api_Val_api_Val_schema_Same_L1_st p0 p1 (wr (v17 + 1))) ?_ ((ih_slices_EqualFunc_api_Val_api_Val_api_Val_api_Val_schema_Same_L1 p0 p1 (wr (v17 + 1)) _ h))
        exact Le.tow 0 0 rfl (.cons rfl (.refl _) (.cons rfl (.refl _) (.cons rfl (.refl _) (.cons rfl (.refl _) (.cons rfl (.refl _) (.nil)))))) (.refl _) rfl
    · exact JP2.a h (Le.tow 0 0 rfl (.nil) (.refl _) rfl)
theorem schema_Same_ok : ∀ (p0 : api_Val) (p1 : api_Val) (o : Bool), schema_Same p0 p1 = some o → PCall Tryd.prog 59 [.agg [iV p0.K, sV p0.S, iV p0.N, bV p0.B, .sl false (p0.L.map c_api_Val)], .agg [iV p1.K, sV p1.S, iV p1.N, bV p1.B, .sl false (p1.L.map c_api_Val)]] (t_schema_Same o) := fun p0 p1 o h => schema_Same_grp.1 p0 p1 o h
noncomputable def schema_Truth (p0 : Bool) : Option (api_Val) :=
  some (api_Val.mk 3 [] 0 p0 [])
set_option maxRecDepth 100000 in
set_option maxHeartbeats 4000000 in
theorem schema_Truth_ok : ∀ (p0 : Bool) (o : api_Val), schema_Truth p0 = some o → PCall Tryd.prog 56 [bV p0] (t_schema_Truth o) := by
  intro p0 o h
  unfold schema_Truth at h
  refine PCall.ofB mixed tbOk schema_Truth_lv Tryd.func56 rfl (by kernel_rfl) (Nat.le_of_ble_eq_true rfl) ?_
  refine st_ret (t := t_schema_Truth) h ?_
  exact .p (.agg' (.cons (.refl _) (.cons (.refl _) (.cons (.refl _) (.cons (.refl _) (.cons (.not) (.nil)))))))
noncomputable def built_do (p0 : (List UInt8)) (p1 : (List api_Val)) : Option (api_Val × Int) :=
  if (p0 == [115, 105, 122, 101]) then
    idx p1 0 >>= fun x1 =>
    utf_Count x1.S >>= fun x2 =>
    schema_Number x2 >>= fun x3 =>
    some (x3, 0)
  else
    if (p0 == [106, 111, 105, 110]) then
      idx p1 0 >>= fun x4 =>
      idx p1 1 >>= fun x5 =>
      built_join x4.L x5.S >>= fun x6 =>
      some (x6.1, x6.2)
    else
      if (p0 == [107, 101, 121, 115]) then
        idx p1 0 >>= fun x7 =>
        (built_do_L1 x7 0 []) >>= fun o8 =>
        some ((api_Val.mk 7 [] 0 false o8), 0)
      else
        if (p0 == [104, 97, 115]) then
          idx p1 0 >>= fun x13 =>
          idx p1 1 >>= fun x14 =>
          schema_Find x13 x14.S >>= fun x15 =>
          schema_Truth x15.2 >>= fun x16 =>
          some (x16, 0)
        else
          if (p0 == [99, 111, 117, 110, 116]) then
            idx p1 0 >>= fun x17 =>
            schema_Number (x17.L.length : Int) >>= fun x18 =>
            some (x18, 0)
          else
            if (p0 == [119, 114, 105, 116, 101]) then
              idx p1 0 >>= fun x19 =>
              if (x19.K == 2) then
                idx p1 0 >>= fun x20 =>
                octet_Text x20.N >>= fun x21 =>
                schema_Text x21 >>= fun x22 =>
                some (x22, 0)
              else
                idx p1 0 >>= fun x23 =>
                if x23.B then
                  schema_Text [116, 114, 117, 101] >>= fun x24 =>
                  some (x24, 0)
                else
                  schema_Text [102, 97, 108, 115, 101] >>= fun x25 =>
                  some (x25, 0)
            else
              if (p0 == [97, 100, 100]) then
                idx p1 0 >>= fun x26 =>
                idx p1 1 >>= fun x27 =>
                built_add x26.N x27.N >>= fun x28 =>
                schema_Number x28 >>= fun x29 =>
                some (x29, 0)
              else
                if (p0 == [115, 117, 98]) then
                  idx p1 0 >>= fun x30 =>
                  idx p1 1 >>= fun x31 =>
                  built_sub x30.N x31.N >>= fun x32 =>
                  schema_Number x32 >>= fun x33 =>
                  some (x33, 0)
                else
                  if (p0 == [108, 101, 115, 115]) then
                    idx p1 0 >>= fun x34 =>
                    idx p1 1 >>= fun x35 =>
                    schema_Truth (decide (x34.N < x35.N)) >>= fun x36 =>
                    some (x36, 0)
                  else
                    if (p0 == [115, 97, 109, 101]) then
                      idx p1 0 >>= fun x37 =>
                      idx p1 1 >>= fun x38 =>
                      schema_Same x37 x38 >>= fun x39 =>
                      schema_Truth x39 >>= fun x40 =>
                      some (x40, 0)
                    else
                      if (p0 == [98, 111, 116, 104]) then
                        ( idx p1 0 >>= fun x42 =>
                          if x42.B then
                            idx p1 1 >>= fun x43 =>
                            schema_Truth x43.B >>= fun x44 =>
                            some (x44.K, x44.S, x44.N, x44.B, x44.L)
                          else
                            schema_Truth false >>= fun x45 =>
                            some (x45.K, x45.S, x45.N, x45.B, x45.L) : Option ((Int × (List UInt8) × Int × Bool × (List api_Val)))) >>= fun o41 =>
                        some ((api_Val.mk o41.1 o41.2.1 o41.2.2.1 o41.2.2.2.1 o41.2.2.2.2), 0)
                      else
                        if (p0 == [101, 105, 116, 104, 101, 114]) then
                          ( idx p1 0 >>= fun x47 =>
                            if x47.B then
                              schema_Truth true >>= fun x48 =>
                              some (x48.K, x48.S, x48.N, x48.B, x48.L)
                            else
                              idx p1 1 >>= fun x49 =>
                              schema_Truth x49.B >>= fun x50 =>
                              some (x50.K, x50.S, x50.N, x50.B, x50.L) : Option ((Int × (List UInt8) × Int × Bool × (List api_Val)))) >>= fun o46 =>
                          some ((api_Val.mk o46.1 o46.2.1 o46.2.2.1 o46.2.2.2.1 o46.2.2.2.2), 0)
                        else
                          if (p0 == [110, 111, 116]) then
                            idx p1 0 >>= fun x51 =>
                            schema_Truth (!x51.B) >>= fun x52 =>
                            some (x52, 0)
                          else
                            built_text p0 p1 >>= fun x53 =>
                            some (x53.1, x53.2)
set_option maxRecDepth 100000 in
set_option maxHeartbeats 4000000 in
theorem built_do_ok : ∀ (p0 : (List UInt8)) (p1 : (List api_Val)) (o : api_Val × Int), built_do p0 p1 = some o → PCall Tryd.prog 29 [sV p0, .sl false (p1.map c_api_Val)] (t_built_do o) := by
  intro p0 p1 o h
  unfold built_do at h
  refine PCall.ofB mixed tbOk built_do_lv Tryd.func29 rfl (by kernel_rfl) (Nat.le_of_ble_eq_true rfl) ?_
  refine st_test h (fun hb h => ?_) (fun hb h => ?_)
  · refine st_idx (l := p1) (c := c_api_Val) (c' := l_api_Val) h c_api_Val_eq (fun _ => rfl) (by decide) (fun x1 hi h => ?_)
    refine st_call [sV x1.S] t_utf_Count h (fun x2 hy => (utf_Count_ok x1.S x2 hy)) (fun x2 hy h => ?_)
    refine st_call [iV x2] t_schema_Number h (fun x3 hy => (schema_Number_ok x2 x3 hy)) (fun x3 hy h => ?_)
    refine st_ret (t := t_built_do) h ?_
    exact .refl _
  · refine st_test h (fun hb h => ?_) (fun hb h => ?_)
    · refine And.intro (by decide +kernel) (And.intro rfl ?_)
      refine st_idx (l := p1) (c := c_api_Val) (c' := l_api_Val) h c_api_Val_eq (fun _ => rfl) (by decide) (fun x4 hi h => ?_)
      refine st_idx (l := p1) (c := c_api_Val) (c' := l_api_Val) h c_api_Val_eq (fun _ => rfl) (by decide) (fun x5 hi h => ?_)
      refine st_calld [.sl false (x4.L.map c_api_Val), sV x5.S] t_built_join h (fun x6 hy => (built_join_ok x4.L x5.S x6 hy)) (fun x6 hy h => ?_)
      refine st_ret (t := t_built_do) h ?_
      exact .refl _
    · refine st_test h (fun hb h => ?_) (fun hb h => ?_)
      · refine st_idx (l := p1) (c := c_api_Val) (c' := l_api_Val) h c_api_Val_eq (fun _ => rfl) (by decide) (fun x7 hi h => ?_)
        refine view (lenMap _ _) rfl ?_
        refine st_bind h (fun o8 ho hk => ?_)
        refine Exists.intro (JP1 _ _ o8 (.exit 1) (built_do_L1_x0 x7)) (And.intro (T_le (τ := built_do_L1_st x7 0 []) ?_ (TL.loop (built_do_L1_ok x7 0 [] o8 ho))) (join1 ?_))
        · exact (Le.ownH 1 4 32 5 rfl rfl sizeNil).trans (Le.tow 2 1 rfl (.cons rfl (.refl _) (.cons rfl (.refl _) (.cons rfl (.refl _) (.cons rfl (.refl _) (.cons rfl (.refl _) (.nil)))))) (.refl _) rfl)
        have h := hk
        refine st_ret (t := t_built_do) h ?_
        exact .refl _
      · refine st_test h (fun hb h => ?_) (fun hb h => ?_)
        · refine And.intro (by decide +kernel) (And.intro rfl ?_)
          refine st_idx (l := p1) (c := c_api_Val) (c' := l_api_Val) h c_api_Val_eq (fun _ => rfl) (by decide) (fun x13 hi h => ?_)
          refine st_idx (l := p1) (c := c_api_Val) (c' := l_api_Val) h c_api_Val_eq (fun _ => rfl) (by decide) (fun x14 hi h => ?_)
          refine st_calld [.agg [iV x13.K, sV x13.S, iV x13.N, bV x13.B, .sl false (x13.L.map c_api_Val)], sV x14.S] t_schema_Find h (fun x15 hy => (schema_Find_ok x13 x14.S x15 hy)) (fun x15 hy h => ?_)
          refine st_call [bV x15.2] t_schema_Truth h (fun x16 hy => (schema_Truth_ok x15.2 x16 hy)) (fun x16 hy h => ?_)
          refine st_ret (t := t_built_do) h ?_
          exact .refl _
        · refine st_test h (fun hb h => ?_) (fun hb h => ?_)
          · refine st_idx (l := p1) (c := c_api_Val) (c' := l_api_Val) h c_api_Val_eq (fun _ => rfl) (by decide) (fun x17 hi h => ?_)
            refine view (lenMap _ _) rfl ?_
            refine st_call [iV (x17.L.length : Int)] t_schema_Number h (fun x18 hy => (schema_Number_ok (x17.L.length : Int) x18 hy)) (fun x18 hy h => ?_)
            refine st_ret (t := t_built_do) h ?_
            exact .refl _
          · refine st_test h (fun hb h => ?_) (fun hb h => ?_)
            · refine st_idx (l := p1) (c := c_api_Val) (c' := l_api_Val) h c_api_Val_eq (fun _ => rfl) (by decide) (fun x19 hi h => ?_)
              refine st_test h (fun hb h => ?_) (fun hb h => ?_)
              · refine st_idx (l := p1) (c := c_api_Val) (c' := l_api_Val) h c_api_Val_eq (fun _ => rfl) (by decide) (fun x20 hi h => ?_)
                refine st_call [iV x20.N] t_octet_Text h (fun x21 hy => (octet_Text_ok x20.N x21 hy)) (fun x21 hy h => ?_)
                refine st_call [sV x21] t_schema_Text h (fun x22 hy => (schema_Text_ok x21 x22 hy)) (fun x22 hy h => ?_)
                refine st_ret (t := t_built_do) h ?_
                exact .refl _
              · refine st_idx (l := p1) (c := c_api_Val) (c' := l_api_Val) h c_api_Val_eq (fun _ => rfl) (by decide) (fun x23 hi h => ?_)
                refine st_test h (fun hb h => ?_) (fun hb h => ?_)
                · refine st_call [sV [116, 114, 117, 101]] t_schema_Text h (fun x24 hy => (schema_Text_ok [116, 114, 117, 101] x24 hy)) (fun x24 hy h => ?_)
                  refine st_ret (t := t_built_do) h ?_
                  exact .refl _
                · refine st_call [sV [102, 97, 108, 115, 101]] t_schema_Text h (fun x25 hy => (schema_Text_ok [102, 97, 108, 115, 101] x25 hy)) (fun x25 hy h => ?_)
                  refine st_ret (t := t_built_do) h ?_
                  exact .refl _
            · refine st_test h (fun hb h => ?_) (fun hb h => ?_)
              · refine And.intro (by decide +kernel) (And.intro rfl ?_)
                refine st_idx (l := p1) (c := c_api_Val) (c' := l_api_Val) h c_api_Val_eq (fun _ => rfl) (by decide) (fun x26 hi h => ?_)
                refine st_idx (l := p1) (c := c_api_Val) (c' := l_api_Val) h c_api_Val_eq (fun _ => rfl) (by decide) (fun x27 hi h => ?_)
                refine st_calld [iV x26.N, iV x27.N] t_built_add h (fun x28 hy => (built_add_ok x26.N x27.N x28 hy)) (fun x28 hy h => ?_)
                refine st_calld [iV x28] t_schema_Number h (fun x29 hy => (schema_Number_ok x28 x29 hy)) (fun x29 hy h => ?_)
                refine st_ret (t := t_built_do) h ?_
                exact .refl _
              · refine st_test h (fun hb h => ?_) (fun hb h => ?_)
                · refine And.intro (by decide +kernel) (And.intro rfl ?_)
                  refine st_idx (l := p1) (c := c_api_Val) (c' := l_api_Val) h c_api_Val_eq (fun _ => rfl) (by decide) (fun x30 hi h => ?_)
                  refine st_idx (l := p1) (c := c_api_Val) (c' := l_api_Val) h c_api_Val_eq (fun _ => rfl) (by decide) (fun x31 hi h => ?_)
                  refine st_calld [iV x30.N, iV x31.N] t_built_sub h (fun x32 hy => (built_sub_ok x30.N x31.N x32 hy)) (fun x32 hy h => ?_)
                  refine st_calld [iV x32] t_schema_Number h (fun x33 hy => (schema_Number_ok x32 x33 hy)) (fun x33 hy h => ?_)
                  refine st_ret (t := t_built_do) h ?_
                  exact .refl _
                · refine st_test h (fun hb h => ?_) (fun hb h => ?_)
                  · refine And.intro (by decide +kernel) (And.intro rfl ?_)
                    refine st_idx (l := p1) (c := c_api_Val) (c' := l_api_Val) h c_api_Val_eq (fun _ => rfl) (by decide) (fun x34 hi h => ?_)
                    refine st_idx (l := p1) (c := c_api_Val) (c' := l_api_Val) h c_api_Val_eq (fun _ => rfl) (by decide) (fun x35 hi h => ?_)
                    refine st_calld [bV (decide (x34.N < x35.N))] t_schema_Truth h (fun x36 hy => (schema_Truth_ok (decide (x34.N < x35.N)) x36 hy)) (fun x36 hy h => ?_)
                    refine st_ret (t := t_built_do) h ?_
                    exact .refl _
                  · refine st_test h (fun hb h => ?_) (fun hb h => ?_)
                    · refine And.intro (by decide +kernel) (And.intro rfl ?_)
                      refine st_idx (l := p1) (c := c_api_Val) (c' := l_api_Val) h c_api_Val_eq (fun _ => rfl) (by decide) (fun x37 hi h => ?_)
                      refine st_idx (l := p1) (c := c_api_Val) (c' := l_api_Val) h c_api_Val_eq (fun _ => rfl) (by decide) (fun x38 hi h => ?_)
                      refine st_calld [.agg [iV x37.K, sV x37.S, iV x37.N, bV x37.B, .sl false (x37.L.map c_api_Val)], .agg [iV x38.K, sV x38.S, iV x38.N, bV x38.B, .sl false (x38.L.map c_api_Val)]] t_schema_Same h (fun x39 hy => (schema_Same_ok x37 x38 x39 hy)) (fun x39 hy h => ?_)
                      refine st_calld [bV x39] t_schema_Truth h (fun x40 hy => (schema_Truth_ok x39 x40 hy)) (fun x40 hy h => ?_)
                      refine st_ret (t := t_built_do) h ?_
                      exact .refl _
                    · refine st_test h (fun hb h => ?_) (fun hb h => ?_)
                      · refine st_bind h (fun o41 ho hk => ?_)
                        refine Exists.intro (JP1 _ _ o41 .normal (built_do_J0_0 )) (And.intro ?_ (join1 ?_))
                        · have h := ho
                          refine st_idx (l := p1) (c := c_api_Val) (c' := l_api_Val) h c_api_Val_eq (fun _ => rfl) (by decide) (fun x42 hi h => ?_)
                          refine st_test h (fun hb h => ?_) (fun hb h => ?_)
                          · refine st_idx (l := p1) (c := c_api_Val) (c' := l_api_Val) h c_api_Val_eq (fun _ => rfl) (by decide) (fun x43 hi h => ?_)
                            refine st_call [bV x43.B] t_schema_Truth h (fun x44 hy => (schema_Truth_ok x43.B x44 hy)) (fun x44 hy h => ?_)
                            refine JP1.a h ?_
                            exact Le.tow 1 0 rfl (.cons rfl (.refl _) (.cons rfl (.refl _) (.nil))) (.refl _) rfl
                          · refine st_call [bV false] t_schema_Truth h (fun x45 hy => (schema_Truth_ok false x45 hy)) (fun x45 hy h => ?_)
                            refine JP1.a h ?_
                            exact Le.tow 1 0 rfl (.cons rfl (.refl _) (.cons rfl (.refl _) (.nil))) (.refl _) rfl
                        · have h := hk
                          refine st_ret (t := t_built_do) h ?_
                          exact .refl _
                      · refine st_test h (fun hb h => ?_) (fun hb h => ?_)
                        · refine st_bind h (fun o46 ho hk => ?_)
                          refine Exists.intro (JP1 _ _ o46 .normal (built_do_J1_0 )) (And.intro ?_ (join1 ?_))
                          · have h := ho
                            refine st_idx (l := p1) (c := c_api_Val) (c' := l_api_Val) h c_api_Val_eq (fun _ => rfl) (by decide) (fun x47 hi h => ?_)
                            refine st_test h (fun hb h => ?_) (fun hb h => ?_)
                            · refine st_call [bV true] t_schema_Truth h (fun x48 hy => (schema_Truth_ok true x48 hy)) (fun x48 hy h => ?_)
                              refine JP1.a h ?_
                              exact Le.tow 1 0 rfl (.cons rfl (.refl _) (.cons rfl (.refl _) (.nil))) (.refl _) rfl
                            · refine st_idx (l := p1) (c := c_api_Val) (c' := l_api_Val) h c_api_Val_eq (fun _ => rfl) (by decide) (fun x49 hi h => ?_)
                              refine st_call [bV x49.B] t_schema_Truth h (fun x50 hy => (schema_Truth_ok x49.B x50 hy)) (fun x50 hy h => ?_)
                              refine JP1.a h ?_
                              exact Le.tow 1 0 rfl (.cons rfl (.refl _) (.cons rfl (.refl _) (.nil))) (.refl _) rfl
                          · have h := hk
                            refine st_ret (t := t_built_do) h ?_
                            exact .refl _
                        · refine st_test h (fun hb h => ?_) (fun hb h => ?_)
                          · refine st_idx (l := p1) (c := c_api_Val) (c' := l_api_Val) h c_api_Val_eq (fun _ => rfl) (by decide) (fun x51 hi h => ?_)
                            refine st_call [bV (!x51.B)] t_schema_Truth h (fun x52 hy => (schema_Truth_ok (!x51.B) x52 hy)) (fun x52 hy h => ?_)
                            refine st_ret (t := t_built_do) h ?_
                            exact .refl _
                          · refine st_call [sV p0, .sl false (p1.map c_api_Val)] t_built_text h (fun x53 hy => (built_text_ok p0 p1 x53 hy)) (fun x53 hy h => ?_)
                            refine st_ret (t := t_built_do) h ?_
                            exact .refl _
noncomputable def kind_Call (p0 : (List UInt8)) (p1 : (List Int)) : Option (Int × Bool) :=
  some (callP p0 p1)
set_option maxRecDepth 100000 in
set_option maxHeartbeats 4000000 in
theorem kind_Call_ok : ∀ (p0 : (List UInt8)) (p1 : (List Int)) (o : Int × Bool), kind_Call p0 p1 = some o → PCall Tryd.prog 25 [sV p0, .sl false (p1.map cInt)] (t_kind_Call o) := by
  intro p0 p1 o h
  unfold kind_Call at h
  cases h
  exact kcall_p _ _ false
noncomputable def built_Call_1 (p0 : api_Val) : Option (Bool) :=
  schema_Is p0 >>= fun x1 =>
  some (!x1)
set_option maxRecDepth 100000 in
set_option maxHeartbeats 4000000 in
theorem built_Call_1_ok : ∀ (p0 : api_Val) (o : Bool), built_Call_1 p0 = some o → PCall Tryd.prog 27 [.agg [iV p0.K, sV p0.S, iV p0.N, bV p0.B, .sl false (p0.L.map c_api_Val)]] (t_built_Call_1 o) := by
  intro p0 o h
  unfold built_Call_1 at h
  refine PCall.ofB mixed tbOk built_Call_1_lv Tryd.func27 rfl (by kernel_rfl) (Nat.le_of_ble_eq_true rfl) ?_
  refine st_call [.agg [iV p0.K, sV p0.S, iV p0.N, bV p0.B, .sl false (p0.L.map c_api_Val)]] t_schema_Is h (fun x1 hy => (schema_Is_ok p0 x1 hy)) (fun x1 hy h => ?_)
  refine st_ret (t := t_built_Call_1) h ?_
  exact .refl _
noncomputable def slices_IndexFunc_api_Val_api_Val_built_Call_1_L1 (p0 : (List api_Val)) (v8 : Int) : Option (Unit ⊕ Int) :=
  if (decide (v8 < (p0.length : Int))) then
    idx p0 v8 >>= fun x4 =>
    built_Call_1 x4 >>= fun x5 =>
    if x5 then
      some (.inr v8)
    else
      slices_IndexFunc_api_Val_api_Val_built_Call_1_L1 p0 (wr (v8 + 1))
  else
    some (.inl ())
  partial_fixpoint
set_option maxRecDepth 100000 in
set_option maxHeartbeats 4000000 in
theorem slices_IndexFunc_api_Val_api_Val_built_Call_1_L1_grp : ∀ (p0 : (List api_Val)), (∀ (v8 : Int) (o1 : Unit ⊕ Int), slices_IndexFunc_api_Val_api_Val_built_Call_1_L1 p0 v8 = some o1 → TL (0, 0) Tryd.prog 19 slices_IndexFunc_api_Val_api_Val_built_Call_1_L1_c (JP2 (0, 0) 19 o1 (.exit 0) (slices_IndexFunc_api_Val_api_Val_built_Call_1_L1_x0 p0) .ret (slices_IndexFunc_api_Val_api_Val_built_Call_1_L1_x1 p0)) (slices_IndexFunc_api_Val_api_Val_built_Call_1_L1_st p0 v8)) := by
  intro p0
  refine slices_IndexFunc_api_Val_api_Val_built_Call_1_L1.partial_correctness p0 _ ?_
  intro slices_IndexFunc_api_Val_api_Val_built_Call_1_L1' ih_slices_IndexFunc_api_Val_api_Val_built_Call_1_L1 v8 o1 h
  refine TL.round (bwp_sound mixed tbOk (lv := slices_IndexFunc_api_Val_api_Val_built_Call_1_lv) _ _ _ ?_)
  refine st_test h (fun hb h => ?_) (fun hb h => ?_)
  · refine st_idx (l := p0) (c := c_api_Val) (c' := l_api_Val) h c_api_Val_eq (fun _ => rfl) (by decide) (fun x4 hi h => ?_)
    refine st_call [.agg [iV x4.K, sV x4.S, iV x4.N, bV x4.B, .sl false (x4.L.map c_api_Val)]] t_built_Call_1 h (fun x5 hy => (built_Call_1_ok x4 x5 hy)) (fun x5 hy h => ?_)
    refine st_test h (fun hb h => ?_) (fun hb h => ?_)
    · exact JP2.b h (Le.tow 0 0 rfl (.cons rfl (.refl _) (.nil)) (.refl _) rfl)
    · refine TL.le (τ := slices_IndexFunc_api_Val_api_Val_built_Call_1_L1_st p0 (wr (v8 + 1))) ?_ ((ih_slices_IndexFunc_api_Val_api_Val_built_Call_1_L1 (wr (v8 + 1)) _ h))
      exact Le.tow 0 0 rfl (.cons rfl (.refl _) (.cons rfl (.refl _) (.cons rfl (.refl _) (.cons rfl (.refl _) (.nil))))) (.refl _) rfl
  · exact JP2.a h (Le.tow 0 0 rfl (.nil) (.refl _) rfl)
theorem slices_IndexFunc_api_Val_api_Val_built_Call_1_L1_ok : ∀ (p0 : (List api_Val)) (v8 : Int) (o1 : Unit ⊕ Int), slices_IndexFunc_api_Val_api_Val_built_Call_1_L1 p0 v8 = some o1 → TL (0, 0) Tryd.prog 19 slices_IndexFunc_api_Val_api_Val_built_Call_1_L1_c (JP2 (0, 0) 19 o1 (.exit 0) (slices_IndexFunc_api_Val_api_Val_built_Call_1_L1_x0 p0) .ret (slices_IndexFunc_api_Val_api_Val_built_Call_1_L1_x1 p0)) (slices_IndexFunc_api_Val_api_Val_built_Call_1_L1_st p0 v8) := fun p0 v8 o1 h => (slices_IndexFunc_api_Val_api_Val_built_Call_1_L1_grp p0) v8 o1 h
noncomputable def slices_IndexFunc_api_Val_api_Val_built_Call_1 (p0 : (List api_Val)) : Option (Int) :=
  (slices_IndexFunc_api_Val_api_Val_built_Call_1_L1 p0 0) >>= fun o1 =>
  match o1 with
  | .inl y2 =>
    some (-1)
  | .inr y3 =>
    some y3
set_option maxRecDepth 100000 in
set_option maxHeartbeats 4000000 in
theorem slices_IndexFunc_api_Val_api_Val_built_Call_1_ok : ∀ (p0 : (List api_Val)) (o : Int), slices_IndexFunc_api_Val_api_Val_built_Call_1 p0 = some o → CallOK Tryd.prog 47 [.p (.sl false (p0.map c_api_Val)), .fn (.func 27) [] []] ⟨[], []⟩ (t_slices_IndexFunc_api_Val_api_Val_built_Call_1 o) ⟨[], []⟩ := by
  intro p0 o h
  unfold slices_IndexFunc_api_Val_api_Val_built_Call_1 at h
  refine CallOK.ofB mixed tbOk slices_IndexFunc_api_Val_api_Val_built_Call_1_lv Tryd.func47 rfl (by kernel_rfl) (Nat.le_of_ble_eq_true rfl) rfl rfl rfl ?_
  refine view (lenMap _ _) rfl ?_
  refine st_bind h (fun o1 ho hk => ?_)
  refine Exists.intro (JP2 _ _ o1 (.exit 0) (slices_IndexFunc_api_Val_api_Val_built_Call_1_L1_x0 p0) .ret (slices_IndexFunc_api_Val_api_Val_built_Call_1_L1_x1 p0)) (And.intro (T_le (τ := slices_IndexFunc_api_Val_api_Val_built_Call_1_L1_st p0 0) ?_ (TL.loop (slices_IndexFunc_api_Val_api_Val_built_Call_1_L1_ok p0 0 o1 ho))) (join2 (fun y2 hy => ?_) (fun y3 hy => ?_)))
  · exact Le.tow 0 0 rfl (.cons rfl (.refl _) (.cons rfl (.refl _) (.cons rfl (.refl _) (.cons rfl (.refl _) (.nil))))) (.refl _) rfl
  · have h := (by rw [hy] at hk; exact hk)
    refine Exists.intro _ (And.intro (Le.refl _ _ _) ?_)
    exact st_retc (t := t_slices_IndexFunc_api_Val_api_Val_built_Call_1) (ss := fun o => ⟨[], []⟩) h ⟨[], rfl, .refl _, .refl _, rfl⟩
  · have h := (by rw [hy] at hk; exact hk)
    refine Exists.intro _ (And.intro (Le.refl _ _ _) ?_)
    exact st_retc (t := t_slices_IndexFunc_api_Val_api_Val_built_Call_1) (ss := fun o => ⟨[], []⟩) h ⟨[], rfl, .refl _, .refl _, rfl⟩
noncomputable def slices_ContainsFunc_api_Val_api_Val_built_Call_1 (p0 : (List api_Val)) : Option (Bool) :=
  slices_IndexFunc_api_Val_api_Val_built_Call_1 p0 >>= fun x1 =>
  some (decide (x1 ≥ 0))
set_option maxRecDepth 100000 in
set_option maxHeartbeats 4000000 in
theorem slices_ContainsFunc_api_Val_api_Val_built_Call_1_ok : ∀ (p0 : (List api_Val)) (o : Bool), slices_ContainsFunc_api_Val_api_Val_built_Call_1 p0 = some o → CallOK Tryd.prog 26 [.p (.sl false (p0.map c_api_Val)), .fn (.func 27) [] []] ⟨[], []⟩ (t_slices_ContainsFunc_api_Val_api_Val_built_Call_1 o) ⟨[], []⟩ := by
  intro p0 o h
  unfold slices_ContainsFunc_api_Val_api_Val_built_Call_1 at h
  refine CallOK.ofB mixed tbOk slices_ContainsFunc_api_Val_api_Val_built_Call_1_lv Tryd.func26 rfl (by kernel_rfl) (Nat.le_of_ble_eq_true rfl) rfl rfl rfl ?_
  refine st_callc _ _ h (fun x1 hy => ((slices_IndexFunc_api_Val_api_Val_built_Call_1_ok p0 x1 hy).fr [] [] rfl rfl rfl)) (fun x1 hy h => ?_)
  refine Exists.intro _ (And.intro (Le.refl _ _ _) ?_)
  exact st_retc (t := t_slices_ContainsFunc_api_Val_api_Val_built_Call_1) (ss := fun o => ⟨[], []⟩) h ⟨[], rfl, .refl _, .refl _, rfl⟩
noncomputable def built_Call (p0 : (List UInt8)) (p1 : (List api_Val)) : Option (api_Val × Int) :=
  (built_Call_L1 p0 p1 [] 0) >>= fun o1 =>
  kind_Call p0 o1 >>= fun x4 =>
  ( if (!x4.2) then
      some true
    else
      slices_ContainsFunc_api_Val_api_Val_built_Call_1 p1 >>= fun x6 =>
      some x6 : Option (Bool)) >>= fun o5 =>
  if o5 then
    some ((api_Val.mk 0 [] 0 false []), 201)
  else
    built_do p0 p1 >>= fun x7 =>
    some (x7.1, x7.2)
set_option maxRecDepth 100000 in
set_option maxHeartbeats 4000000 in
theorem built_Call_ok : ∀ (p0 : (List UInt8)) (p1 : (List api_Val)) (o : api_Val × Int), built_Call p0 p1 = some o → PCall Tryd.prog 13 [sV p0, .sl false (p1.map c_api_Val)] (t_built_Call o) := by
  intro p0 p1 o h
  unfold built_Call at h
  refine PCall.ofB mixed tbOk built_Call_lv Tryd.func13 rfl (by kernel_rfl) (Nat.le_of_ble_eq_true rfl) ?_
  refine view (lenMap _ _) rfl ?_
  refine st_bind h (fun o1 ho hk => ?_)
  refine Exists.intro (JP1 _ _ o1 (.exit 0) (built_Call_L1_x0 p0 p1)) (And.intro (T_le (τ := built_Call_L1_st p0 p1 [] 0) ?_ (TL.loop (built_Call_L1_ok p0 p1 [] 0 o1 ho))) (join1 ?_))
  · exact (Le.own 6 29 1 rfl sizeNil).trans (Le.tow 1 1 rfl (.cons rfl (.refl _) (.cons rfl (.refl _) (.cons rfl (.refl _) (.cons rfl (.refl _) (.cons rfl (.refl _) (.cons rfl (.refl _) (.cons rfl (.refl _) (.nil)))))))) (.refl _) rfl)
  have h := hk
  refine st_call [sV p0, .sl false (o1.map cInt)] t_kind_Call h (fun x4 hy => (kind_Call_ok p0 o1 x4 hy)) (fun x4 hy h => ?_)
  refine st_bind h (fun o5 ho hk => ?_)
  refine Exists.intro (JP1 _ _ o5 .normal (built_Call_J0_0 p0 p1 o1)) (And.intro ?_ (join1 ?_))
  · have h := ho
    refine st_test h (fun hb h => ?_) (fun hb h => ?_)
    · refine JP1.a h ?_
      exact Le.tow 1 1 rfl (.cons rfl (.refl _) (.cons rfl (.refl _) (.cons rfl (.refl _) (.cons rfl (.refl _) (.nil))))) (.refl _) rfl
    · refine st_callc _ _ h (fun x6 hy => ((slices_ContainsFunc_api_Val_api_Val_built_Call_1_ok p1 x6 hy).fr [] [] rfl rfl rfl)) (fun x6 hy h => ?_)
      refine JP1.a h ?_
      exact Le.tow 1 1 rfl (.cons rfl (.refl _) (.cons rfl (.refl _) (.cons rfl (.refl _) (.cons rfl (.refl _) (.nil))))) (.refl _) rfl
  · have h := hk
    refine st_test h (fun hb h => ?_) (fun hb h => ?_)
    · refine st_ret (t := t_built_Call) h ?_
      exact .tup (xs := [.agg [iV 0, sV [], iV 0, bV false, .sl true []], iV 201]) (ys := [.agg [iV 0, sV [], iV 0, bV false, .sl false []], iV 201]) (.cons (.agg' (.cons (.refl _) (.cons (.refl _) (.cons (.refl _) (.cons (.refl _) (.cons (.not) (.nil))))))) (.cons (.refl _) (.nil)))
    · refine st_call [sV p0, .sl false (p1.map c_api_Val)] t_built_do h (fun x7 hy => (built_do_ok p0 p1 x7 hy)) (fun x7 hy h => ?_)
      refine st_ret (t := t_built_Call) h ?_
      exact .refl _
noncomputable def nunciolaw31_number (p0 : Int) : Option (api_Val) :=
  some (api_Val.mk 2 [] p0 false [])
set_option maxRecDepth 100000 in
set_option maxHeartbeats 4000000 in
theorem nunciolaw31_number_ok : ∀ (p0 : Int) (o : api_Val), nunciolaw31_number p0 = some o → PCall Tryd.prog 15 [iV p0] (t_nunciolaw31_number o) := by
  intro p0 o h
  unfold nunciolaw31_number at h
  refine PCall.ofB mixed tbOk nunciolaw31_number_lv Tryd.func15 rfl (by kernel_rfl) (Nat.le_of_ble_eq_true rfl) ?_
  refine st_ret (t := t_nunciolaw31_number) h ?_
  exact .p (.agg' (.cons (.refl _) (.cons (.refl _) (.cons (.refl _) (.cons (.refl _) (.cons (.not) (.nil)))))))
noncomputable def nunciolaw31_awake : Option (Bool) :=
  R16_Text [104, 195, 169, 108, 108, 111] >>= fun x1 =>
  nunciolaw31_number 2 >>= fun x2 =>
  built_Call [102, 105, 114, 115, 116] [x1, x2] >>= fun x3 =>
  R16_Text [97, 97, 97] >>= fun x4 =>
  R16_Text [97, 97] >>= fun x5 =>
  R16_Text [98] >>= fun x6 =>
  built_Call [114, 101, 112, 108, 97, 99, 101] [x4, x5, x6] >>= fun x7 =>
  nunciolaw31_number 9223372036854775807 >>= fun x8 =>
  nunciolaw31_number 1 >>= fun x9 =>
  built_Call [97, 100, 100] [x8, x9] >>= fun x10 =>
  R16_Text [120] >>= fun x11 =>
  built_Call [103, 101, 116] ([(api_Val.mk 8 [] 0 false []), x11]) >>= fun x12 =>
  ( if (x3.2 == 0) then
      if (x3.1.S == [104, 195, 169]) then
        if (x7.2 == 0) then
          if (x7.1.S == [98, 97]) then
            if (x10.2 == 0) then
              if (x10.1.N == 9223372036854775807) then
                if (x12.2 == 0) then
                  if (x12.1.K == 1) then
                    some (x12.1.S == [])
                  else
                    some false
                else
                  some false
              else
                some false
            else
              some false
          else
            some false
        else
          some false
      else
        some false
    else
      some false : Option (Bool)) >>= fun o13 =>
  some o13
set_option maxRecDepth 100000 in
set_option maxHeartbeats 4000000 in
theorem nunciolaw31_awake_ok : ∀ (o : Bool), nunciolaw31_awake  = some o → PCall Tryd.prog 16 [] (t_nunciolaw31_awake o) := by
  intro o h
  unfold nunciolaw31_awake at h
  refine PCall.ofB mixed tbOk nunciolaw31_awake_lv Tryd.func16 rfl (by kernel_rfl) (Nat.le_of_ble_eq_true rfl) ?_
  refine st_call [sV [104, 195, 169, 108, 108, 111]] t_R16_Text h (fun x1 hy => (R16_Text_ok [104, 195, 169, 108, 108, 111] x1 hy)) (fun x1 hy h => ?_)
  refine st_call [iV 2] t_nunciolaw31_number h (fun x2 hy => (nunciolaw31_number_ok 2 x2 hy)) (fun x2 hy h => ?_)
  refine st_call [sV [102, 105, 114, 115, 116], .sl true [[iV x1.K, sV x1.S, iV x1.N, bV x1.B, .sl false (x1.L.map c_api_Val)], [iV x2.K, sV x2.S, iV x2.N, bV x2.B, .sl false (x2.L.map c_api_Val)]]] t_built_Call h (fun x3 hy => (built_Call_ok [102, 105, 114, 115, 116] [x1, x2] x3 hy).weak (.cons (.refl _) (.cons (.no (.cons (.ceq (c_api_Val_eq _) (.refl _)) (.cons (.ceq (c_api_Val_eq _) (.refl _)) (.nil)))) (.nil)))) (fun x3 hy h => ?_)
  refine st_call [sV [97, 97, 97]] t_R16_Text h (fun x4 hy => (R16_Text_ok [97, 97, 97] x4 hy)) (fun x4 hy h => ?_)
  refine st_call [sV [97, 97]] t_R16_Text h (fun x5 hy => (R16_Text_ok [97, 97] x5 hy)) (fun x5 hy h => ?_)
  refine st_call [sV [98]] t_R16_Text h (fun x6 hy => (R16_Text_ok [98] x6 hy)) (fun x6 hy h => ?_)
  refine st_call [sV [114, 101, 112, 108, 97, 99, 101], .sl true [[iV x4.K, sV x4.S, iV x4.N, bV x4.B, .sl false (x4.L.map c_api_Val)], [iV x5.K, sV x5.S, iV x5.N, bV x5.B, .sl false (x5.L.map c_api_Val)], [iV x6.K, sV x6.S, iV x6.N, bV x6.B, .sl false (x6.L.map c_api_Val)]]] t_built_Call h (fun x7 hy => (built_Call_ok [114, 101, 112, 108, 97, 99, 101] [x4, x5, x6] x7 hy).weak (.cons (.refl _) (.cons (.no (.cons (.ceq (c_api_Val_eq _) (.refl _)) (.cons (.ceq (c_api_Val_eq _) (.refl _)) (.cons (.ceq (c_api_Val_eq _) (.refl _)) (.nil))))) (.nil)))) (fun x7 hy h => ?_)
  refine st_call [iV 9223372036854775807] t_nunciolaw31_number h (fun x8 hy => (nunciolaw31_number_ok 9223372036854775807 x8 hy)) (fun x8 hy h => ?_)
  refine st_call [iV 1] t_nunciolaw31_number h (fun x9 hy => (nunciolaw31_number_ok 1 x9 hy)) (fun x9 hy h => ?_)
  refine st_call [sV [97, 100, 100], .sl true [[iV x8.K, sV x8.S, iV x8.N, bV x8.B, .sl false (x8.L.map c_api_Val)], [iV x9.K, sV x9.S, iV x9.N, bV x9.B, .sl false (x9.L.map c_api_Val)]]] t_built_Call h (fun x10 hy => (built_Call_ok [97, 100, 100] [x8, x9] x10 hy).weak (.cons (.refl _) (.cons (.no (.cons (.ceq (c_api_Val_eq _) (.refl _)) (.cons (.ceq (c_api_Val_eq _) (.refl _)) (.nil)))) (.nil)))) (fun x10 hy h => ?_)
  refine st_call [sV [120]] t_R16_Text h (fun x11 hy => (R16_Text_ok [120] x11 hy)) (fun x11 hy h => ?_)
  refine st_call [sV [103, 101, 116], .sl true [[iV 8, sV [], iV 0, bV false, .sl true []], [iV x11.K, sV x11.S, iV x11.N, bV x11.B, .sl false (x11.L.map c_api_Val)]]] t_built_Call h (fun x12 hy => (built_Call_ok [103, 101, 116] ([(api_Val.mk 8 [] 0 false []), x11]) x12 hy).weak (.cons (.refl _) (.cons (.no (.cons (.ceq (c_api_Val_eq _) (.cons (.refl _) (.cons (.refl _) (.cons (.refl _) (.cons (.refl _) (.cons (.not) (.nil))))))) (.cons (.ceq (c_api_Val_eq _) (.refl _)) (.nil)))) (.nil)))) (fun x12 hy h => ?_)
  refine st_bind h (fun o13 ho hk => ?_)
  refine Exists.intro (JP1 _ _ o13 .normal (nunciolaw31_awake_J0_0 x3 x7 x10 x12)) (And.intro ?_ (join1 ?_))
  · have h := ho
    refine st_test h (fun hb h => ?_) (fun hb h => ?_)
    · refine st_test h (fun hb h => ?_) (fun hb h => ?_)
      · refine st_test h (fun hb h => ?_) (fun hb h => ?_)
        · refine st_test h (fun hb h => ?_) (fun hb h => ?_)
          · refine st_test h (fun hb h => ?_) (fun hb h => ?_)
            · refine st_test h (fun hb h => ?_) (fun hb h => ?_)
              · refine st_test h (fun hb h => ?_) (fun hb h => ?_)
                · refine st_test h (fun hb h => ?_) (fun hb h => ?_)
                  · refine JP1.a h ?_
                    exact Le.tow 4 0 rfl (.cons rfl (.refl _) (.nil)) (.refl _) rfl
                  · refine JP1.a h ?_
                    exact Le.tow 4 0 rfl (.cons rfl (.refl _) (.nil)) (.refl _) rfl
                · refine bF ?_
                  refine JP1.a h ?_
                  exact Le.tow 4 0 rfl (.cons rfl (.refl _) (.nil)) (.refl _) rfl
              · refine bF ?_
                refine bF ?_
                refine JP1.a h ?_
                exact Le.tow 4 0 rfl (.cons rfl (.refl _) (.nil)) (.refl _) rfl
            · refine bF ?_
              refine bF ?_
              refine bF ?_
              refine JP1.a h ?_
              exact Le.tow 4 0 rfl (.cons rfl (.refl _) (.nil)) (.refl _) rfl
          · refine bF ?_
            refine bF ?_
            refine bF ?_
            refine bF ?_
            refine JP1.a h ?_
            exact Le.tow 4 0 rfl (.cons rfl (.refl _) (.nil)) (.refl _) rfl
        · refine bF ?_
          refine bF ?_
          refine bF ?_
          refine bF ?_
          refine bF ?_
          refine JP1.a h ?_
          exact Le.tow 4 0 rfl (.cons rfl (.refl _) (.nil)) (.refl _) rfl
      · refine bF ?_
        refine bF ?_
        refine bF ?_
        refine bF ?_
        refine bF ?_
        refine bF ?_
        refine JP1.a h ?_
        exact Le.tow 4 0 rfl (.cons rfl (.refl _) (.nil)) (.refl _) rfl
    · refine bF ?_
      refine bF ?_
      refine bF ?_
      refine bF ?_
      refine bF ?_
      refine bF ?_
      refine bF ?_
      refine JP1.a h ?_
      exact Le.tow 4 0 rfl (.cons rfl (.refl _) (.nil)) (.refl _) rfl
  · have h := hk
    refine st_ret (t := t_nunciolaw31_awake) h ?_
    exact .refl _
noncomputable def nunciolaw31_BuiltCuts (p0 : (List UInt8)) (p1 : Int) : Option (Bool) :=
  cutL p0 0 (if 200 < (p0.length : Int) then 200 else (p0.length : Int)) >>= fun x1 =>
  R16_Text x1 >>= fun x2 =>
  built_Call [115, 105, 122, 101] [x2] >>= fun x3 =>
  ( if (x3.2 != 0) then
      some true
    else
      some (decide (x3.1.N < 0)) : Option (Bool)) >>= fun o4 =>
  if o4 then
    some false
  else
    need ((wr (x3.1.N + 1)) ≠ 0) >>= fun _ =>
    R16_Text x1 >>= fun x5 =>
    nunciolaw31_number ((wr p1).tmod (wr (x3.1.N + 1))) >>= fun x6 =>
    built_Call [102, 105, 114, 115, 116] [x5, x6] >>= fun x7 =>
    R16_Text x1 >>= fun x8 =>
    nunciolaw31_number (wr (x3.1.N - ((wr p1).tmod (wr (x3.1.N + 1))))) >>= fun x9 =>
    built_Call [108, 97, 115, 116] [x8, x9] >>= fun x10 =>
    built_Call [99, 97, 116] [x7.1, x10.1] >>= fun x11 =>
    ( if (x7.2 == 0) then
        if (x10.2 == 0) then
          if (x11.2 == 0) then
            if (x11.1.S == x1) then
              nunciolaw31_awake >>= fun x13 =>
              some x13
            else
              some false
          else
            some false
        else
          some false
      else
        some false : Option (Bool)) >>= fun o12 =>
    some o12
set_option maxRecDepth 100000 in
set_option maxHeartbeats 4000000 in
theorem nunciolaw31_BuiltCuts_ok : ∀ (p0 : (List UInt8)) (p1 : Int) (o : Bool), nunciolaw31_BuiltCuts p0 p1 = some o → PCall Tryd.prog 4 [sV p0, nV .u16 p1] (t_nunciolaw31_BuiltCuts o) := by
  intro p0 p1 o h
  unfold nunciolaw31_BuiltCuts at h
  refine PCall.ofB mixed tbOk nunciolaw31_BuiltCuts_lv Tryd.func4 rfl (by kernel_rfl) (Nat.le_of_ble_eq_true rfl) ?_
  refine vrfl ?_
  refine st_cuts none (some (if 200 < (p0.length : Int) then 200 else (p0.length : Int))) h (fun x1 hi h => ?_)
  refine st_call [sV x1] t_R16_Text h (fun x2 hy => (R16_Text_ok x1 x2 hy)) (fun x2 hy h => ?_)
  refine st_call [sV [115, 105, 122, 101], .sl true [[iV x2.K, sV x2.S, iV x2.N, bV x2.B, .sl false (x2.L.map c_api_Val)]]] t_built_Call h (fun x3 hy => (built_Call_ok [115, 105, 122, 101] [x2] x3 hy).weak (.cons (.refl _) (.cons (.no (.cons (.ceq (c_api_Val_eq _) (.refl _)) (.nil))) (.nil)))) (fun x3 hy h => ?_)
  refine st_bind h (fun o4 ho hk => ?_)
  refine Exists.intro (JP1 _ _ o4 .normal (nunciolaw31_BuiltCuts_J0_0 p1 x1 x3)) (And.intro ?_ (join1 ?_))
  · have h := ho
    refine st_test h (fun hb h => ?_) (fun hb h => ?_)
    · refine JP1.a h ?_
      exact Le.tow 1 0 rfl (.cons rfl (.refl _) (.cons rfl (.refl _) (.cons rfl (.refl _) (.cons rfl (.refl _) (.nil))))) (.refl _) rfl
    · refine JP1.a h ?_
      exact Le.tow 1 0 rfl (.cons rfl (.refl _) (.cons rfl (.refl _) (.cons rfl (.refl _) (.cons rfl (.refl _) (.nil))))) (.refl _) rfl
  · have h := hk
    refine st_test h (fun hb h => ?_) (fun hb h => ?_)
    · refine st_ret (t := t_nunciolaw31_BuiltCuts) h ?_
      exact .refl _
    · refine vrfl ?_
      refine st_need h (fun h => ?_)
      refine st_call [sV x1] t_R16_Text h (fun x5 hy => (R16_Text_ok x1 x5 hy)) (fun x5 hy h => ?_)
      refine st_call [iV ((wr p1).tmod (wr (x3.1.N + 1)))] t_nunciolaw31_number h (fun x6 hy => (nunciolaw31_number_ok ((wr p1).tmod (wr (x3.1.N + 1))) x6 hy)) (fun x6 hy h => ?_)
      refine st_call [sV [102, 105, 114, 115, 116], .sl true [[iV x5.K, sV x5.S, iV x5.N, bV x5.B, .sl false (x5.L.map c_api_Val)], [iV x6.K, sV x6.S, iV x6.N, bV x6.B, .sl false (x6.L.map c_api_Val)]]] t_built_Call h (fun x7 hy => (built_Call_ok [102, 105, 114, 115, 116] [x5, x6] x7 hy).weak (.cons (.refl _) (.cons (.no (.cons (.ceq (c_api_Val_eq _) (.refl _)) (.cons (.ceq (c_api_Val_eq _) (.refl _)) (.nil)))) (.nil)))) (fun x7 hy h => ?_)
      refine And.intro (by decide +kernel) (And.intro rfl ?_)
      refine st_calld [sV x1] t_R16_Text h (fun x8 hy => (R16_Text_ok x1 x8 hy)) (fun x8 hy h => ?_)
      refine st_calld [iV (wr (x3.1.N - ((wr p1).tmod (wr (x3.1.N + 1)))))] t_nunciolaw31_number h (fun x9 hy => (nunciolaw31_number_ok (wr (x3.1.N - ((wr p1).tmod (wr (x3.1.N + 1))))) x9 hy)) (fun x9 hy h => ?_)
      refine st_calld [sV [108, 97, 115, 116], .sl true [[iV x8.K, sV x8.S, iV x8.N, bV x8.B, .sl false (x8.L.map c_api_Val)], [iV x9.K, sV x9.S, iV x9.N, bV x9.B, .sl false (x9.L.map c_api_Val)]]] t_built_Call h (fun x10 hy => (built_Call_ok [108, 97, 115, 116] [x8, x9] x10 hy).weak (.cons (.refl _) (.cons (.no (.cons (.ceq (c_api_Val_eq _) (.refl _)) (.cons (.ceq (c_api_Val_eq _) (.refl _)) (.nil)))) (.nil)))) (fun x10 hy h => ?_)
      refine st_call [sV [99, 97, 116], .sl true [[iV x7.1.K, sV x7.1.S, iV x7.1.N, bV x7.1.B, .sl false (x7.1.L.map c_api_Val)], [iV x10.1.K, sV x10.1.S, iV x10.1.N, bV x10.1.B, .sl false (x10.1.L.map c_api_Val)]]] t_built_Call h (fun x11 hy => (built_Call_ok [99, 97, 116] [x7.1, x10.1] x11 hy).weak (.cons (.refl _) (.cons (.no (.cons (.ceq (c_api_Val_eq _) (.refl _)) (.cons (.ceq (c_api_Val_eq _) (.refl _)) (.nil)))) (.nil)))) (fun x11 hy h => ?_)
      refine st_bind h (fun o12 ho hk => ?_)
      refine Exists.intro (JP1 _ _ o12 .normal (nunciolaw31_BuiltCuts_J1_0 x3 x7 x10 x11)) (And.intro ?_ (join1 ?_))
      · have h := ho
        refine st_test h (fun hb h => ?_) (fun hb h => ?_)
        · refine st_test h (fun hb h => ?_) (fun hb h => ?_)
          · refine st_test h (fun hb h => ?_) (fun hb h => ?_)
            · refine st_test h (fun hb h => ?_) (fun hb h => ?_)
              · refine st_call [] t_nunciolaw31_awake h (fun x13 hy => (nunciolaw31_awake_ok x13 hy)) (fun x13 hy h => ?_)
                refine JP1.a h ?_
                exact Le.tow 4 0 rfl (.cons rfl (.refl _) (.nil)) (.refl _) rfl
              · refine JP1.a h ?_
                exact Le.tow 4 0 rfl (.cons rfl (.refl _) (.nil)) (.refl _) rfl
            · refine bF ?_
              refine JP1.a h ?_
              exact Le.tow 4 0 rfl (.cons rfl (.refl _) (.nil)) (.refl _) rfl
          · refine bF ?_
            refine bF ?_
            refine JP1.a h ?_
            exact Le.tow 4 0 rfl (.cons rfl (.refl _) (.nil)) (.refl _) rfl
        · refine bF ?_
          refine bF ?_
          refine bF ?_
          refine JP1.a h ?_
          exact Le.tow 4 0 rfl (.cons rfl (.refl _) (.nil)) (.refl _) rfl
      · have h := hk
        refine st_ret (t := t_nunciolaw31_BuiltCuts) h ?_
        exact .refl _
end Go.Proofs.YteahaflhihioaaaDoor
end

section
namespace Go.Proofs.YteahaflhihioaaaDoor
open Go.RowKit

abbrev mx : Nat := 9223372036854775807
@[simp] theorem idx_nat {α : Type} (l : List α) (i : Nat) : idx l (i : Int) = l[i]? := by
  unfold idx
  rw [if_pos (by omega)]
  rfl
@[simp] theorem idx_0 {α : Type} (l : List α) : idx l 0 = l[0]? := idx_nat l 0
@[simp] theorem idx_1 {α : Type} (l : List α) : idx l 1 = l[1]? := idx_nat l 1
@[simp] theorem bind_some' {α β : Type} (x : α) (f : α → Option β) : (some x >>= f) = f x := rfl
theorem wr_in {n : Int} (h1 : -9223372036854775808 ≤ n) (h2 : n ≤ 9223372036854775807) : wr n = n := w64 h1 h2
theorem wr_succ {i : Nat} (h : i < 9223372036854775807) : wr ((i : Int) + 1) = ((i + 1 : Nat) : Int) := by rw [wr_in (by omega) (by omega)]; rfl
theorem appL_ok {α : Type} {bytes : Nat} {a b : List α} (h : (a.length + b.length) * bytes ≤ 140737488355328) (h2 : a.length + b.length ≤ 9223372036854775807) : appL bytes a b = some (a ++ b) := by
  unfold appL; rw [if_pos ⟨h, h2⟩]
theorem cutL_ok {α : Type} {l : List α} {lo hi : Int} (h1 : 0 ≤ lo) (h2 : lo ≤ hi) (h3 : hi ≤ l.length) : cutL l lo hi = some ((l.take hi.toNat).drop lo.toNat) := by
  unfold cutL; rw [if_pos ⟨h1, h2, h3⟩]
theorem need_ok {p : Prop} [Decidable p] (h : p) : need p = some () := by unfold need; rw [if_pos h]
theorem getE {α : Type} {l : List α} {i : Nat} (h : i < l.length) : l[i]? = some l[i] := List.getElem?_eq_getElem h
theorem ltI (a b : Nat) : decide ((a : Int) < (b : Int)) = decide (a < b) := by
  congr 1; exact propext Int.ofNat_lt
/-- A loop over a list's places: what holds of the tail from i on. -/
theorem upto {α : Type} {l : List α} {φ : Nat → Prop} (h0 : φ l.length) (h : ∀ i, i < l.length → φ (i + 1) → φ i) : ∀ i, i ≤ l.length → φ i := by
  have key : ∀ n i, l.length - i = n → i ≤ l.length → φ i := by
    intro n
    induction n with
    | zero => intro i h1 h2; have : i = l.length := by omega
              subst this; exact h0
    | succ n ih => intro i h1 h2; exact h i (by omega) (ih (i + 1) (by omega) (by omega))
  exact fun i hi => key _ i rfl hi
theorem dropE {α : Type} {l : List α} {i : Nat} (h : i < l.length) : l.drop i = l[i] :: l.drop (i + 1) := List.drop_eq_getElem_cons h
end Go.Proofs.YteahaflhihioaaaDoor
end

section
namespace Go.Proofs.YteahaflhihioaaaDoor
open Go.RowKit

theorem kPlain (k : Int) : kind_Plain k = some (plainB k) := by
  unfold kind_Plain plainB
  by_cases h : k ≥ 1
  · simp [h]
  · simp [h]
theorem kElem (k : Int) : kind_Elem k = some (elemP k) := by
  unfold kind_Elem elemP
  simp only [beq_iff_eq]
  split
  · rfl
  · split
    · rfl
    · split <;> rfl
def ktab : List kind_field := tab.map fun f => ⟨f.1, f.2.1, f.2.2⟩
theorem kTable : kind_table = some ktab := rfl
theorem kFieldL (k : Int) (l : List UInt8) : ∀ (t : List (Int × List UInt8 × Int)), t.length ≤ mx → ∀ i, i ≤ t.length → kind_Field_L1 k l (t.map fun f => ⟨f.1, f.2.1, f.2.2⟩) i = some (if (fieldGo k l (t.drop i)).2 then .inr (fieldGo k l (t.drop i)).1 else .inl ()) := by
  intro t ht
  refine upto ?_ fun i hi ih => ?_
  · rw [kind_Field_L1]
    simp [fieldGo]
  · rw [kind_Field_L1, wr_succ (by simp only [mx] at ht; omega), ih]
    rw [dropE hi]
    by_cases h1 : t[i].1 = k
    · by_cases h2 : t[i].2.1 = l
      · simp [hi, h1, h2, fieldGo]
      · simp [hi, h1, h2, fieldGo]
    · simp [hi, h1, fieldGo]
theorem fieldGo_no (k : Int) (l : List UInt8) : ∀ t, (fieldGo k l t).2 = false → fieldGo k l t = (0, false)
  | [], _ => rfl
  | f :: t, h => by
    unfold fieldGo at h ⊢
    split at h
    · cases h
    · rename_i hn; rw [if_neg hn]; exact fieldGo_no k l t h
theorem kField (k : Int) (l : List UInt8) : kind_Field k l = some (fieldP k l) := by
  have := kFieldL k l tab (by decide) 0 (by omega)
  unfold kind_Field
  rw [kTable]
  simp only [bind_some']
  rw [show (0 : Int) = ((0 : Nat) : Int) from rfl, show ktab = tab.map fun f => (⟨f.1, f.2.1, f.2.2⟩ : kind_field) from rfl, this, List.drop_zero]
  unfold fieldP
  cases h : (fieldGo k l tab).2 with
  | true => simp only [bind_some', if_true]; rw [← h]
  | false => simp only [bind_some', Bool.false_eq_true, if_false]; rw [fieldGo_no k l tab h]; rfl
def fieldsFr (k : Int) (t : List (Int × List UInt8 × Int)) : List (List UInt8) := (t.filter fun f => f.1 = k).map fun f => f.2.1
theorem fieldsFr_cons (k : Int) (f : Int × List UInt8 × Int) (t : List (Int × List UInt8 × Int)) : fieldsFr k (f :: t) = if f.1 = k then f.2.1 :: fieldsFr k t else fieldsFr k t := by
  unfold fieldsFr
  by_cases h : f.1 = k <;> simp [h]
theorem kFieldsL (k : Int) (t : List (Int × List UInt8 × Int)) (ht : t.length ≤ 1000) : ∀ i, i ≤ t.length → ∀ o : List (List UInt8), o.length + (t.length - i) ≤ 1000 → kind_Fields_L1 k (t.map fun f => ⟨f.1, f.2.1, f.2.2⟩) o i = some (o ++ fieldsFr k (t.drop i)) := by
  refine upto ?_ fun i hi ih => ?_
  · intro o ho
    rw [kind_Fields_L1]
    simp [fieldsFr]
  · intro o ho
    rw [kind_Fields_L1, wr_succ (by omega), dropE hi, fieldsFr_cons]
    simp only [List.length_map, ltI, hi, decide_true, if_true, idx_nat, List.getElem?_map, getE hi, Option.map_some, bind_some']
    by_cases h1 : t[i].1 = k
    · rw [if_pos (by simpa using h1), if_pos h1, appL_ok (by simp; omega) (by simp; omega), bind_some', ih _ (by simp; omega)]
      simp
    · rw [if_neg (by simpa using h1), if_neg h1, ih _ (by omega)]
theorem kFields (k : Int) : kind_Fields k = some (fieldsL k) := by
  have := kFieldsL k tab (by decide) 0 (by omega) [] (by decide)
  unfold kind_Fields
  rw [kTable]
  simp only [bind_some']
  rw [show (0 : Int) = ((0 : Nat) : Int) from rfl, show ktab = tab.map fun f => (⟨f.1, f.2.1, f.2.2⟩ : kind_field) from rfl, this]
  rfl
def kindsL (k : Int) : List Int := (tab.filter fun f => f.1 = k).map fun f => f.2.2
theorem fields_none (k : Int) (h4 : k ≠ 4) (h5 : k ≠ 5) (h6 : k ≠ 6) : fieldsL k = [] ∧ kindsL k = [] := by
  have : tab.filter (fun f => f.1 = k) = [] := by
    rw [List.filter_eq_nil_iff]
    intro f hf
    have : ∀ f ∈ tab, f.1 = 4 ∨ f.1 = 5 ∨ f.1 = 6 := by decide
    have := this f hf
    simp; omega
  simp [fieldsL, kindsL, this]
end Go.Proofs.YteahaflhihioaaaDoor
end
