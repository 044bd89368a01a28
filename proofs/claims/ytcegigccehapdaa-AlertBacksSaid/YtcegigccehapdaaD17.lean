/- Plain functions, and that the program computes them (printed by a program of my own). -/
import Derived.Test.YtcegigccehapdaaDcI
import Derived.Test.YtcegigccehapdaaD16
set_option linter.unusedVariables false
set_option linter.unusedSimpArgs false
namespace Go.Proofs.Ytcegigccehapdaa
open Go.RowKit

structure api_Pair where
  Key : (List UInt8)
  Val : (List UInt8)
noncomputable def c_api_Pair (x : api_Pair) : List V := [sV x.Key, sV x.Val]
structure api_Alert where
  Firing : Bool
  Starts : Int
  Value : Int
  Labels : (List api_Pair)
  Notes : (List api_Pair)
  Link : (List UInt8)
noncomputable def c_api_Alert (x : api_Alert) : List V := [bV x.Firing, iV x.Starts, iV x.Value, .sl false (x.Labels.map c_api_Pair), .sl false (x.Notes.map c_api_Pair), sV x.Link]
structure api_Group where
  Receiver : (List UInt8)
  Firing : Bool
  Common : (List api_Pair)
  Link : (List UInt8)
  Alerts : (List api_Alert)
noncomputable def c_api_Group (x : api_Group) : List V := [sV x.Receiver, bV x.Firing, .sl false (x.Common.map c_api_Pair), sV x.Link, .sl false (x.Alerts.map c_api_Alert)]
noncomputable def t_R17_Back (y : api_Group × Bool) : D := .tup [.p (.agg [sV y.1.Receiver, bV y.1.Firing, .sl false (y.1.Common.map c_api_Pair), sV y.1.Link, .sl false (y.1.Alerts.map c_api_Alert)]), .p (bV y.2)]
noncomputable def R17_Back_lv : List (Nat × List Nat) := [(0, [1, 2]), (1, [1, 2, 14]), (2, [2, 3]), (3, [1, 2, 4]), (4, [1, 2, 4, 5]), (5, [1, 2, 4, 5, 44]), (6, [1, 2, 4, 5]), (7, [1, 2, 4, 5, 6]), (8, [1, 2, 4, 5]), (9, [2, 4, 93]), (10, [2, 3]), (11, [2, 3]), (1000005, [1, 2, 4, 5]), (3000001, [])]
noncomputable def R17_Back_J0_0 (p0 : api_Val) (o1 : Bool) : St := ⟨[(1, .ptr 0 0), (2, .ptr 1 0), (14, .p (bV o1))], ⟨[[.p (iV p0.K), .p (sV p0.S), .p (iV p0.N), .p (bV p0.B), .p (.sl false (p0.L.map c_api_Val))], [.p (sV []), .p (bV false), .p (.sl true []), .p (sV []), .p (.sl true [])]], []⟩⟩
noncomputable def R17_Back_L1_st (p0 : api_Val) (x3 : api_Val) (x4 : api_Val) (x6 : (List api_Pair)) (x7 : api_Val) (v5 : Int) (h2_4 : (List api_Alert)) : St := ⟨[(1, .ptr 0 0), (2, .ptr 1 0), (4, .ptr 2 0), (5, .p (iV v5))], ⟨[[.p (iV p0.K), .p (sV p0.S), .p (iV p0.N), .p (bV p0.B), .p (.sl false (p0.L.map c_api_Val))], [.p (sV []), .p (bV false), .p (.sl true []), .p (sV []), .p (.sl true [])], [.p (sV x3.S), .p (bV x4.B), .p (.sl false (x6.map c_api_Pair)), .p (sV x7.S), .own 0 71 6 (h2_4.map c_api_Alert)]], [(h2_4.map c_api_Alert).length]⟩⟩
noncomputable def R17_Back_L1_x0 (p0 : api_Val) (x3 : api_Val) (x4 : api_Val) (x6 : (List api_Pair)) (x7 : api_Val) (o8 : (List api_Alert)) : St := ⟨[(2, .ptr 1 0), (4, .ptr 2 0)], ⟨[[.p (iV p0.K), .p (sV p0.S), .p (iV p0.N), .p (bV p0.B), .p (.sl false (p0.L.map c_api_Val))], [.p (sV []), .p (bV false), .p (.sl true []), .p (sV []), .p (.sl true [])], [.p (sV x3.S), .p (bV x4.B), .p (.sl false (x6.map c_api_Pair)), .p (sV x7.S), .own 0 71 6 (o8.map c_api_Alert)]], [(o8.map c_api_Alert).length]⟩⟩
noncomputable def R17_Back_L1_c : Code := ((loopsOf (Try.f52.body.getD .skip)).getD 0 .skip)
noncomputable def t_R17_Check (y : Int) : D := .p (iV y)
noncomputable def R17_Check_lv : List (Nat × List Nat) := [(0, [1]), (1, [1, 14]), (2, [2]), (3, [1, 3]), (4, [1, 3, 4]), (5, [1, 3, 4, 20]), (6, [1, 3, 4]), (7, [1, 3, 4, 28]), (8, [2]), (9, [1, 3, 5]), (10, [1, 3, 5, 6]), (11, [1, 3, 5, 6, 38]), (12, [1, 3, 5, 6]), (13, [1, 3, 5, 6]), (14, [3, 5, 7]), (15, [3, 5, 7, 53]), (16, [3, 5, 7]), (17, [3, 5, 7, 8]), (18, [3, 5, 7, 8, 62]), (19, [3, 5, 7, 8]), (20, [3, 5, 7, 8]), (21, [3, 5, 7, 8]), (22, [5, 9]), (23, [5, 9, 10]), (24, [5, 9, 10, 90]), (25, [5, 9, 10]), (26, [5, 9, 10, 99]), (27, [2]), (28, [5, 9, 10]), (29, [2]), (1000005, [1, 3, 4]), (1000011, [1, 3, 5, 6]), (1000015, [3, 5, 7]), (1000018, [3, 5, 7, 8]), (1000024, [5, 9, 10])]
noncomputable def R17_Check_L1_st (p0 : api_Group) (x1 : (List (List api_Pair))) (v4 : Int) : St := ⟨[(1, .ptr 0 0), (3, .p (.sl false (x1.map (cSl c_api_Pair)))), (4, .p (iV v4))], ⟨[[.p (sV p0.Receiver), .p (bV p0.Firing), .p (.sl false (p0.Common.map c_api_Pair)), .p (sV p0.Link), .p (.sl false (p0.Alerts.map c_api_Alert))]], []⟩⟩
noncomputable def R17_Check_L1_x0 (p0 : api_Group) (x1 : (List (List api_Pair))) (y3 : Unit) : St := ⟨[(1, .ptr 0 0), (3, .p (.sl false (x1.map (cSl c_api_Pair))))], ⟨[[.p (sV p0.Receiver), .p (bV p0.Firing), .p (.sl false (p0.Common.map c_api_Pair)), .p (sV p0.Link), .p (.sl false (p0.Alerts.map c_api_Alert))]], []⟩⟩
noncomputable def R17_Check_L1_x1 (p0 : api_Group) (x1 : (List (List api_Pair))) (y4 : Unit) : St := ⟨[(2, .p (iV 5))], ⟨[[.p (sV p0.Receiver), .p (bV p0.Firing), .p (.sl false (p0.Common.map c_api_Pair)), .p (sV p0.Link), .p (.sl false (p0.Alerts.map c_api_Alert))]], []⟩⟩
noncomputable def R17_Check_L1_c : Code := ((loopsOf (Try.f45.body.getD .skip)).getD 0 .skip)
noncomputable def R17_Check_L2_st (p0 : api_Group) (x1 : (List (List api_Pair))) (v5 : (List (List UInt8))) (v6 : Int) : St := ⟨[(1, .ptr 0 0), (3, .p (.sl false (x1.map (cSl c_api_Pair)))), (5, .own 0 9 1 (v5.map cStr)), (6, .p (iV v6))], ⟨[[.p (sV p0.Receiver), .p (bV p0.Firing), .p (.sl false (p0.Common.map c_api_Pair)), .p (sV p0.Link), .p (.sl false (p0.Alerts.map c_api_Alert))]], [(v5.map cStr).length]⟩⟩
noncomputable def R17_Check_L2_x0 (p0 : api_Group) (x1 : (List (List api_Pair))) (o6 : (List (List UInt8))) : St := ⟨[(3, .p (.sl false (x1.map (cSl c_api_Pair)))), (5, .own 0 9 1 (o6.map cStr))], ⟨[[.p (sV p0.Receiver), .p (bV p0.Firing), .p (.sl false (p0.Common.map c_api_Pair)), .p (sV p0.Link), .p (.sl false (p0.Alerts.map c_api_Alert))]], [(o6.map cStr).length]⟩⟩
noncomputable def R17_Check_L2_c : Code := ((loopsOf (Try.f45.body.getD .skip)).getD 1 .skip)
noncomputable def R17_Check_L4_st (p0 : api_Group) (x1 : (List (List api_Pair))) (v7 : Int) (v5_ : (List (List UInt8))) (v8 : Int) : St := ⟨[(3, .p (.sl false (x1.map (cSl c_api_Pair)))), (5, .own 0 9 1 (v5_.map cStr)), (7, .p (iV v7)), (8, .p (iV v8))], ⟨[[.p (sV p0.Receiver), .p (bV p0.Firing), .p (.sl false (p0.Common.map c_api_Pair)), .p (sV p0.Link), .p (.sl false (p0.Alerts.map c_api_Alert))]], [(v5_.map cStr).length]⟩⟩
noncomputable def R17_Check_L4_x0 (p0 : api_Group) (x1 : (List (List api_Pair))) (v7 : Int) (o10 : (List (List UInt8))) : St := ⟨[(3, .p (.sl false (x1.map (cSl c_api_Pair)))), (5, .own 0 9 1 (o10.map cStr)), (7, .p (iV v7))], ⟨[[.p (sV p0.Receiver), .p (bV p0.Firing), .p (.sl false (p0.Common.map c_api_Pair)), .p (sV p0.Link), .p (.sl false (p0.Alerts.map c_api_Alert))]], [(o10.map cStr).length]⟩⟩
noncomputable def R17_Check_L4_c : Code := ((loopsOf (Try.f45.body.getD .skip)).getD 3 .skip)
noncomputable def R17_Check_L3_st (p0 : api_Group) (x1 : (List (List api_Pair))) (v5 : (List (List UInt8))) (v7 : Int) : St := ⟨[(3, .p (.sl false (x1.map (cSl c_api_Pair)))), (5, .own 0 9 1 (v5.map cStr)), (7, .p (iV v7))], ⟨[[.p (sV p0.Receiver), .p (bV p0.Firing), .p (.sl false (p0.Common.map c_api_Pair)), .p (sV p0.Link), .p (.sl false (p0.Alerts.map c_api_Alert))]], [(v5.map cStr).length]⟩⟩
noncomputable def R17_Check_L3_x0 (p0 : api_Group) (x1 : (List (List api_Pair))) (o9 : (List (List UInt8))) : St := ⟨[(5, .own 0 9 1 (o9.map cStr))], ⟨[[.p (sV p0.Receiver), .p (bV p0.Firing), .p (.sl false (p0.Common.map c_api_Pair)), .p (sV p0.Link), .p (.sl false (p0.Alerts.map c_api_Alert))]], [(o9.map cStr).length]⟩⟩
noncomputable def R17_Check_L3_c : Code := ((loopsOf (Try.f45.body.getD .skip)).getD 2 .skip)
noncomputable def R17_Check_L5_st (p0 : api_Group) (o9 : (List (List UInt8))) (v9 : Int) (v10 : Int) : St := ⟨[(5, .own 0 9 1 (o9.map cStr)), (9, .p (iV v9)), (10, .p (iV v10))], ⟨[[.p (sV p0.Receiver), .p (bV p0.Firing), .p (.sl false (p0.Common.map c_api_Pair)), .p (sV p0.Link), .p (.sl false (p0.Alerts.map c_api_Alert))]], [(o9.map cStr).length]⟩⟩
noncomputable def R17_Check_L5_x0 (p0 : api_Group) (o9 : (List (List UInt8))) (y19 : Unit) : St := ⟨[], ⟨[[.p (sV p0.Receiver), .p (bV p0.Firing), .p (.sl false (p0.Common.map c_api_Pair)), .p (sV p0.Link), .p (.sl false (p0.Alerts.map c_api_Alert))]], [(o9.map cStr).length]⟩⟩
noncomputable def R17_Check_L5_x1 (p0 : api_Group) (o9 : (List (List UInt8))) (y20 : Unit) : St := ⟨[(2, .p (iV 6))], ⟨[[.p (sV p0.Receiver), .p (bV p0.Firing), .p (.sl false (p0.Common.map c_api_Pair)), .p (sV p0.Link), .p (.sl false (p0.Alerts.map c_api_Alert))]], [(o9.map cStr).length]⟩⟩
noncomputable def R17_Check_L5_c : Code := ((loopsOf (Try.f45.body.getD .skip)).getD 4 .skip)
noncomputable def t_R17_Same (y : Bool) : D := .p (bV y)
noncomputable def R17_Same_lv : List (Nat × List Nat) := [(0, [2, 3]), (1, [2, 3, 43]), (2, [4]), (3, [2, 3, 5]), (4, [2, 3, 5, 48]), (5, [2, 3, 5]), (6, [2, 3, 5, 6, 7]), (7, [2, 3, 5, 102]), (8, [4]), (9, [4]), (1000004, [2, 3, 5]), (3000001, []), (3000006, []), (3000007, []), (6000006, [10, 11])]
noncomputable def R17_Same_J0_0 (p0 : api_Group) (p1 : api_Group) (o1 : Bool) : St := ⟨[(2, .ptr 0 0), (3, .ptr 1 0), (43, .p (bV o1))], ⟨[[.p (sV p0.Receiver), .p (bV p0.Firing), .p (.sl false (p0.Common.map c_api_Pair)), .p (sV p0.Link), .p (.sl false (p0.Alerts.map c_api_Alert))], [.p (sV p1.Receiver), .p (bV p1.Firing), .p (.sl false (p1.Common.map c_api_Pair)), .p (sV p1.Link), .p (.sl false (p1.Alerts.map c_api_Alert))]], []⟩⟩
noncomputable def R17_Same_J1_0 (p0 : api_Group) (p1 : api_Group) (v5 : Int) (o6 : Bool × Int × Int × (List api_Pair) × (List api_Pair) × (List UInt8) × Bool × Int × Int × (List api_Pair) × (List api_Pair) × (List UInt8)) : St := ⟨[(2, .ptr 0 0), (3, .ptr 1 0), (5, .p (iV v5)), (6, .ptr 2 0), (7, .ptr 3 0)], ⟨[[.p (sV p0.Receiver), .p (bV p0.Firing), .p (.sl false (p0.Common.map c_api_Pair)), .p (sV p0.Link), .p (.sl false (p0.Alerts.map c_api_Alert))], [.p (sV p1.Receiver), .p (bV p1.Firing), .p (.sl false (p1.Common.map c_api_Pair)), .p (sV p1.Link), .p (.sl false (p1.Alerts.map c_api_Alert))], [.p (bV o6.1), .p (iV o6.2.1), .p (iV o6.2.2.1), .p (.sl false (o6.2.2.2.1.map c_api_Pair)), .p (.sl false (o6.2.2.2.2.1.map c_api_Pair)), .p (sV o6.2.2.2.2.2.1)], [.p (bV o6.2.2.2.2.2.2.1), .p (iV o6.2.2.2.2.2.2.2.1), .p (iV o6.2.2.2.2.2.2.2.2.1), .p (.sl false (o6.2.2.2.2.2.2.2.2.2.1.map c_api_Pair)), .p (.sl false (o6.2.2.2.2.2.2.2.2.2.2.1.map c_api_Pair)), .p (sV o6.2.2.2.2.2.2.2.2.2.2.2)]], []⟩⟩
noncomputable def R17_Same_J2_0 (p0 : api_Group) (p1 : api_Group) (v5 : Int) (o6 : Bool × Int × Int × (List api_Pair) × (List api_Pair) × (List UInt8) × Bool × Int × Int × (List api_Pair) × (List api_Pair) × (List UInt8)) (o9 : Bool) : St := ⟨[(2, .ptr 0 0), (3, .ptr 1 0), (5, .p (iV v5)), (102, .p (bV o9))], ⟨[[.p (sV p0.Receiver), .p (bV p0.Firing), .p (.sl false (p0.Common.map c_api_Pair)), .p (sV p0.Link), .p (.sl false (p0.Alerts.map c_api_Alert))], [.p (sV p1.Receiver), .p (bV p1.Firing), .p (.sl false (p1.Common.map c_api_Pair)), .p (sV p1.Link), .p (.sl false (p1.Alerts.map c_api_Alert))], [.p (bV o6.1), .p (iV o6.2.1), .p (iV o6.2.2.1), .p (.sl false (o6.2.2.2.1.map c_api_Pair)), .p (.sl false (o6.2.2.2.2.1.map c_api_Pair)), .p (sV o6.2.2.2.2.2.1)], [.p (bV o6.2.2.2.2.2.2.1), .p (iV o6.2.2.2.2.2.2.2.1), .p (iV o6.2.2.2.2.2.2.2.2.1), .p (.sl false (o6.2.2.2.2.2.2.2.2.2.1.map c_api_Pair)), .p (.sl false (o6.2.2.2.2.2.2.2.2.2.2.1.map c_api_Pair)), .p (sV o6.2.2.2.2.2.2.2.2.2.2.2)]], []⟩⟩
noncomputable def R17_Same_L1_st (p0 : api_Group) (p1 : api_Group) (v5 : Int) : St := ⟨[(2, .ptr 0 0), (3, .ptr 1 0), (5, .p (iV v5))], ⟨[[.p (sV p0.Receiver), .p (bV p0.Firing), .p (.sl false (p0.Common.map c_api_Pair)), .p (sV p0.Link), .p (.sl false (p0.Alerts.map c_api_Alert))], [.p (sV p1.Receiver), .p (bV p1.Firing), .p (.sl false (p1.Common.map c_api_Pair)), .p (sV p1.Link), .p (.sl false (p1.Alerts.map c_api_Alert))]], []⟩⟩
noncomputable def R17_Same_L1_x0 (p0 : api_Group) (p1 : api_Group) (y4 : Unit) : St := ⟨[], ⟨[[.p (sV p0.Receiver), .p (bV p0.Firing), .p (.sl false (p0.Common.map c_api_Pair)), .p (sV p0.Link), .p (.sl false (p0.Alerts.map c_api_Alert))], [.p (sV p1.Receiver), .p (bV p1.Firing), .p (.sl false (p1.Common.map c_api_Pair)), .p (sV p1.Link), .p (.sl false (p1.Alerts.map c_api_Alert))]], []⟩⟩
noncomputable def R17_Same_L1_x1 (p0 : api_Group) (p1 : api_Group) (y5 : Unit) : St := ⟨[(4, .p (bV false))], ⟨[[.p (sV p0.Receiver), .p (bV p0.Firing), .p (.sl false (p0.Common.map c_api_Pair)), .p (sV p0.Link), .p (.sl false (p0.Alerts.map c_api_Alert))], [.p (sV p1.Receiver), .p (bV p1.Firing), .p (.sl false (p1.Common.map c_api_Pair)), .p (sV p1.Link), .p (.sl false (p1.Alerts.map c_api_Alert))]], []⟩⟩
noncomputable def R17_Same_L1_c : Code := ((loopsOf (Try.f51.body.getD .skip)).getD 0 .skip)
noncomputable def t_R17_Val (y : api_Val × Int) : D := .tup [.p (.agg [iV y.1.K, sV y.1.S, iV y.1.N, bV y.1.B, .sl false (y.1.L.map c_api_Val)]), .p (iV y.2)]
noncomputable def R17_Val_lv : List (Nat × List Nat) := [(0, [1, 2]), (1, [1, 2, 4]), (2, [1, 2, 4, 11]), (3, [2, 3]), (4, [1, 2, 5]), (5, [1, 2, 5, 6]), (6, [1, 2, 5, 6, 19]), (7, [1, 2, 5, 6]), (8, [1, 2, 5, 6, 7]), (9, [1, 2, 5, 6]), (10, [2, 3]), (1000006, [1, 2, 5, 6])]
noncomputable def R17_Val_L1_st (p0 : api_Group) (v6 : Int) (h2_4 : (List api_Val)) : St := ⟨[(1, .ptr 0 0), (2, .ptr 1 0), (5, .ptr 2 0), (6, .p (iV v6))], ⟨[[.p (sV p0.Receiver), .p (bV p0.Firing), .p (.sl false (p0.Common.map c_api_Pair)), .p (sV p0.Link), .p (.sl false (p0.Alerts.map c_api_Alert))], [.p (iV 0), .p (sV []), .p (iV 0), .p (bV false), .p (.sl true [])], [.p (iV 9), .p (sV []), .p (iV 0), .p (bV false), .own 0 27 5 (h2_4.map c_api_Val)]], [(h2_4.map c_api_Val).length]⟩⟩
noncomputable def R17_Val_L1_x0 (p0 : api_Group) (o2 : (List api_Val)) : St := ⟨[(1, .ptr 0 0), (2, .ptr 1 0), (5, .ptr 2 0)], ⟨[[.p (sV p0.Receiver), .p (bV p0.Firing), .p (.sl false (p0.Common.map c_api_Pair)), .p (sV p0.Link), .p (.sl false (p0.Alerts.map c_api_Alert))], [.p (iV 0), .p (sV []), .p (iV 0), .p (bV false), .p (.sl true [])], [.p (iV 9), .p (sV []), .p (iV 0), .p (bV false), .own 0 27 5 (o2.map c_api_Val)]], [(o2.map c_api_Val).length]⟩⟩
noncomputable def R17_Val_L1_c : Code := ((loopsOf (Try.f49.body.getD .skip)).getD 0 .skip)
noncomputable def t_R17_lists (y : (List (List api_Pair))) : D := .p (.sl false (y.map (cSl c_api_Pair)))
noncomputable def R17_lists_lv : List (Nat × List Nat) := [(0, [1]), (1, [1, 3]), (2, [1, 3, 4]), (3, [1, 3, 4, 12]), (4, [1, 3, 4]), (5, [1, 3, 4]), (6, [1, 3, 4]), (7, [2]), (1000003, [1, 3, 4])]
noncomputable def R17_lists_L1_st (p0 : api_Group) (v3 : (List (List api_Pair))) (v4 : Int) : St := ⟨[(1, .ptr 0 0), (3, .own 0 66 1 (v3.map (cSl c_api_Pair))), (4, .p (iV v4))], ⟨[[.p (sV p0.Receiver), .p (bV p0.Firing), .p (.sl false (p0.Common.map c_api_Pair)), .p (sV p0.Link), .p (.sl false (p0.Alerts.map c_api_Alert))]], [(v3.map (cSl c_api_Pair)).length]⟩⟩
noncomputable def R17_lists_L1_x0 (p0 : api_Group) (o1 : (List (List api_Pair))) : St := ⟨[(3, .own 0 66 1 (o1.map (cSl c_api_Pair)))], ⟨[[.p (sV p0.Receiver), .p (bV p0.Firing), .p (.sl false (p0.Common.map c_api_Pair)), .p (sV p0.Link), .p (.sl false (p0.Alerts.map c_api_Alert))]], [(o1.map (cSl c_api_Pair)).length]⟩⟩
noncomputable def R17_lists_L1_c : Code := ((loopsOf (Try.f77.body.getD .skip)).getD 0 .skip)
noncomputable def t_R17_number (y : api_Val) : D := .p (.agg [iV y.K, sV y.S, iV y.N, bV y.B, .sl false (y.L.map c_api_Val)])
noncomputable def R17_number_lv : List (Nat × List Nat) := [(0, [0, 2]), (1, [2])]
noncomputable def t_R17_pairs (y : api_Val) : D := .p (.agg [iV y.K, sV y.S, iV y.N, bV y.B, .sl false (y.L.map c_api_Val)])
noncomputable def R17_pairs_lv : List (Nat × List Nat) := [(0, [0, 2]), (1, [0, 2, 3]), (2, [0, 2, 3, 4]), (3, [0, 2, 3, 4, 9]), (4, [0, 2, 3, 4]), (5, [0, 2, 3, 4]), (6, [2]), (1000003, [0, 2, 3, 4])]
noncomputable def R17_pairs_L1_st (p0 : (List api_Pair)) (v4 : Int) (h1_4 : (List api_Val)) : St := ⟨[(0, .p (.sl false (p0.map c_api_Pair))), (2, .ptr 0 0), (3, .ptr 1 0), (4, .p (iV v4))], ⟨[[.p (iV 0), .p (sV []), .p (iV 0), .p (bV false), .p (.sl true [])], [.p (iV 8), .p (sV []), .p (iV 0), .p (bV false), .own 0 27 5 (h1_4.map c_api_Val)]], [(h1_4.map c_api_Val).length]⟩⟩
noncomputable def R17_pairs_L1_x0 (p0 : (List api_Pair)) (o1 : (List api_Val)) : St := ⟨[(2, .ptr 0 0), (3, .ptr 1 0)], ⟨[[.p (iV 0), .p (sV []), .p (iV 0), .p (bV false), .p (.sl true [])], [.p (iV 8), .p (sV []), .p (iV 0), .p (bV false), .own 0 27 5 (o1.map c_api_Val)]], [(o1.map c_api_Val).length]⟩⟩
noncomputable def R17_pairs_L1_c : Code := ((loopsOf (Try.f84.body.getD .skip)).getD 0 .skip)
noncomputable def t_R17_row (y : (List api_Pair)) : D := .p (.sl false (y.map c_api_Pair))
noncomputable def R17_row_lv : List (Nat × List Nat) := [(0, [1]), (1, [1, 3]), (2, [1, 3, 4]), (3, [1, 3, 4, 10]), (4, [1, 3, 4]), (5, [1, 3, 4]), (6, [2]), (1000003, [1, 3, 4])]
noncomputable def R17_row_L1_st (p0 : api_Val) (v3 : (List api_Pair)) (v4 : Int) : St := ⟨[(1, .ptr 0 0), (3, .own 0 73 2 (v3.map c_api_Pair)), (4, .p (iV v4))], ⟨[[.p (iV p0.K), .p (sV p0.S), .p (iV p0.N), .p (bV p0.B), .p (.sl false (p0.L.map c_api_Val))]], [(v3.map c_api_Pair).length]⟩⟩
noncomputable def R17_row_L1_x0 (p0 : api_Val) (o1 : (List api_Pair)) : St := ⟨[(3, .own 0 73 2 (o1.map c_api_Pair))], ⟨[[.p (iV p0.K), .p (sV p0.S), .p (iV p0.N), .p (bV p0.B), .p (.sl false (p0.L.map c_api_Val))]], [(o1.map c_api_Pair).length]⟩⟩
noncomputable def R17_row_L1_c : Code := ((loopsOf (Try.f87.body.getD .skip)).getD 0 .skip)
noncomputable def t_R17_samePairs (y : Bool) : D := .p (bV y)
noncomputable def R17_samePairs_lv : List (Nat × List Nat) := [(0, [0, 1]), (1, [0, 1, 10]), (2, [4]), (3, [0, 1, 5]), (4, [0, 1, 5, 14]), (5, [0, 1, 5]), (6, [0, 1, 5, 40]), (7, [4]), (8, [4]), (1000004, [0, 1, 5]), (3000006, [])]
noncomputable def R17_samePairs_J0_0 (p0 : (List api_Pair)) (p1 : (List api_Pair)) (v5 : Int) (o4 : Bool) : St := ⟨[(0, .p (.sl false (p0.map c_api_Pair))), (1, .p (.sl false (p1.map c_api_Pair))), (5, .p (iV v5)), (40, .p (bV o4))], ⟨[], []⟩⟩
noncomputable def R17_samePairs_L1_st (p0 : (List api_Pair)) (p1 : (List api_Pair)) (v5 : Int) : St := ⟨[(0, .p (.sl false (p0.map c_api_Pair))), (1, .p (.sl false (p1.map c_api_Pair))), (5, .p (iV v5))], ⟨[], []⟩⟩
noncomputable def R17_samePairs_L1_x0 (p0 : (List api_Pair)) (p1 : (List api_Pair)) (y2 : Unit) : St := ⟨[], ⟨[], []⟩⟩
noncomputable def R17_samePairs_L1_x1 (p0 : (List api_Pair)) (p1 : (List api_Pair)) (y3 : Unit) : St := ⟨[(4, .p (bV false))], ⟨[], []⟩⟩
noncomputable def R17_samePairs_L1_c : Code := ((loopsOf (Try.f86.body.getD .skip)).getD 0 .skip)
noncomputable def t_R17_truth (y : api_Val) : D := .p (.agg [iV y.K, sV y.S, iV y.N, bV y.B, .sl false (y.L.map c_api_Val)])
noncomputable def R17_truth_lv : List (Nat × List Nat) := [(0, [0, 2]), (1, [2])]
noncomputable def t_alert_Back (y : api_Group × Bool) : D := .tup [.p (.agg [sV y.1.Receiver, bV y.1.Firing, .sl false (y.1.Common.map c_api_Pair), sV y.1.Link, .sl false (y.1.Alerts.map c_api_Alert)]), .p (bV y.2)]
noncomputable def alert_Back_lv : List (Nat × List Nat) := [(0, [1, 2]), (1, [1, 2, 14]), (2, [2, 3]), (3, [1, 2, 4]), (4, [2, 4, 41, 42, 43]), (5, [2, 4, 41, 42, 43, 44]), (6, [2, 4, 6, 41, 42, 43]), (7, [2, 4, 41, 42, 43]), (8, [2, 4, 41, 42, 43]), (9, [2, 4, 86]), (10, [2, 3]), (11, [2, 3]), (1000005, [2, 4, 41, 42, 43]), (3000001, [])]
noncomputable def alert_Back_J0_0 (p0 : api_Val) (o1 : Bool) : St := ⟨[(1, .ptr 0 0), (2, .ptr 1 0), (14, .p (bV o1))], ⟨[[.p (iV p0.K), .p (sV p0.S), .p (iV p0.N), .p (bV p0.B), .p (.sl false (p0.L.map c_api_Val))], [.p (sV []), .p (bV false), .p (.sl true []), .p (sV []), .p (.sl true [])]], []⟩⟩
noncomputable def alert_Back_L1_st (p0 : api_Val) (x3 : api_Val) (x4 : api_Val) (x6 : (List api_Pair)) (x7 : api_Val) (x8 : api_Val) (v43 : Int) (h2_4 : (List api_Alert)) : St := ⟨[(2, .ptr 1 0), (4, .ptr 2 0), (41, .p (.sl false (x8.L.map c_api_Val))), (42, .p (iV (x8.L.length : Int))), (43, .p (iV v43))], ⟨[[.p (iV p0.K), .p (sV p0.S), .p (iV p0.N), .p (bV p0.B), .p (.sl false (p0.L.map c_api_Val))], [.p (sV []), .p (bV false), .p (.sl true []), .p (sV []), .p (.sl true [])], [.p (sV x3.S), .p (bV x4.B), .p (.sl false (x6.map c_api_Pair)), .p (sV x7.S), .own 0 71 6 (h2_4.map c_api_Alert)]], [(h2_4.map c_api_Alert).length]⟩⟩
noncomputable def alert_Back_L1_x0 (p0 : api_Val) (x3 : api_Val) (x4 : api_Val) (x6 : (List api_Pair)) (x7 : api_Val) (x8 : api_Val) (o9 : (List api_Alert)) : St := ⟨[(2, .ptr 1 0), (4, .ptr 2 0)], ⟨[[.p (iV p0.K), .p (sV p0.S), .p (iV p0.N), .p (bV p0.B), .p (.sl false (p0.L.map c_api_Val))], [.p (sV []), .p (bV false), .p (.sl true []), .p (sV []), .p (.sl true [])], [.p (sV x3.S), .p (bV x4.B), .p (.sl false (x6.map c_api_Pair)), .p (sV x7.S), .own 0 71 6 (o9.map c_api_Alert)]], [(o9.map c_api_Alert).length]⟩⟩
noncomputable def alert_Back_L1_c : Code := ((loopsOf (Try.f50.body.getD .skip)).getD 0 .skip)
noncomputable def t_alert_Check (y : Int) : D := .p (iV y)
noncomputable def alert_Check_lv : List (Nat × List Nat) := [(0, [1, 2, 4]), (1, [1, 2, 4, 13]), (2, [2]), (3, [1, 2, 3, 4]), (4, [2, 3, 4, 15]), (5, [2, 3, 4, 15]), (6, [2, 3, 4, 15]), (7, [2, 3, 4, 15, 22]), (8, [2]), (9, [2]), (4000005, [2, 3, 4, 15]), (3000001, [])]
noncomputable def alert_Check_J0_0 (p0 : api_Group) (o1 : Bool) : St := ⟨[(1, .ptr 0 0), (2, .ptr 1 0), (13, .p (bV o1))], ⟨[[.p (sV p0.Receiver), .p (bV p0.Firing), .p (.sl false (p0.Common.map c_api_Pair)), .p (sV p0.Link), .p (.sl false (p0.Alerts.map c_api_Alert))], [.p (iV 0)]], []⟩⟩
noncomputable def alert_Check_L1_st (p0 : api_Group) (x4 : api_Group) (h2_0 : Int) : St := ⟨[(2, .ptr 1 0), (3, .ptr 2 0), (15, .fn (.func 96) [] [.p (.ep [sV x4.Receiver, bV x4.Firing, .sl false (x4.Common.map c_api_Pair), sV x4.Link, .sl false (x4.Alerts.map c_api_Alert)])])], ⟨[[.p (sV p0.Receiver), .p (bV p0.Firing), .p (.sl false (p0.Common.map c_api_Pair)), .p (sV p0.Link), .p (.sl false (p0.Alerts.map c_api_Alert))], [.p (iV 0)], [.p (iV h2_0)]], []⟩⟩
noncomputable def alert_Check_L1_x0 (p0 : api_Group) (x4 : api_Group) (y10 : Int) : St := ⟨[(2, .ptr 1 0), (3, .ptr 2 0), (15, .fn (.func 96) [] [.p (.ep [sV x4.Receiver, bV x4.Firing, .sl false (x4.Common.map c_api_Pair), sV x4.Link, .sl false (x4.Alerts.map c_api_Alert)])])], ⟨[[.p (sV p0.Receiver), .p (bV p0.Firing), .p (.sl false (p0.Common.map c_api_Pair)), .p (sV p0.Link), .p (.sl false (p0.Alerts.map c_api_Alert))], [.p (iV 0)], [.p (iV y10)]], []⟩⟩
noncomputable def alert_Check_L1_x1 (p0 : api_Group) (x4 : api_Group) (y11 : Int) : St := ⟨[(2, .ptr 1 0)], ⟨[[.p (sV p0.Receiver), .p (bV p0.Firing), .p (.sl false (p0.Common.map c_api_Pair)), .p (sV p0.Link), .p (.sl false (p0.Alerts.map c_api_Alert))], [.p (iV 6)], [.p (iV y11)]], []⟩⟩
noncomputable def alert_Check_L1_c : Code := ((loopsOf (Try.f44.body.getD .skip)).getD 0 .skip)
noncomputable def t_alert_Check_1 (y : Bool) : D := .p (bV y)
noncomputable def alert_Check_1_lv : List (Nat × List Nat) := [(0, [0]), (1, [2])]
noncomputable def t_alert_Same (y : Bool) : D := .p (bV y)
noncomputable def alert_Same_lv : List (Nat × List Nat) := [(0, [2, 3]), (1, [4]), (3000001, [])]
noncomputable def alert_Same_J0_0 (p0 : api_Group) (p1 : api_Group) (o1 : Bool) : St := ⟨[(4, .p (bV o1))], ⟨[[.p (sV p0.Receiver), .p (bV p0.Firing), .p (.sl false (p0.Common.map c_api_Pair)), .p (sV p0.Link), .p (.sl false (p0.Alerts.map c_api_Alert))], [.p (sV p1.Receiver), .p (bV p1.Firing), .p (.sl false (p1.Common.map c_api_Pair)), .p (sV p1.Link), .p (.sl false (p1.Alerts.map c_api_Alert))]], []⟩⟩
noncomputable def t_alert_Same_1 (y : Bool) : D := .p (bV y)
noncomputable def alert_Same_1_lv : List (Nat × List Nat) := [(0, [2, 3]), (1, [4]), (3000001, [])]
noncomputable def alert_Same_1_J0_0 (p0 : api_Alert) (p1 : api_Alert) (o1 : Bool) : St := ⟨[(4, .p (bV o1))], ⟨[[.p (bV p0.Firing), .p (iV p0.Starts), .p (iV p0.Value), .p (.sl false (p0.Labels.map c_api_Pair)), .p (.sl false (p0.Notes.map c_api_Pair)), .p (sV p0.Link)], [.p (bV p1.Firing), .p (iV p1.Starts), .p (iV p1.Value), .p (.sl false (p1.Labels.map c_api_Pair)), .p (.sl false (p1.Notes.map c_api_Pair)), .p (sV p1.Link)]], []⟩⟩
noncomputable def t_alert_Val (y : api_Val × Int) : D := .tup [.p (.agg [iV y.1.K, sV y.1.S, iV y.1.N, bV y.1.B, .sl false (y.1.L.map c_api_Val)]), .p (iV y.2)]
noncomputable def alert_Val_lv : List (Nat × List Nat) := [(0, [1, 2]), (1, [1, 2, 4]), (2, [1, 2, 4, 12]), (3, [2, 3]), (4, [1, 2, 5]), (5, [1, 2, 5, 17, 18, 19]), (6, [1, 2, 5, 17, 18, 19, 20]), (7, [1, 2, 5, 7, 17, 18, 19]), (8, [1, 2, 5, 17, 18, 19]), (9, [1, 2, 5, 17, 18, 19]), (10, [1, 2, 5, 8]), (11, [1, 2, 5, 8]), (12, [1, 2, 5, 8]), (13, [2, 8]), (14, [2, 3]), (1000006, [1, 2, 5, 17, 18, 19]), (5000008, [4, 1004]), (5000011, [7]), (5000013, [5])]
noncomputable def alert_Val_L1_st (p0 : api_Group) (v19 : Int) (h2_4 : (List api_Val)) : St := ⟨[(1, .ptr 0 0), (2, .ptr 1 0), (5, .ptr 2 0), (17, .p (.sl false (p0.Alerts.map c_api_Alert))), (18, .p (iV (p0.Alerts.length : Int))), (19, .p (iV v19))], ⟨[[.p (sV p0.Receiver), .p (bV p0.Firing), .p (.sl false (p0.Common.map c_api_Pair)), .p (sV p0.Link), .p (.sl false (p0.Alerts.map c_api_Alert))], [.p (iV 0), .p (sV []), .p (iV 0), .p (bV false), .p (.sl true [])], [.p (iV 9), .p (sV []), .p (iV 0), .p (bV false), .own 0 27 5 (h2_4.map c_api_Val)]], [(h2_4.map c_api_Val).length]⟩⟩
noncomputable def alert_Val_L1_x0 (p0 : api_Group) (o2 : (List api_Val)) : St := ⟨[(1, .ptr 0 0), (2, .ptr 1 0), (5, .ptr 2 0)], ⟨[[.p (sV p0.Receiver), .p (bV p0.Firing), .p (.sl false (p0.Common.map c_api_Pair)), .p (sV p0.Link), .p (.sl false (p0.Alerts.map c_api_Alert))], [.p (iV 0), .p (sV []), .p (iV 0), .p (bV false), .p (.sl true [])], [.p (iV 9), .p (sV []), .p (iV 0), .p (bV false), .own 0 27 5 (o2.map c_api_Val)]], [(o2.map c_api_Val).length]⟩⟩
noncomputable def alert_Val_L1_c : Code := ((loopsOf (Try.f48.body.getD .skip)).getD 0 .skip)
noncomputable def t_alert_one_val (y : api_Val × (List api_Val)) : D := .p (.agg [iV y.1.K, sV y.1.S, iV y.1.N, bV y.1.B, .sl false (y.1.L.map c_api_Val)])
noncomputable def alert_one_val_lv : List (Nat × List Nat) := [(0, [0, 3, 4]), (1, [0, 3, 4]), (2, [0, 3, 4]), (3, [0, 3, 4]), (4, [0, 4]), (5, [4]), (5000001, [13]), (5000002, [5]), (5000003, [5]), (5000004, [7])]
noncomputable def t_alert_record_pairs (_ : (List api_Val)) : D := .tup []
noncomputable def alert_record_pairs_lv : List (Nat × List Nat) := [(0, [0, 1, 4]), (1, [0, 4, 8, 9, 10]), (2, [0, 4, 8, 9, 10, 11]), (3, [0, 4, 6, 8, 9, 10]), (4, [0, 4, 8, 9, 10]), (5, [0, 4, 8, 9, 10]), (6, []), (1000002, [0, 4, 8, 9, 10]), (6000006, [7]), (7000006, [25, 28, 29, 30, 31])]
noncomputable def alert_record_pairs_L1_st (p1 : (List api_Pair)) (h0_0 : (List api_Val)) (v10 : Int) (h1_4 : (List api_Val)) : St := ⟨[(0, .ptr 0 0), (4, .ptr 1 0), (8, .p (.sl false (p1.map c_api_Pair))), (9, .p (iV (p1.length : Int))), (10, .p (iV v10))], ⟨[[.own 0 27 5 (h0_0.map c_api_Val)], [.p (iV 8), .p (sV []), .p (iV 0), .p (bV false), .own 1 27 5 (h1_4.map c_api_Val)]], [(h0_0.map c_api_Val).length, (h1_4.map c_api_Val).length]⟩⟩
noncomputable def alert_record_pairs_L1_x0 (p1 : (List api_Pair)) (h0_0 : (List api_Val)) (o1 : (List api_Val)) : St := ⟨[(0, .ptr 0 0), (4, .ptr 1 0)], ⟨[[.own 0 27 5 (h0_0.map c_api_Val)], [.p (iV 8), .p (sV []), .p (iV 0), .p (bV false), .own 1 27 5 (o1.map c_api_Val)]], [(h0_0.map c_api_Val).length, (o1.map c_api_Val).length]⟩⟩
noncomputable def alert_record_pairs_L1_c : Code := ((loopsOf (Try.f81.body.getD .skip)).getD 0 .skip)
noncomputable def t_alert_record_put (_ : (List api_Val)) : D := .tup []
noncomputable def alert_record_put_lv : List (Nat × List Nat) := [(0, [])]
noncomputable def t_alert_record_put_2 (_ : (List api_Val)) : D := .tup []
noncomputable def alert_record_put_2_lv : List (Nat × List Nat) := [(0, [])]
noncomputable def t_alert_row (y : (List api_Pair)) : D := .p (.sl false (y.map c_api_Pair))
noncomputable def alert_row_lv : List (Nat × List Nat) := [(0, [1]), (1, [1, 3]), (2, [3, 7, 8, 9]), (3, [3, 7, 8, 9, 10]), (4, [3, 5, 7, 8, 9]), (5, [3, 7, 8, 9]), (6, [3, 7, 8, 9]), (7, [2]), (1000003, [3, 7, 8, 9])]
noncomputable def alert_row_L1_st (p0 : api_Val) (v3 : (List api_Pair)) (v9 : Int) : St := ⟨[(3, .own 0 73 2 (v3.map c_api_Pair)), (7, .p (.sl false (p0.L.map c_api_Val))), (8, .p (iV (p0.L.length : Int))), (9, .p (iV v9))], ⟨[[.p (iV p0.K), .p (sV p0.S), .p (iV p0.N), .p (bV p0.B), .p (.sl false (p0.L.map c_api_Val))]], [(v3.map c_api_Pair).length]⟩⟩
noncomputable def alert_row_L1_x0 (p0 : api_Val) (o1 : (List api_Pair)) : St := ⟨[(3, .own 0 73 2 (o1.map c_api_Pair))], ⟨[[.p (iV p0.K), .p (sV p0.S), .p (iV p0.N), .p (bV p0.B), .p (.sl false (p0.L.map c_api_Val))]], [(o1.map c_api_Pair).length]⟩⟩
noncomputable def alert_row_L1_c : Code := ((loopsOf (Try.f85.body.getD .skip)).getD 0 .skip)
noncomputable def t_alert_rows (y : (List (List api_Pair))) : D := .p (.sl false (y.map (cSl c_api_Pair)))
noncomputable def alert_rows_lv : List (Nat × List Nat) := [(0, [1]), (1, [1, 3]), (2, [3, 10, 11, 12]), (3, [3, 10, 11, 12, 13]), (4, [3, 5, 10, 11, 12]), (5, [3, 10, 11, 12]), (6, [3, 10, 11, 12]), (7, [2]), (1000003, [3, 10, 11, 12])]
noncomputable def alert_rows_L1_st (p0 : api_Group) (v3 : (List (List api_Pair))) (v12 : Int) : St := ⟨[(3, .own 0 66 1 (v3.map (cSl c_api_Pair))), (10, .p (.sl false (p0.Alerts.map c_api_Alert))), (11, .p (iV (p0.Alerts.length : Int))), (12, .p (iV v12))], ⟨[[.p (sV p0.Receiver), .p (bV p0.Firing), .p (.sl false (p0.Common.map c_api_Pair)), .p (sV p0.Link), .p (.sl false (p0.Alerts.map c_api_Alert))]], [(v3.map (cSl c_api_Pair)).length]⟩⟩
noncomputable def alert_rows_L1_x0 (p0 : api_Group) (o1 : (List (List api_Pair))) : St := ⟨[(3, .own 0 66 1 (o1.map (cSl c_api_Pair)))], ⟨[[.p (sV p0.Receiver), .p (bV p0.Firing), .p (.sl false (p0.Common.map c_api_Pair)), .p (sV p0.Link), .p (.sl false (p0.Alerts.map c_api_Alert))]], [(o1.map (cSl c_api_Pair)).length]⟩⟩
noncomputable def alert_rows_L1_c : Code := ((loopsOf (Try.f74.body.getD .skip)).getD 0 .skip)
noncomputable def t_alert_texts (y : api_Group) : D := .fn (.func 96) [] [.p (.ep [sV y.Receiver, bV y.Firing, .sl false (y.Common.map c_api_Pair), sV y.Link, .sl false (y.Alerts.map c_api_Alert)])]
noncomputable def alert_texts_lv : List (Nat × List Nat) := [(0, [1]), (1, [2])]
noncomputable def e_alert_texts_1 (y : (List UInt8)) : List V := [sV y]
noncomputable def alert_texts_1_lv : List (Nat × List Nat) := [(0, [0, 1, 20]), (1, [0, 1, 22, 23, 24]), (2, [0, 1, 22, 23, 24, 25]), (3, [0, 1, 4, 22, 23, 24]), (4, [0, 1, 22, 23, 24, 28, 29, 30]), (5, [0, 1, 22, 23, 24, 28, 29, 30, 31]), (6, [0, 1, 6, 22, 23, 24, 28, 29, 30]), (7, [0, 1, 22, 23, 24, 28, 29, 30, 45]), (8, [0, 1, 22, 23, 24, 28, 29, 30]), (9, [0, 1, 22, 23, 24]), (10, [0, 49, 50, 51]), (11, [0, 49, 50, 51, 52]), (12, [0, 8, 49, 50, 51]), (13, [0, 49, 50, 51, 59]), (14, [0, 49, 50, 51]), (1000002, [0, 1, 22, 23, 24]), (1000005, [0, 1, 22, 23, 24, 28, 29, 30]), (1000011, [0, 49, 50, 51])]
noncomputable def alert_texts_1_L2_st (p0 : api_Group) (x1 : (List (List api_Pair))) (v24 : Int) (x4 : (List api_Pair)) (v30 : Int) (gxs gp : List (List V)) : St := ⟨[(0, .yld Try.prog 0 gxs), (1, .p (.ep [sV p0.Receiver, bV p0.Firing, .sl false (p0.Common.map c_api_Pair), sV p0.Link, .sl false (p0.Alerts.map c_api_Alert)])), (22, .p (.sl false (x1.map (cSl c_api_Pair)))), (23, .p (iV (x1.length : Int))), (24, .p (iV v24)), (28, .p (.sl false (x4.map c_api_Pair))), (29, .p (iV (x4.length : Int))), (30, .p (iV v30))], ⟨[], [gp.length]⟩⟩
noncomputable def alert_texts_1_L2_x0 (p0 : api_Group) (x1 : (List (List api_Pair))) (v24 : Int) (x4 : (List api_Pair)) (gxs : List (List V)) (gq5 : List (List V)) (oy : Unit) : St := ⟨[(0, .yld Try.prog 0 gxs), (1, .p (.ep [sV p0.Receiver, bV p0.Firing, .sl false (p0.Common.map c_api_Pair), sV p0.Link, .sl false (p0.Alerts.map c_api_Alert)])), (22, .p (.sl false (x1.map (cSl c_api_Pair)))), (23, .p (iV (x1.length : Int))), (24, .p (iV v24))], ⟨[], [gq5.length]⟩⟩
noncomputable def alert_texts_1_L2_c : Code := ((loopsOf (Try.f96.body.getD .skip)).getD 1 .skip)
noncomputable def alert_texts_1_L1_st (p0 : api_Group) (x1 : (List (List api_Pair))) (v24 : Int) (gxs gp : List (List V)) : St := ⟨[(0, .yld Try.prog 0 gxs), (1, .p (.ep [sV p0.Receiver, bV p0.Firing, .sl false (p0.Common.map c_api_Pair), sV p0.Link, .sl false (p0.Alerts.map c_api_Alert)])), (22, .p (.sl false (x1.map (cSl c_api_Pair)))), (23, .p (iV (x1.length : Int))), (24, .p (iV v24))], ⟨[], [gp.length]⟩⟩
noncomputable def alert_texts_1_L1_x0 (p0 : api_Group) (x1 : (List (List api_Pair))) (gxs : List (List V)) (gq2 : List (List V)) (oy : Unit) : St := ⟨[(0, .yld Try.prog 0 gxs), (1, .p (.ep [sV p0.Receiver, bV p0.Firing, .sl false (p0.Common.map c_api_Pair), sV p0.Link, .sl false (p0.Alerts.map c_api_Alert)]))], ⟨[], [gq2.length]⟩⟩
noncomputable def alert_texts_1_L1_c : Code := ((loopsOf (Try.f96.body.getD .skip)).getD 0 .skip)
noncomputable def alert_texts_1_L3_st (p0 : api_Group) (v51 : Int) (gxs gp : List (List V)) : St := ⟨[(0, .yld Try.prog 0 gxs), (49, .p (.sl false (p0.Alerts.map c_api_Alert))), (50, .p (iV (p0.Alerts.length : Int))), (51, .p (iV v51))], ⟨[], [gp.length]⟩⟩
noncomputable def alert_texts_1_L3_x0 (p0 : api_Group) (gxs : List (List V)) (gq8 : List (List V)) (oy : Unit) : St := ⟨[], ⟨[], [gq8.length]⟩⟩
noncomputable def alert_texts_1_L3_c : Code := ((loopsOf (Try.f96.body.getD .skip)).getD 2 .skip)
noncomputable def t_nunciolaw17_AlertBacks (y : Bool) : D := .p (bV y)
noncomputable def nunciolaw17_AlertBacks_lv : List (Nat × List Nat) := [(0, [1]), (1, [1]), (2, [1, 3, 4]), (3, [1, 3, 4, 5, 6]), (4, [1, 3, 4, 29]), (5, [2]), (6, [1, 4, 7, 8]), (7, [2]), (3000004, []), (3000007, [])]
noncomputable def nunciolaw17_AlertBacks_J0_0 (x1 : api_Val) (x2 : api_Group × Bool) (x3 : api_Group × Bool) (o4 : Bool) : St := ⟨[(1, .ptr 0 0), (3, .ptr 1 0), (4, .p (bV x2.2)), (29, .p (bV o4))], ⟨[[.p (iV x1.K), .p (sV x1.S), .p (iV x1.N), .p (bV x1.B), .p (.sl false (x1.L.map c_api_Val))], [.p (sV x2.1.Receiver), .p (bV x2.1.Firing), .p (.sl false (x2.1.Common.map c_api_Pair)), .p (sV x2.1.Link), .p (.sl false (x2.1.Alerts.map c_api_Alert))], [.p (sV x3.1.Receiver), .p (bV x3.1.Firing), .p (.sl false (x3.1.Common.map c_api_Pair)), .p (sV x3.1.Link), .p (.sl false (x3.1.Alerts.map c_api_Alert))]], []⟩⟩
noncomputable def nunciolaw17_AlertBacks_J1_0 (x1 : api_Val) (x2 : api_Group × Bool) (x3 : api_Group × Bool) (x6 : api_Val × Int) (o7 : Bool) : St := ⟨[(2, .p (bV o7))], ⟨[[.p (iV x1.K), .p (sV x1.S), .p (iV x1.N), .p (bV x1.B), .p (.sl false (x1.L.map c_api_Val))], [.p (sV x2.1.Receiver), .p (bV x2.1.Firing), .p (.sl false (x2.1.Common.map c_api_Pair)), .p (sV x2.1.Link), .p (.sl false (x2.1.Alerts.map c_api_Alert))], [.p (sV x3.1.Receiver), .p (bV x3.1.Firing), .p (.sl false (x3.1.Common.map c_api_Pair)), .p (sV x3.1.Link), .p (.sl false (x3.1.Alerts.map c_api_Alert))], [.p (iV x6.1.K), .p (sV x6.1.S), .p (iV x6.1.N), .p (bV x6.1.B), .p (.sl false (x6.1.L.map c_api_Val))]], []⟩⟩
noncomputable def t_nunciolaw17_AlertSames (y : Bool) : D := .p (bV y)
noncomputable def nunciolaw17_AlertSames_lv : List (Nat × List Nat) := [(0, [2, 3]), (1, [2, 3]), (2, [4]), (3000002, [])]
noncomputable def nunciolaw17_AlertSames_J0_0 (x1 : api_Group) (x2 : api_Group) (o3 : Bool) : St := ⟨[(4, .p (bV o3))], ⟨[[.p (sV x1.Receiver), .p (bV x1.Firing), .p (.sl false (x1.Common.map c_api_Pair)), .p (sV x1.Link), .p (.sl false (x1.Alerts.map c_api_Alert))], [.p (sV x2.Receiver), .p (bV x2.Firing), .p (.sl false (x2.Common.map c_api_Pair)), .p (sV x2.Link), .p (.sl false (x2.Alerts.map c_api_Alert))]], []⟩⟩
noncomputable def t_nunciolaw17_AlertVals (y : Bool) : D := .p (bV y)
noncomputable def nunciolaw17_AlertVals_lv : List (Nat × List Nat) := [(0, [1]), (1, [1]), (2, [1, 3, 4]), (3, [1, 3, 4, 5, 6]), (4, [1, 3, 4, 35]), (5, [2]), (6, [1, 3, 4, 7, 8]), (7, [1, 3, 7, 8, 42]), (8, [2]), (9, [2]), (3000004, []), (3000008, []), (3000009, [])]
noncomputable def nunciolaw17_AlertVals_J0_0 (x1 : api_Group) (x2 : api_Val × Int) (x3 : api_Val × Int) (o4 : Bool) : St := ⟨[(1, .ptr 0 0), (3, .ptr 1 0), (4, .p (iV x2.2)), (35, .p (bV o4))], ⟨[[.p (sV x1.Receiver), .p (bV x1.Firing), .p (.sl false (x1.Common.map c_api_Pair)), .p (sV x1.Link), .p (.sl false (x1.Alerts.map c_api_Alert))], [.p (iV x2.1.K), .p (sV x2.1.S), .p (iV x2.1.N), .p (bV x2.1.B), .p (.sl false (x2.1.L.map c_api_Val))], [.p (iV x3.1.K), .p (sV x3.1.S), .p (iV x3.1.N), .p (bV x3.1.B), .p (.sl false (x3.1.L.map c_api_Val))]], []⟩⟩
noncomputable def nunciolaw17_AlertVals_J1_0 (x1 : api_Group) (x2 : api_Val × Int) (x3 : api_Val × Int) (x7 : api_Group × Bool) (o8 : Bool) : St := ⟨[(2, .p (bV o8))], ⟨[[.p (sV x1.Receiver), .p (bV x1.Firing), .p (.sl false (x1.Common.map c_api_Pair)), .p (sV x1.Link), .p (.sl false (x1.Alerts.map c_api_Alert))], [.p (iV x2.1.K), .p (sV x2.1.S), .p (iV x2.1.N), .p (bV x2.1.B), .p (.sl false (x2.1.L.map c_api_Val))], [.p (iV x3.1.K), .p (sV x3.1.S), .p (iV x3.1.N), .p (bV x3.1.B), .p (.sl false (x3.1.L.map c_api_Val))], [.p (sV x7.1.Receiver), .p (bV x7.1.Firing), .p (.sl false (x7.1.Common.map c_api_Pair)), .p (sV x7.1.Link), .p (.sl false (x7.1.Alerts.map c_api_Alert))]], []⟩⟩
noncomputable def nunciolaw17_AlertVals_J2_0 (x1 : api_Group) (x2 : api_Val × Int) (x3 : api_Val × Int) (x7 : api_Group × Bool) (o10 : Bool) : St := ⟨[(2, .p (bV o10))], ⟨[[.p (sV x1.Receiver), .p (bV x1.Firing), .p (.sl false (x1.Common.map c_api_Pair)), .p (sV x1.Link), .p (.sl false (x1.Alerts.map c_api_Alert))], [.p (iV x2.1.K), .p (sV x2.1.S), .p (iV x2.1.N), .p (bV x2.1.B), .p (.sl false (x2.1.L.map c_api_Val))], [.p (iV x3.1.K), .p (sV x3.1.S), .p (iV x3.1.N), .p (bV x3.1.B), .p (.sl false (x3.1.L.map c_api_Val))], [.p (sV x7.1.Receiver), .p (bV x7.1.Firing), .p (.sl false (x7.1.Common.map c_api_Pair)), .p (sV x7.1.Link), .p (.sl false (x7.1.Alerts.map c_api_Alert))]], []⟩⟩
noncomputable def t_nunciolaw17_Few (y : api_Group) : D := .p (.agg [sV y.Receiver, bV y.Firing, .sl false (y.Common.map c_api_Pair), sV y.Link, .sl false (y.Alerts.map c_api_Alert)])
noncomputable def nunciolaw17_Few_lv : List (Nat × List Nat) := [(0, [1, 2]), (1, [1, 2, 3]), (2, [1, 2, 3, 4]), (3, [1, 2, 3, 4, 34]), (4, [1, 2, 3, 4]), (5, [1, 2, 3, 4, 5]), (6, [1, 2, 3, 4]), (7, [2]), (1000003, [1, 2, 3, 4]), (3000003, [])]
noncomputable def nunciolaw17_Few_J0_0 (p0 : api_Group) (x1 : (List UInt8)) (x2 : (List api_Pair)) (x3 : (List UInt8)) (v4 : Int) (h2_4 : (List api_Alert)) (o5 : Bool) : St := ⟨[(1, .ptr 0 0), (2, .ptr 1 0), (3, .ptr 2 0), (4, .p (iV v4)), (34, .p (bV o5))], ⟨[[.p (sV p0.Receiver), .p (bV p0.Firing), .p (.sl false (p0.Common.map c_api_Pair)), .p (sV p0.Link), .p (.sl false (p0.Alerts.map c_api_Alert))], [.p (sV []), .p (bV false), .p (.sl true []), .p (sV []), .p (.sl true [])], [.p (sV x1), .p (bV p0.Firing), .p (.sl false (x2.map c_api_Pair)), .p (sV x3), .own 0 71 6 (h2_4.map c_api_Alert)]], [(h2_4.map c_api_Alert).length]⟩⟩
noncomputable def nunciolaw17_Few_L1_st (p0 : api_Group) (x1 : (List UInt8)) (x2 : (List api_Pair)) (x3 : (List UInt8)) (v4 : Int) (h2_4 : (List api_Alert)) : St := ⟨[(1, .ptr 0 0), (2, .ptr 1 0), (3, .ptr 2 0), (4, .p (iV v4))], ⟨[[.p (sV p0.Receiver), .p (bV p0.Firing), .p (.sl false (p0.Common.map c_api_Pair)), .p (sV p0.Link), .p (.sl false (p0.Alerts.map c_api_Alert))], [.p (sV []), .p (bV false), .p (.sl true []), .p (sV []), .p (.sl true [])], [.p (sV x1), .p (bV p0.Firing), .p (.sl false (x2.map c_api_Pair)), .p (sV x3), .own 0 71 6 (h2_4.map c_api_Alert)]], [(h2_4.map c_api_Alert).length]⟩⟩
noncomputable def nunciolaw17_Few_L1_x0 (p0 : api_Group) (x1 : (List UInt8)) (x2 : (List api_Pair)) (x3 : (List UInt8)) (o4 : (List api_Alert)) : St := ⟨[(2, .ptr 1 0), (3, .ptr 2 0)], ⟨[[.p (sV p0.Receiver), .p (bV p0.Firing), .p (.sl false (p0.Common.map c_api_Pair)), .p (sV p0.Link), .p (.sl false (p0.Alerts.map c_api_Alert))], [.p (sV []), .p (bV false), .p (.sl true []), .p (sV []), .p (.sl true [])], [.p (sV x1), .p (bV p0.Firing), .p (.sl false (x2.map c_api_Pair)), .p (sV x3), .own 0 71 6 (o4.map c_api_Alert)]], [(o4.map c_api_Alert).length]⟩⟩
noncomputable def nunciolaw17_Few_L1_c : Code := ((loopsOf (Try.f47.body.getD .skip)).getD 0 .skip)
noncomputable def t_nunciolaw17_awake (y : Bool) : D := .p (bV y)
noncomputable def nunciolaw17_awake_lv : List (Nat × List Nat) := [(0, []), (1, [1, 2]), (2, [0]), (3000002, [])]
noncomputable def nunciolaw17_awake_J0_0 (x1 : api_Val × Int) (o2 : Bool) : St := ⟨[(0, .p (bV o2))], ⟨[[.p (iV x1.1.K), .p (sV x1.1.S), .p (iV x1.1.N), .p (bV x1.1.B), .p (.sl false (x1.1.L.map c_api_Val))]], []⟩⟩
noncomputable def t_nunciolaw17_pairs (y : (List api_Pair)) : D := .p (.sl false (y.map c_api_Pair))
noncomputable def nunciolaw17_pairs_lv : List (Nat × List Nat) := [(0, [0]), (1, [0, 3]), (2, [0, 3, 4]), (3, [0, 3, 4, 13]), (4, [0, 3, 4]), (5, [0, 3, 4]), (6, [2]), (1000003, [0, 3, 4]), (3000003, [])]
noncomputable def nunciolaw17_pairs_J0_0 (p0 : (List api_Pair)) (v3 : (List api_Pair)) (v4 : Int) (o2 : Bool) : St := ⟨[(0, .p (.sl false (p0.map c_api_Pair))), (3, .own 0 73 2 (v3.map c_api_Pair)), (4, .p (iV v4)), (13, .p (bV o2))], ⟨[], [(v3.map c_api_Pair).length]⟩⟩
noncomputable def nunciolaw17_pairs_L1_st (p0 : (List api_Pair)) (v3 : (List api_Pair)) (v4 : Int) : St := ⟨[(0, .p (.sl false (p0.map c_api_Pair))), (3, .own 0 73 2 (v3.map c_api_Pair)), (4, .p (iV v4))], ⟨[], [(v3.map c_api_Pair).length]⟩⟩
noncomputable def nunciolaw17_pairs_L1_x0 (p0 : (List api_Pair)) (o1 : (List api_Pair)) : St := ⟨[(3, .own 0 73 2 (o1.map c_api_Pair))], ⟨[], [(o1.map c_api_Pair).length]⟩⟩
noncomputable def nunciolaw17_pairs_L1_c : Code := ((loopsOf (Try.f78.body.getD .skip)).getD 0 .skip)
noncomputable def t_slices_ContainsFunc_api_Pair_api_Pair_alert_Check_1 (y : Bool) : D := .p (bV y)
noncomputable def slices_ContainsFunc_api_Pair_api_Pair_alert_Check_1_lv : List (Nat × List Nat) := [(0, [0, 1]), (1, [4])]
noncomputable def t_slices_EqualFunc_api_Alert_api_Alert_api_Alert_api_Alert_alert_Same_1 (y : Bool) : D := .p (bV y)
noncomputable def slices_EqualFunc_api_Alert_api_Alert_api_Alert_api_Alert_alert_Same_1_lv : List (Nat × List Nat) := [(0, [0, 1, 2]), (1, [0, 1, 2, 14]), (2, [6]), (3, [1, 2, 15, 16, 17]), (4, [1, 2, 15, 16, 17, 18]), (5, [1, 2, 7, 8, 15, 16, 17]), (6, [1, 2, 8, 9, 15, 16, 17]), (7, [1, 2, 15, 16, 17, 30]), (8, [6]), (9, [1, 2, 15, 16, 17]), (10, [6]), (1000004, [1, 2, 15, 16, 17])]
noncomputable def slices_EqualFunc_api_Alert_api_Alert_api_Alert_api_Alert_alert_Same_1_L1_st (p0 : (List api_Alert)) (p1 : (List api_Alert)) (v17 : Int) : St := ⟨[(1, .p (.sl false (p1.map c_api_Alert))), (2, .fn (.func 90) [] []), (15, .p (.sl false (p0.map c_api_Alert))), (16, .p (iV (p0.length : Int))), (17, .p (iV v17))], ⟨[], []⟩⟩
noncomputable def slices_EqualFunc_api_Alert_api_Alert_api_Alert_api_Alert_alert_Same_1_L1_x0 (p0 : (List api_Alert)) (p1 : (List api_Alert)) (y2 : Unit) : St := ⟨[], ⟨[], []⟩⟩
noncomputable def slices_EqualFunc_api_Alert_api_Alert_api_Alert_api_Alert_alert_Same_1_L1_x1 (p0 : (List api_Alert)) (p1 : (List api_Alert)) (y3 : Unit) : St := ⟨[(6, .p (bV false))], ⟨[], []⟩⟩
noncomputable def slices_EqualFunc_api_Alert_api_Alert_api_Alert_api_Alert_alert_Same_1_L1_c : Code := ((loopsOf (Try.f89.body.getD .skip)).getD 0 .skip)
noncomputable def t_slices_Equal_api_Pair_api_Pair (y : Bool) : D := .p (bV y)
noncomputable def slices_Equal_api_Pair_api_Pair_lv : List (Nat × List Nat) := [(0, [0, 1]), (1, [0, 1, 10]), (2, [4]), (3, [0, 1, 12, 13]), (4, [0, 1, 12, 13, 14]), (5, [0, 1, 5, 12, 13]), (6, [0, 1, 12, 13, 24]), (7, [4]), (8, [0, 1, 12, 13]), (9, [4]), (1000004, [0, 1, 12, 13])]
noncomputable def slices_Equal_api_Pair_api_Pair_L1_st (p0 : (List api_Pair)) (p1 : (List api_Pair)) (v13 : Int) : St := ⟨[(0, .p (.sl false (p0.map c_api_Pair))), (1, .p (.sl false (p1.map c_api_Pair))), (12, .p (iV (p0.length : Int))), (13, .p (iV v13))], ⟨[], []⟩⟩
noncomputable def slices_Equal_api_Pair_api_Pair_L1_x0 (p0 : (List api_Pair)) (p1 : (List api_Pair)) (y2 : Unit) : St := ⟨[], ⟨[], []⟩⟩
noncomputable def slices_Equal_api_Pair_api_Pair_L1_x1 (p0 : (List api_Pair)) (p1 : (List api_Pair)) (y3 : Unit) : St := ⟨[(4, .p (bV false))], ⟨[], []⟩⟩
noncomputable def slices_Equal_api_Pair_api_Pair_L1_c : Code := ((loopsOf (Try.f88.body.getD .skip)).getD 0 .skip)
noncomputable def t_slices_IndexFunc_api_Pair_api_Pair_alert_Check_1 (y : Int) : D := .p (iV y)
noncomputable def slices_IndexFunc_api_Pair_api_Pair_alert_Check_1_lv : List (Nat × List Nat) := [(0, [0, 1]), (1, [0, 1, 7, 8]), (2, [0, 1, 7, 8, 9]), (3, [0, 1, 5, 7, 8]), (4, [0, 1, 5, 7, 8, 16]), (5, [4]), (6, [0, 1, 7, 8]), (7, [4]), (1000002, [0, 1, 7, 8])]
noncomputable def slices_IndexFunc_api_Pair_api_Pair_alert_Check_1_L1_st (p0 : (List (List api_Pair))) (v8 : Int) : St := ⟨[(0, .p (.sl false (p0.map (cSl c_api_Pair)))), (1, .fn (.func 75) [] []), (7, .p (iV (p0.length : Int))), (8, .p (iV v8))], ⟨[], []⟩⟩
noncomputable def slices_IndexFunc_api_Pair_api_Pair_alert_Check_1_L1_x0 (p0 : (List (List api_Pair))) (y2 : Unit) : St := ⟨[], ⟨[], []⟩⟩
noncomputable def slices_IndexFunc_api_Pair_api_Pair_alert_Check_1_L1_x1 (p0 : (List (List api_Pair))) (y3 : Int) : St := ⟨[(4, .p (iV y3))], ⟨[], []⟩⟩
noncomputable def slices_IndexFunc_api_Pair_api_Pair_alert_Check_1_L1_c : Code := ((loopsOf (Try.f95.body.getD .skip)).getD 0 .skip)
noncomputable def R17_row_L1 (p0 : api_Val) (v3 : (List api_Pair)) (v4 : Int) : Option ((List api_Pair)) :=
  if (decide (v4 < (p0.L.length : Int))) then
    idx p0.L v4 >>= fun x2 =>
    idx x2.L 0 >>= fun x3 =>
    idx p0.L v4 >>= fun x4 =>
    idx x4.L 1 >>= fun x5 =>
    appL 32 v3 [(api_Pair.mk x3.S x5.S)] >>= fun x6 =>
    R17_row_L1 p0 x6 (wr (v4 + 1))
  else
    some v3
  partial_fixpoint
set_option maxRecDepth 100000 in
set_option maxHeartbeats 4000000 in
theorem R17_row_L1_grp : ∀ (p0 : api_Val), (∀ (v3 : (List api_Pair)) (v4 : Int) (o1 : (List api_Pair)), R17_row_L1 p0 v3 v4 = some o1 → TL (0, 0) Try.prog 36 R17_row_L1_c (JP1 (0, 0) 36 o1 (.exit 0) (R17_row_L1_x0 p0)) (R17_row_L1_st p0 v3 v4)) := by
  intro p0
  refine R17_row_L1.partial_correctness p0 _ ?_
  intro R17_row_L1' ih_R17_row_L1 v3 v4 o1 h
  refine TL.round (bwp_sound mixed tbOk (lv := R17_row_lv) _ _ _ ?_)
  refine view (lenMap _ _) rfl ?_
  refine st_test h (fun hb h => ?_) (fun hb h => ?_)
  · refine And.intro (by decide +kernel) (And.intro rfl ?_)
    refine st_idx (l := p0.L) (c := c_api_Val) (c' := l_api_Val) h c_api_Val_eq (fun _ => rfl) (by decide) (fun x2 hi h => ?_)
    refine st_idx (l := x2.L) (c := c_api_Val) (c' := l_api_Val) h c_api_Val_eq (fun _ => rfl) (by decide) (fun x3 hi h => ?_)
    refine st_idx (l := p0.L) (c := c_api_Val) (c' := l_api_Val) h c_api_Val_eq (fun _ => rfl) (by decide) (fun x4 hi h => ?_)
    refine st_idx (l := x4.L) (c := c_api_Val) (c' := l_api_Val) h c_api_Val_eq (fun _ => rfl) (by decide) (fun x5 hi h => ?_)
    refine st_appo (a := v3) (b := [(api_Pair.mk x3.S x5.S)]) (c := c_api_Pair) h (.refl _) (fun _ => rfl) rfl (fun x6 hi h => ?_)
    refine TL.le (τ := R17_row_L1_st p0 x6 (wr (v4 + 1))) ?_ ((ih_R17_row_L1 x6 (wr (v4 + 1)) _ h))
    exact Le.tow 1 1 rfl (.cons rfl (.refl _) (.cons rfl (.refl _) (.cons rfl (.refl _) (.nil)))) (.refl _) rfl
  · exact JP1.a h (Le.tow 1 1 rfl (.cons rfl (.refl _) (.nil)) (.refl _) rfl)
theorem R17_row_L1_ok : ∀ (p0 : api_Val) (v3 : (List api_Pair)) (v4 : Int) (o1 : (List api_Pair)), R17_row_L1 p0 v3 v4 = some o1 → TL (0, 0) Try.prog 36 R17_row_L1_c (JP1 (0, 0) 36 o1 (.exit 0) (R17_row_L1_x0 p0)) (R17_row_L1_st p0 v3 v4) := fun p0 v3 v4 o1 h => (R17_row_L1_grp p0) v3 v4 o1 h
noncomputable def R17_row (p0 : api_Val) : Option ((List api_Pair)) :=
  (R17_row_L1 p0 [] 0) >>= fun o1 =>
  some o1
set_option maxRecDepth 100000 in
set_option maxHeartbeats 4000000 in
theorem R17_row_ok : ∀ (p0 : api_Val) (o : (List api_Pair)), R17_row p0 = some o → PCall Try.prog 87 [.agg [iV p0.K, sV p0.S, iV p0.N, bV p0.B, .sl false (p0.L.map c_api_Val)]] (t_R17_row o) := by
  intro p0 o h
  unfold R17_row at h
  refine PCall.ofB mixed tbOk R17_row_lv Try.func87 rfl (by kernel_rfl) (Nat.le_of_ble_eq_true rfl) ?_
  refine st_bind h (fun o1 ho hk => ?_)
  refine Exists.intro (JP1 _ _ o1 (.exit 0) (R17_row_L1_x0 p0)) (And.intro (T_le (τ := R17_row_L1_st p0 [] 0) ?_ (TL.loop (R17_row_L1_ok p0 [] 0 o1 ho))) (join1 ?_))
  · exact Le.trans (τ := ⟨[(1, .ptr 0 0), (3, .p (.sl true [])), (4, .p (iV 0))], ⟨[[.p (iV p0.K), .p (sV p0.S), .p (iV p0.N), .p (bV p0.B), .p (.sl false (p0.L.map c_api_Val))]], []⟩⟩) (Le.tow 1 0 rfl (.cons rfl (.refl _) (.cons rfl (.refl _) (.cons rfl (.refl _) (.nil)))) (.refl _) rfl) ((Le.own 3 73 2 rfl sizeNil).trans (Le.tow 1 1 rfl (.cons rfl (.refl _) (.cons rfl (.refl _) (.cons rfl (.refl _) (.nil)))) (.refl _) rfl))
  have h := hk
  refine st_ret (t := t_R17_row) h ?_
  exact .refl _
noncomputable def R17_Back_L1 (p0 : api_Val) (x3 : api_Val) (x4 : api_Val) (x6 : (List api_Pair)) (x7 : api_Val) (v5 : Int) (h2_4 : (List api_Alert)) : Option ((List api_Alert)) :=
  idx p0.L 4 >>= fun x9 =>
  if (decide (v5 < (x9.L.length : Int))) then
    idx p0.L 4 >>= fun x10 =>
    idx x10.L v5 >>= fun x11 =>
    idx x11.L 0 >>= fun x12 =>
    idx x11.L 1 >>= fun x13 =>
    idx x11.L 2 >>= fun x14 =>
    idx x11.L 3 >>= fun x15 =>
    R17_row x15 >>= fun x16 =>
    idx x11.L 4 >>= fun x17 =>
    R17_row x17 >>= fun x18 =>
    idx x11.L 5 >>= fun x19 =>
    appL 88 h2_4 [(api_Alert.mk x12.B x13.N x14.N x16 x18 x19.S)] >>= fun x20 =>
    R17_Back_L1 p0 x3 x4 x6 x7 (wr (v5 + 1)) x20
  else
    some h2_4
  partial_fixpoint
set_option maxRecDepth 100000 in
set_option maxHeartbeats 4000000 in
theorem R17_Back_L1_grp : ∀ (p0 : api_Val) (x3 : api_Val) (x4 : api_Val) (x6 : (List api_Pair)) (x7 : api_Val), (∀ (v5 : Int) (h2_4 : (List api_Alert)) (o8 : (List api_Alert)), R17_Back_L1 p0 x3 x4 x6 x7 v5 h2_4 = some o8 → TL (0, 0) Try.prog 96 R17_Back_L1_c (JP1 (0, 0) 96 o8 (.exit 0) (R17_Back_L1_x0 p0 x3 x4 x6 x7)) (R17_Back_L1_st p0 x3 x4 x6 x7 v5 h2_4)) := by
  intro p0 x3 x4 x6 x7
  refine R17_Back_L1.partial_correctness p0 x3 x4 x6 x7 _ ?_
  intro R17_Back_L1' ih_R17_Back_L1 v5 h2_4 o8 h
  refine TL.round (bwp_sound mixed tbOk (lv := R17_Back_lv) _ _ _ ?_)
  refine st_idx (l := p0.L) (c := c_api_Val) (c' := l_api_Val) h c_api_Val_eq (fun _ => rfl) (by decide) (fun x9 hi h => ?_)
  refine view (lenMap _ _) rfl ?_
  refine st_test h (fun hb h => ?_) (fun hb h => ?_)
  · refine st_idx (l := p0.L) (c := c_api_Val) (c' := l_api_Val) h c_api_Val_eq (fun _ => rfl) (by decide) (fun x10 hi h => ?_)
    refine st_idx (l := x10.L) (c := c_api_Val) (c' := l_api_Val) h c_api_Val_eq (fun _ => rfl) (by decide) (fun x11 hi h => ?_)
    refine And.intro (by decide +kernel) (And.intro rfl ?_)
    refine st_idx (l := x11.L) (c := c_api_Val) (c' := l_api_Val) h c_api_Val_eq (fun _ => rfl) (by decide) (fun x12 hi h => ?_)
    refine st_idx (l := x11.L) (c := c_api_Val) (c' := l_api_Val) h c_api_Val_eq (fun _ => rfl) (by decide) (fun x13 hi h => ?_)
    refine st_idx (l := x11.L) (c := c_api_Val) (c' := l_api_Val) h c_api_Val_eq (fun _ => rfl) (by decide) (fun x14 hi h => ?_)
    refine st_idx (l := x11.L) (c := c_api_Val) (c' := l_api_Val) h c_api_Val_eq (fun _ => rfl) (by decide) (fun x15 hi h => ?_)
    refine st_calld [.agg [iV x15.K, sV x15.S, iV x15.N, bV x15.B, .sl false (x15.L.map c_api_Val)]] t_R17_row h (fun x16 hy => (R17_row_ok x15 x16 hy)) (fun x16 hy h => ?_)
    refine st_idx (l := x11.L) (c := c_api_Val) (c' := l_api_Val) h c_api_Val_eq (fun _ => rfl) (by decide) (fun x17 hi h => ?_)
    refine st_calld [.agg [iV x17.K, sV x17.S, iV x17.N, bV x17.B, .sl false (x17.L.map c_api_Val)]] t_R17_row h (fun x18 hy => (R17_row_ok x17 x18 hy)) (fun x18 hy h => ?_)
    refine st_idx (l := x11.L) (c := c_api_Val) (c' := l_api_Val) h c_api_Val_eq (fun _ => rfl) (by decide) (fun x19 hi h => ?_)
    refine st_appo (a := h2_4) (b := [(api_Alert.mk x12.B x13.N x14.N x16 x18 x19.S)]) (c := c_api_Alert) h (.refl _) (fun _ => rfl) rfl (fun x20 hi h => ?_)
    refine TL.le (τ := R17_Back_L1_st p0 x3 x4 x6 x7 (wr (v5 + 1)) x20) ?_ ((ih_R17_Back_L1 (wr (v5 + 1)) x20 _ h))
    exact Le.tow 3 1 rfl (.cons rfl (.refl _) (.cons rfl (.refl _) (.cons rfl (.refl _) (.cons rfl (.refl _) (.nil))))) (.refl _) rfl
  · exact JP1.a h (Le.tow 3 1 rfl (.cons rfl (.refl _) (.cons rfl (.refl _) (.nil))) (.refl _) rfl)
theorem R17_Back_L1_ok : ∀ (p0 : api_Val) (x3 : api_Val) (x4 : api_Val) (x6 : (List api_Pair)) (x7 : api_Val) (v5 : Int) (h2_4 : (List api_Alert)) (o8 : (List api_Alert)), R17_Back_L1 p0 x3 x4 x6 x7 v5 h2_4 = some o8 → TL (0, 0) Try.prog 96 R17_Back_L1_c (JP1 (0, 0) 96 o8 (.exit 0) (R17_Back_L1_x0 p0 x3 x4 x6 x7)) (R17_Back_L1_st p0 x3 x4 x6 x7 v5 h2_4) := fun p0 x3 x4 x6 x7 v5 h2_4 o8 h => (R17_Back_L1_grp p0 x3 x4 x6 x7) v5 h2_4 o8 h
noncomputable def R17_Check_L1 (p0 : api_Group) (x1 : (List (List api_Pair))) (v4 : Int) : Option (Unit ⊕ Unit) :=
  if (decide (v4 < (x1.length : Int))) then
    idx x1 v4 >>= fun x5 =>
    if (decide ((x5.length : Int) > 32)) then
      some (.inr ())
    else
      R17_Check_L1 p0 x1 (wr (v4 + 1))
  else
    some (.inl ())
  partial_fixpoint
set_option maxRecDepth 100000 in
set_option maxHeartbeats 4000000 in
theorem R17_Check_L1_grp : ∀ (p0 : api_Group) (x1 : (List (List api_Pair))), (∀ (v4 : Int) (o2 : Unit ⊕ Unit), R17_Check_L1 p0 x1 v4 = some o2 → TL (0, 0) Try.prog 107 R17_Check_L1_c (JP2 (0, 0) 107 o2 (.exit 0) (R17_Check_L1_x0 p0 x1) .ret (R17_Check_L1_x1 p0 x1)) (R17_Check_L1_st p0 x1 v4)) := by
  intro p0 x1
  refine R17_Check_L1.partial_correctness p0 x1 _ ?_
  intro R17_Check_L1' ih_R17_Check_L1 v4 o2 h
  refine TL.round (bwp_sound mixed tbOk (lv := R17_Check_lv) _ _ _ ?_)
  refine view (lenMap _ _) rfl ?_
  refine st_test h (fun hb h => ?_) (fun hb h => ?_)
  · refine st_idx (l := x1) (c := (cSl c_api_Pair)) (c' := (cSl c_api_Pair)) h (fun _ => rfl) (fun _ => rfl) (by decide) (fun x5 hi h => ?_)
    refine view (lenMap _ _) rfl ?_
    refine st_test h (fun hb h => ?_) (fun hb h => ?_)
    · exact JP2.b h (Le.tow 1 0 rfl (.cons rfl (.refl _) (.nil)) (.refl _) rfl)
    · refine TL.le (τ := R17_Check_L1_st p0 x1 (wr (v4 + 1))) ?_ ((ih_R17_Check_L1 (wr (v4 + 1)) _ h))
      exact Le.tow 1 0 rfl (.cons rfl (.refl _) (.cons rfl (.refl _) (.cons rfl (.refl _) (.nil)))) (.refl _) rfl
  · exact JP2.a h (Le.tow 1 0 rfl (.cons rfl (.refl _) (.cons rfl (.refl _) (.nil))) (.refl _) rfl)
theorem R17_Check_L1_ok : ∀ (p0 : api_Group) (x1 : (List (List api_Pair))) (v4 : Int) (o2 : Unit ⊕ Unit), R17_Check_L1 p0 x1 v4 = some o2 → TL (0, 0) Try.prog 107 R17_Check_L1_c (JP2 (0, 0) 107 o2 (.exit 0) (R17_Check_L1_x0 p0 x1) .ret (R17_Check_L1_x1 p0 x1)) (R17_Check_L1_st p0 x1 v4) := fun p0 x1 v4 o2 h => (R17_Check_L1_grp p0 x1) v4 o2 h
noncomputable def R17_Check_L2 (p0 : api_Group) (x1 : (List (List api_Pair))) (v5 : (List (List UInt8))) (v6 : Int) : Option ((List (List UInt8))) :=
  if (decide (v6 < (p0.Alerts.length : Int))) then
    idx p0.Alerts v6 >>= fun x7 =>
    appL 16 v5 [x7.Link] >>= fun x8 =>
    R17_Check_L2 p0 x1 x8 (wr (v6 + 1))
  else
    some v5
  partial_fixpoint
set_option maxRecDepth 100000 in
set_option maxHeartbeats 4000000 in
theorem R17_Check_L2_grp : ∀ (p0 : api_Group) (x1 : (List (List api_Pair))), (∀ (v5 : (List (List UInt8))) (v6 : Int) (o6 : (List (List UInt8))), R17_Check_L2 p0 x1 v5 v6 = some o6 → TL (0, 0) Try.prog 107 R17_Check_L2_c (JP1 (0, 0) 107 o6 (.exit 2) (R17_Check_L2_x0 p0 x1)) (R17_Check_L2_st p0 x1 v5 v6)) := by
  intro p0 x1
  refine R17_Check_L2.partial_correctness p0 x1 _ ?_
  intro R17_Check_L2' ih_R17_Check_L2 v5 v6 o6 h
  refine TL.round (bwp_sound mixed tbOk (lv := R17_Check_lv) _ _ _ ?_)
  refine view (lenMap _ _) rfl ?_
  refine st_test h (fun hb h => ?_) (fun hb h => ?_)
  · refine st_idx (l := p0.Alerts) (c := c_api_Alert) (c' := c_api_Alert) h (fun _ => rfl) (fun _ => rfl) (by decide) (fun x7 hi h => ?_)
    refine st_appo (a := v5) (b := [x7.Link]) (c := cStr) h (.refl _) (fun _ => rfl) rfl (fun x8 hi h => ?_)
    refine TL.le (τ := R17_Check_L2_st p0 x1 x8 (wr (v6 + 1))) ?_ ((ih_R17_Check_L2 x8 (wr (v6 + 1)) _ h))
    exact Le.tow 1 1 rfl (.cons rfl (.refl _) (.cons rfl (.refl _) (.cons rfl (.refl _) (.cons rfl (.refl _) (.nil))))) (.refl _) rfl
  · exact JP1.a h (Le.tow 1 1 rfl (.cons rfl (.refl _) (.cons rfl (.refl _) (.nil))) (.refl _) rfl)
theorem R17_Check_L2_ok : ∀ (p0 : api_Group) (x1 : (List (List api_Pair))) (v5 : (List (List UInt8))) (v6 : Int) (o6 : (List (List UInt8))), R17_Check_L2 p0 x1 v5 v6 = some o6 → TL (0, 0) Try.prog 107 R17_Check_L2_c (JP1 (0, 0) 107 o6 (.exit 2) (R17_Check_L2_x0 p0 x1)) (R17_Check_L2_st p0 x1 v5 v6) := fun p0 x1 v5 v6 o6 h => (R17_Check_L2_grp p0 x1) v5 v6 o6 h
noncomputable def R17_Check_L4 (p0 : api_Group) (x1 : (List (List api_Pair))) (v7 : Int) (v5_ : (List (List UInt8))) (v8 : Int) : Option ((List (List UInt8))) :=
  idx x1 v7 >>= fun x11 =>
  if (decide (v8 < (x11.length : Int))) then
    idx x1 v7 >>= fun x12 =>
    idx x12 v8 >>= fun x13 =>
    appL 16 v5_ [x13.Key] >>= fun x14 =>
    idx x1 v7 >>= fun x15 =>
    idx x15 v8 >>= fun x16 =>
    appL 16 x14 [x16.Val] >>= fun x17 =>
    R17_Check_L4 p0 x1 v7 x17 (wr (v8 + 1))
  else
    some v5_
  partial_fixpoint
set_option maxRecDepth 100000 in
set_option maxHeartbeats 4000000 in
theorem R17_Check_L4_grp : ∀ (p0 : api_Group) (x1 : (List (List api_Pair))) (v7 : Int), (∀ (v5_ : (List (List UInt8))) (v8 : Int) (o10 : (List (List UInt8))), R17_Check_L4 p0 x1 v7 v5_ v8 = some o10 → TL (0, 0) Try.prog 107 R17_Check_L4_c (JP1 (0, 0) 107 o10 (.exit 6) (R17_Check_L4_x0 p0 x1 v7)) (R17_Check_L4_st p0 x1 v7 v5_ v8)) := by
  intro p0 x1 v7
  refine R17_Check_L4.partial_correctness p0 x1 v7 _ ?_
  intro R17_Check_L4' ih_R17_Check_L4 v5_ v8 o10 h
  refine TL.round (bwp_sound mixed tbOk (lv := R17_Check_lv) _ _ _ ?_)
  refine st_idx (l := x1) (c := (cSl c_api_Pair)) (c' := (cSl c_api_Pair)) h (fun _ => rfl) (fun _ => rfl) (by decide) (fun x11 hi h => ?_)
  refine view (lenMap _ _) rfl ?_
  refine st_test h (fun hb h => ?_) (fun hb h => ?_)
  · refine st_idx (l := x1) (c := (cSl c_api_Pair)) (c' := (cSl c_api_Pair)) h (fun _ => rfl) (fun _ => rfl) (by decide) (fun x12 hi h => ?_)
    refine st_idx (l := x12) (c := c_api_Pair) (c' := c_api_Pair) h (fun _ => rfl) (fun _ => rfl) (by decide) (fun x13 hi h => ?_)
    refine st_appo (a := v5_) (b := [x13.Key]) (c := cStr) h (.refl _) (fun _ => rfl) rfl (fun x14 hi h => ?_)
    refine st_idx (l := x1) (c := (cSl c_api_Pair)) (c' := (cSl c_api_Pair)) h (fun _ => rfl) (fun _ => rfl) (by decide) (fun x15 hi h => ?_)
    refine st_idx (l := x15) (c := c_api_Pair) (c' := c_api_Pair) h (fun _ => rfl) (fun _ => rfl) (by decide) (fun x16 hi h => ?_)
    refine st_appo (a := x14) (b := [x16.Val]) (c := cStr) h (.refl _) (fun _ => rfl) rfl (fun x17 hi h => ?_)
    refine TL.le (τ := R17_Check_L4_st p0 x1 v7 x17 (wr (v8 + 1))) ?_ ((ih_R17_Check_L4 x17 (wr (v8 + 1)) _ h))
    exact Le.tow 1 1 rfl (.cons rfl (.refl _) (.cons rfl (.refl _) (.cons rfl (.refl _) (.cons rfl (.refl _) (.nil))))) (.refl _) rfl
  · exact JP1.a h (Le.tow 1 1 rfl (.cons rfl (.refl _) (.cons rfl (.refl _) (.cons rfl (.refl _) (.nil)))) (.refl _) rfl)
theorem R17_Check_L4_ok : ∀ (p0 : api_Group) (x1 : (List (List api_Pair))) (v7 : Int) (v5_ : (List (List UInt8))) (v8 : Int) (o10 : (List (List UInt8))), R17_Check_L4 p0 x1 v7 v5_ v8 = some o10 → TL (0, 0) Try.prog 107 R17_Check_L4_c (JP1 (0, 0) 107 o10 (.exit 6) (R17_Check_L4_x0 p0 x1 v7)) (R17_Check_L4_st p0 x1 v7 v5_ v8) := fun p0 x1 v7 v5_ v8 o10 h => (R17_Check_L4_grp p0 x1 v7) v5_ v8 o10 h
noncomputable def R17_Check_L3 (p0 : api_Group) (x1 : (List (List api_Pair))) (v5 : (List (List UInt8))) (v7 : Int) : Option ((List (List UInt8))) :=
  if (decide (v7 < (x1.length : Int))) then
    (R17_Check_L4 p0 x1 v7 v5 0) >>= fun o10 =>
    R17_Check_L3 p0 x1 o10 (wr (v7 + 1))
  else
    some v5
  partial_fixpoint
set_option maxRecDepth 100000 in
set_option maxHeartbeats 4000000 in
theorem R17_Check_L3_grp : ∀ (p0 : api_Group) (x1 : (List (List api_Pair))), (∀ (v5 : (List (List UInt8))) (v7 : Int) (o9 : (List (List UInt8))), R17_Check_L3 p0 x1 v5 v7 = some o9 → TL (0, 0) Try.prog 107 R17_Check_L3_c (JP1 (0, 0) 107 o9 (.exit 4) (R17_Check_L3_x0 p0 x1)) (R17_Check_L3_st p0 x1 v5 v7)) := by
  intro p0 x1
  refine R17_Check_L3.partial_correctness p0 x1 _ ?_
  intro R17_Check_L3' ih_R17_Check_L3 v5 v7 o9 h
  refine TL.round (bwp_sound mixed tbOk (lv := R17_Check_lv) _ _ _ ?_)
  refine view (lenMap _ _) rfl ?_
  refine st_test h (fun hb h => ?_) (fun hb h => ?_)
  · refine st_bind h (fun o10 ho hk => ?_)
    refine Exists.intro (JP1 _ _ o10 (.exit 6) (R17_Check_L4_x0 p0 x1 v7)) (And.intro (T_le (τ := R17_Check_L4_st p0 x1 v7 v5 0) ?_ (TL.loop (R17_Check_L4_ok p0 x1 v7 v5 0 o10 ho))) (join1 ?_))
    · exact Le.tow 1 1 rfl (.cons rfl (.refl _) (.cons rfl (.refl _) (.cons rfl (.refl _) (.cons rfl (.refl _) (.nil))))) (.refl _) rfl
    have h := hk
    refine TL.le (τ := R17_Check_L3_st p0 x1 o10 (wr (v7 + 1))) ?_ ((ih_R17_Check_L3 o10 (wr (v7 + 1)) _ h))
    exact Le.tow 1 1 rfl (.cons rfl (.refl _) (.cons rfl (.refl _) (.cons rfl (.refl _) (.nil)))) (.refl _) rfl
  · exact JP1.a h (Le.tow 1 1 rfl (.cons rfl (.refl _) (.nil)) (.refl _) rfl)
theorem R17_Check_L3_ok : ∀ (p0 : api_Group) (x1 : (List (List api_Pair))) (v5 : (List (List UInt8))) (v7 : Int) (o9 : (List (List UInt8))), R17_Check_L3 p0 x1 v5 v7 = some o9 → TL (0, 0) Try.prog 107 R17_Check_L3_c (JP1 (0, 0) 107 o9 (.exit 4) (R17_Check_L3_x0 p0 x1)) (R17_Check_L3_st p0 x1 v5 v7) := fun p0 x1 v5 v7 o9 h => (R17_Check_L3_grp p0 x1) v5 v7 o9 h
noncomputable def R17_Check_L5 (p0 : api_Group) (o9 : (List (List UInt8))) (v9 : Int) (v10 : Int) : Option (Unit ⊕ Unit) :=
  if (decide (v10 < (o9.length : Int))) then
    idx o9 v10 >>= fun x21 =>
    if (decide ((x21.length : Int) > v9)) then
      some (.inr ())
    else
      idx o9 v10 >>= fun x22 =>
      R17_Check_L5 p0 o9 (wr (v9 - (x22.length : Int))) (wr (v10 + 1))
  else
    some (.inl ())
  partial_fixpoint
set_option maxRecDepth 100000 in
set_option maxHeartbeats 4000000 in
theorem R17_Check_L5_grp : ∀ (p0 : api_Group) (o9 : (List (List UInt8))), (∀ (v9 : Int) (v10 : Int) (o18 : Unit ⊕ Unit), R17_Check_L5 p0 o9 v9 v10 = some o18 → TL (0, 0) Try.prog 107 R17_Check_L5_c (JP2 (0, 0) 107 o18 (.exit 8) (R17_Check_L5_x0 p0 o9) .ret (R17_Check_L5_x1 p0 o9)) (R17_Check_L5_st p0 o9 v9 v10)) := by
  intro p0 o9
  refine R17_Check_L5.partial_correctness p0 o9 _ ?_
  intro R17_Check_L5' ih_R17_Check_L5 v9 v10 o18 h
  refine TL.round (bwp_sound mixed tbOk (lv := R17_Check_lv) _ _ _ ?_)
  refine view (lenMap _ _) rfl ?_
  refine st_test h (fun hb h => ?_) (fun hb h => ?_)
  · refine st_idx (l := o9) (c := cStr) (c' := cStr) h (fun _ => rfl) (fun _ => rfl) (by decide) (fun x21 hi h => ?_)
    refine vrfl ?_
    refine st_test h (fun hb h => ?_) (fun hb h => ?_)
    · exact JP2.b h (Le.tow 1 1 rfl (.cons rfl (.refl _) (.nil)) (.refl _) rfl)
    · refine st_idx (l := o9) (c := cStr) (c' := cStr) h (fun _ => rfl) (fun _ => rfl) (by decide) (fun x22 hi h => ?_)
      refine vrfl ?_
      refine TL.le (τ := R17_Check_L5_st p0 o9 (wr (v9 - (x22.length : Int))) (wr (v10 + 1))) ?_ ((ih_R17_Check_L5 (wr (v9 - (x22.length : Int))) (wr (v10 + 1)) _ h))
      exact Le.tow 1 1 rfl (.cons rfl (.refl _) (.cons rfl (.refl _) (.cons rfl (.refl _) (.nil)))) (.refl _) rfl
  · exact JP2.a h (Le.tow 1 1 rfl (.nil) (.refl _) rfl)
theorem R17_Check_L5_ok : ∀ (p0 : api_Group) (o9 : (List (List UInt8))) (v9 : Int) (v10 : Int) (o18 : Unit ⊕ Unit), R17_Check_L5 p0 o9 v9 v10 = some o18 → TL (0, 0) Try.prog 107 R17_Check_L5_c (JP2 (0, 0) 107 o18 (.exit 8) (R17_Check_L5_x0 p0 o9) .ret (R17_Check_L5_x1 p0 o9)) (R17_Check_L5_st p0 o9 v9 v10) := fun p0 o9 v9 v10 o18 h => (R17_Check_L5_grp p0 o9) v9 v10 o18 h
noncomputable def R17_lists_L1 (p0 : api_Group) (v3 : (List (List api_Pair))) (v4 : Int) : Option ((List (List api_Pair))) :=
  if (decide (v4 < (p0.Alerts.length : Int))) then
    idx p0.Alerts v4 >>= fun x2 =>
    appL 24 v3 [x2.Labels] >>= fun x3 =>
    idx p0.Alerts v4 >>= fun x4 =>
    appL 24 x3 [x4.Notes] >>= fun x5 =>
    R17_lists_L1 p0 x5 (wr (v4 + 1))
  else
    some v3
  partial_fixpoint
set_option maxRecDepth 100000 in
set_option maxHeartbeats 4000000 in
theorem R17_lists_L1_grp : ∀ (p0 : api_Group), (∀ (v3 : (List (List api_Pair))) (v4 : Int) (o1 : (List (List api_Pair))), R17_lists_L1 p0 v3 v4 = some o1 → TL (0, 0) Try.prog 34 R17_lists_L1_c (JP1 (0, 0) 34 o1 (.exit 0) (R17_lists_L1_x0 p0)) (R17_lists_L1_st p0 v3 v4)) := by
  intro p0
  refine R17_lists_L1.partial_correctness p0 _ ?_
  intro R17_lists_L1' ih_R17_lists_L1 v3 v4 o1 h
  refine TL.round (bwp_sound mixed tbOk (lv := R17_lists_lv) _ _ _ ?_)
  refine view (lenMap _ _) rfl ?_
  refine st_test h (fun hb h => ?_) (fun hb h => ?_)
  · refine st_idx (l := p0.Alerts) (c := c_api_Alert) (c' := c_api_Alert) h (fun _ => rfl) (fun _ => rfl) (by decide) (fun x2 hi h => ?_)
    refine st_appo (a := v3) (b := [x2.Labels]) (c := (cSl c_api_Pair)) h (.refl _) (fun _ => rfl) rfl (fun x3 hi h => ?_)
    refine st_idx (l := p0.Alerts) (c := c_api_Alert) (c' := c_api_Alert) h (fun _ => rfl) (fun _ => rfl) (by decide) (fun x4 hi h => ?_)
    refine st_appo (a := x3) (b := [x4.Notes]) (c := (cSl c_api_Pair)) h (.refl _) (fun _ => rfl) rfl (fun x5 hi h => ?_)
    refine TL.le (τ := R17_lists_L1_st p0 x5 (wr (v4 + 1))) ?_ ((ih_R17_lists_L1 x5 (wr (v4 + 1)) _ h))
    exact Le.tow 1 1 rfl (.cons rfl (.refl _) (.cons rfl (.refl _) (.cons rfl (.refl _) (.nil)))) (.refl _) rfl
  · exact JP1.a h (Le.tow 1 1 rfl (.cons rfl (.refl _) (.nil)) (.refl _) rfl)
theorem R17_lists_L1_ok : ∀ (p0 : api_Group) (v3 : (List (List api_Pair))) (v4 : Int) (o1 : (List (List api_Pair))), R17_lists_L1 p0 v3 v4 = some o1 → TL (0, 0) Try.prog 34 R17_lists_L1_c (JP1 (0, 0) 34 o1 (.exit 0) (R17_lists_L1_x0 p0)) (R17_lists_L1_st p0 v3 v4) := fun p0 v3 v4 o1 h => (R17_lists_L1_grp p0) v3 v4 o1 h
noncomputable def R17_lists (p0 : api_Group) : Option ((List (List api_Pair))) :=
  (R17_lists_L1 p0 [p0.Common] 0) >>= fun o1 =>
  some o1
set_option maxRecDepth 100000 in
set_option maxHeartbeats 4000000 in
theorem R17_lists_ok : ∀ (p0 : api_Group) (o : (List (List api_Pair))), R17_lists p0 = some o → PCall Try.prog 77 [.agg [sV p0.Receiver, bV p0.Firing, .sl false (p0.Common.map c_api_Pair), sV p0.Link, .sl false (p0.Alerts.map c_api_Alert)]] (t_R17_lists o) := by
  intro p0 o h
  unfold R17_lists at h
  refine PCall.ofB mixed tbOk R17_lists_lv Try.func77 rfl (by kernel_rfl) (Nat.le_of_ble_eq_true rfl) ?_
  refine st_bind h (fun o1 ho hk => ?_)
  refine Exists.intro (JP1 _ _ o1 (.exit 0) (R17_lists_L1_x0 p0)) (And.intro (T_le (τ := R17_lists_L1_st p0 [p0.Common] 0) ?_ (TL.loop (R17_lists_L1_ok p0 [p0.Common] 0 o1 ho))) (join1 ?_))
  · exact Le.trans (τ := ⟨[(1, .ptr 0 0), (3, .p (.sl true ([p0.Common].map (cSl c_api_Pair)))), (4, .p (iV 0))], ⟨[[.p (sV p0.Receiver), .p (bV p0.Firing), .p (.sl false (p0.Common.map c_api_Pair)), .p (sV p0.Link), .p (.sl false (p0.Alerts.map c_api_Alert))]], []⟩⟩) (Le.tow 1 0 rfl (.cons rfl (.refl _) (.cons rfl (.refl _) (.cons rfl (.refl _) (.nil)))) (.refl _) rfl) ((Le.own 3 66 1 rfl (mapSize fun _ => rfl)).trans (Le.tow 1 1 rfl (.cons rfl (.refl _) (.cons rfl (.refl _) (.cons rfl (.refl _) (.nil)))) (.refl _) rfl))
  have h := hk
  refine st_ret (t := t_R17_lists) h ?_
  exact .refl _
noncomputable def R17_Check (p0 : api_Group) : Option (Int) :=
  if (decide ((p0.Alerts.length : Int) > 64)) then
    some 5
  else
    R17_lists p0 >>= fun x1 =>
    (R17_Check_L1 p0 x1 0) >>= fun o2 =>
    match o2 with
    | .inl y3 =>
      (R17_Check_L2 p0 x1 [p0.Receiver, p0.Link] 0) >>= fun o6 =>
      (R17_Check_L3 p0 x1 o6 0) >>= fun o9 =>
      (R17_Check_L5 p0 o9 65536 0) >>= fun o18 =>
      match o18 with
      | .inl y19 =>
        some 0
      | .inr y20 =>
        some 6
    | .inr y4 =>
      some 5
set_option maxRecDepth 100000 in
set_option maxHeartbeats 4000000 in
theorem R17_Check_ok : ∀ (p0 : api_Group) (o : Int), R17_Check p0 = some o → PCall Try.prog 45 [.agg [sV p0.Receiver, bV p0.Firing, .sl false (p0.Common.map c_api_Pair), sV p0.Link, .sl false (p0.Alerts.map c_api_Alert)]] (t_R17_Check o) := by
  intro p0 o h
  unfold R17_Check at h
  refine PCall.ofB mixed tbOk R17_Check_lv Try.func45 rfl (by kernel_rfl) (Nat.le_of_ble_eq_true rfl) ?_
  refine view (lenMap _ _) rfl ?_
  refine st_test h (fun hb h => ?_) (fun hb h => ?_)
  · refine st_ret (t := t_R17_Check) h ?_
    exact .refl _
  · refine st_call [.agg [sV p0.Receiver, bV p0.Firing, .sl false (p0.Common.map c_api_Pair), sV p0.Link, .sl false (p0.Alerts.map c_api_Alert)]] t_R17_lists h (fun x1 hy => (R17_lists_ok p0 x1 hy)) (fun x1 hy h => ?_)
    refine st_bind h (fun o2 ho hk => ?_)
    refine Exists.intro (JP2 _ _ o2 (.exit 0) (R17_Check_L1_x0 p0 x1) .ret (R17_Check_L1_x1 p0 x1)) (And.intro (T_le (τ := R17_Check_L1_st p0 x1 0) ?_ (TL.loop (R17_Check_L1_ok p0 x1 0 o2 ho))) (join2 (fun y3 hy => ?_) (fun y4 hy => ?_)))
    · exact Le.tow 1 0 rfl (.cons rfl (.refl _) (.cons rfl (.refl _) (.cons rfl (.refl _) (.nil)))) (.refl _) rfl
    · have h := (by rw [hy] at hk; exact hk)
      refine st_bind h (fun o6 ho hk => ?_)
      refine Exists.intro (JP1 _ _ o6 (.exit 2) (R17_Check_L2_x0 p0 x1)) (And.intro (T_le (τ := R17_Check_L2_st p0 x1 [p0.Receiver, p0.Link] 0) ?_ (TL.loop (R17_Check_L2_ok p0 x1 [p0.Receiver, p0.Link] 0 o6 ho))) (join1 ?_))
      · exact Le.trans (τ := ⟨[(1, .ptr 0 0), (3, .p (.sl false (x1.map (cSl c_api_Pair)))), (5, .p (.sl true ([p0.Receiver, p0.Link].map cStr))), (6, .p (iV 0))], ⟨[[.p (sV p0.Receiver), .p (bV p0.Firing), .p (.sl false (p0.Common.map c_api_Pair)), .p (sV p0.Link), .p (.sl false (p0.Alerts.map c_api_Alert))]], []⟩⟩) (Le.tow 1 0 rfl (.cons rfl (.refl _) (.cons rfl (.refl _) (.cons rfl (.refl _) (.cons rfl (.refl _) (.nil))))) (.refl _) rfl) ((Le.own 5 9 1 rfl (mapSize fun _ => rfl)).trans (Le.tow 1 1 rfl (.cons rfl (.refl _) (.cons rfl (.refl _) (.cons rfl (.refl _) (.cons rfl (.refl _) (.nil))))) (.refl _) rfl))
      have h := hk
      refine st_bind h (fun o9 ho hk => ?_)
      refine Exists.intro (JP1 _ _ o9 (.exit 4) (R17_Check_L3_x0 p0 x1)) (And.intro (T_le (τ := R17_Check_L3_st p0 x1 o6 0) ?_ (TL.loop (R17_Check_L3_ok p0 x1 o6 0 o9 ho))) (join1 ?_))
      · exact Le.tow 1 1 rfl (.cons rfl (.refl _) (.cons rfl (.refl _) (.cons rfl (.refl _) (.nil)))) (.refl _) rfl
      have h := hk
      refine st_bind h (fun o18 ho hk => ?_)
      refine Exists.intro (JP2 _ _ o18 (.exit 8) (R17_Check_L5_x0 p0 o9) .ret (R17_Check_L5_x1 p0 o9)) (And.intro (T_le (τ := R17_Check_L5_st p0 o9 65536 0) ?_ (TL.loop (R17_Check_L5_ok p0 o9 65536 0 o18 ho))) (join2 (fun y19 hy => ?_) (fun y20 hy => ?_)))
      · exact Le.tow 1 1 rfl (.cons rfl (.refl _) (.cons rfl (.refl _) (.cons rfl (.refl _) (.nil)))) (.refl _) rfl
      · have h := (by rw [hy] at hk; exact hk)
        refine st_ret (t := t_R17_Check) h ?_
        exact .refl _
      · have h := (by rw [hy] at hk; exact hk)
        refine st_ret (t := t_R17_Check) h ?_
        exact .refl _
    · have h := (by rw [hy] at hk; exact hk)
      refine st_ret (t := t_R17_Check) h ?_
      exact .refl _
noncomputable def R17_Back (p0 : api_Val) : Option (api_Group × Bool) :=
  ( if (p0.K != 6) then
      some true
    else
      R16_Is p0 >>= fun x2 =>
      some (!x2)) >>= fun o1 =>
  if o1 then
    some ((api_Group.mk [] false [] [] []), false)
  else
    idx p0.L 0 >>= fun x3 =>
    idx p0.L 1 >>= fun x4 =>
    idx p0.L 2 >>= fun x5 =>
    R17_row x5 >>= fun x6 =>
    idx p0.L 3 >>= fun x7 =>
    (R17_Back_L1 p0 x3 x4 x6 x7 0 []) >>= fun o8 =>
    R17_Check (api_Group.mk x3.S x4.B x6 x7.S o8) >>= fun x21 =>
    if (x21 != 0) then
      some ((api_Group.mk [] false [] [] []), false)
    else
      some ((api_Group.mk x3.S x4.B x6 x7.S o8), true)
set_option maxRecDepth 100000 in
set_option maxHeartbeats 4000000 in
theorem R17_Back_ok : ∀ (p0 : api_Val) (o : api_Group × Bool), R17_Back p0 = some o → PCall Try.prog 52 [.agg [iV p0.K, sV p0.S, iV p0.N, bV p0.B, .sl false (p0.L.map c_api_Val)]] (t_R17_Back o) := by
  intro p0 o h
  unfold R17_Back at h
  refine PCall.ofB mixed tbOk R17_Back_lv Try.func52 rfl (by kernel_rfl) (Nat.le_of_ble_eq_true rfl) ?_
  refine st_bind h (fun o1 ho hk => ?_)
  refine Exists.intro (JP1 _ _ o1 .normal (R17_Back_J0_0 p0)) (And.intro ?_ (join1 ?_))
  · have h := ho
    refine st_test h (fun hb h => ?_) (fun hb h => ?_)
    · exact JP1.a h (Le.tow 2 0 rfl (.cons rfl (.refl _) (.cons rfl (.refl _) (.cons rfl (.refl _) (.nil)))) (.refl _) rfl)
    · refine st_call [.agg [iV p0.K, sV p0.S, iV p0.N, bV p0.B, .sl false (p0.L.map c_api_Val)]] t_R16_Is h (fun x2 hy => (R16_Is_ok p0 x2 hy)) (fun x2 hy h => ?_)
      exact JP1.a h (Le.tow 2 0 rfl (.cons rfl (.refl _) (.cons rfl (.refl _) (.cons rfl (.refl _) (.nil)))) (.refl _) rfl)
  · have h := hk
    refine st_test h (fun hb h => ?_) (fun hb h => ?_)
    · refine st_ret (t := t_R17_Back) h ?_
      exact .tup (xs := [.agg [sV [], bV false, .sl true [], sV [], .sl true []], bV false]) (ys := [.agg [sV [], bV false, .sl false [], sV [], .sl false []], bV false]) (.cons (.agg' (.cons (.refl _) (.cons (.refl _) (.cons (.not) (.cons (.refl _) (.cons (.not) (.nil))))))) (.cons (.refl _) (.nil)))
    · refine And.intro (by decide +kernel) (And.intro rfl ?_)
      refine st_idx (l := p0.L) (c := c_api_Val) (c' := l_api_Val) h c_api_Val_eq (fun _ => rfl) (by decide) (fun x3 hi h => ?_)
      refine st_idx (l := p0.L) (c := c_api_Val) (c' := l_api_Val) h c_api_Val_eq (fun _ => rfl) (by decide) (fun x4 hi h => ?_)
      refine st_idx (l := p0.L) (c := c_api_Val) (c' := l_api_Val) h c_api_Val_eq (fun _ => rfl) (by decide) (fun x5 hi h => ?_)
      refine st_calld [.agg [iV x5.K, sV x5.S, iV x5.N, bV x5.B, .sl false (x5.L.map c_api_Val)]] t_R17_row h (fun x6 hy => (R17_row_ok x5 x6 hy)) (fun x6 hy h => ?_)
      refine st_idx (l := p0.L) (c := c_api_Val) (c' := l_api_Val) h c_api_Val_eq (fun _ => rfl) (by decide) (fun x7 hi h => ?_)
      refine st_bind h (fun o8 ho hk => ?_)
      refine Exists.intro (JP1 _ _ o8 (.exit 0) (R17_Back_L1_x0 p0 x3 x4 x6 x7)) (And.intro (T_le (τ := R17_Back_L1_st p0 x3 x4 x6 x7 0 []) ?_ (TL.loop (R17_Back_L1_ok p0 x3 x4 x6 x7 0 [] o8 ho))) (join1 ?_))
      · exact (Le.ownH 2 4 71 6 rfl rfl sizeNil).trans (Le.tow 3 1 rfl (.cons rfl (.refl _) (.cons rfl (.refl _) (.cons rfl (.refl _) (.cons rfl (.refl _) (.nil))))) (.refl _) rfl)
      have h := hk
      refine st_call [.agg [sV x3.S, bV x4.B, .sl false (x6.map c_api_Pair), sV x7.S, .sl false (o8.map c_api_Alert)]] t_R17_Check h (fun x21 hy => (R17_Check_ok (api_Group.mk x3.S x4.B x6 x7.S o8) x21 hy)) (fun x21 hy h => ?_)
      refine st_test h (fun hb h => ?_) (fun hb h => ?_)
      · refine st_ret (t := t_R17_Back) h ?_
        exact .tup (xs := [.agg [sV [], bV false, .sl true [], sV [], .sl true []], bV false]) (ys := [.agg [sV [], bV false, .sl false [], sV [], .sl false []], bV false]) (.cons (.agg' (.cons (.refl _) (.cons (.refl _) (.cons (.not) (.cons (.refl _) (.cons (.not) (.nil))))))) (.cons (.refl _) (.nil)))
      · refine st_ret (t := t_R17_Back) h ?_
        exact .refl _
noncomputable def R17_samePairs_L1 (p0 : (List api_Pair)) (p1 : (List api_Pair)) (v5 : Int) : Option (Unit ⊕ Unit) :=
  if (decide (v5 < (p0.length : Int))) then
    ( idx p0 v5 >>= fun x5 =>
      idx p1 v5 >>= fun x6 =>
      if (!(x5.Key == x6.Key)) then
        some true
      else
        idx p0 v5 >>= fun x7 =>
        idx p1 v5 >>= fun x8 =>
        some (!(x7.Val == x8.Val))) >>= fun o4 =>
    if o4 then
      some (.inr ())
    else
      R17_samePairs_L1 p0 p1 (wr (v5 + 1))
  else
    some (.inl ())
  partial_fixpoint
set_option maxRecDepth 100000 in
set_option maxHeartbeats 4000000 in
theorem R17_samePairs_L1_grp : ∀ (p0 : (List api_Pair)) (p1 : (List api_Pair)), (∀ (v5 : Int) (o1 : Unit ⊕ Unit), R17_samePairs_L1 p0 p1 v5 = some o1 → TL (0, 0) Try.prog 41 R17_samePairs_L1_c (JP2 (0, 0) 41 o1 (.exit 0) (R17_samePairs_L1_x0 p0 p1) .ret (R17_samePairs_L1_x1 p0 p1)) (R17_samePairs_L1_st p0 p1 v5)) := by
  intro p0 p1
  refine R17_samePairs_L1.partial_correctness p0 p1 _ ?_
  intro R17_samePairs_L1' ih_R17_samePairs_L1 v5 o1 h
  refine TL.round (bwp_sound mixed tbOk (lv := R17_samePairs_lv) _ _ _ ?_)
  refine view (lenMap _ _) rfl ?_
  refine st_test h (fun hb h => ?_) (fun hb h => ?_)
  · refine st_bind h (fun o4 ho hk => ?_)
    refine Exists.intro (JP1 _ _ o4 .normal (R17_samePairs_J0_0 p0 p1 v5)) (And.intro ?_ (join1 ?_))
    · have h := ho
      refine And.intro (by decide +kernel) (And.intro rfl ?_)
      refine st_idx (l := p0) (c := c_api_Pair) (c' := c_api_Pair) h (fun _ => rfl) (fun _ => rfl) (by decide) (fun x5 hi h => ?_)
      refine st_idx (l := p1) (c := c_api_Pair) (c' := c_api_Pair) h (fun _ => rfl) (fun _ => rfl) (by decide) (fun x6 hi h => ?_)
      refine st_test h (fun hb h => ?_) (fun hb h => ?_)
      · exact JP1.a h (Le.tow 0 0 rfl (.cons rfl (.refl _) (.cons rfl (.refl _) (.cons rfl (.refl _) (.cons rfl (.refl _) (.nil))))) (.refl _) rfl)
      · refine st_idx (l := p0) (c := c_api_Pair) (c' := c_api_Pair) h (fun _ => rfl) (fun _ => rfl) (by decide) (fun x7 hi h => ?_)
        refine st_idx (l := p1) (c := c_api_Pair) (c' := c_api_Pair) h (fun _ => rfl) (fun _ => rfl) (by decide) (fun x8 hi h => ?_)
        exact JP1.a h (Le.tow 0 0 rfl (.cons rfl (.refl _) (.cons rfl (.refl _) (.cons rfl (.refl _) (.cons rfl (.refl _) (.nil))))) (.refl _) rfl)
    · have h := hk
      refine st_test h (fun hb h => ?_) (fun hb h => ?_)
      · exact JP2.b h (Le.tow 0 0 rfl (.cons rfl (.refl _) (.nil)) (.refl _) rfl)
      · refine TL.le (τ := R17_samePairs_L1_st p0 p1 (wr (v5 + 1))) ?_ ((ih_R17_samePairs_L1 (wr (v5 + 1)) _ h))
        exact Le.tow 0 0 rfl (.cons rfl (.refl _) (.cons rfl (.refl _) (.cons rfl (.refl _) (.nil)))) (.refl _) rfl
  · exact JP2.a h (Le.tow 0 0 rfl (.nil) (.refl _) rfl)
theorem R17_samePairs_L1_ok : ∀ (p0 : (List api_Pair)) (p1 : (List api_Pair)) (v5 : Int) (o1 : Unit ⊕ Unit), R17_samePairs_L1 p0 p1 v5 = some o1 → TL (0, 0) Try.prog 41 R17_samePairs_L1_c (JP2 (0, 0) 41 o1 (.exit 0) (R17_samePairs_L1_x0 p0 p1) .ret (R17_samePairs_L1_x1 p0 p1)) (R17_samePairs_L1_st p0 p1 v5) := fun p0 p1 v5 o1 h => (R17_samePairs_L1_grp p0 p1) v5 o1 h
noncomputable def R17_samePairs (p0 : (List api_Pair)) (p1 : (List api_Pair)) : Option (Bool) :=
  if ((p0.length : Int) != (p1.length : Int)) then
    some false
  else
    (R17_samePairs_L1 p0 p1 0) >>= fun o1 =>
    match o1 with
    | .inl y2 =>
      some true
    | .inr y3 =>
      some false
set_option maxRecDepth 100000 in
set_option maxHeartbeats 4000000 in
theorem R17_samePairs_ok : ∀ (p0 : (List api_Pair)) (p1 : (List api_Pair)) (o : Bool), R17_samePairs p0 p1 = some o → PCall Try.prog 86 [.sl false (p0.map c_api_Pair), .sl false (p1.map c_api_Pair)] (t_R17_samePairs o) := by
  intro p0 p1 o h
  unfold R17_samePairs at h
  refine PCall.ofB mixed tbOk R17_samePairs_lv Try.func86 rfl (by kernel_rfl) (Nat.le_of_ble_eq_true rfl) ?_
  refine view (lenMap _ _) rfl ?_
  refine view (lenMap _ _) rfl ?_
  refine st_test h (fun hb h => ?_) (fun hb h => ?_)
  · refine st_ret (t := t_R17_samePairs) h ?_
    exact .refl _
  · refine st_bind h (fun o1 ho hk => ?_)
    refine Exists.intro (JP2 _ _ o1 (.exit 0) (R17_samePairs_L1_x0 p0 p1) .ret (R17_samePairs_L1_x1 p0 p1)) (And.intro (T_le (τ := R17_samePairs_L1_st p0 p1 0) ?_ (TL.loop (R17_samePairs_L1_ok p0 p1 0 o1 ho))) (join2 (fun y2 hy => ?_) (fun y3 hy => ?_)))
    · exact Le.tow 0 0 rfl (.cons rfl (.refl _) (.cons rfl (.refl _) (.cons rfl (.refl _) (.nil)))) (.refl _) rfl
    · have h := (by rw [hy] at hk; exact hk)
      refine st_ret (t := t_R17_samePairs) h ?_
      exact .refl _
    · have h := (by rw [hy] at hk; exact hk)
      refine st_ret (t := t_R17_samePairs) h ?_
      exact .refl _
noncomputable def R17_Same_L1 (p0 : api_Group) (p1 : api_Group) (v5 : Int) : Option (Unit ⊕ Unit) :=
  if (decide (v5 < (p0.Alerts.length : Int))) then
    ( idx p0.Alerts v5 >>= fun x7 =>
      idx p1.Alerts v5 >>= fun x8 =>
      some (x7.Firing, x7.Starts, x7.Value, x7.Labels, x7.Notes, x7.Link, x8.Firing, x8.Starts, x8.Value, x8.Labels, x8.Notes, x8.Link)) >>= fun o6 =>
    ( if (o6.1 != o6.2.2.2.2.2.2.1) then
        some true
      else
        if (o6.2.1 != o6.2.2.2.2.2.2.2.1) then
          some true
        else
          if (o6.2.2.1 != o6.2.2.2.2.2.2.2.2.1) then
            some true
          else
            if (!(o6.2.2.2.2.2.1 == o6.2.2.2.2.2.2.2.2.2.2.2)) then
              some true
            else
              R17_samePairs o6.2.2.2.1 o6.2.2.2.2.2.2.2.2.2.1 >>= fun x10 =>
              if (!x10) then
                some true
              else
                R17_samePairs o6.2.2.2.2.1 o6.2.2.2.2.2.2.2.2.2.2.1 >>= fun x11 =>
                some (!x11)) >>= fun o9 =>
    if o9 then
      some (.inr ())
    else
      R17_Same_L1 p0 p1 (wr (v5 + 1))
  else
    some (.inl ())
  partial_fixpoint
set_option maxRecDepth 100000 in
set_option maxHeartbeats 4000000 in
theorem R17_Same_L1_grp : ∀ (p0 : api_Group) (p1 : api_Group), (∀ (v5 : Int) (o3 : Unit ⊕ Unit), R17_Same_L1 p0 p1 v5 = some o3 → TL (0, 0) Try.prog 103 R17_Same_L1_c (JP2 (0, 0) 103 o3 (.exit 0) (R17_Same_L1_x0 p0 p1) .ret (R17_Same_L1_x1 p0 p1)) (R17_Same_L1_st p0 p1 v5)) := by
  intro p0 p1
  refine R17_Same_L1.partial_correctness p0 p1 _ ?_
  intro R17_Same_L1' ih_R17_Same_L1 v5 o3 h
  refine TL.round (bwp_sound mixed tbOk (lv := R17_Same_lv) _ _ _ ?_)
  refine view (lenMap _ _) rfl ?_
  refine st_test h (fun hb h => ?_) (fun hb h => ?_)
  · refine st_bind h (fun o6 ho hk => ?_)
    refine Exists.intro (JP1 _ _ o6 .normal (R17_Same_J1_0 p0 p1 v5)) (And.intro ?_ (join1 ?_))
    · have h := ho
      refine And.intro (by decide +kernel) (And.intro (by decide +kernel) (And.intro (by decide +kernel) (And.intro rfl ?_)))
      refine st_idx (l := p0.Alerts) (c := c_api_Alert) (c' := c_api_Alert) h (fun _ => rfl) (fun _ => rfl) (by decide) (fun x7 hi h => ?_)
      refine st_idx (l := p1.Alerts) (c := c_api_Alert) (c' := c_api_Alert) h (fun _ => rfl) (fun _ => rfl) (by decide) (fun x8 hi h => ?_)
      refine And.intro (Nat.le_of_ble_eq_true rfl) (And.intro ?_ ?_)
      · exact JP1.a h (Le.tow 4 0 rfl (.cons rfl (.refl _) (.cons rfl (.refl _) (.cons rfl (.refl _) (.cons rfl (.refl _) (.cons rfl (.refl _) (.nil)))))) (.refl _) rfl)
      · exact JP1.a h (Le.trans (τ := ⟨[(2, .ptr 0 0), (3, .ptr 1 0), (5, .p (iV v5)), (6, .ptr 2 0), (7, .ptr 3 0)], ⟨[[.p (sV p0.Receiver), .p (bV p0.Firing), .p (.sl false (p0.Common.map c_api_Pair)), .p (sV p0.Link), .p (.sl false (p0.Alerts.map c_api_Alert))], [.p (sV p1.Receiver), .p (bV p1.Firing), .p (.sl false (p1.Common.map c_api_Pair)), .p (sV p1.Link), .p (.sl false (p1.Alerts.map c_api_Alert))], [.p (bV x7.Firing), .p (iV x7.Starts), .p (iV x7.Value), .p (.sl false (x7.Labels.map c_api_Pair)), .p (.sl false (x7.Notes.map c_api_Pair)), .p (sV x7.Link)], [.p (bV x8.Firing), .p (iV x8.Starts), .p (iV x8.Value), .p (.sl false (x8.Labels.map c_api_Pair)), .p (.sl false (x8.Notes.map c_api_Pair)), .p (sV x8.Link)]], []⟩⟩) (Le.perm [0, 1, 3, 2] rfl rfl rfl) (Le.tow 4 0 rfl (.cons rfl (.refl _) (.cons rfl (.refl _) (.cons rfl (.refl _) (.cons rfl (.refl _) (.cons rfl (.refl _) (.nil)))))) (.refl _) rfl))
    · have h := hk
      refine st_bind h (fun o9 ho hk => ?_)
      refine Exists.intro (JP1 _ _ o9 .normal (R17_Same_J2_0 p0 p1 v5 o6)) (And.intro ?_ (join1 ?_))
      · have h := ho
        refine st_test h (fun hb h => ?_) (fun hb h => ?_)
        · refine bT ?_
          refine bT ?_
          refine bT ?_
          refine bT ?_
          exact JP1.a h (Le.tow 4 0 rfl (.cons rfl (.refl _) (.cons rfl (.refl _) (.cons rfl (.refl _) (.cons rfl (.refl _) (.nil))))) (.refl _) rfl)
        · refine st_test h (fun hb h => ?_) (fun hb h => ?_)
          · refine bT ?_
            refine bT ?_
            refine bT ?_
            exact JP1.a h (Le.tow 4 0 rfl (.cons rfl (.refl _) (.cons rfl (.refl _) (.cons rfl (.refl _) (.cons rfl (.refl _) (.nil))))) (.refl _) rfl)
          · refine st_test h (fun hb h => ?_) (fun hb h => ?_)
            · refine bT ?_
              refine bT ?_
              exact JP1.a h (Le.tow 4 0 rfl (.cons rfl (.refl _) (.cons rfl (.refl _) (.cons rfl (.refl _) (.cons rfl (.refl _) (.nil))))) (.refl _) rfl)
            · refine st_test h (fun hb h => ?_) (fun hb h => ?_)
              · refine bT ?_
                exact JP1.a h (Le.tow 4 0 rfl (.cons rfl (.refl _) (.cons rfl (.refl _) (.cons rfl (.refl _) (.cons rfl (.refl _) (.nil))))) (.refl _) rfl)
              · refine st_call [.sl false (o6.2.2.2.1.map c_api_Pair), .sl false (o6.2.2.2.2.2.2.2.2.2.1.map c_api_Pair)] t_R17_samePairs h (fun x10 hy => (R17_samePairs_ok o6.2.2.2.1 o6.2.2.2.2.2.2.2.2.2.1 x10 hy)) (fun x10 hy h => ?_)
                refine st_test h (fun hb h => ?_) (fun hb h => ?_)
                · exact JP1.a h (Le.tow 4 0 rfl (.cons rfl (.refl _) (.cons rfl (.refl _) (.cons rfl (.refl _) (.cons rfl (.refl _) (.nil))))) (.refl _) rfl)
                · refine st_call [.sl false (o6.2.2.2.2.1.map c_api_Pair), .sl false (o6.2.2.2.2.2.2.2.2.2.2.1.map c_api_Pair)] t_R17_samePairs h (fun x11 hy => (R17_samePairs_ok o6.2.2.2.2.1 o6.2.2.2.2.2.2.2.2.2.2.1 x11 hy)) (fun x11 hy h => ?_)
                  exact JP1.a h (Le.tow 4 0 rfl (.cons rfl (.refl _) (.cons rfl (.refl _) (.cons rfl (.refl _) (.cons rfl (.refl _) (.nil))))) (.refl _) rfl)
      · have h := hk
        refine st_test h (fun hb h => ?_) (fun hb h => ?_)
        · exact JP2.b h (Le.tow 2 0 rfl (.cons rfl (.refl _) (.nil)) (.refl _) rfl)
        · refine TL.le (τ := R17_Same_L1_st p0 p1 (wr (v5 + 1))) ?_ ((ih_R17_Same_L1 (wr (v5 + 1)) _ h))
          exact Le.tow 2 0 rfl (.cons rfl (.refl _) (.cons rfl (.refl _) (.cons rfl (.refl _) (.nil)))) (.refl _) rfl
  · exact JP2.a h (Le.tow 2 0 rfl (.nil) (.refl _) rfl)
theorem R17_Same_L1_ok : ∀ (p0 : api_Group) (p1 : api_Group) (v5 : Int) (o3 : Unit ⊕ Unit), R17_Same_L1 p0 p1 v5 = some o3 → TL (0, 0) Try.prog 103 R17_Same_L1_c (JP2 (0, 0) 103 o3 (.exit 0) (R17_Same_L1_x0 p0 p1) .ret (R17_Same_L1_x1 p0 p1)) (R17_Same_L1_st p0 p1 v5) := fun p0 p1 v5 o3 h => (R17_Same_L1_grp p0 p1) v5 o3 h
noncomputable def R17_Same (p0 : api_Group) (p1 : api_Group) : Option (Bool) :=
  ( if (!(p0.Receiver == p1.Receiver)) then
      some true
    else
      if (p0.Firing != p1.Firing) then
        some true
      else
        if (!(p0.Link == p1.Link)) then
          some true
        else
          R17_samePairs p0.Common p1.Common >>= fun x2 =>
          if (!x2) then
            some true
          else
            some ((p0.Alerts.length : Int) != (p1.Alerts.length : Int))) >>= fun o1 =>
  if o1 then
    some false
  else
    (R17_Same_L1 p0 p1 0) >>= fun o3 =>
    match o3 with
    | .inl y4 =>
      some true
    | .inr y5 =>
      some false
set_option maxRecDepth 100000 in
set_option maxHeartbeats 4000000 in
theorem R17_Same_ok : ∀ (p0 : api_Group) (p1 : api_Group) (o : Bool), R17_Same p0 p1 = some o → PCall Try.prog 51 [.agg [sV p0.Receiver, bV p0.Firing, .sl false (p0.Common.map c_api_Pair), sV p0.Link, .sl false (p0.Alerts.map c_api_Alert)], .agg [sV p1.Receiver, bV p1.Firing, .sl false (p1.Common.map c_api_Pair), sV p1.Link, .sl false (p1.Alerts.map c_api_Alert)]] (t_R17_Same o) := by
  intro p0 p1 o h
  unfold R17_Same at h
  refine PCall.ofB mixed tbOk R17_Same_lv Try.func51 rfl (by kernel_rfl) (Nat.le_of_ble_eq_true rfl) ?_
  refine st_bind h (fun o1 ho hk => ?_)
  refine Exists.intro (JP1 _ _ o1 .normal (R17_Same_J0_0 p0 p1)) (And.intro ?_ (join1 ?_))
  · have h := ho
    refine st_test h (fun hb h => ?_) (fun hb h => ?_)
    · refine bT ?_
      refine bT ?_
      refine bT ?_
      exact JP1.a h (Le.tow 2 0 rfl (.cons rfl (.refl _) (.cons rfl (.refl _) (.cons rfl (.refl _) (.nil)))) (.refl _) rfl)
    · refine st_test h (fun hb h => ?_) (fun hb h => ?_)
      · refine bT ?_
        refine bT ?_
        exact JP1.a h (Le.tow 2 0 rfl (.cons rfl (.refl _) (.cons rfl (.refl _) (.cons rfl (.refl _) (.nil)))) (.refl _) rfl)
      · refine st_test h (fun hb h => ?_) (fun hb h => ?_)
        · refine bT ?_
          exact JP1.a h (Le.tow 2 0 rfl (.cons rfl (.refl _) (.cons rfl (.refl _) (.cons rfl (.refl _) (.nil)))) (.refl _) rfl)
        · refine st_call [.sl false (p0.Common.map c_api_Pair), .sl false (p1.Common.map c_api_Pair)] t_R17_samePairs h (fun x2 hy => (R17_samePairs_ok p0.Common p1.Common x2 hy)) (fun x2 hy h => ?_)
          refine st_test h (fun hb h => ?_) (fun hb h => ?_)
          · exact JP1.a h (Le.tow 2 0 rfl (.cons rfl (.refl _) (.cons rfl (.refl _) (.cons rfl (.refl _) (.nil)))) (.refl _) rfl)
          · refine view (lenMap _ _) rfl ?_
            refine view (lenMap _ _) rfl ?_
            exact JP1.a h (Le.tow 2 0 rfl (.cons rfl (.refl _) (.cons rfl (.refl _) (.cons rfl (.refl _) (.nil)))) (.refl _) rfl)
  · have h := hk
    refine st_test h (fun hb h => ?_) (fun hb h => ?_)
    · refine st_ret (t := t_R17_Same) h ?_
      exact .refl _
    · refine st_bind h (fun o3 ho hk => ?_)
      refine Exists.intro (JP2 _ _ o3 (.exit 0) (R17_Same_L1_x0 p0 p1) .ret (R17_Same_L1_x1 p0 p1)) (And.intro (T_le (τ := R17_Same_L1_st p0 p1 0) ?_ (TL.loop (R17_Same_L1_ok p0 p1 0 o3 ho))) (join2 (fun y4 hy => ?_) (fun y5 hy => ?_)))
      · exact Le.tow 2 0 rfl (.cons rfl (.refl _) (.cons rfl (.refl _) (.cons rfl (.refl _) (.nil)))) (.refl _) rfl
      · have h := (by rw [hy] at hk; exact hk)
        refine st_ret (t := t_R17_Same) h ?_
        exact .refl _
      · have h := (by rw [hy] at hk; exact hk)
        refine st_ret (t := t_R17_Same) h ?_
        exact .refl _
noncomputable def R17_number (p0 : Int) : Option (api_Val) :=
  some (api_Val.mk 2 [] p0 false [])
set_option maxRecDepth 100000 in
set_option maxHeartbeats 4000000 in
theorem R17_number_ok : ∀ (p0 : Int) (o : api_Val), R17_number p0 = some o → PCall Try.prog 83 [iV p0] (t_R17_number o) := by
  intro p0 o h
  unfold R17_number at h
  refine PCall.ofB mixed tbOk R17_number_lv Try.func83 rfl (by kernel_rfl) (Nat.le_of_ble_eq_true rfl) ?_
  refine st_ret (t := t_R17_number) h ?_
  exact .p (.agg' (.cons (.refl _) (.cons (.refl _) (.cons (.refl _) (.cons (.refl _) (.cons (.not) (.nil)))))))
noncomputable def R17_pairs_L1 (p0 : (List api_Pair)) (v4 : Int) (h1_4 : (List api_Val)) : Option ((List api_Val)) :=
  if (decide (v4 < (p0.length : Int))) then
    idx p0 v4 >>= fun x2 =>
    idx p0 v4 >>= fun x3 =>
    R16_Pair x2.Key x3.Val >>= fun x4 =>
    appL 64 h1_4 [x4] >>= fun x5 =>
    R17_pairs_L1 p0 (wr (v4 + 1)) x5
  else
    some h1_4
  partial_fixpoint
set_option maxRecDepth 100000 in
set_option maxHeartbeats 4000000 in
theorem R17_pairs_L1_grp : ∀ (p0 : (List api_Pair)), (∀ (v4 : Int) (h1_4 : (List api_Val)) (o1 : (List api_Val)), R17_pairs_L1 p0 v4 h1_4 = some o1 → TL (0, 0) Try.prog 29 R17_pairs_L1_c (JP1 (0, 0) 29 o1 (.exit 0) (R17_pairs_L1_x0 p0)) (R17_pairs_L1_st p0 v4 h1_4)) := by
  intro p0
  refine R17_pairs_L1.partial_correctness p0 _ ?_
  intro R17_pairs_L1' ih_R17_pairs_L1 v4 h1_4 o1 h
  refine TL.round (bwp_sound mixed tbOk (lv := R17_pairs_lv) _ _ _ ?_)
  refine view (lenMap _ _) rfl ?_
  refine st_test h (fun hb h => ?_) (fun hb h => ?_)
  · refine And.intro (by decide +kernel) (And.intro rfl ?_)
    refine st_idx (l := p0) (c := c_api_Pair) (c' := c_api_Pair) h (fun _ => rfl) (fun _ => rfl) (by decide) (fun x2 hi h => ?_)
    refine st_idx (l := p0) (c := c_api_Pair) (c' := c_api_Pair) h (fun _ => rfl) (fun _ => rfl) (by decide) (fun x3 hi h => ?_)
    refine st_calld [sV x2.Key, sV x3.Val] t_R16_Pair h (fun x4 hy => (R16_Pair_ok x2.Key x3.Val x4 hy)) (fun x4 hy h => ?_)
    refine st_appo (a := h1_4) (b := [x4]) (c := c_api_Val) h (.cons (.ceq (c_api_Val_eq _) (.refl _)) (.nil)) (fun x => by rw [c_api_Val_eq]; rfl) rfl (fun x5 hi h => ?_)
    refine TL.le (τ := R17_pairs_L1_st p0 (wr (v4 + 1)) x5) ?_ ((ih_R17_pairs_L1 (wr (v4 + 1)) x5 _ h))
    exact Le.tow 2 1 rfl (.cons rfl (.refl _) (.cons rfl (.refl _) (.cons rfl (.refl _) (.cons rfl (.refl _) (.nil))))) (.refl _) rfl
  · exact JP1.a h (Le.tow 2 1 rfl (.cons rfl (.refl _) (.cons rfl (.refl _) (.nil))) (.refl _) rfl)
theorem R17_pairs_L1_ok : ∀ (p0 : (List api_Pair)) (v4 : Int) (h1_4 : (List api_Val)) (o1 : (List api_Val)), R17_pairs_L1 p0 v4 h1_4 = some o1 → TL (0, 0) Try.prog 29 R17_pairs_L1_c (JP1 (0, 0) 29 o1 (.exit 0) (R17_pairs_L1_x0 p0)) (R17_pairs_L1_st p0 v4 h1_4) := fun p0 v4 h1_4 o1 h => (R17_pairs_L1_grp p0) v4 h1_4 o1 h
noncomputable def R17_pairs (p0 : (List api_Pair)) : Option (api_Val) :=
  (R17_pairs_L1 p0 0 []) >>= fun o1 =>
  some (api_Val.mk 8 [] 0 false o1)
set_option maxRecDepth 100000 in
set_option maxHeartbeats 4000000 in
theorem R17_pairs_ok : ∀ (p0 : (List api_Pair)) (o : api_Val), R17_pairs p0 = some o → PCall Try.prog 84 [.sl false (p0.map c_api_Pair)] (t_R17_pairs o) := by
  intro p0 o h
  unfold R17_pairs at h
  refine PCall.ofB mixed tbOk R17_pairs_lv Try.func84 rfl (by kernel_rfl) (Nat.le_of_ble_eq_true rfl) ?_
  refine st_bind h (fun o1 ho hk => ?_)
  refine Exists.intro (JP1 _ _ o1 (.exit 0) (R17_pairs_L1_x0 p0)) (And.intro (T_le (τ := R17_pairs_L1_st p0 0 []) ?_ (TL.loop (R17_pairs_L1_ok p0 0 [] o1 ho))) (join1 ?_))
  · exact (Le.ownH 1 4 27 5 rfl rfl sizeNil).trans (Le.tow 2 1 rfl (.cons rfl (.refl _) (.cons rfl (.refl _) (.cons rfl (.refl _) (.cons rfl (.refl _) (.nil))))) (.refl _) rfl)
  have h := hk
  refine st_ret (t := t_R17_pairs) h ?_
  exact .refl _
noncomputable def R17_truth (p0 : Bool) : Option (api_Val) :=
  some (api_Val.mk 3 [] 0 p0 [])
set_option maxRecDepth 100000 in
set_option maxHeartbeats 4000000 in
theorem R17_truth_ok : ∀ (p0 : Bool) (o : api_Val), R17_truth p0 = some o → PCall Try.prog 82 [bV p0] (t_R17_truth o) := by
  intro p0 o h
  unfold R17_truth at h
  refine PCall.ofB mixed tbOk R17_truth_lv Try.func82 rfl (by kernel_rfl) (Nat.le_of_ble_eq_true rfl) ?_
  refine st_ret (t := t_R17_truth) h ?_
  exact .p (.agg' (.cons (.refl _) (.cons (.refl _) (.cons (.refl _) (.cons (.refl _) (.cons (.not) (.nil)))))))
noncomputable def R17_Val_L1 (p0 : api_Group) (v6 : Int) (h2_4 : (List api_Val)) : Option ((List api_Val)) :=
  if (decide (v6 < (p0.Alerts.length : Int))) then
    idx p0.Alerts v6 >>= fun x3 =>
    R17_truth x3.Firing >>= fun x4 =>
    R17_number x3.Starts >>= fun x5 =>
    R17_number x3.Value >>= fun x6 =>
    R17_pairs x3.Labels >>= fun x7 =>
    R17_pairs x3.Notes >>= fun x8 =>
    R16_Text x3.Link >>= fun x9 =>
    appL 64 h2_4 ([(api_Val.mk 5 [] 0 false [x4, x5, x6, x7, x8, x9])]) >>= fun x10 =>
    R17_Val_L1 p0 (wr (v6 + 1)) x10
  else
    some h2_4
  partial_fixpoint
set_option maxRecDepth 100000 in
set_option maxHeartbeats 4000000 in
theorem R17_Val_L1_grp : ∀ (p0 : api_Group), (∀ (v6 : Int) (h2_4 : (List api_Val)) (o2 : (List api_Val)), R17_Val_L1 p0 v6 h2_4 = some o2 → TL (0, 0) Try.prog 67 R17_Val_L1_c (JP1 (0, 0) 67 o2 (.exit 0) (R17_Val_L1_x0 p0)) (R17_Val_L1_st p0 v6 h2_4)) := by
  intro p0
  refine R17_Val_L1.partial_correctness p0 _ ?_
  intro R17_Val_L1' ih_R17_Val_L1 v6 h2_4 o2 h
  refine TL.round (bwp_sound mixed tbOk (lv := R17_Val_lv) _ _ _ ?_)
  refine view (lenMap _ _) rfl ?_
  refine st_test h (fun hb h => ?_) (fun hb h => ?_)
  · refine st_idx (l := p0.Alerts) (c := c_api_Alert) (c' := c_api_Alert) h (fun _ => rfl) (fun _ => rfl) (by decide) (fun x3 hi h => ?_)
    refine And.intro (by decide +kernel) (And.intro rfl ?_)
    refine st_calld [bV x3.Firing] t_R17_truth h (fun x4 hy => (R17_truth_ok x3.Firing x4 hy)) (fun x4 hy h => ?_)
    refine st_calld [iV x3.Starts] t_R17_number h (fun x5 hy => (R17_number_ok x3.Starts x5 hy)) (fun x5 hy h => ?_)
    refine st_calld [iV x3.Value] t_R17_number h (fun x6 hy => (R17_number_ok x3.Value x6 hy)) (fun x6 hy h => ?_)
    refine st_calld [.sl false (x3.Labels.map c_api_Pair)] t_R17_pairs h (fun x7 hy => (R17_pairs_ok x3.Labels x7 hy)) (fun x7 hy h => ?_)
    refine st_calld [.sl false (x3.Notes.map c_api_Pair)] t_R17_pairs h (fun x8 hy => (R17_pairs_ok x3.Notes x8 hy)) (fun x8 hy h => ?_)
    refine st_calld [sV x3.Link] t_R16_Text h (fun x9 hy => (R16_Text_ok x3.Link x9 hy)) (fun x9 hy h => ?_)
    refine st_appo (a := h2_4) (b := [(api_Val.mk 5 [] 0 false [x4, x5, x6, x7, x8, x9])]) (c := c_api_Val) h (.cons (.ceq (c_api_Val_eq _) (.cons (.refl _) (.cons (.refl _) (.cons (.refl _) (.cons (.refl _) (.cons (.no (.cons (.ceq (c_api_Val_eq _) (.refl _)) (.cons (.ceq (c_api_Val_eq _) (.refl _)) (.cons (.ceq (c_api_Val_eq _) (.refl _)) (.cons (.ceq (c_api_Val_eq _) (.refl _)) (.cons (.ceq (c_api_Val_eq _) (.refl _)) (.cons (.ceq (c_api_Val_eq _) (.refl _)) (.nil)))))))) (.nil))))))) (.nil)) (fun x => by rw [c_api_Val_eq]; rfl) rfl (fun x10 hi h => ?_)
    refine TL.le (τ := R17_Val_L1_st p0 (wr (v6 + 1)) x10) ?_ ((ih_R17_Val_L1 (wr (v6 + 1)) x10 _ h))
    exact Le.tow 3 1 rfl (.cons rfl (.refl _) (.cons rfl (.refl _) (.cons rfl (.refl _) (.cons rfl (.refl _) (.nil))))) (.refl _) rfl
  · exact JP1.a h (Le.tow 3 1 rfl (.cons rfl (.refl _) (.cons rfl (.refl _) (.cons rfl (.refl _) (.nil)))) (.refl _) rfl)
theorem R17_Val_L1_ok : ∀ (p0 : api_Group) (v6 : Int) (h2_4 : (List api_Val)) (o2 : (List api_Val)), R17_Val_L1 p0 v6 h2_4 = some o2 → TL (0, 0) Try.prog 67 R17_Val_L1_c (JP1 (0, 0) 67 o2 (.exit 0) (R17_Val_L1_x0 p0)) (R17_Val_L1_st p0 v6 h2_4) := fun p0 v6 h2_4 o2 h => (R17_Val_L1_grp p0) v6 h2_4 o2 h
noncomputable def R17_Val (p0 : api_Group) : Option (api_Val × Int) :=
  R17_Check p0 >>= fun x1 =>
  if (x1 != 0) then
    some ((api_Val.mk 0 [] 0 false []), x1)
  else
    (R17_Val_L1 p0 0 []) >>= fun o2 =>
    R16_Text p0.Receiver >>= fun x11 =>
    R17_truth p0.Firing >>= fun x12 =>
    R17_pairs p0.Common >>= fun x13 =>
    R16_Text p0.Link >>= fun x14 =>
    some ((api_Val.mk 6 [] 0 false ([x11, x12, x13, x14, (api_Val.mk 9 [] 0 false o2)])), 0)
set_option maxRecDepth 100000 in
set_option maxHeartbeats 4000000 in
theorem R17_Val_ok : ∀ (p0 : api_Group) (o : api_Val × Int), R17_Val p0 = some o → PCall Try.prog 49 [.agg [sV p0.Receiver, bV p0.Firing, .sl false (p0.Common.map c_api_Pair), sV p0.Link, .sl false (p0.Alerts.map c_api_Alert)]] (t_R17_Val o) := by
  intro p0 o h
  unfold R17_Val at h
  refine PCall.ofB mixed tbOk R17_Val_lv Try.func49 rfl (by kernel_rfl) (Nat.le_of_ble_eq_true rfl) ?_
  refine st_call [.agg [sV p0.Receiver, bV p0.Firing, .sl false (p0.Common.map c_api_Pair), sV p0.Link, .sl false (p0.Alerts.map c_api_Alert)]] t_R17_Check h (fun x1 hy => (R17_Check_ok p0 x1 hy)) (fun x1 hy h => ?_)
  refine st_test h (fun hb h => ?_) (fun hb h => ?_)
  · refine st_ret (t := t_R17_Val) h ?_
    exact .tup (xs := [.agg [iV 0, sV [], iV 0, bV false, .sl true []], iV x1]) (ys := [.agg [iV 0, sV [], iV 0, bV false, .sl false []], iV x1]) (.cons (.agg' (.cons (.refl _) (.cons (.refl _) (.cons (.refl _) (.cons (.refl _) (.cons (.not) (.nil))))))) (.cons (.refl _) (.nil)))
  · refine st_bind h (fun o2 ho hk => ?_)
    refine Exists.intro (JP1 _ _ o2 (.exit 0) (R17_Val_L1_x0 p0)) (And.intro (T_le (τ := R17_Val_L1_st p0 0 []) ?_ (TL.loop (R17_Val_L1_ok p0 0 [] o2 ho))) (join1 ?_))
    · exact (Le.ownH 2 4 27 5 rfl rfl sizeNil).trans (Le.tow 3 1 rfl (.cons rfl (.refl _) (.cons rfl (.refl _) (.cons rfl (.refl _) (.cons rfl (.refl _) (.nil))))) (.refl _) rfl)
    have h := hk
    refine And.intro (by decide +kernel) (And.intro rfl ?_)
    refine st_calld [sV p0.Receiver] t_R16_Text h (fun x11 hy => (R16_Text_ok p0.Receiver x11 hy)) (fun x11 hy h => ?_)
    refine st_calld [bV p0.Firing] t_R17_truth h (fun x12 hy => (R17_truth_ok p0.Firing x12 hy)) (fun x12 hy h => ?_)
    refine st_calld [.sl false (p0.Common.map c_api_Pair)] t_R17_pairs h (fun x13 hy => (R17_pairs_ok p0.Common x13 hy)) (fun x13 hy h => ?_)
    refine st_calld [sV p0.Link] t_R16_Text h (fun x14 hy => (R16_Text_ok p0.Link x14 hy)) (fun x14 hy h => ?_)
    refine st_ret (t := t_R17_Val) h ?_
    exact .tup (xs := [.agg [iV 6, sV [], iV 0, bV false, .sl true [[iV x11.K, sV x11.S, iV x11.N, bV x11.B, .sl false (x11.L.map c_api_Val)], [iV x12.K, sV x12.S, iV x12.N, bV x12.B, .sl false (x12.L.map c_api_Val)], [iV x13.K, sV x13.S, iV x13.N, bV x13.B, .sl false (x13.L.map c_api_Val)], [iV x14.K, sV x14.S, iV x14.N, bV x14.B, .sl false (x14.L.map c_api_Val)], [iV 9, sV [], iV 0, bV false, .sl false (o2.map c_api_Val)]]], iV 0]) (ys := [.agg [iV 6, sV [], iV 0, bV false, .sl false (([x11, x12, x13, x14, (api_Val.mk 9 [] 0 false o2)]).map c_api_Val)], iV 0]) (.cons (.agg' (.cons (.refl _) (.cons (.refl _) (.cons (.refl _) (.cons (.refl _) (.cons (.no (.cons (.ceq (c_api_Val_eq _) (.refl _)) (.cons (.ceq (c_api_Val_eq _) (.refl _)) (.cons (.ceq (c_api_Val_eq _) (.refl _)) (.cons (.ceq (c_api_Val_eq _) (.refl _)) (.cons (.ceq (c_api_Val_eq _) (.refl _)) (.nil))))))) (.nil))))))) (.cons (.refl _) (.nil)))
noncomputable def alert_row_L1 (p0 : api_Val) (v3 : (List api_Pair)) (v9 : Int) : Option ((List api_Pair)) :=
  if (decide (v9 < (p0.L.length : Int))) then
    idx p0.L v9 >>= fun x2 =>
    idx x2.L 0 >>= fun x3 =>
    idx x2.L 1 >>= fun x4 =>
    appL 32 v3 [(api_Pair.mk x3.S x4.S)] >>= fun x5 =>
    alert_row_L1 p0 x5 (wr (v9 + 1))
  else
    some v3
  partial_fixpoint
set_option maxRecDepth 100000 in
set_option maxHeartbeats 4000000 in
theorem alert_row_L1_grp : ∀ (p0 : api_Val), (∀ (v3 : (List api_Pair)) (v9 : Int) (o1 : (List api_Pair)), alert_row_L1 p0 v3 v9 = some o1 → TL (0, 0) Try.prog 29 alert_row_L1_c (JP1 (0, 0) 29 o1 (.exit 0) (alert_row_L1_x0 p0)) (alert_row_L1_st p0 v3 v9)) := by
  intro p0
  refine alert_row_L1.partial_correctness p0 _ ?_
  intro alert_row_L1' ih_alert_row_L1 v3 v9 o1 h
  refine TL.round (bwp_sound mixed tbOk (lv := alert_row_lv) _ _ _ ?_)
  refine st_test h (fun hb h => ?_) (fun hb h => ?_)
  · refine st_idx (l := p0.L) (c := c_api_Val) (c' := l_api_Val) h c_api_Val_eq (fun _ => rfl) (by decide) (fun x2 hi h => ?_)
    refine And.intro (by decide +kernel) (And.intro rfl ?_)
    refine st_idx (l := x2.L) (c := c_api_Val) (c' := l_api_Val) h c_api_Val_eq (fun _ => rfl) (by decide) (fun x3 hi h => ?_)
    refine st_idx (l := x2.L) (c := c_api_Val) (c' := l_api_Val) h c_api_Val_eq (fun _ => rfl) (by decide) (fun x4 hi h => ?_)
    refine st_appo (a := v3) (b := [(api_Pair.mk x3.S x4.S)]) (c := c_api_Pair) h (.refl _) (fun _ => rfl) rfl (fun x5 hi h => ?_)
    refine TL.le (τ := alert_row_L1_st p0 x5 (wr (v9 + 1))) ?_ ((ih_alert_row_L1 x5 (wr (v9 + 1)) _ h))
    exact Le.tow 1 1 rfl (.cons rfl (.refl _) (.cons rfl (.refl _) (.cons rfl (.refl _) (.cons rfl (.refl _) (.nil))))) (.refl _) rfl
  · exact JP1.a h (Le.tow 1 1 rfl (.cons rfl (.refl _) (.nil)) (.refl _) rfl)
theorem alert_row_L1_ok : ∀ (p0 : api_Val) (v3 : (List api_Pair)) (v9 : Int) (o1 : (List api_Pair)), alert_row_L1 p0 v3 v9 = some o1 → TL (0, 0) Try.prog 29 alert_row_L1_c (JP1 (0, 0) 29 o1 (.exit 0) (alert_row_L1_x0 p0)) (alert_row_L1_st p0 v3 v9) := fun p0 v3 v9 o1 h => (alert_row_L1_grp p0) v3 v9 o1 h
noncomputable def alert_row (p0 : api_Val) : Option ((List api_Pair)) :=
  (alert_row_L1 p0 [] 0) >>= fun o1 =>
  some o1
set_option maxRecDepth 100000 in
set_option maxHeartbeats 4000000 in
theorem alert_row_ok : ∀ (p0 : api_Val) (o : (List api_Pair)), alert_row p0 = some o → PCall Try.prog 85 [.agg [iV p0.K, sV p0.S, iV p0.N, bV p0.B, .sl false (p0.L.map c_api_Val)]] (t_alert_row o) := by
  intro p0 o h
  unfold alert_row at h
  refine PCall.ofB mixed tbOk alert_row_lv Try.func85 rfl (by kernel_rfl) (Nat.le_of_ble_eq_true rfl) ?_
  refine view (lenMap _ _) rfl ?_
  refine st_bind h (fun o1 ho hk => ?_)
  refine Exists.intro (JP1 _ _ o1 (.exit 0) (alert_row_L1_x0 p0)) (And.intro (T_le (τ := alert_row_L1_st p0 [] 0) ?_ (TL.loop (alert_row_L1_ok p0 [] 0 o1 ho))) (join1 ?_))
  · exact (Le.own 3 73 2 rfl sizeNil).trans (Le.tow 1 1 rfl (.cons rfl (.refl _) (.cons rfl (.refl _) (.cons rfl (.refl _) (.cons rfl (.refl _) (.nil))))) (.refl _) rfl)
  have h := hk
  refine st_ret (t := t_alert_row) h ?_
  exact .refl _
noncomputable def alert_Back_L1 (p0 : api_Val) (x3 : api_Val) (x4 : api_Val) (x6 : (List api_Pair)) (x7 : api_Val) (x8 : api_Val) (v43 : Int) (h2_4 : (List api_Alert)) : Option ((List api_Alert)) :=
  if (decide (v43 < (x8.L.length : Int))) then
    idx x8.L v43 >>= fun x10 =>
    idx x10.L 0 >>= fun x11 =>
    idx x10.L 1 >>= fun x12 =>
    idx x10.L 2 >>= fun x13 =>
    idx x10.L 3 >>= fun x14 =>
    alert_row x14 >>= fun x15 =>
    idx x10.L 4 >>= fun x16 =>
    alert_row x16 >>= fun x17 =>
    idx x10.L 5 >>= fun x18 =>
    appL 88 h2_4 [(api_Alert.mk x11.B x12.N x13.N x15 x17 x18.S)] >>= fun x19 =>
    alert_Back_L1 p0 x3 x4 x6 x7 x8 (wr (v43 + 1)) x19
  else
    some h2_4
  partial_fixpoint
set_option maxRecDepth 100000 in
set_option maxHeartbeats 4000000 in
theorem alert_Back_L1_grp : ∀ (p0 : api_Val) (x3 : api_Val) (x4 : api_Val) (x6 : (List api_Pair)) (x7 : api_Val) (x8 : api_Val), (∀ (v43 : Int) (h2_4 : (List api_Alert)) (o9 : (List api_Alert)), alert_Back_L1 p0 x3 x4 x6 x7 x8 v43 h2_4 = some o9 → TL (0, 0) Try.prog 89 alert_Back_L1_c (JP1 (0, 0) 89 o9 (.exit 0) (alert_Back_L1_x0 p0 x3 x4 x6 x7 x8)) (alert_Back_L1_st p0 x3 x4 x6 x7 x8 v43 h2_4)) := by
  intro p0 x3 x4 x6 x7 x8
  refine alert_Back_L1.partial_correctness p0 x3 x4 x6 x7 x8 _ ?_
  intro alert_Back_L1' ih_alert_Back_L1 v43 h2_4 o9 h
  refine TL.round (bwp_sound mixed tbOk (lv := alert_Back_lv) _ _ _ ?_)
  refine st_test h (fun hb h => ?_) (fun hb h => ?_)
  · refine st_idx (l := x8.L) (c := c_api_Val) (c' := l_api_Val) h c_api_Val_eq (fun _ => rfl) (by decide) (fun x10 hi h => ?_)
    refine And.intro (by decide +kernel) (And.intro rfl ?_)
    refine st_idx (l := x10.L) (c := c_api_Val) (c' := l_api_Val) h c_api_Val_eq (fun _ => rfl) (by decide) (fun x11 hi h => ?_)
    refine st_idx (l := x10.L) (c := c_api_Val) (c' := l_api_Val) h c_api_Val_eq (fun _ => rfl) (by decide) (fun x12 hi h => ?_)
    refine st_idx (l := x10.L) (c := c_api_Val) (c' := l_api_Val) h c_api_Val_eq (fun _ => rfl) (by decide) (fun x13 hi h => ?_)
    refine st_idx (l := x10.L) (c := c_api_Val) (c' := l_api_Val) h c_api_Val_eq (fun _ => rfl) (by decide) (fun x14 hi h => ?_)
    refine st_calld [.agg [iV x14.K, sV x14.S, iV x14.N, bV x14.B, .sl false (x14.L.map c_api_Val)]] t_alert_row h (fun x15 hy => (alert_row_ok x14 x15 hy)) (fun x15 hy h => ?_)
    refine st_idx (l := x10.L) (c := c_api_Val) (c' := l_api_Val) h c_api_Val_eq (fun _ => rfl) (by decide) (fun x16 hi h => ?_)
    refine st_calld [.agg [iV x16.K, sV x16.S, iV x16.N, bV x16.B, .sl false (x16.L.map c_api_Val)]] t_alert_row h (fun x17 hy => (alert_row_ok x16 x17 hy)) (fun x17 hy h => ?_)
    refine st_idx (l := x10.L) (c := c_api_Val) (c' := l_api_Val) h c_api_Val_eq (fun _ => rfl) (by decide) (fun x18 hi h => ?_)
    refine st_appo (a := h2_4) (b := [(api_Alert.mk x11.B x12.N x13.N x15 x17 x18.S)]) (c := c_api_Alert) h (.refl _) (fun _ => rfl) rfl (fun x19 hi h => ?_)
    refine TL.le (τ := alert_Back_L1_st p0 x3 x4 x6 x7 x8 (wr (v43 + 1)) x19) ?_ ((ih_alert_Back_L1 (wr (v43 + 1)) x19 _ h))
    exact Le.tow 3 1 rfl (.cons rfl (.refl _) (.cons rfl (.refl _) (.cons rfl (.refl _) (.cons rfl (.refl _) (.cons rfl (.refl _) (.nil)))))) (.refl _) rfl
  · exact JP1.a h (Le.tow 3 1 rfl (.cons rfl (.refl _) (.cons rfl (.refl _) (.nil))) (.refl _) rfl)
theorem alert_Back_L1_ok : ∀ (p0 : api_Val) (x3 : api_Val) (x4 : api_Val) (x6 : (List api_Pair)) (x7 : api_Val) (x8 : api_Val) (v43 : Int) (h2_4 : (List api_Alert)) (o9 : (List api_Alert)), alert_Back_L1 p0 x3 x4 x6 x7 x8 v43 h2_4 = some o9 → TL (0, 0) Try.prog 89 alert_Back_L1_c (JP1 (0, 0) 89 o9 (.exit 0) (alert_Back_L1_x0 p0 x3 x4 x6 x7 x8)) (alert_Back_L1_st p0 x3 x4 x6 x7 x8 v43 h2_4) := fun p0 x3 x4 x6 x7 x8 v43 h2_4 o9 h => (alert_Back_L1_grp p0 x3 x4 x6 x7 x8) v43 h2_4 o9 h
noncomputable def alert_Check_L1 (p0 : api_Group) (x4 : api_Group) (l7 : (List (List UInt8))) (h2_0 : Int) : Option (Int ⊕ Int) :=
  match l7 with
  | [] =>
    some (.inl h2_0)
  | x5 :: r6 =>
    if (decide ((wr (h2_0 - (x5.length : Int))) < 0)) then
      some (.inr (wr (h2_0 - (x5.length : Int))))
    else
      alert_Check_L1 p0 x4 r6 (wr (h2_0 - (x5.length : Int)))
  partial_fixpoint
set_option maxRecDepth 100000 in
set_option maxHeartbeats 4000000 in
theorem alert_Check_L1_grp : ∀ (p0 : api_Group) (x4 : api_Group), (∀ (l7 : (List (List UInt8))) (h2_0 : Int) (o9 : Int ⊕ Int), alert_Check_L1 p0 x4 l7 h2_0 = some o9 → RL 3 0 Try.prog 23 (rgP alert_Check_L1_c) (rgA alert_Check_L1_c) (rgB alert_Check_L1_c) (alert_Check_L1_st p0 x4 h2_0).env (JP2 (0, 0) 23 o9 .normal (alert_Check_L1_x0 p0 x4) .ret (alert_Check_L1_x1 p0 x4)) (l7.map e_alert_texts_1) (alert_Check_L1_st p0 x4 h2_0).s) := by
  intro p0 x4
  refine alert_Check_L1.partial_correctness p0 x4 _ ?_
  intro alert_Check_L1' ih_alert_Check_L1 l7 h2_0 o9 h
  cases l7 with
  | nil =>
    refine rl_nil ?_
    exact JP2.a h (Le.tow 3 0 rfl (.cons rfl (.refl _) (.cons rfl (.refl _) (.cons rfl (.refl _) (.nil)))) (.refl _) rfl)
  | cons x5 r6 =>
    refine rl_cons (bwp_sound mixed tbOk (lv := alert_Check_lv) _ _ _ ?_)
    refine And.intro rfl (bwp_sound mixed tbOk (lv := alert_Check_lv) _ _ _ ?_)
    refine vrfl ?_
    refine st_test h (fun hb h => ?_) (fun hb h => ?_)
    · exact Exists.intro (⟨[[.p (sV p0.Receiver), .p (bV p0.Firing), .p (.sl false (p0.Common.map c_api_Pair)), .p (sV p0.Link), .p (.sl false (p0.Alerts.map c_api_Alert))], [.p (iV 6)], [.p (iV (wr (h2_0 - (x5.length : Int))))]], []⟩ : S) (And.intro (Le.tow 3 0 rfl .nil (.refl _) rfl) (And.intro rfl (And.intro rfl (JP2.b h (Le.tow 3 0 rfl (.cons rfl (.refl _) (.nil)) (.refl _) rfl)))))
    · exact Exists.intro (alert_Check_L1_st p0 x4 (wr (h2_0 - (x5.length : Int)))).s (And.intro (Le.tow 3 0 rfl (.nil) (.refl _) rfl) (And.intro rfl (And.intro rfl ((ih_alert_Check_L1 r6 (wr (h2_0 - (x5.length : Int))) _ h)))))
theorem alert_Check_L1_ok : ∀ (p0 : api_Group) (x4 : api_Group) (l7 : (List (List UInt8))) (h2_0 : Int) (o9 : Int ⊕ Int), alert_Check_L1 p0 x4 l7 h2_0 = some o9 → RL 3 0 Try.prog 23 (rgP alert_Check_L1_c) (rgA alert_Check_L1_c) (rgB alert_Check_L1_c) (alert_Check_L1_st p0 x4 h2_0).env (JP2 (0, 0) 23 o9 .normal (alert_Check_L1_x0 p0 x4) .ret (alert_Check_L1_x1 p0 x4)) (l7.map e_alert_texts_1) (alert_Check_L1_st p0 x4 h2_0).s := fun p0 x4 l7 h2_0 o9 h => (alert_Check_L1_grp p0 x4) l7 h2_0 o9 h
noncomputable def alert_rows_L1 (p0 : api_Group) (v3 : (List (List api_Pair))) (v12 : Int) : Option ((List (List api_Pair))) :=
  if (decide (v12 < (p0.Alerts.length : Int))) then
    idx p0.Alerts v12 >>= fun x2 =>
    appL 24 v3 [x2.Labels, x2.Notes] >>= fun x3 =>
    alert_rows_L1 p0 x3 (wr (v12 + 1))
  else
    some v3
  partial_fixpoint
set_option maxRecDepth 100000 in
set_option maxHeartbeats 4000000 in
theorem alert_rows_L1_grp : ∀ (p0 : api_Group), (∀ (v3 : (List (List api_Pair))) (v12 : Int) (o1 : (List (List api_Pair))), alert_rows_L1 p0 v3 v12 = some o1 → TL (0, 0) Try.prog 25 alert_rows_L1_c (JP1 (0, 0) 25 o1 (.exit 0) (alert_rows_L1_x0 p0)) (alert_rows_L1_st p0 v3 v12)) := by
  intro p0
  refine alert_rows_L1.partial_correctness p0 _ ?_
  intro alert_rows_L1' ih_alert_rows_L1 v3 v12 o1 h
  refine TL.round (bwp_sound mixed tbOk (lv := alert_rows_lv) _ _ _ ?_)
  refine st_test h (fun hb h => ?_) (fun hb h => ?_)
  · refine st_idx (l := p0.Alerts) (c := c_api_Alert) (c' := c_api_Alert) h (fun _ => rfl) (fun _ => rfl) (by decide) (fun x2 hi h => ?_)
    refine st_appo (a := v3) (b := [x2.Labels, x2.Notes]) (c := (cSl c_api_Pair)) h (.refl _) (fun _ => rfl) rfl (fun x3 hi h => ?_)
    refine TL.le (τ := alert_rows_L1_st p0 x3 (wr (v12 + 1))) ?_ ((ih_alert_rows_L1 x3 (wr (v12 + 1)) _ h))
    exact Le.tow 1 1 rfl (.cons rfl (.refl _) (.cons rfl (.refl _) (.cons rfl (.refl _) (.cons rfl (.refl _) (.nil))))) (.refl _) rfl
  · exact JP1.a h (Le.tow 1 1 rfl (.cons rfl (.refl _) (.nil)) (.refl _) rfl)
theorem alert_rows_L1_ok : ∀ (p0 : api_Group) (v3 : (List (List api_Pair))) (v12 : Int) (o1 : (List (List api_Pair))), alert_rows_L1 p0 v3 v12 = some o1 → TL (0, 0) Try.prog 25 alert_rows_L1_c (JP1 (0, 0) 25 o1 (.exit 0) (alert_rows_L1_x0 p0)) (alert_rows_L1_st p0 v3 v12) := fun p0 v3 v12 o1 h => (alert_rows_L1_grp p0) v3 v12 o1 h
noncomputable def alert_rows (p0 : api_Group) : Option ((List (List api_Pair))) :=
  (alert_rows_L1 p0 [p0.Common] 0) >>= fun o1 =>
  some o1
set_option maxRecDepth 100000 in
set_option maxHeartbeats 4000000 in
theorem alert_rows_ok : ∀ (p0 : api_Group) (o : (List (List api_Pair))), alert_rows p0 = some o → PCall Try.prog 74 [.agg [sV p0.Receiver, bV p0.Firing, .sl false (p0.Common.map c_api_Pair), sV p0.Link, .sl false (p0.Alerts.map c_api_Alert)]] (t_alert_rows o) := by
  intro p0 o h
  unfold alert_rows at h
  refine PCall.ofB mixed tbOk alert_rows_lv Try.func74 rfl (by kernel_rfl) (Nat.le_of_ble_eq_true rfl) ?_
  refine view (lenMap _ _) rfl ?_
  refine st_bind h (fun o1 ho hk => ?_)
  refine Exists.intro (JP1 _ _ o1 (.exit 0) (alert_rows_L1_x0 p0)) (And.intro (T_le (τ := alert_rows_L1_st p0 [p0.Common] 0) ?_ (TL.loop (alert_rows_L1_ok p0 [p0.Common] 0 o1 ho))) (join1 ?_))
  · exact Le.trans (τ := ⟨[(3, .p (.sl true ([p0.Common].map (cSl c_api_Pair)))), (10, .p (.sl false (p0.Alerts.map c_api_Alert))), (11, .p (iV (p0.Alerts.length : Int))), (12, .p (iV 0))], ⟨[[.p (sV p0.Receiver), .p (bV p0.Firing), .p (.sl false (p0.Common.map c_api_Pair)), .p (sV p0.Link), .p (.sl false (p0.Alerts.map c_api_Alert))]], []⟩⟩) (Le.tow 1 0 rfl (.cons rfl (.refl _) (.cons rfl (.refl _) (.cons rfl (.refl _) (.cons rfl (.refl _) (.nil))))) (.refl _) rfl) ((Le.own 3 66 1 rfl (mapSize fun _ => rfl)).trans (Le.tow 1 1 rfl (.cons rfl (.refl _) (.cons rfl (.refl _) (.cons rfl (.refl _) (.cons rfl (.refl _) (.nil))))) (.refl _) rfl))
  have h := hk
  refine st_ret (t := t_alert_rows) h ?_
  exact .refl _
noncomputable def alert_texts (p0 : api_Group) : Option (api_Group) :=
  some p0
set_option maxRecDepth 100000 in
set_option maxHeartbeats 4000000 in
theorem alert_texts_ok : ∀ (p0 : api_Group) (o : api_Group), alert_texts p0 = some o → PCall Try.prog 76 [.agg [sV p0.Receiver, bV p0.Firing, .sl false (p0.Common.map c_api_Pair), sV p0.Link, .sl false (p0.Alerts.map c_api_Alert)]] (t_alert_texts o) := by
  intro p0 o h
  unfold alert_texts at h
  refine PCall.ofM mixed tbOk alert_texts_lv Try.func76 rfl (by kernel_rfl) (Nat.le_of_ble_eq_true rfl) ?_
  refine st_ret (t := t_alert_texts) h ?_
  exact .refl _
noncomputable def alert_texts_1_L2 (p0 : api_Group) (x1 : (List (List api_Pair))) (v24 : Int) (x4 : (List api_Pair)) (v30 : Int) : Option ((List (List UInt8)) × (Unit)) :=
  if (decide (v30 < (x4.length : Int))) then
    idx x4 v30 >>= fun x7 =>
    ( ( alert_texts_1_L2 p0 x1 v24 x4 (wr (v30 + 1))) >>= fun q => some (x7.Val :: q.1, q.2)) >>= fun q => some (x7.Key :: q.1, q.2)
  else
    some ([], ())
  partial_fixpoint
set_option maxRecDepth 100000 in
set_option maxHeartbeats 4000000 in
theorem alert_texts_1_L2_grp : ∀ (p0 : api_Group) (x1 : (List (List api_Pair))) (v24 : Int) (x4 : (List api_Pair)), (∀ (v30 : Int) (o6 : (List (List UInt8)) × (Unit)), alert_texts_1_L2 p0 x1 v24 x4 v30 = some o6 → ∀ (gxs gp gpost gq5 : List (List V)), gxs = gp ++ (o6.1.map e_alert_texts_1 ++ gpost) → gxs = gq5 ++ gpost → TL (0, 1) Try.prog 61 alert_texts_1_L2_c (Qs (0, 1) 61 gxs (JP1 (0, 1) 61 o6.2 (.exit 2) (alert_texts_1_L2_x0 p0 x1 v24 x4 gxs gq5))) (alert_texts_1_L2_st p0 x1 v24 x4 v30 gxs gp)) := by
  intro p0 x1 v24 x4
  refine alert_texts_1_L2.partial_correctness p0 x1 v24 x4 _ ?_
  intro alert_texts_1_L2' ih_alert_texts_1_L2 v30 o6 h
  intro gxs gp gpost gq5 hx hq
  refine TL.round (bwp_sound mixed tbOk (lv := alert_texts_1_lv) _ _ _ ?_)
  refine st_test h (fun hb h => ?_) (fun hb h => ?_)
  · refine st_idx (l := x4) (c := c_api_Pair) (c' := c_api_Pair) h (fun _ => rfl) (fun _ => rfl) (by decide) (fun x7 hi h => ?_)
    refine st_yld (c := e_alert_texts_1) h hx (.refl _) rfl rfl (fun _ h hx => ?_) ?_
    · refine bF ?_
      refine st_yld (c := e_alert_texts_1) h hx (.refl _) rfl rfl (fun _ h hx => ?_) ?_
      · refine bF ?_
        refine TL.le (τ := alert_texts_1_L2_st p0 x1 v24 x4 (wr (v30 + 1)) gxs ((gp ++ [e_alert_texts_1 x7.Key]) ++ [e_alert_texts_1 x7.Val])) ?_ ((ih_alert_texts_1_L2 (wr (v30 + 1)) _ h) _ _ _ _ hx hq)
        exact Le.tow 0 1 rfl (.cons rfl (.refl _) (.cons rfl (.refl _) (.cons rfl (.refl _) (.cons rfl (.refl _) (.cons rfl (.refl _) (.cons rfl (.refl _) (.cons rfl (.refl _) (.cons rfl (.refl _) (.nil))))))))) (.refl _) rfl
      · refine bT ?_
        exact .inr ⟨rfl, _, Le.tow 0 1 rfl .nil (.refl _) rfl, rfl, rfl, rfl⟩
    · refine bT ?_
      refine bT ?_
      exact .inr ⟨rfl, _, Le.tow 0 1 rfl .nil (.refl _) rfl, rfl, rfl, rfl⟩
  · exact .inl (JP1.a (sndI h) (Le.tow 0 1 rfl (.cons rfl (.refl _) (.cons rfl (.refl _) (.cons rfl (.refl _) (.cons rfl (.refl _) (.cons rfl (.refl _) (.nil)))))) (.refl _) (liveQ h hx hq rfl)))
theorem alert_texts_1_L2_ok : ∀ (p0 : api_Group) (x1 : (List (List api_Pair))) (v24 : Int) (x4 : (List api_Pair)) (v30 : Int) (o6 : (List (List UInt8)) × (Unit)), alert_texts_1_L2 p0 x1 v24 x4 v30 = some o6 → ∀ (gxs gp gpost gq5 : List (List V)), gxs = gp ++ (o6.1.map e_alert_texts_1 ++ gpost) → gxs = gq5 ++ gpost → TL (0, 1) Try.prog 61 alert_texts_1_L2_c (Qs (0, 1) 61 gxs (JP1 (0, 1) 61 o6.2 (.exit 2) (alert_texts_1_L2_x0 p0 x1 v24 x4 gxs gq5))) (alert_texts_1_L2_st p0 x1 v24 x4 v30 gxs gp) := fun p0 x1 v24 x4 v30 o6 h => (alert_texts_1_L2_grp p0 x1 v24 x4) v30 o6 h
noncomputable def alert_texts_1_L1 (p0 : api_Group) (x1 : (List (List api_Pair))) (v24 : Int) : Option ((List (List UInt8)) × (Unit)) :=
  if (decide (v24 < (x1.length : Int))) then
    idx x1 v24 >>= fun x4 =>
    ( alert_texts_1_L2 p0 x1 v24 x4 0) >>= fun o6 => (
      alert_texts_1_L1 p0 x1 (wr (v24 + 1))) >>= fun q => some (o6.1 ++ q.1, q.2)
  else
    some ([], ())
  partial_fixpoint
set_option maxRecDepth 100000 in
set_option maxHeartbeats 4000000 in
theorem alert_texts_1_L1_grp : ∀ (p0 : api_Group) (x1 : (List (List api_Pair))), (∀ (v24 : Int) (o3 : (List (List UInt8)) × (Unit)), alert_texts_1_L1 p0 x1 v24 = some o3 → ∀ (gxs gp gpost gq2 : List (List V)), gxs = gp ++ (o3.1.map e_alert_texts_1 ++ gpost) → gxs = gq2 ++ gpost → TL (0, 1) Try.prog 61 alert_texts_1_L1_c (Qs (0, 1) 61 gxs (JP1 (0, 1) 61 o3.2 (.exit 0) (alert_texts_1_L1_x0 p0 x1 gxs gq2))) (alert_texts_1_L1_st p0 x1 v24 gxs gp)) := by
  intro p0 x1
  refine alert_texts_1_L1.partial_correctness p0 x1 _ ?_
  intro alert_texts_1_L1' ih_alert_texts_1_L1 v24 o3 h
  intro gxs gp gpost gq2 hx hq
  refine TL.round (bwp_sound mixed tbOk (lv := alert_texts_1_lv) _ _ _ ?_)
  refine st_test h (fun hb h => ?_) (fun hb h => ?_)
  · refine st_idx (l := x1) (c := (cSl c_api_Pair)) (c' := (cSl c_api_Pair)) h (fun _ => rfl) (fun _ => rfl) (by decide) (fun x4 hi h => ?_)
    refine view (lenMap _ _) rfl ?_
    refine st_bindI h hx (fun o6 lgq5 gq5 ho hk hxa hjgq5 => ?_)
    refine Exists.intro (Qs _ _ gxs (JP1 _ _ o6.2 (.exit 2) (alert_texts_1_L2_x0 p0 x1 v24 x4 gxs gq5))) (And.intro (T_le (τ := alert_texts_1_L2_st p0 x1 v24 x4 0 gxs gp) ?_ (TL.loop ((alert_texts_1_L2_ok p0 x1 v24 x4 0 o6 ho) _ _ _ _ hxa hjgq5))) (joinS (join1 ?_) ?_))
    · exact Le.tow 0 1 rfl (.cons rfl (.refl _) (.cons rfl (.refl _) (.cons rfl (.refl _) (.cons rfl (.refl _) (.cons rfl (.refl _) (.cons rfl (.refl _) (.cons rfl (.refl _) (.cons rfl (.refl _) (.nil))))))))) (.refl _) rfl
    · have h := hk
      have hx := hjgq5
      refine TL.le (τ := alert_texts_1_L1_st p0 x1 (wr (v24 + 1)) gxs gq5) ?_ ((ih_alert_texts_1_L1 (wr (v24 + 1)) _ h) _ _ _ _ hx hq)
      exact Le.tow 0 1 rfl (.cons rfl (.refl _) (.cons rfl (.refl _) (.cons rfl (.refl _) (.cons rfl (.refl _) (.cons rfl (.refl _) (.nil)))))) (.refl _) rfl
    · exact fun s1 h1 h2 hs => .inr ⟨rfl, s1, .refl _ _ _, h1, h2, hs⟩
  · exact .inl (JP1.a (sndI h) (Le.tow 0 1 rfl (.cons rfl (.refl _) (.cons rfl (.refl _) (.nil))) (.refl _) (liveQ h hx hq rfl)))
theorem alert_texts_1_L1_ok : ∀ (p0 : api_Group) (x1 : (List (List api_Pair))) (v24 : Int) (o3 : (List (List UInt8)) × (Unit)), alert_texts_1_L1 p0 x1 v24 = some o3 → ∀ (gxs gp gpost gq2 : List (List V)), gxs = gp ++ (o3.1.map e_alert_texts_1 ++ gpost) → gxs = gq2 ++ gpost → TL (0, 1) Try.prog 61 alert_texts_1_L1_c (Qs (0, 1) 61 gxs (JP1 (0, 1) 61 o3.2 (.exit 0) (alert_texts_1_L1_x0 p0 x1 gxs gq2))) (alert_texts_1_L1_st p0 x1 v24 gxs gp) := fun p0 x1 v24 o3 h => (alert_texts_1_L1_grp p0 x1) v24 o3 h
noncomputable def alert_texts_1_L3 (p0 : api_Group) (v51 : Int) : Option ((List (List UInt8)) × (Unit)) :=
  if (decide (v51 < (p0.Alerts.length : Int))) then
    idx p0.Alerts v51 >>= fun x10 =>
    ( alert_texts_1_L3 p0 (wr (v51 + 1))) >>= fun q => some (x10.Link :: q.1, q.2)
  else
    some ([], ())
  partial_fixpoint
set_option maxRecDepth 100000 in
set_option maxHeartbeats 4000000 in
theorem alert_texts_1_L3_grp : ∀ (p0 : api_Group), (∀ (v51 : Int) (o9 : (List (List UInt8)) × (Unit)), alert_texts_1_L3 p0 v51 = some o9 → ∀ (gxs gp gpost gq8 : List (List V)), gxs = gp ++ (o9.1.map e_alert_texts_1 ++ gpost) → gxs = gq8 ++ gpost → TL (0, 1) Try.prog 61 alert_texts_1_L3_c (Qs (0, 1) 61 gxs (JP1 (0, 1) 61 o9.2 (.exit 4) (alert_texts_1_L3_x0 p0 gxs gq8))) (alert_texts_1_L3_st p0 v51 gxs gp)) := by
  intro p0
  refine alert_texts_1_L3.partial_correctness p0 _ ?_
  intro alert_texts_1_L3' ih_alert_texts_1_L3 v51 o9 h
  intro gxs gp gpost gq8 hx hq
  refine TL.round (bwp_sound mixed tbOk (lv := alert_texts_1_lv) _ _ _ ?_)
  refine st_test h (fun hb h => ?_) (fun hb h => ?_)
  · refine st_idx (l := p0.Alerts) (c := c_api_Alert) (c' := c_api_Alert) h (fun _ => rfl) (fun _ => rfl) (by decide) (fun x10 hi h => ?_)
    refine st_yld (c := e_alert_texts_1) h hx (.refl _) rfl rfl (fun _ h hx => ?_) ?_
    · refine bF ?_
      refine TL.le (τ := alert_texts_1_L3_st p0 (wr (v51 + 1)) gxs (gp ++ [e_alert_texts_1 x10.Link])) ?_ ((ih_alert_texts_1_L3 (wr (v51 + 1)) _ h) _ _ _ _ hx hq)
      exact Le.tow 0 1 rfl (.cons rfl (.refl _) (.cons rfl (.refl _) (.cons rfl (.refl _) (.cons rfl (.refl _) (.nil))))) (.refl _) rfl
    · refine bT ?_
      exact .inr ⟨rfl, _, Le.tow 0 1 rfl .nil (.refl _) rfl, rfl, rfl, rfl⟩
  · exact .inl (JP1.a (sndI h) (Le.tow 0 1 rfl (.nil) (.refl _) (liveQ h hx hq rfl)))
theorem alert_texts_1_L3_ok : ∀ (p0 : api_Group) (v51 : Int) (o9 : (List (List UInt8)) × (Unit)), alert_texts_1_L3 p0 v51 = some o9 → ∀ (gxs gp gpost gq8 : List (List V)), gxs = gp ++ (o9.1.map e_alert_texts_1 ++ gpost) → gxs = gq8 ++ gpost → TL (0, 1) Try.prog 61 alert_texts_1_L3_c (Qs (0, 1) 61 gxs (JP1 (0, 1) 61 o9.2 (.exit 4) (alert_texts_1_L3_x0 p0 gxs gq8))) (alert_texts_1_L3_st p0 v51 gxs gp) := fun p0 v51 o9 h => (alert_texts_1_L3_grp p0) v51 o9 h
noncomputable def alert_texts_1 (p0 : api_Group) : Option ((List (List UInt8)) × Unit) :=
  ( ( alert_rows p0 >>= fun x1 =>
      ( alert_texts_1_L1 p0 x1 0) >>= fun o3 => (
        ( alert_texts_1_L3 p0 0) >>= fun o9 => (
          some ([], ())) >>= fun q => some (o9.1 ++ q.1, q.2)) >>= fun q => some (o3.1 ++ q.1, q.2)) >>= fun q => some (p0.Link :: q.1, q.2)) >>= fun q => some (p0.Receiver :: q.1, q.2)
set_option maxRecDepth 100000 in
set_option maxHeartbeats 4000000 in
theorem alert_texts_1_ok : ∀ (p0 : api_Group) (o : (List (List UInt8)) × Unit), alert_texts_1 p0 = some o → ∀ gxs : List (List V), gxs = o.1.map e_alert_texts_1 → IterOK Try.prog 96 [.ep [sV p0.Receiver, bV p0.Firing, .sl false (p0.Common.map c_api_Pair), sV p0.Link, .sl false (p0.Alerts.map c_api_Alert)]] gxs := by
  intro p0 o h
  unfold alert_texts_1 at h
  intro gxs hg
  have hx : gxs = [] ++ (o.1.map e_alert_texts_1 ++ []) := by simp [hg]
  refine IterOK.ofB mixed tbOk alert_texts_1_lv Try.func96 rfl (by kernel_rfl) (Nat.le_of_ble_eq_true rfl) rfl ?_
  refine st_yld (c := e_alert_texts_1) h hx (.refl _) rfl rfl (fun _ h hx => ?_) ?_
  · refine bF ?_
    refine st_yld (c := e_alert_texts_1) h hx (.refl _) rfl rfl (fun _ h hx => ?_) ?_
    · refine bF ?_
      refine st_call [.agg [sV p0.Receiver, bV p0.Firing, .sl false (p0.Common.map c_api_Pair), sV p0.Link, .sl false (p0.Alerts.map c_api_Alert)]] t_alert_rows h (fun x1 hy => (alert_rows_ok p0 x1 hy)) (fun x1 hy h => ?_)
      refine view (lenMap _ _) rfl ?_
      refine st_bindI h hx (fun o3 lgq2 gq2 ho hk hxa hjgq2 => ?_)
      refine Exists.intro (Qs _ _ gxs (JP1 _ _ o3.2 (.exit 0) (alert_texts_1_L1_x0 p0 x1 gxs gq2))) (And.intro (T_le (τ := alert_texts_1_L1_st p0 x1 0 gxs ((([] : List (List V)) ++ [e_alert_texts_1 p0.Receiver]) ++ [e_alert_texts_1 p0.Link])) ?_ (TL.loop ((alert_texts_1_L1_ok p0 x1 0 o3 ho) _ _ _ _ hxa hjgq2))) (joinS (join1 ?_) ?_))
      · exact Le.tow 0 1 rfl (.cons rfl (.refl _) (.cons rfl (.refl _) (.cons rfl (.refl _) (.cons rfl (.refl _) (.cons rfl (.refl _) (.nil)))))) (.refl _) rfl
      · have h := hk
        have hx := hjgq2
        refine view (lenMap _ _) rfl ?_
        refine st_bindI h hx (fun o9 lgq8 gq8 ho hk hxa hjgq8 => ?_)
        refine Exists.intro (Qs _ _ gxs (JP1 _ _ o9.2 (.exit 4) (alert_texts_1_L3_x0 p0 gxs gq8))) (And.intro (T_le (τ := alert_texts_1_L3_st p0 0 gxs gq2) ?_ (TL.loop ((alert_texts_1_L3_ok p0 0 o9 ho) _ _ _ _ hxa hjgq8))) (joinS (join1 ?_) ?_))
        · exact Le.tow 0 1 rfl (.cons rfl (.refl _) (.cons rfl (.refl _) (.cons rfl (.refl _) (.cons rfl (.refl _) (.nil))))) (.refl _) rfl
        · have h := hk
          have hx := hjgq8
          exact st_iend h hx (.inl rfl) rfl
        · exact fun s1 h1 h2 hs => st_istop (.inr rfl) hs
      · exact fun s1 h1 h2 hs => st_istop (.inr rfl) hs
    · refine bT ?_
      exact st_istop (.inr rfl) rfl
  · refine bT ?_
    refine bT ?_
    exact st_istop (.inr rfl) rfl
noncomputable def alert_Check_1 (p0 : (List api_Pair)) : Option (Bool) :=
  some (decide ((p0.length : Int) > 32))
set_option maxRecDepth 100000 in
set_option maxHeartbeats 4000000 in
theorem alert_Check_1_ok : ∀ (p0 : (List api_Pair)) (o : Bool), alert_Check_1 p0 = some o → PCall Try.prog 75 [.sl false (p0.map c_api_Pair)] (t_alert_Check_1 o) := by
  intro p0 o h
  unfold alert_Check_1 at h
  refine PCall.ofB mixed tbOk alert_Check_1_lv Try.func75 rfl (by kernel_rfl) (Nat.le_of_ble_eq_true rfl) ?_
  refine view (lenMap _ _) rfl ?_
  refine st_ret (t := t_alert_Check_1) h ?_
  exact .refl _
noncomputable def slices_IndexFunc_api_Pair_api_Pair_alert_Check_1_L1 (p0 : (List (List api_Pair))) (v8 : Int) : Option (Unit ⊕ Int) :=
  if (decide (v8 < (p0.length : Int))) then
    idx p0 v8 >>= fun x4 =>
    alert_Check_1 x4 >>= fun x5 =>
    if x5 then
      some (.inr v8)
    else
      slices_IndexFunc_api_Pair_api_Pair_alert_Check_1_L1 p0 (wr (v8 + 1))
  else
    some (.inl ())
  partial_fixpoint
set_option maxRecDepth 100000 in
set_option maxHeartbeats 4000000 in
theorem slices_IndexFunc_api_Pair_api_Pair_alert_Check_1_L1_grp : ∀ (p0 : (List (List api_Pair))), (∀ (v8 : Int) (o1 : Unit ⊕ Int), slices_IndexFunc_api_Pair_api_Pair_alert_Check_1_L1 p0 v8 = some o1 → TL (0, 0) Try.prog 19 slices_IndexFunc_api_Pair_api_Pair_alert_Check_1_L1_c (JP2 (0, 0) 19 o1 (.exit 0) (slices_IndexFunc_api_Pair_api_Pair_alert_Check_1_L1_x0 p0) .ret (slices_IndexFunc_api_Pair_api_Pair_alert_Check_1_L1_x1 p0)) (slices_IndexFunc_api_Pair_api_Pair_alert_Check_1_L1_st p0 v8)) := by
  intro p0
  refine slices_IndexFunc_api_Pair_api_Pair_alert_Check_1_L1.partial_correctness p0 _ ?_
  intro slices_IndexFunc_api_Pair_api_Pair_alert_Check_1_L1' ih_slices_IndexFunc_api_Pair_api_Pair_alert_Check_1_L1 v8 o1 h
  refine TL.round (bwp_sound mixed tbOk (lv := slices_IndexFunc_api_Pair_api_Pair_alert_Check_1_lv) _ _ _ ?_)
  refine st_test h (fun hb h => ?_) (fun hb h => ?_)
  · refine st_idx (l := p0) (c := (cSl c_api_Pair)) (c' := (cSl c_api_Pair)) h (fun _ => rfl) (fun _ => rfl) (by decide) (fun x4 hi h => ?_)
    refine st_call [.sl false (x4.map c_api_Pair)] t_alert_Check_1 h (fun x5 hy => (alert_Check_1_ok x4 x5 hy)) (fun x5 hy h => ?_)
    refine st_test h (fun hb h => ?_) (fun hb h => ?_)
    · exact JP2.b h (Le.tow 0 0 rfl (.cons rfl (.refl _) (.nil)) (.refl _) rfl)
    · refine TL.le (τ := slices_IndexFunc_api_Pair_api_Pair_alert_Check_1_L1_st p0 (wr (v8 + 1))) ?_ ((ih_slices_IndexFunc_api_Pair_api_Pair_alert_Check_1_L1 (wr (v8 + 1)) _ h))
      exact Le.tow 0 0 rfl (.cons rfl (.refl _) (.cons rfl (.refl _) (.cons rfl (.refl _) (.cons rfl (.refl _) (.nil))))) (.refl _) rfl
  · exact JP2.a h (Le.tow 0 0 rfl (.nil) (.refl _) rfl)
theorem slices_IndexFunc_api_Pair_api_Pair_alert_Check_1_L1_ok : ∀ (p0 : (List (List api_Pair))) (v8 : Int) (o1 : Unit ⊕ Int), slices_IndexFunc_api_Pair_api_Pair_alert_Check_1_L1 p0 v8 = some o1 → TL (0, 0) Try.prog 19 slices_IndexFunc_api_Pair_api_Pair_alert_Check_1_L1_c (JP2 (0, 0) 19 o1 (.exit 0) (slices_IndexFunc_api_Pair_api_Pair_alert_Check_1_L1_x0 p0) .ret (slices_IndexFunc_api_Pair_api_Pair_alert_Check_1_L1_x1 p0)) (slices_IndexFunc_api_Pair_api_Pair_alert_Check_1_L1_st p0 v8) := fun p0 v8 o1 h => (slices_IndexFunc_api_Pair_api_Pair_alert_Check_1_L1_grp p0) v8 o1 h
noncomputable def slices_IndexFunc_api_Pair_api_Pair_alert_Check_1 (p0 : (List (List api_Pair))) : Option (Int) :=
  (slices_IndexFunc_api_Pair_api_Pair_alert_Check_1_L1 p0 0) >>= fun o1 =>
  match o1 with
  | .inl y2 =>
    some (-1)
  | .inr y3 =>
    some y3
set_option maxRecDepth 100000 in
set_option maxHeartbeats 4000000 in
theorem slices_IndexFunc_api_Pair_api_Pair_alert_Check_1_ok : ∀ (p0 : (List (List api_Pair))) (o : Int), slices_IndexFunc_api_Pair_api_Pair_alert_Check_1 p0 = some o → CallOK Try.prog 95 [.p (.sl false (p0.map (cSl c_api_Pair))), .fn (.func 75) [] []] ⟨[], []⟩ (t_slices_IndexFunc_api_Pair_api_Pair_alert_Check_1 o) ⟨[], []⟩ := by
  intro p0 o h
  unfold slices_IndexFunc_api_Pair_api_Pair_alert_Check_1 at h
  refine CallOK.ofB mixed tbOk slices_IndexFunc_api_Pair_api_Pair_alert_Check_1_lv Try.func95 rfl (by kernel_rfl) (Nat.le_of_ble_eq_true rfl) rfl rfl rfl ?_
  refine view (lenMap _ _) rfl ?_
  refine st_bind h (fun o1 ho hk => ?_)
  refine Exists.intro (JP2 _ _ o1 (.exit 0) (slices_IndexFunc_api_Pair_api_Pair_alert_Check_1_L1_x0 p0) .ret (slices_IndexFunc_api_Pair_api_Pair_alert_Check_1_L1_x1 p0)) (And.intro (T_le (τ := slices_IndexFunc_api_Pair_api_Pair_alert_Check_1_L1_st p0 0) ?_ (TL.loop (slices_IndexFunc_api_Pair_api_Pair_alert_Check_1_L1_ok p0 0 o1 ho))) (join2 (fun y2 hy => ?_) (fun y3 hy => ?_)))
  · exact Le.tow 0 0 rfl (.cons rfl (.refl _) (.cons rfl (.refl _) (.cons rfl (.refl _) (.cons rfl (.refl _) (.nil))))) (.refl _) rfl
  · have h := (by rw [hy] at hk; exact hk)
    refine Exists.intro _ (And.intro (Le.refl _ _ _) ?_)
    exact st_retc (t := t_slices_IndexFunc_api_Pair_api_Pair_alert_Check_1) (ss := fun o => ⟨[], []⟩) h ⟨[], rfl, .refl _, .refl _, rfl⟩
  · have h := (by rw [hy] at hk; exact hk)
    refine Exists.intro _ (And.intro (Le.refl _ _ _) ?_)
    exact st_retc (t := t_slices_IndexFunc_api_Pair_api_Pair_alert_Check_1) (ss := fun o => ⟨[], []⟩) h ⟨[], rfl, .refl _, .refl _, rfl⟩
noncomputable def slices_ContainsFunc_api_Pair_api_Pair_alert_Check_1 (p0 : (List (List api_Pair))) : Option (Bool) :=
  slices_IndexFunc_api_Pair_api_Pair_alert_Check_1 p0 >>= fun x1 =>
  some (decide (x1 ≥ 0))
set_option maxRecDepth 100000 in
set_option maxHeartbeats 4000000 in
theorem slices_ContainsFunc_api_Pair_api_Pair_alert_Check_1_ok : ∀ (p0 : (List (List api_Pair))) (o : Bool), slices_ContainsFunc_api_Pair_api_Pair_alert_Check_1 p0 = some o → CallOK Try.prog 73 [.p (.sl false (p0.map (cSl c_api_Pair))), .fn (.func 75) [] []] ⟨[], []⟩ (t_slices_ContainsFunc_api_Pair_api_Pair_alert_Check_1 o) ⟨[], []⟩ := by
  intro p0 o h
  unfold slices_ContainsFunc_api_Pair_api_Pair_alert_Check_1 at h
  refine CallOK.ofB mixed tbOk slices_ContainsFunc_api_Pair_api_Pair_alert_Check_1_lv Try.func73 rfl (by kernel_rfl) (Nat.le_of_ble_eq_true rfl) rfl rfl rfl ?_
  refine st_callc _ _ h (fun x1 hy => ((slices_IndexFunc_api_Pair_api_Pair_alert_Check_1_ok p0 x1 hy).fr [] [] rfl rfl rfl)) (fun x1 hy h => ?_)
  refine Exists.intro _ (And.intro (Le.refl _ _ _) ?_)
  exact st_retc (t := t_slices_ContainsFunc_api_Pair_api_Pair_alert_Check_1) (ss := fun o => ⟨[], []⟩) h ⟨[], rfl, .refl _, .refl _, rfl⟩
noncomputable def alert_Check (p0 : api_Group) : Option (Int) :=
  ( if (decide ((p0.Alerts.length : Int) > 64)) then
      some true
    else
      alert_rows p0 >>= fun x2 =>
      slices_ContainsFunc_api_Pair_api_Pair_alert_Check_1 x2 >>= fun x3 =>
      some x3) >>= fun o1 =>
  if o1 then
    some 5
  else
    alert_texts p0 >>= fun x4 =>
    alert_texts_1 x4 >>= fun y8 =>
    (alert_Check_L1 p0 x4 y8.1 65536) >>= fun o9 =>
    match o9 with
    | .inl y10 =>
      some 0
    | .inr y11 =>
      some 6
set_option maxRecDepth 100000 in
set_option maxHeartbeats 4000000 in
theorem alert_Check_ok : ∀ (p0 : api_Group) (o : Int), alert_Check p0 = some o → PCall Try.prog 44 [.agg [sV p0.Receiver, bV p0.Firing, .sl false (p0.Common.map c_api_Pair), sV p0.Link, .sl false (p0.Alerts.map c_api_Alert)]] (t_alert_Check o) := by
  intro p0 o h
  unfold alert_Check at h
  refine PCall.ofB mixed tbOk alert_Check_lv Try.func44 rfl (by kernel_rfl) (Nat.le_of_ble_eq_true rfl) ?_
  refine st_bind h (fun o1 ho hk => ?_)
  refine Exists.intro (JP1 _ _ o1 .normal (alert_Check_J0_0 p0)) (And.intro ?_ (join1 ?_))
  · have h := ho
    refine view (lenMap _ _) rfl ?_
    refine st_test h (fun hb h => ?_) (fun hb h => ?_)
    · exact JP1.a h (Le.tow 2 0 rfl (.cons rfl (.refl _) (.cons rfl (.refl _) (.cons rfl (.refl _) (.nil)))) (.refl _) rfl)
    · refine st_call [.agg [sV p0.Receiver, bV p0.Firing, .sl false (p0.Common.map c_api_Pair), sV p0.Link, .sl false (p0.Alerts.map c_api_Alert)]] t_alert_rows h (fun x2 hy => (alert_rows_ok p0 x2 hy)) (fun x2 hy h => ?_)
      refine st_callc _ _ h (fun x3 hy => ((slices_ContainsFunc_api_Pair_api_Pair_alert_Check_1_ok x2 x3 hy).fr [] [] rfl rfl rfl)) (fun x3 hy h => ?_)
      exact JP1.a h (Le.tow 2 0 rfl (.cons rfl (.refl _) (.cons rfl (.refl _) (.cons rfl (.refl _) (.nil)))) (.refl _) rfl)
  · have h := hk
    refine st_test h (fun hb h => ?_) (fun hb h => ?_)
    · refine st_ret (t := t_alert_Check) h ?_
      exact .refl _
    · refine st_call [.agg [sV p0.Receiver, bV p0.Firing, .sl false (p0.Common.map c_api_Pair), sV p0.Link, .sl false (p0.Alerts.map c_api_Alert)]] t_alert_texts h (fun x4 hy => (alert_texts_ok p0 x4 hy)) (fun x4 hy h => ?_)
      refine st_bind h (fun y8 hy8 h => ?_)
      refine st_bind h (fun o9 ho hk => ?_)
      refine Exists.intro (JP2 _ _ o9 .normal (alert_Check_L1_x0 p0 x4) .ret (alert_Check_L1_x1 p0 x4)) (And.intro (T_le (τ := alert_Check_L1_st p0 x4 65536) ?_ (T_range (g := 96) (cap := [.ep [sV x4.Receiver, bV x4.Firing, .sl false (x4.Common.map c_api_Pair), sV x4.Link, .sl false (x4.Alerts.map c_api_Alert)]]) rfl ((alert_texts_1_ok x4 y8 hy8) _ rfl) (mapSize fun _ => rfl) rfl (Nat.le_of_ble_eq_true rfl) (Nat.le_of_ble_eq_true rfl) (alert_Check_L1_ok p0 x4 y8.1 65536 o9 ho))) (join2 (fun y10 hy => ?_) (fun y11 hy => ?_)))
      · exact Le.tow 3 0 rfl (.cons rfl (.refl _) (.cons rfl (.refl _) (.cons rfl (.refl _) (.nil)))) (.refl _) rfl
      · have h := (by rw [hy] at hk; exact hk)
        refine st_ret (t := t_alert_Check) h ?_
        exact .refl _
      · have h := (by rw [hy] at hk; exact hk)
        refine st_ret (t := t_alert_Check) h ?_
        exact .refl _
noncomputable def alert_Back (p0 : api_Val) : Option (api_Group × Bool) :=
  ( if (p0.K != 6) then
      some true
    else
      schema_Is p0 >>= fun x2 =>
      some (!x2)) >>= fun o1 =>
  if o1 then
    some ((api_Group.mk [] false [] [] []), false)
  else
    idx p0.L 0 >>= fun x3 =>
    idx p0.L 1 >>= fun x4 =>
    idx p0.L 2 >>= fun x5 =>
    alert_row x5 >>= fun x6 =>
    idx p0.L 3 >>= fun x7 =>
    idx p0.L 4 >>= fun x8 =>
    (alert_Back_L1 p0 x3 x4 x6 x7 x8 0 []) >>= fun o9 =>
    alert_Check (api_Group.mk x3.S x4.B x6 x7.S o9) >>= fun x20 =>
    if (x20 != 0) then
      some ((api_Group.mk [] false [] [] []), false)
    else
      some ((api_Group.mk x3.S x4.B x6 x7.S o9), true)
set_option maxRecDepth 100000 in
set_option maxHeartbeats 4000000 in
theorem alert_Back_ok : ∀ (p0 : api_Val) (o : api_Group × Bool), alert_Back p0 = some o → PCall Try.prog 50 [.agg [iV p0.K, sV p0.S, iV p0.N, bV p0.B, .sl false (p0.L.map c_api_Val)]] (t_alert_Back o) := by
  intro p0 o h
  unfold alert_Back at h
  refine PCall.ofB mixed tbOk alert_Back_lv Try.func50 rfl (by kernel_rfl) (Nat.le_of_ble_eq_true rfl) ?_
  refine st_bind h (fun o1 ho hk => ?_)
  refine Exists.intro (JP1 _ _ o1 .normal (alert_Back_J0_0 p0)) (And.intro ?_ (join1 ?_))
  · have h := ho
    refine st_test h (fun hb h => ?_) (fun hb h => ?_)
    · exact JP1.a h (Le.tow 2 0 rfl (.cons rfl (.refl _) (.cons rfl (.refl _) (.cons rfl (.refl _) (.nil)))) (.refl _) rfl)
    · refine st_call [.agg [iV p0.K, sV p0.S, iV p0.N, bV p0.B, .sl false (p0.L.map c_api_Val)]] t_schema_Is h (fun x2 hy => (schema_Is_ok p0 x2 hy)) (fun x2 hy h => ?_)
      exact JP1.a h (Le.tow 2 0 rfl (.cons rfl (.refl _) (.cons rfl (.refl _) (.cons rfl (.refl _) (.nil)))) (.refl _) rfl)
  · have h := hk
    refine st_test h (fun hb h => ?_) (fun hb h => ?_)
    · refine st_ret (t := t_alert_Back) h ?_
      exact .tup (xs := [.agg [sV [], bV false, .sl true [], sV [], .sl true []], bV false]) (ys := [.agg [sV [], bV false, .sl false [], sV [], .sl false []], bV false]) (.cons (.agg' (.cons (.refl _) (.cons (.refl _) (.cons (.not) (.cons (.refl _) (.cons (.not) (.nil))))))) (.cons (.refl _) (.nil)))
    · refine And.intro (by decide +kernel) (And.intro rfl ?_)
      refine st_idx (l := p0.L) (c := c_api_Val) (c' := l_api_Val) h c_api_Val_eq (fun _ => rfl) (by decide) (fun x3 hi h => ?_)
      refine st_idx (l := p0.L) (c := c_api_Val) (c' := l_api_Val) h c_api_Val_eq (fun _ => rfl) (by decide) (fun x4 hi h => ?_)
      refine st_idx (l := p0.L) (c := c_api_Val) (c' := l_api_Val) h c_api_Val_eq (fun _ => rfl) (by decide) (fun x5 hi h => ?_)
      refine st_calld [.agg [iV x5.K, sV x5.S, iV x5.N, bV x5.B, .sl false (x5.L.map c_api_Val)]] t_alert_row h (fun x6 hy => (alert_row_ok x5 x6 hy)) (fun x6 hy h => ?_)
      refine st_idx (l := p0.L) (c := c_api_Val) (c' := l_api_Val) h c_api_Val_eq (fun _ => rfl) (by decide) (fun x7 hi h => ?_)
      refine st_idx (l := p0.L) (c := c_api_Val) (c' := l_api_Val) h c_api_Val_eq (fun _ => rfl) (by decide) (fun x8 hi h => ?_)
      refine view (lenMap _ _) rfl ?_
      refine st_bind h (fun o9 ho hk => ?_)
      refine Exists.intro (JP1 _ _ o9 (.exit 0) (alert_Back_L1_x0 p0 x3 x4 x6 x7 x8)) (And.intro (T_le (τ := alert_Back_L1_st p0 x3 x4 x6 x7 x8 0 []) ?_ (TL.loop (alert_Back_L1_ok p0 x3 x4 x6 x7 x8 0 [] o9 ho))) (join1 ?_))
      · exact (Le.ownH 2 4 71 6 rfl rfl sizeNil).trans (Le.tow 3 1 rfl (.cons rfl (.refl _) (.cons rfl (.refl _) (.cons rfl (.refl _) (.cons rfl (.refl _) (.cons rfl (.refl _) (.nil)))))) (.refl _) rfl)
      have h := hk
      refine st_call [.agg [sV x3.S, bV x4.B, .sl false (x6.map c_api_Pair), sV x7.S, .sl false (o9.map c_api_Alert)]] t_alert_Check h (fun x20 hy => (alert_Check_ok (api_Group.mk x3.S x4.B x6 x7.S o9) x20 hy)) (fun x20 hy h => ?_)
      refine st_test h (fun hb h => ?_) (fun hb h => ?_)
      · refine st_ret (t := t_alert_Back) h ?_
        exact .tup (xs := [.agg [sV [], bV false, .sl true [], sV [], .sl true []], bV false]) (ys := [.agg [sV [], bV false, .sl false [], sV [], .sl false []], bV false]) (.cons (.agg' (.cons (.refl _) (.cons (.refl _) (.cons (.not) (.cons (.refl _) (.cons (.not) (.nil))))))) (.cons (.refl _) (.nil)))
      · refine st_ret (t := t_alert_Back) h ?_
        exact .refl _
noncomputable def slices_Equal_api_Pair_api_Pair_L1 (p0 : (List api_Pair)) (p1 : (List api_Pair)) (v13 : Int) : Option (Unit ⊕ Unit) :=
  if (decide (v13 < (p0.length : Int))) then
    idx p0 v13 >>= fun x4 =>
    idx p1 v13 >>= fun x5 =>
    if (!((x4.Key == x5.Key) && ((x4.Val == x5.Val) && true))) then
      some (.inr ())
    else
      slices_Equal_api_Pair_api_Pair_L1 p0 p1 (wr (v13 + 1))
  else
    some (.inl ())
  partial_fixpoint
set_option maxRecDepth 100000 in
set_option maxHeartbeats 4000000 in
theorem slices_Equal_api_Pair_api_Pair_L1_grp : ∀ (p0 : (List api_Pair)) (p1 : (List api_Pair)), (∀ (v13 : Int) (o1 : Unit ⊕ Unit), slices_Equal_api_Pair_api_Pair_L1 p0 p1 v13 = some o1 → TL (0, 0) Try.prog 26 slices_Equal_api_Pair_api_Pair_L1_c (JP2 (0, 0) 26 o1 (.exit 0) (slices_Equal_api_Pair_api_Pair_L1_x0 p0 p1) .ret (slices_Equal_api_Pair_api_Pair_L1_x1 p0 p1)) (slices_Equal_api_Pair_api_Pair_L1_st p0 p1 v13)) := by
  intro p0 p1
  refine slices_Equal_api_Pair_api_Pair_L1.partial_correctness p0 p1 _ ?_
  intro slices_Equal_api_Pair_api_Pair_L1' ih_slices_Equal_api_Pair_api_Pair_L1 v13 o1 h
  refine TL.round (bwp_sound mixed tbOk (lv := slices_Equal_api_Pair_api_Pair_lv) _ _ _ ?_)
  refine st_test h (fun hb h => ?_) (fun hb h => ?_)
  · refine And.intro (by decide +kernel) (And.intro rfl ?_)
    refine st_idx (l := p0) (c := c_api_Pair) (c' := c_api_Pair) h (fun _ => rfl) (fun _ => rfl) (by decide) (fun x4 hi h => ?_)
    refine st_idx (l := p1) (c := c_api_Pair) (c' := c_api_Pair) h (fun _ => rfl) (fun _ => rfl) (by decide) (fun x5 hi h => ?_)
    refine And.intro rfl ?_
    refine st_test h (fun hb h => ?_) (fun hb h => ?_)
    · exact JP2.b h (Le.tow 0 0 rfl (.cons rfl (.refl _) (.nil)) (.refl _) rfl)
    · refine TL.le (τ := slices_Equal_api_Pair_api_Pair_L1_st p0 p1 (wr (v13 + 1))) ?_ ((ih_slices_Equal_api_Pair_api_Pair_L1 (wr (v13 + 1)) _ h))
      exact Le.tow 0 0 rfl (.cons rfl (.refl _) (.cons rfl (.refl _) (.cons rfl (.refl _) (.cons rfl (.refl _) (.nil))))) (.refl _) rfl
  · exact JP2.a h (Le.tow 0 0 rfl (.nil) (.refl _) rfl)
theorem slices_Equal_api_Pair_api_Pair_L1_ok : ∀ (p0 : (List api_Pair)) (p1 : (List api_Pair)) (v13 : Int) (o1 : Unit ⊕ Unit), slices_Equal_api_Pair_api_Pair_L1 p0 p1 v13 = some o1 → TL (0, 0) Try.prog 26 slices_Equal_api_Pair_api_Pair_L1_c (JP2 (0, 0) 26 o1 (.exit 0) (slices_Equal_api_Pair_api_Pair_L1_x0 p0 p1) .ret (slices_Equal_api_Pair_api_Pair_L1_x1 p0 p1)) (slices_Equal_api_Pair_api_Pair_L1_st p0 p1 v13) := fun p0 p1 v13 o1 h => (slices_Equal_api_Pair_api_Pair_L1_grp p0 p1) v13 o1 h
noncomputable def slices_Equal_api_Pair_api_Pair (p0 : (List api_Pair)) (p1 : (List api_Pair)) : Option (Bool) :=
  if ((p0.length : Int) != (p1.length : Int)) then
    some false
  else
    (slices_Equal_api_Pair_api_Pair_L1 p0 p1 0) >>= fun o1 =>
    match o1 with
    | .inl y2 =>
      some true
    | .inr y3 =>
      some false
set_option maxRecDepth 100000 in
set_option maxHeartbeats 4000000 in
theorem slices_Equal_api_Pair_api_Pair_ok : ∀ (p0 : (List api_Pair)) (p1 : (List api_Pair)) (o : Bool), slices_Equal_api_Pair_api_Pair p0 p1 = some o → PCall Try.prog 88 [.sl false (p0.map c_api_Pair), .sl false (p1.map c_api_Pair)] (t_slices_Equal_api_Pair_api_Pair o) := by
  intro p0 p1 o h
  unfold slices_Equal_api_Pair_api_Pair at h
  refine PCall.ofB mixed tbOk slices_Equal_api_Pair_api_Pair_lv Try.func88 rfl (by kernel_rfl) (Nat.le_of_ble_eq_true rfl) ?_
  refine view (lenMap _ _) rfl ?_
  refine view (lenMap _ _) rfl ?_
  refine st_test h (fun hb h => ?_) (fun hb h => ?_)
  · refine st_ret (t := t_slices_Equal_api_Pair_api_Pair) h ?_
    exact .refl _
  · refine view (lenMap _ _) rfl ?_
    refine st_bind h (fun o1 ho hk => ?_)
    refine Exists.intro (JP2 _ _ o1 (.exit 0) (slices_Equal_api_Pair_api_Pair_L1_x0 p0 p1) .ret (slices_Equal_api_Pair_api_Pair_L1_x1 p0 p1)) (And.intro (T_le (τ := slices_Equal_api_Pair_api_Pair_L1_st p0 p1 0) ?_ (TL.loop (slices_Equal_api_Pair_api_Pair_L1_ok p0 p1 0 o1 ho))) (join2 (fun y2 hy => ?_) (fun y3 hy => ?_)))
    · exact Le.tow 0 0 rfl (.cons rfl (.refl _) (.cons rfl (.refl _) (.cons rfl (.refl _) (.cons rfl (.refl _) (.nil))))) (.refl _) rfl
    · have h := (by rw [hy] at hk; exact hk)
      refine st_ret (t := t_slices_Equal_api_Pair_api_Pair) h ?_
      exact .refl _
    · have h := (by rw [hy] at hk; exact hk)
      refine st_ret (t := t_slices_Equal_api_Pair_api_Pair) h ?_
      exact .refl _
noncomputable def alert_Same_1 (p0 : api_Alert) (p1 : api_Alert) : Option (Bool) :=
  ( if (p0.Firing == p1.Firing) then
      if (p0.Starts == p1.Starts) then
        if (p0.Value == p1.Value) then
          if (p0.Link == p1.Link) then
            slices_Equal_api_Pair_api_Pair p0.Labels p1.Labels >>= fun x2 =>
            if x2 then
              slices_Equal_api_Pair_api_Pair p0.Notes p1.Notes >>= fun x3 =>
              some x3
            else
              some false
          else
            some false
        else
          some false
      else
        some false
    else
      some false) >>= fun o1 =>
  some o1
set_option maxRecDepth 100000 in
set_option maxHeartbeats 4000000 in
theorem alert_Same_1_ok : ∀ (p0 : api_Alert) (p1 : api_Alert) (o : Bool), alert_Same_1 p0 p1 = some o → PCall Try.prog 90 [.agg [bV p0.Firing, iV p0.Starts, iV p0.Value, .sl false (p0.Labels.map c_api_Pair), .sl false (p0.Notes.map c_api_Pair), sV p0.Link], .agg [bV p1.Firing, iV p1.Starts, iV p1.Value, .sl false (p1.Labels.map c_api_Pair), .sl false (p1.Notes.map c_api_Pair), sV p1.Link]] (t_alert_Same_1 o) := by
  intro p0 p1 o h
  unfold alert_Same_1 at h
  refine PCall.ofB mixed tbOk alert_Same_1_lv Try.func90 rfl (by kernel_rfl) (Nat.le_of_ble_eq_true rfl) ?_
  refine st_bind h (fun o1 ho hk => ?_)
  refine Exists.intro (JP1 _ _ o1 .normal (alert_Same_1_J0_0 p0 p1)) (And.intro ?_ (join1 ?_))
  · have h := ho
    refine st_test h (fun hb h => ?_) (fun hb h => ?_)
    · refine st_test h (fun hb h => ?_) (fun hb h => ?_)
      · refine st_test h (fun hb h => ?_) (fun hb h => ?_)
        · refine st_test h (fun hb h => ?_) (fun hb h => ?_)
          · refine st_call [.sl false (p0.Labels.map c_api_Pair), .sl false (p1.Labels.map c_api_Pair)] t_slices_Equal_api_Pair_api_Pair h (fun x2 hy => (slices_Equal_api_Pair_api_Pair_ok p0.Labels p1.Labels x2 hy)) (fun x2 hy h => ?_)
            refine st_test h (fun hb h => ?_) (fun hb h => ?_)
            · refine st_call [.sl false (p0.Notes.map c_api_Pair), .sl false (p1.Notes.map c_api_Pair)] t_slices_Equal_api_Pair_api_Pair h (fun x3 hy => (slices_Equal_api_Pair_api_Pair_ok p0.Notes p1.Notes x3 hy)) (fun x3 hy h => ?_)
              exact JP1.a h (Le.tow 2 0 rfl (.cons rfl (.refl _) (.nil)) (.refl _) rfl)
            · exact JP1.a h (Le.tow 2 0 rfl (.cons rfl (.refl _) (.nil)) (.refl _) rfl)
          · refine bF ?_
            exact JP1.a h (Le.tow 2 0 rfl (.cons rfl (.refl _) (.nil)) (.refl _) rfl)
        · refine bF ?_
          refine bF ?_
          exact JP1.a h (Le.tow 2 0 rfl (.cons rfl (.refl _) (.nil)) (.refl _) rfl)
      · refine bF ?_
        refine bF ?_
        refine bF ?_
        exact JP1.a h (Le.tow 2 0 rfl (.cons rfl (.refl _) (.nil)) (.refl _) rfl)
    · refine bF ?_
      refine bF ?_
      refine bF ?_
      refine bF ?_
      exact JP1.a h (Le.tow 2 0 rfl (.cons rfl (.refl _) (.nil)) (.refl _) rfl)
  · have h := hk
    refine st_ret (t := t_alert_Same_1) h ?_
    exact .refl _
noncomputable def slices_EqualFunc_api_Alert_api_Alert_api_Alert_api_Alert_alert_Same_1_L1 (p0 : (List api_Alert)) (p1 : (List api_Alert)) (v17 : Int) : Option (Unit ⊕ Unit) :=
  if (decide (v17 < (p0.length : Int))) then
    idx p0 v17 >>= fun x4 =>
    idx p1 v17 >>= fun x5 =>
    alert_Same_1 x4 x5 >>= fun x6 =>
    if (!x6) then
      some (.inr ())
    else
      slices_EqualFunc_api_Alert_api_Alert_api_Alert_api_Alert_alert_Same_1_L1 p0 p1 (wr (v17 + 1))
  else
    some (.inl ())
  partial_fixpoint
set_option maxRecDepth 100000 in
set_option maxHeartbeats 4000000 in
theorem slices_EqualFunc_api_Alert_api_Alert_api_Alert_api_Alert_alert_Same_1_L1_grp : ∀ (p0 : (List api_Alert)) (p1 : (List api_Alert)), (∀ (v17 : Int) (o1 : Unit ⊕ Unit), slices_EqualFunc_api_Alert_api_Alert_api_Alert_api_Alert_alert_Same_1_L1 p0 p1 v17 = some o1 → TL (0, 0) Try.prog 32 slices_EqualFunc_api_Alert_api_Alert_api_Alert_api_Alert_alert_Same_1_L1_c (JP2 (0, 0) 32 o1 (.exit 0) (slices_EqualFunc_api_Alert_api_Alert_api_Alert_api_Alert_alert_Same_1_L1_x0 p0 p1) .ret (slices_EqualFunc_api_Alert_api_Alert_api_Alert_api_Alert_alert_Same_1_L1_x1 p0 p1)) (slices_EqualFunc_api_Alert_api_Alert_api_Alert_api_Alert_alert_Same_1_L1_st p0 p1 v17)) := by
  intro p0 p1
  refine slices_EqualFunc_api_Alert_api_Alert_api_Alert_api_Alert_alert_Same_1_L1.partial_correctness p0 p1 _ ?_
  intro slices_EqualFunc_api_Alert_api_Alert_api_Alert_api_Alert_alert_Same_1_L1' ih_slices_EqualFunc_api_Alert_api_Alert_api_Alert_api_Alert_alert_Same_1_L1 v17 o1 h
  refine TL.round (bwp_sound mixed tbOk (lv := slices_EqualFunc_api_Alert_api_Alert_api_Alert_api_Alert_alert_Same_1_lv) _ _ _ ?_)
  refine st_test h (fun hb h => ?_) (fun hb h => ?_)
  · refine st_idx (l := p0) (c := c_api_Alert) (c' := c_api_Alert) h (fun _ => rfl) (fun _ => rfl) (by decide) (fun x4 hi h => ?_)
    refine st_idx (l := p1) (c := c_api_Alert) (c' := c_api_Alert) h (fun _ => rfl) (fun _ => rfl) (by decide) (fun x5 hi h => ?_)
    refine st_call [.agg [bV x4.Firing, iV x4.Starts, iV x4.Value, .sl false (x4.Labels.map c_api_Pair), .sl false (x4.Notes.map c_api_Pair), sV x4.Link], .agg [bV x5.Firing, iV x5.Starts, iV x5.Value, .sl false (x5.Labels.map c_api_Pair), .sl false (x5.Notes.map c_api_Pair), sV x5.Link]] t_alert_Same_1 h (fun x6 hy => (alert_Same_1_ok x4 x5 x6 hy)) (fun x6 hy h => ?_)
    refine st_test h (fun hb h => ?_) (fun hb h => ?_)
    · exact JP2.b h (Le.tow 0 0 rfl (.cons rfl (.refl _) (.nil)) (.refl _) rfl)
    · refine TL.le (τ := slices_EqualFunc_api_Alert_api_Alert_api_Alert_api_Alert_alert_Same_1_L1_st p0 p1 (wr (v17 + 1))) ?_ ((ih_slices_EqualFunc_api_Alert_api_Alert_api_Alert_api_Alert_alert_Same_1_L1 (wr (v17 + 1)) _ h))
      exact Le.tow 0 0 rfl (.cons rfl (.refl _) (.cons rfl (.refl _) (.cons rfl (.refl _) (.cons rfl (.refl _) (.cons rfl (.refl _) (.nil)))))) (.refl _) rfl
  · exact JP2.a h (Le.tow 0 0 rfl (.nil) (.refl _) rfl)
theorem slices_EqualFunc_api_Alert_api_Alert_api_Alert_api_Alert_alert_Same_1_L1_ok : ∀ (p0 : (List api_Alert)) (p1 : (List api_Alert)) (v17 : Int) (o1 : Unit ⊕ Unit), slices_EqualFunc_api_Alert_api_Alert_api_Alert_api_Alert_alert_Same_1_L1 p0 p1 v17 = some o1 → TL (0, 0) Try.prog 32 slices_EqualFunc_api_Alert_api_Alert_api_Alert_api_Alert_alert_Same_1_L1_c (JP2 (0, 0) 32 o1 (.exit 0) (slices_EqualFunc_api_Alert_api_Alert_api_Alert_api_Alert_alert_Same_1_L1_x0 p0 p1) .ret (slices_EqualFunc_api_Alert_api_Alert_api_Alert_api_Alert_alert_Same_1_L1_x1 p0 p1)) (slices_EqualFunc_api_Alert_api_Alert_api_Alert_api_Alert_alert_Same_1_L1_st p0 p1 v17) := fun p0 p1 v17 o1 h => (slices_EqualFunc_api_Alert_api_Alert_api_Alert_api_Alert_alert_Same_1_L1_grp p0 p1) v17 o1 h
noncomputable def slices_EqualFunc_api_Alert_api_Alert_api_Alert_api_Alert_alert_Same_1 (p0 : (List api_Alert)) (p1 : (List api_Alert)) : Option (Bool) :=
  if ((p0.length : Int) != (p1.length : Int)) then
    some false
  else
    (slices_EqualFunc_api_Alert_api_Alert_api_Alert_api_Alert_alert_Same_1_L1 p0 p1 0) >>= fun o1 =>
    match o1 with
    | .inl y2 =>
      some true
    | .inr y3 =>
      some false
set_option maxRecDepth 100000 in
set_option maxHeartbeats 4000000 in
theorem slices_EqualFunc_api_Alert_api_Alert_api_Alert_api_Alert_alert_Same_1_ok : ∀ (p0 : (List api_Alert)) (p1 : (List api_Alert)) (o : Bool), slices_EqualFunc_api_Alert_api_Alert_api_Alert_api_Alert_alert_Same_1 p0 p1 = some o → CallOK Try.prog 89 [.p (.sl false (p0.map c_api_Alert)), .p (.sl false (p1.map c_api_Alert)), .fn (.func 90) [] []] ⟨[], []⟩ (t_slices_EqualFunc_api_Alert_api_Alert_api_Alert_api_Alert_alert_Same_1 o) ⟨[], []⟩ := by
  intro p0 p1 o h
  unfold slices_EqualFunc_api_Alert_api_Alert_api_Alert_api_Alert_alert_Same_1 at h
  refine CallOK.ofB mixed tbOk slices_EqualFunc_api_Alert_api_Alert_api_Alert_api_Alert_alert_Same_1_lv Try.func89 rfl (by kernel_rfl) (Nat.le_of_ble_eq_true rfl) rfl rfl rfl ?_
  refine view (lenMap _ _) rfl ?_
  refine view (lenMap _ _) rfl ?_
  refine st_test h (fun hb h => ?_) (fun hb h => ?_)
  · refine Exists.intro _ (And.intro (Le.refl _ _ _) ?_)
    exact st_retc (t := t_slices_EqualFunc_api_Alert_api_Alert_api_Alert_api_Alert_alert_Same_1) (ss := fun o => ⟨[], []⟩) h ⟨[], rfl, .refl _, .refl _, rfl⟩
  · refine view (lenMap _ _) rfl ?_
    refine st_bind h (fun o1 ho hk => ?_)
    refine Exists.intro (JP2 _ _ o1 (.exit 0) (slices_EqualFunc_api_Alert_api_Alert_api_Alert_api_Alert_alert_Same_1_L1_x0 p0 p1) .ret (slices_EqualFunc_api_Alert_api_Alert_api_Alert_api_Alert_alert_Same_1_L1_x1 p0 p1)) (And.intro (T_le (τ := slices_EqualFunc_api_Alert_api_Alert_api_Alert_api_Alert_alert_Same_1_L1_st p0 p1 0) ?_ (TL.loop (slices_EqualFunc_api_Alert_api_Alert_api_Alert_api_Alert_alert_Same_1_L1_ok p0 p1 0 o1 ho))) (join2 (fun y2 hy => ?_) (fun y3 hy => ?_)))
    · exact Le.tow 0 0 rfl (.cons rfl (.refl _) (.cons rfl (.refl _) (.cons rfl (.refl _) (.cons rfl (.refl _) (.cons rfl (.refl _) (.nil)))))) (.refl _) rfl
    · have h := (by rw [hy] at hk; exact hk)
      refine Exists.intro _ (And.intro (Le.refl _ _ _) ?_)
      exact st_retc (t := t_slices_EqualFunc_api_Alert_api_Alert_api_Alert_api_Alert_alert_Same_1) (ss := fun o => ⟨[], []⟩) h ⟨[], rfl, .refl _, .refl _, rfl⟩
    · have h := (by rw [hy] at hk; exact hk)
      refine Exists.intro _ (And.intro (Le.refl _ _ _) ?_)
      exact st_retc (t := t_slices_EqualFunc_api_Alert_api_Alert_api_Alert_api_Alert_alert_Same_1) (ss := fun o => ⟨[], []⟩) h ⟨[], rfl, .refl _, .refl _, rfl⟩
noncomputable def alert_Same (p0 : api_Group) (p1 : api_Group) : Option (Bool) :=
  ( if (p0.Receiver == p1.Receiver) then
      if (p0.Firing == p1.Firing) then
        if (p0.Link == p1.Link) then
          slices_Equal_api_Pair_api_Pair p0.Common p1.Common >>= fun x2 =>
          if x2 then
            slices_EqualFunc_api_Alert_api_Alert_api_Alert_api_Alert_alert_Same_1 p0.Alerts p1.Alerts >>= fun x3 =>
            some x3
          else
            some false
        else
          some false
      else
        some false
    else
      some false) >>= fun o1 =>
  some o1
set_option maxRecDepth 100000 in
set_option maxHeartbeats 4000000 in
theorem alert_Same_ok : ∀ (p0 : api_Group) (p1 : api_Group) (o : Bool), alert_Same p0 p1 = some o → PCall Try.prog 53 [.agg [sV p0.Receiver, bV p0.Firing, .sl false (p0.Common.map c_api_Pair), sV p0.Link, .sl false (p0.Alerts.map c_api_Alert)], .agg [sV p1.Receiver, bV p1.Firing, .sl false (p1.Common.map c_api_Pair), sV p1.Link, .sl false (p1.Alerts.map c_api_Alert)]] (t_alert_Same o) := by
  intro p0 p1 o h
  unfold alert_Same at h
  refine PCall.ofB mixed tbOk alert_Same_lv Try.func53 rfl (by kernel_rfl) (Nat.le_of_ble_eq_true rfl) ?_
  refine st_bind h (fun o1 ho hk => ?_)
  refine Exists.intro (JP1 _ _ o1 .normal (alert_Same_J0_0 p0 p1)) (And.intro ?_ (join1 ?_))
  · have h := ho
    refine st_test h (fun hb h => ?_) (fun hb h => ?_)
    · refine st_test h (fun hb h => ?_) (fun hb h => ?_)
      · refine st_test h (fun hb h => ?_) (fun hb h => ?_)
        · refine st_call [.sl false (p0.Common.map c_api_Pair), .sl false (p1.Common.map c_api_Pair)] t_slices_Equal_api_Pair_api_Pair h (fun x2 hy => (slices_Equal_api_Pair_api_Pair_ok p0.Common p1.Common x2 hy)) (fun x2 hy h => ?_)
          refine st_test h (fun hb h => ?_) (fun hb h => ?_)
          · refine st_callc _ _ h (fun x3 hy => ((slices_EqualFunc_api_Alert_api_Alert_api_Alert_api_Alert_alert_Same_1_ok p0.Alerts p1.Alerts x3 hy).fr [] [] rfl rfl rfl)) (fun x3 hy h => ?_)
            exact JP1.a h (Le.tow 2 0 rfl (.cons rfl (.refl _) (.nil)) (.refl _) rfl)
          · exact JP1.a h (Le.tow 2 0 rfl (.cons rfl (.refl _) (.nil)) (.refl _) rfl)
        · refine bF ?_
          exact JP1.a h (Le.tow 2 0 rfl (.cons rfl (.refl _) (.nil)) (.refl _) rfl)
      · refine bF ?_
        refine bF ?_
        exact JP1.a h (Le.tow 2 0 rfl (.cons rfl (.refl _) (.nil)) (.refl _) rfl)
    · refine bF ?_
      refine bF ?_
      refine bF ?_
      exact JP1.a h (Le.tow 2 0 rfl (.cons rfl (.refl _) (.nil)) (.refl _) rfl)
  · have h := hk
    refine st_ret (t := t_alert_Same) h ?_
    exact .refl _
noncomputable def alert_record_pairs_L1 (p1 : (List api_Pair)) (h0_0 : (List api_Val)) (v10 : Int) (h1_4 : (List api_Val)) : Option ((List api_Val)) :=
  if (decide (v10 < (p1.length : Int))) then
    idx p1 v10 >>= fun x2 =>
    schema_Pair x2.Key x2.Val >>= fun x3 =>
    appL 64 h1_4 [x3] >>= fun x4 =>
    alert_record_pairs_L1 p1 h0_0 (wr (v10 + 1)) x4
  else
    some h1_4
  partial_fixpoint
set_option maxRecDepth 100000 in
set_option maxHeartbeats 4000000 in
theorem alert_record_pairs_L1_grp : ∀ (p1 : (List api_Pair)) (h0_0 : (List api_Val)), (∀ (v10 : Int) (h1_4 : (List api_Val)) (o1 : (List api_Val)), alert_record_pairs_L1 p1 h0_0 v10 h1_4 = some o1 → TL (1, 1) Try.prog 36 alert_record_pairs_L1_c (JP1 (1, 1) 36 o1 (.exit 0) (alert_record_pairs_L1_x0 p1 h0_0)) (alert_record_pairs_L1_st p1 h0_0 v10 h1_4)) := by
  intro p1 h0_0
  refine alert_record_pairs_L1.partial_correctness p1 h0_0 _ ?_
  intro alert_record_pairs_L1' ih_alert_record_pairs_L1 v10 h1_4 o1 h
  refine TL.round (bwp_sound mixed tbOk (lv := alert_record_pairs_lv) _ _ _ ?_)
  refine st_test h (fun hb h => ?_) (fun hb h => ?_)
  · refine st_idx (l := p1) (c := c_api_Pair) (c' := c_api_Pair) h (fun _ => rfl) (fun _ => rfl) (by decide) (fun x2 hi h => ?_)
    refine And.intro (by decide +kernel) (And.intro rfl ?_)
    refine st_calld [sV x2.Key, sV x2.Val] t_schema_Pair h (fun x3 hy => (schema_Pair_ok x2.Key x2.Val x3 hy)) (fun x3 hy h => ?_)
    refine st_appo (a := h1_4) (b := [x3]) (c := c_api_Val) h (.cons (.ceq (c_api_Val_eq _) (.refl _)) (.nil)) (fun x => by rw [c_api_Val_eq]; rfl) rfl (fun x4 hi h => ?_)
    refine TL.le (τ := alert_record_pairs_L1_st p1 h0_0 (wr (v10 + 1)) x4) ?_ ((ih_alert_record_pairs_L1 (wr (v10 + 1)) x4 _ h))
    exact Le.tow 2 2 rfl (.cons rfl (.refl _) (.cons rfl (.refl _) (.cons rfl (.refl _) (.cons rfl (.refl _) (.cons rfl (.refl _) (.nil)))))) (.refl _) rfl
  · exact JP1.a h (Le.tow 2 2 rfl (.cons rfl (.refl _) (.cons rfl (.refl _) (.nil))) (.refl _) rfl)
theorem alert_record_pairs_L1_ok : ∀ (p1 : (List api_Pair)) (h0_0 : (List api_Val)) (v10 : Int) (h1_4 : (List api_Val)) (o1 : (List api_Val)), alert_record_pairs_L1 p1 h0_0 v10 h1_4 = some o1 → TL (1, 1) Try.prog 36 alert_record_pairs_L1_c (JP1 (1, 1) 36 o1 (.exit 0) (alert_record_pairs_L1_x0 p1 h0_0)) (alert_record_pairs_L1_st p1 h0_0 v10 h1_4) := fun p1 h0_0 v10 h1_4 o1 h => (alert_record_pairs_L1_grp p1 h0_0) v10 h1_4 o1 h
noncomputable def alert_record_pairs (p1 : (List api_Pair)) (h0_0 : (List api_Val)) : Option ((List api_Val)) :=
  (alert_record_pairs_L1 p1 h0_0 0 []) >>= fun o1 =>
  appL 64 h0_0 [(api_Val.mk 8 [] 0 false o1)] >>= fun x5 =>
  some x5
set_option maxRecDepth 100000 in
set_option maxHeartbeats 4000000 in
theorem alert_record_pairs_ok : ∀ (p1 : (List api_Pair)) (h0_0 : (List api_Val)) (o : (List api_Val)), alert_record_pairs p1 h0_0 = some o → CallOK Try.prog 81 [.ptr 0 0, .p (.sl false (p1.map c_api_Pair))] ⟨[[.own 0 27 5 (h0_0.map c_api_Val)]], [(h0_0.map c_api_Val).length]⟩ (t_alert_record_pairs o) ⟨[[.own 0 27 5 (o.map c_api_Val)]], [(o.map c_api_Val).length]⟩ := by
  intro p1 h0_0 o h
  unfold alert_record_pairs at h
  refine CallOK.ofB mixed tbOk alert_record_pairs_lv Try.func81 rfl (by kernel_rfl) (Nat.le_of_ble_eq_true rfl) rfl rfl rfl ?_
  refine view (lenMap _ _) rfl ?_
  refine st_bind h (fun o1 ho hk => ?_)
  refine Exists.intro (JP1 _ _ o1 (.exit 0) (alert_record_pairs_L1_x0 p1 h0_0)) (And.intro (T_le (τ := alert_record_pairs_L1_st p1 h0_0 0 []) ?_ (TL.loop (alert_record_pairs_L1_ok p1 h0_0 0 [] o1 ho))) (join1 ?_))
  · exact (Le.ownH 1 4 27 5 rfl rfl sizeNil).trans (Le.tow 2 2 rfl (.cons rfl (.refl _) (.cons rfl (.refl _) (.cons rfl (.refl _) (.cons rfl (.refl _) (.cons rfl (.refl _) (.nil)))))) (.refl _) rfl)
  have h := hk
  refine And.intro (by decide +kernel) (And.intro (by decide +kernel) (And.intro rfl ?_))
  refine view (lenMap _ _) rfl ?_
  refine st_bind h (fun x5 hi h => ?_)
  have hB := apvB (c := c_api_Val) (vs := [iV 8, sV [], iV 0, bV false, .sl false (o1.map c_api_Val)]) hi (.ceq (c_api_Val_eq _) (.refl _))
  refine Exists.intro _ (And.intro (Apv.mk (o0 := ?o0) (o1 := ?o1) (o2 := ?o2) (o3 := ?o3) (o4 := ?o4) (o5 := ?o5) (c := ?c) (ox := ?ox) (oy := ?oy) (ti := ?ti) (te := ?te) (tp := ?tp) (tf := ?tf) (ti2 := ?ti2) (fields := ?fields) (fd := ?fd) (t1 := 25) (x1 := 32) (xi := 30) (e := 27) (x2 := 33) (xv := 29) (xp := 25) (x3 := 34) (ft := 114) (f := 0) (x4 := 35) (t2 := 25) (tk := 0) (nm := 0) (off := 0) (k := .i64) (n := (h0_0.length : Int)) (es := h0_0.map c_api_Val) (es' := x5.map c_api_Val) (fl := true) (zs := [iV 0, sV [], iV 0, bV false, .sl true []]) (vs := [iV 8, sV [], iV 0, bV false, .sl false (o1.map c_api_Val)]) (dv := .p (.agg [iV 8, sV [], iV 0, bV false, .sl false (o1.map c_api_Val)])) (cs := [.p (iV 8), .p (sV []), .p (iV 0), .p (bV false), .p (.sl false (o1.map c_api_Val))]) (ds := [.own 0 27 5 (h0_0.map c_api_Val)]) ?ho ?hf ?ex ?ey ?ei ?hn ?hv ?hcs ?hvs ?hp ?ht ?hd ?he ?hz ?hz0 ?hl ?hzs ?hvl ?hby ?hmax ?hft ?hfd ?hff ?htf ?hfz ?ht2 ?h2 ?hds ?hoff ?hle) ?_)
  case ho =>
    refine ⟨?_, ?_, ?_, ?_, ?_, ?_, ?_, ?_, ?_, ?_, ?_, ?_, ?_, ?_, ?_, ?_, ?_, ?_, ?_⟩
    exact rfl
    exact rfl
    exact rfl
    exact rfl
    exact rfl
    exact rfl
    exact rfl
    exact rfl
    exact rfl
    exact rfl
    exact rfl
    exact rfl
    exact rfl
    exact rfl
    exact rfl
    exact rfl
    exact rfl
    · decide
    · decide
  case ht => exact rfl
  case hd => exact rfl
  case he => exact rfl
  case hft => exact rfl
  case hfd => exact rfl
  case hff => exact rfl
  case htf => exact rfl
  case ht2 => exact rfl
  case h2 => exact rfl
  case ex => exact rfl
  case ey => exact rfl
  case ei => exact rfl
  case hv => exact rfl
  case hcs => exact rfl
  case hvs => exact rfl
  case hp => exact rfl
  case hf => exact rfl
  case hz => exact rfl
  case hl => exact rfl
  case hzs => exact rfl
  case hvl => exact rfl
  case hds => exact rfl
  case hz0 => exact Nat.le_of_ble_eq_true rfl
  case hn => simp
  case hby => exact hB.1
  case hmax => exact hB.2.1
  case hle => exact hB.2.2
  case hfz => exact (by decide)
  case hoff => exact Nat.le_of_ble_eq_true rfl
  refine Exists.intro _ (And.intro (Le.refl _ _ _) ?_)
  exact st_retc (t := t_alert_record_pairs) (ss := fun o => ⟨[[.own 0 27 5 (o.map c_api_Val)]], [(o.map c_api_Val).length]⟩) h ⟨[0], rfl, .refl _, .refl _, rfl⟩
noncomputable def alert_record_put (p1 : (List api_Val)) (h0_0 : (List api_Val)) : Option ((List api_Val)) :=
  appL 64 h0_0 p1 >>= fun x1 =>
  some x1
set_option maxRecDepth 100000 in
set_option maxHeartbeats 4000000 in
theorem alert_record_put_ok : ∀ (p1 : (List api_Val)) (h0_0 : (List api_Val)) (o : (List api_Val)), alert_record_put p1 h0_0 = some o → CallOK Try.prog 80 [.ptr 0 0, .p (.sl false (p1.map c_api_Val))] ⟨[[.p (.sl true (h0_0.map c_api_Val))]], []⟩ (t_alert_record_put o) ⟨[[.own 0 27 5 (o.map c_api_Val)]], [(o.map c_api_Val).length]⟩ := by
  intro p1 h0_0 o h
  unfold alert_record_put at h
  refine CallOK.ofB mixed tbOk alert_record_put_lv Try.func80 rfl (by kernel_rfl) (Nat.le_of_ble_eq_true rfl) rfl rfl rfl ?_
  refine st_appf (a := (h0_0 : List api_Val)) (b := p1) (c := c_api_Val) h (.refl _) (.refl _) (fun x => by rw [c_api_Val_eq]; rfl) (fun x1 hi h => ?_)
  refine Exists.intro _ (And.intro (Le.refl _ _ _) ?_)
  exact st_retc (t := t_alert_record_put) (ss := fun o => ⟨[[.own 0 27 5 (o.map c_api_Val)]], [(o.map c_api_Val).length]⟩) h ⟨[0], rfl, .refl _, .refl _, rfl⟩
noncomputable def alert_record_put_2 (p1 : (List api_Val)) (h0_0 : (List api_Val)) : Option ((List api_Val)) :=
  appL 64 h0_0 p1 >>= fun x1 =>
  some x1
set_option maxRecDepth 100000 in
set_option maxHeartbeats 4000000 in
theorem alert_record_put_2_ok : ∀ (p1 : (List api_Val)) (h0_0 : (List api_Val)) (o : (List api_Val)), alert_record_put_2 p1 h0_0 = some o → CallOK Try.prog 80 [.ptr 0 0, .p (.sl false (p1.map c_api_Val))] ⟨[[.own 0 27 5 (h0_0.map c_api_Val)]], [(h0_0.map c_api_Val).length]⟩ (t_alert_record_put_2 o) ⟨[[.own 0 27 5 (o.map c_api_Val)]], [(o.map c_api_Val).length]⟩ := by
  intro p1 h0_0 o h
  unfold alert_record_put_2 at h
  refine CallOK.ofB mixed tbOk alert_record_put_2_lv Try.func80 rfl (by kernel_rfl) (Nat.le_of_ble_eq_true rfl) rfl rfl rfl ?_
  refine st_appo (a := h0_0) (b := p1) (c := c_api_Val) h (.refl _) (fun x => by rw [c_api_Val_eq]; rfl) rfl (fun x1 hi h => ?_)
  refine Exists.intro _ (And.intro (Le.refl _ _ _) ?_)
  exact st_retc (t := t_alert_record_put_2) (ss := fun o => ⟨[[.own 0 27 5 (o.map c_api_Val)]], [(o.map c_api_Val).length]⟩) h ⟨[0], rfl, .refl _, .refl _, rfl⟩
noncomputable def alert_one_val (p1 : api_Alert) (h0_0 : (List api_Val)) : Option (api_Val × (List api_Val)) :=
  schema_Truth p1.Firing >>= fun x1 =>
  schema_Number p1.Starts >>= fun x2 =>
  schema_Number p1.Value >>= fun x3 =>
  alert_record_put [x1, x2, x3] h0_0 >>= fun x4 =>
  alert_record_pairs p1.Labels x4 >>= fun x5 =>
  alert_record_pairs p1.Notes x5 >>= fun x6 =>
  schema_Text p1.Link >>= fun x7 =>
  alert_record_put_2 [x7] x6 >>= fun x8 =>
  some ((api_Val.mk 5 [] 0 false x8), x8)
set_option maxRecDepth 100000 in
set_option maxHeartbeats 4000000 in
theorem alert_one_val_ok : ∀ (p1 : api_Alert) (h0_0 : (List api_Val)) (o : api_Val × (List api_Val)), alert_one_val p1 h0_0 = some o → CallOK Try.prog 79 [.ptr 0 0, .p (.agg [bV p1.Firing, iV p1.Starts, iV p1.Value, .sl false (p1.Labels.map c_api_Pair), .sl false (p1.Notes.map c_api_Pair), sV p1.Link])] ⟨[[.p (.sl true (h0_0.map c_api_Val))]], []⟩ (t_alert_one_val o) ⟨[[.own 0 27 5 (o.2.map c_api_Val)]], [(o.2.map c_api_Val).length]⟩ := by
  intro p1 h0_0 o h
  unfold alert_one_val at h
  refine CallOK.ofB mixed tbOk alert_one_val_lv Try.func79 rfl (by kernel_rfl) (Nat.le_of_ble_eq_true rfl) rfl rfl rfl ?_
  refine And.intro (by decide +kernel) (And.intro rfl ?_)
  refine st_calld [bV p1.Firing] t_schema_Truth h (fun x1 hy => (schema_Truth_ok p1.Firing x1 hy)) (fun x1 hy h => ?_)
  refine st_calld [iV p1.Starts] t_schema_Number h (fun x2 hy => (schema_Number_ok p1.Starts x2 hy)) (fun x2 hy h => ?_)
  refine st_calld [iV p1.Value] t_schema_Number h (fun x3 hy => (schema_Number_ok p1.Value x3 hy)) (fun x3 hy h => ?_)
  refine st_callh _ _ h (fun x4 hy => ((alert_record_put_ok [x1, x2, x3] h0_0 x4 hy).fr [0] [] rfl rfl rfl).weakC (.cons (.refl _) (.cons (.p (.no (.cons (.ceq (c_api_Val_eq _) (.refl _)) (.cons (.ceq (c_api_Val_eq _) (.refl _)) (.cons (.ceq (c_api_Val_eq _) (.refl _)) (.nil)))))) (.nil)))) (fun x4 => Nat.le_of_ble_eq_true rfl) (fun x4 hy h => ?_)
  refine And.intro (by decide +kernel) (And.intro rfl ?_)
  refine st_callh _ _ h (fun x5 hy => ((alert_record_pairs_ok p1.Labels x4 x5 hy).fr [0] [0] rfl rfl rfl)) (fun x5 => Nat.le_of_ble_eq_true rfl) (fun x5 hy h => ?_)
  refine And.intro (by decide +kernel) (And.intro rfl ?_)
  refine st_callh _ _ h (fun x6 hy => ((alert_record_pairs_ok p1.Notes x5 x6 hy).fr [0] [0] rfl rfl rfl)) (fun x6 => Nat.le_of_ble_eq_true rfl) (fun x6 hy h => ?_)
  refine And.intro (by decide +kernel) (And.intro rfl ?_)
  refine st_calld [sV p1.Link] t_schema_Text h (fun x7 hy => (schema_Text_ok p1.Link x7 hy)) (fun x7 hy h => ?_)
  refine st_callh _ _ h (fun x8 hy => ((alert_record_put_2_ok [x7] x6 x8 hy).fr [0] [0] rfl rfl rfl).weakC (.cons (.refl _) (.cons (.p (.no (.cons (.ceq (c_api_Val_eq _) (.refl _)) (.nil)))) (.nil)))) (fun x8 => Nat.le_of_ble_eq_true rfl) (fun x8 hy h => ?_)
  refine Exists.intro _ (And.intro (Le.refl _ _ _) ?_)
  exact st_retc (t := t_alert_one_val) (ss := fun o => ⟨[[.own 0 27 5 (o.2.map c_api_Val)]], [(o.2.map c_api_Val).length]⟩) h ⟨[0], rfl, .refl _, .refl _, rfl⟩
noncomputable def alert_Val_L1 (p0 : api_Group) (v19 : Int) (h2_4 : (List api_Val)) : Option ((List api_Val)) :=
  if (decide (v19 < (p0.Alerts.length : Int))) then
    idx p0.Alerts v19 >>= fun x3 =>
    alert_one_val x3 [] >>= fun x4 =>
    appL 64 h2_4 [x4.1] >>= fun x5 =>
    alert_Val_L1 p0 (wr (v19 + 1)) x5
  else
    some h2_4
  partial_fixpoint
set_option maxRecDepth 100000 in
set_option maxHeartbeats 4000000 in
theorem alert_Val_L1_grp : ∀ (p0 : api_Group), (∀ (v19 : Int) (h2_4 : (List api_Val)) (o2 : (List api_Val)), alert_Val_L1 p0 v19 h2_4 = some o2 → TL (0, 0) Try.prog 52 alert_Val_L1_c (JP1 (0, 0) 52 o2 (.exit 0) (alert_Val_L1_x0 p0)) (alert_Val_L1_st p0 v19 h2_4)) := by
  intro p0
  refine alert_Val_L1.partial_correctness p0 _ ?_
  intro alert_Val_L1' ih_alert_Val_L1 v19 h2_4 o2 h
  refine TL.round (bwp_sound mixed tbOk (lv := alert_Val_lv) _ _ _ ?_)
  refine st_test h (fun hb h => ?_) (fun hb h => ?_)
  · refine st_idx (l := p0.Alerts) (c := c_api_Alert) (c' := c_api_Alert) h (fun _ => rfl) (fun _ => rfl) (by decide) (fun x3 hi h => ?_)
    refine And.intro (by decide +kernel) (And.intro rfl ?_)
    refine st_callf _ _ h (fun x4 hy => ((alert_one_val_ok x3 [] x4 hy).ff [4] [] rfl rfl rfl rfl (Nat.le_of_ble_eq_true rfl))) (fun x4 hy h => ?_)
    refine st_appo (a := h2_4) (b := [x4.1]) (c := c_api_Val) h (.cons (.ceq (c_api_Val_eq _) (.refl _)) (.nil)) (fun x => by rw [c_api_Val_eq]; rfl) rfl (fun x5 hi h => ?_)
    refine TL.le (τ := alert_Val_L1_st p0 (wr (v19 + 1)) x5) ?_ ((ih_alert_Val_L1 (wr (v19 + 1)) x5 _ h))
    exact Le.tow 3 1 rfl (.cons rfl (.refl _) (.cons rfl (.refl _) (.cons rfl (.refl _) (.cons rfl (.refl _) (.cons rfl (.refl _) (.cons rfl (.refl _) (.nil))))))) (.refl _) rfl
  · exact JP1.a h (Le.tow 3 1 rfl (.cons rfl (.refl _) (.cons rfl (.refl _) (.cons rfl (.refl _) (.nil)))) (.refl _) rfl)
theorem alert_Val_L1_ok : ∀ (p0 : api_Group) (v19 : Int) (h2_4 : (List api_Val)) (o2 : (List api_Val)), alert_Val_L1 p0 v19 h2_4 = some o2 → TL (0, 0) Try.prog 52 alert_Val_L1_c (JP1 (0, 0) 52 o2 (.exit 0) (alert_Val_L1_x0 p0)) (alert_Val_L1_st p0 v19 h2_4) := fun p0 v19 h2_4 o2 h => (alert_Val_L1_grp p0) v19 h2_4 o2 h
noncomputable def alert_Val (p0 : api_Group) : Option (api_Val × Int) :=
  alert_Check p0 >>= fun x1 =>
  if (x1 != 0) then
    some ((api_Val.mk 0 [] 0 false []), x1)
  else
    (alert_Val_L1 p0 0 []) >>= fun o2 =>
    schema_Text p0.Receiver >>= fun x6 =>
    schema_Truth p0.Firing >>= fun x7 =>
    alert_record_put [x6, x7] [] >>= fun x8 =>
    alert_record_pairs p0.Common x8 >>= fun x9 =>
    schema_Text p0.Link >>= fun x10 =>
    alert_record_put_2 ([x10, (api_Val.mk 9 [] 0 false o2)]) x9 >>= fun x11 =>
    some ((api_Val.mk 6 [] 0 false x11), 0)
set_option maxRecDepth 100000 in
set_option maxHeartbeats 4000000 in
theorem alert_Val_ok : ∀ (p0 : api_Group) (o : api_Val × Int), alert_Val p0 = some o → PCall Try.prog 48 [.agg [sV p0.Receiver, bV p0.Firing, .sl false (p0.Common.map c_api_Pair), sV p0.Link, .sl false (p0.Alerts.map c_api_Alert)]] (t_alert_Val o) := by
  intro p0 o h
  unfold alert_Val at h
  refine PCall.ofB mixed tbOk alert_Val_lv Try.func48 rfl (by kernel_rfl) (Nat.le_of_ble_eq_true rfl) ?_
  refine st_call [.agg [sV p0.Receiver, bV p0.Firing, .sl false (p0.Common.map c_api_Pair), sV p0.Link, .sl false (p0.Alerts.map c_api_Alert)]] t_alert_Check h (fun x1 hy => (alert_Check_ok p0 x1 hy)) (fun x1 hy h => ?_)
  refine st_test h (fun hb h => ?_) (fun hb h => ?_)
  · refine st_ret (t := t_alert_Val) h ?_
    exact .tup (xs := [.agg [iV 0, sV [], iV 0, bV false, .sl true []], iV x1]) (ys := [.agg [iV 0, sV [], iV 0, bV false, .sl false []], iV x1]) (.cons (.agg' (.cons (.refl _) (.cons (.refl _) (.cons (.refl _) (.cons (.refl _) (.cons (.not) (.nil))))))) (.cons (.refl _) (.nil)))
  · refine view (lenMap _ _) rfl ?_
    refine st_bind h (fun o2 ho hk => ?_)
    refine Exists.intro (JP1 _ _ o2 (.exit 0) (alert_Val_L1_x0 p0)) (And.intro (T_le (τ := alert_Val_L1_st p0 0 []) ?_ (TL.loop (alert_Val_L1_ok p0 0 [] o2 ho))) (join1 ?_))
    · exact (Le.ownH 2 4 27 5 rfl rfl sizeNil).trans (Le.tow 3 1 rfl (.cons rfl (.refl _) (.cons rfl (.refl _) (.cons rfl (.refl _) (.cons rfl (.refl _) (.cons rfl (.refl _) (.cons rfl (.refl _) (.nil))))))) (.refl _) rfl)
    have h := hk
    refine And.intro (by decide +kernel) (And.intro rfl ?_)
    refine st_calld [sV p0.Receiver] t_schema_Text h (fun x6 hy => (schema_Text_ok p0.Receiver x6 hy)) (fun x6 hy h => ?_)
    refine st_calld [bV p0.Firing] t_schema_Truth h (fun x7 hy => (schema_Truth_ok p0.Firing x7 hy)) (fun x7 hy h => ?_)
    refine st_callh _ _ h (fun x8 hy => ((alert_record_put_ok [x6, x7] [] x8 hy).fr [3] [] rfl rfl rfl).weakC (.cons (.refl _) (.cons (.p (.no (.cons (.ceq (c_api_Val_eq _) (.refl _)) (.cons (.ceq (c_api_Val_eq _) (.refl _)) (.nil))))) (.nil)))) (fun x8 => Nat.le_of_ble_eq_true rfl) (fun x8 hy h => ?_)
    refine st_callc _ _ h (fun x9 hy => ((alert_record_pairs_ok p0.Common x8 x9 hy).fr [3] [1] rfl rfl rfl)) (fun x9 hy h => ?_)
    refine And.intro (by decide +kernel) (And.intro rfl ?_)
    refine st_calld [sV p0.Link] t_schema_Text h (fun x10 hy => (schema_Text_ok p0.Link x10 hy)) (fun x10 hy h => ?_)
    refine st_callh _ _ h (fun x11 hy => ((alert_record_put_2_ok ([x10, (api_Val.mk 9 [] 0 false o2)]) x9 x11 hy).fr [3] [1] rfl rfl rfl).weakC (.cons (.refl _) (.cons (.p (.no (.cons (.ceq (c_api_Val_eq _) (.refl _)) (.cons (.ceq (c_api_Val_eq _) (.refl _)) (.nil))))) (.nil)))) (fun x11 => Nat.le_of_ble_eq_true rfl) (fun x11 hy h => ?_)
    refine st_ret (t := t_alert_Val) h ?_
    exact .refl _
noncomputable def nunciolaw17_awake : Option (Bool) :=
  alert_Val (api_Group.mk [] false [] [] []) >>= fun x1 =>
  ( if (x1.2 == 0) then
      schema_Is x1.1 >>= fun x3 =>
      if x3 then
        if (x1.1.K == 6) then
          schema_Weight x1.1 >>= fun x4 =>
          some (x4 == 6)
        else
          some false
      else
        some false
    else
      some false) >>= fun o2 =>
  some o2
set_option maxRecDepth 100000 in
set_option maxHeartbeats 4000000 in
theorem nunciolaw17_awake_ok : ∀ (o : Bool), nunciolaw17_awake  = some o → PCall Try.prog 46 [] (t_nunciolaw17_awake o) := by
  intro o h
  unfold nunciolaw17_awake at h
  refine PCall.ofB mixed tbOk nunciolaw17_awake_lv Try.func46 rfl (by kernel_rfl) (Nat.le_of_ble_eq_true rfl) ?_
  refine st_call [.agg [sV [], bV false, .sl true [], sV [], .sl true []]] t_alert_Val h (fun x1 hy => (alert_Val_ok (api_Group.mk [] false [] [] []) x1 hy).weak (.cons (.agg' (.cons (.refl _) (.cons (.refl _) (.cons (.not) (.cons (.refl _) (.cons (.not) (.nil))))))) (.nil))) (fun x1 hy h => ?_)
  refine st_bind h (fun o2 ho hk => ?_)
  refine Exists.intro (JP1 _ _ o2 .normal (nunciolaw17_awake_J0_0 x1)) (And.intro ?_ (join1 ?_))
  · have h := ho
    refine st_test h (fun hb h => ?_) (fun hb h => ?_)
    · refine st_call [.agg [iV x1.1.K, sV x1.1.S, iV x1.1.N, bV x1.1.B, .sl false (x1.1.L.map c_api_Val)]] t_schema_Is h (fun x3 hy => (schema_Is_ok x1.1 x3 hy)) (fun x3 hy h => ?_)
      refine st_test h (fun hb h => ?_) (fun hb h => ?_)
      · refine st_test h (fun hb h => ?_) (fun hb h => ?_)
        · refine st_call [.agg [iV x1.1.K, sV x1.1.S, iV x1.1.N, bV x1.1.B, .sl false (x1.1.L.map c_api_Val)]] t_schema_Weight h (fun x4 hy => (schema_Weight_ok x1.1 x4 hy)) (fun x4 hy h => ?_)
          exact JP1.a h (Le.tow 1 0 rfl (.cons rfl (.refl _) (.nil)) (.refl _) rfl)
        · exact JP1.a h (Le.tow 1 0 rfl (.cons rfl (.refl _) (.nil)) (.refl _) rfl)
      · refine bF ?_
        exact JP1.a h (Le.tow 1 0 rfl (.cons rfl (.refl _) (.nil)) (.refl _) rfl)
    · refine bF ?_
      refine bF ?_
      exact JP1.a h (Le.tow 1 0 rfl (.cons rfl (.refl _) (.nil)) (.refl _) rfl)
  · have h := hk
    refine st_ret (t := t_nunciolaw17_awake) h ?_
    exact .refl _
noncomputable def nunciolaw17_AlertBacks (p0 : api_Val) : Option (Bool) :=
  nunciolaw16_Light p0 5 >>= fun x1 =>
  alert_Back x1 >>= fun x2 =>
  R17_Back x1 >>= fun x3 =>
  ( if (x2.2 != x3.2) then
      some true
    else
      R17_Same x2.1 x3.1 >>= fun x5 =>
      some (!x5)) >>= fun o4 =>
  if o4 then
    some false
  else
    alert_Val x2.1 >>= fun x6 =>
    ( if (!x2.2) then
        nunciolaw17_awake >>= fun x8 =>
        some x8
      else
        if (x6.2 == 0) then
          R16_Same x6.1 x1 >>= fun x9 =>
          if x9 then
            nunciolaw17_awake >>= fun x10 =>
            some x10
          else
            some false
        else
          some false) >>= fun o7 =>
    some o7
set_option maxRecDepth 100000 in
set_option maxHeartbeats 4000000 in
theorem nunciolaw17_AlertBacks_ok : ∀ (p0 : api_Val) (o : Bool), nunciolaw17_AlertBacks p0 = some o → PCall Try.prog 12 [.agg [iV p0.K, sV p0.S, iV p0.N, bV p0.B, .sl false (p0.L.map c_api_Val)]] (t_nunciolaw17_AlertBacks o) := by
  intro p0 o h
  unfold nunciolaw17_AlertBacks at h
  refine PCall.ofB mixed tbOk nunciolaw17_AlertBacks_lv Try.func12 rfl (by kernel_rfl) (Nat.le_of_ble_eq_true rfl) ?_
  refine st_call [.agg [iV p0.K, sV p0.S, iV p0.N, bV p0.B, .sl false (p0.L.map c_api_Val)], iV 5] t_nunciolaw16_Light h (fun x1 hy => (nunciolaw16_Light_ok p0 5 x1 hy)) (fun x1 hy h => ?_)
  refine st_call [.agg [iV x1.K, sV x1.S, iV x1.N, bV x1.B, .sl false (x1.L.map c_api_Val)]] t_alert_Back h (fun x2 hy => (alert_Back_ok x1 x2 hy)) (fun x2 hy h => ?_)
  refine st_call [.agg [iV x1.K, sV x1.S, iV x1.N, bV x1.B, .sl false (x1.L.map c_api_Val)]] t_R17_Back h (fun x3 hy => (R17_Back_ok x1 x3 hy)) (fun x3 hy h => ?_)
  refine st_bind h (fun o4 ho hk => ?_)
  refine Exists.intro (JP1 _ _ o4 .normal (nunciolaw17_AlertBacks_J0_0 x1 x2 x3)) (And.intro ?_ (join1 ?_))
  · have h := ho
    refine st_test h (fun hb h => ?_) (fun hb h => ?_)
    · exact JP1.a h (Le.tow 3 0 rfl (.cons rfl (.refl _) (.cons rfl (.refl _) (.cons rfl (.refl _) (.cons rfl (.refl _) (.nil))))) (.refl _) rfl)
    · refine st_call [.agg [sV x2.1.Receiver, bV x2.1.Firing, .sl false (x2.1.Common.map c_api_Pair), sV x2.1.Link, .sl false (x2.1.Alerts.map c_api_Alert)], .agg [sV x3.1.Receiver, bV x3.1.Firing, .sl false (x3.1.Common.map c_api_Pair), sV x3.1.Link, .sl false (x3.1.Alerts.map c_api_Alert)]] t_R17_Same h (fun x5 hy => (R17_Same_ok x2.1 x3.1 x5 hy)) (fun x5 hy h => ?_)
      exact JP1.a h (Le.tow 3 0 rfl (.cons rfl (.refl _) (.cons rfl (.refl _) (.cons rfl (.refl _) (.cons rfl (.refl _) (.nil))))) (.refl _) rfl)
  · have h := hk
    refine st_test h (fun hb h => ?_) (fun hb h => ?_)
    · refine st_ret (t := t_nunciolaw17_AlertBacks) h ?_
      exact .refl _
    · refine st_call [.agg [sV x2.1.Receiver, bV x2.1.Firing, .sl false (x2.1.Common.map c_api_Pair), sV x2.1.Link, .sl false (x2.1.Alerts.map c_api_Alert)]] t_alert_Val h (fun x6 hy => (alert_Val_ok x2.1 x6 hy)) (fun x6 hy h => ?_)
      refine st_bind h (fun o7 ho hk => ?_)
      refine Exists.intro (JP1 _ _ o7 .normal (nunciolaw17_AlertBacks_J1_0 x1 x2 x3 x6)) (And.intro ?_ (join1 ?_))
      · have h := ho
        refine st_test h (fun hb h => ?_) (fun hb h => ?_)
        · refine bT ?_
          refine st_call [] t_nunciolaw17_awake h (fun x8 hy => (nunciolaw17_awake_ok x8 hy)) (fun x8 hy h => ?_)
          exact JP1.a h (Le.tow 4 0 rfl (.cons rfl (.refl _) (.nil)) (.refl _) rfl)
        · refine st_test h (fun hb h => ?_) (fun hb h => ?_)
          · refine st_call [.agg [iV x6.1.K, sV x6.1.S, iV x6.1.N, bV x6.1.B, .sl false (x6.1.L.map c_api_Val)], .agg [iV x1.K, sV x1.S, iV x1.N, bV x1.B, .sl false (x1.L.map c_api_Val)]] t_R16_Same h (fun x9 hy => (R16_Same_ok x6.1 x1 x9 hy)) (fun x9 hy h => ?_)
            refine st_test h (fun hb h => ?_) (fun hb h => ?_)
            · refine st_call [] t_nunciolaw17_awake h (fun x10 hy => (nunciolaw17_awake_ok x10 hy)) (fun x10 hy h => ?_)
              exact JP1.a h (Le.tow 4 0 rfl (.cons rfl (.refl _) (.nil)) (.refl _) rfl)
            · exact JP1.a h (Le.tow 4 0 rfl (.cons rfl (.refl _) (.nil)) (.refl _) rfl)
          · refine bF ?_
            exact JP1.a h (Le.tow 4 0 rfl (.cons rfl (.refl _) (.nil)) (.refl _) rfl)
      · have h := hk
        refine st_ret (t := t_nunciolaw17_AlertBacks) h ?_
        exact .refl _
noncomputable def nunciolaw17_pairs_L1 (p0 : (List api_Pair)) (v3 : (List api_Pair)) (v4 : Int) : Option ((List api_Pair)) :=
  ( if (decide (v4 < (p0.length : Int))) then
      some (decide (v4 < 40))
    else
      some false) >>= fun o2 =>
  if o2 then
    idx p0 v4 >>= fun x3 =>
    idx p0 v4 >>= fun x4 =>
    cutL x3.Key 0 (if 40 < (x4.Key.length : Int) then 40 else (x4.Key.length : Int)) >>= fun x5 =>
    idx p0 v4 >>= fun x6 =>
    idx p0 v4 >>= fun x7 =>
    cutL x6.Val 0 (if 40 < (x7.Val.length : Int) then 40 else (x7.Val.length : Int)) >>= fun x8 =>
    appL 32 v3 [(api_Pair.mk x5 x8)] >>= fun x9 =>
    nunciolaw17_pairs_L1 p0 x9 (wr (v4 + 1))
  else
    some v3
  partial_fixpoint
set_option maxRecDepth 100000 in
set_option maxHeartbeats 4000000 in
theorem nunciolaw17_pairs_L1_grp : ∀ (p0 : (List api_Pair)), (∀ (v3 : (List api_Pair)) (v4 : Int) (o1 : (List api_Pair)), nunciolaw17_pairs_L1 p0 v3 v4 = some o1 → TL (0, 0) Try.prog 47 nunciolaw17_pairs_L1_c (JP1 (0, 0) 47 o1 (.exit 0) (nunciolaw17_pairs_L1_x0 p0)) (nunciolaw17_pairs_L1_st p0 v3 v4)) := by
  intro p0
  refine nunciolaw17_pairs_L1.partial_correctness p0 _ ?_
  intro nunciolaw17_pairs_L1' ih_nunciolaw17_pairs_L1 v3 v4 o1 h
  refine TL.round (bwp_sound mixed tbOk (lv := nunciolaw17_pairs_lv) _ _ _ ?_)
  refine st_bind h (fun o2 ho hk => ?_)
  refine Exists.intro (JP1 _ _ o2 .normal (nunciolaw17_pairs_J0_0 p0 v3 v4)) (And.intro ?_ (join1 ?_))
  · have h := ho
    refine view (lenMap _ _) rfl ?_
    refine st_test h (fun hb h => ?_) (fun hb h => ?_)
    · exact JP1.a h (Le.tow 0 1 rfl (.cons rfl (.refl _) (.cons rfl (.refl _) (.cons rfl (.refl _) (.cons rfl (.refl _) (.nil))))) (.refl _) rfl)
    · exact JP1.a h (Le.tow 0 1 rfl (.cons rfl (.refl _) (.cons rfl (.refl _) (.cons rfl (.refl _) (.cons rfl (.refl _) (.nil))))) (.refl _) rfl)
  · have h := hk
    refine st_test h (fun hb h => ?_) (fun hb h => ?_)
    · refine And.intro (by decide +kernel) (And.intro rfl ?_)
      refine st_idx (l := p0) (c := c_api_Pair) (c' := c_api_Pair) h (fun _ => rfl) (fun _ => rfl) (by decide) (fun x3 hi h => ?_)
      refine st_idx (l := p0) (c := c_api_Pair) (c' := c_api_Pair) h (fun _ => rfl) (fun _ => rfl) (by decide) (fun x4 hi h => ?_)
      refine vrfl ?_
      refine st_cuts none (some (if 40 < (x4.Key.length : Int) then 40 else (x4.Key.length : Int))) h (fun x5 hi h => ?_)
      refine st_idx (l := p0) (c := c_api_Pair) (c' := c_api_Pair) h (fun _ => rfl) (fun _ => rfl) (by decide) (fun x6 hi h => ?_)
      refine st_idx (l := p0) (c := c_api_Pair) (c' := c_api_Pair) h (fun _ => rfl) (fun _ => rfl) (by decide) (fun x7 hi h => ?_)
      refine vrfl ?_
      refine st_cuts none (some (if 40 < (x7.Val.length : Int) then 40 else (x7.Val.length : Int))) h (fun x8 hi h => ?_)
      refine st_appo (a := v3) (b := [(api_Pair.mk x5 x8)]) (c := c_api_Pair) h (.refl _) (fun _ => rfl) rfl (fun x9 hi h => ?_)
      refine TL.le (τ := nunciolaw17_pairs_L1_st p0 x9 (wr (v4 + 1))) ?_ ((ih_nunciolaw17_pairs_L1 x9 (wr (v4 + 1)) _ h))
      exact Le.tow 0 1 rfl (.cons rfl (.refl _) (.cons rfl (.refl _) (.cons rfl (.refl _) (.nil)))) (.refl _) rfl
    · exact JP1.a h (Le.tow 0 1 rfl (.cons rfl (.refl _) (.nil)) (.refl _) rfl)
theorem nunciolaw17_pairs_L1_ok : ∀ (p0 : (List api_Pair)) (v3 : (List api_Pair)) (v4 : Int) (o1 : (List api_Pair)), nunciolaw17_pairs_L1 p0 v3 v4 = some o1 → TL (0, 0) Try.prog 47 nunciolaw17_pairs_L1_c (JP1 (0, 0) 47 o1 (.exit 0) (nunciolaw17_pairs_L1_x0 p0)) (nunciolaw17_pairs_L1_st p0 v3 v4) := fun p0 v3 v4 o1 h => (nunciolaw17_pairs_L1_grp p0) v3 v4 o1 h
noncomputable def nunciolaw17_pairs (p0 : (List api_Pair)) : Option ((List api_Pair)) :=
  (nunciolaw17_pairs_L1 p0 [] 0) >>= fun o1 =>
  some o1
set_option maxRecDepth 100000 in
set_option maxHeartbeats 4000000 in
theorem nunciolaw17_pairs_ok : ∀ (p0 : (List api_Pair)) (o : (List api_Pair)), nunciolaw17_pairs p0 = some o → PCall Try.prog 78 [.sl false (p0.map c_api_Pair)] (t_nunciolaw17_pairs o) := by
  intro p0 o h
  unfold nunciolaw17_pairs at h
  refine PCall.ofB mixed tbOk nunciolaw17_pairs_lv Try.func78 rfl (by kernel_rfl) (Nat.le_of_ble_eq_true rfl) ?_
  refine st_bind h (fun o1 ho hk => ?_)
  refine Exists.intro (JP1 _ _ o1 (.exit 0) (nunciolaw17_pairs_L1_x0 p0)) (And.intro (T_le (τ := nunciolaw17_pairs_L1_st p0 [] 0) ?_ (TL.loop (nunciolaw17_pairs_L1_ok p0 [] 0 o1 ho))) (join1 ?_))
  · exact Le.trans (τ := ⟨[(0, .p (.sl false (p0.map c_api_Pair))), (3, .p (.sl true [])), (4, .p (iV 0))], ⟨[], []⟩⟩) (Le.tow 0 0 rfl (.cons rfl (.refl _) (.cons rfl (.refl _) (.cons rfl (.refl _) (.nil)))) (.refl _) rfl) ((Le.own 3 73 2 rfl sizeNil).trans (Le.tow 0 1 rfl (.cons rfl (.refl _) (.cons rfl (.refl _) (.cons rfl (.refl _) (.nil)))) (.refl _) rfl))
  have h := hk
  refine st_ret (t := t_nunciolaw17_pairs) h ?_
  exact .refl _
noncomputable def nunciolaw17_Few_L1 (p0 : api_Group) (x1 : (List UInt8)) (x2 : (List api_Pair)) (x3 : (List UInt8)) (v4 : Int) (h2_4 : (List api_Alert)) : Option ((List api_Alert)) :=
  ( if (decide (v4 < (p0.Alerts.length : Int))) then
      some (decide (v4 < 6))
    else
      some false) >>= fun o5 =>
  if o5 then
    idx p0.Alerts v4 >>= fun x6 =>
    nunciolaw17_pairs x6.Labels >>= fun x7 =>
    nunciolaw17_pairs x6.Notes >>= fun x8 =>
    cutL x6.Link 0 (if 40 < (x6.Link.length : Int) then 40 else (x6.Link.length : Int)) >>= fun x9 =>
    appL 88 h2_4 [(api_Alert.mk x6.Firing x6.Starts x6.Value x7 x8 x9)] >>= fun x10 =>
    nunciolaw17_Few_L1 p0 x1 x2 x3 (wr (v4 + 1)) x10
  else
    some h2_4
  partial_fixpoint
set_option maxRecDepth 100000 in
set_option maxHeartbeats 4000000 in
theorem nunciolaw17_Few_L1_grp : ∀ (p0 : api_Group) (x1 : (List UInt8)) (x2 : (List api_Pair)) (x3 : (List UInt8)), (∀ (v4 : Int) (h2_4 : (List api_Alert)) (o4 : (List api_Alert)), nunciolaw17_Few_L1 p0 x1 x2 x3 v4 h2_4 = some o4 → TL (0, 0) Try.prog 68 nunciolaw17_Few_L1_c (JP1 (0, 0) 68 o4 (.exit 0) (nunciolaw17_Few_L1_x0 p0 x1 x2 x3)) (nunciolaw17_Few_L1_st p0 x1 x2 x3 v4 h2_4)) := by
  intro p0 x1 x2 x3
  refine nunciolaw17_Few_L1.partial_correctness p0 x1 x2 x3 _ ?_
  intro nunciolaw17_Few_L1' ih_nunciolaw17_Few_L1 v4 h2_4 o4 h
  refine TL.round (bwp_sound mixed tbOk (lv := nunciolaw17_Few_lv) _ _ _ ?_)
  refine st_bind h (fun o5 ho hk => ?_)
  refine Exists.intro (JP1 _ _ o5 .normal (nunciolaw17_Few_J0_0 p0 x1 x2 x3 v4 h2_4)) (And.intro ?_ (join1 ?_))
  · have h := ho
    refine view (lenMap _ _) rfl ?_
    refine st_test h (fun hb h => ?_) (fun hb h => ?_)
    · exact JP1.a h (Le.tow 3 1 rfl (.cons rfl (.refl _) (.cons rfl (.refl _) (.cons rfl (.refl _) (.cons rfl (.refl _) (.cons rfl (.refl _) (.nil)))))) (.refl _) rfl)
    · exact JP1.a h (Le.tow 3 1 rfl (.cons rfl (.refl _) (.cons rfl (.refl _) (.cons rfl (.refl _) (.cons rfl (.refl _) (.cons rfl (.refl _) (.nil)))))) (.refl _) rfl)
  · have h := hk
    refine st_test h (fun hb h => ?_) (fun hb h => ?_)
    · refine st_idx (l := p0.Alerts) (c := c_api_Alert) (c' := c_api_Alert) h (fun _ => rfl) (fun _ => rfl) (by decide) (fun x6 hi h => ?_)
      refine And.intro (by decide +kernel) (And.intro rfl ?_)
      refine st_calld [.sl false (x6.Labels.map c_api_Pair)] t_nunciolaw17_pairs h (fun x7 hy => (nunciolaw17_pairs_ok x6.Labels x7 hy)) (fun x7 hy h => ?_)
      refine st_calld [.sl false (x6.Notes.map c_api_Pair)] t_nunciolaw17_pairs h (fun x8 hy => (nunciolaw17_pairs_ok x6.Notes x8 hy)) (fun x8 hy h => ?_)
      refine vrfl ?_
      refine st_cuts none (some (if 40 < (x6.Link.length : Int) then 40 else (x6.Link.length : Int))) h (fun x9 hi h => ?_)
      refine st_appo (a := h2_4) (b := [(api_Alert.mk x6.Firing x6.Starts x6.Value x7 x8 x9)]) (c := c_api_Alert) h (.refl _) (fun _ => rfl) rfl (fun x10 hi h => ?_)
      refine TL.le (τ := nunciolaw17_Few_L1_st p0 x1 x2 x3 (wr (v4 + 1)) x10) ?_ ((ih_nunciolaw17_Few_L1 (wr (v4 + 1)) x10 _ h))
      exact Le.tow 3 1 rfl (.cons rfl (.refl _) (.cons rfl (.refl _) (.cons rfl (.refl _) (.cons rfl (.refl _) (.nil))))) (.refl _) rfl
    · exact JP1.a h (Le.tow 3 1 rfl (.cons rfl (.refl _) (.cons rfl (.refl _) (.nil))) (.refl _) rfl)
theorem nunciolaw17_Few_L1_ok : ∀ (p0 : api_Group) (x1 : (List UInt8)) (x2 : (List api_Pair)) (x3 : (List UInt8)) (v4 : Int) (h2_4 : (List api_Alert)) (o4 : (List api_Alert)), nunciolaw17_Few_L1 p0 x1 x2 x3 v4 h2_4 = some o4 → TL (0, 0) Try.prog 68 nunciolaw17_Few_L1_c (JP1 (0, 0) 68 o4 (.exit 0) (nunciolaw17_Few_L1_x0 p0 x1 x2 x3)) (nunciolaw17_Few_L1_st p0 x1 x2 x3 v4 h2_4) := fun p0 x1 x2 x3 v4 h2_4 o4 h => (nunciolaw17_Few_L1_grp p0 x1 x2 x3) v4 h2_4 o4 h
noncomputable def nunciolaw17_Few (p0 : api_Group) : Option (api_Group) :=
  cutL p0.Receiver 0 (if 40 < (p0.Receiver.length : Int) then 40 else (p0.Receiver.length : Int)) >>= fun x1 =>
  nunciolaw17_pairs p0.Common >>= fun x2 =>
  cutL p0.Link 0 (if 40 < (p0.Link.length : Int) then 40 else (p0.Link.length : Int)) >>= fun x3 =>
  (nunciolaw17_Few_L1 p0 x1 x2 x3 0 []) >>= fun o4 =>
  some (api_Group.mk x1 p0.Firing x2 x3 o4)
set_option maxRecDepth 100000 in
set_option maxHeartbeats 4000000 in
theorem nunciolaw17_Few_ok : ∀ (p0 : api_Group) (o : api_Group), nunciolaw17_Few p0 = some o → PCall Try.prog 47 [.agg [sV p0.Receiver, bV p0.Firing, .sl false (p0.Common.map c_api_Pair), sV p0.Link, .sl false (p0.Alerts.map c_api_Alert)]] (t_nunciolaw17_Few o) := by
  intro p0 o h
  unfold nunciolaw17_Few at h
  refine PCall.ofB mixed tbOk nunciolaw17_Few_lv Try.func47 rfl (by kernel_rfl) (Nat.le_of_ble_eq_true rfl) ?_
  refine And.intro (by decide +kernel) (And.intro rfl ?_)
  refine vrfl ?_
  refine st_cuts none (some (if 40 < (p0.Receiver.length : Int) then 40 else (p0.Receiver.length : Int))) h (fun x1 hi h => ?_)
  refine st_calld [.sl false (p0.Common.map c_api_Pair)] t_nunciolaw17_pairs h (fun x2 hy => (nunciolaw17_pairs_ok p0.Common x2 hy)) (fun x2 hy h => ?_)
  refine vrfl ?_
  refine st_cuts none (some (if 40 < (p0.Link.length : Int) then 40 else (p0.Link.length : Int))) h (fun x3 hi h => ?_)
  refine st_bind h (fun o4 ho hk => ?_)
  refine Exists.intro (JP1 _ _ o4 (.exit 0) (nunciolaw17_Few_L1_x0 p0 x1 x2 x3)) (And.intro (T_le (τ := nunciolaw17_Few_L1_st p0 x1 x2 x3 0 []) ?_ (TL.loop (nunciolaw17_Few_L1_ok p0 x1 x2 x3 0 [] o4 ho))) (join1 ?_))
  · exact (Le.ownH 2 4 71 6 rfl rfl sizeNil).trans (Le.tow 3 1 rfl (.cons rfl (.refl _) (.cons rfl (.refl _) (.cons rfl (.refl _) (.cons rfl (.refl _) (.nil))))) (.refl _) rfl)
  have h := hk
  refine st_ret (t := t_nunciolaw17_Few) h ?_
  exact .refl _
noncomputable def nunciolaw17_AlertSames (p0 : api_Group) (p1 : api_Group) : Option (Bool) :=
  nunciolaw17_Few p0 >>= fun x1 =>
  nunciolaw17_Few p1 >>= fun x2 =>
  ( alert_Same x1 x2 >>= fun x4 =>
    R17_Same x1 x2 >>= fun x5 =>
    if (x4 == x5) then
      alert_Same x1 x1 >>= fun x6 =>
      if x6 then
        nunciolaw17_awake >>= fun x7 =>
        some x7
      else
        some false
    else
      some false) >>= fun o3 =>
  some o3
set_option maxRecDepth 100000 in
set_option maxHeartbeats 4000000 in
theorem nunciolaw17_AlertSames_ok : ∀ (p0 : api_Group) (p1 : api_Group) (o : Bool), nunciolaw17_AlertSames p0 p1 = some o → PCall Try.prog 13 [.agg [sV p0.Receiver, bV p0.Firing, .sl false (p0.Common.map c_api_Pair), sV p0.Link, .sl false (p0.Alerts.map c_api_Alert)], .agg [sV p1.Receiver, bV p1.Firing, .sl false (p1.Common.map c_api_Pair), sV p1.Link, .sl false (p1.Alerts.map c_api_Alert)]] (t_nunciolaw17_AlertSames o) := by
  intro p0 p1 o h
  unfold nunciolaw17_AlertSames at h
  refine PCall.ofB mixed tbOk nunciolaw17_AlertSames_lv Try.func13 rfl (by kernel_rfl) (Nat.le_of_ble_eq_true rfl) ?_
  refine And.intro (by decide +kernel) (And.intro rfl ?_)
  refine st_calld [.agg [sV p0.Receiver, bV p0.Firing, .sl false (p0.Common.map c_api_Pair), sV p0.Link, .sl false (p0.Alerts.map c_api_Alert)]] t_nunciolaw17_Few h (fun x1 hy => (nunciolaw17_Few_ok p0 x1 hy)) (fun x1 hy h => ?_)
  refine st_calld [.agg [sV p1.Receiver, bV p1.Firing, .sl false (p1.Common.map c_api_Pair), sV p1.Link, .sl false (p1.Alerts.map c_api_Alert)]] t_nunciolaw17_Few h (fun x2 hy => (nunciolaw17_Few_ok p1 x2 hy)) (fun x2 hy h => ?_)
  refine st_bind h (fun o3 ho hk => ?_)
  refine Exists.intro (JP1 _ _ o3 .normal (nunciolaw17_AlertSames_J0_0 x1 x2)) (And.intro ?_ (join1 ?_))
  · have h := ho
    refine And.intro (by decide +kernel) (And.intro rfl ?_)
    refine st_calld [.agg [sV x1.Receiver, bV x1.Firing, .sl false (x1.Common.map c_api_Pair), sV x1.Link, .sl false (x1.Alerts.map c_api_Alert)], .agg [sV x2.Receiver, bV x2.Firing, .sl false (x2.Common.map c_api_Pair), sV x2.Link, .sl false (x2.Alerts.map c_api_Alert)]] t_alert_Same h (fun x4 hy => (alert_Same_ok x1 x2 x4 hy)) (fun x4 hy h => ?_)
    refine st_calld [.agg [sV x1.Receiver, bV x1.Firing, .sl false (x1.Common.map c_api_Pair), sV x1.Link, .sl false (x1.Alerts.map c_api_Alert)], .agg [sV x2.Receiver, bV x2.Firing, .sl false (x2.Common.map c_api_Pair), sV x2.Link, .sl false (x2.Alerts.map c_api_Alert)]] t_R17_Same h (fun x5 hy => (R17_Same_ok x1 x2 x5 hy)) (fun x5 hy h => ?_)
    refine st_test h (fun hb h => ?_) (fun hb h => ?_)
    · refine st_calld [.agg [sV x1.Receiver, bV x1.Firing, .sl false (x1.Common.map c_api_Pair), sV x1.Link, .sl false (x1.Alerts.map c_api_Alert)], .agg [sV x1.Receiver, bV x1.Firing, .sl false (x1.Common.map c_api_Pair), sV x1.Link, .sl false (x1.Alerts.map c_api_Alert)]] t_alert_Same h (fun x6 hy => (alert_Same_ok x1 x1 x6 hy)) (fun x6 hy h => ?_)
      refine st_test h (fun hb h => ?_) (fun hb h => ?_)
      · refine st_calld [] t_nunciolaw17_awake h (fun x7 hy => (nunciolaw17_awake_ok x7 hy)) (fun x7 hy h => ?_)
        exact JP1.a h (Le.tow 2 0 rfl (.cons rfl (.refl _) (.nil)) (.refl _) rfl)
      · exact JP1.a h (Le.tow 2 0 rfl (.cons rfl (.refl _) (.nil)) (.refl _) rfl)
    · refine bF ?_
      exact JP1.a h (Le.tow 2 0 rfl (.cons rfl (.refl _) (.nil)) (.refl _) rfl)
  · have h := hk
    refine st_ret (t := t_nunciolaw17_AlertSames) h ?_
    exact .refl _
noncomputable def nunciolaw17_AlertVals (p0 : api_Group) : Option (Bool) :=
  nunciolaw17_Few p0 >>= fun x1 =>
  alert_Val x1 >>= fun x2 =>
  R17_Val x1 >>= fun x3 =>
  ( if (x2.2 != x3.2) then
      some true
    else
      alert_Check x1 >>= fun x5 =>
      if (x5 != x3.2) then
        some true
      else
        R16_Same x2.1 x3.1 >>= fun x6 =>
        some (!x6)) >>= fun o4 =>
  if o4 then
    some false
  else
    alert_Back x2.1 >>= fun x7 =>
    if (x2.2 != 0) then
      ( if (!x7.2) then
          nunciolaw17_awake >>= fun x9 =>
          some x9
        else
          some false) >>= fun o8 =>
      some o8
    else
      ( schema_Is x2.1 >>= fun x11 =>
        if x11 then
          if x7.2 then
            R17_Same x1 x7.1 >>= fun x12 =>
            if x12 then
              nunciolaw17_awake >>= fun x13 =>
              some x13
            else
              some false
          else
            some false
        else
          some false) >>= fun o10 =>
      some o10
set_option maxRecDepth 100000 in
set_option maxHeartbeats 4000000 in
theorem nunciolaw17_AlertVals_ok : ∀ (p0 : api_Group) (o : Bool), nunciolaw17_AlertVals p0 = some o → PCall Try.prog 11 [.agg [sV p0.Receiver, bV p0.Firing, .sl false (p0.Common.map c_api_Pair), sV p0.Link, .sl false (p0.Alerts.map c_api_Alert)]] (t_nunciolaw17_AlertVals o) := by
  intro p0 o h
  unfold nunciolaw17_AlertVals at h
  refine PCall.ofB mixed tbOk nunciolaw17_AlertVals_lv Try.func11 rfl (by kernel_rfl) (Nat.le_of_ble_eq_true rfl) ?_
  refine st_call [.agg [sV p0.Receiver, bV p0.Firing, .sl false (p0.Common.map c_api_Pair), sV p0.Link, .sl false (p0.Alerts.map c_api_Alert)]] t_nunciolaw17_Few h (fun x1 hy => (nunciolaw17_Few_ok p0 x1 hy)) (fun x1 hy h => ?_)
  refine st_call [.agg [sV x1.Receiver, bV x1.Firing, .sl false (x1.Common.map c_api_Pair), sV x1.Link, .sl false (x1.Alerts.map c_api_Alert)]] t_alert_Val h (fun x2 hy => (alert_Val_ok x1 x2 hy)) (fun x2 hy h => ?_)
  refine st_call [.agg [sV x1.Receiver, bV x1.Firing, .sl false (x1.Common.map c_api_Pair), sV x1.Link, .sl false (x1.Alerts.map c_api_Alert)]] t_R17_Val h (fun x3 hy => (R17_Val_ok x1 x3 hy)) (fun x3 hy h => ?_)
  refine st_bind h (fun o4 ho hk => ?_)
  refine Exists.intro (JP1 _ _ o4 .normal (nunciolaw17_AlertVals_J0_0 x1 x2 x3)) (And.intro ?_ (join1 ?_))
  · have h := ho
    refine st_test h (fun hb h => ?_) (fun hb h => ?_)
    · refine bT ?_
      exact JP1.a h (Le.tow 3 0 rfl (.cons rfl (.refl _) (.cons rfl (.refl _) (.cons rfl (.refl _) (.cons rfl (.refl _) (.nil))))) (.refl _) rfl)
    · refine st_call [.agg [sV x1.Receiver, bV x1.Firing, .sl false (x1.Common.map c_api_Pair), sV x1.Link, .sl false (x1.Alerts.map c_api_Alert)]] t_alert_Check h (fun x5 hy => (alert_Check_ok x1 x5 hy)) (fun x5 hy h => ?_)
      refine st_test h (fun hb h => ?_) (fun hb h => ?_)
      · exact JP1.a h (Le.tow 3 0 rfl (.cons rfl (.refl _) (.cons rfl (.refl _) (.cons rfl (.refl _) (.cons rfl (.refl _) (.nil))))) (.refl _) rfl)
      · refine st_call [.agg [iV x2.1.K, sV x2.1.S, iV x2.1.N, bV x2.1.B, .sl false (x2.1.L.map c_api_Val)], .agg [iV x3.1.K, sV x3.1.S, iV x3.1.N, bV x3.1.B, .sl false (x3.1.L.map c_api_Val)]] t_R16_Same h (fun x6 hy => (R16_Same_ok x2.1 x3.1 x6 hy)) (fun x6 hy h => ?_)
        exact JP1.a h (Le.tow 3 0 rfl (.cons rfl (.refl _) (.cons rfl (.refl _) (.cons rfl (.refl _) (.cons rfl (.refl _) (.nil))))) (.refl _) rfl)
  · have h := hk
    refine st_test h (fun hb h => ?_) (fun hb h => ?_)
    · refine st_ret (t := t_nunciolaw17_AlertVals) h ?_
      exact .refl _
    · refine st_call [.agg [iV x2.1.K, sV x2.1.S, iV x2.1.N, bV x2.1.B, .sl false (x2.1.L.map c_api_Val)]] t_alert_Back h (fun x7 hy => (alert_Back_ok x2.1 x7 hy)) (fun x7 hy h => ?_)
      refine st_test h (fun hb h => ?_) (fun hb h => ?_)
      · refine st_bind h (fun o8 ho hk => ?_)
        refine Exists.intro (JP1 _ _ o8 .normal (nunciolaw17_AlertVals_J1_0 x1 x2 x3 x7)) (And.intro ?_ (join1 ?_))
        · have h := ho
          refine st_test h (fun hb h => ?_) (fun hb h => ?_)
          · refine st_call [] t_nunciolaw17_awake h (fun x9 hy => (nunciolaw17_awake_ok x9 hy)) (fun x9 hy h => ?_)
            exact JP1.a h (Le.tow 4 0 rfl (.cons rfl (.refl _) (.nil)) (.refl _) rfl)
          · exact JP1.a h (Le.tow 4 0 rfl (.cons rfl (.refl _) (.nil)) (.refl _) rfl)
        · have h := hk
          refine st_ret (t := t_nunciolaw17_AlertVals) h ?_
          exact .refl _
      · refine st_bind h (fun o10 ho hk => ?_)
        refine Exists.intro (JP1 _ _ o10 .normal (nunciolaw17_AlertVals_J2_0 x1 x2 x3 x7)) (And.intro ?_ (join1 ?_))
        · have h := ho
          refine st_call [.agg [iV x2.1.K, sV x2.1.S, iV x2.1.N, bV x2.1.B, .sl false (x2.1.L.map c_api_Val)]] t_schema_Is h (fun x11 hy => (schema_Is_ok x2.1 x11 hy)) (fun x11 hy h => ?_)
          refine st_test h (fun hb h => ?_) (fun hb h => ?_)
          · refine st_test h (fun hb h => ?_) (fun hb h => ?_)
            · refine st_call [.agg [sV x1.Receiver, bV x1.Firing, .sl false (x1.Common.map c_api_Pair), sV x1.Link, .sl false (x1.Alerts.map c_api_Alert)], .agg [sV x7.1.Receiver, bV x7.1.Firing, .sl false (x7.1.Common.map c_api_Pair), sV x7.1.Link, .sl false (x7.1.Alerts.map c_api_Alert)]] t_R17_Same h (fun x12 hy => (R17_Same_ok x1 x7.1 x12 hy)) (fun x12 hy h => ?_)
              refine st_test h (fun hb h => ?_) (fun hb h => ?_)
              · refine st_call [] t_nunciolaw17_awake h (fun x13 hy => (nunciolaw17_awake_ok x13 hy)) (fun x13 hy h => ?_)
                exact JP1.a h (Le.tow 4 0 rfl (.cons rfl (.refl _) (.nil)) (.refl _) rfl)
              · exact JP1.a h (Le.tow 4 0 rfl (.cons rfl (.refl _) (.nil)) (.refl _) rfl)
            · refine bF ?_
              exact JP1.a h (Le.tow 4 0 rfl (.cons rfl (.refl _) (.nil)) (.refl _) rfl)
          · refine bF ?_
            refine bF ?_
            exact JP1.a h (Le.tow 4 0 rfl (.cons rfl (.refl _) (.nil)) (.refl _) rfl)
        · have h := hk
          refine st_ret (t := t_nunciolaw17_AlertVals) h ?_
          exact .refl _
end Go.Proofs.Ytcegigccehapdaa
