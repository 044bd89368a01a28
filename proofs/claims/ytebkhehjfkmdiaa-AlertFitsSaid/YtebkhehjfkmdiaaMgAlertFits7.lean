/- The proof's texts, part 7 of 8: the walks by a logic in which data are by value, the plain laws, and at the end the law, for every input. -/
import Derived.Test.YtebkhehjfkmdiaaMgAlertFits6

section
set_option linter.unusedVariables false
set_option linter.unusedSimpArgs false
namespace Go.Proofs.Ytebkhehjfkmdiaa
open Go.RowKit

structure api_Pair where
  Key : (List UInt8)
  Val : (List UInt8)
noncomputable def c_api_Pair (x : api_Pair) : List V := [sV x.Key, sV x.Val]
structure api_Alert where
  Firing : Bool
  Starts : Int
  Value : Int
  Labels : (List api_Pair)
  Notes : (List api_Pair)
  Link : (List UInt8)
noncomputable def c_api_Alert (x : api_Alert) : List V := [bV x.Firing, iV x.Starts, iV x.Value, .sl false (x.Labels.map c_api_Pair), .sl false (x.Notes.map c_api_Pair), sV x.Link]
structure api_Group where
  Receiver : (List UInt8)
  Firing : Bool
  Common : (List api_Pair)
  Link : (List UInt8)
  Alerts : (List api_Alert)
structure api_Val where
  K : Int
  S : (List UInt8)
  N : Int
  B : Bool
  L : (List api_Val)
mutual
noncomputable def c_api_Val : api_Val → List V
  | ⟨x0, x1, x2, x3, x4⟩ => [iV x0, sV x1, iV x2, bV x3, .sl false (cs_api_Val x4)]
noncomputable def cs_api_Val : List api_Val → List (List V)
  | [] => []
  | x :: r => c_api_Val x :: cs_api_Val r
end
theorem cs_api_Val_map : ∀ l : List api_Val, cs_api_Val l = l.map c_api_Val
  | [] => rfl
  | x :: r => by rw [cs_api_Val, cs_api_Val_map r]; rfl
noncomputable def l_api_Val (x : api_Val) : List V := [iV x.K, sV x.S, iV x.N, bV x.B, .sl false (x.L.map c_api_Val)]
theorem c_api_Val_eq (x : api_Val) : c_api_Val x = l_api_Val x := by cases x; simp [c_api_Val, l_api_Val, cs_api_Val_map]
structure kind_field where
  of_ : Int
  name_ : (List UInt8)
  is_ : Int
noncomputable def c_kind_field (x : kind_field) : List V := [iV x.of_, sV x.name_, iV x.is_]
noncomputable def t_R17_Check (y : Int) : D := .p (iV y)
noncomputable def R17_Check_lv : List (Nat × List Nat) := [(0, [1]), (1, [1, 14]), (2, [2]), (3, [1, 3]), (4, [1, 3, 4]), (5, [1, 3, 4, 20]), (6, [1, 3, 4]), (7, [1, 3, 4, 28]), (8, [2]), (9, [1, 3, 5]), (10, [1, 3, 5, 6]), (11, [1, 3, 5, 6, 38]), (12, [1, 3, 5, 6]), (13, [1, 3, 5, 6]), (14, [3, 5, 7]), (15, [3, 5, 7, 53]), (16, [3, 5, 7]), (17, [3, 5, 7, 8]), (18, [3, 5, 7, 8, 62]), (19, [3, 5, 7, 8]), (20, [3, 5, 7, 8]), (21, [3, 5, 7, 8]), (22, [5, 9]), (23, [5, 9, 10]), (24, [5, 9, 10, 90]), (25, [5, 9, 10]), (26, [5, 9, 10, 99]), (27, [2]), (28, [5, 9, 10]), (29, [2]), (1000005, [1, 3, 4]), (1000011, [1, 3, 5, 6]), (1000015, [3, 5, 7]), (1000018, [3, 5, 7, 8]), (1000024, [5, 9, 10])]
noncomputable def R17_Check_L1_st (p0 : api_Group) (x1 : (List (List api_Pair))) (v4 : Int) : St := ⟨[(1, .ptr 0 0), (3, .p (.sl false (x1.map (cSl c_api_Pair)))), (4, .p (iV v4))], ⟨[[.p (sV p0.Receiver), .p (bV p0.Firing), .p (.sl false (p0.Common.map c_api_Pair)), .p (sV p0.Link), .p (.sl false (p0.Alerts.map c_api_Alert))]], []⟩⟩
noncomputable def R17_Check_L1_x0 (p0 : api_Group) (x1 : (List (List api_Pair))) (y3 : Unit) : St := ⟨[(1, .ptr 0 0), (3, .p (.sl false (x1.map (cSl c_api_Pair))))], ⟨[[.p (sV p0.Receiver), .p (bV p0.Firing), .p (.sl false (p0.Common.map c_api_Pair)), .p (sV p0.Link), .p (.sl false (p0.Alerts.map c_api_Alert))]], []⟩⟩
noncomputable def R17_Check_L1_x1 (p0 : api_Group) (x1 : (List (List api_Pair))) (y4 : Unit) : St := ⟨[(2, .p (iV 5))], ⟨[[.p (sV p0.Receiver), .p (bV p0.Firing), .p (.sl false (p0.Common.map c_api_Pair)), .p (sV p0.Link), .p (.sl false (p0.Alerts.map c_api_Alert))]], []⟩⟩
noncomputable def R17_Check_L1_c : Code := ((loopsOf (Try.f6.body.getD .skip)).getD 0 .skip)
noncomputable def R17_Check_L2_st (p0 : api_Group) (x1 : (List (List api_Pair))) (v5 : (List (List UInt8))) (v6 : Int) : St := ⟨[(1, .ptr 0 0), (3, .p (.sl false (x1.map (cSl c_api_Pair)))), (5, .own 0 1000009 1 (v5.map cStr)), (6, .p (iV v6))], ⟨[[.p (sV p0.Receiver), .p (bV p0.Firing), .p (.sl false (p0.Common.map c_api_Pair)), .p (sV p0.Link), .p (.sl false (p0.Alerts.map c_api_Alert))]], [(v5.map cStr).length]⟩⟩
noncomputable def R17_Check_L2_x0 (p0 : api_Group) (x1 : (List (List api_Pair))) (o6 : (List (List UInt8))) : St := ⟨[(3, .p (.sl false (x1.map (cSl c_api_Pair)))), (5, .own 0 1000009 1 (o6.map cStr))], ⟨[[.p (sV p0.Receiver), .p (bV p0.Firing), .p (.sl false (p0.Common.map c_api_Pair)), .p (sV p0.Link), .p (.sl false (p0.Alerts.map c_api_Alert))]], [(o6.map cStr).length]⟩⟩
noncomputable def R17_Check_L2_c : Code := ((loopsOf (Try.f6.body.getD .skip)).getD 1 .skip)
noncomputable def R17_Check_L4_st (p0 : api_Group) (x1 : (List (List api_Pair))) (v7 : Int) (v5_ : (List (List UInt8))) (v8 : Int) : St := ⟨[(3, .p (.sl false (x1.map (cSl c_api_Pair)))), (5, .own 0 1000009 1 (v5_.map cStr)), (7, .p (iV v7)), (8, .p (iV v8))], ⟨[[.p (sV p0.Receiver), .p (bV p0.Firing), .p (.sl false (p0.Common.map c_api_Pair)), .p (sV p0.Link), .p (.sl false (p0.Alerts.map c_api_Alert))]], [(v5_.map cStr).length]⟩⟩
noncomputable def R17_Check_L4_x0 (p0 : api_Group) (x1 : (List (List api_Pair))) (v7 : Int) (o10 : (List (List UInt8))) : St := ⟨[(3, .p (.sl false (x1.map (cSl c_api_Pair)))), (5, .own 0 1000009 1 (o10.map cStr)), (7, .p (iV v7))], ⟨[[.p (sV p0.Receiver), .p (bV p0.Firing), .p (.sl false (p0.Common.map c_api_Pair)), .p (sV p0.Link), .p (.sl false (p0.Alerts.map c_api_Alert))]], [(o10.map cStr).length]⟩⟩
noncomputable def R17_Check_L4_c : Code := ((loopsOf (Try.f6.body.getD .skip)).getD 3 .skip)
noncomputable def R17_Check_L3_st (p0 : api_Group) (x1 : (List (List api_Pair))) (v5 : (List (List UInt8))) (v7 : Int) : St := ⟨[(3, .p (.sl false (x1.map (cSl c_api_Pair)))), (5, .own 0 1000009 1 (v5.map cStr)), (7, .p (iV v7))], ⟨[[.p (sV p0.Receiver), .p (bV p0.Firing), .p (.sl false (p0.Common.map c_api_Pair)), .p (sV p0.Link), .p (.sl false (p0.Alerts.map c_api_Alert))]], [(v5.map cStr).length]⟩⟩
noncomputable def R17_Check_L3_x0 (p0 : api_Group) (x1 : (List (List api_Pair))) (o9 : (List (List UInt8))) : St := ⟨[(5, .own 0 1000009 1 (o9.map cStr))], ⟨[[.p (sV p0.Receiver), .p (bV p0.Firing), .p (.sl false (p0.Common.map c_api_Pair)), .p (sV p0.Link), .p (.sl false (p0.Alerts.map c_api_Alert))]], [(o9.map cStr).length]⟩⟩
noncomputable def R17_Check_L3_c : Code := ((loopsOf (Try.f6.body.getD .skip)).getD 2 .skip)
noncomputable def R17_Check_L5_st (p0 : api_Group) (o9 : (List (List UInt8))) (v9 : Int) (v10 : Int) : St := ⟨[(5, .own 0 1000009 1 (o9.map cStr)), (9, .p (iV v9)), (10, .p (iV v10))], ⟨[[.p (sV p0.Receiver), .p (bV p0.Firing), .p (.sl false (p0.Common.map c_api_Pair)), .p (sV p0.Link), .p (.sl false (p0.Alerts.map c_api_Alert))]], [(o9.map cStr).length]⟩⟩
noncomputable def R17_Check_L5_x0 (p0 : api_Group) (o9 : (List (List UInt8))) (y19 : Unit) : St := ⟨[], ⟨[[.p (sV p0.Receiver), .p (bV p0.Firing), .p (.sl false (p0.Common.map c_api_Pair)), .p (sV p0.Link), .p (.sl false (p0.Alerts.map c_api_Alert))]], [(o9.map cStr).length]⟩⟩
noncomputable def R17_Check_L5_x1 (p0 : api_Group) (o9 : (List (List UInt8))) (y20 : Unit) : St := ⟨[(2, .p (iV 6))], ⟨[[.p (sV p0.Receiver), .p (bV p0.Firing), .p (.sl false (p0.Common.map c_api_Pair)), .p (sV p0.Link), .p (.sl false (p0.Alerts.map c_api_Alert))]], [(o9.map cStr).length]⟩⟩
noncomputable def R17_Check_L5_c : Code := ((loopsOf (Try.f6.body.getD .skip)).getD 4 .skip)
noncomputable def t_R17_lists (y : (List (List api_Pair))) : D := .p (.sl false (y.map (cSl c_api_Pair)))
noncomputable def R17_lists_lv : List (Nat × List Nat) := [(0, [1]), (1, [1, 3]), (2, [1, 3, 4]), (3, [1, 3, 4, 12]), (4, [1, 3, 4]), (5, [1, 3, 4]), (6, [1, 3, 4]), (7, [2]), (1000003, [1, 3, 4])]
noncomputable def R17_lists_L1_st (p0 : api_Group) (v3 : (List (List api_Pair))) (v4 : Int) : St := ⟨[(1, .ptr 0 0), (3, .own 0 1000023 1 (v3.map (cSl c_api_Pair))), (4, .p (iV v4))], ⟨[[.p (sV p0.Receiver), .p (bV p0.Firing), .p (.sl false (p0.Common.map c_api_Pair)), .p (sV p0.Link), .p (.sl false (p0.Alerts.map c_api_Alert))]], [(v3.map (cSl c_api_Pair)).length]⟩⟩
noncomputable def R17_lists_L1_x0 (p0 : api_Group) (o1 : (List (List api_Pair))) : St := ⟨[(3, .own 0 1000023 1 (o1.map (cSl c_api_Pair)))], ⟨[[.p (sV p0.Receiver), .p (bV p0.Firing), .p (.sl false (p0.Common.map c_api_Pair)), .p (sV p0.Link), .p (.sl false (p0.Alerts.map c_api_Alert))]], [(o1.map (cSl c_api_Pair)).length]⟩⟩
noncomputable def R17_lists_L1_c : Code := ((loopsOf (Try.f15.body.getD .skip)).getD 0 .skip)
noncomputable def t_alert_Check (y : Int) : D := .p (iV y)
noncomputable def alert_Check_lv : List (Nat × List Nat) := [(0, [1, 2, 4]), (1, [1, 2, 4, 13]), (2, [2]), (3, [1, 2, 3, 4]), (4, [2, 3, 4, 15]), (5, [2, 3, 4, 15]), (6, [2, 3, 4, 15]), (7, [2, 3, 4, 15, 22]), (8, [2]), (9, [2]), (4000005, [2, 3, 4, 15]), (3000001, [])]
noncomputable def alert_Check_J0_0 (p0 : api_Group) (o1 : Bool) : St := ⟨[(1, .ptr 0 0), (2, .ptr 1 0), (13, .p (bV o1))], ⟨[[.p (sV p0.Receiver), .p (bV p0.Firing), .p (.sl false (p0.Common.map c_api_Pair)), .p (sV p0.Link), .p (.sl false (p0.Alerts.map c_api_Alert))], [.p (iV 0)]], []⟩⟩
noncomputable def alert_Check_L1_st (p0 : api_Group) (x4 : api_Group) (h2_0 : Int) : St := ⟨[(2, .ptr 1 0), (3, .ptr 2 0), (15, .fn (.func 26) [] [.p (.ep [sV x4.Receiver, bV x4.Firing, .sl false (x4.Common.map c_api_Pair), sV x4.Link, .sl false (x4.Alerts.map c_api_Alert)])])], ⟨[[.p (sV p0.Receiver), .p (bV p0.Firing), .p (.sl false (p0.Common.map c_api_Pair)), .p (sV p0.Link), .p (.sl false (p0.Alerts.map c_api_Alert))], [.p (iV 0)], [.p (iV h2_0)]], []⟩⟩
noncomputable def alert_Check_L1_x0 (p0 : api_Group) (x4 : api_Group) (y10 : Int) : St := ⟨[(2, .ptr 1 0), (3, .ptr 2 0), (15, .fn (.func 26) [] [.p (.ep [sV x4.Receiver, bV x4.Firing, .sl false (x4.Common.map c_api_Pair), sV x4.Link, .sl false (x4.Alerts.map c_api_Alert)])])], ⟨[[.p (sV p0.Receiver), .p (bV p0.Firing), .p (.sl false (p0.Common.map c_api_Pair)), .p (sV p0.Link), .p (.sl false (p0.Alerts.map c_api_Alert))], [.p (iV 0)], [.p (iV y10)]], []⟩⟩
noncomputable def alert_Check_L1_x1 (p0 : api_Group) (x4 : api_Group) (y11 : Int) : St := ⟨[(2, .ptr 1 0)], ⟨[[.p (sV p0.Receiver), .p (bV p0.Firing), .p (.sl false (p0.Common.map c_api_Pair)), .p (sV p0.Link), .p (.sl false (p0.Alerts.map c_api_Alert))], [.p (iV 6)], [.p (iV y11)]], []⟩⟩
noncomputable def alert_Check_L1_c : Code := ((loopsOf (Try.f5.body.getD .skip)).getD 0 .skip)
noncomputable def t_alert_Check_1 (y : Bool) : D := .p (bV y)
noncomputable def alert_Check_1_lv : List (Nat × List Nat) := [(0, [0]), (1, [2])]
noncomputable def t_alert_Val (y : api_Val × Int) : D := .tup [.p (.agg [iV y.1.K, sV y.1.S, iV y.1.N, bV y.1.B, .sl false (y.1.L.map c_api_Val)]), .p (iV y.2)]
noncomputable def alert_Val_lv : List (Nat × List Nat) := [(0, [1, 2]), (1, [1, 2, 4]), (2, [1, 2, 4, 12]), (3, [2, 3]), (4, [1, 2, 5]), (5, [1, 2, 5, 17, 18, 19]), (6, [1, 2, 5, 17, 18, 19, 20]), (7, [1, 2, 5, 7, 17, 18, 19]), (8, [1, 2, 5, 17, 18, 19]), (9, [1, 2, 5, 17, 18, 19]), (10, [1, 2, 5, 8]), (11, [1, 2, 5, 8]), (12, [1, 2, 5, 8]), (13, [2, 8]), (14, [2, 3]), (1000006, [1, 2, 5, 17, 18, 19]), (5000008, [4, 1004]), (5000011, [7]), (5000013, [5])]
noncomputable def alert_Val_L1_st (p0 : api_Group) (v19 : Int) (h2_4 : (List api_Val)) : St := ⟨[(1, .ptr 0 0), (2, .ptr 1 0), (5, .ptr 2 0), (17, .p (.sl false (p0.Alerts.map c_api_Alert))), (18, .p (iV (p0.Alerts.length : Int))), (19, .p (iV v19))], ⟨[[.p (sV p0.Receiver), .p (bV p0.Firing), .p (.sl false (p0.Common.map c_api_Pair)), .p (sV p0.Link), .p (.sl false (p0.Alerts.map c_api_Alert))], [.p (iV 0), .p (sV []), .p (iV 0), .p (bV false), .p (.sl true [])], [.p (iV 9), .p (sV []), .p (iV 0), .p (bV false), .own 0 54 5 (h2_4.map c_api_Val)]], [(h2_4.map c_api_Val).length]⟩⟩
noncomputable def alert_Val_L1_x0 (p0 : api_Group) (o2 : (List api_Val)) : St := ⟨[(1, .ptr 0 0), (2, .ptr 1 0), (5, .ptr 2 0)], ⟨[[.p (sV p0.Receiver), .p (bV p0.Firing), .p (.sl false (p0.Common.map c_api_Pair)), .p (sV p0.Link), .p (.sl false (p0.Alerts.map c_api_Alert))], [.p (iV 0), .p (sV []), .p (iV 0), .p (bV false), .p (.sl true [])], [.p (iV 9), .p (sV []), .p (iV 0), .p (bV false), .own 0 54 5 (o2.map c_api_Val)]], [(o2.map c_api_Val).length]⟩⟩
noncomputable def alert_Val_L1_c : Code := ((loopsOf (Try.f16.body.getD .skip)).getD 0 .skip)
noncomputable def t_alert_one_val (y : api_Val × (List api_Val)) : D := .p (.agg [iV y.1.K, sV y.1.S, iV y.1.N, bV y.1.B, .sl false (y.1.L.map c_api_Val)])
noncomputable def alert_one_val_lv : List (Nat × List Nat) := [(0, [0, 3, 4]), (1, [0, 3, 4]), (2, [0, 3, 4]), (3, [0, 3, 4]), (4, [0, 4]), (5, [4]), (5000001, [13]), (5000002, [5]), (5000003, [5]), (5000004, [7])]
noncomputable def t_alert_record_pairs (_ : (List api_Val)) : D := .tup []
noncomputable def alert_record_pairs_lv : List (Nat × List Nat) := [(0, [0, 1, 4]), (1, [0, 4, 8, 9, 10]), (2, [0, 4, 8, 9, 10, 11]), (3, [0, 4, 6, 8, 9, 10]), (4, [0, 4, 8, 9, 10]), (5, [0, 4, 8, 9, 10]), (6, []), (1000002, [0, 4, 8, 9, 10]), (6000006, [7]), (7000006, [25, 28, 29, 30, 31])]
noncomputable def alert_record_pairs_L1_st (p1 : (List api_Pair)) (h0_0 : (List api_Val)) (v10 : Int) (h1_4 : (List api_Val)) : St := ⟨[(0, .ptr 0 0), (4, .ptr 1 0), (8, .p (.sl false (p1.map c_api_Pair))), (9, .p (iV (p1.length : Int))), (10, .p (iV v10))], ⟨[[.own 0 54 5 (h0_0.map c_api_Val)], [.p (iV 8), .p (sV []), .p (iV 0), .p (bV false), .own 1 54 5 (h1_4.map c_api_Val)]], [(h0_0.map c_api_Val).length, (h1_4.map c_api_Val).length]⟩⟩
noncomputable def alert_record_pairs_L1_x0 (p1 : (List api_Pair)) (h0_0 : (List api_Val)) (o1 : (List api_Val)) : St := ⟨[(0, .ptr 0 0), (4, .ptr 1 0)], ⟨[[.own 0 54 5 (h0_0.map c_api_Val)], [.p (iV 8), .p (sV []), .p (iV 0), .p (bV false), .own 1 54 5 (o1.map c_api_Val)]], [(h0_0.map c_api_Val).length, (o1.map c_api_Val).length]⟩⟩
noncomputable def alert_record_pairs_L1_c : Code := ((loopsOf (Try.f31.body.getD .skip)).getD 0 .skip)
noncomputable def t_alert_record_put (_ : (List api_Val)) : D := .tup []
noncomputable def alert_record_put_lv : List (Nat × List Nat) := [(0, [])]
noncomputable def t_alert_record_put_2 (_ : (List api_Val)) : D := .tup []
noncomputable def alert_record_put_2_lv : List (Nat × List Nat) := [(0, [])]
noncomputable def t_alert_rows (y : (List (List api_Pair))) : D := .p (.sl false (y.map (cSl c_api_Pair)))
noncomputable def alert_rows_lv : List (Nat × List Nat) := [(0, [1]), (1, [1, 3]), (2, [3, 10, 11, 12]), (3, [3, 10, 11, 12, 13]), (4, [3, 5, 10, 11, 12]), (5, [3, 10, 11, 12]), (6, [3, 10, 11, 12]), (7, [2]), (1000003, [3, 10, 11, 12])]
noncomputable def alert_rows_L1_st (p0 : api_Group) (v3 : (List (List api_Pair))) (v12 : Int) : St := ⟨[(3, .own 0 1000023 1 (v3.map (cSl c_api_Pair))), (10, .p (.sl false (p0.Alerts.map c_api_Alert))), (11, .p (iV (p0.Alerts.length : Int))), (12, .p (iV v12))], ⟨[[.p (sV p0.Receiver), .p (bV p0.Firing), .p (.sl false (p0.Common.map c_api_Pair)), .p (sV p0.Link), .p (.sl false (p0.Alerts.map c_api_Alert))]], [(v3.map (cSl c_api_Pair)).length]⟩⟩
noncomputable def alert_rows_L1_x0 (p0 : api_Group) (o1 : (List (List api_Pair))) : St := ⟨[(3, .own 0 1000023 1 (o1.map (cSl c_api_Pair)))], ⟨[[.p (sV p0.Receiver), .p (bV p0.Firing), .p (.sl false (p0.Common.map c_api_Pair)), .p (sV p0.Link), .p (.sl false (p0.Alerts.map c_api_Alert))]], [(o1.map (cSl c_api_Pair)).length]⟩⟩
noncomputable def alert_rows_L1_c : Code := ((loopsOf (Try.f12.body.getD .skip)).getD 0 .skip)
noncomputable def t_alert_texts (y : api_Group) : D := .fn (.func 26) [] [.p (.ep [sV y.Receiver, bV y.Firing, .sl false (y.Common.map c_api_Pair), sV y.Link, .sl false (y.Alerts.map c_api_Alert)])]
noncomputable def alert_texts_lv : List (Nat × List Nat) := [(0, [1]), (1, [2])]
noncomputable def e_alert_texts_1 (y : (List UInt8)) : List V := [sV y]
noncomputable def alert_texts_1_lv : List (Nat × List Nat) := [(0, [0, 1, 20]), (1, [0, 1, 22, 23, 24]), (2, [0, 1, 22, 23, 24, 25]), (3, [0, 1, 4, 22, 23, 24]), (4, [0, 1, 22, 23, 24, 28, 29, 30]), (5, [0, 1, 22, 23, 24, 28, 29, 30, 31]), (6, [0, 1, 6, 22, 23, 24, 28, 29, 30]), (7, [0, 1, 22, 23, 24, 28, 29, 30, 45]), (8, [0, 1, 22, 23, 24, 28, 29, 30]), (9, [0, 1, 22, 23, 24]), (10, [0, 49, 50, 51]), (11, [0, 49, 50, 51, 52]), (12, [0, 8, 49, 50, 51]), (13, [0, 49, 50, 51, 59]), (14, [0, 49, 50, 51]), (1000002, [0, 1, 22, 23, 24]), (1000005, [0, 1, 22, 23, 24, 28, 29, 30]), (1000011, [0, 49, 50, 51])]
noncomputable def alert_texts_1_L2_st (p0 : api_Group) (x1 : (List (List api_Pair))) (v24 : Int) (x4 : (List api_Pair)) (v30 : Int) (gxs gp : List (List V)) : St := ⟨[(0, .yld Try.prog 0 gxs), (1, .p (.ep [sV p0.Receiver, bV p0.Firing, .sl false (p0.Common.map c_api_Pair), sV p0.Link, .sl false (p0.Alerts.map c_api_Alert)])), (22, .p (.sl false (x1.map (cSl c_api_Pair)))), (23, .p (iV (x1.length : Int))), (24, .p (iV v24)), (28, .p (.sl false (x4.map c_api_Pair))), (29, .p (iV (x4.length : Int))), (30, .p (iV v30))], ⟨[], [gp.length]⟩⟩
noncomputable def alert_texts_1_L2_x0 (p0 : api_Group) (x1 : (List (List api_Pair))) (v24 : Int) (x4 : (List api_Pair)) (gxs : List (List V)) (gq5 : List (List V)) (oy : Unit) : St := ⟨[(0, .yld Try.prog 0 gxs), (1, .p (.ep [sV p0.Receiver, bV p0.Firing, .sl false (p0.Common.map c_api_Pair), sV p0.Link, .sl false (p0.Alerts.map c_api_Alert)])), (22, .p (.sl false (x1.map (cSl c_api_Pair)))), (23, .p (iV (x1.length : Int))), (24, .p (iV v24))], ⟨[], [gq5.length]⟩⟩
noncomputable def alert_texts_1_L2_c : Code := ((loopsOf (Try.f26.body.getD .skip)).getD 1 .skip)
noncomputable def alert_texts_1_L1_st (p0 : api_Group) (x1 : (List (List api_Pair))) (v24 : Int) (gxs gp : List (List V)) : St := ⟨[(0, .yld Try.prog 0 gxs), (1, .p (.ep [sV p0.Receiver, bV p0.Firing, .sl false (p0.Common.map c_api_Pair), sV p0.Link, .sl false (p0.Alerts.map c_api_Alert)])), (22, .p (.sl false (x1.map (cSl c_api_Pair)))), (23, .p (iV (x1.length : Int))), (24, .p (iV v24))], ⟨[], [gp.length]⟩⟩
noncomputable def alert_texts_1_L1_x0 (p0 : api_Group) (x1 : (List (List api_Pair))) (gxs : List (List V)) (gq2 : List (List V)) (oy : Unit) : St := ⟨[(0, .yld Try.prog 0 gxs), (1, .p (.ep [sV p0.Receiver, bV p0.Firing, .sl false (p0.Common.map c_api_Pair), sV p0.Link, .sl false (p0.Alerts.map c_api_Alert)]))], ⟨[], [gq2.length]⟩⟩
noncomputable def alert_texts_1_L1_c : Code := ((loopsOf (Try.f26.body.getD .skip)).getD 0 .skip)
noncomputable def alert_texts_1_L3_st (p0 : api_Group) (v51 : Int) (gxs gp : List (List V)) : St := ⟨[(0, .yld Try.prog 0 gxs), (49, .p (.sl false (p0.Alerts.map c_api_Alert))), (50, .p (iV (p0.Alerts.length : Int))), (51, .p (iV v51))], ⟨[], [gp.length]⟩⟩
noncomputable def alert_texts_1_L3_x0 (p0 : api_Group) (gxs : List (List V)) (gq8 : List (List V)) (oy : Unit) : St := ⟨[], ⟨[], [gq8.length]⟩⟩
noncomputable def alert_texts_1_L3_c : Code := ((loopsOf (Try.f26.body.getD .skip)).getD 2 .skip)
noncomputable def t_kind_Elem (y : Int × Bool) : D := .tup [.p (iV y.1), .p (bV y.2)]
noncomputable def kind_Elem_lv : List (Nat × List Nat) := [(0, [0]), (1, [4]), (2, [4, 5]), (3, [2, 3]), (4, [4, 7]), (5, [2, 3]), (6, [9]), (7, [2, 3]), (8, [2, 3])]
noncomputable def t_kind_Field (y : Int × Bool) : D := .tup [.p (iV y.1), .p (bV y.2)]
noncomputable def kind_Field_lv : List (Nat × List Nat) := [(0, [0, 1]), (1, [0, 1, 8, 9, 10]), (2, [0, 1, 8, 9, 10, 11]), (3, [0, 1, 7, 8, 9, 10]), (4, [0, 1, 7, 8, 9, 10, 23]), (5, [4, 5]), (6, [0, 1, 8, 9, 10]), (7, [4, 5]), (1000002, [0, 1, 8, 9, 10]), (3000004, [])]
noncomputable def kind_Field_J0_0 (p0 : Int) (p1 : (List UInt8)) (x1 : (List kind_field)) (v10 : Int) (x5 : kind_field) (o6 : Bool) : St := ⟨[(0, .p (iV p0)), (1, .p (sV p1)), (7, .ptr 0 0), (8, .p (.sl false (x1.map c_kind_field))), (9, .p (iV (x1.length : Int))), (10, .p (iV v10)), (23, .p (bV o6))], ⟨[[.p (iV x5.of_), .p (sV x5.name_), .p (iV x5.is_)]], []⟩⟩
noncomputable def kind_Field_L1_st (p0 : Int) (p1 : (List UInt8)) (x1 : (List kind_field)) (v10 : Int) : St := ⟨[(0, .p (iV p0)), (1, .p (sV p1)), (8, .p (.sl false (x1.map c_kind_field))), (9, .p (iV (x1.length : Int))), (10, .p (iV v10))], ⟨[], []⟩⟩
noncomputable def kind_Field_L1_x0 (p0 : Int) (p1 : (List UInt8)) (x1 : (List kind_field)) (y3 : Unit) : St := ⟨[], ⟨[], []⟩⟩
noncomputable def kind_Field_L1_x1 (p0 : Int) (p1 : (List UInt8)) (x1 : (List kind_field)) (y4 : Int) : St := ⟨[(4, .p (iV y4)), (5, .p (bV true))], ⟨[], []⟩⟩
noncomputable def kind_Field_L1_c : Code := ((loopsOf (Try.f37.body.getD .skip)).getD 0 .skip)
noncomputable def t_kind_Fields (y : (List (List UInt8))) : D := .p (.sl false (y.map cStr))
noncomputable def kind_Fields_lv : List (Nat × List Nat) := [(0, [0]), (1, [0, 3]), (2, [0, 3, 6, 7, 8]), (3, [0, 3, 6, 7, 8, 9]), (4, [0, 3, 5, 6, 7, 8]), (5, [0, 3, 5, 6, 7, 8, 15]), (6, [0, 3, 6, 7, 8]), (7, [0, 3, 6, 7, 8]), (8, [2]), (1000003, [0, 3, 6, 7, 8])]
noncomputable def kind_Fields_L1_st (p0 : Int) (x1 : (List kind_field)) (v3 : (List (List UInt8))) (v8 : Int) : St := ⟨[(0, .p (iV p0)), (3, .own 0 9 1 (v3.map cStr)), (6, .p (.sl false (x1.map c_kind_field))), (7, .p (iV (x1.length : Int))), (8, .p (iV v8))], ⟨[], [(v3.map cStr).length]⟩⟩
noncomputable def kind_Fields_L1_x0 (p0 : Int) (x1 : (List kind_field)) (o2 : (List (List UInt8))) : St := ⟨[(3, .own 0 9 1 (o2.map cStr))], ⟨[], [(o2.map cStr).length]⟩⟩
noncomputable def kind_Fields_L1_c : Code := ((loopsOf (Try.f36.body.getD .skip)).getD 0 .skip)
noncomputable def t_kind_Plain (y : Bool) : D := .p (bV y)
noncomputable def kind_Plain_lv : List (Nat × List Nat) := [(0, [0]), (1, [2]), (3000001, [])]
noncomputable def kind_Plain_J0_0  (o1 : Bool) : St := ⟨[(2, .p (bV o1))], ⟨[], []⟩⟩
noncomputable def t_kind_table (y : (List kind_field)) : D := .p (.sl false (y.map c_kind_field))
noncomputable def kind_table_lv : List (Nat × List Nat) := [(0, []), (1, [0])]
noncomputable def t_nunciolaw17_AlertFits (y : Bool) : D := .p (bV y)
noncomputable def nunciolaw17_AlertFits_lv : List (Nat × List Nat) := [(0, [0, 1, 2, 3]), (1, [0, 1, 2, 3, 9]), (2, [0, 1, 2, 3, 9, 10]), (3, [0, 1, 2, 3, 9, 10, 19]), (4, [0, 1, 2, 3, 9, 10]), (5, [0, 1, 2, 3, 9, 10]), (6, [1, 2, 3, 9, 11]), (7, [1, 2, 3, 9, 11, 12]), (8, [1, 2, 3, 9, 11, 12, 33]), (9, [1, 2, 3, 9, 11, 12]), (10, [1, 2, 3, 9, 11, 12]), (11, [3, 9, 11, 13]), (12, [9]), (13, [3, 9, 11, 13, 53]), (14, [9, 13]), (15, [9]), (16, [9]), (17, [3, 9, 11, 13, 68]), (18, [9, 13]), (19, [9]), (20, [3, 9, 11, 13, 86]), (21, [9, 13]), (22, [9]), (23, [9, 13, 97]), (24, [9]), (25, [8]), (1000003, [0, 1, 2, 3, 9, 10]), (1000008, [1, 2, 3, 9, 11, 12]), (2012026, []), (3000013, []), (3000025, []), (9000005, [4, 0, 0, 0]), (9000013, [6, 0, 0, 0]), (9000018, [4, 0, 0, 0, 7, 0, 0, 0, 8, 0, 0, 0, 9, 3, 0, 4]), (9000019, [3, 0, 0, 0, 4, 0, 0, 0, 5, 3, 0, 4]), (9000021, [3, 0, 0, 0, 4, 0, 0, 0, 5, 3, 0, 4]), (9000024, [5, 0, 0, 0, 6, 0, 0, 0, 7, 3, 0, 4]), (9500025, [])]
noncomputable def nunciolaw17_AlertFits_L1_st (p0 : Int) (p1 : Int) (p2 : Int) (p3 : Int) (v10 : Int) (h0_4 : (List api_Alert)) : St := ⟨[(0, .p (nV .u8 p0)), (1, .p (nV .u8 p1)), (2, .p (nV .u16 p2)), (3, .p (nV .u8 p3)), (9, .ptr 0 0), (10, .p (iV v10))], ⟨[[.p (sV []), .p (bV false), .p (.sl true []), .p (sV []), .x 0 1 (.sl 28 6 (h0_4.map c_api_Alert))]], [1]⟩⟩
noncomputable def nunciolaw17_AlertFits_L1_x0 (p0 : Int) (p1 : Int) (p2 : Int) (p3 : Int) (o1 : (List api_Alert)) : St := ⟨[(1, .p (nV .u8 p1)), (2, .p (nV .u16 p2)), (3, .p (nV .u8 p3)), (9, .ptr 0 0)], ⟨[[.p (sV []), .p (bV false), .p (.sl true []), .p (sV []), .x 0 1 (.sl 28 6 (o1.map c_api_Alert))]], [1]⟩⟩
noncomputable def nunciolaw17_AlertFits_L1_c : Code := ((loopsOf (Try.f3.body.getD .skip)).getD 0 .skip)
noncomputable def nunciolaw17_AlertFits_L2_st (p1 : Int) (p2 : Int) (p3 : Int) (o1 : (List api_Alert)) (v11 : (List api_Pair)) (v12 : Int) : St := ⟨[(1, .p (nV .u8 p1)), (2, .p (nV .u16 p2)), (3, .p (nV .u8 p3)), (9, .ptr 0 0), (11, .own 1 30 2 (v11.map c_api_Pair)), (12, .p (iV v12))], ⟨[[.p (sV []), .p (bV false), .p (.sl true []), .p (sV []), .x 0 1 (.sl 28 6 (o1.map c_api_Alert))]], [1, (v11.map c_api_Pair).length]⟩⟩
noncomputable def nunciolaw17_AlertFits_L2_x0 (p1 : Int) (p2 : Int) (p3 : Int) (o1 : (List api_Alert)) (o3 : (List api_Pair)) : St := ⟨[(2, .p (nV .u16 p2)), (3, .p (nV .u8 p3)), (9, .ptr 0 0), (11, .own 1 30 2 (o3.map c_api_Pair))], ⟨[[.p (sV []), .p (bV false), .p (.sl true []), .p (sV []), .x 0 1 (.sl 28 6 (o1.map c_api_Alert))]], [1, (o3.map c_api_Pair).length]⟩⟩
noncomputable def nunciolaw17_AlertFits_L2_c : Code := ((loopsOf (Try.f3.body.getD .skip)).getD 1 .skip)
noncomputable def nunciolaw17_AlertFits_J0_0 (o3 : (List api_Pair)) (o7 : (List UInt8) × (List api_Pair) × (List UInt8) × (List api_Alert)) : St := ⟨[(9, .ptr 0 0)], ⟨[[.p (sV o7.1), .p (bV false), .p (.sl false (o7.2.1.map c_api_Pair)), .p (sV o7.2.2.1), .x 0 1 (.sl 28 6 (o7.2.2.2.map c_api_Alert))]], [1, (o3.map c_api_Pair).length]⟩⟩
noncomputable def nunciolaw17_AlertFits_J1_0 (p3 : Int) (o1 : (List api_Alert)) (o3 : (List api_Pair)) (x6 : (List UInt8)) (o8 : Bool) : St := ⟨[(3, .p (nV .u8 p3)), (9, .ptr 0 0), (11, .own 1 30 2 (o3.map c_api_Pair)), (13, .p (sV x6)), (53, .p (bV o8))], ⟨[[.p (sV []), .p (bV false), .p (.sl true []), .p (sV []), .x 0 1 (.sl 28 6 (o1.map c_api_Alert))]], [1, (o3.map c_api_Pair).length]⟩⟩
noncomputable def nunciolaw17_AlertFits_J2_0 (o3 : (List api_Pair)) (o7 : (List UInt8) × (List api_Pair) × (List UInt8) × (List api_Alert)) (o13 : Bool) : St := ⟨[(8, .p (bV o13))], ⟨[[.p (sV o7.1), .p (bV false), .p (.sl false (o7.2.1.map c_api_Pair)), .p (sV o7.2.2.1), .p (.sl false (o7.2.2.2.map c_api_Alert))]], [1, (o3.map c_api_Pair).length]⟩⟩
noncomputable def t_nunciolaw17_awake (y : Bool) : D := .p (bV y)
noncomputable def nunciolaw17_awake_lv : List (Nat × List Nat) := [(0, []), (1, [1, 2]), (2, [0]), (3000002, [])]
noncomputable def nunciolaw17_awake_J0_0 (x1 : api_Val × Int) (o2 : Bool) : St := ⟨[(0, .p (bV o2))], ⟨[[.p (iV x1.1.K), .p (sV x1.1.S), .p (iV x1.1.N), .p (bV x1.1.B), .p (.sl false (x1.1.L.map c_api_Val))]], []⟩⟩
noncomputable def t_schema_Is (y : Bool) : D := .p (bV y)
noncomputable def schema_Is_lv : List (Nat × List Nat) := [(0, [1]), (1, [1, 3]), (2, [1, 3, 17]), (3, [1, 3, 17, 18]), (4, [1, 3]), (5, [1, 3, 17, 23]), (6, [1, 3]), (7, [1, 3, 28]), (8, [1, 3]), (9, [1, 51]), (10, [2]), (11, [1, 54]), (12, [2]), (13, [1, 4, 5]), (14, [1, 4, 65]), (15, [2]), (16, [1, 6]), (17, [1, 6, 90]), (18, [2]), (19, [1, 91, 92, 93]), (20, [1, 91, 92, 93, 94]), (21, [1, 7, 8, 91, 92, 93]), (22, [1, 7, 9, 91, 92, 93]), (23, [1, 91, 92, 93, 121]), (24, [2]), (25, [1, 91, 92, 93]), (26, [2]), (1000020, [1, 91, 92, 93]), (2002016, []), (3000009, []), (3000015, []), (3000017, []), (3000023, [])]
noncomputable def schema_Is_J0_0 (p0 : api_Val) (o1 : (List UInt8) × Int × Bool) : St := ⟨[(1, .ptr 0 0), (3, .ptr 1 0)], ⟨[[.p (iV p0.K), .p (sV p0.S), .p (iV p0.N), .p (bV p0.B), .p (.sl false (p0.L.map c_api_Val))], [.p (iV p0.K), .p (sV o1.1), .p (iV o1.2.1), .p (bV o1.2.2), .p (.sl false (p0.L.map c_api_Val))]], []⟩⟩
noncomputable def schema_Is_J1_0 (p0 : api_Val) (o1 : (List UInt8) × Int × Bool) (o2 : Bool) : St := ⟨[(1, .ptr 0 0), (51, .p (bV o2))], ⟨[[.p (iV p0.K), .p (sV p0.S), .p (iV p0.N), .p (bV p0.B), .p (.sl false (p0.L.map c_api_Val))], [.p (iV p0.K), .p (sV o1.1), .p (iV o1.2.1), .p (bV o1.2.2), .p (.sl false (p0.L.map c_api_Val))]], []⟩⟩
noncomputable def schema_Is_J2_0 (p0 : api_Val) (o1 : (List UInt8) × Int × Bool) (x4 : Int × Bool) (o5 : Bool) : St := ⟨[(2, .p (bV o5))], ⟨[[.p (iV p0.K), .p (sV p0.S), .p (iV p0.N), .p (bV p0.B), .p (.sl false (p0.L.map c_api_Val))], [.p (iV p0.K), .p (sV o1.1), .p (iV o1.2.1), .p (bV o1.2.2), .p (.sl false (p0.L.map c_api_Val))], [.p (iV x4.1)]], []⟩⟩
noncomputable def schema_Is_J3_0 (p0 : api_Val) (o1 : (List UInt8) × Int × Bool) (x4 : Int × Bool) (x7 : (List (List UInt8))) (o8 : Bool) : St := ⟨[(1, .ptr 0 0), (6, .p (.sl false (x7.map cStr))), (90, .p (bV o8))], ⟨[[.p (iV p0.K), .p (sV p0.S), .p (iV p0.N), .p (bV p0.B), .p (.sl false (p0.L.map c_api_Val))], [.p (iV p0.K), .p (sV o1.1), .p (iV o1.2.1), .p (bV o1.2.2), .p (.sl false (p0.L.map c_api_Val))], [.p (iV x4.1)]], []⟩⟩
noncomputable def schema_Is_J4_0 (p0 : api_Val) (o1 : (List UInt8) × Int × Bool) (x4 : Int × Bool) (x7 : (List (List UInt8))) (v93 : Int) (o14 : Bool) : St := ⟨[(1, .ptr 0 0), (91, .p (.sl false (x7.map cStr))), (92, .p (iV (x7.length : Int))), (93, .p (iV v93)), (121, .p (bV o14))], ⟨[[.p (iV p0.K), .p (sV p0.S), .p (iV p0.N), .p (bV p0.B), .p (.sl false (p0.L.map c_api_Val))], [.p (iV p0.K), .p (sV o1.1), .p (iV o1.2.1), .p (bV o1.2.2), .p (.sl false (p0.L.map c_api_Val))], [.p (iV x4.1)]], []⟩⟩
noncomputable def schema_Is_L1_st (p0 : api_Val) (o1 : (List UInt8) × Int × Bool) (x4 : Int × Bool) (x7 : (List (List UInt8))) (v93 : Int) : St := ⟨[(1, .ptr 0 0), (91, .p (.sl false (x7.map cStr))), (92, .p (iV (x7.length : Int))), (93, .p (iV v93))], ⟨[[.p (iV p0.K), .p (sV p0.S), .p (iV p0.N), .p (bV p0.B), .p (.sl false (p0.L.map c_api_Val))], [.p (iV p0.K), .p (sV o1.1), .p (iV o1.2.1), .p (bV o1.2.2), .p (.sl false (p0.L.map c_api_Val))], [.p (iV x4.1)]], []⟩⟩
noncomputable def schema_Is_L1_x0 (p0 : api_Val) (o1 : (List UInt8) × Int × Bool) (x4 : Int × Bool) (x7 : (List (List UInt8))) (y10 : Unit) : St := ⟨[], ⟨[[.p (iV p0.K), .p (sV p0.S), .p (iV p0.N), .p (bV p0.B), .p (.sl false (p0.L.map c_api_Val))], [.p (iV p0.K), .p (sV o1.1), .p (iV o1.2.1), .p (bV o1.2.2), .p (.sl false (p0.L.map c_api_Val))], [.p (iV x4.1)]], []⟩⟩
noncomputable def schema_Is_L1_x1 (p0 : api_Val) (o1 : (List UInt8) × Int × Bool) (x4 : Int × Bool) (x7 : (List (List UInt8))) (y11 : Unit) : St := ⟨[(2, .p (bV false))], ⟨[[.p (iV p0.K), .p (sV p0.S), .p (iV p0.N), .p (bV p0.B), .p (.sl false (p0.L.map c_api_Val))], [.p (iV p0.K), .p (sV o1.1), .p (iV o1.2.1), .p (bV o1.2.2), .p (.sl false (p0.L.map c_api_Val))], [.p (iV x4.1)]], []⟩⟩
noncomputable def schema_Is_L1_c : Code := ((loopsOf (Try.f17.body.getD .skip)).getD 0 .skip)
noncomputable def t_schema_Is_1 (y : Bool) : D := .p (bV y)
noncomputable def schema_Is_1_lv : List (Nat × List Nat) := [(0, [1, 2]), (1, [3]), (3000001, [])]
noncomputable def schema_Is_1_J0_0 (p0 : api_Val) (h0_0 : Int) (o1 : Bool) : St := ⟨[(3, .p (bV o1))], ⟨[[.p (iV h0_0)], [.p (iV p0.K), .p (sV p0.S), .p (iV p0.N), .p (bV p0.B), .p (.sl false (p0.L.map c_api_Val))]], []⟩⟩
noncomputable def t_schema_Number (y : api_Val) : D := .p (.agg [iV y.K, sV y.S, iV y.N, bV y.B, .sl false (y.L.map c_api_Val)])
noncomputable def schema_Number_lv : List (Nat × List Nat) := [(0, [0, 2]), (1, [2])]
noncomputable def t_schema_Pair (y : api_Val) : D := .p (.agg [iV y.K, sV y.S, iV y.N, bV y.B, .sl false (y.L.map c_api_Val)])
noncomputable def schema_Pair_lv : List (Nat × List Nat) := [(0, [0, 1, 4]), (1, [4])]
noncomputable def t_schema_Text (y : api_Val) : D := .p (.agg [iV y.K, sV y.S, iV y.N, bV y.B, .sl false (y.L.map c_api_Val)])
noncomputable def schema_Text_lv : List (Nat × List Nat) := [(0, [0, 2]), (1, [2])]
noncomputable def t_schema_Truth (y : api_Val) : D := .p (.agg [iV y.K, sV y.S, iV y.N, bV y.B, .sl false (y.L.map c_api_Val)])
noncomputable def schema_Truth_lv : List (Nat × List Nat) := [(0, [0, 2]), (1, [2])]
noncomputable def t_schema_Weight (y : Int) : D := .p (iV y)
noncomputable def schema_Weight_lv : List (Nat × List Nat) := [(0, [1]), (1, [1, 3]), (2, [3, 7, 8, 9]), (3, [3, 7, 8, 9, 10]), (4, [3, 5, 7, 8, 9]), (5, [3, 7, 8, 9]), (6, [3, 7, 8, 9]), (7, [2]), (1000003, [3, 7, 8, 9])]
noncomputable def schema_Weight_L1_st (p0 : api_Val) (v3 : Int) (v9 : Int) : St := ⟨[(3, .p (iV v3)), (7, .p (.sl false (p0.L.map c_api_Val))), (8, .p (iV (p0.L.length : Int))), (9, .p (iV v9))], ⟨[[.p (iV p0.K), .p (sV p0.S), .p (iV p0.N), .p (bV p0.B), .p (.sl false (p0.L.map c_api_Val))]], []⟩⟩
noncomputable def schema_Weight_L1_x0 (p0 : api_Val) (o1 : Int) : St := ⟨[(3, .p (iV o1))], ⟨[[.p (iV p0.K), .p (sV p0.S), .p (iV p0.N), .p (bV p0.B), .p (.sl false (p0.L.map c_api_Val))]], []⟩⟩
noncomputable def schema_Weight_L1_c : Code := ((loopsOf (Try.f18.body.getD .skip)).getD 0 .skip)
noncomputable def t_slices_ContainsFunc_api_Pair_api_Pair_alert_Check_1 (y : Bool) : D := .p (bV y)
noncomputable def slices_ContainsFunc_api_Pair_api_Pair_alert_Check_1_lv : List (Nat × List Nat) := [(0, [0, 1]), (1, [4])]
noncomputable def t_slices_ContainsFunc_api_Val_api_Val_schema_Is_1 (y : Bool) : D := .p (bV y)
noncomputable def slices_ContainsFunc_api_Val_api_Val_schema_Is_1_lv : List (Nat × List Nat) := [(0, [0, 1]), (1, [4])]
noncomputable def t_slices_IndexFunc_api_Pair_api_Pair_alert_Check_1 (y : Int) : D := .p (iV y)
noncomputable def slices_IndexFunc_api_Pair_api_Pair_alert_Check_1_lv : List (Nat × List Nat) := [(0, [0, 1]), (1, [0, 1, 7, 8]), (2, [0, 1, 7, 8, 9]), (3, [0, 1, 5, 7, 8]), (4, [0, 1, 5, 7, 8, 16]), (5, [4]), (6, [0, 1, 7, 8]), (7, [4]), (1000002, [0, 1, 7, 8])]
noncomputable def slices_IndexFunc_api_Pair_api_Pair_alert_Check_1_L1_st (p0 : (List (List api_Pair))) (v8 : Int) : St := ⟨[(0, .p (.sl false (p0.map (cSl c_api_Pair)))), (1, .fn (.func 13) [] []), (7, .p (iV (p0.length : Int))), (8, .p (iV v8))], ⟨[], []⟩⟩
noncomputable def slices_IndexFunc_api_Pair_api_Pair_alert_Check_1_L1_x0 (p0 : (List (List api_Pair))) (y2 : Unit) : St := ⟨[], ⟨[], []⟩⟩
noncomputable def slices_IndexFunc_api_Pair_api_Pair_alert_Check_1_L1_x1 (p0 : (List (List api_Pair))) (y3 : Int) : St := ⟨[(4, .p (iV y3))], ⟨[], []⟩⟩
noncomputable def slices_IndexFunc_api_Pair_api_Pair_alert_Check_1_L1_c : Code := ((loopsOf (Try.f25.body.getD .skip)).getD 0 .skip)
noncomputable def t_slices_IndexFunc_api_Val_api_Val_schema_Is_1 (y : Int) : D := .p (iV y)
noncomputable def slices_IndexFunc_api_Val_api_Val_schema_Is_1_lv : List (Nat × List Nat) := [(0, [0, 1]), (1, [0, 1, 7, 8]), (2, [0, 1, 7, 8, 9]), (3, [0, 1, 5, 7, 8]), (4, [0, 1, 5, 7, 8, 16]), (5, [4]), (6, [0, 1, 7, 8]), (7, [4]), (1000002, [0, 1, 7, 8])]
noncomputable def slices_IndexFunc_api_Val_api_Val_schema_Is_1_L1_st (p0 : (List api_Val)) (h0_0 : Int) (v8 : Int) : St := ⟨[(0, .p (.sl false (p0.map c_api_Val))), (1, .fn (.func 35) [] [.ptr 0 0]), (7, .p (iV (p0.length : Int))), (8, .p (iV v8))], ⟨[[.p (iV h0_0)]], []⟩⟩
noncomputable def slices_IndexFunc_api_Val_api_Val_schema_Is_1_L1_x0 (p0 : (List api_Val)) (h0_0 : Int) (y2 : Unit) : St := ⟨[], ⟨[[.p (iV h0_0)]], []⟩⟩
noncomputable def slices_IndexFunc_api_Val_api_Val_schema_Is_1_L1_x1 (p0 : (List api_Val)) (h0_0 : Int) (y3 : Int) : St := ⟨[(4, .p (iV y3))], ⟨[[.p (iV h0_0)]], []⟩⟩
noncomputable def slices_IndexFunc_api_Val_api_Val_schema_Is_1_L1_c : Code := ((loopsOf (Try.f49.body.getD .skip)).getD 0 .skip)
noncomputable def R17_Check_L1 (p0 : api_Group) (x1 : (List (List api_Pair))) (v4 : Int) : Option (Unit ⊕ Unit) :=
  if (decide (v4 < (x1.length : Int))) then
    idx x1 v4 >>= fun x5 =>
    if (decide ((x5.length : Int) > 32)) then
      some (.inr ())
    else
      R17_Check_L1 p0 x1 (wr (v4 + 1))
  else
    some (.inl ())
  partial_fixpoint
set_option maxRecDepth 100000 in
set_option maxHeartbeats 4000000 in
theorem R17_Check_L1_grp : ∀ (p0 : api_Group) (x1 : (List (List api_Pair))), (∀ (v4 : Int) (o2 : Unit ⊕ Unit), R17_Check_L1 p0 x1 v4 = some o2 → TL (0, 0) Try.prog 107 R17_Check_L1_c (JP2 (0, 0) 107 o2 (.exit 0) (R17_Check_L1_x0 p0 x1) .ret (R17_Check_L1_x1 p0 x1)) (R17_Check_L1_st p0 x1 v4)) := by
  intro p0 x1
  refine R17_Check_L1.partial_correctness p0 x1 _ ?_
  intro R17_Check_L1' ih_R17_Check_L1 v4 o2 h
  refine TL.round (bwp_sound mixed tbOk (lv := R17_Check_lv) _ _ _ ?_)
  refine view (lenMap _ _) rfl ?_
  refine st_test h (fun hb h => ?_) (fun hb h => ?_)
  · refine st_idx (l := x1) (c := (cSl c_api_Pair)) (c' := (cSl c_api_Pair)) h (fun _ => rfl) (fun _ => rfl) (by decide) (fun x5 hi h => ?_)
    refine view (lenMap _ _) rfl ?_
    refine st_test h (fun hb h => ?_) (fun hb h => ?_)
    · exact JP2.b h (Le.tow 1 0 rfl (.cons rfl (.refl _) (.nil)) (.refl _) rfl)
    · refine TL.le (τ := R17_Check_L1_st p0 x1 (wr (v4 + 1))) ?_ ((ih_R17_Check_L1 (wr (v4 + 1)) _ h))
      exact Le.tow 1 0 rfl (.cons rfl (.refl _) (.cons rfl (.refl _) (.cons rfl (.refl _) (.nil)))) (.refl _) rfl
  · exact JP2.a h (Le.tow 1 0 rfl (.cons rfl (.refl _) (.cons rfl (.refl _) (.nil))) (.refl _) rfl)
theorem R17_Check_L1_ok : ∀ (p0 : api_Group) (x1 : (List (List api_Pair))) (v4 : Int) (o2 : Unit ⊕ Unit), R17_Check_L1 p0 x1 v4 = some o2 → TL (0, 0) Try.prog 107 R17_Check_L1_c (JP2 (0, 0) 107 o2 (.exit 0) (R17_Check_L1_x0 p0 x1) .ret (R17_Check_L1_x1 p0 x1)) (R17_Check_L1_st p0 x1 v4) := fun p0 x1 v4 o2 h => (R17_Check_L1_grp p0 x1) v4 o2 h
noncomputable def R17_Check_L2 (p0 : api_Group) (x1 : (List (List api_Pair))) (v5 : (List (List UInt8))) (v6 : Int) : Option ((List (List UInt8))) :=
  if (decide (v6 < (p0.Alerts.length : Int))) then
    idx p0.Alerts v6 >>= fun x7 =>
    appL 16 v5 [x7.Link] >>= fun x8 =>
    R17_Check_L2 p0 x1 x8 (wr (v6 + 1))
  else
    some v5
  partial_fixpoint
set_option maxRecDepth 100000 in
set_option maxHeartbeats 4000000 in
theorem R17_Check_L2_grp : ∀ (p0 : api_Group) (x1 : (List (List api_Pair))), (∀ (v5 : (List (List UInt8))) (v6 : Int) (o6 : (List (List UInt8))), R17_Check_L2 p0 x1 v5 v6 = some o6 → TL (0, 0) Try.prog 107 R17_Check_L2_c (JP1 (0, 0) 107 o6 (.exit 2) (R17_Check_L2_x0 p0 x1)) (R17_Check_L2_st p0 x1 v5 v6)) := by
  intro p0 x1
  refine R17_Check_L2.partial_correctness p0 x1 _ ?_
  intro R17_Check_L2' ih_R17_Check_L2 v5 v6 o6 h
  refine TL.round (bwp_sound mixed tbOk (lv := R17_Check_lv) _ _ _ ?_)
  refine view (lenMap _ _) rfl ?_
  refine st_test h (fun hb h => ?_) (fun hb h => ?_)
  · refine st_idx (l := p0.Alerts) (c := c_api_Alert) (c' := c_api_Alert) h (fun _ => rfl) (fun _ => rfl) (by decide) (fun x7 hi h => ?_)
    refine st_appo (a := v5) (b := [x7.Link]) (c := cStr) h (.refl _) (fun _ => rfl) rfl (fun x8 hi h => ?_)
    refine TL.le (τ := R17_Check_L2_st p0 x1 x8 (wr (v6 + 1))) ?_ ((ih_R17_Check_L2 x8 (wr (v6 + 1)) _ h))
    exact Le.tow 1 1 rfl (.cons rfl (.refl _) (.cons rfl (.refl _) (.cons rfl (.refl _) (.cons rfl (.refl _) (.nil))))) (.refl _) rfl
  · exact JP1.a h (Le.tow 1 1 rfl (.cons rfl (.refl _) (.cons rfl (.refl _) (.nil))) (.refl _) rfl)
theorem R17_Check_L2_ok : ∀ (p0 : api_Group) (x1 : (List (List api_Pair))) (v5 : (List (List UInt8))) (v6 : Int) (o6 : (List (List UInt8))), R17_Check_L2 p0 x1 v5 v6 = some o6 → TL (0, 0) Try.prog 107 R17_Check_L2_c (JP1 (0, 0) 107 o6 (.exit 2) (R17_Check_L2_x0 p0 x1)) (R17_Check_L2_st p0 x1 v5 v6) := fun p0 x1 v5 v6 o6 h => (R17_Check_L2_grp p0 x1) v5 v6 o6 h
noncomputable def R17_Check_L4 (p0 : api_Group) (x1 : (List (List api_Pair))) (v7 : Int) (v5_ : (List (List UInt8))) (v8 : Int) : Option ((List (List UInt8))) :=
  idx x1 v7 >>= fun x11 =>
  if (decide (v8 < (x11.length : Int))) then
    idx x1 v7 >>= fun x12 =>
    idx x12 v8 >>= fun x13 =>
    appL 16 v5_ [x13.Key] >>= fun x14 =>
    idx x1 v7 >>= fun x15 =>
    idx x15 v8 >>= fun x16 =>
    appL 16 x14 [x16.Val] >>= fun x17 =>
    R17_Check_L4 p0 x1 v7 x17 (wr (v8 + 1))
  else
    some v5_
  partial_fixpoint
set_option maxRecDepth 100000 in
set_option maxHeartbeats 4000000 in
theorem R17_Check_L4_grp : ∀ (p0 : api_Group) (x1 : (List (List api_Pair))) (v7 : Int), (∀ (v5_ : (List (List UInt8))) (v8 : Int) (o10 : (List (List UInt8))), R17_Check_L4 p0 x1 v7 v5_ v8 = some o10 → TL (0, 0) Try.prog 107 R17_Check_L4_c (JP1 (0, 0) 107 o10 (.exit 6) (R17_Check_L4_x0 p0 x1 v7)) (R17_Check_L4_st p0 x1 v7 v5_ v8)) := by
  intro p0 x1 v7
  refine R17_Check_L4.partial_correctness p0 x1 v7 _ ?_
  intro R17_Check_L4' ih_R17_Check_L4 v5_ v8 o10 h
  refine TL.round (bwp_sound mixed tbOk (lv := R17_Check_lv) _ _ _ ?_)
  refine st_idx (l := x1) (c := (cSl c_api_Pair)) (c' := (cSl c_api_Pair)) h (fun _ => rfl) (fun _ => rfl) (by decide) (fun x11 hi h => ?_)
  refine view (lenMap _ _) rfl ?_
  refine st_test h (fun hb h => ?_) (fun hb h => ?_)
  · refine st_idx (l := x1) (c := (cSl c_api_Pair)) (c' := (cSl c_api_Pair)) h (fun _ => rfl) (fun _ => rfl) (by decide) (fun x12 hi h => ?_)
    refine st_idx (l := x12) (c := c_api_Pair) (c' := c_api_Pair) h (fun _ => rfl) (fun _ => rfl) (by decide) (fun x13 hi h => ?_)
    refine st_appo (a := v5_) (b := [x13.Key]) (c := cStr) h (.refl _) (fun _ => rfl) rfl (fun x14 hi h => ?_)
    refine st_idx (l := x1) (c := (cSl c_api_Pair)) (c' := (cSl c_api_Pair)) h (fun _ => rfl) (fun _ => rfl) (by decide) (fun x15 hi h => ?_)
    refine st_idx (l := x15) (c := c_api_Pair) (c' := c_api_Pair) h (fun _ => rfl) (fun _ => rfl) (by decide) (fun x16 hi h => ?_)
    refine st_appo (a := x14) (b := [x16.Val]) (c := cStr) h (.refl _) (fun _ => rfl) rfl (fun x17 hi h => ?_)
    refine TL.le (τ := R17_Check_L4_st p0 x1 v7 x17 (wr (v8 + 1))) ?_ ((ih_R17_Check_L4 x17 (wr (v8 + 1)) _ h))
    exact Le.tow 1 1 rfl (.cons rfl (.refl _) (.cons rfl (.refl _) (.cons rfl (.refl _) (.cons rfl (.refl _) (.nil))))) (.refl _) rfl
  · exact JP1.a h (Le.tow 1 1 rfl (.cons rfl (.refl _) (.cons rfl (.refl _) (.cons rfl (.refl _) (.nil)))) (.refl _) rfl)
theorem R17_Check_L4_ok : ∀ (p0 : api_Group) (x1 : (List (List api_Pair))) (v7 : Int) (v5_ : (List (List UInt8))) (v8 : Int) (o10 : (List (List UInt8))), R17_Check_L4 p0 x1 v7 v5_ v8 = some o10 → TL (0, 0) Try.prog 107 R17_Check_L4_c (JP1 (0, 0) 107 o10 (.exit 6) (R17_Check_L4_x0 p0 x1 v7)) (R17_Check_L4_st p0 x1 v7 v5_ v8) := fun p0 x1 v7 v5_ v8 o10 h => (R17_Check_L4_grp p0 x1 v7) v5_ v8 o10 h
noncomputable def R17_Check_L3 (p0 : api_Group) (x1 : (List (List api_Pair))) (v5 : (List (List UInt8))) (v7 : Int) : Option ((List (List UInt8))) :=
  if (decide (v7 < (x1.length : Int))) then
    (R17_Check_L4 p0 x1 v7 v5 0) >>= fun o10 =>
    R17_Check_L3 p0 x1 o10 (wr (v7 + 1))
  else
    some v5
  partial_fixpoint
set_option maxRecDepth 100000 in
set_option maxHeartbeats 4000000 in
theorem R17_Check_L3_grp : ∀ (p0 : api_Group) (x1 : (List (List api_Pair))), (∀ (v5 : (List (List UInt8))) (v7 : Int) (o9 : (List (List UInt8))), R17_Check_L3 p0 x1 v5 v7 = some o9 → TL (0, 0) Try.prog 107 R17_Check_L3_c (JP1 (0, 0) 107 o9 (.exit 4) (R17_Check_L3_x0 p0 x1)) (R17_Check_L3_st p0 x1 v5 v7)) := by
  intro p0 x1
  refine R17_Check_L3.partial_correctness p0 x1 _ ?_
  intro R17_Check_L3' ih_R17_Check_L3 v5 v7 o9 h
  refine TL.round (bwp_sound mixed tbOk (lv := R17_Check_lv) _ _ _ ?_)
  refine view (lenMap _ _) rfl ?_
  refine st_test h (fun hb h => ?_) (fun hb h => ?_)
  · refine st_bind h (fun o10 ho hk => ?_)
    refine Exists.intro (JP1 _ _ o10 (.exit 6) (R17_Check_L4_x0 p0 x1 v7)) (And.intro (T_le (τ := R17_Check_L4_st p0 x1 v7 v5 0) ?_ (TL.loop (R17_Check_L4_ok p0 x1 v7 v5 0 o10 ho))) (join1 ?_))
    · exact Le.tow 1 1 rfl (.cons rfl (.refl _) (.cons rfl (.refl _) (.cons rfl (.refl _) (.cons rfl (.refl _) (.nil))))) (.refl _) rfl
    have h := hk
    refine TL.le (τ := R17_Check_L3_st p0 x1 o10 (wr (v7 + 1))) ?_ ((ih_R17_Check_L3 o10 (wr (v7 + 1)) _ h))
    exact Le.tow 1 1 rfl (.cons rfl (.refl _) (.cons rfl (.refl _) (.cons rfl (.refl _) (.nil)))) (.refl _) rfl
  · exact JP1.a h (Le.tow 1 1 rfl (.cons rfl (.refl _) (.nil)) (.refl _) rfl)
theorem R17_Check_L3_ok : ∀ (p0 : api_Group) (x1 : (List (List api_Pair))) (v5 : (List (List UInt8))) (v7 : Int) (o9 : (List (List UInt8))), R17_Check_L3 p0 x1 v5 v7 = some o9 → TL (0, 0) Try.prog 107 R17_Check_L3_c (JP1 (0, 0) 107 o9 (.exit 4) (R17_Check_L3_x0 p0 x1)) (R17_Check_L3_st p0 x1 v5 v7) := fun p0 x1 v5 v7 o9 h => (R17_Check_L3_grp p0 x1) v5 v7 o9 h
noncomputable def R17_Check_L5 (p0 : api_Group) (o9 : (List (List UInt8))) (v9 : Int) (v10 : Int) : Option (Unit ⊕ Unit) :=
  if (decide (v10 < (o9.length : Int))) then
    idx o9 v10 >>= fun x21 =>
    if (decide ((x21.length : Int) > v9)) then
      some (.inr ())
    else
      idx o9 v10 >>= fun x22 =>
      R17_Check_L5 p0 o9 (wr (v9 - (x22.length : Int))) (wr (v10 + 1))
  else
    some (.inl ())
  partial_fixpoint
set_option maxRecDepth 100000 in
set_option maxHeartbeats 4000000 in
theorem R17_Check_L5_grp : ∀ (p0 : api_Group) (o9 : (List (List UInt8))), (∀ (v9 : Int) (v10 : Int) (o18 : Unit ⊕ Unit), R17_Check_L5 p0 o9 v9 v10 = some o18 → TL (0, 0) Try.prog 107 R17_Check_L5_c (JP2 (0, 0) 107 o18 (.exit 8) (R17_Check_L5_x0 p0 o9) .ret (R17_Check_L5_x1 p0 o9)) (R17_Check_L5_st p0 o9 v9 v10)) := by
  intro p0 o9
  refine R17_Check_L5.partial_correctness p0 o9 _ ?_
  intro R17_Check_L5' ih_R17_Check_L5 v9 v10 o18 h
  refine TL.round (bwp_sound mixed tbOk (lv := R17_Check_lv) _ _ _ ?_)
  refine view (lenMap _ _) rfl ?_
  refine st_test h (fun hb h => ?_) (fun hb h => ?_)
  · refine st_idx (l := o9) (c := cStr) (c' := cStr) h (fun _ => rfl) (fun _ => rfl) (by decide) (fun x21 hi h => ?_)
    refine vrfl ?_
    refine st_test h (fun hb h => ?_) (fun hb h => ?_)
    · exact JP2.b h (Le.tow 1 1 rfl (.cons rfl (.refl _) (.nil)) (.refl _) rfl)
    · refine st_idx (l := o9) (c := cStr) (c' := cStr) h (fun _ => rfl) (fun _ => rfl) (by decide) (fun x22 hi h => ?_)
      refine vrfl ?_
      refine TL.le (τ := R17_Check_L5_st p0 o9 (wr (v9 - (x22.length : Int))) (wr (v10 + 1))) ?_ ((ih_R17_Check_L5 (wr (v9 - (x22.length : Int))) (wr (v10 + 1)) _ h))
      exact Le.tow 1 1 rfl (.cons rfl (.refl _) (.cons rfl (.refl _) (.cons rfl (.refl _) (.nil)))) (.refl _) rfl
  · exact JP2.a h (Le.tow 1 1 rfl (.nil) (.refl _) rfl)
theorem R17_Check_L5_ok : ∀ (p0 : api_Group) (o9 : (List (List UInt8))) (v9 : Int) (v10 : Int) (o18 : Unit ⊕ Unit), R17_Check_L5 p0 o9 v9 v10 = some o18 → TL (0, 0) Try.prog 107 R17_Check_L5_c (JP2 (0, 0) 107 o18 (.exit 8) (R17_Check_L5_x0 p0 o9) .ret (R17_Check_L5_x1 p0 o9)) (R17_Check_L5_st p0 o9 v9 v10) := fun p0 o9 v9 v10 o18 h => (R17_Check_L5_grp p0 o9) v9 v10 o18 h
noncomputable def R17_lists_L1 (p0 : api_Group) (v3 : (List (List api_Pair))) (v4 : Int) : Option ((List (List api_Pair))) :=
  if (decide (v4 < (p0.Alerts.length : Int))) then
    idx p0.Alerts v4 >>= fun x2 =>
    appL 24 v3 [x2.Labels] >>= fun x3 =>
    idx p0.Alerts v4 >>= fun x4 =>
    appL 24 x3 [x4.Notes] >>= fun x5 =>
    R17_lists_L1 p0 x5 (wr (v4 + 1))
  else
    some v3
  partial_fixpoint
set_option maxRecDepth 100000 in
set_option maxHeartbeats 4000000 in
theorem R17_lists_L1_grp : ∀ (p0 : api_Group), (∀ (v3 : (List (List api_Pair))) (v4 : Int) (o1 : (List (List api_Pair))), R17_lists_L1 p0 v3 v4 = some o1 → TL (0, 0) Try.prog 34 R17_lists_L1_c (JP1 (0, 0) 34 o1 (.exit 0) (R17_lists_L1_x0 p0)) (R17_lists_L1_st p0 v3 v4)) := by
  intro p0
  refine R17_lists_L1.partial_correctness p0 _ ?_
  intro R17_lists_L1' ih_R17_lists_L1 v3 v4 o1 h
  refine TL.round (bwp_sound mixed tbOk (lv := R17_lists_lv) _ _ _ ?_)
  refine view (lenMap _ _) rfl ?_
  refine st_test h (fun hb h => ?_) (fun hb h => ?_)
  · refine st_idx (l := p0.Alerts) (c := c_api_Alert) (c' := c_api_Alert) h (fun _ => rfl) (fun _ => rfl) (by decide) (fun x2 hi h => ?_)
    refine st_appo (a := v3) (b := [x2.Labels]) (c := (cSl c_api_Pair)) h (.refl _) (fun _ => rfl) rfl (fun x3 hi h => ?_)
    refine st_idx (l := p0.Alerts) (c := c_api_Alert) (c' := c_api_Alert) h (fun _ => rfl) (fun _ => rfl) (by decide) (fun x4 hi h => ?_)
    refine st_appo (a := x3) (b := [x4.Notes]) (c := (cSl c_api_Pair)) h (.refl _) (fun _ => rfl) rfl (fun x5 hi h => ?_)
    refine TL.le (τ := R17_lists_L1_st p0 x5 (wr (v4 + 1))) ?_ ((ih_R17_lists_L1 x5 (wr (v4 + 1)) _ h))
    exact Le.tow 1 1 rfl (.cons rfl (.refl _) (.cons rfl (.refl _) (.cons rfl (.refl _) (.nil)))) (.refl _) rfl
  · exact JP1.a h (Le.tow 1 1 rfl (.cons rfl (.refl _) (.nil)) (.refl _) rfl)
theorem R17_lists_L1_ok : ∀ (p0 : api_Group) (v3 : (List (List api_Pair))) (v4 : Int) (o1 : (List (List api_Pair))), R17_lists_L1 p0 v3 v4 = some o1 → TL (0, 0) Try.prog 34 R17_lists_L1_c (JP1 (0, 0) 34 o1 (.exit 0) (R17_lists_L1_x0 p0)) (R17_lists_L1_st p0 v3 v4) := fun p0 v3 v4 o1 h => (R17_lists_L1_grp p0) v3 v4 o1 h
noncomputable def R17_lists (p0 : api_Group) : Option ((List (List api_Pair))) :=
  (R17_lists_L1 p0 [p0.Common] 0) >>= fun o1 =>
  some o1
set_option maxRecDepth 100000 in
set_option maxHeartbeats 4000000 in
theorem R17_lists_ok : ∀ (p0 : api_Group) (o : (List (List api_Pair))), R17_lists p0 = some o → PCall Try.prog 15 [.agg [sV p0.Receiver, bV p0.Firing, .sl false (p0.Common.map c_api_Pair), sV p0.Link, .sl false (p0.Alerts.map c_api_Alert)]] (t_R17_lists o) := by
  intro p0 o h
  unfold R17_lists at h
  refine PCall.ofB mixed tbOk R17_lists_lv Try.func15 rfl (by kernel_rfl) (Nat.le_of_ble_eq_true rfl) ?_
  refine st_bind h (fun o1 ho hk => ?_)
  refine Exists.intro (JP1 _ _ o1 (.exit 0) (R17_lists_L1_x0 p0)) (And.intro (T_le (τ := R17_lists_L1_st p0 [p0.Common] 0) ?_ (TL.loop (R17_lists_L1_ok p0 [p0.Common] 0 o1 ho))) (join1 ?_))
  · exact Le.trans (τ := ⟨[(1, .ptr 0 0), (3, .p (.sl true ([p0.Common].map (cSl c_api_Pair)))), (4, .p (iV 0))], ⟨[[.p (sV p0.Receiver), .p (bV p0.Firing), .p (.sl false (p0.Common.map c_api_Pair)), .p (sV p0.Link), .p (.sl false (p0.Alerts.map c_api_Alert))]], []⟩⟩) (Le.tow 1 0 rfl (.cons rfl (.refl _) (.cons rfl (.refl _) (.cons rfl (.refl _) (.nil)))) (.refl _) rfl) ((Le.ownW 3 23 1 rfl (mapSize fun _ => rfl)).trans (Le.tow 1 1 rfl (.cons rfl (.refl _) (.cons rfl (.refl _) (.cons rfl (.refl _) (.nil)))) (.refl _) rfl))
  have h := hk
  refine st_ret (t := t_R17_lists) h ?_
  exact .refl _
noncomputable def R17_Check (p0 : api_Group) : Option (Int) :=
  if (decide ((p0.Alerts.length : Int) > 64)) then
    some 5
  else
    R17_lists p0 >>= fun x1 =>
    (R17_Check_L1 p0 x1 0) >>= fun o2 =>
    match o2 with
    | .inl y3 =>
      (R17_Check_L2 p0 x1 [p0.Receiver, p0.Link] 0) >>= fun o6 =>
      (R17_Check_L3 p0 x1 o6 0) >>= fun o9 =>
      (R17_Check_L5 p0 o9 65536 0) >>= fun o18 =>
      match o18 with
      | .inl y19 =>
        some 0
      | .inr y20 =>
        some 6
    | .inr y4 =>
      some 5
set_option maxRecDepth 100000 in
set_option maxHeartbeats 4000000 in
theorem R17_Check_ok : ∀ (p0 : api_Group) (o : Int), R17_Check p0 = some o → PCall Try.prog 6 [.agg [sV p0.Receiver, bV p0.Firing, .sl false (p0.Common.map c_api_Pair), sV p0.Link, .sl false (p0.Alerts.map c_api_Alert)]] (t_R17_Check o) := by
  intro p0 o h
  unfold R17_Check at h
  refine PCall.ofB mixed tbOk R17_Check_lv Try.func6 rfl (by kernel_rfl) (Nat.le_of_ble_eq_true rfl) ?_
  refine view (lenMap _ _) rfl ?_
  refine st_test h (fun hb h => ?_) (fun hb h => ?_)
  · refine st_ret (t := t_R17_Check) h ?_
    exact .refl _
  · refine st_call [.agg [sV p0.Receiver, bV p0.Firing, .sl false (p0.Common.map c_api_Pair), sV p0.Link, .sl false (p0.Alerts.map c_api_Alert)]] t_R17_lists h (fun x1 hy => (R17_lists_ok p0 x1 hy)) (fun x1 hy h => ?_)
    refine st_bind h (fun o2 ho hk => ?_)
    refine Exists.intro (JP2 _ _ o2 (.exit 0) (R17_Check_L1_x0 p0 x1) .ret (R17_Check_L1_x1 p0 x1)) (And.intro (T_le (τ := R17_Check_L1_st p0 x1 0) ?_ (TL.loop (R17_Check_L1_ok p0 x1 0 o2 ho))) (join2 (fun y3 hy => ?_) (fun y4 hy => ?_)))
    · exact Le.tow 1 0 rfl (.cons rfl (.refl _) (.cons rfl (.refl _) (.cons rfl (.refl _) (.nil)))) (.refl _) rfl
    · have h := (by rw [hy] at hk; exact hk)
      refine st_bind h (fun o6 ho hk => ?_)
      refine Exists.intro (JP1 _ _ o6 (.exit 2) (R17_Check_L2_x0 p0 x1)) (And.intro (T_le (τ := R17_Check_L2_st p0 x1 [p0.Receiver, p0.Link] 0) ?_ (TL.loop (R17_Check_L2_ok p0 x1 [p0.Receiver, p0.Link] 0 o6 ho))) (join1 ?_))
      · exact Le.trans (τ := ⟨[(1, .ptr 0 0), (3, .p (.sl false (x1.map (cSl c_api_Pair)))), (5, .p (.sl true ([p0.Receiver, p0.Link].map cStr))), (6, .p (iV 0))], ⟨[[.p (sV p0.Receiver), .p (bV p0.Firing), .p (.sl false (p0.Common.map c_api_Pair)), .p (sV p0.Link), .p (.sl false (p0.Alerts.map c_api_Alert))]], []⟩⟩) (Le.tow 1 0 rfl (.cons rfl (.refl _) (.cons rfl (.refl _) (.cons rfl (.refl _) (.cons rfl (.refl _) (.nil))))) (.refl _) rfl) ((Le.ownW 5 9 1 rfl (mapSize fun _ => rfl)).trans (Le.tow 1 1 rfl (.cons rfl (.refl _) (.cons rfl (.refl _) (.cons rfl (.refl _) (.cons rfl (.refl _) (.nil))))) (.refl _) rfl))
      have h := hk
      refine st_bind h (fun o9 ho hk => ?_)
      refine Exists.intro (JP1 _ _ o9 (.exit 4) (R17_Check_L3_x0 p0 x1)) (And.intro (T_le (τ := R17_Check_L3_st p0 x1 o6 0) ?_ (TL.loop (R17_Check_L3_ok p0 x1 o6 0 o9 ho))) (join1 ?_))
      · exact Le.tow 1 1 rfl (.cons rfl (.refl _) (.cons rfl (.refl _) (.cons rfl (.refl _) (.nil)))) (.refl _) rfl
      have h := hk
      refine st_bind h (fun o18 ho hk => ?_)
      refine Exists.intro (JP2 _ _ o18 (.exit 8) (R17_Check_L5_x0 p0 o9) .ret (R17_Check_L5_x1 p0 o9)) (And.intro (T_le (τ := R17_Check_L5_st p0 o9 65536 0) ?_ (TL.loop (R17_Check_L5_ok p0 o9 65536 0 o18 ho))) (join2 (fun y19 hy => ?_) (fun y20 hy => ?_)))
      · exact Le.tow 1 1 rfl (.cons rfl (.refl _) (.cons rfl (.refl _) (.cons rfl (.refl _) (.nil)))) (.refl _) rfl
      · have h := (by rw [hy] at hk; exact hk)
        refine st_ret (t := t_R17_Check) h ?_
        exact .refl _
      · have h := (by rw [hy] at hk; exact hk)
        refine st_ret (t := t_R17_Check) h ?_
        exact .refl _
    · have h := (by rw [hy] at hk; exact hk)
      refine st_ret (t := t_R17_Check) h ?_
      exact .refl _
noncomputable def alert_Check_L1 (p0 : api_Group) (x4 : api_Group) (l7 : (List (List UInt8))) (h2_0 : Int) : Option (Int ⊕ Int) :=
  match l7 with
  | [] =>
    some (.inl h2_0)
  | x5 :: r6 =>
    if (decide ((wr (h2_0 - (x5.length : Int))) < 0)) then
      some (.inr (wr (h2_0 - (x5.length : Int))))
    else
      alert_Check_L1 p0 x4 r6 (wr (h2_0 - (x5.length : Int)))
  partial_fixpoint
set_option maxRecDepth 100000 in
set_option maxHeartbeats 4000000 in
theorem alert_Check_L1_grp : ∀ (p0 : api_Group) (x4 : api_Group), (∀ (l7 : (List (List UInt8))) (h2_0 : Int) (o9 : Int ⊕ Int), alert_Check_L1 p0 x4 l7 h2_0 = some o9 → RL 3 0 Try.prog 23 (rgP alert_Check_L1_c) (rgA alert_Check_L1_c) (rgB alert_Check_L1_c) (alert_Check_L1_st p0 x4 h2_0).env (JP2 (0, 0) 23 o9 .normal (alert_Check_L1_x0 p0 x4) .ret (alert_Check_L1_x1 p0 x4)) (l7.map e_alert_texts_1) (alert_Check_L1_st p0 x4 h2_0).s) := by
  intro p0 x4
  refine alert_Check_L1.partial_correctness p0 x4 _ ?_
  intro alert_Check_L1' ih_alert_Check_L1 l7 h2_0 o9 h
  cases l7 with
  | nil =>
    refine rl_nil ?_
    exact JP2.a h (Le.tow 3 0 rfl (.cons rfl (.refl _) (.cons rfl (.refl _) (.cons rfl (.refl _) (.nil)))) (.refl _) rfl)
  | cons x5 r6 =>
    refine rl_cons (bwp_sound mixed tbOk (lv := alert_Check_lv) _ _ _ ?_)
    refine And.intro rfl (bwp_sound mixed tbOk (lv := alert_Check_lv) _ _ _ ?_)
    refine vrfl ?_
    refine st_test h (fun hb h => ?_) (fun hb h => ?_)
    · exact Exists.intro (⟨[[.p (sV p0.Receiver), .p (bV p0.Firing), .p (.sl false (p0.Common.map c_api_Pair)), .p (sV p0.Link), .p (.sl false (p0.Alerts.map c_api_Alert))], [.p (iV 6)], [.p (iV (wr (h2_0 - (x5.length : Int))))]], []⟩ : S) (And.intro (Le.tow 3 0 rfl .nil (.refl _) rfl) (And.intro rfl (And.intro rfl (JP2.b h (Le.tow 3 0 rfl (.cons rfl (.refl _) (.nil)) (.refl _) rfl)))))
    · exact Exists.intro (alert_Check_L1_st p0 x4 (wr (h2_0 - (x5.length : Int)))).s (And.intro (Le.tow 3 0 rfl (.nil) (.refl _) rfl) (And.intro rfl (And.intro rfl ((ih_alert_Check_L1 r6 (wr (h2_0 - (x5.length : Int))) _ h)))))
theorem alert_Check_L1_ok : ∀ (p0 : api_Group) (x4 : api_Group) (l7 : (List (List UInt8))) (h2_0 : Int) (o9 : Int ⊕ Int), alert_Check_L1 p0 x4 l7 h2_0 = some o9 → RL 3 0 Try.prog 23 (rgP alert_Check_L1_c) (rgA alert_Check_L1_c) (rgB alert_Check_L1_c) (alert_Check_L1_st p0 x4 h2_0).env (JP2 (0, 0) 23 o9 .normal (alert_Check_L1_x0 p0 x4) .ret (alert_Check_L1_x1 p0 x4)) (l7.map e_alert_texts_1) (alert_Check_L1_st p0 x4 h2_0).s := fun p0 x4 l7 h2_0 o9 h => (alert_Check_L1_grp p0 x4) l7 h2_0 o9 h
noncomputable def alert_rows_L1 (p0 : api_Group) (v3 : (List (List api_Pair))) (v12 : Int) : Option ((List (List api_Pair))) :=
  if (decide (v12 < (p0.Alerts.length : Int))) then
    idx p0.Alerts v12 >>= fun x2 =>
    appL 24 v3 [x2.Labels, x2.Notes] >>= fun x3 =>
    alert_rows_L1 p0 x3 (wr (v12 + 1))
  else
    some v3
  partial_fixpoint
set_option maxRecDepth 100000 in
set_option maxHeartbeats 4000000 in
theorem alert_rows_L1_grp : ∀ (p0 : api_Group), (∀ (v3 : (List (List api_Pair))) (v12 : Int) (o1 : (List (List api_Pair))), alert_rows_L1 p0 v3 v12 = some o1 → TL (0, 0) Try.prog 25 alert_rows_L1_c (JP1 (0, 0) 25 o1 (.exit 0) (alert_rows_L1_x0 p0)) (alert_rows_L1_st p0 v3 v12)) := by
  intro p0
  refine alert_rows_L1.partial_correctness p0 _ ?_
  intro alert_rows_L1' ih_alert_rows_L1 v3 v12 o1 h
  refine TL.round (bwp_sound mixed tbOk (lv := alert_rows_lv) _ _ _ ?_)
  refine st_test h (fun hb h => ?_) (fun hb h => ?_)
  · refine st_idx (l := p0.Alerts) (c := c_api_Alert) (c' := c_api_Alert) h (fun _ => rfl) (fun _ => rfl) (by decide) (fun x2 hi h => ?_)
    refine st_appo (a := v3) (b := [x2.Labels, x2.Notes]) (c := (cSl c_api_Pair)) h (.refl _) (fun _ => rfl) rfl (fun x3 hi h => ?_)
    refine TL.le (τ := alert_rows_L1_st p0 x3 (wr (v12 + 1))) ?_ ((ih_alert_rows_L1 x3 (wr (v12 + 1)) _ h))
    exact Le.tow 1 1 rfl (.cons rfl (.refl _) (.cons rfl (.refl _) (.cons rfl (.refl _) (.cons rfl (.refl _) (.nil))))) (.refl _) rfl
  · exact JP1.a h (Le.tow 1 1 rfl (.cons rfl (.refl _) (.nil)) (.refl _) rfl)
theorem alert_rows_L1_ok : ∀ (p0 : api_Group) (v3 : (List (List api_Pair))) (v12 : Int) (o1 : (List (List api_Pair))), alert_rows_L1 p0 v3 v12 = some o1 → TL (0, 0) Try.prog 25 alert_rows_L1_c (JP1 (0, 0) 25 o1 (.exit 0) (alert_rows_L1_x0 p0)) (alert_rows_L1_st p0 v3 v12) := fun p0 v3 v12 o1 h => (alert_rows_L1_grp p0) v3 v12 o1 h
noncomputable def alert_rows (p0 : api_Group) : Option ((List (List api_Pair))) :=
  (alert_rows_L1 p0 [p0.Common] 0) >>= fun o1 =>
  some o1
set_option maxRecDepth 100000 in
set_option maxHeartbeats 4000000 in
theorem alert_rows_ok : ∀ (p0 : api_Group) (o : (List (List api_Pair))), alert_rows p0 = some o → PCall Try.prog 12 [.agg [sV p0.Receiver, bV p0.Firing, .sl false (p0.Common.map c_api_Pair), sV p0.Link, .sl false (p0.Alerts.map c_api_Alert)]] (t_alert_rows o) := by
  intro p0 o h
  unfold alert_rows at h
  refine PCall.ofB mixed tbOk alert_rows_lv Try.func12 rfl (by kernel_rfl) (Nat.le_of_ble_eq_true rfl) ?_
  refine view (lenMap _ _) rfl ?_
  refine st_bind h (fun o1 ho hk => ?_)
  refine Exists.intro (JP1 _ _ o1 (.exit 0) (alert_rows_L1_x0 p0)) (And.intro (T_le (τ := alert_rows_L1_st p0 [p0.Common] 0) ?_ (TL.loop (alert_rows_L1_ok p0 [p0.Common] 0 o1 ho))) (join1 ?_))
  · exact Le.trans (τ := ⟨[(3, .p (.sl true ([p0.Common].map (cSl c_api_Pair)))), (10, .p (.sl false (p0.Alerts.map c_api_Alert))), (11, .p (iV (p0.Alerts.length : Int))), (12, .p (iV 0))], ⟨[[.p (sV p0.Receiver), .p (bV p0.Firing), .p (.sl false (p0.Common.map c_api_Pair)), .p (sV p0.Link), .p (.sl false (p0.Alerts.map c_api_Alert))]], []⟩⟩) (Le.tow 1 0 rfl (.cons rfl (.refl _) (.cons rfl (.refl _) (.cons rfl (.refl _) (.cons rfl (.refl _) (.nil))))) (.refl _) rfl) ((Le.ownW 3 23 1 rfl (mapSize fun _ => rfl)).trans (Le.tow 1 1 rfl (.cons rfl (.refl _) (.cons rfl (.refl _) (.cons rfl (.refl _) (.cons rfl (.refl _) (.nil))))) (.refl _) rfl))
  have h := hk
  refine st_ret (t := t_alert_rows) h ?_
  exact .refl _
noncomputable def alert_texts (p0 : api_Group) : Option (api_Group) :=
  some p0
set_option maxRecDepth 100000 in
set_option maxHeartbeats 4000000 in
theorem alert_texts_ok : ∀ (p0 : api_Group) (o : api_Group), alert_texts p0 = some o → PCall Try.prog 14 [.agg [sV p0.Receiver, bV p0.Firing, .sl false (p0.Common.map c_api_Pair), sV p0.Link, .sl false (p0.Alerts.map c_api_Alert)]] (t_alert_texts o) := by
  intro p0 o h
  unfold alert_texts at h
  refine PCall.ofM mixed tbOk alert_texts_lv Try.func14 rfl (by kernel_rfl) (Nat.le_of_ble_eq_true rfl) ?_
  refine st_ret (t := t_alert_texts) h ?_
  exact .refl _
noncomputable def alert_texts_1_L2 (p0 : api_Group) (x1 : (List (List api_Pair))) (v24 : Int) (x4 : (List api_Pair)) (v30 : Int) : Option ((List (List UInt8)) × (Unit)) :=
  if (decide (v30 < (x4.length : Int))) then
    idx x4 v30 >>= fun x7 =>
    ( ( alert_texts_1_L2 p0 x1 v24 x4 (wr (v30 + 1))) >>= fun q => some (x7.Val :: q.1, q.2)) >>= fun q => some (x7.Key :: q.1, q.2)
  else
    some ([], ())
  partial_fixpoint
set_option maxRecDepth 100000 in
set_option maxHeartbeats 4000000 in
theorem alert_texts_1_L2_grp : ∀ (p0 : api_Group) (x1 : (List (List api_Pair))) (v24 : Int) (x4 : (List api_Pair)), (∀ (v30 : Int) (o6 : (List (List UInt8)) × (Unit)), alert_texts_1_L2 p0 x1 v24 x4 v30 = some o6 → ∀ (gxs gp gpost gq5 : List (List V)), gxs = gp ++ (o6.1.map e_alert_texts_1 ++ gpost) → gxs = gq5 ++ gpost → TL (0, 1) Try.prog 61 alert_texts_1_L2_c (Qs (0, 1) 61 gxs (JP1 (0, 1) 61 o6.2 (.exit 2) (alert_texts_1_L2_x0 p0 x1 v24 x4 gxs gq5))) (alert_texts_1_L2_st p0 x1 v24 x4 v30 gxs gp)) := by
  intro p0 x1 v24 x4
  refine alert_texts_1_L2.partial_correctness p0 x1 v24 x4 _ ?_
  intro alert_texts_1_L2' ih_alert_texts_1_L2 v30 o6 h
  intro gxs gp gpost gq5 hx hq
  refine TL.round (bwp_sound mixed tbOk (lv := alert_texts_1_lv) _ _ _ ?_)
  refine st_test h (fun hb h => ?_) (fun hb h => ?_)
  · refine st_idx (l := x4) (c := c_api_Pair) (c' := c_api_Pair) h (fun _ => rfl) (fun _ => rfl) (by decide) (fun x7 hi h => ?_)
    refine st_yld (c := e_alert_texts_1) h hx (.refl _) (by exact rfl) (by exact rfl) (fun _ h hx => ?_) ?_
    · refine bF ?_
      refine st_yld (c := e_alert_texts_1) h hx (.refl _) (by exact rfl) (by exact rfl) (fun _ h hx => ?_) ?_
      · refine bF ?_
        refine TL.le (τ := alert_texts_1_L2_st p0 x1 v24 x4 (wr (v30 + 1)) gxs ((gp ++ [e_alert_texts_1 x7.Key]) ++ [e_alert_texts_1 x7.Val])) ?_ ((ih_alert_texts_1_L2 (wr (v30 + 1)) _ h) _ _ _ _ hx hq)
        exact Le.tow 0 1 rfl (.cons rfl (.refl _) (.cons rfl (.refl _) (.cons rfl (.refl _) (.cons rfl (.refl _) (.cons rfl (.refl _) (.cons rfl (.refl _) (.cons rfl (.refl _) (.cons rfl (.refl _) (.nil))))))))) (.refl _) rfl
      · refine bT ?_
        exact .inr ⟨rfl, _, (Le.env0 _).trans (Le.tow 0 1 rfl .nil (.refl _) rfl), rfl, rfl, rfl⟩
    · refine bT ?_
      refine bT ?_
      exact .inr ⟨rfl, _, (Le.env0 _).trans (Le.tow 0 1 rfl .nil (.refl _) rfl), rfl, rfl, rfl⟩
  · exact .inl (JP1.a (sndI h) (Le.tow 0 1 rfl (.cons rfl (.refl _) (.cons rfl (.refl _) (.cons rfl (.refl _) (.cons rfl (.refl _) (.cons rfl (.refl _) (.nil)))))) (.refl _) (liveQ h hx hq rfl)))
theorem alert_texts_1_L2_ok : ∀ (p0 : api_Group) (x1 : (List (List api_Pair))) (v24 : Int) (x4 : (List api_Pair)) (v30 : Int) (o6 : (List (List UInt8)) × (Unit)), alert_texts_1_L2 p0 x1 v24 x4 v30 = some o6 → ∀ (gxs gp gpost gq5 : List (List V)), gxs = gp ++ (o6.1.map e_alert_texts_1 ++ gpost) → gxs = gq5 ++ gpost → TL (0, 1) Try.prog 61 alert_texts_1_L2_c (Qs (0, 1) 61 gxs (JP1 (0, 1) 61 o6.2 (.exit 2) (alert_texts_1_L2_x0 p0 x1 v24 x4 gxs gq5))) (alert_texts_1_L2_st p0 x1 v24 x4 v30 gxs gp) := fun p0 x1 v24 x4 v30 o6 h => (alert_texts_1_L2_grp p0 x1 v24 x4) v30 o6 h
noncomputable def alert_texts_1_L1 (p0 : api_Group) (x1 : (List (List api_Pair))) (v24 : Int) : Option ((List (List UInt8)) × (Unit)) :=
  if (decide (v24 < (x1.length : Int))) then
    idx x1 v24 >>= fun x4 =>
    ( alert_texts_1_L2 p0 x1 v24 x4 0) >>= fun o6 => (
      alert_texts_1_L1 p0 x1 (wr (v24 + 1))) >>= fun q => some (o6.1 ++ q.1, q.2)
  else
    some ([], ())
  partial_fixpoint
set_option maxRecDepth 100000 in
set_option maxHeartbeats 4000000 in
theorem alert_texts_1_L1_grp : ∀ (p0 : api_Group) (x1 : (List (List api_Pair))), (∀ (v24 : Int) (o3 : (List (List UInt8)) × (Unit)), alert_texts_1_L1 p0 x1 v24 = some o3 → ∀ (gxs gp gpost gq2 : List (List V)), gxs = gp ++ (o3.1.map e_alert_texts_1 ++ gpost) → gxs = gq2 ++ gpost → TL (0, 1) Try.prog 61 alert_texts_1_L1_c (Qs (0, 1) 61 gxs (JP1 (0, 1) 61 o3.2 (.exit 0) (alert_texts_1_L1_x0 p0 x1 gxs gq2))) (alert_texts_1_L1_st p0 x1 v24 gxs gp)) := by
  intro p0 x1
  refine alert_texts_1_L1.partial_correctness p0 x1 _ ?_
  intro alert_texts_1_L1' ih_alert_texts_1_L1 v24 o3 h
  intro gxs gp gpost gq2 hx hq
  refine TL.round (bwp_sound mixed tbOk (lv := alert_texts_1_lv) _ _ _ ?_)
  refine st_test h (fun hb h => ?_) (fun hb h => ?_)
  · refine st_idx (l := x1) (c := (cSl c_api_Pair)) (c' := (cSl c_api_Pair)) h (fun _ => rfl) (fun _ => rfl) (by decide) (fun x4 hi h => ?_)
    refine view (lenMap _ _) rfl ?_
    refine st_bindI h hx (fun o6 lgq5 gq5 ho hk hxa hjgq5 => ?_)
    refine Exists.intro (Qs _ _ gxs (JP1 _ _ o6.2 (.exit 2) (alert_texts_1_L2_x0 p0 x1 v24 x4 gxs gq5))) (And.intro (T_le (τ := alert_texts_1_L2_st p0 x1 v24 x4 0 gxs gp) ?_ (TL.loop ((alert_texts_1_L2_ok p0 x1 v24 x4 0 o6 ho) _ _ _ _ hxa hjgq5))) (joinS (join1 ?_) ?_))
    · exact Le.tow 0 1 rfl (.cons rfl (.refl _) (.cons rfl (.refl _) (.cons rfl (.refl _) (.cons rfl (.refl _) (.cons rfl (.refl _) (.cons rfl (.refl _) (.cons rfl (.refl _) (.cons rfl (.refl _) (.nil))))))))) (.refl _) rfl
    · have h := hk
      have hx := hjgq5
      refine TL.le (τ := alert_texts_1_L1_st p0 x1 (wr (v24 + 1)) gxs gq5) ?_ ((ih_alert_texts_1_L1 (wr (v24 + 1)) _ h) _ _ _ _ hx hq)
      exact Le.tow 0 1 rfl (.cons rfl (.refl _) (.cons rfl (.refl _) (.cons rfl (.refl _) (.cons rfl (.refl _) (.cons rfl (.refl _) (.nil)))))) (.refl _) rfl
    · exact fun s1 h1 h2 hs => .inr ⟨rfl, s1, .refl _ _ _, h1, h2, hs⟩
  · exact .inl (JP1.a (sndI h) (Le.tow 0 1 rfl (.cons rfl (.refl _) (.cons rfl (.refl _) (.nil))) (.refl _) (liveQ h hx hq rfl)))
theorem alert_texts_1_L1_ok : ∀ (p0 : api_Group) (x1 : (List (List api_Pair))) (v24 : Int) (o3 : (List (List UInt8)) × (Unit)), alert_texts_1_L1 p0 x1 v24 = some o3 → ∀ (gxs gp gpost gq2 : List (List V)), gxs = gp ++ (o3.1.map e_alert_texts_1 ++ gpost) → gxs = gq2 ++ gpost → TL (0, 1) Try.prog 61 alert_texts_1_L1_c (Qs (0, 1) 61 gxs (JP1 (0, 1) 61 o3.2 (.exit 0) (alert_texts_1_L1_x0 p0 x1 gxs gq2))) (alert_texts_1_L1_st p0 x1 v24 gxs gp) := fun p0 x1 v24 o3 h => (alert_texts_1_L1_grp p0 x1) v24 o3 h
noncomputable def alert_texts_1_L3 (p0 : api_Group) (v51 : Int) : Option ((List (List UInt8)) × (Unit)) :=
  if (decide (v51 < (p0.Alerts.length : Int))) then
    idx p0.Alerts v51 >>= fun x10 =>
    ( alert_texts_1_L3 p0 (wr (v51 + 1))) >>= fun q => some (x10.Link :: q.1, q.2)
  else
    some ([], ())
  partial_fixpoint
set_option maxRecDepth 100000 in
set_option maxHeartbeats 4000000 in
theorem alert_texts_1_L3_grp : ∀ (p0 : api_Group), (∀ (v51 : Int) (o9 : (List (List UInt8)) × (Unit)), alert_texts_1_L3 p0 v51 = some o9 → ∀ (gxs gp gpost gq8 : List (List V)), gxs = gp ++ (o9.1.map e_alert_texts_1 ++ gpost) → gxs = gq8 ++ gpost → TL (0, 1) Try.prog 61 alert_texts_1_L3_c (Qs (0, 1) 61 gxs (JP1 (0, 1) 61 o9.2 (.exit 4) (alert_texts_1_L3_x0 p0 gxs gq8))) (alert_texts_1_L3_st p0 v51 gxs gp)) := by
  intro p0
  refine alert_texts_1_L3.partial_correctness p0 _ ?_
  intro alert_texts_1_L3' ih_alert_texts_1_L3 v51 o9 h
  intro gxs gp gpost gq8 hx hq
  refine TL.round (bwp_sound mixed tbOk (lv := alert_texts_1_lv) _ _ _ ?_)
  refine st_test h (fun hb h => ?_) (fun hb h => ?_)
  · refine st_idx (l := p0.Alerts) (c := c_api_Alert) (c' := c_api_Alert) h (fun _ => rfl) (fun _ => rfl) (by decide) (fun x10 hi h => ?_)
    refine st_yld (c := e_alert_texts_1) h hx (.refl _) (by exact rfl) (by exact rfl) (fun _ h hx => ?_) ?_
    · refine bF ?_
      refine TL.le (τ := alert_texts_1_L3_st p0 (wr (v51 + 1)) gxs (gp ++ [e_alert_texts_1 x10.Link])) ?_ ((ih_alert_texts_1_L3 (wr (v51 + 1)) _ h) _ _ _ _ hx hq)
      exact Le.tow 0 1 rfl (.cons rfl (.refl _) (.cons rfl (.refl _) (.cons rfl (.refl _) (.cons rfl (.refl _) (.nil))))) (.refl _) rfl
    · refine bT ?_
      exact .inr ⟨rfl, _, (Le.env0 _).trans (Le.tow 0 1 rfl .nil (.refl _) rfl), rfl, rfl, rfl⟩
  · exact .inl (JP1.a (sndI h) (Le.tow 0 1 rfl (.nil) (.refl _) (liveQ h hx hq rfl)))
theorem alert_texts_1_L3_ok : ∀ (p0 : api_Group) (v51 : Int) (o9 : (List (List UInt8)) × (Unit)), alert_texts_1_L3 p0 v51 = some o9 → ∀ (gxs gp gpost gq8 : List (List V)), gxs = gp ++ (o9.1.map e_alert_texts_1 ++ gpost) → gxs = gq8 ++ gpost → TL (0, 1) Try.prog 61 alert_texts_1_L3_c (Qs (0, 1) 61 gxs (JP1 (0, 1) 61 o9.2 (.exit 4) (alert_texts_1_L3_x0 p0 gxs gq8))) (alert_texts_1_L3_st p0 v51 gxs gp) := fun p0 v51 o9 h => (alert_texts_1_L3_grp p0) v51 o9 h
noncomputable def alert_texts_1 (p0 : api_Group) : Option ((List (List UInt8)) × Unit) :=
  ( ( alert_rows p0 >>= fun x1 =>
      ( alert_texts_1_L1 p0 x1 0) >>= fun o3 => (
        ( alert_texts_1_L3 p0 0) >>= fun o9 => (
          some ([], ())) >>= fun q => some (o9.1 ++ q.1, q.2)) >>= fun q => some (o3.1 ++ q.1, q.2)) >>= fun q => some (p0.Link :: q.1, q.2)) >>= fun q => some (p0.Receiver :: q.1, q.2)
set_option maxRecDepth 100000 in
set_option maxHeartbeats 4000000 in
theorem alert_texts_1_ok : ∀ (p0 : api_Group) (o : (List (List UInt8)) × Unit), alert_texts_1 p0 = some o → ∀ gxs : List (List V), gxs = o.1.map e_alert_texts_1 → IterOK Try.prog 26 [.ep [sV p0.Receiver, bV p0.Firing, .sl false (p0.Common.map c_api_Pair), sV p0.Link, .sl false (p0.Alerts.map c_api_Alert)]] gxs := by
  intro p0 o h
  unfold alert_texts_1 at h
  intro gxs hg
  have hx : gxs = [] ++ (o.1.map e_alert_texts_1 ++ []) := by simp [hg]
  refine IterOK.ofB mixed tbOk alert_texts_1_lv Try.func26 rfl (by kernel_rfl) (Nat.le_of_ble_eq_true rfl) rfl ?_
  refine st_yld (c := e_alert_texts_1) h hx (.refl _) (by exact rfl) (by exact rfl) (fun _ h hx => ?_) ?_
  · refine bF ?_
    refine st_yld (c := e_alert_texts_1) h hx (.refl _) (by exact rfl) (by exact rfl) (fun _ h hx => ?_) ?_
    · refine bF ?_
      refine st_call [.agg [sV p0.Receiver, bV p0.Firing, .sl false (p0.Common.map c_api_Pair), sV p0.Link, .sl false (p0.Alerts.map c_api_Alert)]] t_alert_rows h (fun x1 hy => (alert_rows_ok p0 x1 hy)) (fun x1 hy h => ?_)
      refine view (lenMap _ _) rfl ?_
      refine st_bindI h hx (fun o3 lgq2 gq2 ho hk hxa hjgq2 => ?_)
      refine Exists.intro (Qs _ _ gxs (JP1 _ _ o3.2 (.exit 0) (alert_texts_1_L1_x0 p0 x1 gxs gq2))) (And.intro (T_le (τ := alert_texts_1_L1_st p0 x1 0 gxs ((([] : List (List V)) ++ [e_alert_texts_1 p0.Receiver]) ++ [e_alert_texts_1 p0.Link])) ?_ (TL.loop ((alert_texts_1_L1_ok p0 x1 0 o3 ho) _ _ _ _ hxa hjgq2))) (joinS (join1 ?_) ?_))
      · exact Le.tow 0 1 rfl (.cons rfl (.refl _) (.cons rfl (.refl _) (.cons rfl (.refl _) (.cons rfl (.refl _) (.cons rfl (.refl _) (.nil)))))) (.refl _) rfl
      · have h := hk
        have hx := hjgq2
        refine view (lenMap _ _) rfl ?_
        refine st_bindI h hx (fun o9 lgq8 gq8 ho hk hxa hjgq8 => ?_)
        refine Exists.intro (Qs _ _ gxs (JP1 _ _ o9.2 (.exit 4) (alert_texts_1_L3_x0 p0 gxs gq8))) (And.intro (T_le (τ := alert_texts_1_L3_st p0 0 gxs gq2) ?_ (TL.loop ((alert_texts_1_L3_ok p0 0 o9 ho) _ _ _ _ hxa hjgq8))) (joinS (join1 ?_) ?_))
        · exact Le.tow 0 1 rfl (.cons rfl (.refl _) (.cons rfl (.refl _) (.cons rfl (.refl _) (.cons rfl (.refl _) (.nil))))) (.refl _) rfl
        · have h := hk
          have hx := hjgq8
          exact st_iend h hx (.inl rfl) rfl
        · exact fun s1 h1 h2 hs => st_istop (.inr rfl) hs
      · exact fun s1 h1 h2 hs => st_istop (.inr rfl) hs
    · refine bT ?_
      exact st_istop (.inr rfl) rfl
  · refine bT ?_
    refine bT ?_
    exact st_istop (.inr rfl) rfl
noncomputable def alert_Check_1 (p0 : (List api_Pair)) : Option (Bool) :=
  some (decide ((p0.length : Int) > 32))
set_option maxRecDepth 100000 in
set_option maxHeartbeats 4000000 in
theorem alert_Check_1_ok : ∀ (p0 : (List api_Pair)) (o : Bool), alert_Check_1 p0 = some o → PCall Try.prog 13 [.sl false (p0.map c_api_Pair)] (t_alert_Check_1 o) := by
  intro p0 o h
  unfold alert_Check_1 at h
  refine PCall.ofB mixed tbOk alert_Check_1_lv Try.func13 rfl (by kernel_rfl) (Nat.le_of_ble_eq_true rfl) ?_
  refine view (lenMap _ _) rfl ?_
  refine st_ret (t := t_alert_Check_1) h ?_
  exact .refl _
noncomputable def slices_IndexFunc_api_Pair_api_Pair_alert_Check_1_L1 (p0 : (List (List api_Pair))) (v8 : Int) : Option (Unit ⊕ Int) :=
  if (decide (v8 < (p0.length : Int))) then
    idx p0 v8 >>= fun x4 =>
    alert_Check_1 x4 >>= fun x5 =>
    if x5 then
      some (.inr v8)
    else
      slices_IndexFunc_api_Pair_api_Pair_alert_Check_1_L1 p0 (wr (v8 + 1))
  else
    some (.inl ())
  partial_fixpoint
set_option maxRecDepth 100000 in
set_option maxHeartbeats 4000000 in
theorem slices_IndexFunc_api_Pair_api_Pair_alert_Check_1_L1_grp : ∀ (p0 : (List (List api_Pair))), (∀ (v8 : Int) (o1 : Unit ⊕ Int), slices_IndexFunc_api_Pair_api_Pair_alert_Check_1_L1 p0 v8 = some o1 → TL (0, 0) Try.prog 19 slices_IndexFunc_api_Pair_api_Pair_alert_Check_1_L1_c (JP2 (0, 0) 19 o1 (.exit 0) (slices_IndexFunc_api_Pair_api_Pair_alert_Check_1_L1_x0 p0) .ret (slices_IndexFunc_api_Pair_api_Pair_alert_Check_1_L1_x1 p0)) (slices_IndexFunc_api_Pair_api_Pair_alert_Check_1_L1_st p0 v8)) := by
  intro p0
  refine slices_IndexFunc_api_Pair_api_Pair_alert_Check_1_L1.partial_correctness p0 _ ?_
  intro slices_IndexFunc_api_Pair_api_Pair_alert_Check_1_L1' ih_slices_IndexFunc_api_Pair_api_Pair_alert_Check_1_L1 v8 o1 h
  refine TL.round (bwp_sound mixed tbOk (lv := slices_IndexFunc_api_Pair_api_Pair_alert_Check_1_lv) _ _ _ ?_)
  refine st_test h (fun hb h => ?_) (fun hb h => ?_)
  · refine st_idx (l := p0) (c := (cSl c_api_Pair)) (c' := (cSl c_api_Pair)) h (fun _ => rfl) (fun _ => rfl) (by decide) (fun x4 hi h => ?_)
    refine st_call [.sl false (x4.map c_api_Pair)] t_alert_Check_1 h (fun x5 hy => (alert_Check_1_ok x4 x5 hy)) (fun x5 hy h => ?_)
    refine st_test h (fun hb h => ?_) (fun hb h => ?_)
    · exact JP2.b h (Le.tow 0 0 rfl (.cons rfl (.refl _) (.nil)) (.refl _) rfl)
    · refine TL.le (τ := slices_IndexFunc_api_Pair_api_Pair_alert_Check_1_L1_st p0 (wr (v8 + 1))) ?_ ((ih_slices_IndexFunc_api_Pair_api_Pair_alert_Check_1_L1 (wr (v8 + 1)) _ h))
      exact Le.tow 0 0 rfl (.cons rfl (.refl _) (.cons rfl (.refl _) (.cons rfl (.refl _) (.cons rfl (.refl _) (.nil))))) (.refl _) rfl
  · exact JP2.a h (Le.tow 0 0 rfl (.nil) (.refl _) rfl)
theorem slices_IndexFunc_api_Pair_api_Pair_alert_Check_1_L1_ok : ∀ (p0 : (List (List api_Pair))) (v8 : Int) (o1 : Unit ⊕ Int), slices_IndexFunc_api_Pair_api_Pair_alert_Check_1_L1 p0 v8 = some o1 → TL (0, 0) Try.prog 19 slices_IndexFunc_api_Pair_api_Pair_alert_Check_1_L1_c (JP2 (0, 0) 19 o1 (.exit 0) (slices_IndexFunc_api_Pair_api_Pair_alert_Check_1_L1_x0 p0) .ret (slices_IndexFunc_api_Pair_api_Pair_alert_Check_1_L1_x1 p0)) (slices_IndexFunc_api_Pair_api_Pair_alert_Check_1_L1_st p0 v8) := fun p0 v8 o1 h => (slices_IndexFunc_api_Pair_api_Pair_alert_Check_1_L1_grp p0) v8 o1 h
noncomputable def slices_IndexFunc_api_Pair_api_Pair_alert_Check_1 (p0 : (List (List api_Pair))) : Option (Int) :=
  (slices_IndexFunc_api_Pair_api_Pair_alert_Check_1_L1 p0 0) >>= fun o1 =>
  match o1 with
  | .inl y2 =>
    some (-1)
  | .inr y3 =>
    some y3
set_option maxRecDepth 100000 in
set_option maxHeartbeats 4000000 in
theorem slices_IndexFunc_api_Pair_api_Pair_alert_Check_1_ok : ∀ (p0 : (List (List api_Pair))) (o : Int), slices_IndexFunc_api_Pair_api_Pair_alert_Check_1 p0 = some o → CallOK Try.prog 25 [.p (.sl false (p0.map (cSl c_api_Pair))), .fn (.func 13) [] []] ⟨[], []⟩ (t_slices_IndexFunc_api_Pair_api_Pair_alert_Check_1 o) ⟨[], []⟩ := by
  intro p0 o h
  unfold slices_IndexFunc_api_Pair_api_Pair_alert_Check_1 at h
  refine CallOK.ofB mixed tbOk slices_IndexFunc_api_Pair_api_Pair_alert_Check_1_lv Try.func25 rfl (by kernel_rfl) (Nat.le_of_ble_eq_true rfl) rfl rfl rfl ?_
  refine view (lenMap _ _) rfl ?_
  refine st_bind h (fun o1 ho hk => ?_)
  refine Exists.intro (JP2 _ _ o1 (.exit 0) (slices_IndexFunc_api_Pair_api_Pair_alert_Check_1_L1_x0 p0) .ret (slices_IndexFunc_api_Pair_api_Pair_alert_Check_1_L1_x1 p0)) (And.intro (T_le (τ := slices_IndexFunc_api_Pair_api_Pair_alert_Check_1_L1_st p0 0) ?_ (TL.loop (slices_IndexFunc_api_Pair_api_Pair_alert_Check_1_L1_ok p0 0 o1 ho))) (join2 (fun y2 hy => ?_) (fun y3 hy => ?_)))
  · exact Le.tow 0 0 rfl (.cons rfl (.refl _) (.cons rfl (.refl _) (.cons rfl (.refl _) (.cons rfl (.refl _) (.nil))))) (.refl _) rfl
  · have h := (by rw [hy] at hk; exact hk)
    refine Exists.intro _ (And.intro (Le.refl _ _ _) ?_)
    exact st_retc (t := t_slices_IndexFunc_api_Pair_api_Pair_alert_Check_1) (ss := fun o => ⟨[], []⟩) h ⟨[], rfl, .refl _, .refl _, rfl⟩
  · have h := (by rw [hy] at hk; exact hk)
    refine Exists.intro _ (And.intro (Le.refl _ _ _) ?_)
    exact st_retc (t := t_slices_IndexFunc_api_Pair_api_Pair_alert_Check_1) (ss := fun o => ⟨[], []⟩) h ⟨[], rfl, .refl _, .refl _, rfl⟩
noncomputable def slices_ContainsFunc_api_Pair_api_Pair_alert_Check_1 (p0 : (List (List api_Pair))) : Option (Bool) :=
  slices_IndexFunc_api_Pair_api_Pair_alert_Check_1 p0 >>= fun x1 =>
  some (decide (x1 ≥ 0))
set_option maxRecDepth 100000 in
set_option maxHeartbeats 4000000 in
theorem slices_ContainsFunc_api_Pair_api_Pair_alert_Check_1_ok : ∀ (p0 : (List (List api_Pair))) (o : Bool), slices_ContainsFunc_api_Pair_api_Pair_alert_Check_1 p0 = some o → CallOK Try.prog 11 [.p (.sl false (p0.map (cSl c_api_Pair))), .fn (.func 13) [] []] ⟨[], []⟩ (t_slices_ContainsFunc_api_Pair_api_Pair_alert_Check_1 o) ⟨[], []⟩ := by
  intro p0 o h
  unfold slices_ContainsFunc_api_Pair_api_Pair_alert_Check_1 at h
  refine CallOK.ofB mixed tbOk slices_ContainsFunc_api_Pair_api_Pair_alert_Check_1_lv Try.func11 rfl (by kernel_rfl) (Nat.le_of_ble_eq_true rfl) rfl rfl rfl ?_
  refine st_callc _ _ h (fun x1 hy => ((slices_IndexFunc_api_Pair_api_Pair_alert_Check_1_ok p0 x1 hy).fr [] [] rfl rfl rfl)) (fun x1 hy h => ?_)
  refine Exists.intro _ (And.intro (Le.refl _ _ _) ?_)
  exact st_retc (t := t_slices_ContainsFunc_api_Pair_api_Pair_alert_Check_1) (ss := fun o => ⟨[], []⟩) h ⟨[], rfl, .refl _, .refl _, rfl⟩
noncomputable def alert_Check (p0 : api_Group) : Option (Int) :=
  ( if (decide ((p0.Alerts.length : Int) > 64)) then
      some true
    else
      alert_rows p0 >>= fun x2 =>
      slices_ContainsFunc_api_Pair_api_Pair_alert_Check_1 x2 >>= fun x3 =>
      some x3 : Option (Bool)) >>= fun o1 =>
  if o1 then
    some 5
  else
    alert_texts p0 >>= fun x4 =>
    alert_texts_1 x4 >>= fun y8 =>
    (alert_Check_L1 p0 x4 y8.1 65536) >>= fun o9 =>
    match o9 with
    | .inl y10 =>
      some 0
    | .inr y11 =>
      some 6
set_option maxRecDepth 100000 in
set_option maxHeartbeats 4000000 in
theorem alert_Check_ok : ∀ (p0 : api_Group) (o : Int), alert_Check p0 = some o → PCall Try.prog 5 [.agg [sV p0.Receiver, bV p0.Firing, .sl false (p0.Common.map c_api_Pair), sV p0.Link, .sl false (p0.Alerts.map c_api_Alert)]] (t_alert_Check o) := by
  intro p0 o h
  unfold alert_Check at h
  refine PCall.ofB mixed tbOk alert_Check_lv Try.func5 rfl (by kernel_rfl) (Nat.le_of_ble_eq_true rfl) ?_
  refine st_bind h (fun o1 ho hk => ?_)
  refine Exists.intro (JP1 _ _ o1 .normal (alert_Check_J0_0 p0)) (And.intro ?_ (join1 ?_))
  · have h := ho
    refine view (lenMap _ _) rfl ?_
    refine st_test h (fun hb h => ?_) (fun hb h => ?_)
    · refine JP1.a h ?_
      exact Le.tow 2 0 rfl (.cons rfl (.refl _) (.cons rfl (.refl _) (.cons rfl (.refl _) (.nil)))) (.refl _) rfl
    · refine st_call [.agg [sV p0.Receiver, bV p0.Firing, .sl false (p0.Common.map c_api_Pair), sV p0.Link, .sl false (p0.Alerts.map c_api_Alert)]] t_alert_rows h (fun x2 hy => (alert_rows_ok p0 x2 hy)) (fun x2 hy h => ?_)
      refine st_callc _ _ h (fun x3 hy => ((slices_ContainsFunc_api_Pair_api_Pair_alert_Check_1_ok x2 x3 hy).fr [] [] rfl rfl rfl)) (fun x3 hy h => ?_)
      refine JP1.a h ?_
      exact Le.tow 2 0 rfl (.cons rfl (.refl _) (.cons rfl (.refl _) (.cons rfl (.refl _) (.nil)))) (.refl _) rfl
  · have h := hk
    refine st_test h (fun hb h => ?_) (fun hb h => ?_)
    · refine st_ret (t := t_alert_Check) h ?_
      exact .refl _
    · refine st_call [.agg [sV p0.Receiver, bV p0.Firing, .sl false (p0.Common.map c_api_Pair), sV p0.Link, .sl false (p0.Alerts.map c_api_Alert)]] t_alert_texts h (fun x4 hy => (alert_texts_ok p0 x4 hy)) (fun x4 hy h => ?_)
      refine st_bind h (fun y8 hy8 h => ?_)
      refine st_bind h (fun o9 ho hk => ?_)
      refine Exists.intro (JP2 _ _ o9 .normal (alert_Check_L1_x0 p0 x4) .ret (alert_Check_L1_x1 p0 x4)) (And.intro (T_le (τ := alert_Check_L1_st p0 x4 65536) ?_ (T_range (g := 26) (cap := [.ep [sV x4.Receiver, bV x4.Firing, .sl false (x4.Common.map c_api_Pair), sV x4.Link, .sl false (x4.Alerts.map c_api_Alert)]]) rfl ((alert_texts_1_ok x4 y8 hy8) _ rfl) (mapSize fun _ => rfl) rfl (Nat.le_of_ble_eq_true rfl) (Nat.le_of_ble_eq_true rfl) (alert_Check_L1_ok p0 x4 y8.1 65536 o9 ho))) (join2 (fun y10 hy => ?_) (fun y11 hy => ?_)))
      · exact Le.tow 3 0 rfl (.cons rfl (.refl _) (.cons rfl (.refl _) (.cons rfl (.refl _) (.nil)))) (.refl _) rfl
      · have h := (by rw [hy] at hk; exact hk)
        refine st_ret (t := t_alert_Check) h ?_
        exact .refl _
      · have h := (by rw [hy] at hk; exact hk)
        refine st_ret (t := t_alert_Check) h ?_
        exact .refl _
noncomputable def schema_Text (p0 : (List UInt8)) : Option (api_Val) :=
  some (api_Val.mk 1 p0 0 false [])
set_option maxRecDepth 100000 in
set_option maxHeartbeats 4000000 in
theorem schema_Text_ok : ∀ (p0 : (List UInt8)) (o : api_Val), schema_Text p0 = some o → PCall Try.prog 29 [sV p0] (t_schema_Text o) := by
  intro p0 o h
  unfold schema_Text at h
  refine PCall.ofB mixed tbOk schema_Text_lv Try.func29 rfl (by kernel_rfl) (Nat.le_of_ble_eq_true rfl) ?_
  refine st_ret (t := t_schema_Text) h ?_
  exact .p (.agg' (.cons (.refl _) (.cons (.refl _) (.cons (.refl _) (.cons (.refl _) (.cons (.not) (.nil)))))))
noncomputable def schema_Pair (p0 : (List UInt8)) (p1 : (List UInt8)) : Option (api_Val) :=
  schema_Text p0 >>= fun x1 =>
  schema_Text p1 >>= fun x2 =>
  some (api_Val.mk 4 [] 0 false [x1, x2])
set_option maxRecDepth 100000 in
set_option maxHeartbeats 4000000 in
theorem schema_Pair_ok : ∀ (p0 : (List UInt8)) (p1 : (List UInt8)) (o : api_Val), schema_Pair p0 p1 = some o → PCall Try.prog 48 [sV p0, sV p1] (t_schema_Pair o) := by
  intro p0 p1 o h
  unfold schema_Pair at h
  refine PCall.ofB mixed tbOk schema_Pair_lv Try.func48 rfl (by kernel_rfl) (Nat.le_of_ble_eq_true rfl) ?_
  refine st_call [sV p0] t_schema_Text h (fun x1 hy => (schema_Text_ok p0 x1 hy)) (fun x1 hy h => ?_)
  refine st_call [sV p1] t_schema_Text h (fun x2 hy => (schema_Text_ok p1 x2 hy)) (fun x2 hy h => ?_)
  refine st_ret (t := t_schema_Pair) h ?_
  exact .p (.agg' (.cons (.refl _) (.cons (.refl _) (.cons (.refl _) (.cons (.refl _) (.cons (.no (.cons (.ceq (c_api_Val_eq _) (.refl _)) (.cons (.ceq (c_api_Val_eq _) (.refl _)) (.nil)))) (.nil)))))))
noncomputable def alert_record_pairs_L1 (p1 : (List api_Pair)) (h0_0 : (List api_Val)) (v10 : Int) (h1_4 : (List api_Val)) : Option ((List api_Val)) :=
  if (decide (v10 < (p1.length : Int))) then
    idx p1 v10 >>= fun x2 =>
    schema_Pair x2.Key x2.Val >>= fun x3 =>
    appL 64 h1_4 [x3] >>= fun x4 =>
    alert_record_pairs_L1 p1 h0_0 (wr (v10 + 1)) x4
  else
    some h1_4
  partial_fixpoint
set_option maxRecDepth 100000 in
set_option maxHeartbeats 4000000 in
theorem alert_record_pairs_L1_grp : ∀ (p1 : (List api_Pair)) (h0_0 : (List api_Val)), (∀ (v10 : Int) (h1_4 : (List api_Val)) (o1 : (List api_Val)), alert_record_pairs_L1 p1 h0_0 v10 h1_4 = some o1 → TL (1, 1) Try.prog 36 alert_record_pairs_L1_c (JP1 (1, 1) 36 o1 (.exit 0) (alert_record_pairs_L1_x0 p1 h0_0)) (alert_record_pairs_L1_st p1 h0_0 v10 h1_4)) := by
  intro p1 h0_0
  refine alert_record_pairs_L1.partial_correctness p1 h0_0 _ ?_
  intro alert_record_pairs_L1' ih_alert_record_pairs_L1 v10 h1_4 o1 h
  refine TL.round (bwp_sound mixed tbOk (lv := alert_record_pairs_lv) _ _ _ ?_)
  refine st_test h (fun hb h => ?_) (fun hb h => ?_)
  · refine st_idx (l := p1) (c := c_api_Pair) (c' := c_api_Pair) h (fun _ => rfl) (fun _ => rfl) (by decide) (fun x2 hi h => ?_)
    refine And.intro (by decide +kernel) (And.intro rfl ?_)
    refine st_calld [sV x2.Key, sV x2.Val] t_schema_Pair h (fun x3 hy => (schema_Pair_ok x2.Key x2.Val x3 hy)) (fun x3 hy h => ?_)
    refine st_appo (a := h1_4) (b := [x3]) (c := c_api_Val) h (.cons (.ceq (c_api_Val_eq _) (.refl _)) (.nil)) (fun x => by rw [c_api_Val_eq]; rfl) rfl (fun x4 hi h => ?_)
    refine TL.le (τ := alert_record_pairs_L1_st p1 h0_0 (wr (v10 + 1)) x4) ?_ ((ih_alert_record_pairs_L1 (wr (v10 + 1)) x4 _ h))
    exact Le.tow 2 2 rfl (.cons rfl (.refl _) (.cons rfl (.refl _) (.cons rfl (.refl _) (.cons rfl (.refl _) (.cons rfl (.refl _) (.nil)))))) (.refl _) rfl
  · exact JP1.a h (Le.tow 2 2 rfl (.cons rfl (.refl _) (.cons rfl (.refl _) (.nil))) (.refl _) rfl)
theorem alert_record_pairs_L1_ok : ∀ (p1 : (List api_Pair)) (h0_0 : (List api_Val)) (v10 : Int) (h1_4 : (List api_Val)) (o1 : (List api_Val)), alert_record_pairs_L1 p1 h0_0 v10 h1_4 = some o1 → TL (1, 1) Try.prog 36 alert_record_pairs_L1_c (JP1 (1, 1) 36 o1 (.exit 0) (alert_record_pairs_L1_x0 p1 h0_0)) (alert_record_pairs_L1_st p1 h0_0 v10 h1_4) := fun p1 h0_0 v10 h1_4 o1 h => (alert_record_pairs_L1_grp p1 h0_0) v10 h1_4 o1 h
noncomputable def alert_record_pairs (p1 : (List api_Pair)) (h0_0 : (List api_Val)) : Option ((List api_Val)) :=
  (alert_record_pairs_L1 p1 h0_0 0 []) >>= fun o1 =>
  appL 64 h0_0 [(api_Val.mk 8 [] 0 false o1)] >>= fun x5 =>
  some x5
set_option maxRecDepth 100000 in
set_option maxHeartbeats 4000000 in
theorem alert_record_pairs_ok : ∀ (p1 : (List api_Pair)) (h0_0 : (List api_Val)) (o : (List api_Val)), alert_record_pairs p1 h0_0 = some o → CallOK Try.prog 31 [.ptr 0 0, .p (.sl false (p1.map c_api_Pair))] ⟨[[.own 0 54 5 (h0_0.map c_api_Val)]], [(h0_0.map c_api_Val).length]⟩ (t_alert_record_pairs o) ⟨[[.own 0 54 5 (o.map c_api_Val)]], [(o.map c_api_Val).length]⟩ := by
  intro p1 h0_0 o h
  unfold alert_record_pairs at h
  refine CallOK.ofB mixed tbOk alert_record_pairs_lv Try.func31 rfl (by kernel_rfl) (Nat.le_of_ble_eq_true rfl) rfl rfl rfl ?_
  refine view (lenMap _ _) rfl ?_
  refine st_bind h (fun o1 ho hk => ?_)
  refine Exists.intro (JP1 _ _ o1 (.exit 0) (alert_record_pairs_L1_x0 p1 h0_0)) (And.intro (T_le (τ := alert_record_pairs_L1_st p1 h0_0 0 []) ?_ (TL.loop (alert_record_pairs_L1_ok p1 h0_0 0 [] o1 ho))) (join1 ?_))
  · exact (Le.ownH 1 4 54 5 rfl rfl sizeNil).trans (Le.tow 2 2 rfl (.cons rfl (.refl _) (.cons rfl (.refl _) (.cons rfl (.refl _) (.cons rfl (.refl _) (.cons rfl (.refl _) (.nil)))))) (.refl _) rfl)
  have h := hk
  refine And.intro (by decide +kernel) (And.intro (by decide +kernel) (And.intro rfl ?_))
  refine view (lenMap _ _) rfl ?_
  refine st_bind h (fun x5 hi h => ?_)
  have hB := apvB (c := c_api_Val) (vs := [iV 8, sV [], iV 0, bV false, .sl false (o1.map c_api_Val)]) hi (.ceq (c_api_Val_eq _) (.refl _))
  refine Exists.intro _ (And.intro (Apv.mk (o0 := ?o0) (o1 := ?o1) (o2 := ?o2) (o3 := ?o3) (o4 := ?o4) (o5 := ?o5) (c := ?c) (ox := ?ox) (oy := ?oy) (ti := ?ti) (te := ?te) (tp := ?tp) (tf := ?tf) (ti2 := ?ti2) (fields := ?fields) (fd := ?fd) (t1 := 52) (x1 := 32) (xi := 30) (e := 54) (x2 := 33) (xv := 29) (xp := 25) (x3 := 34) (ft := 74) (f := 0) (x4 := 35) (t2 := 52) (tk := 0) (nm := 0) (off := 0) (k := .i64) (n := (h0_0.length : Int)) (es := h0_0.map c_api_Val) (es' := x5.map c_api_Val) (fl := true) (zs := [iV 0, sV [], iV 0, bV false, .sl true []]) (vs := [iV 8, sV [], iV 0, bV false, .sl false (o1.map c_api_Val)]) (dv := .p (.agg [iV 8, sV [], iV 0, bV false, .sl false (o1.map c_api_Val)])) (cs := [.p (iV 8), .p (sV []), .p (iV 0), .p (bV false), .p (.sl false (o1.map c_api_Val))]) (ds := [.own 0 54 5 (h0_0.map c_api_Val)]) ?ho ?hf ?ex ?ey ?ei ?hn ?hv ?hcs ?hvs ?hp ?ht ?hd ?he ?hz ?hz0 ?hl ?hzs ?hvl ?hby ?hmax ?hft ?hfd ?hff ?htf ?hfz ?ht2 ?h2 ?hds ?hoff ?hle ?hem) ?_)
  case ho =>
    refine ⟨?_, ?_, ?_, ?_, ?_, ?_, ?_, ?_, ?_, ?_, ?_, ?_, ?_, ?_, ?_, ?_, ?_, ?_, ?_⟩
    exact rfl
    exact rfl
    exact rfl
    exact rfl
    exact rfl
    exact rfl
    exact rfl
    exact rfl
    exact rfl
    exact rfl
    exact rfl
    exact rfl
    exact rfl
    exact rfl
    exact rfl
    exact rfl
    exact rfl
    · decide
    · decide
  case ht => exact rfl
  case hd => exact rfl
  case he => exact rfl
  case hft => exact rfl
  case hfd => exact rfl
  case hff => exact rfl
  case htf => exact rfl
  case ht2 => exact rfl
  case h2 => exact rfl
  case ex => exact rfl
  case ey => exact rfl
  case ei => exact rfl
  case hv => exact rfl
  case hcs => exact rfl
  case hvs => exact rfl
  case hp => exact rfl
  case hf => exact rfl
  case hz => exact rfl
  case hl => exact rfl
  case hzs => exact rfl
  case hvl => exact rfl
  case hds => exact rfl
  case hz0 => exact Nat.le_of_ble_eq_true rfl
  case hn => simp
  case hby => exact hB.1
  case hmax => exact hB.2.1
  case hle => exact hB.2.2
  case hfz => exact (by decide)
  case hoff => exact Nat.le_of_ble_eq_true rfl
  case hem => exact (by decide)
  refine Exists.intro _ (And.intro (Le.refl _ _ _) ?_)
  exact st_retc (t := t_alert_record_pairs) (ss := fun o => ⟨[[.own 0 54 5 (o.map c_api_Val)]], [(o.map c_api_Val).length]⟩) h ⟨[0], rfl, .refl _, .refl _, rfl⟩
noncomputable def alert_record_put (p1 : (List api_Val)) : Option ((List api_Val)) :=
  appL 64 [] p1 >>= fun x1 =>
  some x1
set_option maxRecDepth 100000 in
set_option maxHeartbeats 4000000 in
theorem alert_record_put_ok : ∀ (p1 : (List api_Val)) (o : (List api_Val)), alert_record_put p1 = some o → CallOK Try.prog 28 [.ptr 0 0, .p (.sl false (p1.map c_api_Val))] ⟨[[.p (.sl true [])]], []⟩ (t_alert_record_put o) ⟨[[.own 0 54 5 (o.map c_api_Val)]], [(o.map c_api_Val).length]⟩ := by
  intro p1 o h
  unfold alert_record_put at h
  refine CallOK.ofB mixed tbOk alert_record_put_lv Try.func28 rfl (by kernel_rfl) (Nat.le_of_ble_eq_true rfl) rfl rfl rfl ?_
  refine st_appf (a := ([] : List api_Val)) (b := p1) (c := c_api_Val) h (.refl _) (.refl _) (fun x => by rw [c_api_Val_eq]; rfl) (.inl rfl) (fun x1 hi h => ?_)
  refine Exists.intro _ (And.intro (Le.refl _ _ _) ?_)
  exact st_retc (t := t_alert_record_put) (ss := fun o => ⟨[[.own 0 54 5 (o.map c_api_Val)]], [(o.map c_api_Val).length]⟩) h ⟨[0], rfl, .refl _, .refl _, rfl⟩
noncomputable def alert_record_put_2 (p1 : (List api_Val)) (h0_0 : (List api_Val)) : Option ((List api_Val)) :=
  appL 64 h0_0 p1 >>= fun x1 =>
  some x1
set_option maxRecDepth 100000 in
set_option maxHeartbeats 4000000 in
theorem alert_record_put_2_ok : ∀ (p1 : (List api_Val)) (h0_0 : (List api_Val)) (o : (List api_Val)), alert_record_put_2 p1 h0_0 = some o → CallOK Try.prog 28 [.ptr 0 0, .p (.sl false (p1.map c_api_Val))] ⟨[[.own 0 54 5 (h0_0.map c_api_Val)]], [(h0_0.map c_api_Val).length]⟩ (t_alert_record_put_2 o) ⟨[[.own 0 54 5 (o.map c_api_Val)]], [(o.map c_api_Val).length]⟩ := by
  intro p1 h0_0 o h
  unfold alert_record_put_2 at h
  refine CallOK.ofB mixed tbOk alert_record_put_2_lv Try.func28 rfl (by kernel_rfl) (Nat.le_of_ble_eq_true rfl) rfl rfl rfl ?_
  refine st_appo (a := h0_0) (b := p1) (c := c_api_Val) h (.refl _) (fun x => by rw [c_api_Val_eq]; rfl) rfl (fun x1 hi h => ?_)
  refine Exists.intro _ (And.intro (Le.refl _ _ _) ?_)
  exact st_retc (t := t_alert_record_put_2) (ss := fun o => ⟨[[.own 0 54 5 (o.map c_api_Val)]], [(o.map c_api_Val).length]⟩) h ⟨[0], rfl, .refl _, .refl _, rfl⟩
noncomputable def schema_Number (p0 : Int) : Option (api_Val) :=
  some (api_Val.mk 2 [] p0 false [])
set_option maxRecDepth 100000 in
set_option maxHeartbeats 4000000 in
theorem schema_Number_ok : ∀ (p0 : Int) (o : api_Val), schema_Number p0 = some o → PCall Try.prog 47 [iV p0] (t_schema_Number o) := by
  intro p0 o h
  unfold schema_Number at h
  refine PCall.ofB mixed tbOk schema_Number_lv Try.func47 rfl (by kernel_rfl) (Nat.le_of_ble_eq_true rfl) ?_
  refine st_ret (t := t_schema_Number) h ?_
  exact .p (.agg' (.cons (.refl _) (.cons (.refl _) (.cons (.refl _) (.cons (.refl _) (.cons (.not) (.nil)))))))
noncomputable def schema_Truth (p0 : Bool) : Option (api_Val) :=
  some (api_Val.mk 3 [] 0 p0 [])
set_option maxRecDepth 100000 in
set_option maxHeartbeats 4000000 in
theorem schema_Truth_ok : ∀ (p0 : Bool) (o : api_Val), schema_Truth p0 = some o → PCall Try.prog 30 [bV p0] (t_schema_Truth o) := by
  intro p0 o h
  unfold schema_Truth at h
  refine PCall.ofB mixed tbOk schema_Truth_lv Try.func30 rfl (by kernel_rfl) (Nat.le_of_ble_eq_true rfl) ?_
  refine st_ret (t := t_schema_Truth) h ?_
  exact .p (.agg' (.cons (.refl _) (.cons (.refl _) (.cons (.refl _) (.cons (.refl _) (.cons (.not) (.nil)))))))
noncomputable def alert_one_val (p1 : api_Alert) : Option (api_Val × (List api_Val)) :=
  schema_Truth p1.Firing >>= fun x1 =>
  schema_Number p1.Starts >>= fun x2 =>
  schema_Number p1.Value >>= fun x3 =>
  alert_record_put [x1, x2, x3] >>= fun x4 =>
  alert_record_pairs p1.Labels x4 >>= fun x5 =>
  alert_record_pairs p1.Notes x5 >>= fun x6 =>
  schema_Text p1.Link >>= fun x7 =>
  alert_record_put_2 [x7] x6 >>= fun x8 =>
  some ((api_Val.mk 5 [] 0 false x8), x8)
set_option maxRecDepth 100000 in
set_option maxHeartbeats 4000000 in
theorem alert_one_val_ok : ∀ (p1 : api_Alert) (o : api_Val × (List api_Val)), alert_one_val p1 = some o → CallOK Try.prog 27 [.ptr 0 0, .p (.agg [bV p1.Firing, iV p1.Starts, iV p1.Value, .sl false (p1.Labels.map c_api_Pair), .sl false (p1.Notes.map c_api_Pair), sV p1.Link])] ⟨[[.p (.sl true [])]], []⟩ (t_alert_one_val o) ⟨[[.own 0 54 5 (o.2.map c_api_Val)]], [(o.2.map c_api_Val).length]⟩ := by
  intro p1 o h
  unfold alert_one_val at h
  refine CallOK.ofB mixed tbOk alert_one_val_lv Try.func27 rfl (by kernel_rfl) (Nat.le_of_ble_eq_true rfl) rfl rfl rfl ?_
  refine And.intro (by decide +kernel) (And.intro rfl ?_)
  refine st_calld [bV p1.Firing] t_schema_Truth h (fun x1 hy => (schema_Truth_ok p1.Firing x1 hy)) (fun x1 hy h => ?_)
  refine st_calld [iV p1.Starts] t_schema_Number h (fun x2 hy => (schema_Number_ok p1.Starts x2 hy)) (fun x2 hy h => ?_)
  refine st_calld [iV p1.Value] t_schema_Number h (fun x3 hy => (schema_Number_ok p1.Value x3 hy)) (fun x3 hy h => ?_)
  refine st_callh _ _ h (fun x4 hy => ((alert_record_put_ok [x1, x2, x3] x4 hy).fr [0] [] rfl rfl rfl).weakC (.cons (.refl _) (.cons (.p (.no (.cons (.ceq (c_api_Val_eq _) (.refl _)) (.cons (.ceq (c_api_Val_eq _) (.refl _)) (.cons (.ceq (c_api_Val_eq _) (.refl _)) (.nil)))))) (.nil)))) (fun x4 => Nat.le_of_ble_eq_true rfl) (fun x4 hy h => ?_)
  refine And.intro (by decide +kernel) (And.intro rfl ?_)
  refine st_callh _ _ h (fun x5 hy => ((alert_record_pairs_ok p1.Labels x4 x5 hy).fr [0] [0] rfl rfl rfl)) (fun x5 => Nat.le_of_ble_eq_true rfl) (fun x5 hy h => ?_)
  refine And.intro (by decide +kernel) (And.intro rfl ?_)
  refine st_callh _ _ h (fun x6 hy => ((alert_record_pairs_ok p1.Notes x5 x6 hy).fr [0] [0] rfl rfl rfl)) (fun x6 => Nat.le_of_ble_eq_true rfl) (fun x6 hy h => ?_)
  refine And.intro (by decide +kernel) (And.intro rfl ?_)
  refine st_calld [sV p1.Link] t_schema_Text h (fun x7 hy => (schema_Text_ok p1.Link x7 hy)) (fun x7 hy h => ?_)
  refine st_callh _ _ h (fun x8 hy => ((alert_record_put_2_ok [x7] x6 x8 hy).fr [0] [0] rfl rfl rfl).weakC (.cons (.refl _) (.cons (.p (.no (.cons (.ceq (c_api_Val_eq _) (.refl _)) (.nil)))) (.nil)))) (fun x8 => Nat.le_of_ble_eq_true rfl) (fun x8 hy h => ?_)
  refine Exists.intro _ (And.intro (Le.refl _ _ _) ?_)
  exact st_retc (t := t_alert_one_val) (ss := fun o => ⟨[[.own 0 54 5 (o.2.map c_api_Val)]], [(o.2.map c_api_Val).length]⟩) h ⟨[0], rfl, .refl _, .refl _, rfl⟩
noncomputable def alert_Val_L1 (p0 : api_Group) (v19 : Int) (h2_4 : (List api_Val)) : Option ((List api_Val)) :=
  if (decide (v19 < (p0.Alerts.length : Int))) then
    idx p0.Alerts v19 >>= fun x3 =>
    alert_one_val x3 >>= fun x4 =>
    appL 64 h2_4 [x4.1] >>= fun x5 =>
    alert_Val_L1 p0 (wr (v19 + 1)) x5
  else
    some h2_4
  partial_fixpoint
set_option maxRecDepth 100000 in
set_option maxHeartbeats 4000000 in
theorem alert_Val_L1_grp : ∀ (p0 : api_Group), (∀ (v19 : Int) (h2_4 : (List api_Val)) (o2 : (List api_Val)), alert_Val_L1 p0 v19 h2_4 = some o2 → TL (0, 0) Try.prog 52 alert_Val_L1_c (JP1 (0, 0) 52 o2 (.exit 0) (alert_Val_L1_x0 p0)) (alert_Val_L1_st p0 v19 h2_4)) := by
  intro p0
  refine alert_Val_L1.partial_correctness p0 _ ?_
  intro alert_Val_L1' ih_alert_Val_L1 v19 h2_4 o2 h
  refine TL.round (bwp_sound mixed tbOk (lv := alert_Val_lv) _ _ _ ?_)
  refine st_test h (fun hb h => ?_) (fun hb h => ?_)
  · refine st_idx (l := p0.Alerts) (c := c_api_Alert) (c' := c_api_Alert) h (fun _ => rfl) (fun _ => rfl) (by decide) (fun x3 hi h => ?_)
    refine And.intro (by decide +kernel) (And.intro rfl ?_)
    refine st_callf _ _ h (fun x4 hy => ((alert_one_val_ok x3 x4 hy).ff [4] [] rfl rfl rfl rfl (Nat.le_of_ble_eq_true rfl))) (fun x4 hy h => ?_)
    refine st_appo (a := h2_4) (b := [x4.1]) (c := c_api_Val) h (.cons (.ceq (c_api_Val_eq _) (.refl _)) (.nil)) (fun x => by rw [c_api_Val_eq]; rfl) rfl (fun x5 hi h => ?_)
    refine TL.le (τ := alert_Val_L1_st p0 (wr (v19 + 1)) x5) ?_ ((ih_alert_Val_L1 (wr (v19 + 1)) x5 _ h))
    exact Le.tow 3 1 rfl (.cons rfl (.refl _) (.cons rfl (.refl _) (.cons rfl (.refl _) (.cons rfl (.refl _) (.cons rfl (.refl _) (.cons rfl (.refl _) (.nil))))))) (.refl _) rfl
  · exact JP1.a h (Le.tow 3 1 rfl (.cons rfl (.refl _) (.cons rfl (.refl _) (.cons rfl (.refl _) (.nil)))) (.refl _) rfl)
theorem alert_Val_L1_ok : ∀ (p0 : api_Group) (v19 : Int) (h2_4 : (List api_Val)) (o2 : (List api_Val)), alert_Val_L1 p0 v19 h2_4 = some o2 → TL (0, 0) Try.prog 52 alert_Val_L1_c (JP1 (0, 0) 52 o2 (.exit 0) (alert_Val_L1_x0 p0)) (alert_Val_L1_st p0 v19 h2_4) := fun p0 v19 h2_4 o2 h => (alert_Val_L1_grp p0) v19 h2_4 o2 h
noncomputable def alert_Val (p0 : api_Group) : Option (api_Val × Int) :=
  alert_Check p0 >>= fun x1 =>
  if (x1 != 0) then
    some ((api_Val.mk 0 [] 0 false []), x1)
  else
    (alert_Val_L1 p0 0 []) >>= fun o2 =>
    schema_Text p0.Receiver >>= fun x6 =>
    schema_Truth p0.Firing >>= fun x7 =>
    alert_record_put [x6, x7] >>= fun x8 =>
    alert_record_pairs p0.Common x8 >>= fun x9 =>
    schema_Text p0.Link >>= fun x10 =>
    alert_record_put_2 ([x10, (api_Val.mk 9 [] 0 false o2)]) x9 >>= fun x11 =>
    some ((api_Val.mk 6 [] 0 false x11), 0)
set_option maxRecDepth 100000 in
set_option maxHeartbeats 4000000 in
theorem alert_Val_ok : ∀ (p0 : api_Group) (o : api_Val × Int), alert_Val p0 = some o → PCall Try.prog 16 [.agg [sV p0.Receiver, bV p0.Firing, .sl false (p0.Common.map c_api_Pair), sV p0.Link, .sl false (p0.Alerts.map c_api_Alert)]] (t_alert_Val o) := by
  intro p0 o h
  unfold alert_Val at h
  refine PCall.ofB mixed tbOk alert_Val_lv Try.func16 rfl (by kernel_rfl) (Nat.le_of_ble_eq_true rfl) ?_
  refine st_call [.agg [sV p0.Receiver, bV p0.Firing, .sl false (p0.Common.map c_api_Pair), sV p0.Link, .sl false (p0.Alerts.map c_api_Alert)]] t_alert_Check h (fun x1 hy => (alert_Check_ok p0 x1 hy)) (fun x1 hy h => ?_)
  refine st_test h (fun hb h => ?_) (fun hb h => ?_)
  · refine st_ret (t := t_alert_Val) h ?_
    exact .tup (xs := [.agg [iV 0, sV [], iV 0, bV false, .sl true []], iV x1]) (ys := [.agg [iV 0, sV [], iV 0, bV false, .sl false []], iV x1]) (.cons (.agg' (.cons (.refl _) (.cons (.refl _) (.cons (.refl _) (.cons (.refl _) (.cons (.not) (.nil))))))) (.cons (.refl _) (.nil)))
  · refine view (lenMap _ _) rfl ?_
    refine st_bind h (fun o2 ho hk => ?_)
    refine Exists.intro (JP1 _ _ o2 (.exit 0) (alert_Val_L1_x0 p0)) (And.intro (T_le (τ := alert_Val_L1_st p0 0 []) ?_ (TL.loop (alert_Val_L1_ok p0 0 [] o2 ho))) (join1 ?_))
    · exact (Le.ownH 2 4 54 5 rfl rfl sizeNil).trans (Le.tow 3 1 rfl (.cons rfl (.refl _) (.cons rfl (.refl _) (.cons rfl (.refl _) (.cons rfl (.refl _) (.cons rfl (.refl _) (.cons rfl (.refl _) (.nil))))))) (.refl _) rfl)
    have h := hk
    refine And.intro (by decide +kernel) (And.intro rfl ?_)
    refine st_calld [sV p0.Receiver] t_schema_Text h (fun x6 hy => (schema_Text_ok p0.Receiver x6 hy)) (fun x6 hy h => ?_)
    refine st_calld [bV p0.Firing] t_schema_Truth h (fun x7 hy => (schema_Truth_ok p0.Firing x7 hy)) (fun x7 hy h => ?_)
    refine st_callh _ _ h (fun x8 hy => ((alert_record_put_ok [x6, x7] x8 hy).fr [3] [] rfl rfl rfl).weakC (.cons (.refl _) (.cons (.p (.no (.cons (.ceq (c_api_Val_eq _) (.refl _)) (.cons (.ceq (c_api_Val_eq _) (.refl _)) (.nil))))) (.nil)))) (fun x8 => Nat.le_of_ble_eq_true rfl) (fun x8 hy h => ?_)
    refine st_callc _ _ h (fun x9 hy => ((alert_record_pairs_ok p0.Common x8 x9 hy).fr [3] [1] rfl rfl rfl)) (fun x9 hy h => ?_)
    refine And.intro (by decide +kernel) (And.intro rfl ?_)
    refine st_calld [sV p0.Link] t_schema_Text h (fun x10 hy => (schema_Text_ok p0.Link x10 hy)) (fun x10 hy h => ?_)
    refine st_callh _ _ h (fun x11 hy => ((alert_record_put_2_ok ([x10, (api_Val.mk 9 [] 0 false o2)]) x9 x11 hy).fr [3] [1] rfl rfl rfl).weakC (.cons (.refl _) (.cons (.p (.no (.cons (.ceq (c_api_Val_eq _) (.refl _)) (.cons (.ceq (c_api_Val_eq _) (.refl _)) (.nil))))) (.nil)))) (fun x11 => Nat.le_of_ble_eq_true rfl) (fun x11 hy h => ?_)
    refine st_ret (t := t_alert_Val) h ?_
    exact .refl _
noncomputable def kind_Elem (p0 : Int) : Option (Int × Bool) :=
  if (p0 == 7) then
    some (1, true)
  else
    if (p0 == 8) then
      some (4, true)
    else
      if (p0 == 9) then
        some (5, true)
      else
        some (0, false)
set_option maxRecDepth 100000 in
set_option maxHeartbeats 4000000 in
theorem kind_Elem_ok : ∀ (p0 : Int) (o : Int × Bool), kind_Elem p0 = some o → PCall Try.prog 33 [iV p0] (t_kind_Elem o) := by
  intro p0 o h
  unfold kind_Elem at h
  refine PCall.ofB mixed tbOk kind_Elem_lv Try.func33 rfl (by kernel_rfl) (Nat.le_of_ble_eq_true rfl) ?_
  refine st_test h (fun hb h => ?_) (fun hb h => ?_)
  · refine st_ret (t := t_kind_Elem) h ?_
    exact .refl _
  · refine st_test h (fun hb h => ?_) (fun hb h => ?_)
    · refine st_ret (t := t_kind_Elem) h ?_
      exact .refl _
    · refine st_test h (fun hb h => ?_) (fun hb h => ?_)
      · refine st_ret (t := t_kind_Elem) h ?_
        exact .refl _
      · refine st_ret (t := t_kind_Elem) h ?_
        exact .refl _
noncomputable def kind_Field_L1 (p0 : Int) (p1 : (List UInt8)) (x1 : (List kind_field)) (v10 : Int) : Option (Unit ⊕ Int) :=
  if (decide (v10 < (x1.length : Int))) then
    idx x1 v10 >>= fun x5 =>
    ( if (x5.of_ == p0) then
        some (x5.name_ == p1)
      else
        some false : Option (Bool)) >>= fun o6 =>
    if o6 then
      some (.inr x5.is_)
    else
      kind_Field_L1 p0 p1 x1 (wr (v10 + 1))
  else
    some (.inl ())
  partial_fixpoint
set_option maxRecDepth 100000 in
set_option maxHeartbeats 4000000 in
theorem kind_Field_L1_grp : ∀ (p0 : Int) (p1 : (List UInt8)) (x1 : (List kind_field)), (∀ (v10 : Int) (o2 : Unit ⊕ Int), kind_Field_L1 p0 p1 x1 v10 = some o2 → TL (0, 0) Try.prog 27 kind_Field_L1_c (JP2 (0, 0) 27 o2 (.exit 0) (kind_Field_L1_x0 p0 p1 x1) .ret (kind_Field_L1_x1 p0 p1 x1)) (kind_Field_L1_st p0 p1 x1 v10)) := by
  intro p0 p1 x1
  refine kind_Field_L1.partial_correctness p0 p1 x1 _ ?_
  intro kind_Field_L1' ih_kind_Field_L1 v10 o2 h
  refine TL.round (bwp_sound mixed tbOk (lv := kind_Field_lv) _ _ _ ?_)
  refine st_test h (fun hb h => ?_) (fun hb h => ?_)
  · refine st_idx (l := x1) (c := c_kind_field) (c' := c_kind_field) h (fun _ => rfl) (fun _ => rfl) (by decide) (fun x5 hi h => ?_)
    refine st_bind h (fun o6 ho hk => ?_)
    refine Exists.intro (JP1 _ _ o6 .normal (kind_Field_J0_0 p0 p1 x1 v10 x5)) (And.intro ?_ (join1 ?_))
    · have h := ho
      refine st_test h (fun hb h => ?_) (fun hb h => ?_)
      · refine JP1.a h ?_
        exact Le.tow 1 0 rfl (.cons rfl (.refl _) (.cons rfl (.refl _) (.cons rfl (.refl _) (.cons rfl (.refl _) (.cons rfl (.refl _) (.cons rfl (.refl _) (.cons rfl (.refl _) (.nil)))))))) (.refl _) rfl
      · refine JP1.a h ?_
        exact Le.tow 1 0 rfl (.cons rfl (.refl _) (.cons rfl (.refl _) (.cons rfl (.refl _) (.cons rfl (.refl _) (.cons rfl (.refl _) (.cons rfl (.refl _) (.cons rfl (.refl _) (.nil)))))))) (.refl _) rfl
    · have h := hk
      refine st_test h (fun hb h => ?_) (fun hb h => ?_)
      · exact JP2.b h (Le.tow 0 0 rfl (.cons rfl (.refl _) (.cons rfl (.refl _) (.nil))) (.refl _) rfl)
      · refine TL.le (τ := kind_Field_L1_st p0 p1 x1 (wr (v10 + 1))) ?_ ((ih_kind_Field_L1 (wr (v10 + 1)) _ h))
        exact Le.tow 0 0 rfl (.cons rfl (.refl _) (.cons rfl (.refl _) (.cons rfl (.refl _) (.cons rfl (.refl _) (.cons rfl (.refl _) (.nil)))))) (.refl _) rfl
  · exact JP2.a h (Le.tow 0 0 rfl (.nil) (.refl _) rfl)
theorem kind_Field_L1_ok : ∀ (p0 : Int) (p1 : (List UInt8)) (x1 : (List kind_field)) (v10 : Int) (o2 : Unit ⊕ Int), kind_Field_L1 p0 p1 x1 v10 = some o2 → TL (0, 0) Try.prog 27 kind_Field_L1_c (JP2 (0, 0) 27 o2 (.exit 0) (kind_Field_L1_x0 p0 p1 x1) .ret (kind_Field_L1_x1 p0 p1 x1)) (kind_Field_L1_st p0 p1 x1 v10) := fun p0 p1 x1 v10 o2 h => (kind_Field_L1_grp p0 p1 x1) v10 o2 h
noncomputable def kind_table : Option ((List kind_field)) :=
  some ([(kind_field.mk 4 [107, 101, 121] 1), (kind_field.mk 4 [118, 97, 108] 1), (kind_field.mk 5 [102, 105, 114, 105, 110, 103] 3), (kind_field.mk 5 [115, 116, 97, 114, 116, 115] 2), (kind_field.mk 5 [118, 97, 108, 117, 101] 2), (kind_field.mk 5 [108, 97, 98, 101, 108, 115] 8), (kind_field.mk 5 [110, 111, 116, 101, 115] 8), (kind_field.mk 5 [108, 105, 110, 107] 1), (kind_field.mk 6 [114, 101, 99, 101, 105, 118, 101, 114] 1), (kind_field.mk 6 [102, 105, 114, 105, 110, 103] 3), (kind_field.mk 6 [99, 111, 109, 109, 111, 110] 8), (kind_field.mk 6 [108, 105, 110, 107] 1), (kind_field.mk 6 [97, 108, 101, 114, 116, 115] 9)])
set_option maxRecDepth 100000 in
set_option maxHeartbeats 4000000 in
theorem kind_table_ok : ∀ (o : (List kind_field)), kind_table  = some o → PCall Try.prog 50 [] (t_kind_table o) := by
  intro o h
  unfold kind_table at h
  refine PCall.ofB mixed tbOk kind_table_lv Try.func50 rfl (by kernel_rfl) (Nat.le_of_ble_eq_true rfl) ?_
  refine st_ret (t := t_kind_table) h ?_
  exact .p (.not)
noncomputable def kind_Field (p0 : Int) (p1 : (List UInt8)) : Option (Int × Bool) :=
  kind_table >>= fun x1 =>
  (kind_Field_L1 p0 p1 x1 0) >>= fun o2 =>
  match o2 with
  | .inl y3 =>
    some (0, false)
  | .inr y4 =>
    some (y4, true)
set_option maxRecDepth 100000 in
set_option maxHeartbeats 4000000 in
theorem kind_Field_ok : ∀ (p0 : Int) (p1 : (List UInt8)) (o : Int × Bool), kind_Field p0 p1 = some o → PCall Try.prog 37 [iV p0, sV p1] (t_kind_Field o) := by
  intro p0 p1 o h
  unfold kind_Field at h
  refine PCall.ofB mixed tbOk kind_Field_lv Try.func37 rfl (by kernel_rfl) (Nat.le_of_ble_eq_true rfl) ?_
  refine st_call [] t_kind_table h (fun x1 hy => (kind_table_ok x1 hy)) (fun x1 hy h => ?_)
  refine view (lenMap _ _) rfl ?_
  refine st_bind h (fun o2 ho hk => ?_)
  refine Exists.intro (JP2 _ _ o2 (.exit 0) (kind_Field_L1_x0 p0 p1 x1) .ret (kind_Field_L1_x1 p0 p1 x1)) (And.intro (T_le (τ := kind_Field_L1_st p0 p1 x1 0) ?_ (TL.loop (kind_Field_L1_ok p0 p1 x1 0 o2 ho))) (join2 (fun y3 hy => ?_) (fun y4 hy => ?_)))
  · exact Le.tow 0 0 rfl (.cons rfl (.refl _) (.cons rfl (.refl _) (.cons rfl (.refl _) (.cons rfl (.refl _) (.cons rfl (.refl _) (.nil)))))) (.refl _) rfl
  · have h := (by rw [hy] at hk; exact hk)
    refine st_ret (t := t_kind_Field) h ?_
    exact .refl _
  · have h := (by rw [hy] at hk; exact hk)
    refine st_ret (t := t_kind_Field) h ?_
    exact .refl _
noncomputable def kind_Fields_L1 (p0 : Int) (x1 : (List kind_field)) (v3 : (List (List UInt8))) (v8 : Int) : Option ((List (List UInt8))) :=
  if (decide (v8 < (x1.length : Int))) then
    idx x1 v8 >>= fun x3 =>
    if (x3.of_ == p0) then
      appL 16 v3 [x3.name_] >>= fun x4 =>
      kind_Fields_L1 p0 x1 x4 (wr (v8 + 1))
    else
      kind_Fields_L1 p0 x1 v3 (wr (v8 + 1))
  else
    some v3
  partial_fixpoint
set_option maxRecDepth 100000 in
set_option maxHeartbeats 4000000 in
theorem kind_Fields_L1_grp : ∀ (p0 : Int) (x1 : (List kind_field)), (∀ (v3 : (List (List UInt8))) (v8 : Int) (o2 : (List (List UInt8))), kind_Fields_L1 p0 x1 v3 v8 = some o2 → TL (0, 0) Try.prog 23 kind_Fields_L1_c (JP1 (0, 0) 23 o2 (.exit 0) (kind_Fields_L1_x0 p0 x1)) (kind_Fields_L1_st p0 x1 v3 v8)) := by
  intro p0 x1
  refine kind_Fields_L1.partial_correctness p0 x1 _ ?_
  intro kind_Fields_L1' ih_kind_Fields_L1 v3 v8 o2 h
  refine TL.round (bwp_sound mixed tbOk (lv := kind_Fields_lv) _ _ _ ?_)
  refine st_test h (fun hb h => ?_) (fun hb h => ?_)
  · refine st_idx (l := x1) (c := c_kind_field) (c' := c_kind_field) h (fun _ => rfl) (fun _ => rfl) (by decide) (fun x3 hi h => ?_)
    refine st_test h (fun hb h => ?_) (fun hb h => ?_)
    · refine st_appo (a := v3) (b := [x3.name_]) (c := cStr) h (.refl _) (fun _ => rfl) rfl (fun x4 hi h => ?_)
      refine TL.le (τ := kind_Fields_L1_st p0 x1 x4 (wr (v8 + 1))) ?_ ((ih_kind_Fields_L1 x4 (wr (v8 + 1)) _ h))
      exact Le.tow 0 1 rfl (.cons rfl (.refl _) (.cons rfl (.refl _) (.cons rfl (.refl _) (.cons rfl (.refl _) (.cons rfl (.refl _) (.nil)))))) (.refl _) rfl
    · refine TL.le (τ := kind_Fields_L1_st p0 x1 v3 (wr (v8 + 1))) ?_ ((ih_kind_Fields_L1 v3 (wr (v8 + 1)) _ h))
      exact Le.tow 0 1 rfl (.cons rfl (.refl _) (.cons rfl (.refl _) (.cons rfl (.refl _) (.cons rfl (.refl _) (.cons rfl (.refl _) (.nil)))))) (.refl _) rfl
  · exact JP1.a h (Le.tow 0 1 rfl (.cons rfl (.refl _) (.nil)) (.refl _) rfl)
theorem kind_Fields_L1_ok : ∀ (p0 : Int) (x1 : (List kind_field)) (v3 : (List (List UInt8))) (v8 : Int) (o2 : (List (List UInt8))), kind_Fields_L1 p0 x1 v3 v8 = some o2 → TL (0, 0) Try.prog 23 kind_Fields_L1_c (JP1 (0, 0) 23 o2 (.exit 0) (kind_Fields_L1_x0 p0 x1)) (kind_Fields_L1_st p0 x1 v3 v8) := fun p0 x1 v3 v8 o2 h => (kind_Fields_L1_grp p0 x1) v3 v8 o2 h
noncomputable def kind_Fields (p0 : Int) : Option ((List (List UInt8))) :=
  kind_table >>= fun x1 =>
  (kind_Fields_L1 p0 x1 [] 0) >>= fun o2 =>
  some o2
set_option maxRecDepth 100000 in
set_option maxHeartbeats 4000000 in
theorem kind_Fields_ok : ∀ (p0 : Int) (o : (List (List UInt8))), kind_Fields p0 = some o → PCall Try.prog 36 [iV p0] (t_kind_Fields o) := by
  intro p0 o h
  unfold kind_Fields at h
  refine PCall.ofB mixed tbOk kind_Fields_lv Try.func36 rfl (by kernel_rfl) (Nat.le_of_ble_eq_true rfl) ?_
  refine st_call [] t_kind_table h (fun x1 hy => (kind_table_ok x1 hy)) (fun x1 hy h => ?_)
  refine view (lenMap _ _) rfl ?_
  refine st_bind h (fun o2 ho hk => ?_)
  refine Exists.intro (JP1 _ _ o2 (.exit 0) (kind_Fields_L1_x0 p0 x1)) (And.intro (T_le (τ := kind_Fields_L1_st p0 x1 [] 0) ?_ (TL.loop (kind_Fields_L1_ok p0 x1 [] 0 o2 ho))) (join1 ?_))
  · exact (Le.own 3 9 1 rfl sizeNil).trans (Le.tow 0 1 rfl (.cons rfl (.refl _) (.cons rfl (.refl _) (.cons rfl (.refl _) (.cons rfl (.refl _) (.cons rfl (.refl _) (.nil)))))) (.refl _) rfl)
  have h := hk
  refine st_ret (t := t_kind_Fields) h ?_
  exact .refl _
noncomputable def kind_Plain (p0 : Int) : Option (Bool) :=
  ( if (decide (p0 ≥ 1)) then
      some (decide (p0 ≤ 3))
    else
      some false : Option (Bool)) >>= fun o1 =>
  some o1
set_option maxRecDepth 100000 in
set_option maxHeartbeats 4000000 in
theorem kind_Plain_ok : ∀ (p0 : Int) (o : Bool), kind_Plain p0 = some o → PCall Try.prog 32 [iV p0] (t_kind_Plain o) := by
  intro p0 o h
  unfold kind_Plain at h
  refine PCall.ofB mixed tbOk kind_Plain_lv Try.func32 rfl (by kernel_rfl) (Nat.le_of_ble_eq_true rfl) ?_
  refine st_bind h (fun o1 ho hk => ?_)
  refine Exists.intro (JP1 _ _ o1 .normal (kind_Plain_J0_0 )) (And.intro ?_ (join1 ?_))
  · have h := ho
    refine st_test h (fun hb h => ?_) (fun hb h => ?_)
    · refine JP1.a h ?_
      exact Le.tow 0 0 rfl (.cons rfl (.refl _) (.nil)) (.refl _) rfl
    · refine JP1.a h ?_
      exact Le.tow 0 0 rfl (.cons rfl (.refl _) (.nil)) (.refl _) rfl
  · have h := hk
    refine st_ret (t := t_kind_Plain) h ?_
    exact .refl _
noncomputable def nunciolaw17_AlertFits_L1 (p0 : Int) (p1 : Int) (p2 : Int) (p3 : Int) (v10 : Int) (h0_4 : (List api_Alert)) : Option ((List api_Alert)) :=
  if (decide (v10 < ((wr p0).tmod 70))) then
    appL 88 h0_4 ([(api_Alert.mk false 0 0 [] [] [])]) >>= fun x2 =>
    nunciolaw17_AlertFits_L1 p0 p1 p2 p3 (wr (v10 + 1)) x2
  else
    some h0_4
  partial_fixpoint
set_option maxRecDepth 100000 in
set_option maxHeartbeats 4000000 in
theorem nunciolaw17_AlertFits_L1_grp : ∀ (p0 : Int) (p1 : Int) (p2 : Int) (p3 : Int), (∀ (v10 : Int) (h0_4 : (List api_Alert)) (o1 : (List api_Alert)), nunciolaw17_AlertFits_L1 p0 p1 p2 p3 v10 h0_4 = some o1 → TL (0, 0) Try.prog 116 nunciolaw17_AlertFits_L1_c (JP1 (0, 0) 116 o1 (.exit 0) (nunciolaw17_AlertFits_L1_x0 p0 p1 p2 p3)) (nunciolaw17_AlertFits_L1_st p0 p1 p2 p3 v10 h0_4)) := by
  intro p0 p1 p2 p3
  refine nunciolaw17_AlertFits_L1.partial_correctness p0 p1 p2 p3 _ ?_
  intro nunciolaw17_AlertFits_L1' ih_nunciolaw17_AlertFits_L1 v10 h0_4 o1 h
  refine TL.round (bwp_sound mixed tbOk (lv := nunciolaw17_AlertFits_lv) _ _ _ ?_)
  refine vrfl ?_
  refine And.intro (by decide) ?_
  refine st_test h (fun hb h => ?_) (fun hb h => ?_)
  · refine st_xapp (a := h0_4) (b := [(api_Alert.mk false 0 0 [] [] [])]) (c := c_api_Alert) h (.cons (.cons (.refl _) (.cons (.refl _) (.cons (.refl _) (.cons (.not) (.cons (.not) (.cons (.refl _) (.nil))))))) (.nil)) (fun _ => rfl) rfl (fun x2 hi h => ?_)
    refine TL.le (τ := nunciolaw17_AlertFits_L1_st p0 p1 p2 p3 (wr (v10 + 1)) x2) ?_ ((ih_nunciolaw17_AlertFits_L1 (wr (v10 + 1)) x2 _ h))
    exact Le.trans (τ := ⟨[(0, .p (nV .u8 p0)), (1, .p (nV .u8 p1)), (2, .p (nV .u16 p2)), (3, .p (nV .u8 p3)), (9, .ptr 0 0), (10, .p (iV (wr (v10 + 1))))], ⟨[[.p (sV []), .p (bV false), .p (.sl true []), .p (sV []), .x 0 2 (.sl 28 6 (x2.map c_api_Alert))]], [2]⟩⟩) (Le.tow 1 1 rfl (.cons rfl (.refl _) (.cons rfl (.refl _) (.cons rfl (.refl _) (.cons rfl (.refl _) (.cons rfl (.refl _) (.cons rfl (.refl _) (.nil))))))) (.refl _) rfl) ((Le.ver (.h 0 4) 0 2 1 rfl rfl rfl rfl).trans (Le.tow 1 1 rfl (.cons rfl (.refl _) (.cons rfl (.refl _) (.cons rfl (.refl _) (.cons rfl (.refl _) (.cons rfl (.refl _) (.cons rfl (.refl _) (.nil))))))) (.refl _) rfl))
  · exact JP1.a h (Le.tow 1 1 rfl (.cons rfl (.refl _) (.cons rfl (.refl _) (.cons rfl (.refl _) (.cons rfl (.refl _) (.nil))))) (.refl _) rfl)
theorem nunciolaw17_AlertFits_L1_ok : ∀ (p0 : Int) (p1 : Int) (p2 : Int) (p3 : Int) (v10 : Int) (h0_4 : (List api_Alert)) (o1 : (List api_Alert)), nunciolaw17_AlertFits_L1 p0 p1 p2 p3 v10 h0_4 = some o1 → TL (0, 0) Try.prog 116 nunciolaw17_AlertFits_L1_c (JP1 (0, 0) 116 o1 (.exit 0) (nunciolaw17_AlertFits_L1_x0 p0 p1 p2 p3)) (nunciolaw17_AlertFits_L1_st p0 p1 p2 p3 v10 h0_4) := fun p0 p1 p2 p3 v10 h0_4 o1 h => (nunciolaw17_AlertFits_L1_grp p0 p1 p2 p3) v10 h0_4 o1 h
noncomputable def nunciolaw17_AlertFits_L2 (p1 : Int) (p2 : Int) (p3 : Int) (o1 : (List api_Alert)) (v11 : (List api_Pair)) (v12 : Int) : Option ((List api_Pair)) :=
  if (decide (v12 < ((wr p1).tmod 36))) then
    appL 32 v11 ([(api_Pair.mk [] [])]) >>= fun x4 =>
    nunciolaw17_AlertFits_L2 p1 p2 p3 o1 x4 (wr (v12 + 1))
  else
    some v11
  partial_fixpoint
set_option maxRecDepth 100000 in
set_option maxHeartbeats 4000000 in
theorem nunciolaw17_AlertFits_L2_grp : ∀ (p1 : Int) (p2 : Int) (p3 : Int) (o1 : (List api_Alert)), (∀ (v11 : (List api_Pair)) (v12 : Int) (o3 : (List api_Pair)), nunciolaw17_AlertFits_L2 p1 p2 p3 o1 v11 v12 = some o3 → TL (0, 0) Try.prog 116 nunciolaw17_AlertFits_L2_c (JP1 (0, 0) 116 o3 (.exit 2) (nunciolaw17_AlertFits_L2_x0 p1 p2 p3 o1)) (nunciolaw17_AlertFits_L2_st p1 p2 p3 o1 v11 v12)) := by
  intro p1 p2 p3 o1
  refine nunciolaw17_AlertFits_L2.partial_correctness p1 p2 p3 o1 _ ?_
  intro nunciolaw17_AlertFits_L2' ih_nunciolaw17_AlertFits_L2 v11 v12 o3 h
  refine TL.round (bwp_sound mixed tbOk (lv := nunciolaw17_AlertFits_lv) _ _ _ ?_)
  refine vrfl ?_
  refine And.intro (by decide) ?_
  refine st_test h (fun hb h => ?_) (fun hb h => ?_)
  · refine st_appo (a := v11) (b := [(api_Pair.mk [] [])]) (c := c_api_Pair) h (.refl _) (fun _ => rfl) rfl (fun x4 hi h => ?_)
    refine TL.le (τ := nunciolaw17_AlertFits_L2_st p1 p2 p3 o1 x4 (wr (v12 + 1))) ?_ ((ih_nunciolaw17_AlertFits_L2 x4 (wr (v12 + 1)) _ h))
    exact Le.tow 1 2 rfl (.cons rfl (.refl _) (.cons rfl (.refl _) (.cons rfl (.refl _) (.cons rfl (.refl _) (.cons rfl (.refl _) (.cons rfl (.refl _) (.nil))))))) (.refl _) rfl
  · exact JP1.a h (Le.tow 1 2 rfl (.cons rfl (.refl _) (.cons rfl (.refl _) (.cons rfl (.refl _) (.cons rfl (.refl _) (.nil))))) (.refl _) rfl)
theorem nunciolaw17_AlertFits_L2_ok : ∀ (p1 : Int) (p2 : Int) (p3 : Int) (o1 : (List api_Alert)) (v11 : (List api_Pair)) (v12 : Int) (o3 : (List api_Pair)), nunciolaw17_AlertFits_L2 p1 p2 p3 o1 v11 v12 = some o3 → TL (0, 0) Try.prog 116 nunciolaw17_AlertFits_L2_c (JP1 (0, 0) 116 o3 (.exit 2) (nunciolaw17_AlertFits_L2_x0 p1 p2 p3 o1)) (nunciolaw17_AlertFits_L2_st p1 p2 p3 o1 v11 v12) := fun p1 p2 p3 o1 v11 v12 o3 h => (nunciolaw17_AlertFits_L2_grp p1 p2 p3 o1) v11 v12 o3 h
mutual
noncomputable def schema_Is (p0 : api_Val) : Option (Bool) :=
  ( if (p0.K == 1) then
      some (p0.S, 0, false)
    else
      if (p0.K == 2) then
        some ([], p0.N, false)
      else
        if (p0.K == 3) then
          some ([], 0, p0.B)
        else
          some ([], 0, false) : Option (((List UInt8) × Int × Bool))) >>= fun o1 =>
  ( if (!(o1.1 == p0.S)) then
      some true
    else
      if (o1.2.1 != p0.N) then
        some true
      else
        some (o1.2.2 != p0.B) : Option (Bool)) >>= fun o2 =>
  if o2 then
    some false
  else
    kind_Plain p0.K >>= fun x3 =>
    if x3 then
      some ((p0.L.length : Int) == 0)
    else
      kind_Elem p0.K >>= fun x4 =>
      if x4.2 then
        ( if (decide ((p0.L.length : Int) ≤ 4096)) then
            slices_ContainsFunc_api_Val_api_Val_schema_Is_1 p0.L x4.1 >>= fun x6 =>
            some (!x6)
          else
            some false : Option (Bool)) >>= fun o5 =>
        some o5
      else
        kind_Fields p0.K >>= fun x7 =>
        ( if ((x7.length : Int) == 0) then
            some true
          else
            some ((x7.length : Int) != (p0.L.length : Int)) : Option (Bool)) >>= fun o8 =>
        if o8 then
          some false
        else
          (schema_Is_L1 p0 o1 x4 x7 0) >>= fun o9 =>
          match o9 with
          | .inl y10 =>
            some true
          | .inr y11 =>
            some false
  partial_fixpoint
noncomputable def schema_Is_L1 (p0 : api_Val) (o1 : (List UInt8) × Int × Bool) (x4 : Int × Bool) (x7 : (List (List UInt8))) (v93 : Int) : Option (Unit ⊕ Unit) :=
  if (decide (v93 < (x7.length : Int))) then
    idx x7 v93 >>= fun x12 =>
    kind_Field p0.K x12 >>= fun x13 =>
    ( idx p0.L v93 >>= fun x15 =>
      if (x15.K != x13.1) then
        some true
      else
        idx p0.L v93 >>= fun x16 =>
        schema_Is x16 >>= fun x17 =>
        some (!x17) : Option (Bool)) >>= fun o14 =>
    if o14 then
      some (.inr ())
    else
      schema_Is_L1 p0 o1 x4 x7 (wr (v93 + 1))
  else
    some (.inl ())
  partial_fixpoint
noncomputable def slices_ContainsFunc_api_Val_api_Val_schema_Is_1 (p0 : (List api_Val)) (h0_0 : Int) : Option (Bool) :=
  slices_IndexFunc_api_Val_api_Val_schema_Is_1 p0 h0_0 >>= fun x1 =>
  some (decide (x1 ≥ 0))
  partial_fixpoint
noncomputable def slices_IndexFunc_api_Val_api_Val_schema_Is_1 (p0 : (List api_Val)) (h0_0 : Int) : Option (Int) :=
  (slices_IndexFunc_api_Val_api_Val_schema_Is_1_L1 p0 h0_0 0) >>= fun o1 =>
  match o1 with
  | .inl y2 =>
    some (-1)
  | .inr y3 =>
    some y3
  partial_fixpoint
noncomputable def slices_IndexFunc_api_Val_api_Val_schema_Is_1_L1 (p0 : (List api_Val)) (h0_0 : Int) (v8 : Int) : Option (Unit ⊕ Int) :=
  if (decide (v8 < (p0.length : Int))) then
    idx p0 v8 >>= fun x4 =>
    schema_Is_1 x4 h0_0 >>= fun x5 =>
    if x5 then
      some (.inr v8)
    else
      slices_IndexFunc_api_Val_api_Val_schema_Is_1_L1 p0 h0_0 (wr (v8 + 1))
  else
    some (.inl ())
  partial_fixpoint
noncomputable def schema_Is_1 (p0 : api_Val) (h0_0 : Int) : Option (Bool) :=
  ( if (p0.K != h0_0) then
      some true
    else
      schema_Is p0 >>= fun x2 =>
      some (!x2) : Option (Bool)) >>= fun o1 =>
  some o1
  partial_fixpoint
end
set_option maxRecDepth 100000 in
set_option maxHeartbeats 4000000 in
theorem schema_Is_grp : (∀ (p0 : api_Val) (o : Bool), schema_Is p0 = some o → PCall Try.prog 17 [.agg [iV p0.K, sV p0.S, iV p0.N, bV p0.B, .sl false (p0.L.map c_api_Val)]] (t_schema_Is o)) ∧ (∀ (p0 : api_Val) (o1 : (List UInt8) × Int × Bool) (x4 : Int × Bool) (x7 : (List (List UInt8))) (v93 : Int) (o9 : Unit ⊕ Unit), schema_Is_L1 p0 o1 x4 x7 v93 = some o9 → TL (0, 0) Try.prog 123 schema_Is_L1_c (JP2 (0, 0) 123 o9 (.exit 1) (schema_Is_L1_x0 p0 o1 x4 x7) .ret (schema_Is_L1_x1 p0 o1 x4 x7)) (schema_Is_L1_st p0 o1 x4 x7 v93)) ∧ (∀ (p0 : (List api_Val)) (h0_0 : Int) (o : Bool), slices_ContainsFunc_api_Val_api_Val_schema_Is_1 p0 h0_0 = some o → CallOK Try.prog 34 [.p (.sl false (p0.map c_api_Val)), .fn (.func 35) [] [.ptr 0 0]] ⟨[[.p (iV h0_0)]], []⟩ (t_slices_ContainsFunc_api_Val_api_Val_schema_Is_1 o) ⟨[[.p (iV h0_0)]], []⟩) ∧ (∀ (p0 : (List api_Val)) (h0_0 : Int) (o : Int), slices_IndexFunc_api_Val_api_Val_schema_Is_1 p0 h0_0 = some o → CallOK Try.prog 49 [.p (.sl false (p0.map c_api_Val)), .fn (.func 35) [] [.ptr 0 0]] ⟨[[.p (iV h0_0)]], []⟩ (t_slices_IndexFunc_api_Val_api_Val_schema_Is_1 o) ⟨[[.p (iV h0_0)]], []⟩) ∧ (∀ (p0 : (List api_Val)) (h0_0 : Int) (v8 : Int) (o1 : Unit ⊕ Int), slices_IndexFunc_api_Val_api_Val_schema_Is_1_L1 p0 h0_0 v8 = some o1 → TL (1, 0) Try.prog 19 slices_IndexFunc_api_Val_api_Val_schema_Is_1_L1_c (JP2 (1, 0) 19 o1 (.exit 0) (slices_IndexFunc_api_Val_api_Val_schema_Is_1_L1_x0 p0 h0_0) .ret (slices_IndexFunc_api_Val_api_Val_schema_Is_1_L1_x1 p0 h0_0)) (slices_IndexFunc_api_Val_api_Val_schema_Is_1_L1_st p0 h0_0 v8)) ∧ (∀ (p0 : api_Val) (h0_0 : Int) (o : Bool), schema_Is_1 p0 h0_0 = some o → CallOK Try.prog 35 [.p (.agg [iV p0.K, sV p0.S, iV p0.N, bV p0.B, .sl false (p0.L.map c_api_Val)]), .ptr 0 0] ⟨[[.p (iV h0_0)]], []⟩ (t_schema_Is_1 o) ⟨[[.p (iV h0_0)]], []⟩) := by
  refine schema_Is.mutual_partial_correctness _ _ _ _ _ _ ?_ ?_ ?_ ?_ ?_ ?_
  · intro schema_Is_L1' slices_ContainsFunc_api_Val_api_Val_schema_Is_1' ih_schema_Is_L1 ih_slices_ContainsFunc_api_Val_api_Val_schema_Is_1 p0 o h
    refine PCall.ofB mixed tbOk schema_Is_lv Try.func17 rfl (by kernel_rfl) (Nat.le_of_ble_eq_true rfl) ?_
    refine st_bind h (fun o1 ho hk => ?_)
    refine Exists.intro (JP1 _ _ o1 .normal (schema_Is_J0_0 p0)) (And.intro ?_ (join1 ?_))
    · have h := ho
      refine st_test h (fun hb h => ?_) (fun hb h => ?_)
      · refine JP1.a h ?_
        exact Le.tow 2 0 rfl (.cons rfl (.refl _) (.cons rfl (.refl _) (.nil))) (.refl _) rfl
      · refine st_test h (fun hb h => ?_) (fun hb h => ?_)
        · refine JP1.a h ?_
          exact Le.tow 2 0 rfl (.cons rfl (.refl _) (.cons rfl (.refl _) (.nil))) (.refl _) rfl
        · refine st_test h (fun hb h => ?_) (fun hb h => ?_)
          · refine JP1.a h ?_
            exact Le.tow 2 0 rfl (.cons rfl (.refl _) (.cons rfl (.refl _) (.nil))) (.refl _) rfl
          · refine JP1.a h ?_
            exact Le.tow 2 0 rfl (.cons rfl (.refl _) (.cons rfl (.refl _) (.nil))) (.refl _) rfl
    · have h := hk
      refine st_bind h (fun o2 ho hk => ?_)
      refine Exists.intro (JP1 _ _ o2 .normal (schema_Is_J1_0 p0 o1)) (And.intro ?_ (join1 ?_))
      · have h := ho
        refine st_test h (fun hb h => ?_) (fun hb h => ?_)
        · refine bT ?_
          refine JP1.a h ?_
          exact Le.tow 2 0 rfl (.cons rfl (.refl _) (.cons rfl (.refl _) (.nil))) (.refl _) rfl
        · refine st_test h (fun hb h => ?_) (fun hb h => ?_)
          · refine JP1.a h ?_
            exact Le.tow 2 0 rfl (.cons rfl (.refl _) (.cons rfl (.refl _) (.nil))) (.refl _) rfl
          · refine JP1.a h ?_
            exact Le.tow 2 0 rfl (.cons rfl (.refl _) (.cons rfl (.refl _) (.nil))) (.refl _) rfl
      · have h := hk
        refine st_test h (fun hb h => ?_) (fun hb h => ?_)
        · refine st_ret (t := t_schema_Is) h ?_
          exact .refl _
        · refine st_call [iV p0.K] t_kind_Plain h (fun x3 hy => (kind_Plain_ok p0.K x3 hy)) (fun x3 hy h => ?_)
          refine st_test h (fun hb h => ?_) (fun hb h => ?_)
          · refine view (lenMap _ _) rfl ?_
            refine st_ret (t := t_schema_Is) h ?_
            exact .refl _
          · refine st_call [iV p0.K] t_kind_Elem h (fun x4 hy => (kind_Elem_ok p0.K x4 hy)) (fun x4 hy h => ?_)
            refine st_test h (fun hb h => ?_) (fun hb h => ?_)
            · refine st_bind h (fun o5 ho hk => ?_)
              refine Exists.intro (JP1 _ _ o5 .normal (schema_Is_J2_0 p0 o1 x4)) (And.intro ?_ (join1 ?_))
              · have h := ho
                refine view (lenMap _ _) rfl ?_
                refine st_test h (fun hb h => ?_) (fun hb h => ?_)
                · refine st_callc _ _ h (fun x6 hy => ((ih_slices_ContainsFunc_api_Val_api_Val_schema_Is_1 p0.L x4.1 x6 hy).fr [2] [] rfl rfl rfl)) (fun x6 hy h => ?_)
                  refine JP1.a h ?_
                  exact Le.tow 3 0 rfl (.cons rfl (.refl _) (.nil)) (.refl _) rfl
                · refine JP1.a h ?_
                  exact Le.tow 3 0 rfl (.cons rfl (.refl _) (.nil)) (.refl _) rfl
              · have h := hk
                refine st_ret (t := t_schema_Is) h ?_
                exact .refl _
            · refine st_call [iV p0.K] t_kind_Fields h (fun x7 hy => (kind_Fields_ok p0.K x7 hy)) (fun x7 hy h => ?_)
              refine st_bind h (fun o8 ho hk => ?_)
              refine Exists.intro (JP1 _ _ o8 .normal (schema_Is_J3_0 p0 o1 x4 x7)) (And.intro ?_ (join1 ?_))
              · have h := ho
                refine view (lenMap _ _) rfl ?_
                refine st_test h (fun hb h => ?_) (fun hb h => ?_)
                · refine JP1.a h ?_
                  exact Le.tow 3 0 rfl (.cons rfl (.refl _) (.cons rfl (.refl _) (.cons rfl (.refl _) (.nil)))) (.refl _) rfl
                · refine view (lenMap _ _) rfl ?_
                  refine view (lenMap _ _) rfl ?_
                  refine JP1.a h ?_
                  exact Le.tow 3 0 rfl (.cons rfl (.refl _) (.cons rfl (.refl _) (.cons rfl (.refl _) (.nil)))) (.refl _) rfl
              · have h := hk
                refine st_test h (fun hb h => ?_) (fun hb h => ?_)
                · refine st_ret (t := t_schema_Is) h ?_
                  exact .refl _
                · refine view (lenMap _ _) rfl ?_
                  refine st_bind h (fun o9 ho hk => ?_)
                  refine Exists.intro (JP2 _ _ o9 (.exit 1) (schema_Is_L1_x0 p0 o1 x4 x7) .ret (schema_Is_L1_x1 p0 o1 x4 x7)) (And.intro (T_le (τ := schema_Is_L1_st p0 o1 x4 x7 0) ?_ (TL.loop (ih_schema_Is_L1 p0 o1 x4 x7 0 o9 ho))) (join2 (fun y10 hy => ?_) (fun y11 hy => ?_)))
                  · exact Le.tow 3 0 rfl (.cons rfl (.refl _) (.cons rfl (.refl _) (.cons rfl (.refl _) (.cons rfl (.refl _) (.nil))))) (.refl _) rfl
                  · have h := (by rw [hy] at hk; exact hk)
                    refine st_ret (t := t_schema_Is) h ?_
                    exact .refl _
                  · have h := (by rw [hy] at hk; exact hk)
                    refine st_ret (t := t_schema_Is) h ?_
                    exact .refl _
  · intro schema_Is' schema_Is_L1' ih_schema_Is ih_schema_Is_L1 p0 o1 x4 x7 v93 o9 h
    refine TL.round (bwp_sound mixed tbOk (lv := schema_Is_lv) _ _ _ ?_)
    refine st_test h (fun hb h => ?_) (fun hb h => ?_)
    · refine st_idx (l := x7) (c := cStr) (c' := cStr) h (fun _ => rfl) (fun _ => rfl) (by decide) (fun x12 hi h => ?_)
      refine st_call [iV p0.K, sV x12] t_kind_Field h (fun x13 hy => (kind_Field_ok p0.K x12 x13 hy)) (fun x13 hy h => ?_)
      refine st_bind h (fun o14 ho hk => ?_)
      refine Exists.intro (JP1 _ _ o14 .normal (schema_Is_J4_0 p0 o1 x4 x7 v93)) (And.intro ?_ (join1 ?_))
      · have h := ho
        refine st_idx (l := p0.L) (c := c_api_Val) (c' := l_api_Val) h c_api_Val_eq (fun _ => rfl) (by decide) (fun x15 hi h => ?_)
        refine st_test h (fun hb h => ?_) (fun hb h => ?_)
        · refine JP1.a h ?_
          exact Le.tow 3 0 rfl (.cons rfl (.refl _) (.cons rfl (.refl _) (.cons rfl (.refl _) (.cons rfl (.refl _) (.cons rfl (.refl _) (.nil)))))) (.refl _) rfl
        · refine st_idx (l := p0.L) (c := c_api_Val) (c' := l_api_Val) h c_api_Val_eq (fun _ => rfl) (by decide) (fun x16 hi h => ?_)
          refine st_call [.agg [iV x16.K, sV x16.S, iV x16.N, bV x16.B, .sl false (x16.L.map c_api_Val)]] t_schema_Is h (fun x17 hy => (ih_schema_Is x16 x17 hy)) (fun x17 hy h => ?_)
          refine JP1.a h ?_
          exact Le.tow 3 0 rfl (.cons rfl (.refl _) (.cons rfl (.refl _) (.cons rfl (.refl _) (.cons rfl (.refl _) (.cons rfl (.refl _) (.nil)))))) (.refl _) rfl
      · have h := hk
        refine st_test h (fun hb h => ?_) (fun hb h => ?_)
        · exact JP2.b h (Le.tow 3 0 rfl (.cons rfl (.refl _) (.nil)) (.refl _) rfl)
        · refine TL.le (τ := schema_Is_L1_st p0 o1 x4 x7 (wr (v93 + 1))) ?_ ((ih_schema_Is_L1 p0 o1 x4 x7 (wr (v93 + 1)) _ h))
          exact Le.tow 3 0 rfl (.cons rfl (.refl _) (.cons rfl (.refl _) (.cons rfl (.refl _) (.cons rfl (.refl _) (.nil))))) (.refl _) rfl
    · exact JP2.a h (Le.tow 3 0 rfl (.nil) (.refl _) rfl)
  · intro slices_IndexFunc_api_Val_api_Val_schema_Is_1' ih_slices_IndexFunc_api_Val_api_Val_schema_Is_1 p0 h0_0 o h
    refine CallOK.ofB mixed tbOk slices_ContainsFunc_api_Val_api_Val_schema_Is_1_lv Try.func34 rfl (by kernel_rfl) (Nat.le_of_ble_eq_true rfl) rfl rfl rfl ?_
    refine st_callc _ _ h (fun x1 hy => ((ih_slices_IndexFunc_api_Val_api_Val_schema_Is_1 p0 h0_0 x1 hy).fr [0] [] rfl rfl rfl)) (fun x1 hy h => ?_)
    refine Exists.intro _ (And.intro (Le.refl _ _ _) ?_)
    exact st_retc (t := t_slices_ContainsFunc_api_Val_api_Val_schema_Is_1) (ss := fun o => ⟨[[.p (iV h0_0)]], []⟩) h ⟨[], rfl, .refl _, .refl _, rfl⟩
  · intro slices_IndexFunc_api_Val_api_Val_schema_Is_1_L1' ih_slices_IndexFunc_api_Val_api_Val_schema_Is_1_L1 p0 h0_0 o h
    refine CallOK.ofB mixed tbOk slices_IndexFunc_api_Val_api_Val_schema_Is_1_lv Try.func49 rfl (by kernel_rfl) (Nat.le_of_ble_eq_true rfl) rfl rfl rfl ?_
    refine view (lenMap _ _) rfl ?_
    refine st_bind h (fun o1 ho hk => ?_)
    refine Exists.intro (JP2 _ _ o1 (.exit 0) (slices_IndexFunc_api_Val_api_Val_schema_Is_1_L1_x0 p0 h0_0) .ret (slices_IndexFunc_api_Val_api_Val_schema_Is_1_L1_x1 p0 h0_0)) (And.intro (T_le (τ := slices_IndexFunc_api_Val_api_Val_schema_Is_1_L1_st p0 h0_0 0) ?_ (TL.loop (ih_slices_IndexFunc_api_Val_api_Val_schema_Is_1_L1 p0 h0_0 0 o1 ho))) (join2 (fun y2 hy => ?_) (fun y3 hy => ?_)))
    · exact Le.tow 1 0 rfl (.cons rfl (.refl _) (.cons rfl (.refl _) (.cons rfl (.refl _) (.cons rfl (.refl _) (.nil))))) (.refl _) rfl
    · have h := (by rw [hy] at hk; exact hk)
      refine Exists.intro _ (And.intro (Le.refl _ _ _) ?_)
      exact st_retc (t := t_slices_IndexFunc_api_Val_api_Val_schema_Is_1) (ss := fun o => ⟨[[.p (iV h0_0)]], []⟩) h ⟨[], rfl, .refl _, .refl _, rfl⟩
    · have h := (by rw [hy] at hk; exact hk)
      refine Exists.intro _ (And.intro (Le.refl _ _ _) ?_)
      exact st_retc (t := t_slices_IndexFunc_api_Val_api_Val_schema_Is_1) (ss := fun o => ⟨[[.p (iV h0_0)]], []⟩) h ⟨[], rfl, .refl _, .refl _, rfl⟩
  · intro slices_IndexFunc_api_Val_api_Val_schema_Is_1_L1' schema_Is_1' ih_slices_IndexFunc_api_Val_api_Val_schema_Is_1_L1 ih_schema_Is_1 p0 h0_0 v8 o1 h
    refine TL.round (bwp_sound mixed tbOk (lv := slices_IndexFunc_api_Val_api_Val_schema_Is_1_lv) _ _ _ ?_)
    refine st_test h (fun hb h => ?_) (fun hb h => ?_)
    · refine st_idx (l := p0) (c := c_api_Val) (c' := l_api_Val) h c_api_Val_eq (fun _ => rfl) (by decide) (fun x4 hi h => ?_)
      refine st_callc _ _ h (fun x5 hy => ((ih_schema_Is_1 x4 h0_0 x5 hy).fr [0] [] rfl rfl rfl)) (fun x5 hy h => ?_)
      refine st_test h (fun hb h => ?_) (fun hb h => ?_)
      · exact JP2.b h (Le.tow 1 0 rfl (.cons rfl (.refl _) (.nil)) (.refl _) rfl)
      · refine TL.le (τ := slices_IndexFunc_api_Val_api_Val_schema_Is_1_L1_st p0 h0_0 (wr (v8 + 1))) ?_ ((ih_slices_IndexFunc_api_Val_api_Val_schema_Is_1_L1 p0 h0_0 (wr (v8 + 1)) _ h))
        exact Le.tow 1 0 rfl (.cons rfl (.refl _) (.cons rfl (.refl _) (.cons rfl (.refl _) (.cons rfl (.refl _) (.nil))))) (.refl _) rfl
    · exact JP2.a h (Le.tow 1 0 rfl (.nil) (.refl _) rfl)
  · intro schema_Is' ih_schema_Is p0 h0_0 o h
    refine CallOK.ofB mixed tbOk schema_Is_1_lv Try.func35 rfl (by kernel_rfl) (Nat.le_of_ble_eq_true rfl) rfl rfl rfl ?_
    refine st_bind h (fun o1 ho hk => ?_)
    refine Exists.intro (JP1 _ _ o1 .normal (schema_Is_1_J0_0 p0 h0_0)) (And.intro ?_ (join1 ?_))
    · have h := ho
      refine st_test h (fun hb h => ?_) (fun hb h => ?_)
      · refine JP1.a h ?_
        exact Le.tow 2 0 rfl (.cons rfl (.refl _) (.nil)) (.refl _) rfl
      · refine st_call [.agg [iV p0.K, sV p0.S, iV p0.N, bV p0.B, .sl false (p0.L.map c_api_Val)]] t_schema_Is h (fun x2 hy => (ih_schema_Is p0 x2 hy)) (fun x2 hy h => ?_)
        refine JP1.a h ?_
        exact Le.tow 2 0 rfl (.cons rfl (.refl _) (.nil)) (.refl _) rfl
    · have h := hk
      refine Exists.intro _ (And.intro (Le.refl _ _ _) ?_)
      exact st_retc (t := t_schema_Is_1) (ss := fun o => ⟨[[.p (iV h0_0)]], []⟩) h ⟨[], rfl, .refl _, .refl _, rfl⟩
theorem schema_Is_ok : ∀ (p0 : api_Val) (o : Bool), schema_Is p0 = some o → PCall Try.prog 17 [.agg [iV p0.K, sV p0.S, iV p0.N, bV p0.B, .sl false (p0.L.map c_api_Val)]] (t_schema_Is o) := fun p0 o h => schema_Is_grp.1 p0 o h
mutual
noncomputable def schema_Weight (p0 : api_Val) : Option (Int) :=
  (schema_Weight_L1 p0 1 0) >>= fun o1 =>
  some o1
  partial_fixpoint
noncomputable def schema_Weight_L1 (p0 : api_Val) (v3 : Int) (v9 : Int) : Option (Int) :=
  if (decide (v9 < (p0.L.length : Int))) then
    idx p0.L v9 >>= fun x2 =>
    schema_Weight x2 >>= fun x3 =>
    schema_Weight_L1 p0 (wr (v3 + x3)) (wr (v9 + 1))
  else
    some v3
  partial_fixpoint
end
set_option maxRecDepth 100000 in
set_option maxHeartbeats 4000000 in
theorem schema_Weight_grp : (∀ (p0 : api_Val) (o : Int), schema_Weight p0 = some o → PCall Try.prog 18 [.agg [iV p0.K, sV p0.S, iV p0.N, bV p0.B, .sl false (p0.L.map c_api_Val)]] (t_schema_Weight o)) ∧ (∀ (p0 : api_Val) (v3 : Int) (v9 : Int) (o1 : Int), schema_Weight_L1 p0 v3 v9 = some o1 → TL (0, 0) Try.prog 19 schema_Weight_L1_c (JP1 (0, 0) 19 o1 (.exit 0) (schema_Weight_L1_x0 p0)) (schema_Weight_L1_st p0 v3 v9)) := by
  refine schema_Weight.mutual_partial_correctness _ _ ?_ ?_
  · intro schema_Weight_L1' ih_schema_Weight_L1 p0 o h
    refine PCall.ofB mixed tbOk schema_Weight_lv Try.func18 rfl (by kernel_rfl) (Nat.le_of_ble_eq_true rfl) ?_
    refine view (lenMap _ _) rfl ?_
    refine st_bind h (fun o1 ho hk => ?_)
    refine Exists.intro (JP1 _ _ o1 (.exit 0) (schema_Weight_L1_x0 p0)) (And.intro (T_le (τ := schema_Weight_L1_st p0 1 0) ?_ (TL.loop (ih_schema_Weight_L1 p0 1 0 o1 ho))) (join1 ?_))
    · exact Le.tow 1 0 rfl (.cons rfl (.refl _) (.cons rfl (.refl _) (.cons rfl (.refl _) (.cons rfl (.refl _) (.nil))))) (.refl _) rfl
    have h := hk
    refine st_ret (t := t_schema_Weight) h ?_
    exact .refl _
  · intro schema_Weight' schema_Weight_L1' ih_schema_Weight ih_schema_Weight_L1 p0 v3 v9 o1 h
    refine TL.round (bwp_sound mixed tbOk (lv := schema_Weight_lv) _ _ _ ?_)
    refine st_test h (fun hb h => ?_) (fun hb h => ?_)
    · refine st_idx (l := p0.L) (c := c_api_Val) (c' := l_api_Val) h c_api_Val_eq (fun _ => rfl) (by decide) (fun x2 hi h => ?_)
      refine st_call [.agg [iV x2.K, sV x2.S, iV x2.N, bV x2.B, .sl false (x2.L.map c_api_Val)]] t_schema_Weight h (fun x3 hy => (ih_schema_Weight x2 x3 hy)) (fun x3 hy h => ?_)
      refine TL.le (τ := schema_Weight_L1_st p0 (wr (v3 + x3)) (wr (v9 + 1))) ?_ ((ih_schema_Weight_L1 p0 (wr (v3 + x3)) (wr (v9 + 1)) _ h))
      exact Le.tow 1 0 rfl (.cons rfl (.refl _) (.cons rfl (.refl _) (.cons rfl (.refl _) (.cons rfl (.refl _) (.nil))))) (.refl _) rfl
    · exact JP1.a h (Le.tow 1 0 rfl (.cons rfl (.refl _) (.nil)) (.refl _) rfl)
theorem schema_Weight_ok : ∀ (p0 : api_Val) (o : Int), schema_Weight p0 = some o → PCall Try.prog 18 [.agg [iV p0.K, sV p0.S, iV p0.N, bV p0.B, .sl false (p0.L.map c_api_Val)]] (t_schema_Weight o) := fun p0 o h => schema_Weight_grp.1 p0 o h
noncomputable def nunciolaw17_awake : Option (Bool) :=
  alert_Val (api_Group.mk [] false [] [] []) >>= fun x1 =>
  ( if (x1.2 == 0) then
      schema_Is x1.1 >>= fun x3 =>
      if x3 then
        if (x1.1.K == 6) then
          schema_Weight x1.1 >>= fun x4 =>
          some (x4 == 6)
        else
          some false
      else
        some false
    else
      some false : Option (Bool)) >>= fun o2 =>
  some o2
set_option maxRecDepth 100000 in
set_option maxHeartbeats 4000000 in
theorem nunciolaw17_awake_ok : ∀ (o : Bool), nunciolaw17_awake  = some o → PCall Try.prog 7 [] (t_nunciolaw17_awake o) := by
  intro o h
  unfold nunciolaw17_awake at h
  refine PCall.ofB mixed tbOk nunciolaw17_awake_lv Try.func7 rfl (by kernel_rfl) (Nat.le_of_ble_eq_true rfl) ?_
  refine st_call [.agg [sV [], bV false, .sl true [], sV [], .sl true []]] t_alert_Val h (fun x1 hy => (alert_Val_ok (api_Group.mk [] false [] [] []) x1 hy).weak (.cons (.agg' (.cons (.refl _) (.cons (.refl _) (.cons (.not) (.cons (.refl _) (.cons (.not) (.nil))))))) (.nil))) (fun x1 hy h => ?_)
  refine st_bind h (fun o2 ho hk => ?_)
  refine Exists.intro (JP1 _ _ o2 .normal (nunciolaw17_awake_J0_0 x1)) (And.intro ?_ (join1 ?_))
  · have h := ho
    refine st_test h (fun hb h => ?_) (fun hb h => ?_)
    · refine st_call [.agg [iV x1.1.K, sV x1.1.S, iV x1.1.N, bV x1.1.B, .sl false (x1.1.L.map c_api_Val)]] t_schema_Is h (fun x3 hy => (schema_Is_ok x1.1 x3 hy)) (fun x3 hy h => ?_)
      refine st_test h (fun hb h => ?_) (fun hb h => ?_)
      · refine st_test h (fun hb h => ?_) (fun hb h => ?_)
        · refine st_call [.agg [iV x1.1.K, sV x1.1.S, iV x1.1.N, bV x1.1.B, .sl false (x1.1.L.map c_api_Val)]] t_schema_Weight h (fun x4 hy => (schema_Weight_ok x1.1 x4 hy)) (fun x4 hy h => ?_)
          refine JP1.a h ?_
          exact Le.tow 1 0 rfl (.cons rfl (.refl _) (.nil)) (.refl _) rfl
        · refine JP1.a h ?_
          exact Le.tow 1 0 rfl (.cons rfl (.refl _) (.nil)) (.refl _) rfl
      · refine bF ?_
        refine JP1.a h ?_
        exact Le.tow 1 0 rfl (.cons rfl (.refl _) (.nil)) (.refl _) rfl
    · refine bF ?_
      refine bF ?_
      refine JP1.a h ?_
      exact Le.tow 1 0 rfl (.cons rfl (.refl _) (.nil)) (.refl _) rfl
  · have h := hk
    refine st_ret (t := t_nunciolaw17_awake) h ?_
    exact .refl _
end Go.Proofs.Ytebkhehjfkmdiaa
end
