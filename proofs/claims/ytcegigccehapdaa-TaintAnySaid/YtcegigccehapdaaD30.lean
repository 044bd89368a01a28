/- Plain functions, and that the program computes them (printed by a program of my own). -/
import Derived.Test.YtcegigccehapdaaDcI
import Derived.Test.YtcegigccehapdaaD16
set_option linter.unusedVariables false
set_option linter.unusedSimpArgs false
namespace Go.Proofs.Ytcegigccehapdaa
open Go.RowKit

structure R30_T where
  V : api_Val
  Secret : Bool
noncomputable def c_R30_T (x : R30_T) : List V := [iV x.V.K, sV x.V.S, iV x.V.N, bV x.V.B, .sl false (x.V.L.map c_api_Val), bV x.Secret]
structure taint_T where
  V : api_Val
  Secret : Bool
noncomputable def c_taint_T (x : taint_T) : List V := [iV x.V.K, sV x.V.S, iV x.V.N, bV x.V.B, .sl false (x.V.L.map c_api_Val), bV x.Secret]
structure taint_link where
  name_ : (List UInt8)
  t_ : taint_T
  ahead_ : (Option taint_link)
mutual
noncomputable def c_taint_link : taint_link → List V
  | ⟨x0, x1, x2⟩ => [sV x0, iV x1.V.K, sV x1.V.S, iV x1.V.N, bV x1.V.B, .sl false (x1.V.L.map c_api_Val), bV x1.Secret, co_taint_link x2]
noncomputable def co_taint_link : Option taint_link → V
  | none => .opt false []
  | some x => .opt true (c_taint_link x)
end
theorem co_taint_link_eq : ∀ z : Option taint_link, co_taint_link z = oV c_taint_link z
  | none => rfl
  | some x => by rw [co_taint_link]; rfl
noncomputable def l_taint_link (x : taint_link) : List V := [sV x.name_, iV x.t_.V.K, sV x.t_.V.S, iV x.t_.V.N, bV x.t_.V.B, .sl false (x.t_.V.L.map c_api_Val), bV x.t_.Secret, oV c_taint_link x.ahead_]
theorem c_taint_link_eq (x : taint_link) : c_taint_link x = l_taint_link x := by cases x; simp [c_taint_link, l_taint_link, co_taint_link_eq]
structure taint_Env where
  last_ : (Option taint_link)
  many_ : Int
noncomputable def c_taint_Env (x : taint_Env) : List V := [oV c_taint_link x.last_, iV x.many_]
noncomputable def t_R30_Elems (y : (List R30_T)) : D := .p (.sl false (y.map c_R30_T))
noncomputable def R30_Elems_lv : List (Nat × List Nat) := [(0, [1]), (1, [1, 3]), (2, [1, 3, 5]), (3, [1, 3, 22]), (4, [2]), (5, [1, 3, 6]), (6, [1, 3, 6, 29]), (7, [1, 3, 6]), (8, [1, 3, 6]), (9, [2]), (1000006, [1, 3, 6]), (3000003, [])]
noncomputable def R30_Elems_J0_0 (p0 : R30_T) (o2 : Bool) : St := ⟨[(1, .ptr 0 0), (3, .p (.sl true [])), (22, .p (bV o2))], ⟨[[.p (iV p0.V.K), .p (sV p0.V.S), .p (iV p0.V.N), .p (bV p0.V.B), .p (.sl false (p0.V.L.map c_api_Val)), .p (bV p0.Secret)]], []⟩⟩
noncomputable def R30_Elems_L1_st (p0 : R30_T) (v3 : (List R30_T)) (v6 : Int) : St := ⟨[(1, .ptr 0 0), (3, .own 0 53 6 (v3.map c_R30_T)), (6, .p (iV v6))], ⟨[[.p (iV p0.V.K), .p (sV p0.V.S), .p (iV p0.V.N), .p (bV p0.V.B), .p (.sl false (p0.V.L.map c_api_Val)), .p (bV p0.Secret)]], [(v3.map c_R30_T).length]⟩⟩
noncomputable def R30_Elems_L1_x0 (p0 : R30_T) (o4 : (List R30_T)) : St := ⟨[(3, .own 0 53 6 (o4.map c_R30_T))], ⟨[[.p (iV p0.V.K), .p (sV p0.V.S), .p (iV p0.V.N), .p (bV p0.V.B), .p (.sl false (p0.V.L.map c_api_Val)), .p (bV p0.Secret)]], [(o4.map c_R30_T).length]⟩⟩
noncomputable def R30_Elems_L1_c : Code := ((loopsOf (Try.f37.body.getD .skip)).getD 0 .skip)
noncomputable def t_R30_Field (y : R30_T × Bool) : D := .tup [.p (.agg [iV y.1.V.K, sV y.1.V.S, iV y.1.V.N, bV y.1.V.B, .sl false (y.1.V.L.map c_api_Val), bV y.1.Secret]), .p (bV y.2)]
noncomputable def R30_Field_lv : List (Nat × List Nat) := [(0, [1, 2, 4]), (1, [2, 4, 6, 7]), (2, [2, 4, 6, 16]), (3, [4, 5]), (4, [4, 5])]
noncomputable def t_R30_Same (y : Bool) : D := .p (bV y)
noncomputable def R30_Same_lv : List (Nat × List Nat) := [(0, [2, 3]), (1, [4]), (3000001, [])]
noncomputable def R30_Same_J0_0 (p0 : R30_T) (p1 : R30_T) (o1 : Bool) : St := ⟨[(4, .p (bV o1))], ⟨[[.p (iV p0.V.K), .p (sV p0.V.S), .p (iV p0.V.N), .p (bV p0.V.B), .p (.sl false (p0.V.L.map c_api_Val)), .p (bV p0.Secret)], [.p (iV p1.V.K), .p (sV p1.V.S), .p (iV p1.V.N), .p (bV p1.V.B), .p (.sl false (p1.V.L.map c_api_Val)), .p (bV p1.Secret)]], []⟩⟩
noncomputable def t_nunciolaw30_TaintAny (y : Bool) : D := .p (bV y)
noncomputable def nunciolaw30_TaintAny_lv : List (Nat × List Nat) := [(0, [0]), (1, [0, 3]), (2, [0, 3, 4]), (3, [0, 3, 4, 5]), (4, [0, 3, 4, 5, 14]), (5, [0, 3, 4, 5]), (6, [0, 3, 4, 5]), (7, [0, 3, 4, 5]), (8, [2]), (1000004, [0, 3, 4, 5]), (3000004, []), (3000008, [])]
noncomputable def nunciolaw30_TaintAny_J0_0 (p0 : (List Bool)) (v3 : (List taint_T)) (v4 : Bool) (v5 : Int) (o2 : Bool) : St := ⟨[(0, .p (.sl false (p0.map cBool))), (3, .own 0 29 6 (v3.map c_taint_T)), (4, .p (bV v4)), (5, .p (iV v5)), (14, .p (bV o2))], ⟨[], [(v3.map c_taint_T).length]⟩⟩
noncomputable def nunciolaw30_TaintAny_L1_st (p0 : (List Bool)) (v3 : (List taint_T)) (v4 : Bool) (v5 : Int) : St := ⟨[(0, .p (.sl false (p0.map cBool))), (3, .own 0 29 6 (v3.map c_taint_T)), (4, .p (bV v4)), (5, .p (iV v5))], ⟨[], [(v3.map c_taint_T).length]⟩⟩
noncomputable def nunciolaw30_TaintAny_L1_x0 (p0 : (List Bool)) (o1 : (List taint_T) × Bool) : St := ⟨[(3, .own 0 29 6 (o1.1.map c_taint_T)), (4, .p (bV o1.2))], ⟨[], [(o1.1.map c_taint_T).length]⟩⟩
noncomputable def nunciolaw30_TaintAny_L1_c : Code := ((loopsOf (Try.f3.body.getD .skip)).getD 0 .skip)
noncomputable def nunciolaw30_TaintAny_J1_0 (o1 : (List taint_T) × Bool) (o6 : Bool) : St := ⟨[(2, .p (bV o6))], ⟨[], [(o1.1.map c_taint_T).length]⟩⟩
noncomputable def t_nunciolaw30_TaintParts (y : Bool) : D := .p (bV y)
noncomputable def nunciolaw30_TaintParts_lv : List (Nat × List Nat) := [(0, [1, 2]), (1, [1, 2]), (2, [1, 2, 5, 6]), (3, [2, 5, 6, 7, 8]), (4, [5, 6, 7, 8, 9, 10]), (5, [9, 10, 50]), (6, [4]), (7, [9, 10, 11]), (8, [9, 10, 11, 54]), (9, [9, 10, 11]), (10, [9, 10, 11, 67]), (11, [4]), (12, [4]), (1000008, [9, 10, 11]), (3000005, [])]
noncomputable def nunciolaw30_TaintParts_J0_0 (p0 : R30_T) (x1 : api_Val) (x3 : taint_T × Bool) (x4 : R30_T × Bool) (x6 : (List taint_T)) (x7 : (List R30_T)) (o8 : Bool) : St := ⟨[(9, .p (.sl false (x6.map c_taint_T))), (10, .p (.sl false (x7.map c_R30_T))), (50, .p (bV o8))], ⟨[[.p (iV x1.K), .p (sV x1.S), .p (iV x1.N), .p (bV x1.B), .p (.sl false (x1.L.map c_api_Val)), .p (bV p0.Secret)], [.p (iV x3.1.V.K), .p (sV x3.1.V.S), .p (iV x3.1.V.N), .p (bV x3.1.V.B), .p (.sl false (x3.1.V.L.map c_api_Val)), .p (bV x3.1.Secret)], [.p (iV x4.1.V.K), .p (sV x4.1.V.S), .p (iV x4.1.V.N), .p (bV x4.1.V.B), .p (.sl false (x4.1.V.L.map c_api_Val)), .p (bV x4.1.Secret)]], []⟩⟩
noncomputable def nunciolaw30_TaintParts_L1_st (p0 : R30_T) (x1 : api_Val) (x3 : taint_T × Bool) (x4 : R30_T × Bool) (x6 : (List taint_T)) (x7 : (List R30_T)) (v11 : Int) : St := ⟨[(9, .p (.sl false (x6.map c_taint_T))), (10, .p (.sl false (x7.map c_R30_T))), (11, .p (iV v11))], ⟨[[.p (iV x1.K), .p (sV x1.S), .p (iV x1.N), .p (bV x1.B), .p (.sl false (x1.L.map c_api_Val)), .p (bV p0.Secret)], [.p (iV x3.1.V.K), .p (sV x3.1.V.S), .p (iV x3.1.V.N), .p (bV x3.1.V.B), .p (.sl false (x3.1.V.L.map c_api_Val)), .p (bV x3.1.Secret)], [.p (iV x4.1.V.K), .p (sV x4.1.V.S), .p (iV x4.1.V.N), .p (bV x4.1.V.B), .p (.sl false (x4.1.V.L.map c_api_Val)), .p (bV x4.1.Secret)]], []⟩⟩
noncomputable def nunciolaw30_TaintParts_L1_x0 (p0 : R30_T) (x1 : api_Val) (x3 : taint_T × Bool) (x4 : R30_T × Bool) (x6 : (List taint_T)) (x7 : (List R30_T)) (y12 : Unit) : St := ⟨[], ⟨[[.p (iV x1.K), .p (sV x1.S), .p (iV x1.N), .p (bV x1.B), .p (.sl false (x1.L.map c_api_Val)), .p (bV p0.Secret)], [.p (iV x3.1.V.K), .p (sV x3.1.V.S), .p (iV x3.1.V.N), .p (bV x3.1.V.B), .p (.sl false (x3.1.V.L.map c_api_Val)), .p (bV x3.1.Secret)], [.p (iV x4.1.V.K), .p (sV x4.1.V.S), .p (iV x4.1.V.N), .p (bV x4.1.V.B), .p (.sl false (x4.1.V.L.map c_api_Val)), .p (bV x4.1.Secret)]], []⟩⟩
noncomputable def nunciolaw30_TaintParts_L1_x1 (p0 : R30_T) (x1 : api_Val) (x3 : taint_T × Bool) (x4 : R30_T × Bool) (x6 : (List taint_T)) (x7 : (List R30_T)) (y13 : Unit) : St := ⟨[(4, .p (bV false))], ⟨[[.p (iV x1.K), .p (sV x1.S), .p (iV x1.N), .p (bV x1.B), .p (.sl false (x1.L.map c_api_Val)), .p (bV p0.Secret)], [.p (iV x3.1.V.K), .p (sV x3.1.V.S), .p (iV x3.1.V.N), .p (bV x3.1.V.B), .p (.sl false (x3.1.V.L.map c_api_Val)), .p (bV x3.1.Secret)], [.p (iV x4.1.V.K), .p (sV x4.1.V.S), .p (iV x4.1.V.N), .p (bV x4.1.V.B), .p (.sl false (x4.1.V.L.map c_api_Val)), .p (bV x4.1.Secret)]], []⟩⟩
noncomputable def nunciolaw30_TaintParts_L1_c : Code := ((loopsOf (Try.f8.body.getD .skip)).getD 0 .skip)
noncomputable def t_nunciolaw30_awake (y : Bool) : D := .p (bV y)
noncomputable def nunciolaw30_awake_lv : List (Nat × List Nat) := [(0, []), (1, [1]), (2, [1, 2]), (3, [2, 3, 4]), (4, [2, 3, 4, 5, 6]), (5, [0]), (3000005, [])]
noncomputable def nunciolaw30_awake_J0_0 (x1 : taint_Env) (x2 : taint_Env) (x3 : taint_T × Bool) (x4 : taint_T × Bool) (o5 : Bool) : St := ⟨[(0, .p (bV o5))], ⟨[[.p (oV c_taint_link x1.last_), .p (iV x1.many_)], [.p (oV c_taint_link x2.last_), .p (iV x2.many_)], [.p (iV x3.1.V.K), .p (sV x3.1.V.S), .p (iV x3.1.V.N), .p (bV x3.1.V.B), .p (.sl false (x3.1.V.L.map c_api_Val)), .p (bV x3.1.Secret)], [.p (iV x4.1.V.K), .p (sV x4.1.V.S), .p (iV x4.1.V.N), .p (bV x4.1.V.B), .p (.sl false (x4.1.V.L.map c_api_Val)), .p (bV x4.1.Secret)]], []⟩⟩
noncomputable def t_nunciolaw30_its (y : R30_T) : D := .p (.agg [iV y.V.K, sV y.V.S, iV y.V.N, bV y.V.B, .sl false (y.V.L.map c_api_Val), bV y.Secret])
noncomputable def nunciolaw30_its_lv : List (Nat × List Nat) := [(0, [1, 2]), (1, [2])]
noncomputable def t_nunciolaw30_mine (y : taint_T) : D := .p (.agg [iV y.V.K, sV y.V.S, iV y.V.N, bV y.V.B, .sl false (y.V.L.map c_api_Val), bV y.Secret])
noncomputable def nunciolaw30_mine_lv : List (Nat × List Nat) := [(0, [1, 2]), (1, [2])]
noncomputable def t_slices_ContainsFunc_taint_T_taint_T_taint_Any_1 (y : Bool) : D := .p (bV y)
noncomputable def slices_ContainsFunc_taint_T_taint_T_taint_Any_1_lv : List (Nat × List Nat) := [(0, [0, 1]), (1, [4])]
noncomputable def t_slices_IndexFunc_taint_T_taint_T_taint_Any_1 (y : Int) : D := .p (iV y)
noncomputable def slices_IndexFunc_taint_T_taint_T_taint_Any_1_lv : List (Nat × List Nat) := [(0, [0, 1]), (1, [0, 1, 7, 8]), (2, [0, 1, 7, 8, 9]), (3, [0, 1, 5, 7, 8]), (4, [0, 1, 5, 7, 8, 16]), (5, [4]), (6, [0, 1, 7, 8]), (7, [4]), (1000002, [0, 1, 7, 8])]
noncomputable def slices_IndexFunc_taint_T_taint_T_taint_Any_1_L1_st (p0 : (List taint_T)) (v8 : Int) : St := ⟨[(0, .p (.sl false (p0.map c_taint_T))), (1, .fn (.func 55) [] []), (7, .p (iV (p0.length : Int))), (8, .p (iV v8))], ⟨[], []⟩⟩
noncomputable def slices_IndexFunc_taint_T_taint_T_taint_Any_1_L1_x0 (p0 : (List taint_T)) (y2 : Unit) : St := ⟨[], ⟨[], []⟩⟩
noncomputable def slices_IndexFunc_taint_T_taint_T_taint_Any_1_L1_x1 (p0 : (List taint_T)) (y3 : Int) : St := ⟨[(4, .p (iV y3))], ⟨[], []⟩⟩
noncomputable def slices_IndexFunc_taint_T_taint_T_taint_Any_1_L1_c : Code := ((loopsOf (Try.f91.body.getD .skip)).getD 0 .skip)
noncomputable def t_taint_Any (y : Bool) : D := .p (bV y)
noncomputable def taint_Any_lv : List (Nat × List Nat) := [(0, [0]), (1, [2])]
noncomputable def t_taint_Any_1 (y : Bool) : D := .p (bV y)
noncomputable def taint_Any_1_lv : List (Nat × List Nat) := [(0, [1]), (1, [2])]
noncomputable def t_taint_Elems (y : (List taint_T)) : D := .p (.sl false (y.map c_taint_T))
noncomputable def taint_Elems_lv : List (Nat × List Nat) := [(0, [1]), (1, [1, 4]), (2, [1, 22]), (3, [2]), (4, [1, 5]), (5, [1, 5, 25, 26, 27]), (6, [1, 5, 25, 26, 27, 28]), (7, [1, 5, 7, 25, 26, 27]), (8, [1, 5, 25, 26, 27]), (9, [1, 5, 25, 26, 27]), (10, [2]), (1000006, [1, 5, 25, 26, 27]), (3000002, [])]
noncomputable def taint_Elems_J0_0 (p0 : taint_T) (o2 : Bool) : St := ⟨[(1, .ptr 0 0), (22, .p (bV o2))], ⟨[[.p (iV p0.V.K), .p (sV p0.V.S), .p (iV p0.V.N), .p (bV p0.V.B), .p (.sl false (p0.V.L.map c_api_Val)), .p (bV p0.Secret)]], []⟩⟩
noncomputable def taint_Elems_L1_st (p0 : taint_T) (v5 : (List taint_T)) (v27 : Int) : St := ⟨[(1, .ptr 0 0), (5, .own 0 29 6 (v5.map c_taint_T)), (25, .p (.sl false (p0.V.L.map c_api_Val))), (26, .p (iV (p0.V.L.length : Int))), (27, .p (iV v27))], ⟨[[.p (iV p0.V.K), .p (sV p0.V.S), .p (iV p0.V.N), .p (bV p0.V.B), .p (.sl false (p0.V.L.map c_api_Val)), .p (bV p0.Secret)]], [(v5.map c_taint_T).length]⟩⟩
noncomputable def taint_Elems_L1_x0 (p0 : taint_T) (o4 : (List taint_T)) : St := ⟨[(5, .own 0 29 6 (o4.map c_taint_T))], ⟨[[.p (iV p0.V.K), .p (sV p0.V.S), .p (iV p0.V.N), .p (bV p0.V.B), .p (.sl false (p0.V.L.map c_api_Val)), .p (bV p0.Secret)]], [(o4.map c_taint_T).length]⟩⟩
noncomputable def taint_Elems_L1_c : Code := ((loopsOf (Try.f36.body.getD .skip)).getD 0 .skip)
noncomputable def t_taint_Env_Len (y : Int) : D := .p (iV y)
noncomputable def taint_Env_Len_lv : List (Nat × List Nat) := [(0, [1]), (1, [2])]
noncomputable def t_taint_Env_Look (y : taint_T × Bool) : D := .tup [.p (.agg [iV y.1.V.K, sV y.1.V.S, iV y.1.V.N, bV y.1.V.B, .sl false (y.1.V.L.map c_api_Val), bV y.1.Secret]), .p (bV y.2)]
noncomputable def taint_Env_Look_lv : List (Nat × List Nat) := [(0, [2, 3, 4, 5, 6]), (1, [3, 4, 5, 6, 8]), (2, [3, 4, 5, 6, 8]), (3, [3, 4, 5, 6, 8, 15]), (4, [4, 5]), (5, [4, 5]), (4000002, [3, 4, 5, 6, 8])]
noncomputable def taint_Env_Look_L1_st (p0 : taint_Env) (p1 : (List UInt8)) (x1 : taint_Env) : St := ⟨[(3, .ptr 1 0), (4, .ptr 2 0), (5, .ptr 3 0), (8, .fn (.func 97) [] [.p (.ep [oV c_taint_link x1.last_, iV x1.many_])])], ⟨[[.p (oV c_taint_link p0.last_), .p (iV p0.many_)], [.p (sV p1)], [.p (iV 0), .p (sV []), .p (iV 0), .p (bV false), .p (.sl true []), .p (bV false)], [.p (bV false)]], []⟩⟩
noncomputable def taint_Env_Look_L1_x0 (p0 : taint_Env) (p1 : (List UInt8)) (x1 : taint_Env) (y7 : Unit) : St := ⟨[(3, .ptr 1 0), (4, .ptr 2 0), (5, .ptr 3 0), (8, .fn (.func 97) [] [.p (.ep [oV c_taint_link x1.last_, iV x1.many_])])], ⟨[[.p (oV c_taint_link p0.last_), .p (iV p0.many_)], [.p (sV p1)], [.p (iV 0), .p (sV []), .p (iV 0), .p (bV false), .p (.sl true []), .p (bV false)], [.p (bV false)]], []⟩⟩
noncomputable def taint_Env_Look_L1_x1 (p0 : taint_Env) (p1 : (List UInt8)) (x1 : taint_Env) (y8 : Int × (List UInt8) × Int × Bool × (List api_Val) × Bool) : St := ⟨[(4, .ptr 2 0), (5, .ptr 3 0)], ⟨[[.p (oV c_taint_link p0.last_), .p (iV p0.many_)], [.p (sV p1)], [.p (iV y8.1), .p (sV y8.2.1), .p (iV y8.2.2.1), .p (bV y8.2.2.2.1), .p (.sl false (y8.2.2.2.2.1.map c_api_Val)), .p (bV y8.2.2.2.2.2)], [.p (bV true)]], []⟩⟩
noncomputable def taint_Env_Look_L1_c : Code := ((loopsOf (Try.f57.body.getD .skip)).getD 0 .skip)
noncomputable def t_taint_Env_With (y : taint_Env) : D := .p (.agg [oV c_taint_link y.last_, iV y.many_])
noncomputable def taint_Env_With_lv : List (Nat × List Nat) := [(0, [1, 3, 5, 6]), (1, [6])]
noncomputable def t_taint_Env_all (y : taint_Env) : D := .fn (.func 97) [] [.p (.ep [oV c_taint_link y.last_, iV y.many_])]
noncomputable def taint_Env_all_lv : List (Nat × List Nat) := [(0, [1]), (1, [2])]
noncomputable def e_taint_Env_all_1 (y : (Option taint_link)) : List V := [oV c_taint_link y]
noncomputable def taint_Env_all_1_lv : List (Nat × List Nat) := [(0, [0, 3]), (1, [0, 3, 7]), (2, [0, 3]), (3, [0, 3, 15]), (1000001, [0, 3])]
noncomputable def taint_Env_all_1_L1_st  (v3 : (Option taint_link)) (gxs gp : List (List V)) : St := ⟨[(0, .yld Try.prog 0 gxs), (3, .p (oV c_taint_link v3))], ⟨[], [gp.length]⟩⟩
noncomputable def taint_Env_all_1_L1_x0  (gxs : List (List V)) (gq1 : List (List V)) (oy : Unit) : St := ⟨[], ⟨[], [gq1.length]⟩⟩
noncomputable def taint_Env_all_1_L1_c : Code := ((loopsOf (Try.f97.body.getD .skip)).getD 0 .skip)
noncomputable def t_taint_Field (y : taint_T × Bool) : D := .tup [.p (.agg [iV y.1.V.K, sV y.1.V.S, iV y.1.V.N, bV y.1.V.B, .sl false (y.1.V.L.map c_api_Val), bV y.1.Secret]), .p (bV y.2)]
noncomputable def taint_Field_lv : List (Nat × List Nat) := [(0, [1, 2, 4]), (1, [2, 4, 6, 7]), (2, [4, 5]), (3000002, [])]
noncomputable def taint_Field_J0_0 (p0 : taint_T) (x1 : api_Val × Bool) (o2 : Bool) : St := ⟨[(4, .ptr 1 0), (5, .p (bV x1.2))], ⟨[[.p (iV p0.V.K), .p (sV p0.V.S), .p (iV p0.V.N), .p (bV p0.V.B), .p (.sl false (p0.V.L.map c_api_Val)), .p (bV p0.Secret)], [.p (iV x1.1.K), .p (sV x1.1.S), .p (iV x1.1.N), .p (bV x1.1.B), .p (.sl false (x1.1.L.map c_api_Val)), .p (bV o2)], [.p (iV x1.1.K), .p (sV x1.1.S), .p (iV x1.1.N), .p (bV x1.1.B), .p (.sl false (x1.1.L.map c_api_Val))]], []⟩⟩
noncomputable def t_taint_copied (y : api_Val) : D := .p (.agg [iV y.K, sV y.S, iV y.N, bV y.B, .sl false (y.L.map c_api_Val)])
noncomputable def taint_copied_lv : List (Nat × List Nat) := [(0, [1, 2]), (1, [1, 2, 3]), (2, [1, 2, 3]), (3, [1, 2, 9, 10, 11]), (4, [1, 2, 9, 10, 11, 12]), (5, [1, 2, 5, 9, 10, 11]), (6, [1, 2, 9, 10, 11]), (7, [1, 2, 9, 10, 11]), (8, [2]), (1000004, [1, 2, 9, 10, 11])]
noncomputable def taint_copied_L1_st (p0 : api_Val) (v11 : Int) (h0_4 : (List api_Val)) : St := ⟨[(1, .ptr 0 0), (2, .ptr 1 0), (9, .p (.sl false (p0.L.map c_api_Val))), (10, .p (iV (p0.L.length : Int))), (11, .p (iV v11))], ⟨[[.p (iV p0.K), .p (sV p0.S), .p (iV p0.N), .p (bV p0.B), .own 0 27 5 (h0_4.map c_api_Val)], [.p (iV 0), .p (sV []), .p (iV 0), .p (bV false), .p (.sl true [])]], [(h0_4.map c_api_Val).length]⟩⟩
noncomputable def taint_copied_L1_x0 (p0 : api_Val) (o1 : (List api_Val)) : St := ⟨[(1, .ptr 0 0), (2, .ptr 1 0)], ⟨[[.p (iV p0.K), .p (sV p0.S), .p (iV p0.N), .p (bV p0.B), .own 0 27 5 (o1.map c_api_Val)], [.p (iV 0), .p (sV []), .p (iV 0), .p (bV false), .p (.sl true [])]], [(o1.map c_api_Val).length]⟩⟩
noncomputable def taint_copied_L1_c : Code := ((loopsOf (Try.f70.body.getD .skip)).getD 0 .skip)
noncomputable def R30_Elems_L1 (p0 : R30_T) (v3 : (List R30_T)) (v6 : Int) : Option ((List R30_T)) :=
  if (decide (v6 < (p0.V.L.length : Int))) then
    idx p0.V.L v6 >>= fun x5 =>
    appL 72 v3 [(R30_T.mk x5 p0.Secret)] >>= fun x6 =>
    R30_Elems_L1 p0 x6 (wr (v6 + 1))
  else
    some v3
  partial_fixpoint
set_option maxRecDepth 100000 in
set_option maxHeartbeats 4000000 in
theorem R30_Elems_L1_grp : ∀ (p0 : R30_T), (∀ (v3 : (List R30_T)) (v6 : Int) (o4 : (List R30_T)), R30_Elems_L1 p0 v3 v6 = some o4 → TL (0, 0) Try.prog 45 R30_Elems_L1_c (JP1 (0, 0) 45 o4 (.exit 0) (R30_Elems_L1_x0 p0)) (R30_Elems_L1_st p0 v3 v6)) := by
  intro p0
  refine R30_Elems_L1.partial_correctness p0 _ ?_
  intro R30_Elems_L1' ih_R30_Elems_L1 v3 v6 o4 h
  refine TL.round (bwp_sound mixed tbOk (lv := R30_Elems_lv) _ _ _ ?_)
  refine view (lenMap _ _) rfl ?_
  refine st_test h (fun hb h => ?_) (fun hb h => ?_)
  · refine And.intro (by decide +kernel) (And.intro rfl ?_)
    refine st_idx (l := p0.V.L) (c := c_api_Val) (c' := l_api_Val) h c_api_Val_eq (fun _ => rfl) (by decide) (fun x5 hi h => ?_)
    refine st_appo (a := v3) (b := [(R30_T.mk x5 p0.Secret)]) (c := c_R30_T) h (.refl _) (fun _ => rfl) rfl (fun x6 hi h => ?_)
    refine TL.le (τ := R30_Elems_L1_st p0 x6 (wr (v6 + 1))) ?_ ((ih_R30_Elems_L1 x6 (wr (v6 + 1)) _ h))
    exact Le.tow 1 1 rfl (.cons rfl (.refl _) (.cons rfl (.refl _) (.cons rfl (.refl _) (.nil)))) (.refl _) rfl
  · exact JP1.a h (Le.tow 1 1 rfl (.cons rfl (.refl _) (.nil)) (.refl _) rfl)
theorem R30_Elems_L1_ok : ∀ (p0 : R30_T) (v3 : (List R30_T)) (v6 : Int) (o4 : (List R30_T)), R30_Elems_L1 p0 v3 v6 = some o4 → TL (0, 0) Try.prog 45 R30_Elems_L1_c (JP1 (0, 0) 45 o4 (.exit 0) (R30_Elems_L1_x0 p0)) (R30_Elems_L1_st p0 v3 v6) := fun p0 v3 v6 o4 h => (R30_Elems_L1_grp p0) v3 v6 o4 h
noncomputable def R30_Elems (p0 : R30_T) : Option ((List R30_T)) :=
  R15_Elem p0.V.K >>= fun x1 =>
  ( if (!x1.2) then
      some true
    else
      R16_Is p0.V >>= fun x3 =>
      some (!x3)) >>= fun o2 =>
  if o2 then
    some []
  else
    (R30_Elems_L1 p0 [] 0) >>= fun o4 =>
    some o4
set_option maxRecDepth 100000 in
set_option maxHeartbeats 4000000 in
theorem R30_Elems_ok : ∀ (p0 : R30_T) (o : (List R30_T)), R30_Elems p0 = some o → PCall Try.prog 37 [.agg [iV p0.V.K, sV p0.V.S, iV p0.V.N, bV p0.V.B, .sl false (p0.V.L.map c_api_Val), bV p0.Secret]] (t_R30_Elems o) := by
  intro p0 o h
  unfold R30_Elems at h
  refine PCall.ofB mixed tbOk R30_Elems_lv Try.func37 rfl (by kernel_rfl) (Nat.le_of_ble_eq_true rfl) ?_
  refine st_call [iV p0.V.K] t_R15_Elem h (fun x1 hy => (R15_Elem_ok p0.V.K x1 hy)) (fun x1 hy h => ?_)
  refine st_bind h (fun o2 ho hk => ?_)
  refine Exists.intro (JP1 _ _ o2 .normal (R30_Elems_J0_0 p0)) (And.intro ?_ (join1 ?_))
  · have h := ho
    refine st_test h (fun hb h => ?_) (fun hb h => ?_)
    · exact JP1.a h (Le.tow 1 0 rfl (.cons rfl (.refl _) (.cons rfl (.refl _) (.cons rfl (.refl _) (.nil)))) (.refl _) rfl)
    · refine st_call [.agg [iV p0.V.K, sV p0.V.S, iV p0.V.N, bV p0.V.B, .sl false (p0.V.L.map c_api_Val)]] t_R16_Is h (fun x3 hy => (R16_Is_ok p0.V x3 hy)) (fun x3 hy h => ?_)
      exact JP1.a h (Le.tow 1 0 rfl (.cons rfl (.refl _) (.cons rfl (.refl _) (.cons rfl (.refl _) (.nil)))) (.refl _) rfl)
  · have h := hk
    refine st_test h (fun hb h => ?_) (fun hb h => ?_)
    · refine st_ret (t := t_R30_Elems) h ?_
      exact .p (.not)
    · refine st_bind h (fun o4 ho hk => ?_)
      refine Exists.intro (JP1 _ _ o4 (.exit 0) (R30_Elems_L1_x0 p0)) (And.intro (T_le (τ := R30_Elems_L1_st p0 [] 0) ?_ (TL.loop (R30_Elems_L1_ok p0 [] 0 o4 ho))) (join1 ?_))
      · exact (Le.own 3 53 6 rfl sizeNil).trans (Le.tow 1 1 rfl (.cons rfl (.refl _) (.cons rfl (.refl _) (.cons rfl (.refl _) (.nil)))) (.refl _) rfl)
      have h := hk
      refine st_ret (t := t_R30_Elems) h ?_
      exact .refl _
noncomputable def R30_Field (p0 : R30_T) (p1 : (List UInt8)) : Option (R30_T × Bool) :=
  R16_Get p0.V p1 >>= fun x1 =>
  if (!x1.2) then
    some ((R30_T.mk (api_Val.mk 0 [] 0 false []) false), false)
  else
    some ((R30_T.mk x1.1 p0.Secret), true)
set_option maxRecDepth 100000 in
set_option maxHeartbeats 4000000 in
theorem R30_Field_ok : ∀ (p0 : R30_T) (p1 : (List UInt8)) (o : R30_T × Bool), R30_Field p0 p1 = some o → PCall Try.prog 35 [.agg [iV p0.V.K, sV p0.V.S, iV p0.V.N, bV p0.V.B, .sl false (p0.V.L.map c_api_Val), bV p0.Secret], sV p1] (t_R30_Field o) := by
  intro p0 p1 o h
  unfold R30_Field at h
  refine PCall.ofB mixed tbOk R30_Field_lv Try.func35 rfl (by kernel_rfl) (Nat.le_of_ble_eq_true rfl) ?_
  refine st_call [.agg [iV p0.V.K, sV p0.V.S, iV p0.V.N, bV p0.V.B, .sl false (p0.V.L.map c_api_Val)], sV p1] t_R16_Get h (fun x1 hy => (R16_Get_ok p0.V p1 x1 hy)) (fun x1 hy h => ?_)
  refine st_test h (fun hb h => ?_) (fun hb h => ?_)
  · refine st_ret (t := t_R30_Field) h ?_
    exact .tup (xs := [.agg [iV 0, sV [], iV 0, bV false, .sl true [], bV false], bV false]) (ys := [.agg [iV 0, sV [], iV 0, bV false, .sl false [], bV false], bV false]) (.cons (.agg' (.cons (.refl _) (.cons (.refl _) (.cons (.refl _) (.cons (.refl _) (.cons (.not) (.cons (.refl _) (.nil)))))))) (.cons (.refl _) (.nil)))
  · refine st_ret (t := t_R30_Field) h ?_
    exact .refl _
noncomputable def R30_Same (p0 : R30_T) (p1 : R30_T) : Option (Bool) :=
  ( if (p0.Secret == p1.Secret) then
      R16_Same p0.V p1.V >>= fun x2 =>
      some x2
    else
      some false) >>= fun o1 =>
  some o1
set_option maxRecDepth 100000 in
set_option maxHeartbeats 4000000 in
theorem R30_Same_ok : ∀ (p0 : R30_T) (p1 : R30_T) (o : Bool), R30_Same p0 p1 = some o → PCall Try.prog 38 [.agg [iV p0.V.K, sV p0.V.S, iV p0.V.N, bV p0.V.B, .sl false (p0.V.L.map c_api_Val), bV p0.Secret], .agg [iV p1.V.K, sV p1.V.S, iV p1.V.N, bV p1.V.B, .sl false (p1.V.L.map c_api_Val), bV p1.Secret]] (t_R30_Same o) := by
  intro p0 p1 o h
  unfold R30_Same at h
  refine PCall.ofB mixed tbOk R30_Same_lv Try.func38 rfl (by kernel_rfl) (Nat.le_of_ble_eq_true rfl) ?_
  refine st_bind h (fun o1 ho hk => ?_)
  refine Exists.intro (JP1 _ _ o1 .normal (R30_Same_J0_0 p0 p1)) (And.intro ?_ (join1 ?_))
  · have h := ho
    refine st_test h (fun hb h => ?_) (fun hb h => ?_)
    · refine st_call [.agg [iV p0.V.K, sV p0.V.S, iV p0.V.N, bV p0.V.B, .sl false (p0.V.L.map c_api_Val)], .agg [iV p1.V.K, sV p1.V.S, iV p1.V.N, bV p1.V.B, .sl false (p1.V.L.map c_api_Val)]] t_R16_Same h (fun x2 hy => (R16_Same_ok p0.V p1.V x2 hy)) (fun x2 hy h => ?_)
      exact JP1.a h (Le.tow 2 0 rfl (.cons rfl (.refl _) (.nil)) (.refl _) rfl)
    · exact JP1.a h (Le.tow 2 0 rfl (.cons rfl (.refl _) (.nil)) (.refl _) rfl)
  · have h := hk
    refine st_ret (t := t_R30_Same) h ?_
    exact .refl _
noncomputable def nunciolaw30_TaintAny_L1 (p0 : (List Bool)) (v3 : (List taint_T)) (v4 : Bool) (v5 : Int) : Option (((List taint_T) × Bool)) :=
  ( if (decide (v5 < (p0.length : Int))) then
      some (decide (v5 < 20))
    else
      some false) >>= fun o2 =>
  if o2 then
    idx p0 v5 >>= fun x3 =>
    appL 72 v3 ([(taint_T.mk (api_Val.mk 0 [] 0 false []) x3)]) >>= fun x4 =>
    if v4 then
      nunciolaw30_TaintAny_L1 p0 x4 true (wr (v5 + 1))
    else
      idx p0 v5 >>= fun x5 =>
      nunciolaw30_TaintAny_L1 p0 x4 x5 (wr (v5 + 1))
  else
    some (v3, v4)
  partial_fixpoint
set_option maxRecDepth 100000 in
set_option maxHeartbeats 4000000 in
theorem nunciolaw30_TaintAny_L1_grp : ∀ (p0 : (List Bool)), (∀ (v3 : (List taint_T)) (v4 : Bool) (v5 : Int) (o1 : ((List taint_T) × Bool)), nunciolaw30_TaintAny_L1 p0 v3 v4 v5 = some o1 → TL (0, 0) Try.prog 39 nunciolaw30_TaintAny_L1_c (JP1 (0, 0) 39 o1 (.exit 0) (nunciolaw30_TaintAny_L1_x0 p0)) (nunciolaw30_TaintAny_L1_st p0 v3 v4 v5)) := by
  intro p0
  refine nunciolaw30_TaintAny_L1.partial_correctness p0 _ ?_
  intro nunciolaw30_TaintAny_L1' ih_nunciolaw30_TaintAny_L1 v3 v4 v5 o1 h
  refine TL.round (bwp_sound mixed tbOk (lv := nunciolaw30_TaintAny_lv) _ _ _ ?_)
  refine st_bind h (fun o2 ho hk => ?_)
  refine Exists.intro (JP1 _ _ o2 .normal (nunciolaw30_TaintAny_J0_0 p0 v3 v4 v5)) (And.intro ?_ (join1 ?_))
  · have h := ho
    refine view (lenMap _ _) rfl ?_
    refine st_test h (fun hb h => ?_) (fun hb h => ?_)
    · exact JP1.a h (Le.tow 0 1 rfl (.cons rfl (.refl _) (.cons rfl (.refl _) (.cons rfl (.refl _) (.cons rfl (.refl _) (.cons rfl (.refl _) (.nil)))))) (.refl _) rfl)
    · exact JP1.a h (Le.tow 0 1 rfl (.cons rfl (.refl _) (.cons rfl (.refl _) (.cons rfl (.refl _) (.cons rfl (.refl _) (.cons rfl (.refl _) (.nil)))))) (.refl _) rfl)
  · have h := hk
    refine st_test h (fun hb h => ?_) (fun hb h => ?_)
    · refine st_idx (l := p0) (c := cBool) (c' := cBool) h (fun _ => rfl) (fun _ => rfl) (by decide) (fun x3 hi h => ?_)
      refine st_appo (a := v3) (b := [(taint_T.mk (api_Val.mk 0 [] 0 false []) x3)]) (c := c_taint_T) h (.cons (.cons (.refl _) (.cons (.refl _) (.cons (.refl _) (.cons (.refl _) (.cons (.not) (.cons (.refl _) (.nil))))))) (.nil)) (fun _ => rfl) rfl (fun x4 hi h => ?_)
      refine st_test h (fun hb h => ?_) (fun hb h => ?_)
      · refine TL.le (τ := nunciolaw30_TaintAny_L1_st p0 x4 true (wr (v5 + 1))) ?_ ((ih_nunciolaw30_TaintAny_L1 x4 true (wr (v5 + 1)) _ h))
        exact Le.tow 0 1 rfl (.cons rfl (.refl _) (.cons rfl (.refl _) (.cons rfl (.refl _) (.cons rfl (.refl _) (.nil))))) (.refl _) rfl
      · refine st_idx (l := p0) (c := cBool) (c' := cBool) h (fun _ => rfl) (fun _ => rfl) (by decide) (fun x5 hi h => ?_)
        refine TL.le (τ := nunciolaw30_TaintAny_L1_st p0 x4 x5 (wr (v5 + 1))) ?_ ((ih_nunciolaw30_TaintAny_L1 x4 x5 (wr (v5 + 1)) _ h))
        exact Le.tow 0 1 rfl (.cons rfl (.refl _) (.cons rfl (.refl _) (.cons rfl (.refl _) (.cons rfl (.refl _) (.nil))))) (.refl _) rfl
    · exact JP1.a h (Le.tow 0 1 rfl (.cons rfl (.refl _) (.cons rfl (.refl _) (.nil))) (.refl _) rfl)
theorem nunciolaw30_TaintAny_L1_ok : ∀ (p0 : (List Bool)) (v3 : (List taint_T)) (v4 : Bool) (v5 : Int) (o1 : ((List taint_T) × Bool)), nunciolaw30_TaintAny_L1 p0 v3 v4 v5 = some o1 → TL (0, 0) Try.prog 39 nunciolaw30_TaintAny_L1_c (JP1 (0, 0) 39 o1 (.exit 0) (nunciolaw30_TaintAny_L1_x0 p0)) (nunciolaw30_TaintAny_L1_st p0 v3 v4 v5) := fun p0 v3 v4 v5 o1 h => (nunciolaw30_TaintAny_L1_grp p0) v3 v4 v5 o1 h
noncomputable def taint_Env_Len (p0 : taint_Env) : Option (Int) :=
  some p0.many_
set_option maxRecDepth 100000 in
set_option maxHeartbeats 4000000 in
theorem taint_Env_Len_ok : ∀ (p0 : taint_Env) (o : Int), taint_Env_Len p0 = some o → PCall Try.prog 58 [.agg [oV c_taint_link p0.last_, iV p0.many_]] (t_taint_Env_Len o) := by
  intro p0 o h
  unfold taint_Env_Len at h
  refine PCall.ofB mixed tbOk taint_Env_Len_lv Try.func58 rfl (by kernel_rfl) (Nat.le_of_ble_eq_true rfl) ?_
  refine st_ret (t := t_taint_Env_Len) h ?_
  exact .refl _
noncomputable def taint_Env_Look_L1 (p0 : taint_Env) (p1 : (List UInt8)) (x1 : taint_Env) (l4 : (List (Option taint_link))) : Option (Unit ⊕ (Int × (List UInt8) × Int × Bool × (List api_Val) × Bool)) :=
  match l4 with
  | [] =>
    some (.inl ())
  | x2 :: r3 =>
    x2 >>= fun x9 =>
    if (x9.name_ == p1) then
      x2 >>= fun x10 =>
      some (.inr (x10.t_.V.K, x10.t_.V.S, x10.t_.V.N, x10.t_.V.B, x10.t_.V.L, x10.t_.Secret))
    else
      taint_Env_Look_L1 p0 p1 x1 r3 
  partial_fixpoint
set_option maxRecDepth 100000 in
set_option maxHeartbeats 4000000 in
theorem taint_Env_Look_L1_grp : ∀ (p0 : taint_Env) (p1 : (List UInt8)) (x1 : taint_Env), (∀ (l4 : (List (Option taint_link))) (o6 : Unit ⊕ (Int × (List UInt8) × Int × Bool × (List api_Val) × Bool)), taint_Env_Look_L1 p0 p1 x1 l4 = some o6 → RL 4 0 Try.prog 21 (rgP taint_Env_Look_L1_c) (rgA taint_Env_Look_L1_c) (rgB taint_Env_Look_L1_c) (taint_Env_Look_L1_st p0 p1 x1).env (JP2 (0, 0) 21 o6 .normal (taint_Env_Look_L1_x0 p0 p1 x1) .ret (taint_Env_Look_L1_x1 p0 p1 x1)) (l4.map e_taint_Env_all_1) (taint_Env_Look_L1_st p0 p1 x1).s) := by
  intro p0 p1 x1
  refine taint_Env_Look_L1.partial_correctness p0 p1 x1 _ ?_
  intro taint_Env_Look_L1' ih_taint_Env_Look_L1 l4 o6 h
  cases l4 with
  | nil =>
    refine rl_nil ?_
    exact JP2.a h (Le.tow 4 0 rfl (.cons rfl (.refl _) (.cons rfl (.refl _) (.cons rfl (.refl _) (.cons rfl (.refl _) (.nil))))) (.refl _) rfl)
  | cons x2 r3 =>
    refine rl_cons (bwp_sound mixed tbOk (lv := taint_Env_Look_lv) _ _ _ ?_)
    refine And.intro rfl (bwp_sound mixed tbOk (lv := taint_Env_Look_lv) _ _ _ ?_)
    refine And.intro (by decide +kernel) (And.intro rfl ?_)
    refine st_nilc (c' := l_taint_link) h c_taint_link_eq (fun x9 ho h => ?_)
    refine st_test h (fun hb h => ?_) (fun hb h => ?_)
    · refine st_nilc (c' := l_taint_link) h c_taint_link_eq (fun x10 ho h => ?_)
      exact Exists.intro (⟨[[.p (oV c_taint_link p0.last_), .p (iV p0.many_)], [.p (sV p1)], [.p (iV x10.t_.V.K), .p (sV x10.t_.V.S), .p (iV x10.t_.V.N), .p (bV x10.t_.V.B), .p (.sl false (x10.t_.V.L.map c_api_Val)), .p (bV x10.t_.Secret)], [.p (bV true)]], []⟩ : S) (And.intro (Le.tow 4 0 rfl .nil (.refl _) rfl) (And.intro rfl (And.intro rfl (JP2.b h (Le.tow 4 0 rfl (.cons rfl (.refl _) (.cons rfl (.refl _) (.nil))) (.refl _) rfl)))))
    · exact Exists.intro (taint_Env_Look_L1_st p0 p1 x1 ).s (And.intro (Le.tow 4 0 rfl (.nil) (.refl _) rfl) (And.intro rfl (And.intro rfl ((ih_taint_Env_Look_L1 r3 _ h)))))
theorem taint_Env_Look_L1_ok : ∀ (p0 : taint_Env) (p1 : (List UInt8)) (x1 : taint_Env) (l4 : (List (Option taint_link))) (o6 : Unit ⊕ (Int × (List UInt8) × Int × Bool × (List api_Val) × Bool)), taint_Env_Look_L1 p0 p1 x1 l4 = some o6 → RL 4 0 Try.prog 21 (rgP taint_Env_Look_L1_c) (rgA taint_Env_Look_L1_c) (rgB taint_Env_Look_L1_c) (taint_Env_Look_L1_st p0 p1 x1).env (JP2 (0, 0) 21 o6 .normal (taint_Env_Look_L1_x0 p0 p1 x1) .ret (taint_Env_Look_L1_x1 p0 p1 x1)) (l4.map e_taint_Env_all_1) (taint_Env_Look_L1_st p0 p1 x1).s := fun p0 p1 x1 l4 o6 h => (taint_Env_Look_L1_grp p0 p1 x1) l4 o6 h
noncomputable def taint_Env_all (p0 : taint_Env) : Option (taint_Env) :=
  some p0
set_option maxRecDepth 100000 in
set_option maxHeartbeats 4000000 in
theorem taint_Env_all_ok : ∀ (p0 : taint_Env) (o : taint_Env), taint_Env_all p0 = some o → PCall Try.prog 92 [.agg [oV c_taint_link p0.last_, iV p0.many_]] (t_taint_Env_all o) := by
  intro p0 o h
  unfold taint_Env_all at h
  refine PCall.ofM mixed tbOk taint_Env_all_lv Try.func92 rfl (by kernel_rfl) (Nat.le_of_ble_eq_true rfl) ?_
  refine st_ret (t := t_taint_Env_all) h ?_
  exact .refl _
noncomputable def taint_Env_all_1_L1 (v3 : (Option taint_link)) : Option ((List (Option taint_link)) × (Unit)) :=
  if (!(!v3.isSome)) then
    ( v3 >>= fun x3 =>
      taint_Env_all_1_L1  x3.ahead_) >>= fun q => some (v3 :: q.1, q.2)
  else
    some ([], ())
  partial_fixpoint
set_option maxRecDepth 100000 in
set_option maxHeartbeats 4000000 in
theorem taint_Env_all_1_L1_grp : (∀ (v3 : (Option taint_link)) (o2 : (List (Option taint_link)) × (Unit)), taint_Env_all_1_L1 v3 = some o2 → ∀ (gxs gp gpost gq1 : List (List V)), gxs = gp ++ (o2.1.map e_taint_Env_all_1 ++ gpost) → gxs = gq1 ++ gpost → TL (0, 1) Try.prog 16 taint_Env_all_1_L1_c (Qs (0, 1) 16 gxs (JP1 (0, 1) 16 o2.2 (.exit 0) (taint_Env_all_1_L1_x0 gxs gq1))) (taint_Env_all_1_L1_st v3 gxs gp)) := by
  refine taint_Env_all_1_L1.partial_correctness _ ?_
  intro taint_Env_all_1_L1' ih_taint_Env_all_1_L1 v3 o2 h
  intro gxs gp gpost gq1 hx hq
  refine TL.round (bwp_sound mixed tbOk (lv := taint_Env_all_1_lv) _ _ _ ?_)
  refine And.intro rfl ?_
  refine st_test h (fun hb h => ?_) (fun hb h => ?_)
  · refine st_yld (c := e_taint_Env_all_1) h hx (.refl _) rfl rfl (fun _ h hx => ?_) ?_
    · refine bF ?_
      refine st_nilc (c' := l_taint_link) h c_taint_link_eq (fun x3 ho h => ?_)
      refine TL.le (τ := taint_Env_all_1_L1_st  x3.ahead_ gxs (gp ++ [e_taint_Env_all_1 v3])) ?_ ((ih_taint_Env_all_1_L1 x3.ahead_ _ h) _ _ _ _ hx hq)
      exact Le.tow 0 1 rfl (.cons rfl (.refl _) (.cons rfl (.refl _) (.nil))) (.refl _) rfl
    · refine bT ?_
      exact .inr ⟨rfl, _, Le.tow 0 1 rfl .nil (.refl _) rfl, rfl, rfl, rfl⟩
  · exact .inl (JP1.a (sndI h) (Le.tow 0 1 rfl (.nil) (.refl _) (liveQ h hx hq rfl)))
theorem taint_Env_all_1_L1_ok : ∀ (v3 : (Option taint_link)) (o2 : (List (Option taint_link)) × (Unit)), taint_Env_all_1_L1 v3 = some o2 → ∀ (gxs gp gpost gq1 : List (List V)), gxs = gp ++ (o2.1.map e_taint_Env_all_1 ++ gpost) → gxs = gq1 ++ gpost → TL (0, 1) Try.prog 16 taint_Env_all_1_L1_c (Qs (0, 1) 16 gxs (JP1 (0, 1) 16 o2.2 (.exit 0) (taint_Env_all_1_L1_x0 gxs gq1))) (taint_Env_all_1_L1_st v3 gxs gp) := fun v3 o2 h => taint_Env_all_1_L1_grp v3 o2 h
noncomputable def taint_Env_all_1 (p0 : taint_Env) : Option ((List (Option taint_link)) × Unit) :=
  ( taint_Env_all_1_L1 p0.last_) >>= fun o2 => (
    some ([], ())) >>= fun q => some (o2.1 ++ q.1, q.2)
set_option maxRecDepth 100000 in
set_option maxHeartbeats 4000000 in
theorem taint_Env_all_1_ok : ∀ (p0 : taint_Env) (o : (List (Option taint_link)) × Unit), taint_Env_all_1 p0 = some o → ∀ gxs : List (List V), gxs = o.1.map e_taint_Env_all_1 → IterOK Try.prog 97 [.ep [oV c_taint_link p0.last_, iV p0.many_]] gxs := by
  intro p0 o h
  unfold taint_Env_all_1 at h
  intro gxs hg
  have hx : gxs = [] ++ (o.1.map e_taint_Env_all_1 ++ []) := by simp [hg]
  refine IterOK.ofB mixed tbOk taint_Env_all_1_lv Try.func97 rfl (by kernel_rfl) (Nat.le_of_ble_eq_true rfl) rfl ?_
  refine st_bindI h hx (fun o2 lgq1 gq1 ho hk hxa hjgq1 => ?_)
  refine Exists.intro (Qs _ _ gxs (JP1 _ _ o2.2 (.exit 0) (taint_Env_all_1_L1_x0 gxs gq1))) (And.intro (T_le (τ := taint_Env_all_1_L1_st p0.last_ gxs ([] : List (List V))) ?_ (TL.loop ((taint_Env_all_1_L1_ok p0.last_ o2 ho) _ _ _ _ hxa hjgq1))) (joinS (join1 ?_) ?_))
  · exact Le.tow 0 1 rfl (.cons rfl (.refl _) (.cons rfl (.refl _) (.nil))) (.refl _) rfl
  · have h := hk
    have hx := hjgq1
    exact st_iend h hx (.inl rfl) rfl
  · exact fun s1 h1 h2 hs => st_istop (.inr rfl) hs
noncomputable def taint_Env_Look (p0 : taint_Env) (p1 : (List UInt8)) : Option (taint_T × Bool) :=
  taint_Env_all p0 >>= fun x1 =>
  taint_Env_all_1 x1 >>= fun y5 =>
  (taint_Env_Look_L1 p0 p1 x1 y5.1) >>= fun o6 =>
  match o6 with
  | .inl y7 =>
    some ((taint_T.mk (api_Val.mk 0 [] 0 false []) false), false)
  | .inr y8 =>
    some ((taint_T.mk (api_Val.mk y8.1 y8.2.1 y8.2.2.1 y8.2.2.2.1 y8.2.2.2.2.1) y8.2.2.2.2.2), true)
set_option maxRecDepth 100000 in
set_option maxHeartbeats 4000000 in
theorem taint_Env_Look_ok : ∀ (p0 : taint_Env) (p1 : (List UInt8)) (o : taint_T × Bool), taint_Env_Look p0 p1 = some o → PCall Try.prog 57 [.agg [oV c_taint_link p0.last_, iV p0.many_], sV p1] (t_taint_Env_Look o) := by
  intro p0 p1 o h
  unfold taint_Env_Look at h
  refine PCall.ofB mixed tbOk taint_Env_Look_lv Try.func57 rfl (by kernel_rfl) (Nat.le_of_ble_eq_true rfl) ?_
  refine st_call [.agg [oV c_taint_link p0.last_, iV p0.many_]] t_taint_Env_all h (fun x1 hy => (taint_Env_all_ok p0 x1 hy)) (fun x1 hy h => ?_)
  refine st_bind h (fun y5 hy5 h => ?_)
  refine st_bind h (fun o6 ho hk => ?_)
  refine Exists.intro (JP2 _ _ o6 .normal (taint_Env_Look_L1_x0 p0 p1 x1) .ret (taint_Env_Look_L1_x1 p0 p1 x1)) (And.intro (T_le (τ := taint_Env_Look_L1_st p0 p1 x1) ?_ (T_range (g := 97) (cap := [.ep [oV c_taint_link x1.last_, iV x1.many_]]) rfl ((taint_Env_all_1_ok x1 y5 hy5) _ rfl) (mapSize fun _ => rfl) rfl (Nat.le_of_ble_eq_true rfl) (Nat.le_of_ble_eq_true rfl) (taint_Env_Look_L1_ok p0 p1 x1 y5.1 o6 ho))) (join2 (fun y7 hy => ?_) (fun y8 hy => ?_)))
  · exact Le.tow 4 0 rfl (.cons rfl (.refl _) (.cons rfl (.refl _) (.cons rfl (.refl _) (.cons rfl (.refl _) (.nil))))) (.refl _) rfl
  · have h := (by rw [hy] at hk; exact hk)
    refine st_ret (t := t_taint_Env_Look) h ?_
    exact .tup (xs := [.agg [iV 0, sV [], iV 0, bV false, .sl true [], bV false], bV false]) (ys := [.agg [iV 0, sV [], iV 0, bV false, .sl false [], bV false], bV false]) (.cons (.agg' (.cons (.refl _) (.cons (.refl _) (.cons (.refl _) (.cons (.refl _) (.cons (.not) (.cons (.refl _) (.nil)))))))) (.cons (.refl _) (.nil)))
  · have h := (by rw [hy] at hk; exact hk)
    refine st_ret (t := t_taint_Env_Look) h ?_
    exact .refl _
noncomputable def taint_Env_With (p0 : taint_Env) (p1 : (List UInt8)) (p2 : taint_T) : Option (taint_Env) :=
  some (taint_Env.mk (some (taint_link.mk p1 p2 p0.last_)) (wr (p0.many_ + 1)))
set_option maxRecDepth 100000 in
set_option maxHeartbeats 4000000 in
theorem taint_Env_With_ok : ∀ (p0 : taint_Env) (p1 : (List UInt8)) (p2 : taint_T) (o : taint_Env), taint_Env_With p0 p1 p2 = some o → PCall Try.prog 56 [.agg [oV c_taint_link p0.last_, iV p0.many_], sV p1, .agg [iV p2.V.K, sV p2.V.S, iV p2.V.N, bV p2.V.B, .sl false (p2.V.L.map c_api_Val), bV p2.Secret]] (t_taint_Env_With o) := by
  intro p0 p1 p2 o h
  unfold taint_Env_With at h
  refine PCall.ofM mixed tbOk taint_Env_With_lv Try.func56 rfl (by kernel_rfl) (Nat.le_of_ble_eq_true rfl) ?_
  refine st_ret (t := t_taint_Env_With) h ?_
  exact .p (.agg' (.cons (.optc (c_taint_link_eq _) (.refl _)) (.cons (.refl _) (.nil))))
noncomputable def nunciolaw30_awake : Option (Bool) :=
  taint_Env_With (taint_Env.mk none 0) [97] (taint_T.mk (api_Val.mk 2 [] 1 false []) false) >>= fun x1 =>
  taint_Env_With x1 [97] (taint_T.mk (api_Val.mk 2 [] 2 false []) true) >>= fun x2 =>
  taint_Env_Look x1 [97] >>= fun x3 =>
  taint_Env_Look x2 [97] >>= fun x4 =>
  ( if x3.2 then
      if x4.2 then
        if (x3.1.V.N == 1) then
          if (!x3.1.Secret) then
            if (x4.1.V.N == 2) then
              if x4.1.Secret then
                taint_Env_Len x2 >>= fun x6 =>
                some (x6 == 2)
              else
                some false
            else
              some false
          else
            some false
        else
          some false
      else
        some false
    else
      some false) >>= fun o5 =>
  some o5
set_option maxRecDepth 100000 in
set_option maxHeartbeats 4000000 in
theorem nunciolaw30_awake_ok : ∀ (o : Bool), nunciolaw30_awake  = some o → PCall Try.prog 15 [] (t_nunciolaw30_awake o) := by
  intro o h
  unfold nunciolaw30_awake at h
  refine PCall.ofB mixed tbOk nunciolaw30_awake_lv Try.func15 rfl (by kernel_rfl) (Nat.le_of_ble_eq_true rfl) ?_
  refine st_call [.agg [.v (.pointer none), iV 0], sV [97], .agg [iV 2, sV [], iV 1, bV false, .sl true [], bV false]] t_taint_Env_With h (fun x1 hy => (taint_Env_With_ok (taint_Env.mk none 0) [97] (taint_T.mk (api_Val.mk 2 [] 1 false []) false) x1 hy).weak (.cons (.agg' (.cons (.none _) (.cons (.refl _) (.nil)))) (.cons (.refl _) (.cons (.agg' (.cons (.refl _) (.cons (.refl _) (.cons (.refl _) (.cons (.refl _) (.cons (.not) (.cons (.refl _) (.nil)))))))) (.nil))))) (fun x1 hy h => ?_)
  refine st_call [.agg [oV c_taint_link x1.last_, iV x1.many_], sV [97], .agg [iV 2, sV [], iV 2, bV false, .sl true [], bV true]] t_taint_Env_With h (fun x2 hy => (taint_Env_With_ok x1 [97] (taint_T.mk (api_Val.mk 2 [] 2 false []) true) x2 hy).weak (.cons (.refl _) (.cons (.refl _) (.cons (.agg' (.cons (.refl _) (.cons (.refl _) (.cons (.refl _) (.cons (.refl _) (.cons (.not) (.cons (.refl _) (.nil)))))))) (.nil))))) (fun x2 hy h => ?_)
  refine st_call [.agg [oV c_taint_link x1.last_, iV x1.many_], sV [97]] t_taint_Env_Look h (fun x3 hy => (taint_Env_Look_ok x1 [97] x3 hy)) (fun x3 hy h => ?_)
  refine st_call [.agg [oV c_taint_link x2.last_, iV x2.many_], sV [97]] t_taint_Env_Look h (fun x4 hy => (taint_Env_Look_ok x2 [97] x4 hy)) (fun x4 hy h => ?_)
  refine st_bind h (fun o5 ho hk => ?_)
  refine Exists.intro (JP1 _ _ o5 .normal (nunciolaw30_awake_J0_0 x1 x2 x3 x4)) (And.intro ?_ (join1 ?_))
  · have h := ho
    refine st_test h (fun hb h => ?_) (fun hb h => ?_)
    · refine st_test h (fun hb h => ?_) (fun hb h => ?_)
      · refine st_test h (fun hb h => ?_) (fun hb h => ?_)
        · refine st_test h (fun hb h => ?_) (fun hb h => ?_)
          · refine st_test h (fun hb h => ?_) (fun hb h => ?_)
            · refine st_test h (fun hb h => ?_) (fun hb h => ?_)
              · refine st_call [.agg [oV c_taint_link x2.last_, iV x2.many_]] t_taint_Env_Len h (fun x6 hy => (taint_Env_Len_ok x2 x6 hy)) (fun x6 hy h => ?_)
                exact JP1.a h (Le.tow 4 0 rfl (.cons rfl (.refl _) (.nil)) (.refl _) rfl)
              · exact JP1.a h (Le.tow 4 0 rfl (.cons rfl (.refl _) (.nil)) (.refl _) rfl)
            · refine bF ?_
              exact JP1.a h (Le.tow 4 0 rfl (.cons rfl (.refl _) (.nil)) (.refl _) rfl)
          · refine bF ?_
            refine bF ?_
            exact JP1.a h (Le.tow 4 0 rfl (.cons rfl (.refl _) (.nil)) (.refl _) rfl)
        · refine bF ?_
          refine bF ?_
          refine bF ?_
          exact JP1.a h (Le.tow 4 0 rfl (.cons rfl (.refl _) (.nil)) (.refl _) rfl)
      · refine bF ?_
        refine bF ?_
        refine bF ?_
        refine bF ?_
        exact JP1.a h (Le.tow 4 0 rfl (.cons rfl (.refl _) (.nil)) (.refl _) rfl)
    · refine bF ?_
      refine bF ?_
      refine bF ?_
      refine bF ?_
      refine bF ?_
      exact JP1.a h (Le.tow 4 0 rfl (.cons rfl (.refl _) (.nil)) (.refl _) rfl)
  · have h := hk
    refine st_ret (t := t_nunciolaw30_awake) h ?_
    exact .refl _
noncomputable def taint_Any_1 (p0 : taint_T) : Option (Bool) :=
  some p0.Secret
set_option maxRecDepth 100000 in
set_option maxHeartbeats 4000000 in
theorem taint_Any_1_ok : ∀ (p0 : taint_T) (o : Bool), taint_Any_1 p0 = some o → PCall Try.prog 55 [.agg [iV p0.V.K, sV p0.V.S, iV p0.V.N, bV p0.V.B, .sl false (p0.V.L.map c_api_Val), bV p0.Secret]] (t_taint_Any_1 o) := by
  intro p0 o h
  unfold taint_Any_1 at h
  refine PCall.ofB mixed tbOk taint_Any_1_lv Try.func55 rfl (by kernel_rfl) (Nat.le_of_ble_eq_true rfl) ?_
  refine st_ret (t := t_taint_Any_1) h ?_
  exact .refl _
noncomputable def slices_IndexFunc_taint_T_taint_T_taint_Any_1_L1 (p0 : (List taint_T)) (v8 : Int) : Option (Unit ⊕ Int) :=
  if (decide (v8 < (p0.length : Int))) then
    idx p0 v8 >>= fun x4 =>
    taint_Any_1 x4 >>= fun x5 =>
    if x5 then
      some (.inr v8)
    else
      slices_IndexFunc_taint_T_taint_T_taint_Any_1_L1 p0 (wr (v8 + 1))
  else
    some (.inl ())
  partial_fixpoint
set_option maxRecDepth 100000 in
set_option maxHeartbeats 4000000 in
theorem slices_IndexFunc_taint_T_taint_T_taint_Any_1_L1_grp : ∀ (p0 : (List taint_T)), (∀ (v8 : Int) (o1 : Unit ⊕ Int), slices_IndexFunc_taint_T_taint_T_taint_Any_1_L1 p0 v8 = some o1 → TL (0, 0) Try.prog 19 slices_IndexFunc_taint_T_taint_T_taint_Any_1_L1_c (JP2 (0, 0) 19 o1 (.exit 0) (slices_IndexFunc_taint_T_taint_T_taint_Any_1_L1_x0 p0) .ret (slices_IndexFunc_taint_T_taint_T_taint_Any_1_L1_x1 p0)) (slices_IndexFunc_taint_T_taint_T_taint_Any_1_L1_st p0 v8)) := by
  intro p0
  refine slices_IndexFunc_taint_T_taint_T_taint_Any_1_L1.partial_correctness p0 _ ?_
  intro slices_IndexFunc_taint_T_taint_T_taint_Any_1_L1' ih_slices_IndexFunc_taint_T_taint_T_taint_Any_1_L1 v8 o1 h
  refine TL.round (bwp_sound mixed tbOk (lv := slices_IndexFunc_taint_T_taint_T_taint_Any_1_lv) _ _ _ ?_)
  refine st_test h (fun hb h => ?_) (fun hb h => ?_)
  · refine st_idx (l := p0) (c := c_taint_T) (c' := c_taint_T) h (fun _ => rfl) (fun _ => rfl) (by decide) (fun x4 hi h => ?_)
    refine st_call [.agg [iV x4.V.K, sV x4.V.S, iV x4.V.N, bV x4.V.B, .sl false (x4.V.L.map c_api_Val), bV x4.Secret]] t_taint_Any_1 h (fun x5 hy => (taint_Any_1_ok x4 x5 hy)) (fun x5 hy h => ?_)
    refine st_test h (fun hb h => ?_) (fun hb h => ?_)
    · exact JP2.b h (Le.tow 0 0 rfl (.cons rfl (.refl _) (.nil)) (.refl _) rfl)
    · refine TL.le (τ := slices_IndexFunc_taint_T_taint_T_taint_Any_1_L1_st p0 (wr (v8 + 1))) ?_ ((ih_slices_IndexFunc_taint_T_taint_T_taint_Any_1_L1 (wr (v8 + 1)) _ h))
      exact Le.tow 0 0 rfl (.cons rfl (.refl _) (.cons rfl (.refl _) (.cons rfl (.refl _) (.cons rfl (.refl _) (.nil))))) (.refl _) rfl
  · exact JP2.a h (Le.tow 0 0 rfl (.nil) (.refl _) rfl)
theorem slices_IndexFunc_taint_T_taint_T_taint_Any_1_L1_ok : ∀ (p0 : (List taint_T)) (v8 : Int) (o1 : Unit ⊕ Int), slices_IndexFunc_taint_T_taint_T_taint_Any_1_L1 p0 v8 = some o1 → TL (0, 0) Try.prog 19 slices_IndexFunc_taint_T_taint_T_taint_Any_1_L1_c (JP2 (0, 0) 19 o1 (.exit 0) (slices_IndexFunc_taint_T_taint_T_taint_Any_1_L1_x0 p0) .ret (slices_IndexFunc_taint_T_taint_T_taint_Any_1_L1_x1 p0)) (slices_IndexFunc_taint_T_taint_T_taint_Any_1_L1_st p0 v8) := fun p0 v8 o1 h => (slices_IndexFunc_taint_T_taint_T_taint_Any_1_L1_grp p0) v8 o1 h
noncomputable def slices_IndexFunc_taint_T_taint_T_taint_Any_1 (p0 : (List taint_T)) : Option (Int) :=
  (slices_IndexFunc_taint_T_taint_T_taint_Any_1_L1 p0 0) >>= fun o1 =>
  match o1 with
  | .inl y2 =>
    some (-1)
  | .inr y3 =>
    some y3
set_option maxRecDepth 100000 in
set_option maxHeartbeats 4000000 in
theorem slices_IndexFunc_taint_T_taint_T_taint_Any_1_ok : ∀ (p0 : (List taint_T)) (o : Int), slices_IndexFunc_taint_T_taint_T_taint_Any_1 p0 = some o → CallOK Try.prog 91 [.p (.sl false (p0.map c_taint_T)), .fn (.func 55) [] []] ⟨[], []⟩ (t_slices_IndexFunc_taint_T_taint_T_taint_Any_1 o) ⟨[], []⟩ := by
  intro p0 o h
  unfold slices_IndexFunc_taint_T_taint_T_taint_Any_1 at h
  refine CallOK.ofB mixed tbOk slices_IndexFunc_taint_T_taint_T_taint_Any_1_lv Try.func91 rfl (by kernel_rfl) (Nat.le_of_ble_eq_true rfl) rfl rfl rfl ?_
  refine view (lenMap _ _) rfl ?_
  refine st_bind h (fun o1 ho hk => ?_)
  refine Exists.intro (JP2 _ _ o1 (.exit 0) (slices_IndexFunc_taint_T_taint_T_taint_Any_1_L1_x0 p0) .ret (slices_IndexFunc_taint_T_taint_T_taint_Any_1_L1_x1 p0)) (And.intro (T_le (τ := slices_IndexFunc_taint_T_taint_T_taint_Any_1_L1_st p0 0) ?_ (TL.loop (slices_IndexFunc_taint_T_taint_T_taint_Any_1_L1_ok p0 0 o1 ho))) (join2 (fun y2 hy => ?_) (fun y3 hy => ?_)))
  · exact Le.tow 0 0 rfl (.cons rfl (.refl _) (.cons rfl (.refl _) (.cons rfl (.refl _) (.cons rfl (.refl _) (.nil))))) (.refl _) rfl
  · have h := (by rw [hy] at hk; exact hk)
    refine Exists.intro _ (And.intro (Le.refl _ _ _) ?_)
    exact st_retc (t := t_slices_IndexFunc_taint_T_taint_T_taint_Any_1) (ss := fun o => ⟨[], []⟩) h ⟨[], rfl, .refl _, .refl _, rfl⟩
  · have h := (by rw [hy] at hk; exact hk)
    refine Exists.intro _ (And.intro (Le.refl _ _ _) ?_)
    exact st_retc (t := t_slices_IndexFunc_taint_T_taint_T_taint_Any_1) (ss := fun o => ⟨[], []⟩) h ⟨[], rfl, .refl _, .refl _, rfl⟩
noncomputable def slices_ContainsFunc_taint_T_taint_T_taint_Any_1 (p0 : (List taint_T)) : Option (Bool) :=
  slices_IndexFunc_taint_T_taint_T_taint_Any_1 p0 >>= fun x1 =>
  some (decide (x1 ≥ 0))
set_option maxRecDepth 100000 in
set_option maxHeartbeats 4000000 in
theorem slices_ContainsFunc_taint_T_taint_T_taint_Any_1_ok : ∀ (p0 : (List taint_T)) (o : Bool), slices_ContainsFunc_taint_T_taint_T_taint_Any_1 p0 = some o → CallOK Try.prog 54 [.p (.sl false (p0.map c_taint_T)), .fn (.func 55) [] []] ⟨[], []⟩ (t_slices_ContainsFunc_taint_T_taint_T_taint_Any_1 o) ⟨[], []⟩ := by
  intro p0 o h
  unfold slices_ContainsFunc_taint_T_taint_T_taint_Any_1 at h
  refine CallOK.ofB mixed tbOk slices_ContainsFunc_taint_T_taint_T_taint_Any_1_lv Try.func54 rfl (by kernel_rfl) (Nat.le_of_ble_eq_true rfl) rfl rfl rfl ?_
  refine st_callc _ _ h (fun x1 hy => ((slices_IndexFunc_taint_T_taint_T_taint_Any_1_ok p0 x1 hy).fr [] [] rfl rfl rfl)) (fun x1 hy h => ?_)
  refine Exists.intro _ (And.intro (Le.refl _ _ _) ?_)
  exact st_retc (t := t_slices_ContainsFunc_taint_T_taint_T_taint_Any_1) (ss := fun o => ⟨[], []⟩) h ⟨[], rfl, .refl _, .refl _, rfl⟩
noncomputable def taint_Any (p0 : (List taint_T)) : Option (Bool) :=
  slices_ContainsFunc_taint_T_taint_T_taint_Any_1 p0 >>= fun x1 =>
  some x1
set_option maxRecDepth 100000 in
set_option maxHeartbeats 4000000 in
theorem taint_Any_ok : ∀ (p0 : (List taint_T)) (o : Bool), taint_Any p0 = some o → PCall Try.prog 14 [.sl false (p0.map c_taint_T)] (t_taint_Any o) := by
  intro p0 o h
  unfold taint_Any at h
  refine PCall.ofB mixed tbOk taint_Any_lv Try.func14 rfl (by kernel_rfl) (Nat.le_of_ble_eq_true rfl) ?_
  refine st_callc _ _ h (fun x1 hy => ((slices_ContainsFunc_taint_T_taint_T_taint_Any_1_ok p0 x1 hy).fr [] [] rfl rfl rfl)) (fun x1 hy h => ?_)
  refine st_ret (t := t_taint_Any) h ?_
  exact .refl _
noncomputable def nunciolaw30_TaintAny (p0 : (List Bool)) : Option (Bool) :=
  (nunciolaw30_TaintAny_L1 p0 [] false 0) >>= fun o1 =>
  ( taint_Any o1.1 >>= fun x7 =>
    if (x7 == o1.2) then
      nunciolaw30_awake >>= fun x8 =>
      some x8
    else
      some false) >>= fun o6 =>
  some o6
set_option maxRecDepth 100000 in
set_option maxHeartbeats 4000000 in
theorem nunciolaw30_TaintAny_ok : ∀ (p0 : (List Bool)) (o : Bool), nunciolaw30_TaintAny p0 = some o → PCall Try.prog 3 [.sl false (p0.map cBool)] (t_nunciolaw30_TaintAny o) := by
  intro p0 o h
  unfold nunciolaw30_TaintAny at h
  refine PCall.ofB mixed tbOk nunciolaw30_TaintAny_lv Try.func3 rfl (by kernel_rfl) (Nat.le_of_ble_eq_true rfl) ?_
  refine st_bind h (fun o1 ho hk => ?_)
  refine Exists.intro (JP1 _ _ o1 (.exit 0) (nunciolaw30_TaintAny_L1_x0 p0)) (And.intro (T_le (τ := nunciolaw30_TaintAny_L1_st p0 [] false 0) ?_ (TL.loop (nunciolaw30_TaintAny_L1_ok p0 [] false 0 o1 ho))) (join1 ?_))
  · exact Le.trans (τ := ⟨[(0, .p (.sl false (p0.map cBool))), (3, .p (.sl true [])), (4, .p (bV false)), (5, .p (iV 0))], ⟨[], []⟩⟩) (Le.tow 0 0 rfl (.cons rfl (.refl _) (.cons rfl (.refl _) (.cons rfl (.refl _) (.cons rfl (.refl _) (.nil))))) (.refl _) rfl) ((Le.own 3 29 6 rfl sizeNil).trans (Le.tow 0 1 rfl (.cons rfl (.refl _) (.cons rfl (.refl _) (.cons rfl (.refl _) (.cons rfl (.refl _) (.nil))))) (.refl _) rfl))
  have h := hk
  refine st_bind h (fun o6 ho hk => ?_)
  refine Exists.intro (JP1 _ _ o6 .normal (nunciolaw30_TaintAny_J1_0 o1)) (And.intro ?_ (join1 ?_))
  · have h := ho
    refine st_call [.sl false (o1.1.map c_taint_T)] t_taint_Any h (fun x7 hy => (taint_Any_ok o1.1 x7 hy)) (fun x7 hy h => ?_)
    refine st_test h (fun hb h => ?_) (fun hb h => ?_)
    · refine st_call [] t_nunciolaw30_awake h (fun x8 hy => (nunciolaw30_awake_ok x8 hy)) (fun x8 hy h => ?_)
      exact JP1.a h (Le.tow 0 1 rfl (.cons rfl (.refl _) (.nil)) (.refl _) rfl)
    · exact JP1.a h (Le.tow 0 1 rfl (.cons rfl (.refl _) (.nil)) (.refl _) rfl)
  · have h := hk
    refine st_ret (t := t_nunciolaw30_TaintAny) h ?_
    exact .refl _
noncomputable def nunciolaw30_its (p0 : taint_T) : Option (R30_T) :=
  some (R30_T.mk p0.V p0.Secret)
set_option maxRecDepth 100000 in
set_option maxHeartbeats 4000000 in
theorem nunciolaw30_its_ok : ∀ (p0 : taint_T) (o : R30_T), nunciolaw30_its p0 = some o → PCall Try.prog 39 [.agg [iV p0.V.K, sV p0.V.S, iV p0.V.N, bV p0.V.B, .sl false (p0.V.L.map c_api_Val), bV p0.Secret]] (t_nunciolaw30_its o) := by
  intro p0 o h
  unfold nunciolaw30_its at h
  refine PCall.ofB mixed tbOk nunciolaw30_its_lv Try.func39 rfl (by kernel_rfl) (Nat.le_of_ble_eq_true rfl) ?_
  refine st_ret (t := t_nunciolaw30_its) h ?_
  exact .refl _
noncomputable def nunciolaw30_TaintParts_L1 (p0 : R30_T) (x1 : api_Val) (x3 : taint_T × Bool) (x4 : R30_T × Bool) (x6 : (List taint_T)) (x7 : (List R30_T)) (v11 : Int) : Option (Unit ⊕ Unit) :=
  if (decide (v11 < (x6.length : Int))) then
    idx x6 v11 >>= fun x14 =>
    nunciolaw30_its x14 >>= fun x15 =>
    idx x7 v11 >>= fun x16 =>
    R30_Same x15 x16 >>= fun x17 =>
    if (!x17) then
      some (.inr ())
    else
      nunciolaw30_TaintParts_L1 p0 x1 x3 x4 x6 x7 (wr (v11 + 1))
  else
    some (.inl ())
  partial_fixpoint
set_option maxRecDepth 100000 in
set_option maxHeartbeats 4000000 in
theorem nunciolaw30_TaintParts_L1_grp : ∀ (p0 : R30_T) (x1 : api_Val) (x3 : taint_T × Bool) (x4 : R30_T × Bool) (x6 : (List taint_T)) (x7 : (List R30_T)), (∀ (v11 : Int) (o11 : Unit ⊕ Unit), nunciolaw30_TaintParts_L1 p0 x1 x3 x4 x6 x7 v11 = some o11 → TL (0, 0) Try.prog 69 nunciolaw30_TaintParts_L1_c (JP2 (0, 0) 69 o11 (.exit 0) (nunciolaw30_TaintParts_L1_x0 p0 x1 x3 x4 x6 x7) .ret (nunciolaw30_TaintParts_L1_x1 p0 x1 x3 x4 x6 x7)) (nunciolaw30_TaintParts_L1_st p0 x1 x3 x4 x6 x7 v11)) := by
  intro p0 x1 x3 x4 x6 x7
  refine nunciolaw30_TaintParts_L1.partial_correctness p0 x1 x3 x4 x6 x7 _ ?_
  intro nunciolaw30_TaintParts_L1' ih_nunciolaw30_TaintParts_L1 v11 o11 h
  refine TL.round (bwp_sound mixed tbOk (lv := nunciolaw30_TaintParts_lv) _ _ _ ?_)
  refine view (lenMap _ _) rfl ?_
  refine st_test h (fun hb h => ?_) (fun hb h => ?_)
  · refine And.intro (by decide +kernel) (And.intro rfl ?_)
    refine st_idx (l := x6) (c := c_taint_T) (c' := c_taint_T) h (fun _ => rfl) (fun _ => rfl) (by decide) (fun x14 hi h => ?_)
    refine st_calld [.agg [iV x14.V.K, sV x14.V.S, iV x14.V.N, bV x14.V.B, .sl false (x14.V.L.map c_api_Val), bV x14.Secret]] t_nunciolaw30_its h (fun x15 hy => (nunciolaw30_its_ok x14 x15 hy)) (fun x15 hy h => ?_)
    refine st_idx (l := x7) (c := c_R30_T) (c' := c_R30_T) h (fun _ => rfl) (fun _ => rfl) (by decide) (fun x16 hi h => ?_)
    refine st_calld [.agg [iV x15.V.K, sV x15.V.S, iV x15.V.N, bV x15.V.B, .sl false (x15.V.L.map c_api_Val), bV x15.Secret], .agg [iV x16.V.K, sV x16.V.S, iV x16.V.N, bV x16.V.B, .sl false (x16.V.L.map c_api_Val), bV x16.Secret]] t_R30_Same h (fun x17 hy => (R30_Same_ok x15 x16 x17 hy)) (fun x17 hy h => ?_)
    refine st_test h (fun hb h => ?_) (fun hb h => ?_)
    · exact JP2.b h (Le.tow 3 0 rfl (.cons rfl (.refl _) (.nil)) (.refl _) rfl)
    · refine TL.le (τ := nunciolaw30_TaintParts_L1_st p0 x1 x3 x4 x6 x7 (wr (v11 + 1))) ?_ ((ih_nunciolaw30_TaintParts_L1 (wr (v11 + 1)) _ h))
      exact Le.tow 3 0 rfl (.cons rfl (.refl _) (.cons rfl (.refl _) (.cons rfl (.refl _) (.nil)))) (.refl _) rfl
  · exact JP2.a h (Le.tow 3 0 rfl (.nil) (.refl _) rfl)
theorem nunciolaw30_TaintParts_L1_ok : ∀ (p0 : R30_T) (x1 : api_Val) (x3 : taint_T × Bool) (x4 : R30_T × Bool) (x6 : (List taint_T)) (x7 : (List R30_T)) (v11 : Int) (o11 : Unit ⊕ Unit), nunciolaw30_TaintParts_L1 p0 x1 x3 x4 x6 x7 v11 = some o11 → TL (0, 0) Try.prog 69 nunciolaw30_TaintParts_L1_c (JP2 (0, 0) 69 o11 (.exit 0) (nunciolaw30_TaintParts_L1_x0 p0 x1 x3 x4 x6 x7) .ret (nunciolaw30_TaintParts_L1_x1 p0 x1 x3 x4 x6 x7)) (nunciolaw30_TaintParts_L1_st p0 x1 x3 x4 x6 x7 v11) := fun p0 x1 x3 x4 x6 x7 v11 o11 h => (nunciolaw30_TaintParts_L1_grp p0 x1 x3 x4 x6 x7) v11 o11 h
noncomputable def nunciolaw30_mine (p0 : R30_T) : Option (taint_T) :=
  some (taint_T.mk p0.V p0.Secret)
set_option maxRecDepth 100000 in
set_option maxHeartbeats 4000000 in
theorem nunciolaw30_mine_ok : ∀ (p0 : R30_T) (o : taint_T), nunciolaw30_mine p0 = some o → PCall Try.prog 34 [.agg [iV p0.V.K, sV p0.V.S, iV p0.V.N, bV p0.V.B, .sl false (p0.V.L.map c_api_Val), bV p0.Secret]] (t_nunciolaw30_mine o) := by
  intro p0 o h
  unfold nunciolaw30_mine at h
  refine PCall.ofB mixed tbOk nunciolaw30_mine_lv Try.func34 rfl (by kernel_rfl) (Nat.le_of_ble_eq_true rfl) ?_
  refine st_ret (t := t_nunciolaw30_mine) h ?_
  exact .refl _
mutual
noncomputable def taint_copied (p0 : api_Val) : Option (api_Val) :=
  (taint_copied_L1 p0 0 []) >>= fun o1 =>
  some (api_Val.mk p0.K p0.S p0.N p0.B o1)
  partial_fixpoint
noncomputable def taint_copied_L1 (p0 : api_Val) (v11 : Int) (h0_4 : (List api_Val)) : Option ((List api_Val)) :=
  if (decide (v11 < (p0.L.length : Int))) then
    idx p0.L v11 >>= fun x2 =>
    taint_copied x2 >>= fun x3 =>
    appL 64 h0_4 [x3] >>= fun x4 =>
    taint_copied_L1 p0 (wr (v11 + 1)) x4
  else
    some h0_4
  partial_fixpoint
end
set_option maxRecDepth 100000 in
set_option maxHeartbeats 4000000 in
theorem taint_copied_grp : (∀ (p0 : api_Val) (o : api_Val), taint_copied p0 = some o → PCall Try.prog 70 [.agg [iV p0.K, sV p0.S, iV p0.N, bV p0.B, .sl false (p0.L.map c_api_Val)]] (t_taint_copied o)) ∧ (∀ (p0 : api_Val) (v11 : Int) (h0_4 : (List api_Val)) (o1 : (List api_Val)), taint_copied_L1 p0 v11 h0_4 = some o1 → TL (0, 0) Try.prog 24 taint_copied_L1_c (JP1 (0, 0) 24 o1 (.exit 0) (taint_copied_L1_x0 p0)) (taint_copied_L1_st p0 v11 h0_4)) := by
  refine taint_copied.mutual_partial_correctness _ _ ?_ ?_
  · intro taint_copied_L1' ih_taint_copied_L1 p0 o h
    refine PCall.ofB mixed tbOk taint_copied_lv Try.func70 rfl (by kernel_rfl) (Nat.le_of_ble_eq_true rfl) ?_
    refine view (lenMap _ _) rfl ?_
    refine st_bind h (fun o1 ho hk => ?_)
    refine Exists.intro (JP1 _ _ o1 (.exit 0) (taint_copied_L1_x0 p0)) (And.intro (T_le (τ := taint_copied_L1_st p0 0 []) ?_ (TL.loop (ih_taint_copied_L1 p0 0 [] o1 ho))) (join1 ?_))
    · exact (Le.ownH 0 4 27 5 rfl rfl sizeNil).trans (Le.tow 2 1 rfl (.cons rfl (.refl _) (.cons rfl (.refl _) (.cons rfl (.refl _) (.cons rfl (.refl _) (.cons rfl (.refl _) (.nil)))))) (.refl _) rfl)
    have h := hk
    refine st_ret (t := t_taint_copied) h ?_
    exact .refl _
  · intro taint_copied' taint_copied_L1' ih_taint_copied ih_taint_copied_L1 p0 v11 h0_4 o1 h
    refine TL.round (bwp_sound mixed tbOk (lv := taint_copied_lv) _ _ _ ?_)
    refine st_test h (fun hb h => ?_) (fun hb h => ?_)
    · refine st_idx (l := p0.L) (c := c_api_Val) (c' := l_api_Val) h c_api_Val_eq (fun _ => rfl) (by decide) (fun x2 hi h => ?_)
      refine And.intro (by decide +kernel) (And.intro rfl ?_)
      refine st_calld [.agg [iV x2.K, sV x2.S, iV x2.N, bV x2.B, .sl false (x2.L.map c_api_Val)]] t_taint_copied h (fun x3 hy => (ih_taint_copied x2 x3 hy)) (fun x3 hy h => ?_)
      refine st_appo (a := h0_4) (b := [x3]) (c := c_api_Val) h (.cons (.ceq (c_api_Val_eq _) (.refl _)) (.nil)) (fun x => by rw [c_api_Val_eq]; rfl) rfl (fun x4 hi h => ?_)
      refine TL.le (τ := taint_copied_L1_st p0 (wr (v11 + 1)) x4) ?_ ((ih_taint_copied_L1 p0 (wr (v11 + 1)) x4 _ h))
      exact Le.tow 2 1 rfl (.cons rfl (.refl _) (.cons rfl (.refl _) (.cons rfl (.refl _) (.cons rfl (.refl _) (.cons rfl (.refl _) (.nil)))))) (.refl _) rfl
    · exact JP1.a h (Le.tow 2 1 rfl (.cons rfl (.refl _) (.cons rfl (.refl _) (.nil))) (.refl _) rfl)
theorem taint_copied_ok : ∀ (p0 : api_Val) (o : api_Val), taint_copied p0 = some o → PCall Try.prog 70 [.agg [iV p0.K, sV p0.S, iV p0.N, bV p0.B, .sl false (p0.L.map c_api_Val)]] (t_taint_copied o) := fun p0 o h => taint_copied_grp.1 p0 o h
theorem taint_copied_L1_ok : ∀ (p0 : api_Val) (v11 : Int) (h0_4 : (List api_Val)) (o1 : (List api_Val)), taint_copied_L1 p0 v11 h0_4 = some o1 → TL (0, 0) Try.prog 24 taint_copied_L1_c (JP1 (0, 0) 24 o1 (.exit 0) (taint_copied_L1_x0 p0)) (taint_copied_L1_st p0 v11 h0_4) := fun p0 v11 h0_4 o1 h => taint_copied_grp.2 p0 v11 h0_4 o1 h
noncomputable def taint_Elems_L1 (p0 : taint_T) (v5 : (List taint_T)) (v27 : Int) : Option ((List taint_T)) :=
  if (decide (v27 < (p0.V.L.length : Int))) then
    idx p0.V.L v27 >>= fun x5 =>
    taint_copied x5 >>= fun x6 =>
    appL 72 v5 [(taint_T.mk x6 p0.Secret)] >>= fun x7 =>
    taint_Elems_L1 p0 x7 (wr (v27 + 1))
  else
    some v5
  partial_fixpoint
set_option maxRecDepth 100000 in
set_option maxHeartbeats 4000000 in
theorem taint_Elems_L1_grp : ∀ (p0 : taint_T), (∀ (v5 : (List taint_T)) (v27 : Int) (o4 : (List taint_T)), taint_Elems_L1 p0 v5 v27 = some o4 → TL (0, 0) Try.prog 41 taint_Elems_L1_c (JP1 (0, 0) 41 o4 (.exit 0) (taint_Elems_L1_x0 p0)) (taint_Elems_L1_st p0 v5 v27)) := by
  intro p0
  refine taint_Elems_L1.partial_correctness p0 _ ?_
  intro taint_Elems_L1' ih_taint_Elems_L1 v5 v27 o4 h
  refine TL.round (bwp_sound mixed tbOk (lv := taint_Elems_lv) _ _ _ ?_)
  refine st_test h (fun hb h => ?_) (fun hb h => ?_)
  · refine st_idx (l := p0.V.L) (c := c_api_Val) (c' := l_api_Val) h c_api_Val_eq (fun _ => rfl) (by decide) (fun x5 hi h => ?_)
    refine And.intro (by decide +kernel) (And.intro rfl ?_)
    refine st_calld [.agg [iV x5.K, sV x5.S, iV x5.N, bV x5.B, .sl false (x5.L.map c_api_Val)]] t_taint_copied h (fun x6 hy => (taint_copied_ok x5 x6 hy)) (fun x6 hy h => ?_)
    refine st_appo (a := v5) (b := [(taint_T.mk x6 p0.Secret)]) (c := c_taint_T) h (.refl _) (fun _ => rfl) rfl (fun x7 hi h => ?_)
    refine TL.le (τ := taint_Elems_L1_st p0 x7 (wr (v27 + 1))) ?_ ((ih_taint_Elems_L1 x7 (wr (v27 + 1)) _ h))
    exact Le.tow 1 1 rfl (.cons rfl (.refl _) (.cons rfl (.refl _) (.cons rfl (.refl _) (.cons rfl (.refl _) (.cons rfl (.refl _) (.nil)))))) (.refl _) rfl
  · exact JP1.a h (Le.tow 1 1 rfl (.cons rfl (.refl _) (.nil)) (.refl _) rfl)
theorem taint_Elems_L1_ok : ∀ (p0 : taint_T) (v5 : (List taint_T)) (v27 : Int) (o4 : (List taint_T)), taint_Elems_L1 p0 v5 v27 = some o4 → TL (0, 0) Try.prog 41 taint_Elems_L1_c (JP1 (0, 0) 41 o4 (.exit 0) (taint_Elems_L1_x0 p0)) (taint_Elems_L1_st p0 v5 v27) := fun p0 v5 v27 o4 h => (taint_Elems_L1_grp p0) v5 v27 o4 h
noncomputable def taint_Elems (p0 : taint_T) : Option ((List taint_T)) :=
  kind_Elem p0.V.K >>= fun x1 =>
  ( if (!x1.2) then
      some true
    else
      schema_Is p0.V >>= fun x3 =>
      some (!x3)) >>= fun o2 =>
  if o2 then
    some []
  else
    (taint_Elems_L1 p0 [] 0) >>= fun o4 =>
    some o4
set_option maxRecDepth 100000 in
set_option maxHeartbeats 4000000 in
theorem taint_Elems_ok : ∀ (p0 : taint_T) (o : (List taint_T)), taint_Elems p0 = some o → PCall Try.prog 36 [.agg [iV p0.V.K, sV p0.V.S, iV p0.V.N, bV p0.V.B, .sl false (p0.V.L.map c_api_Val), bV p0.Secret]] (t_taint_Elems o) := by
  intro p0 o h
  unfold taint_Elems at h
  refine PCall.ofB mixed tbOk taint_Elems_lv Try.func36 rfl (by kernel_rfl) (Nat.le_of_ble_eq_true rfl) ?_
  refine st_call [iV p0.V.K] t_kind_Elem h (fun x1 hy => (kind_Elem_ok p0.V.K x1 hy)) (fun x1 hy h => ?_)
  refine st_bind h (fun o2 ho hk => ?_)
  refine Exists.intro (JP1 _ _ o2 .normal (taint_Elems_J0_0 p0)) (And.intro ?_ (join1 ?_))
  · have h := ho
    refine st_test h (fun hb h => ?_) (fun hb h => ?_)
    · exact JP1.a h (Le.tow 1 0 rfl (.cons rfl (.refl _) (.cons rfl (.refl _) (.nil))) (.refl _) rfl)
    · refine st_call [.agg [iV p0.V.K, sV p0.V.S, iV p0.V.N, bV p0.V.B, .sl false (p0.V.L.map c_api_Val)]] t_schema_Is h (fun x3 hy => (schema_Is_ok p0.V x3 hy)) (fun x3 hy h => ?_)
      exact JP1.a h (Le.tow 1 0 rfl (.cons rfl (.refl _) (.cons rfl (.refl _) (.nil))) (.refl _) rfl)
  · have h := hk
    refine st_test h (fun hb h => ?_) (fun hb h => ?_)
    · refine st_ret (t := t_taint_Elems) h ?_
      exact .p (.not)
    · refine view (lenMap _ _) rfl ?_
      refine st_bind h (fun o4 ho hk => ?_)
      refine Exists.intro (JP1 _ _ o4 (.exit 0) (taint_Elems_L1_x0 p0)) (And.intro (T_le (τ := taint_Elems_L1_st p0 [] 0) ?_ (TL.loop (taint_Elems_L1_ok p0 [] 0 o4 ho))) (join1 ?_))
      · exact (Le.own 5 29 6 rfl sizeNil).trans (Le.tow 1 1 rfl (.cons rfl (.refl _) (.cons rfl (.refl _) (.cons rfl (.refl _) (.cons rfl (.refl _) (.cons rfl (.refl _) (.nil)))))) (.refl _) rfl)
      have h := hk
      refine st_ret (t := t_taint_Elems) h ?_
      exact .refl _
noncomputable def taint_Field (p0 : taint_T) (p1 : (List UInt8)) : Option (taint_T × Bool) :=
  schema_Get p0.V p1 >>= fun x1 =>
  ( if x1.2 then
      some p0.Secret
    else
      some false) >>= fun o2 =>
  some ((taint_T.mk x1.1 o2), x1.2)
set_option maxRecDepth 100000 in
set_option maxHeartbeats 4000000 in
theorem taint_Field_ok : ∀ (p0 : taint_T) (p1 : (List UInt8)) (o : taint_T × Bool), taint_Field p0 p1 = some o → PCall Try.prog 33 [.agg [iV p0.V.K, sV p0.V.S, iV p0.V.N, bV p0.V.B, .sl false (p0.V.L.map c_api_Val), bV p0.Secret], sV p1] (t_taint_Field o) := by
  intro p0 p1 o h
  unfold taint_Field at h
  refine PCall.ofB mixed tbOk taint_Field_lv Try.func33 rfl (by kernel_rfl) (Nat.le_of_ble_eq_true rfl) ?_
  refine st_call [.agg [iV p0.V.K, sV p0.V.S, iV p0.V.N, bV p0.V.B, .sl false (p0.V.L.map c_api_Val)], sV p1] t_schema_Get h (fun x1 hy => (schema_Get_ok p0.V p1 x1 hy)) (fun x1 hy h => ?_)
  refine st_bind h (fun o2 ho hk => ?_)
  refine Exists.intro (JP1 _ _ o2 .normal (taint_Field_J0_0 p0 x1)) (And.intro ?_ (join1 ?_))
  · have h := ho
    refine st_test h (fun hb h => ?_) (fun hb h => ?_)
    · exact JP1.a h (Le.tow 3 0 rfl (.cons rfl (.refl _) (.cons rfl (.refl _) (.nil))) (.refl _) rfl)
    · exact JP1.a h (Le.tow 3 0 rfl (.cons rfl (.refl _) (.cons rfl (.refl _) (.nil))) (.refl _) rfl)
  · have h := hk
    refine st_ret (t := t_taint_Field) h ?_
    exact .refl _
noncomputable def nunciolaw30_TaintParts (p0 : R30_T) (p1 : (List UInt8)) : Option (Bool) :=
  nunciolaw16_Light p0.V 5 >>= fun x1 =>
  nunciolaw30_mine (R30_T.mk x1 p0.Secret) >>= fun x2 =>
  taint_Field x2 p1 >>= fun x3 =>
  R30_Field (R30_T.mk x1 p0.Secret) p1 >>= fun x4 =>
  nunciolaw30_mine (R30_T.mk x1 p0.Secret) >>= fun x5 =>
  taint_Elems x5 >>= fun x6 =>
  R30_Elems (R30_T.mk x1 p0.Secret) >>= fun x7 =>
  ( if (x3.2 != x4.2) then
      some true
    else
      nunciolaw30_its x3.1 >>= fun x9 =>
      R30_Same x9 x4.1 >>= fun x10 =>
      if (!x10) then
        some true
      else
        some ((x6.length : Int) != (x7.length : Int))) >>= fun o8 =>
  if o8 then
    some false
  else
    (nunciolaw30_TaintParts_L1 p0 x1 x3 x4 x6 x7 0) >>= fun o11 =>
    match o11 with
    | .inl y12 =>
      nunciolaw30_awake >>= fun x18 =>
      some x18
    | .inr y13 =>
      some false
set_option maxRecDepth 100000 in
set_option maxHeartbeats 4000000 in
theorem nunciolaw30_TaintParts_ok : ∀ (p0 : R30_T) (p1 : (List UInt8)) (o : Bool), nunciolaw30_TaintParts p0 p1 = some o → PCall Try.prog 8 [.agg [iV p0.V.K, sV p0.V.S, iV p0.V.N, bV p0.V.B, .sl false (p0.V.L.map c_api_Val), bV p0.Secret], sV p1] (t_nunciolaw30_TaintParts o) := by
  intro p0 p1 o h
  unfold nunciolaw30_TaintParts at h
  refine PCall.ofB mixed tbOk nunciolaw30_TaintParts_lv Try.func8 rfl (by kernel_rfl) (Nat.le_of_ble_eq_true rfl) ?_
  refine st_call [.agg [iV p0.V.K, sV p0.V.S, iV p0.V.N, bV p0.V.B, .sl false (p0.V.L.map c_api_Val)], iV 5] t_nunciolaw16_Light h (fun x1 hy => (nunciolaw16_Light_ok p0.V 5 x1 hy)) (fun x1 hy h => ?_)
  refine st_call [.agg [iV x1.K, sV x1.S, iV x1.N, bV x1.B, .sl false (x1.L.map c_api_Val), bV p0.Secret]] t_nunciolaw30_mine h (fun x2 hy => (nunciolaw30_mine_ok (R30_T.mk x1 p0.Secret) x2 hy)) (fun x2 hy h => ?_)
  refine st_call [.agg [iV x2.V.K, sV x2.V.S, iV x2.V.N, bV x2.V.B, .sl false (x2.V.L.map c_api_Val), bV x2.Secret], sV p1] t_taint_Field h (fun x3 hy => (taint_Field_ok x2 p1 x3 hy)) (fun x3 hy h => ?_)
  refine st_call [.agg [iV x1.K, sV x1.S, iV x1.N, bV x1.B, .sl false (x1.L.map c_api_Val), bV p0.Secret], sV p1] t_R30_Field h (fun x4 hy => (R30_Field_ok (R30_T.mk x1 p0.Secret) p1 x4 hy)) (fun x4 hy h => ?_)
  refine And.intro (by decide +kernel) (And.intro rfl ?_)
  refine st_calld [.agg [iV x1.K, sV x1.S, iV x1.N, bV x1.B, .sl false (x1.L.map c_api_Val), bV p0.Secret]] t_nunciolaw30_mine h (fun x5 hy => (nunciolaw30_mine_ok (R30_T.mk x1 p0.Secret) x5 hy)) (fun x5 hy h => ?_)
  refine st_calld [.agg [iV x5.V.K, sV x5.V.S, iV x5.V.N, bV x5.V.B, .sl false (x5.V.L.map c_api_Val), bV x5.Secret]] t_taint_Elems h (fun x6 hy => (taint_Elems_ok x5 x6 hy)) (fun x6 hy h => ?_)
  refine st_calld [.agg [iV x1.K, sV x1.S, iV x1.N, bV x1.B, .sl false (x1.L.map c_api_Val), bV p0.Secret]] t_R30_Elems h (fun x7 hy => (R30_Elems_ok (R30_T.mk x1 p0.Secret) x7 hy)) (fun x7 hy h => ?_)
  refine st_bind h (fun o8 ho hk => ?_)
  refine Exists.intro (JP1 _ _ o8 .normal (nunciolaw30_TaintParts_J0_0 p0 x1 x3 x4 x6 x7)) (And.intro ?_ (join1 ?_))
  · have h := ho
    refine And.intro (by decide +kernel) (And.intro rfl ?_)
    refine st_test h (fun hb h => ?_) (fun hb h => ?_)
    · refine bT ?_
      exact JP1.a h (Le.tow 3 0 rfl (.cons rfl (.refl _) (.cons rfl (.refl _) (.cons rfl (.refl _) (.nil)))) (.refl _) rfl)
    · refine st_calld [.agg [iV x3.1.V.K, sV x3.1.V.S, iV x3.1.V.N, bV x3.1.V.B, .sl false (x3.1.V.L.map c_api_Val), bV x3.1.Secret]] t_nunciolaw30_its h (fun x9 hy => (nunciolaw30_its_ok x3.1 x9 hy)) (fun x9 hy h => ?_)
      refine st_calld [.agg [iV x9.V.K, sV x9.V.S, iV x9.V.N, bV x9.V.B, .sl false (x9.V.L.map c_api_Val), bV x9.Secret], .agg [iV x4.1.V.K, sV x4.1.V.S, iV x4.1.V.N, bV x4.1.V.B, .sl false (x4.1.V.L.map c_api_Val), bV x4.1.Secret]] t_R30_Same h (fun x10 hy => (R30_Same_ok x9 x4.1 x10 hy)) (fun x10 hy h => ?_)
      refine st_test h (fun hb h => ?_) (fun hb h => ?_)
      · exact JP1.a h (Le.tow 3 0 rfl (.cons rfl (.refl _) (.cons rfl (.refl _) (.cons rfl (.refl _) (.nil)))) (.refl _) rfl)
      · refine view (lenMap _ _) rfl ?_
        refine view (lenMap _ _) rfl ?_
        exact JP1.a h (Le.tow 3 0 rfl (.cons rfl (.refl _) (.cons rfl (.refl _) (.cons rfl (.refl _) (.nil)))) (.refl _) rfl)
  · have h := hk
    refine st_test h (fun hb h => ?_) (fun hb h => ?_)
    · refine st_ret (t := t_nunciolaw30_TaintParts) h ?_
      exact .refl _
    · refine st_bind h (fun o11 ho hk => ?_)
      refine Exists.intro (JP2 _ _ o11 (.exit 0) (nunciolaw30_TaintParts_L1_x0 p0 x1 x3 x4 x6 x7) .ret (nunciolaw30_TaintParts_L1_x1 p0 x1 x3 x4 x6 x7)) (And.intro (T_le (τ := nunciolaw30_TaintParts_L1_st p0 x1 x3 x4 x6 x7 0) ?_ (TL.loop (nunciolaw30_TaintParts_L1_ok p0 x1 x3 x4 x6 x7 0 o11 ho))) (join2 (fun y12 hy => ?_) (fun y13 hy => ?_)))
      · exact Le.tow 3 0 rfl (.cons rfl (.refl _) (.cons rfl (.refl _) (.cons rfl (.refl _) (.nil)))) (.refl _) rfl
      · have h := (by rw [hy] at hk; exact hk)
        refine st_call [] t_nunciolaw30_awake h (fun x18 hy => (nunciolaw30_awake_ok x18 hy)) (fun x18 hy h => ?_)
        refine st_ret (t := t_nunciolaw30_TaintParts) h ?_
        exact .refl _
      · have h := (by rw [hy] at hk; exact hk)
        refine st_ret (t := t_nunciolaw30_TaintParts) h ?_
        exact .refl _
end Go.Proofs.Ytcegigccehapdaa
