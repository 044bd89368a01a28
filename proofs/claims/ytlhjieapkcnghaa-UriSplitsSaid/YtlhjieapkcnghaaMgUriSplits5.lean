/- The proof's texts, part 5 of 6: the walks by a logic in which data are by value, the plain laws, and at the end the law, for every input. -/
import Derived.Test.YtlhjieapkcnghaaMgUriSplits4

section
set_option linter.unusedVariables false
set_option linter.unusedSimpArgs false
namespace Go.Proofs.Ytlhjieapkcnghaa
open Go.RowKit

structure R12_Uri where
  Scheme : (List UInt8)
  User : (List UInt8)
  Host : (List UInt8)
  Port : (List UInt8)
  Path : (List UInt8)
  Query : (List UInt8)
  Frag : (List UInt8)
  Auth : Bool
  HasUser : Bool
  HasPort : Bool
  HasQuery : Bool
  HasFrag : Bool
structure uri_Uri where
  Scheme : (List UInt8)
  User : (List UInt8)
  Host : (List UInt8)
  Port : (List UInt8)
  Path : (List UInt8)
  Query : (List UInt8)
  Frag : (List UInt8)
  Auth : Bool
  HasUser : Bool
  HasPort : Bool
  HasQuery : Bool
  HasFrag : Bool
noncomputable def t_R01_Begins (y : Bool) : D := .p (bV y)
noncomputable def R01_Begins_lv : List (Nat × List Nat) := [(0, [0, 1, 2]), (1, [6]), (3000001, [])]
noncomputable def R01_Begins_J0_0  (o1 : Bool) : St := ⟨[(6, .p (bV o1))], ⟨[], []⟩⟩
noncomputable def t_R01_Byte (y : Int × Bool) : D := .tup [.p (nV .u8 y.1), .p (bV y.2)]
noncomputable def R01_Byte_lv : List (Nat × List Nat) := [(0, [0, 1]), (1, [0, 1, 16]), (2, [4, 5]), (3, [6, 7]), (4, [6, 7, 31]), (5, [4, 5]), (6, [4, 5]), (3000001, []), (3000004, [])]
noncomputable def R01_Byte_J0_0 (p0 : (List UInt8)) (p1 : Int) (o1 : Bool) : St := ⟨[(0, .p (sV p0)), (1, .p (iV p1)), (16, .p (bV o1))], ⟨[], []⟩⟩
noncomputable def R01_Byte_J1_0 (x3 : Int) (x5 : Int) (o6 : Bool) : St := ⟨[(6, .p (iV x3)), (7, .p (iV x5)), (31, .p (bV o6))], ⟨[], []⟩⟩
noncomputable def t_R01_digit (y : Int) : D := .p (iV y)
noncomputable def R01_digit_lv : List (Nat × List Nat) := [(0, [0]), (1, [0, 8]), (2, [2]), (3, [0, 17]), (4, [2]), (5, [0, 27]), (6, [2]), (7, [2]), (3000001, []), (3000003, []), (3000005, [])]
noncomputable def R01_digit_J0_0 (p0 : Int) (o1 : Bool) : St := ⟨[(0, .p (nV .u8 p0)), (8, .p (bV o1))], ⟨[], []⟩⟩
noncomputable def R01_digit_J1_0 (p0 : Int) (o2 : Bool) : St := ⟨[(0, .p (nV .u8 p0)), (17, .p (bV o2))], ⟨[], []⟩⟩
noncomputable def R01_digit_J2_0 (p0 : Int) (o3 : Bool) : St := ⟨[(0, .p (nV .u8 p0)), (27, .p (bV o3))], ⟨[], []⟩⟩
noncomputable def t_R08_Free (y : Bool) : D := .p (bV y)
noncomputable def R08_Free_lv : List (Nat × List Nat) := [(0, [0]), (1, [2]), (3000001, [])]
noncomputable def R08_Free_J0_0  (o1 : Bool) : St := ⟨[(2, .p (bV o1))], ⟨[], []⟩⟩
noncomputable def t_R12_Split (y : R12_Uri × Int) : D := .tup [.p (.agg [sV y.1.Scheme, sV y.1.User, sV y.1.Host, sV y.1.Port, sV y.1.Path, sV y.1.Query, sV y.1.Frag, bV y.1.Auth, bV y.1.HasUser, bV y.1.HasPort, bV y.1.HasQuery, bV y.1.HasFrag]), .p (iV y.2)]
noncomputable def R12_Split_lv : List (Nat × List Nat) := [(0, [0, 2]), (1, [0, 2, 4]), (2, [0, 2, 4, 5]), (3, [0, 2, 4, 5, 22]), (4, [0, 2, 4, 5, 27]), (5, [2, 3]), (6, [0, 2, 4, 5]), (7, [0, 2, 4]), (8, [0, 2, 4, 38]), (9, [0, 2, 4, 6]), (10, [0, 2, 4, 6, 7, 8]), (11, [0, 2, 4, 6, 7, 52]), (12, [2, 3]), (13, [0, 2, 4, 6]), (14, [0, 2, 4]), (15, [0, 2, 4, 9]), (16, [0, 2, 4, 9]), (17, [0, 2, 4]), (18, [0, 2, 4, 68]), (19, [0, 2, 4, 9]), (20, [0, 2, 4, 9]), (21, [0, 2, 4, 9]), (22, [0, 2, 4]), (23, [0, 2, 4, 81]), (24, [0, 2, 4]), (25, [2, 4]), (26, [2, 4, 101]), (27, [2, 3]), (28, [2, 3]), (2003015, []), (2008019, []), (2018011, []), (2023007, []), (3000003, []), (3000026, [])]
noncomputable def R12_Split_J0_0  (y3 : (List UInt8) × (List UInt8)) : St := ⟨[(0, .p (sV y3.1)), (2, .ptr 0 0), (4, .ptr 1 0)], ⟨[[.p (sV []), .p (sV []), .p (sV []), .p (sV []), .p (sV []), .p (sV []), .p (sV []), .p (bV false), .p (bV false), .p (bV false), .p (bV false), .p (bV false)], [.p (sV y3.2), .p (sV []), .p (sV []), .p (sV []), .p (sV []), .p (sV []), .p (sV []), .p (bV false), .p (bV false), .p (bV false), .p (bV false), .p (bV false)]], []⟩⟩
noncomputable def R12_Split_J0_1  (y4 : Unit) : St := ⟨[(2, .ptr 0 0), (3, .p (iV 7))], ⟨[[.p (sV []), .p (sV []), .p (sV []), .p (sV []), .p (sV []), .p (sV []), .p (sV []), .p (bV false), .p (bV false), .p (bV false), .p (bV false), .p (bV false)], [.p (sV []), .p (sV []), .p (sV []), .p (sV []), .p (sV []), .p (sV []), .p (sV []), .p (bV false), .p (bV false), .p (bV false), .p (bV false), .p (bV false)]], []⟩⟩
noncomputable def R12_Split_J1_0 (p0 : (List UInt8)) (x1 : Int) (o5 : Bool) : St := ⟨[(0, .p (sV p0)), (2, .ptr 0 0), (4, .ptr 1 0), (5, .p (iV x1)), (22, .p (bV o5))], ⟨[[.p (sV []), .p (sV []), .p (sV []), .p (sV []), .p (sV []), .p (sV []), .p (sV []), .p (bV false), .p (bV false), .p (bV false), .p (bV false), .p (bV false)], [.p (sV []), .p (sV []), .p (sV []), .p (sV []), .p (sV []), .p (sV []), .p (sV []), .p (bV false), .p (bV false), .p (bV false), .p (bV false), .p (bV false)]], []⟩⟩
noncomputable def R12_Split_J2_0 (y3 : (List UInt8) × (List UInt8)) (y12 : (List UInt8) × (List UInt8) × (List UInt8) × (List UInt8) × (List UInt8) × (List UInt8) × (List UInt8) × (List UInt8) × Bool × Bool × Bool × Bool × Bool) : St := ⟨[(0, .p (sV y12.1)), (2, .ptr 0 0), (4, .ptr 1 0)], ⟨[[.p (sV []), .p (sV []), .p (sV []), .p (sV []), .p (sV []), .p (sV []), .p (sV []), .p (bV false), .p (bV false), .p (bV false), .p (bV false), .p (bV false)], [.p (sV y12.2.1), .p (sV y12.2.2.1), .p (sV y12.2.2.2.1), .p (sV y12.2.2.2.2.1), .p (sV y12.2.2.2.2.2.1), .p (sV y12.2.2.2.2.2.2.1), .p (sV y12.2.2.2.2.2.2.2.1), .p (bV y12.2.2.2.2.2.2.2.2.1), .p (bV y12.2.2.2.2.2.2.2.2.2.1), .p (bV y12.2.2.2.2.2.2.2.2.2.2.1), .p (bV y12.2.2.2.2.2.2.2.2.2.2.2.1), .p (bV y12.2.2.2.2.2.2.2.2.2.2.2.2)]], []⟩⟩
noncomputable def R12_Split_J2_1 (y3 : (List UInt8) × (List UInt8)) (y13 : (List UInt8) × (List UInt8) × (List UInt8) × (List UInt8) × (List UInt8) × (List UInt8) × (List UInt8) × Bool × Bool × Bool × Bool × Bool) : St := ⟨[(2, .ptr 0 0), (3, .p (iV 7))], ⟨[[.p (sV []), .p (sV []), .p (sV []), .p (sV []), .p (sV []), .p (sV []), .p (sV []), .p (bV false), .p (bV false), .p (bV false), .p (bV false), .p (bV false)], [.p (sV y3.2), .p (sV []), .p (sV []), .p (sV []), .p (sV []), .p (sV []), .p (sV []), .p (bV false), .p (bV false), .p (bV false), .p (bV false), .p (bV false)], [.p (sV y13.1), .p (sV y13.2.1), .p (sV y13.2.2.1), .p (sV y13.2.2.2.1), .p (sV y13.2.2.2.2.1), .p (sV y13.2.2.2.2.2.1), .p (sV y13.2.2.2.2.2.2.1), .p (bV y13.2.2.2.2.2.2.2.1), .p (bV y13.2.2.2.2.2.2.2.2.1), .p (bV y13.2.2.2.2.2.2.2.2.2.1), .p (bV y13.2.2.2.2.2.2.2.2.2.2.1), .p (bV y13.2.2.2.2.2.2.2.2.2.2.2)]], []⟩⟩
noncomputable def R12_Split_J3_0 (y12 : (List UInt8) × (List UInt8) × (List UInt8) × (List UInt8) × (List UInt8) × (List UInt8) × (List UInt8) × (List UInt8) × Bool × Bool × Bool × Bool × Bool) (x21 : (List UInt8)) (o23 : (List UInt8) × (List UInt8) × Bool) : St := ⟨[(0, .p (sV o23.1)), (2, .ptr 0 0), (4, .ptr 1 0)], ⟨[[.p (sV []), .p (sV []), .p (sV []), .p (sV []), .p (sV []), .p (sV []), .p (sV []), .p (bV false), .p (bV false), .p (bV false), .p (bV false), .p (bV false)], [.p (sV y12.2.1), .p (sV y12.2.2.1), .p (sV y12.2.2.2.1), .p (sV y12.2.2.2.2.1), .p (sV x21), .p (sV o23.2.1), .p (sV y12.2.2.2.2.2.2.2.1), .p (bV y12.2.2.2.2.2.2.2.2.1), .p (bV y12.2.2.2.2.2.2.2.2.2.1), .p (bV y12.2.2.2.2.2.2.2.2.2.2.1), .p (bV o23.2.2), .p (bV y12.2.2.2.2.2.2.2.2.2.2.2.2)]], []⟩⟩
noncomputable def R12_Split_J4_0 (y12 : (List UInt8) × (List UInt8) × (List UInt8) × (List UInt8) × (List UInt8) × (List UInt8) × (List UInt8) × (List UInt8) × Bool × Bool × Bool × Bool × Bool) (x21 : (List UInt8)) (o23 : (List UInt8) × (List UInt8) × Bool) (o28 : (List UInt8) × Bool) : St := ⟨[(2, .ptr 0 0), (4, .ptr 1 0)], ⟨[[.p (sV []), .p (sV []), .p (sV []), .p (sV []), .p (sV []), .p (sV []), .p (sV []), .p (bV false), .p (bV false), .p (bV false), .p (bV false), .p (bV false)], [.p (sV y12.2.1), .p (sV y12.2.2.1), .p (sV y12.2.2.2.1), .p (sV y12.2.2.2.2.1), .p (sV x21), .p (sV o23.2.1), .p (sV o28.1), .p (bV y12.2.2.2.2.2.2.2.2.1), .p (bV y12.2.2.2.2.2.2.2.2.2.1), .p (bV y12.2.2.2.2.2.2.2.2.2.2.1), .p (bV o23.2.2), .p (bV o28.2)]], []⟩⟩
noncomputable def R12_Split_J5_0 (y12 : (List UInt8) × (List UInt8) × (List UInt8) × (List UInt8) × (List UInt8) × (List UInt8) × (List UInt8) × (List UInt8) × Bool × Bool × Bool × Bool × Bool) (x21 : (List UInt8)) (o23 : (List UInt8) × (List UInt8) × Bool) (o28 : (List UInt8) × Bool) (o30 : Bool) : St := ⟨[(2, .ptr 0 0), (4, .ptr 1 0), (101, .p (bV o30))], ⟨[[.p (sV []), .p (sV []), .p (sV []), .p (sV []), .p (sV []), .p (sV []), .p (sV []), .p (bV false), .p (bV false), .p (bV false), .p (bV false), .p (bV false)], [.p (sV y12.2.1), .p (sV y12.2.2.1), .p (sV y12.2.2.2.1), .p (sV y12.2.2.2.2.1), .p (sV x21), .p (sV o23.2.1), .p (sV o28.1), .p (bV y12.2.2.2.2.2.2.2.2.1), .p (bV y12.2.2.2.2.2.2.2.2.2.1), .p (bV y12.2.2.2.2.2.2.2.2.2.2.1), .p (bV o23.2.2), .p (bV o28.2)]], []⟩⟩
noncomputable def t_R12_authority (y : R12_Uri × Bool) : D := .tup [.p (.agg [sV y.1.Scheme, sV y.1.User, sV y.1.Host, sV y.1.Port, sV y.1.Path, sV y.1.Query, sV y.1.Frag, bV y.1.Auth, bV y.1.HasUser, bV y.1.HasPort, bV y.1.HasQuery, bV y.1.HasFrag]), .p (bV y.2)]
noncomputable def R12_authority_lv : List (Nat × List Nat) := [(0, [1, 2, 4]), (1, [1, 2, 4]), (2, [1, 2, 4, 6]), (3, [1, 2, 4, 6, 15]), (4, [1, 2, 4, 6]), (5, [1, 2, 4, 6]), (6, [1, 2, 4]), (7, [1, 2, 4, 28]), (8, [4, 5]), (9, [1, 2, 4, 7]), (10, [1, 2, 4, 7]), (11, [1, 2, 4, 7, 39]), (12, [1, 2, 4, 7]), (13, [2, 4]), (14, [2, 4, 8]), (15, [2, 4, 8, 50]), (16, [2, 4, 8]), (17, [2, 4, 8, 58]), (18, [4, 5]), (19, [4, 5]), (1000015, [2, 4, 8]), (2003017, []), (2011007, [])]
noncomputable def R12_authority_J0_0 (p0 : R12_Uri) (y3 : (List UInt8) × (List UInt8) × Bool) : St := ⟨[(1, .p (sV y3.1)), (2, .ptr 0 0), (4, .ptr 1 0)], ⟨[[.p (sV p0.Scheme), .p (sV y3.2.1), .p (sV p0.Host), .p (sV p0.Port), .p (sV p0.Path), .p (sV p0.Query), .p (sV p0.Frag), .p (bV true), .p (bV y3.2.2), .p (bV p0.HasPort), .p (bV p0.HasQuery), .p (bV p0.HasFrag)], [.p (sV []), .p (sV []), .p (sV []), .p (sV []), .p (sV []), .p (sV []), .p (sV []), .p (bV false), .p (bV false), .p (bV false), .p (bV false), .p (bV false)]], []⟩⟩
noncomputable def R12_authority_J0_1 (p0 : R12_Uri) (y4 : (List UInt8) × (List UInt8)) : St := ⟨[(4, .ptr 1 0), (5, .p (bV false))], ⟨[[.p (sV p0.Scheme), .p (sV y4.1), .p (sV p0.Host), .p (sV p0.Port), .p (sV p0.Path), .p (sV p0.Query), .p (sV p0.Frag), .p (bV true), .p (bV true), .p (bV p0.HasPort), .p (bV p0.HasQuery), .p (bV p0.HasFrag)], [.p (sV p0.Scheme), .p (sV y4.2), .p (sV p0.Host), .p (sV p0.Port), .p (sV p0.Path), .p (sV p0.Query), .p (sV p0.Frag), .p (bV true), .p (bV true), .p (bV p0.HasPort), .p (bV p0.HasQuery), .p (bV p0.HasFrag)]], []⟩⟩
noncomputable def R12_authority_J1_0 (p0 : R12_Uri) (y3 : (List UInt8) × (List UInt8) × Bool) (x9 : (List UInt8)) (o10 : (List UInt8) × Bool) : St := ⟨[(2, .ptr 0 0), (4, .ptr 1 0)], ⟨[[.p (sV p0.Scheme), .p (sV y3.2.1), .p (sV x9), .p (sV o10.1), .p (sV p0.Path), .p (sV p0.Query), .p (sV p0.Frag), .p (bV true), .p (bV y3.2.2), .p (bV o10.2), .p (bV p0.HasQuery), .p (bV p0.HasFrag)], [.p (sV []), .p (sV []), .p (sV []), .p (sV []), .p (sV []), .p (sV []), .p (sV []), .p (bV false), .p (bV false), .p (bV false), .p (bV false), .p (bV false)]], []⟩⟩
noncomputable def R12_authority_L1_st (p0 : R12_Uri) (y3 : (List UInt8) × (List UInt8) × Bool) (x9 : (List UInt8)) (o10 : (List UInt8) × Bool) (v8 : Int) : St := ⟨[(2, .ptr 0 0), (4, .ptr 1 0), (8, .p (iV v8))], ⟨[[.p (sV p0.Scheme), .p (sV y3.2.1), .p (sV x9), .p (sV o10.1), .p (sV p0.Path), .p (sV p0.Query), .p (sV p0.Frag), .p (bV true), .p (bV y3.2.2), .p (bV o10.2), .p (bV p0.HasQuery), .p (bV p0.HasFrag)], [.p (sV []), .p (sV []), .p (sV []), .p (sV []), .p (sV []), .p (sV []), .p (sV []), .p (bV false), .p (bV false), .p (bV false), .p (bV false), .p (bV false)]], []⟩⟩
noncomputable def R12_authority_L1_x0 (p0 : R12_Uri) (y3 : (List UInt8) × (List UInt8) × Bool) (x9 : (List UInt8)) (o10 : (List UInt8) × Bool) (y13 : Unit) : St := ⟨[(2, .ptr 0 0), (4, .ptr 1 0)], ⟨[[.p (sV p0.Scheme), .p (sV y3.2.1), .p (sV x9), .p (sV o10.1), .p (sV p0.Path), .p (sV p0.Query), .p (sV p0.Frag), .p (bV true), .p (bV y3.2.2), .p (bV o10.2), .p (bV p0.HasQuery), .p (bV p0.HasFrag)], [.p (sV []), .p (sV []), .p (sV []), .p (sV []), .p (sV []), .p (sV []), .p (sV []), .p (bV false), .p (bV false), .p (bV false), .p (bV false), .p (bV false)]], []⟩⟩
noncomputable def R12_authority_L1_x1 (p0 : R12_Uri) (y3 : (List UInt8) × (List UInt8) × Bool) (x9 : (List UInt8)) (o10 : (List UInt8) × Bool) (y14 : Unit) : St := ⟨[(4, .ptr 1 0), (5, .p (bV false))], ⟨[[.p (sV p0.Scheme), .p (sV y3.2.1), .p (sV x9), .p (sV o10.1), .p (sV p0.Path), .p (sV p0.Query), .p (sV p0.Frag), .p (bV true), .p (bV y3.2.2), .p (bV o10.2), .p (bV p0.HasQuery), .p (bV p0.HasFrag)], [.p (sV p0.Scheme), .p (sV y3.2.1), .p (sV x9), .p (sV o10.1), .p (sV p0.Path), .p (sV p0.Query), .p (sV p0.Frag), .p (bV true), .p (bV y3.2.2), .p (bV o10.2), .p (bV p0.HasQuery), .p (bV p0.HasFrag)]], []⟩⟩
noncomputable def R12_authority_L1_c : Code := ((loopsOf (Try.f41.body.getD .skip)).getD 0 .skip)
noncomputable def t_R12_digit (y : Bool) : D := .p (bV y)
noncomputable def R12_digit_lv : List (Nat × List Nat) := [(0, [0]), (1, [2]), (3000001, [])]
noncomputable def R12_digit_J0_0  (o1 : Bool) : St := ⟨[(2, .p (bV o1))], ⟨[], []⟩⟩
noncomputable def t_R12_fits (y : Bool) : D := .p (bV y)
noncomputable def R12_fits_lv : List (Nat × List Nat) := [(0, [0, 1, 2]), (1, [0, 1, 2, 7]), (2, [0, 1, 2, 7, 14]), (3, [0, 1, 2, 7]), (4, [0, 1, 2, 7, 8]), (5, [0, 1, 2, 7, 8, 22]), (6, [6]), (7, [0, 1, 2, 7, 8, 24]), (8, [0, 1, 2, 7, 10]), (9, [0, 1, 2, 7, 33]), (10, [6]), (11, [0, 1, 2, 7, 47]), (12, [6]), (13, [6]), (1000002, [0, 1, 2, 7]), (3000011, [])]
noncomputable def R12_fits_J0_0 (p0 : (List UInt8)) (p1 : (List UInt8)) (p2 : (List UInt8)) (v7 : Int) (o7 : Bool) : St := ⟨[(0, .p (sV p0)), (1, .p (sV p1)), (2, .p (sV p2)), (7, .p (iV v7)), (47, .p (bV o7))], ⟨[], []⟩⟩
noncomputable def R12_fits_L1_st (p0 : (List UInt8)) (p1 : (List UInt8)) (p2 : (List UInt8)) (v7 : Int) : St := ⟨[(0, .p (sV p0)), (1, .p (sV p1)), (2, .p (sV p2)), (7, .p (iV v7))], ⟨[], []⟩⟩
noncomputable def R12_fits_L1_x0 (p0 : (List UInt8)) (p1 : (List UInt8)) (p2 : (List UInt8)) (y2 : Unit) : St := ⟨[], ⟨[], []⟩⟩
noncomputable def R12_fits_L1_x1 (p0 : (List UInt8)) (p1 : (List UInt8)) (p2 : (List UInt8)) (y3 : Unit) : St := ⟨[(6, .p (bV false))], ⟨[], []⟩⟩
noncomputable def R12_fits_L1_c : Code := ((loopsOf (Try.f42.body.getD .skip)).getD 0 .skip)
noncomputable def t_R12_letter (y : Bool) : D := .p (bV y)
noncomputable def R12_letter_lv : List (Nat × List Nat) := [(0, [0]), (1, [2]), (3000001, [])]
noncomputable def R12_letter_J0_0  (o1 : Bool) : St := ⟨[(2, .p (bV o1))], ⟨[], []⟩⟩
noncomputable def t_R12_one (y : Bool) : D := .p (bV y)
noncomputable def R12_one_lv : List (Nat × List Nat) := [(0, [0, 1]), (1, [0, 1, 5]), (2, [0, 1, 5, 9]), (3, [0, 1, 5]), (4, [0, 1, 5, 16]), (5, [4]), (6, [4]), (1000002, [0, 1, 5])]
noncomputable def R12_one_L1_st (p0 : (List UInt8)) (p1 : Int) (v5 : Int) : St := ⟨[(0, .p (sV p0)), (1, .p (nV .u8 p1)), (5, .p (iV v5))], ⟨[], []⟩⟩
noncomputable def R12_one_L1_x0 (p0 : (List UInt8)) (p1 : Int) (y2 : Unit) : St := ⟨[], ⟨[], []⟩⟩
noncomputable def R12_one_L1_x1 (p0 : (List UInt8)) (p1 : Int) (y3 : Unit) : St := ⟨[(4, .p (bV true))], ⟨[], []⟩⟩
noncomputable def R12_one_L1_c : Code := ((loopsOf (Try.f71.body.getD .skip)).getD 0 .skip)
noncomputable def t_R12_scheme (y : Bool) : D := .p (bV y)
noncomputable def R12_scheme_lv : List (Nat × List Nat) := [(0, [0]), (1, [0, 12]), (2, [2]), (3, [0, 3]), (4, [0, 3, 16]), (5, [0, 3]), (6, [0, 3, 37]), (7, [2]), (8, [2]), (1000004, [0, 3]), (3000001, []), (3000006, [])]
noncomputable def R12_scheme_J0_0 (p0 : (List UInt8)) (o1 : Bool) : St := ⟨[(0, .p (sV p0)), (12, .p (bV o1))], ⟨[], []⟩⟩
noncomputable def R12_scheme_J1_0 (p0 : (List UInt8)) (v3 : Int) (o7 : Bool) : St := ⟨[(0, .p (sV p0)), (3, .p (iV v3)), (37, .p (bV o7))], ⟨[], []⟩⟩
noncomputable def R12_scheme_L1_st (p0 : (List UInt8)) (v3 : Int) : St := ⟨[(0, .p (sV p0)), (3, .p (iV v3))], ⟨[], []⟩⟩
noncomputable def R12_scheme_L1_x0 (p0 : (List UInt8)) (y5 : Unit) : St := ⟨[], ⟨[], []⟩⟩
noncomputable def R12_scheme_L1_x1 (p0 : (List UInt8)) (y6 : Unit) : St := ⟨[(2, .p (bV false))], ⟨[], []⟩⟩
noncomputable def R12_scheme_L1_c : Code := ((loopsOf (Try.f39.body.getD .skip)).getD 0 .skip)
noncomputable def t_R12_upto (y : Int) : D := .p (iV y)
noncomputable def R12_upto_lv : List (Nat × List Nat) := [(0, [0, 1]), (1, [0, 1, 5]), (2, [0, 1, 5, 9]), (3, [0, 1, 5]), (4, [0, 1, 5, 16]), (5, [4]), (6, [4]), (1000002, [0, 1, 5])]
noncomputable def R12_upto_L1_st (p0 : (List UInt8)) (p1 : (List UInt8)) (v5 : Int) : St := ⟨[(0, .p (sV p0)), (1, .p (sV p1)), (5, .p (iV v5))], ⟨[], []⟩⟩
noncomputable def R12_upto_L1_x0 (p0 : (List UInt8)) (p1 : (List UInt8)) (y2 : Unit) : St := ⟨[(0, .p (sV p0))], ⟨[], []⟩⟩
noncomputable def R12_upto_L1_x1 (p0 : (List UInt8)) (p1 : (List UInt8)) (y3 : Int) : St := ⟨[(4, .p (iV y3))], ⟨[], []⟩⟩
noncomputable def R12_upto_L1_c : Code := ((loopsOf (Try.f38.body.getD .skip)).getD 0 .skip)
noncomputable def t_internal_stringslite_Cut (y : (List UInt8) × (List UInt8) × Bool) : D := .tup [.p (sV y.1), .p (sV y.2.1), .p (bV y.2.2)]
noncomputable def internal_stringslite_Cut_lv : List (Nat × List Nat) := [(0, [0, 1]), (1, [0, 1, 7]), (2, [0, 1, 7, 12]), (3, [4, 5, 6]), (4, [4, 5, 6])]
noncomputable def t_internal_stringslite_CutPrefix (y : (List UInt8) × Bool) : D := .tup [.p (sV y.1), .p (bV y.2)]
noncomputable def internal_stringslite_CutPrefix_lv : List (Nat × List Nat) := [(0, [0, 1]), (1, [0, 1, 9]), (2, [4, 5]), (3, [4, 5])]
noncomputable def t_internal_stringslite_HasPrefix (y : Bool) : D := .p (bV y)
noncomputable def internal_stringslite_HasPrefix_lv : List (Nat × List Nat) := [(0, [0, 1]), (1, [4]), (3000001, [])]
noncomputable def internal_stringslite_HasPrefix_J0_0  (o1 : Bool) : St := ⟨[(4, .p (bV o1))], ⟨[], []⟩⟩
noncomputable def t_internal_stringslite_Index (y : Int) : D := .p (iV y)
noncomputable def t_internal_stringslite_IndexByte (y : Int) : D := .p (iV y)
noncomputable def t_nunciolaw12_UriSplits (y : Bool) : D := .p (bV y)
noncomputable def nunciolaw12_UriSplits_lv : List (Nat × List Nat) := [(0, [0]), (1, [0]), (2, [0, 3, 4]), (3, [0, 3, 4, 5, 6]), (4, [2]), (3000004, [])]
noncomputable def nunciolaw12_UriSplits_J0_0 (x2 : uri_Uri × Int) (x3 : R12_Uri × Int) (o4 : Bool) : St := ⟨[(2, .p (bV o4))], ⟨[[.p (sV x2.1.Scheme), .p (sV x2.1.User), .p (sV x2.1.Host), .p (sV x2.1.Port), .p (sV x2.1.Path), .p (sV x2.1.Query), .p (sV x2.1.Frag), .p (bV x2.1.Auth), .p (bV x2.1.HasUser), .p (bV x2.1.HasPort), .p (bV x2.1.HasQuery), .p (bV x2.1.HasFrag)], [.p (sV x3.1.Scheme), .p (sV x3.1.User), .p (sV x3.1.Host), .p (sV x3.1.Port), .p (sV x3.1.Path), .p (sV x3.1.Query), .p (sV x3.1.Frag), .p (bV x3.1.Auth), .p (bV x3.1.HasUser), .p (bV x3.1.HasPort), .p (bV x3.1.HasQuery), .p (bV x3.1.HasFrag)]], []⟩⟩
noncomputable def t_nunciolaw12_awake (y : Bool) : D := .p (bV y)
noncomputable def nunciolaw12_awake_lv : List (Nat × List Nat) := [(0, []), (1, [1, 2]), (2, [1, 2, 3, 4]), (3, [1, 2, 3, 4, 6]), (4, [1, 2, 3, 4, 6, 8]), (5, [0]), (3000005, [])]
noncomputable def nunciolaw12_awake_J0_0 (x1 : uri_Uri × Int) (x2 : uri_Uri × Int) (x3 : uri_Uri × Int) (x4 : uri_Uri × Int) (o5 : Bool) : St := ⟨[(0, .p (bV o5))], ⟨[[.p (sV x1.1.Scheme), .p (sV x1.1.User), .p (sV x1.1.Host), .p (sV x1.1.Port), .p (sV x1.1.Path), .p (sV x1.1.Query), .p (sV x1.1.Frag), .p (bV x1.1.Auth), .p (bV x1.1.HasUser), .p (bV x1.1.HasPort), .p (bV x1.1.HasQuery), .p (bV x1.1.HasFrag)], [.p (sV x2.1.Scheme), .p (sV x2.1.User), .p (sV x2.1.Host), .p (sV x2.1.Port), .p (sV x2.1.Path), .p (sV x2.1.Query), .p (sV x2.1.Frag), .p (bV x2.1.Auth), .p (bV x2.1.HasUser), .p (bV x2.1.HasPort), .p (bV x2.1.HasQuery), .p (bV x2.1.HasFrag)], [.p (sV x3.1.Scheme), .p (sV x3.1.User), .p (sV x3.1.Host), .p (sV x3.1.Port), .p (sV x3.1.Path), .p (sV x3.1.Query), .p (sV x3.1.Frag), .p (bV x3.1.Auth), .p (bV x3.1.HasUser), .p (bV x3.1.HasPort), .p (bV x3.1.HasQuery), .p (bV x3.1.HasFrag)], [.p (sV x4.1.Scheme), .p (sV x4.1.User), .p (sV x4.1.Host), .p (sV x4.1.Port), .p (sV x4.1.Path), .p (sV x4.1.Query), .p (sV x4.1.Frag), .p (bV x4.1.Auth), .p (bV x4.1.HasUser), .p (bV x4.1.HasPort), .p (bV x4.1.HasQuery), .p (bV x4.1.HasFrag)]], []⟩⟩
noncomputable def t_nunciolaw12_few (y : (List UInt8)) : D := .p (sV y)
noncomputable def nunciolaw12_few_lv : List (Nat × List Nat) := [(0, [0]), (1, [2])]
noncomputable def t_nunciolaw12_its (y : R12_Uri) : D := .p (.agg [sV y.Scheme, sV y.User, sV y.Host, sV y.Port, sV y.Path, sV y.Query, sV y.Frag, bV y.Auth, bV y.HasUser, bV y.HasPort, bV y.HasQuery, bV y.HasFrag])
noncomputable def nunciolaw12_its_lv : List (Nat × List Nat) := [(0, [1, 2]), (1, [2])]
noncomputable def t_strings_Builder_String_2 (y : (List UInt8)) : D := .p (sV y)
noncomputable def t_strings_Builder_WriteString_2 (y : Int × Unit × Bool × (List Int)) : D := .tup [.p (iV y.1), .p (.v .nilIface)]
noncomputable def strings_Builder_WriteString_2_lv : List (Nat × List Nat) := [(0, [0, 1]), (1, [0, 1]), (2, [1]), (3, [4, 5])]
noncomputable def t_strings_Builder_copyCheck_2 (_ : Bool) : D := .tup []
noncomputable def t_strings_Cut (y : (List UInt8) × (List UInt8) × Bool) : D := .tup [.p (sV y.1), .p (sV y.2.1), .p (bV y.2.2)]
noncomputable def strings_Cut_lv : List (Nat × List Nat) := [(0, [0, 1]), (1, [4, 5, 6])]
noncomputable def t_strings_CutPrefix (y : (List UInt8) × Bool) : D := .tup [.p (sV y.1), .p (bV y.2)]
noncomputable def strings_CutPrefix_lv : List (Nat × List Nat) := [(0, [0, 1]), (1, [4, 5])]
noncomputable def t_strings_HasPrefix (y : Bool) : D := .p (bV y)
noncomputable def strings_HasPrefix_lv : List (Nat × List Nat) := [(0, [0, 1]), (1, [4])]
noncomputable def t_strings_IndexAny (y : Int) : D := .p (iV y)
noncomputable def t_strings_IndexByte (y : Int) : D := .p (iV y)
noncomputable def strings_IndexByte_lv : List (Nat × List Nat) := [(0, [0, 1]), (1, [4])]
noncomputable def t_uri_Split (y : uri_Uri × Int) : D := .tup [.p (.agg [sV y.1.Scheme, sV y.1.User, sV y.1.Host, sV y.1.Port, sV y.1.Path, sV y.1.Query, sV y.1.Frag, bV y.1.Auth, bV y.1.HasUser, bV y.1.HasPort, bV y.1.HasQuery, bV y.1.HasFrag]), .p (iV y.2)]
noncomputable def uri_Split_lv : List (Nat × List Nat) := [(0, [0, 2]), (1, [2, 4]), (2, [2, 4, 20, 21, 22]), (3, [2, 4, 20, 21, 22, 23]), (4, [2, 4, 6, 20, 21, 22]), (5, [2, 4, 20, 21, 22, 28]), (6, [2, 3]), (7, [2, 4, 20, 21, 22]), (8, [2, 3]), (1000003, [2, 4, 20, 21, 22])]
noncomputable def uri_Split_L1_r0_st (p0 : (List UInt8)) : St := ⟨[(2, .ptr 0 0), (4, .ptr 1 0), (20, .sf [.fn (.func 33) [.ptr 1 0] [], .fn (.func 34) [.ptr 1 0] [], .fn (.func 35) [.ptr 1 0] [], .fn (.func 36) [.ptr 1 0] [], .fn (.func 37) [.ptr 1 0] []]), (21, .p (iV 5)), (22, .p (iV 0))], ⟨[[.p (sV []), .p (sV []), .p (sV []), .p (sV []), .p (sV []), .p (sV []), .p (sV []), .p (bV false), .p (bV false), .p (bV false), .p (bV false), .p (bV false)], [.p (sV p0), .p (sV []), .p (sV []), .p (sV []), .p (sV []), .p (sV []), .p (sV []), .p (sV []), .p (bV false), .p (bV false), .p (bV false), .p (bV false), .p (bV false)]], []⟩⟩
noncomputable def uri_Split_L1_r1_st (p0 : (List UInt8)) (h1_0 : (List UInt8)) (h1_1 : (List UInt8)) : St := ⟨[(2, .ptr 0 0), (4, .ptr 1 0), (20, .sf [.fn (.func 33) [.ptr 1 0] [], .fn (.func 34) [.ptr 1 0] [], .fn (.func 35) [.ptr 1 0] [], .fn (.func 36) [.ptr 1 0] [], .fn (.func 37) [.ptr 1 0] []]), (21, .p (iV 5)), (22, .p (iV 1))], ⟨[[.p (sV []), .p (sV []), .p (sV []), .p (sV []), .p (sV []), .p (sV []), .p (sV []), .p (bV false), .p (bV false), .p (bV false), .p (bV false), .p (bV false)], [.p (sV h1_0), .p (sV h1_1), .p (sV []), .p (sV []), .p (sV []), .p (sV []), .p (sV []), .p (sV []), .p (bV false), .p (bV false), .p (bV false), .p (bV false), .p (bV false)]], []⟩⟩
noncomputable def uri_Split_L1_r2_st (p0 : (List UInt8)) (h1_0 : (List UInt8)) (h1_1 : (List UInt8)) (h1_2 : (List UInt8)) (h1_3 : (List UInt8)) (h1_4 : (List UInt8)) (h1_8 : Bool) (h1_9 : Bool) (h1_10 : Bool) : St := ⟨[(2, .ptr 0 0), (4, .ptr 1 0), (20, .sf [.fn (.func 33) [.ptr 1 0] [], .fn (.func 34) [.ptr 1 0] [], .fn (.func 35) [.ptr 1 0] [], .fn (.func 36) [.ptr 1 0] [], .fn (.func 37) [.ptr 1 0] []]), (21, .p (iV 5)), (22, .p (iV 2))], ⟨[[.p (sV []), .p (sV []), .p (sV []), .p (sV []), .p (sV []), .p (sV []), .p (sV []), .p (bV false), .p (bV false), .p (bV false), .p (bV false), .p (bV false)], [.p (sV h1_0), .p (sV h1_1), .p (sV h1_2), .p (sV h1_3), .p (sV h1_4), .p (sV []), .p (sV []), .p (sV []), .p (bV h1_8), .p (bV h1_9), .p (bV h1_10), .p (bV false), .p (bV false)]], []⟩⟩
noncomputable def uri_Split_L1_r3_st (p0 : (List UInt8)) (h1_0 : (List UInt8)) (h1_1 : (List UInt8)) (h1_2 : (List UInt8)) (h1_3 : (List UInt8)) (h1_4 : (List UInt8)) (h1_5 : (List UInt8)) (h1_8 : Bool) (h1_9 : Bool) (h1_10 : Bool) : St := ⟨[(2, .ptr 0 0), (4, .ptr 1 0), (20, .sf [.fn (.func 33) [.ptr 1 0] [], .fn (.func 34) [.ptr 1 0] [], .fn (.func 35) [.ptr 1 0] [], .fn (.func 36) [.ptr 1 0] [], .fn (.func 37) [.ptr 1 0] []]), (21, .p (iV 5)), (22, .p (iV 3))], ⟨[[.p (sV []), .p (sV []), .p (sV []), .p (sV []), .p (sV []), .p (sV []), .p (sV []), .p (bV false), .p (bV false), .p (bV false), .p (bV false), .p (bV false)], [.p (sV h1_0), .p (sV h1_1), .p (sV h1_2), .p (sV h1_3), .p (sV h1_4), .p (sV h1_5), .p (sV []), .p (sV []), .p (bV h1_8), .p (bV h1_9), .p (bV h1_10), .p (bV false), .p (bV false)]], []⟩⟩
noncomputable def uri_Split_L1_r4_st (p0 : (List UInt8)) (h1_0 : (List UInt8)) (h1_1 : (List UInt8)) (h1_2 : (List UInt8)) (h1_3 : (List UInt8)) (h1_4 : (List UInt8)) (h1_5 : (List UInt8)) (h1_6 : (List UInt8)) (h1_8 : Bool) (h1_9 : Bool) (h1_10 : Bool) (h1_11 : Bool) : St := ⟨[(2, .ptr 0 0), (4, .ptr 1 0), (20, .sf [.fn (.func 33) [.ptr 1 0] [], .fn (.func 34) [.ptr 1 0] [], .fn (.func 35) [.ptr 1 0] [], .fn (.func 36) [.ptr 1 0] [], .fn (.func 37) [.ptr 1 0] []]), (21, .p (iV 5)), (22, .p (iV 4))], ⟨[[.p (sV []), .p (sV []), .p (sV []), .p (sV []), .p (sV []), .p (sV []), .p (sV []), .p (bV false), .p (bV false), .p (bV false), .p (bV false), .p (bV false)], [.p (sV h1_0), .p (sV h1_1), .p (sV h1_2), .p (sV h1_3), .p (sV h1_4), .p (sV h1_5), .p (sV h1_6), .p (sV []), .p (bV h1_8), .p (bV h1_9), .p (bV h1_10), .p (bV h1_11), .p (bV false)]], []⟩⟩
noncomputable def uri_Split_L1_r5_st (p0 : (List UInt8)) (h1_0 : (List UInt8)) (h1_1 : (List UInt8)) (h1_2 : (List UInt8)) (h1_3 : (List UInt8)) (h1_4 : (List UInt8)) (h1_5 : (List UInt8)) (h1_6 : (List UInt8)) (h1_7 : (List UInt8)) (h1_8 : Bool) (h1_9 : Bool) (h1_10 : Bool) (h1_11 : Bool) (h1_12 : Bool) : St := ⟨[(2, .ptr 0 0), (4, .ptr 1 0), (20, .sf [.fn (.func 33) [.ptr 1 0] [], .fn (.func 34) [.ptr 1 0] [], .fn (.func 35) [.ptr 1 0] [], .fn (.func 36) [.ptr 1 0] [], .fn (.func 37) [.ptr 1 0] []]), (21, .p (iV 5)), (22, .p (iV 5))], ⟨[[.p (sV []), .p (sV []), .p (sV []), .p (sV []), .p (sV []), .p (sV []), .p (sV []), .p (bV false), .p (bV false), .p (bV false), .p (bV false), .p (bV false)], [.p (sV h1_0), .p (sV h1_1), .p (sV h1_2), .p (sV h1_3), .p (sV h1_4), .p (sV h1_5), .p (sV h1_6), .p (sV h1_7), .p (bV h1_8), .p (bV h1_9), .p (bV h1_10), .p (bV h1_11), .p (bV h1_12)]], []⟩⟩
noncomputable def uri_Split_L1_x0 (p0 : (List UInt8)) (y2 : (List UInt8) × (List UInt8) × (List UInt8) × (List UInt8) × (List UInt8) × (List UInt8) × (List UInt8) × (List UInt8) × Bool × Bool × Bool × Bool × Bool) : St := ⟨[(2, .ptr 0 0), (4, .ptr 1 0)], ⟨[[.p (sV []), .p (sV []), .p (sV []), .p (sV []), .p (sV []), .p (sV []), .p (sV []), .p (bV false), .p (bV false), .p (bV false), .p (bV false), .p (bV false)], [.p (sV y2.1), .p (sV y2.2.1), .p (sV y2.2.2.1), .p (sV y2.2.2.2.1), .p (sV y2.2.2.2.2.1), .p (sV y2.2.2.2.2.2.1), .p (sV y2.2.2.2.2.2.2.1), .p (sV y2.2.2.2.2.2.2.2.1), .p (bV y2.2.2.2.2.2.2.2.2.1), .p (bV y2.2.2.2.2.2.2.2.2.2.1), .p (bV y2.2.2.2.2.2.2.2.2.2.2.1), .p (bV y2.2.2.2.2.2.2.2.2.2.2.2.1), .p (bV y2.2.2.2.2.2.2.2.2.2.2.2.2)]], []⟩⟩
noncomputable def uri_Split_L1_x1 (p0 : (List UInt8)) (y3 : (List UInt8) × (List UInt8) × (List UInt8) × (List UInt8) × (List UInt8) × (List UInt8) × (List UInt8) × (List UInt8) × Bool × Bool × Bool × Bool × Bool) : St := ⟨[(2, .ptr 0 0), (3, .p (iV 7))], ⟨[[.p (sV []), .p (sV []), .p (sV []), .p (sV []), .p (sV []), .p (sV []), .p (sV []), .p (bV false), .p (bV false), .p (bV false), .p (bV false), .p (bV false)], [.p (sV y3.1), .p (sV y3.2.1), .p (sV y3.2.2.1), .p (sV y3.2.2.2.1), .p (sV y3.2.2.2.2.1), .p (sV y3.2.2.2.2.2.1), .p (sV y3.2.2.2.2.2.2.1), .p (sV y3.2.2.2.2.2.2.2.1), .p (bV y3.2.2.2.2.2.2.2.2.1), .p (bV y3.2.2.2.2.2.2.2.2.2.1), .p (bV y3.2.2.2.2.2.2.2.2.2.2.1), .p (bV y3.2.2.2.2.2.2.2.2.2.2.2.1), .p (bV y3.2.2.2.2.2.2.2.2.2.2.2.2)]], []⟩⟩
noncomputable def uri_Split_L1_c : Code := ((loopsOf (Try.f11.body.getD .skip)).getD 0 .skip)
noncomputable def t_uri_Text (y : (List UInt8)) : D := .p (sV y)
noncomputable def uri_Text_lv : List (Nat × List Nat) := [(0, [1]), (1, [1, 3]), (2, [1, 3, 4]), (3, [1, 3, 4]), (4, [1, 3, 4]), (5, [1, 3, 4]), (6, [1, 3, 4]), (7, [1, 3, 4]), (8, [1, 3, 4]), (9, [1, 3, 4]), (10, [3]), (11, [2]), (3000005, []), (3000007, [])]
noncomputable def uri_Text_J0_0 (p0 : uri_Uri) (o3 : Bool × (List Int)) : St := ⟨[(1, .ptr 0 0), (3, .ptr 1 0), (4, .fn (.func 43) [] [.ptr 1 0])], ⟨[[.p (sV p0.Scheme), .p (sV p0.User), .p (sV p0.Host), .p (sV p0.Port), .p (sV p0.Path), .p (sV p0.Query), .p (sV p0.Frag), .p (bV p0.Auth), .p (bV p0.HasUser), .p (bV p0.HasPort), .p (bV p0.HasQuery), .p (bV p0.HasFrag)], [.sp Try.prog 67 o3.1 1 0, .own 0 5 1 (o3.2.map (cNum .u8))]], [(o3.2.map (cNum .u8)).length]⟩⟩
noncomputable def uri_Text_J1_0 (p0 : uri_Uri) (o7 : Bool × (List Int)) : St := ⟨[(1, .ptr 0 0), (3, .ptr 1 0), (4, .fn (.func 43) [] [.ptr 1 0])], ⟨[[.p (sV p0.Scheme), .p (sV p0.User), .p (sV p0.Host), .p (sV p0.Port), .p (sV p0.Path), .p (sV p0.Query), .p (sV p0.Frag), .p (bV p0.Auth), .p (bV p0.HasUser), .p (bV p0.HasPort), .p (bV p0.HasQuery), .p (bV p0.HasFrag)], [.sp Try.prog 67 o7.1 1 0, .own 0 5 1 (o7.2.map (cNum .u8))]], [(o7.2.map (cNum .u8)).length]⟩⟩
noncomputable def t_uri_Text_1 (_ : Bool × (List Int)) : D := .tup []
noncomputable def uri_Text_1_lv : List (Nat × List Nat) := [(0, [0, 2, 7, 8, 9]), (1, [0, 2, 7, 8, 9, 10]), (2, [0, 2, 6, 7, 8, 9]), (3, [0, 2, 6, 7, 8, 9, 13]), (4, [0, 2, 7, 8, 9]), (5, [0, 2, 7, 8, 9]), (1000001, [0, 2, 7, 8, 9])]
noncomputable def uri_Text_1_L1_st (p0 : Bool) (p1 : (List (List UInt8))) (v9 : Int) (h0_0_ : Bool) (h0_1 : (List Int)) : St := ⟨[(0, .p (bV p0)), (2, .ptr 0 0), (7, .p (.sl false (p1.map cStr))), (8, .p (iV (p1.length : Int))), (9, .p (iV v9))], ⟨[[.sp Try.prog 67 h0_0_ 0 0, .own 0 5 1 (h0_1.map (cNum .u8))]], [(h0_1.map (cNum .u8)).length]⟩⟩
noncomputable def uri_Text_1_L1_x0 (p0 : Bool) (p1 : (List (List UInt8))) (o1 : Bool × (List Int)) : St := ⟨[], ⟨[[.sp Try.prog 67 o1.1 0 0, .own 0 5 1 (o1.2.map (cNum .u8))]], [(o1.2.map (cNum .u8)).length]⟩⟩
noncomputable def uri_Text_1_L1_c : Code := ((loopsOf (Try.f43.body.getD .skip)).getD 0 .skip)
noncomputable def t_uri_Text_1_2 (_ : Bool × (List Int)) : D := .tup []
noncomputable def uri_Text_1_2_lv : List (Nat × List Nat) := [(0, [0, 2, 7, 8, 9]), (1, [0, 2, 7, 8, 9, 10]), (2, [0, 2, 6, 7, 8, 9]), (3, [0, 2, 6, 7, 8, 9, 13]), (4, [0, 2, 7, 8, 9]), (5, [0, 2, 7, 8, 9]), (1000001, [0, 2, 7, 8, 9])]
noncomputable def uri_Text_1_2_L1_st (p0 : Bool) (p1 : (List (List UInt8))) (v9 : Int) (h0_0_ : Bool) (h0_1_ : (List Int)) : St := ⟨[(0, .p (bV p0)), (2, .ptr 0 0), (7, .p (.sl false (p1.map cStr))), (8, .p (iV (p1.length : Int))), (9, .p (iV v9))], ⟨[[.sp Try.prog 67 h0_0_ 0 0, .own 0 5 1 (h0_1_.map (cNum .u8))]], [(h0_1_.map (cNum .u8)).length]⟩⟩
noncomputable def uri_Text_1_2_L1_x0 (p0 : Bool) (p1 : (List (List UInt8))) (o1 : Bool × (List Int)) : St := ⟨[], ⟨[[.sp Try.prog 67 o1.1 0 0, .own 0 5 1 (o1.2.map (cNum .u8))]], [(o1.2.map (cNum .u8)).length]⟩⟩
noncomputable def uri_Text_1_2_L1_c : Code := ((loopsOf (Try.f43.body.getD .skip)).getD 0 .skip)
noncomputable def t_uri_coded (y : Int × Bool) : D := .tup [.p (nV .u8 y.1), .p (bV y.2)]
noncomputable def uri_coded_lv : List (Nat × List Nat) := [(0, [0, 1]), (1, [0, 1, 14]), (2, [4, 5]), (3, [0, 1, 6, 7]), (4, [6, 7, 8, 9]), (5, [4, 5]), (3000005, [])]
noncomputable def uri_coded_J0_0 (x2 : Int × Bool) (x4 : Int × Bool) (o5 : Bool) : St := ⟨[(4, .p (nV .u8 (bits .or .u8 (IntKind.u8.wrap (x2.1 * 2 ^ (min (4 : Int).toNat (IntKind.u8.bits)))) x4.1))), (5, .p (bV o5))], ⟨[], []⟩⟩
noncomputable def t_uri_digit (y : Bool) : D := .p (bV y)
noncomputable def uri_digit_lv : List (Nat × List Nat) := [(0, [0]), (1, [2]), (3000001, [])]
noncomputable def uri_digit_J0_0  (o1 : Bool) : St := ⟨[(2, .p (bV o1))], ⟨[], []⟩⟩
noncomputable def t_uri_fits_uri_with_1 (y : Bool) : D := .p (bV y)
noncomputable def uri_fits_uri_with_1_lv : List (Nat × List Nat) := [(0, [0, 1]), (1, [0, 1, 5]), (2, [0, 1, 5, 11]), (3, [0, 1, 5]), (4, [0, 1, 5, 17]), (5, [0, 1, 5, 7]), (6, [0, 1, 5, 25]), (7, [4]), (8, [0, 1, 5]), (9, [0, 1, 5, 33]), (10, [4]), (11, [4]), (1000002, [0, 1, 5])]
noncomputable def uri_fits_uri_with_1_L1_st (p0 : (List UInt8)) (p1_0c_0e : (List UInt8)) (v5 : Int) : St := ⟨[(0, .p (sV p0)), (1, .fn (.func 98) [] [.p (.ep [sV p1_0c_0e])]), (5, .p (iV v5))], ⟨[], []⟩⟩
noncomputable def uri_fits_uri_with_1_L1_x0 (p0 : (List UInt8)) (p1_0c_0e : (List UInt8)) (y2 : Unit) : St := ⟨[], ⟨[], []⟩⟩
noncomputable def uri_fits_uri_with_1_L1_x1 (p0 : (List UInt8)) (p1_0c_0e : (List UInt8)) (y3 : Unit) : St := ⟨[(4, .p (bV false))], ⟨[], []⟩⟩
noncomputable def uri_fits_uri_with_1_L1_c : Code := ((loopsOf (Try.f68.body.getD .skip)).getD 0 .skip)
noncomputable def t_uri_letter (y : Bool) : D := .p (bV y)
noncomputable def uri_letter_lv : List (Nat × List Nat) := [(0, [0]), (1, [2]), (3000001, [])]
noncomputable def uri_letter_J0_0  (o1 : Bool) : St := ⟨[(2, .p (bV o1))], ⟨[], []⟩⟩
noncomputable def t_uri_reader_authority (y : Bool × (List UInt8) × (List UInt8) × (List UInt8) × (List UInt8) × Bool × Bool × Bool) : D := .p (bV y.1)
noncomputable def uri_reader_authority_lv : List (Nat × List Nat) := [(0, [0]), (1, [0, 14]), (2, [2]), (3, [0]), (4, [3, 4]), (5, [3, 4]), (6, [3, 4, 5, 6, 7]), (7, [3, 4, 5, 6, 37]), (8, [3, 4]), (9, [3]), (10, [3, 65, 66]), (11, [3, 65, 66, 67]), (12, [3, 8, 65, 66]), (13, [3, 65, 66, 76]), (14, [2]), (15, [3, 65, 66]), (16, [2]), (1000011, [3, 65, 66]), (2006007, []), (3000016, []), (5000004, [4])]
noncomputable def uri_reader_authority_J0_0 (h0_1 : (List UInt8)) (h0_3 : (List UInt8)) (h0_4 : (List UInt8)) (h0_5 : (List UInt8)) (h0_6 : (List UInt8)) (h0_7 : (List UInt8)) (h0_10 : Bool) (h0_11 : Bool) (h0_12 : Bool) (x3 : (List UInt8) × (List UInt8)) (o4 : (List UInt8) × (List UInt8) × Bool) : St := ⟨[(3, .ptr 0 1), (4, .p (sV o4.1))], ⟨[[.p (sV x3.2), .p (sV h0_1), .p (sV o4.2.1), .p (sV h0_3), .p (sV h0_4), .p (sV h0_5), .p (sV h0_6), .p (sV h0_7), .p (bV true), .p (bV o4.2.2), .p (bV h0_10), .p (bV h0_11), .p (bV h0_12)]], []⟩⟩
noncomputable def uri_reader_authority_L1_st (h0_1 : (List UInt8)) (h0_5 : (List UInt8)) (h0_6 : (List UInt8)) (h0_7 : (List UInt8)) (h0_11 : Bool) (h0_12 : Bool) (x3 : (List UInt8) × (List UInt8)) (o4 : (List UInt8) × (List UInt8) × Bool) (x6 : (List UInt8) × (List UInt8) × Bool) (v66 : Int) : St := ⟨[(3, .ptr 0 1), (65, .p (iV (x6.2.1.length : Int))), (66, .p (iV v66))], ⟨[[.p (sV x3.2), .p (sV h0_1), .p (sV o4.2.1), .p (sV x6.1), .p (sV x6.2.1), .p (sV h0_5), .p (sV h0_6), .p (sV h0_7), .p (bV true), .p (bV o4.2.2), .p (bV x6.2.2), .p (bV h0_11), .p (bV h0_12)]], []⟩⟩
noncomputable def uri_reader_authority_L1_x0 (h0_1 : (List UInt8)) (h0_5 : (List UInt8)) (h0_6 : (List UInt8)) (h0_7 : (List UInt8)) (h0_11 : Bool) (h0_12 : Bool) (x3 : (List UInt8) × (List UInt8)) (o4 : (List UInt8) × (List UInt8) × Bool) (x6 : (List UInt8) × (List UInt8) × Bool) (y8 : Unit) : St := ⟨[(3, .ptr 0 1)], ⟨[[.p (sV x3.2), .p (sV h0_1), .p (sV o4.2.1), .p (sV x6.1), .p (sV x6.2.1), .p (sV h0_5), .p (sV h0_6), .p (sV h0_7), .p (bV true), .p (bV o4.2.2), .p (bV x6.2.2), .p (bV h0_11), .p (bV h0_12)]], []⟩⟩
noncomputable def uri_reader_authority_L1_x1 (h0_1 : (List UInt8)) (h0_5 : (List UInt8)) (h0_6 : (List UInt8)) (h0_7 : (List UInt8)) (h0_11 : Bool) (h0_12 : Bool) (x3 : (List UInt8) × (List UInt8)) (o4 : (List UInt8) × (List UInt8) × Bool) (x6 : (List UInt8) × (List UInt8) × Bool) (y9 : Unit) : St := ⟨[(2, .p (bV false))], ⟨[[.p (sV x3.2), .p (sV h0_1), .p (sV o4.2.1), .p (sV x6.1), .p (sV x6.2.1), .p (sV h0_5), .p (sV h0_6), .p (sV h0_7), .p (bV true), .p (bV o4.2.2), .p (bV x6.2.2), .p (bV h0_11), .p (bV h0_12)]], []⟩⟩
noncomputable def uri_reader_authority_L1_c : Code := ((loopsOf (Try.f34.body.getD .skip)).getD 0 .skip)
noncomputable def uri_reader_authority_J1_0 (h0_1 : (List UInt8)) (h0_5 : (List UInt8)) (h0_6 : (List UInt8)) (h0_7 : (List UInt8)) (h0_11 : Bool) (h0_12 : Bool) (x3 : (List UInt8) × (List UInt8)) (o4 : (List UInt8) × (List UInt8) × Bool) (x6 : (List UInt8) × (List UInt8) × Bool) (o12 : Bool) : St := ⟨[(2, .p (bV o12))], ⟨[[.p (sV x3.2), .p (sV h0_1), .p (sV o4.2.1), .p (sV x6.1), .p (sV x6.2.1), .p (sV h0_5), .p (sV h0_6), .p (sV h0_7), .p (bV true), .p (bV o4.2.2), .p (bV x6.2.2), .p (bV h0_11), .p (bV h0_12)]], []⟩⟩
noncomputable def t_uri_reader_frag (y : Bool × (List UInt8) × Bool) : D := .p (bV y.1)
noncomputable def uri_reader_frag_lv : List (Nat × List Nat) := [(0, [0]), (1, [0]), (2, [2])]
noncomputable def t_uri_reader_path (y : Bool × (List UInt8) × (List UInt8)) : D := .p (bV y.1)
noncomputable def uri_reader_path_lv : List (Nat × List Nat) := [(0, [0]), (1, [0]), (2, [2])]
noncomputable def t_uri_reader_query (y : Bool × (List UInt8) × (List UInt8) × Bool) : D := .p (bV y.1)
noncomputable def uri_reader_query_lv : List (Nat × List Nat) := [(0, [0]), (1, [0, 7]), (2, [0]), (3, [0]), (4, [2]), (2001007, [])]
noncomputable def uri_reader_query_J0_0 (h0_1 : (List UInt8)) (h0_2 : (List UInt8)) (h0_3 : (List UInt8)) (h0_4 : (List UInt8)) (h0_5 : (List UInt8)) (h0_7 : (List UInt8)) (h0_8 : Bool) (h0_9 : Bool) (h0_10 : Bool) (h0_12 : Bool) (o1 : (List UInt8) × (List UInt8) × Bool) : St := ⟨[(0, .ptr 0 0)], ⟨[[.p (sV o1.1), .p (sV h0_1), .p (sV h0_2), .p (sV h0_3), .p (sV h0_4), .p (sV h0_5), .p (sV o1.2.1), .p (sV h0_7), .p (bV h0_8), .p (bV h0_9), .p (bV h0_10), .p (bV o1.2.2), .p (bV h0_12)]], []⟩⟩
noncomputable def t_uri_reader_scheme (y : Bool × (List UInt8) × (List UInt8)) : D := .p (bV y.1)
noncomputable def uri_reader_scheme_lv : List (Nat × List Nat) := [(0, [0]), (1, [0, 3]), (2, [0, 3, 22]), (3, [2]), (4, [0, 3, 4]), (5, [0, 3, 4, 29, 30]), (6, [0, 3, 4, 29, 30, 31]), (7, [0, 3, 4, 5, 29, 30]), (8, [0, 3, 4, 5, 6, 29, 30]), (9, [0, 3, 4, 29, 30, 52]), (10, [2]), (11, [0, 3, 4, 29, 30]), (12, [4]), (13, [2]), (1000006, [0, 3, 4, 29, 30]), (3000002, []), (3000009, [])]
noncomputable def uri_reader_scheme_J0_0 (h0_0 : (List UInt8)) (h0_1 : (List UInt8)) (h0_2 : (List UInt8)) (h0_3 : (List UInt8)) (h0_4 : (List UInt8)) (h0_5 : (List UInt8)) (h0_6 : (List UInt8)) (h0_7 : (List UInt8)) (h0_8 : Bool) (h0_9 : Bool) (h0_10 : Bool) (h0_11 : Bool) (h0_12 : Bool) (x1 : Int) (o2 : Bool) : St := ⟨[(0, .ptr 0 0), (3, .p (iV x1)), (22, .p (bV o2))], ⟨[[.p (sV h0_0), .p (sV h0_1), .p (sV h0_2), .p (sV h0_3), .p (sV h0_4), .p (sV h0_5), .p (sV h0_6), .p (sV h0_7), .p (bV h0_8), .p (bV h0_9), .p (bV h0_10), .p (bV h0_11), .p (bV h0_12)]], []⟩⟩
noncomputable def uri_reader_scheme_J1_0 (h0_0 : (List UInt8)) (h0_1 : (List UInt8)) (h0_2 : (List UInt8)) (h0_3 : (List UInt8)) (h0_4 : (List UInt8)) (h0_5 : (List UInt8)) (h0_6 : (List UInt8)) (h0_7 : (List UInt8)) (h0_8 : Bool) (h0_9 : Bool) (h0_10 : Bool) (h0_11 : Bool) (h0_12 : Bool) (x1 : Int) (x4 : (List UInt8)) (v30 : Int) (o9 : Bool) : St := ⟨[(0, .ptr 0 0), (3, .p (iV x1)), (4, .p (sV x4)), (29, .p (iV x1)), (30, .p (iV v30)), (52, .p (bV o9))], ⟨[[.p (sV h0_0), .p (sV h0_1), .p (sV h0_2), .p (sV h0_3), .p (sV h0_4), .p (sV h0_5), .p (sV h0_6), .p (sV h0_7), .p (bV h0_8), .p (bV h0_9), .p (bV h0_10), .p (bV h0_11), .p (bV h0_12)]], []⟩⟩
noncomputable def uri_reader_scheme_L1_st (h0_0 : (List UInt8)) (h0_1 : (List UInt8)) (h0_2 : (List UInt8)) (h0_3 : (List UInt8)) (h0_4 : (List UInt8)) (h0_5 : (List UInt8)) (h0_6 : (List UInt8)) (h0_7 : (List UInt8)) (h0_8 : Bool) (h0_9 : Bool) (h0_10 : Bool) (h0_11 : Bool) (h0_12 : Bool) (x1 : Int) (x4 : (List UInt8)) (v30 : Int) : St := ⟨[(0, .ptr 0 0), (3, .p (iV x1)), (4, .p (sV x4)), (29, .p (iV x1)), (30, .p (iV v30))], ⟨[[.p (sV h0_0), .p (sV h0_1), .p (sV h0_2), .p (sV h0_3), .p (sV h0_4), .p (sV h0_5), .p (sV h0_6), .p (sV h0_7), .p (bV h0_8), .p (bV h0_9), .p (bV h0_10), .p (bV h0_11), .p (bV h0_12)]], []⟩⟩
noncomputable def uri_reader_scheme_L1_x0 (h0_0 : (List UInt8)) (h0_1 : (List UInt8)) (h0_2 : (List UInt8)) (h0_3 : (List UInt8)) (h0_4 : (List UInt8)) (h0_5 : (List UInt8)) (h0_6 : (List UInt8)) (h0_7 : (List UInt8)) (h0_8 : Bool) (h0_9 : Bool) (h0_10 : Bool) (h0_11 : Bool) (h0_12 : Bool) (x1 : Int) (x4 : (List UInt8)) (y6 : Unit) : St := ⟨[(0, .ptr 0 0), (3, .p (iV x1)), (4, .p (sV x4))], ⟨[[.p (sV h0_0), .p (sV h0_1), .p (sV h0_2), .p (sV h0_3), .p (sV h0_4), .p (sV h0_5), .p (sV h0_6), .p (sV h0_7), .p (bV h0_8), .p (bV h0_9), .p (bV h0_10), .p (bV h0_11), .p (bV h0_12)]], []⟩⟩
noncomputable def uri_reader_scheme_L1_x1 (h0_0 : (List UInt8)) (h0_1 : (List UInt8)) (h0_2 : (List UInt8)) (h0_3 : (List UInt8)) (h0_4 : (List UInt8)) (h0_5 : (List UInt8)) (h0_6 : (List UInt8)) (h0_7 : (List UInt8)) (h0_8 : Bool) (h0_9 : Bool) (h0_10 : Bool) (h0_11 : Bool) (h0_12 : Bool) (x1 : Int) (x4 : (List UInt8)) (y7 : Unit) : St := ⟨[(2, .p (bV false))], ⟨[[.p (sV h0_0), .p (sV h0_1), .p (sV h0_2), .p (sV h0_3), .p (sV h0_4), .p (sV h0_5), .p (sV h0_6), .p (sV h0_7), .p (bV h0_8), .p (bV h0_9), .p (bV h0_10), .p (bV h0_11), .p (bV h0_12)]], []⟩⟩
noncomputable def uri_reader_scheme_L1_c : Code := ((loopsOf (Try.f33.body.getD .skip)).getD 0 .skip)
noncomputable def t_uri_reader_upto (y : (List UInt8) × (List UInt8)) : D := .p (sV y.1)
noncomputable def uri_reader_upto_lv : List (Nat × List Nat) := [(0, [0, 1]), (1, [0, 5]), (2, [0, 5, 14]), (3, [0, 5]), (4, [0, 5, 6]), (5, [6]), (6, [4]), (2002005, [])]
noncomputable def uri_reader_upto_J0_0 (h0_0 : (List UInt8)) (h0_1 : (List UInt8)) (h0_2 : (List UInt8)) (h0_3 : (List UInt8)) (h0_4 : (List UInt8)) (h0_5 : (List UInt8)) (h0_6 : (List UInt8)) (h0_7 : (List UInt8)) (h0_8 : Bool) (h0_9 : Bool) (h0_10 : Bool) (h0_11 : Bool) (h0_12 : Bool) (o2 : Int) : St := ⟨[(0, .ptr 0 0), (5, .p (iV o2))], ⟨[[.p (sV h0_0), .p (sV h0_1), .p (sV h0_2), .p (sV h0_3), .p (sV h0_4), .p (sV h0_5), .p (sV h0_6), .p (sV h0_7), .p (bV h0_8), .p (bV h0_9), .p (bV h0_10), .p (bV h0_11), .p (bV h0_12)]], []⟩⟩
noncomputable def t_uri_with (y : (List UInt8)) : D := .fn (.func 98) [] [.p (.ep [sV y])]
noncomputable def uri_with_lv : List (Nat × List Nat) := [(0, [1]), (1, [2])]
noncomputable def t_uri_with_1 (y : Bool) : D := .p (bV y)
noncomputable def uri_with_1_lv : List (Nat × List Nat) := [(0, [0, 1]), (1, [3]), (3000001, [])]
noncomputable def uri_with_1_J0_0  (o1 : Bool) : St := ⟨[(3, .p (bV o1))], ⟨[], []⟩⟩
noncomputable def t_uri_worth (y : Int × Bool) : D := .tup [.p (nV .u8 y.1), .p (bV y.2)]
noncomputable def uri_worth_lv : List (Nat × List Nat) := [(0, [0]), (1, [0, 4]), (2, [2, 3]), (3, [0, 9]), (4, [2, 3]), (5, [2, 3]), (3000003, [])]
noncomputable def uri_worth_J0_0 (p0 : Int) (o2 : Bool) : St := ⟨[(0, .p (nV .u8 p0)), (9, .p (bV o2))], ⟨[], []⟩⟩
noncomputable def R01_Begins (p0 : (List UInt8)) (p1 : (List UInt8)) (p2 : Int) : Option (Bool) :=
  ( if (decide (p2 ≥ 0)) then
      if (decide (p2 ≤ (p0.length : Int))) then
        if (decide ((p1.length : Int) ≤ (wr ((p0.length : Int) - p2)))) then
          cutL p0 p2 (wr (p2 + (p1.length : Int))) >>= fun x2 =>
          some (x2 == p1)
        else
          some false
      else
        some false
    else
      some false : Option (Bool)) >>= fun o1 =>
  some o1
set_option maxRecDepth 100000 in
set_option maxHeartbeats 4000000 in
theorem R01_Begins_ok : ∀ (p0 : (List UInt8)) (p1 : (List UInt8)) (p2 : Int) (o : Bool), R01_Begins p0 p1 p2 = some o → PCall Try.prog 40 [sV p0, sV p1, iV p2] (t_R01_Begins o) := by
  intro p0 p1 p2 o h
  unfold R01_Begins at h
  refine PCall.ofB mixed tbOk R01_Begins_lv Try.func40 rfl (by kernel_rfl) (Nat.le_of_ble_eq_true rfl) ?_
  refine st_bind h (fun o1 ho hk => ?_)
  refine Exists.intro (JP1 _ _ o1 .normal (R01_Begins_J0_0 )) (And.intro ?_ (join1 ?_))
  · have h := ho
    refine st_test h (fun hb h => ?_) (fun hb h => ?_)
    · refine vrfl ?_
      refine st_test h (fun hb h => ?_) (fun hb h => ?_)
      · refine vrfl ?_
        refine vrfl ?_
        refine st_test h (fun hb h => ?_) (fun hb h => ?_)
        · refine vrfl ?_
          refine st_cuts (some p2) (some (wr (p2 + (p1.length : Int)))) h (fun x2 hi h => ?_)
          exact JP1.a h (Le.tow 0 0 rfl (.cons rfl (.refl _) (.nil)) (.refl _) rfl)
        · exact JP1.a h (Le.tow 0 0 rfl (.cons rfl (.refl _) (.nil)) (.refl _) rfl)
      · refine bF ?_
        exact JP1.a h (Le.tow 0 0 rfl (.cons rfl (.refl _) (.nil)) (.refl _) rfl)
    · refine bF ?_
      refine bF ?_
      exact JP1.a h (Le.tow 0 0 rfl (.cons rfl (.refl _) (.nil)) (.refl _) rfl)
  · have h := hk
    refine st_ret (t := t_R01_Begins) h ?_
    exact .refl _
noncomputable def R01_digit (p0 : Int) : Option (Int) :=
  ( if (decide (p0 ≥ 48)) then
      some (decide (p0 ≤ 57))
    else
      some false : Option (Bool)) >>= fun o1 =>
  if o1 then
    some (wr ((wr p0) - 48))
  else
    ( if (decide (p0 ≥ 65)) then
        some (decide (p0 ≤ 70))
      else
        some false : Option (Bool)) >>= fun o2 =>
    if o2 then
      some (wr ((wr ((wr p0) - 65)) + 10))
    else
      ( if (decide (p0 ≥ 97)) then
          some (decide (p0 ≤ 102))
        else
          some false : Option (Bool)) >>= fun o3 =>
      if o3 then
        some (wr ((wr ((wr p0) - 97)) + 10))
      else
        some 16
set_option maxRecDepth 100000 in
set_option maxHeartbeats 4000000 in
theorem R01_digit_ok : ∀ (p0 : Int) (o : Int), R01_digit p0 = some o → PCall Try.prog 100 [nV .u8 p0] (t_R01_digit o) := by
  intro p0 o h
  unfold R01_digit at h
  refine PCall.ofB mixed tbOk R01_digit_lv Try.func100 rfl (by kernel_rfl) (Nat.le_of_ble_eq_true rfl) ?_
  refine st_bind h (fun o1 ho hk => ?_)
  refine Exists.intro (JP1 _ _ o1 .normal (R01_digit_J0_0 p0)) (And.intro ?_ (join1 ?_))
  · have h := ho
    refine st_test h (fun hb h => ?_) (fun hb h => ?_)
    · exact JP1.a h (Le.tow 0 0 rfl (.cons rfl (.refl _) (.cons rfl (.refl _) (.nil))) (.refl _) rfl)
    · exact JP1.a h (Le.tow 0 0 rfl (.cons rfl (.refl _) (.cons rfl (.refl _) (.nil))) (.refl _) rfl)
  · have h := hk
    refine st_test h (fun hb h => ?_) (fun hb h => ?_)
    · refine vrfl ?_
      refine st_ret (t := t_R01_digit) h ?_
      exact .refl _
    · refine st_bind h (fun o2 ho hk => ?_)
      refine Exists.intro (JP1 _ _ o2 .normal (R01_digit_J1_0 p0)) (And.intro ?_ (join1 ?_))
      · have h := ho
        refine st_test h (fun hb h => ?_) (fun hb h => ?_)
        · exact JP1.a h (Le.tow 0 0 rfl (.cons rfl (.refl _) (.cons rfl (.refl _) (.nil))) (.refl _) rfl)
        · exact JP1.a h (Le.tow 0 0 rfl (.cons rfl (.refl _) (.cons rfl (.refl _) (.nil))) (.refl _) rfl)
      · have h := hk
        refine st_test h (fun hb h => ?_) (fun hb h => ?_)
        · refine vrfl ?_
          refine st_ret (t := t_R01_digit) h ?_
          exact .refl _
        · refine st_bind h (fun o3 ho hk => ?_)
          refine Exists.intro (JP1 _ _ o3 .normal (R01_digit_J2_0 p0)) (And.intro ?_ (join1 ?_))
          · have h := ho
            refine st_test h (fun hb h => ?_) (fun hb h => ?_)
            · exact JP1.a h (Le.tow 0 0 rfl (.cons rfl (.refl _) (.cons rfl (.refl _) (.nil))) (.refl _) rfl)
            · exact JP1.a h (Le.tow 0 0 rfl (.cons rfl (.refl _) (.cons rfl (.refl _) (.nil))) (.refl _) rfl)
          · have h := hk
            refine st_test h (fun hb h => ?_) (fun hb h => ?_)
            · refine vrfl ?_
              refine st_ret (t := t_R01_digit) h ?_
              exact .refl _
            · refine st_ret (t := t_R01_digit) h ?_
              exact .refl _
noncomputable def R01_Byte (p0 : (List UInt8)) (p1 : Int) : Option (Int × Bool) :=
  ( if (decide (p1 < 0)) then
      some true
    else
      some (decide (p1 > (wr ((p0.length : Int) - 2)))) : Option (Bool)) >>= fun o1 =>
  if o1 then
    some (0, false)
  else
    idx p0 p1 >>= fun x2 =>
    R01_digit (x2.toNat : Int) >>= fun x3 =>
    idx p0 (wr (p1 + 1)) >>= fun x4 =>
    R01_digit (x4.toNat : Int) >>= fun x5 =>
    ( if (decide (x3 > 15)) then
        some true
      else
        some (decide (x5 > 15)) : Option (Bool)) >>= fun o6 =>
    if o6 then
      some (0, false)
    else
      some ((IntKind.u8.wrap (wr ((wr (16 * x3)) + x5))), true)
set_option maxRecDepth 100000 in
set_option maxHeartbeats 4000000 in
theorem R01_Byte_ok : ∀ (p0 : (List UInt8)) (p1 : Int) (o : Int × Bool), R01_Byte p0 p1 = some o → PCall Try.prog 74 [sV p0, iV p1] (t_R01_Byte o) := by
  intro p0 p1 o h
  unfold R01_Byte at h
  refine PCall.ofB mixed tbOk R01_Byte_lv Try.func74 rfl (by kernel_rfl) (Nat.le_of_ble_eq_true rfl) ?_
  refine st_bind h (fun o1 ho hk => ?_)
  refine Exists.intro (JP1 _ _ o1 .normal (R01_Byte_J0_0 p0 p1)) (And.intro ?_ (join1 ?_))
  · have h := ho
    refine st_test h (fun hb h => ?_) (fun hb h => ?_)
    · exact JP1.a h (Le.tow 0 0 rfl (.cons rfl (.refl _) (.cons rfl (.refl _) (.cons rfl (.refl _) (.nil)))) (.refl _) rfl)
    · refine vrfl ?_
      exact JP1.a h (Le.tow 0 0 rfl (.cons rfl (.refl _) (.cons rfl (.refl _) (.cons rfl (.refl _) (.nil)))) (.refl _) rfl)
  · have h := hk
    refine st_test h (fun hb h => ?_) (fun hb h => ?_)
    · refine st_ret (t := t_R01_Byte) h ?_
      exact .refl _
    · refine And.intro (by decide +kernel) (And.intro rfl ?_)
      refine st_sidx h (fun x2 hi h => ?_)
      refine st_calld [nV .u8 (x2.toNat : Int)] t_R01_digit h (fun x3 hy => (R01_digit_ok (x2.toNat : Int) x3 hy)) (fun x3 hy h => ?_)
      refine st_sidx h (fun x4 hi h => ?_)
      refine st_calld [nV .u8 (x4.toNat : Int)] t_R01_digit h (fun x5 hy => (R01_digit_ok (x4.toNat : Int) x5 hy)) (fun x5 hy h => ?_)
      refine st_bind h (fun o6 ho hk => ?_)
      refine Exists.intro (JP1 _ _ o6 .normal (R01_Byte_J1_0 x3 x5)) (And.intro ?_ (join1 ?_))
      · have h := ho
        refine st_test h (fun hb h => ?_) (fun hb h => ?_)
        · exact JP1.a h (Le.tow 0 0 rfl (.cons rfl (.refl _) (.cons rfl (.refl _) (.cons rfl (.refl _) (.nil)))) (.refl _) rfl)
        · exact JP1.a h (Le.tow 0 0 rfl (.cons rfl (.refl _) (.cons rfl (.refl _) (.cons rfl (.refl _) (.nil)))) (.refl _) rfl)
      · have h := hk
        refine st_test h (fun hb h => ?_) (fun hb h => ?_)
        · refine st_ret (t := t_R01_Byte) h ?_
          exact .refl _
        · refine vrfl ?_
          refine st_ret (t := t_R01_Byte) h ?_
          exact .refl _
noncomputable def R08_Free (p0 : Int) : Option (Bool) :=
  ( if (decide (p0 ≥ 65)) then
      if (decide (p0 ≤ 90)) then
        some true
      else
        if (decide (p0 ≥ 97)) then
          if (decide (p0 ≤ 122)) then
            some true
          else
            if (decide (p0 ≥ 48)) then
              if (decide (p0 ≤ 57)) then
                some true
              else
                if (p0 == 45) then
                  some true
                else
                  if (p0 == 46) then
                    some true
                  else
                    if (p0 == 95) then
                      some true
                    else
                      some (p0 == 126)
            else
              if (p0 == 45) then
                some true
              else
                if (p0 == 46) then
                  some true
                else
                  if (p0 == 95) then
                    some true
                  else
                    some (p0 == 126)
        else
          if (decide (p0 ≥ 48)) then
            if (decide (p0 ≤ 57)) then
              some true
            else
              if (p0 == 45) then
                some true
              else
                if (p0 == 46) then
                  some true
                else
                  if (p0 == 95) then
                    some true
                  else
                    some (p0 == 126)
          else
            if (p0 == 45) then
              some true
            else
              if (p0 == 46) then
                some true
              else
                if (p0 == 95) then
                  some true
                else
                  some (p0 == 126)
    else
      if (decide (p0 ≥ 97)) then
        if (decide (p0 ≤ 122)) then
          some true
        else
          if (decide (p0 ≥ 48)) then
            if (decide (p0 ≤ 57)) then
              some true
            else
              if (p0 == 45) then
                some true
              else
                if (p0 == 46) then
                  some true
                else
                  if (p0 == 95) then
                    some true
                  else
                    some (p0 == 126)
          else
            if (p0 == 45) then
              some true
            else
              if (p0 == 46) then
                some true
              else
                if (p0 == 95) then
                  some true
                else
                  some (p0 == 126)
      else
        if (decide (p0 ≥ 48)) then
          if (decide (p0 ≤ 57)) then
            some true
          else
            if (p0 == 45) then
              some true
            else
              if (p0 == 46) then
                some true
              else
                if (p0 == 95) then
                  some true
                else
                  some (p0 == 126)
        else
          if (p0 == 45) then
            some true
          else
            if (p0 == 46) then
              some true
            else
              if (p0 == 95) then
                some true
              else
                some (p0 == 126) : Option (Bool)) >>= fun o1 =>
  some o1
set_option maxRecDepth 100000 in
set_option maxHeartbeats 4000000 in
theorem R08_Free_ok : ∀ (p0 : Int) (o : Bool), R08_Free p0 = some o → PCall Try.prog 75 [nV .u8 p0] (t_R08_Free o) := by
  intro p0 o h
  unfold R08_Free at h
  refine PCall.ofB mixed tbOk R08_Free_lv Try.func75 rfl (by kernel_rfl) (Nat.le_of_ble_eq_true rfl) ?_
  refine st_bind h (fun o1 ho hk => ?_)
  refine Exists.intro (JP1 _ _ o1 .normal (R08_Free_J0_0 )) (And.intro ?_ (join1 ?_))
  · have h := ho
    refine st_test h (fun hb h => ?_) (fun hb h => ?_)
    · refine st_test h (fun hb h => ?_) (fun hb h => ?_)
      · refine bT ?_
        refine bT ?_
        refine bT ?_
        refine bT ?_
        refine bT ?_
        exact JP1.a h (Le.tow 0 0 rfl (.cons rfl (.refl _) (.nil)) (.refl _) rfl)
      · refine st_test h (fun hb h => ?_) (fun hb h => ?_)
        · refine st_test h (fun hb h => ?_) (fun hb h => ?_)
          · refine bT ?_
            refine bT ?_
            refine bT ?_
            refine bT ?_
            exact JP1.a h (Le.tow 0 0 rfl (.cons rfl (.refl _) (.nil)) (.refl _) rfl)
          · refine st_test h (fun hb h => ?_) (fun hb h => ?_)
            · refine st_test h (fun hb h => ?_) (fun hb h => ?_)
              · refine bT ?_
                refine bT ?_
                refine bT ?_
                exact JP1.a h (Le.tow 0 0 rfl (.cons rfl (.refl _) (.nil)) (.refl _) rfl)
              · refine st_test h (fun hb h => ?_) (fun hb h => ?_)
                · refine bT ?_
                  refine bT ?_
                  exact JP1.a h (Le.tow 0 0 rfl (.cons rfl (.refl _) (.nil)) (.refl _) rfl)
                · refine st_test h (fun hb h => ?_) (fun hb h => ?_)
                  · refine bT ?_
                    exact JP1.a h (Le.tow 0 0 rfl (.cons rfl (.refl _) (.nil)) (.refl _) rfl)
                  · refine st_test h (fun hb h => ?_) (fun hb h => ?_)
                    · exact JP1.a h (Le.tow 0 0 rfl (.cons rfl (.refl _) (.nil)) (.refl _) rfl)
                    · exact JP1.a h (Le.tow 0 0 rfl (.cons rfl (.refl _) (.nil)) (.refl _) rfl)
            · refine bF ?_
              refine st_test h (fun hb h => ?_) (fun hb h => ?_)
              · refine bT ?_
                refine bT ?_
                exact JP1.a h (Le.tow 0 0 rfl (.cons rfl (.refl _) (.nil)) (.refl _) rfl)
              · refine st_test h (fun hb h => ?_) (fun hb h => ?_)
                · refine bT ?_
                  exact JP1.a h (Le.tow 0 0 rfl (.cons rfl (.refl _) (.nil)) (.refl _) rfl)
                · refine st_test h (fun hb h => ?_) (fun hb h => ?_)
                  · exact JP1.a h (Le.tow 0 0 rfl (.cons rfl (.refl _) (.nil)) (.refl _) rfl)
                  · exact JP1.a h (Le.tow 0 0 rfl (.cons rfl (.refl _) (.nil)) (.refl _) rfl)
        · refine bF ?_
          refine st_test h (fun hb h => ?_) (fun hb h => ?_)
          · refine st_test h (fun hb h => ?_) (fun hb h => ?_)
            · refine bT ?_
              refine bT ?_
              refine bT ?_
              exact JP1.a h (Le.tow 0 0 rfl (.cons rfl (.refl _) (.nil)) (.refl _) rfl)
            · refine st_test h (fun hb h => ?_) (fun hb h => ?_)
              · refine bT ?_
                refine bT ?_
                exact JP1.a h (Le.tow 0 0 rfl (.cons rfl (.refl _) (.nil)) (.refl _) rfl)
              · refine st_test h (fun hb h => ?_) (fun hb h => ?_)
                · refine bT ?_
                  exact JP1.a h (Le.tow 0 0 rfl (.cons rfl (.refl _) (.nil)) (.refl _) rfl)
                · refine st_test h (fun hb h => ?_) (fun hb h => ?_)
                  · exact JP1.a h (Le.tow 0 0 rfl (.cons rfl (.refl _) (.nil)) (.refl _) rfl)
                  · exact JP1.a h (Le.tow 0 0 rfl (.cons rfl (.refl _) (.nil)) (.refl _) rfl)
          · refine bF ?_
            refine st_test h (fun hb h => ?_) (fun hb h => ?_)
            · refine bT ?_
              refine bT ?_
              exact JP1.a h (Le.tow 0 0 rfl (.cons rfl (.refl _) (.nil)) (.refl _) rfl)
            · refine st_test h (fun hb h => ?_) (fun hb h => ?_)
              · refine bT ?_
                exact JP1.a h (Le.tow 0 0 rfl (.cons rfl (.refl _) (.nil)) (.refl _) rfl)
              · refine st_test h (fun hb h => ?_) (fun hb h => ?_)
                · exact JP1.a h (Le.tow 0 0 rfl (.cons rfl (.refl _) (.nil)) (.refl _) rfl)
                · exact JP1.a h (Le.tow 0 0 rfl (.cons rfl (.refl _) (.nil)) (.refl _) rfl)
    · refine bF ?_
      refine st_test h (fun hb h => ?_) (fun hb h => ?_)
      · refine st_test h (fun hb h => ?_) (fun hb h => ?_)
        · refine bT ?_
          refine bT ?_
          refine bT ?_
          refine bT ?_
          exact JP1.a h (Le.tow 0 0 rfl (.cons rfl (.refl _) (.nil)) (.refl _) rfl)
        · refine st_test h (fun hb h => ?_) (fun hb h => ?_)
          · refine st_test h (fun hb h => ?_) (fun hb h => ?_)
            · refine bT ?_
              refine bT ?_
              refine bT ?_
              exact JP1.a h (Le.tow 0 0 rfl (.cons rfl (.refl _) (.nil)) (.refl _) rfl)
            · refine st_test h (fun hb h => ?_) (fun hb h => ?_)
              · refine bT ?_
                refine bT ?_
                exact JP1.a h (Le.tow 0 0 rfl (.cons rfl (.refl _) (.nil)) (.refl _) rfl)
              · refine st_test h (fun hb h => ?_) (fun hb h => ?_)
                · refine bT ?_
                  exact JP1.a h (Le.tow 0 0 rfl (.cons rfl (.refl _) (.nil)) (.refl _) rfl)
                · refine st_test h (fun hb h => ?_) (fun hb h => ?_)
                  · exact JP1.a h (Le.tow 0 0 rfl (.cons rfl (.refl _) (.nil)) (.refl _) rfl)
                  · exact JP1.a h (Le.tow 0 0 rfl (.cons rfl (.refl _) (.nil)) (.refl _) rfl)
          · refine bF ?_
            refine st_test h (fun hb h => ?_) (fun hb h => ?_)
            · refine bT ?_
              refine bT ?_
              exact JP1.a h (Le.tow 0 0 rfl (.cons rfl (.refl _) (.nil)) (.refl _) rfl)
            · refine st_test h (fun hb h => ?_) (fun hb h => ?_)
              · refine bT ?_
                exact JP1.a h (Le.tow 0 0 rfl (.cons rfl (.refl _) (.nil)) (.refl _) rfl)
              · refine st_test h (fun hb h => ?_) (fun hb h => ?_)
                · exact JP1.a h (Le.tow 0 0 rfl (.cons rfl (.refl _) (.nil)) (.refl _) rfl)
                · exact JP1.a h (Le.tow 0 0 rfl (.cons rfl (.refl _) (.nil)) (.refl _) rfl)
      · refine bF ?_
        refine st_test h (fun hb h => ?_) (fun hb h => ?_)
        · refine st_test h (fun hb h => ?_) (fun hb h => ?_)
          · refine bT ?_
            refine bT ?_
            refine bT ?_
            exact JP1.a h (Le.tow 0 0 rfl (.cons rfl (.refl _) (.nil)) (.refl _) rfl)
          · refine st_test h (fun hb h => ?_) (fun hb h => ?_)
            · refine bT ?_
              refine bT ?_
              exact JP1.a h (Le.tow 0 0 rfl (.cons rfl (.refl _) (.nil)) (.refl _) rfl)
            · refine st_test h (fun hb h => ?_) (fun hb h => ?_)
              · refine bT ?_
                exact JP1.a h (Le.tow 0 0 rfl (.cons rfl (.refl _) (.nil)) (.refl _) rfl)
              · refine st_test h (fun hb h => ?_) (fun hb h => ?_)
                · exact JP1.a h (Le.tow 0 0 rfl (.cons rfl (.refl _) (.nil)) (.refl _) rfl)
                · exact JP1.a h (Le.tow 0 0 rfl (.cons rfl (.refl _) (.nil)) (.refl _) rfl)
        · refine bF ?_
          refine st_test h (fun hb h => ?_) (fun hb h => ?_)
          · refine bT ?_
            refine bT ?_
            exact JP1.a h (Le.tow 0 0 rfl (.cons rfl (.refl _) (.nil)) (.refl _) rfl)
          · refine st_test h (fun hb h => ?_) (fun hb h => ?_)
            · refine bT ?_
              exact JP1.a h (Le.tow 0 0 rfl (.cons rfl (.refl _) (.nil)) (.refl _) rfl)
            · refine st_test h (fun hb h => ?_) (fun hb h => ?_)
              · exact JP1.a h (Le.tow 0 0 rfl (.cons rfl (.refl _) (.nil)) (.refl _) rfl)
              · exact JP1.a h (Le.tow 0 0 rfl (.cons rfl (.refl _) (.nil)) (.refl _) rfl)
  · have h := hk
    refine st_ret (t := t_R08_Free) h ?_
    exact .refl _
noncomputable def R12_digit (p0 : Int) : Option (Bool) :=
  ( if (decide (p0 ≥ 48)) then
      some (decide (p0 ≤ 57))
    else
      some false : Option (Bool)) >>= fun o1 =>
  some o1
set_option maxRecDepth 100000 in
set_option maxHeartbeats 4000000 in
theorem R12_digit_ok : ∀ (p0 : Int) (o : Bool), R12_digit p0 = some o → PCall Try.prog 73 [nV .u8 p0] (t_R12_digit o) := by
  intro p0 o h
  unfold R12_digit at h
  refine PCall.ofB mixed tbOk R12_digit_lv Try.func73 rfl (by kernel_rfl) (Nat.le_of_ble_eq_true rfl) ?_
  refine st_bind h (fun o1 ho hk => ?_)
  refine Exists.intro (JP1 _ _ o1 .normal (R12_digit_J0_0 )) (And.intro ?_ (join1 ?_))
  · have h := ho
    refine st_test h (fun hb h => ?_) (fun hb h => ?_)
    · exact JP1.a h (Le.tow 0 0 rfl (.cons rfl (.refl _) (.nil)) (.refl _) rfl)
    · exact JP1.a h (Le.tow 0 0 rfl (.cons rfl (.refl _) (.nil)) (.refl _) rfl)
  · have h := hk
    refine st_ret (t := t_R12_digit) h ?_
    exact .refl _
noncomputable def R12_authority_L1 (p0 : R12_Uri) (y3 : (List UInt8) × (List UInt8) × Bool) (x9 : (List UInt8)) (o10 : (List UInt8) × Bool) (v8 : Int) : Option (Unit ⊕ Unit) :=
  if (decide (v8 < (o10.1.length : Int))) then
    idx o10.1 v8 >>= fun x15 =>
    R12_digit (x15.toNat : Int) >>= fun x16 =>
    if (!x16) then
      some (.inr ())
    else
      R12_authority_L1 p0 y3 x9 o10 (wr (v8 + 1))
  else
    some (.inl ())
  partial_fixpoint
set_option maxRecDepth 100000 in
set_option maxHeartbeats 4000000 in
theorem R12_authority_L1_grp : ∀ (p0 : R12_Uri) (y3 : (List UInt8) × (List UInt8) × Bool) (x9 : (List UInt8)) (o10 : (List UInt8) × Bool), (∀ (v8 : Int) (o12 : Unit ⊕ Unit), R12_authority_L1 p0 y3 x9 o10 v8 = some o12 → TL (0, 0) Try.prog 64 R12_authority_L1_c (JP2 (0, 0) 64 o12 (.exit 0) (R12_authority_L1_x0 p0 y3 x9 o10) .ret (R12_authority_L1_x1 p0 y3 x9 o10)) (R12_authority_L1_st p0 y3 x9 o10 v8)) := by
  intro p0 y3 x9 o10
  refine R12_authority_L1.partial_correctness p0 y3 x9 o10 _ ?_
  intro R12_authority_L1' ih_R12_authority_L1 v8 o12 h
  refine TL.round (bwp_sound mixed tbOk (lv := R12_authority_lv) _ _ _ ?_)
  refine vrfl ?_
  refine st_test h (fun hb h => ?_) (fun hb h => ?_)
  · refine st_sidx h (fun x15 hi h => ?_)
    refine st_call [nV .u8 (x15.toNat : Int)] t_R12_digit h (fun x16 hy => (R12_digit_ok (x15.toNat : Int) x16 hy)) (fun x16 hy h => ?_)
    refine st_test h (fun hb h => ?_) (fun hb h => ?_)
    · exact JP2.b h (Le.tow 2 0 rfl (.cons rfl (.refl _) (.cons rfl (.refl _) (.nil))) (.refl _) rfl)
    · refine TL.le (τ := R12_authority_L1_st p0 y3 x9 o10 (wr (v8 + 1))) ?_ ((ih_R12_authority_L1 (wr (v8 + 1)) _ h))
      exact Le.tow 2 0 rfl (.cons rfl (.refl _) (.cons rfl (.refl _) (.cons rfl (.refl _) (.nil)))) (.refl _) rfl
  · exact JP2.a h (Le.tow 2 0 rfl (.cons rfl (.refl _) (.cons rfl (.refl _) (.nil))) (.refl _) rfl)
theorem R12_authority_L1_ok : ∀ (p0 : R12_Uri) (y3 : (List UInt8) × (List UInt8) × Bool) (x9 : (List UInt8)) (o10 : (List UInt8) × Bool) (v8 : Int) (o12 : Unit ⊕ Unit), R12_authority_L1 p0 y3 x9 o10 v8 = some o12 → TL (0, 0) Try.prog 64 R12_authority_L1_c (JP2 (0, 0) 64 o12 (.exit 0) (R12_authority_L1_x0 p0 y3 x9 o10) .ret (R12_authority_L1_x1 p0 y3 x9 o10)) (R12_authority_L1_st p0 y3 x9 o10 v8) := fun p0 y3 x9 o10 v8 o12 h => (R12_authority_L1_grp p0 y3 x9 o10) v8 o12 h
noncomputable def R12_one_L1 (p0 : (List UInt8)) (p1 : Int) (v5 : Int) : Option (Unit ⊕ Unit) :=
  if (decide (v5 < (p0.length : Int))) then
    idx p0 v5 >>= fun x4 =>
    if ((x4.toNat : Int) == p1) then
      some (.inr ())
    else
      R12_one_L1 p0 p1 (wr (v5 + 1))
  else
    some (.inl ())
  partial_fixpoint
set_option maxRecDepth 100000 in
set_option maxHeartbeats 4000000 in
theorem R12_one_L1_grp : ∀ (p0 : (List UInt8)) (p1 : Int), (∀ (v5 : Int) (o1 : Unit ⊕ Unit), R12_one_L1 p0 p1 v5 = some o1 → TL (0, 0) Try.prog 17 R12_one_L1_c (JP2 (0, 0) 17 o1 (.exit 0) (R12_one_L1_x0 p0 p1) .ret (R12_one_L1_x1 p0 p1)) (R12_one_L1_st p0 p1 v5)) := by
  intro p0 p1
  refine R12_one_L1.partial_correctness p0 p1 _ ?_
  intro R12_one_L1' ih_R12_one_L1 v5 o1 h
  refine TL.round (bwp_sound mixed tbOk (lv := R12_one_lv) _ _ _ ?_)
  refine vrfl ?_
  refine st_test h (fun hb h => ?_) (fun hb h => ?_)
  · refine st_sidx h (fun x4 hi h => ?_)
    refine st_test h (fun hb h => ?_) (fun hb h => ?_)
    · exact JP2.b h (Le.tow 0 0 rfl (.cons rfl (.refl _) (.nil)) (.refl _) rfl)
    · refine TL.le (τ := R12_one_L1_st p0 p1 (wr (v5 + 1))) ?_ ((ih_R12_one_L1 (wr (v5 + 1)) _ h))
      exact Le.tow 0 0 rfl (.cons rfl (.refl _) (.cons rfl (.refl _) (.cons rfl (.refl _) (.nil)))) (.refl _) rfl
  · exact JP2.a h (Le.tow 0 0 rfl (.nil) (.refl _) rfl)
theorem R12_one_L1_ok : ∀ (p0 : (List UInt8)) (p1 : Int) (v5 : Int) (o1 : Unit ⊕ Unit), R12_one_L1 p0 p1 v5 = some o1 → TL (0, 0) Try.prog 17 R12_one_L1_c (JP2 (0, 0) 17 o1 (.exit 0) (R12_one_L1_x0 p0 p1) .ret (R12_one_L1_x1 p0 p1)) (R12_one_L1_st p0 p1 v5) := fun p0 p1 v5 o1 h => (R12_one_L1_grp p0 p1) v5 o1 h
noncomputable def R12_one (p0 : (List UInt8)) (p1 : Int) : Option (Bool) :=
  (R12_one_L1 p0 p1 0) >>= fun o1 =>
  match o1 with
  | .inl y2 =>
    some false
  | .inr y3 =>
    some true
set_option maxRecDepth 100000 in
set_option maxHeartbeats 4000000 in
theorem R12_one_ok : ∀ (p0 : (List UInt8)) (p1 : Int) (o : Bool), R12_one p0 p1 = some o → PCall Try.prog 71 [sV p0, nV .u8 p1] (t_R12_one o) := by
  intro p0 p1 o h
  unfold R12_one at h
  refine PCall.ofB mixed tbOk R12_one_lv Try.func71 rfl (by kernel_rfl) (Nat.le_of_ble_eq_true rfl) ?_
  refine st_bind h (fun o1 ho hk => ?_)
  refine Exists.intro (JP2 _ _ o1 (.exit 0) (R12_one_L1_x0 p0 p1) .ret (R12_one_L1_x1 p0 p1)) (And.intro (T_le (τ := R12_one_L1_st p0 p1 0) ?_ (TL.loop (R12_one_L1_ok p0 p1 0 o1 ho))) (join2 (fun y2 hy => ?_) (fun y3 hy => ?_)))
  · exact Le.tow 0 0 rfl (.cons rfl (.refl _) (.cons rfl (.refl _) (.cons rfl (.refl _) (.nil)))) (.refl _) rfl
  · have h := (by rw [hy] at hk; exact hk)
    refine st_ret (t := t_R12_one) h ?_
    exact .refl _
  · have h := (by rw [hy] at hk; exact hk)
    refine st_ret (t := t_R12_one) h ?_
    exact .refl _
noncomputable def R12_fits_L1 (p0 : (List UInt8)) (p1 : (List UInt8)) (p2 : (List UInt8)) (v7 : Int) : Option (Unit ⊕ Unit) :=
  if (decide (v7 < (p0.length : Int))) then
    idx p0 v7 >>= fun x4 =>
    R12_one p1 (x4.toNat : Int) >>= fun x5 =>
    if x5 then
      some (.inr ())
    else
      if ((x4.toNat : Int) == 37) then
        R01_Byte p0 (wr (v7 + 1)) >>= fun x6 =>
        if (!x6.2) then
          some (.inr ())
        else
          R12_fits_L1 p0 p1 p2 (wr (v7 + 1))
      else
        ( R08_Free (x4.toNat : Int) >>= fun x8 =>
          if (!x8) then
            R12_one [33, 36, 38, 39, 40, 41, 42, 43, 44, 59, 61, 58, 64] (x4.toNat : Int) >>= fun x9 =>
            if (!x9) then
              R12_one p2 (x4.toNat : Int) >>= fun x10 =>
              some (!x10)
            else
              some false
          else
            some false : Option (Bool)) >>= fun o7 =>
        if o7 then
          some (.inr ())
        else
          R12_fits_L1 p0 p1 p2 (wr (v7 + 1))
  else
    some (.inl ())
  partial_fixpoint
set_option maxRecDepth 100000 in
set_option maxHeartbeats 4000000 in
theorem R12_fits_L1_grp : ∀ (p0 : (List UInt8)) (p1 : (List UInt8)) (p2 : (List UInt8)), (∀ (v7 : Int) (o1 : Unit ⊕ Unit), R12_fits_L1 p0 p1 p2 v7 = some o1 → TL (0, 0) Try.prog 48 R12_fits_L1_c (JP2 (0, 0) 48 o1 (.exit 0) (R12_fits_L1_x0 p0 p1 p2) .ret (R12_fits_L1_x1 p0 p1 p2)) (R12_fits_L1_st p0 p1 p2 v7)) := by
  intro p0 p1 p2
  refine R12_fits_L1.partial_correctness p0 p1 p2 _ ?_
  intro R12_fits_L1' ih_R12_fits_L1 v7 o1 h
  refine TL.round (bwp_sound mixed tbOk (lv := R12_fits_lv) _ _ _ ?_)
  refine vrfl ?_
  refine st_test h (fun hb h => ?_) (fun hb h => ?_)
  · refine st_sidx h (fun x4 hi h => ?_)
    refine st_call [sV p1, nV .u8 (x4.toNat : Int)] t_R12_one h (fun x5 hy => (R12_one_ok p1 (x4.toNat : Int) x5 hy)) (fun x5 hy h => ?_)
    refine st_test h (fun hb h => ?_) (fun hb h => ?_)
    · exact JP2.b h (Le.tow 0 0 rfl (.cons rfl (.refl _) (.nil)) (.refl _) rfl)
    · refine st_test h (fun hb h => ?_) (fun hb h => ?_)
      · refine st_call [sV p0, iV (wr (v7 + 1))] t_R01_Byte h (fun x6 hy => (R01_Byte_ok p0 (wr (v7 + 1)) x6 hy)) (fun x6 hy h => ?_)
        refine st_test h (fun hb h => ?_) (fun hb h => ?_)
        · exact JP2.b h (Le.tow 0 0 rfl (.cons rfl (.refl _) (.nil)) (.refl _) rfl)
        · refine TL.le (τ := R12_fits_L1_st p0 p1 p2 (wr (v7 + 1))) ?_ ((ih_R12_fits_L1 (wr (v7 + 1)) _ h))
          exact Le.tow 0 0 rfl (.cons rfl (.refl _) (.cons rfl (.refl _) (.cons rfl (.refl _) (.cons rfl (.refl _) (.nil))))) (.refl _) rfl
      · refine st_bind h (fun o7 ho hk => ?_)
        refine Exists.intro (JP1 _ _ o7 .normal (R12_fits_J0_0 p0 p1 p2 v7)) (And.intro ?_ (join1 ?_))
        · have h := ho
          refine st_call [nV .u8 (x4.toNat : Int)] t_R08_Free h (fun x8 hy => (R08_Free_ok (x4.toNat : Int) x8 hy)) (fun x8 hy h => ?_)
          refine st_test h (fun hb h => ?_) (fun hb h => ?_)
          · refine st_call [sV [33, 36, 38, 39, 40, 41, 42, 43, 44, 59, 61, 58, 64], nV .u8 (x4.toNat : Int)] t_R12_one h (fun x9 hy => (R12_one_ok [33, 36, 38, 39, 40, 41, 42, 43, 44, 59, 61, 58, 64] (x4.toNat : Int) x9 hy)) (fun x9 hy h => ?_)
            refine st_test h (fun hb h => ?_) (fun hb h => ?_)
            · refine st_call [sV p2, nV .u8 (x4.toNat : Int)] t_R12_one h (fun x10 hy => (R12_one_ok p2 (x4.toNat : Int) x10 hy)) (fun x10 hy h => ?_)
              exact JP1.a h (Le.tow 0 0 rfl (.cons rfl (.refl _) (.cons rfl (.refl _) (.cons rfl (.refl _) (.cons rfl (.refl _) (.cons rfl (.refl _) (.nil)))))) (.refl _) rfl)
            · exact JP1.a h (Le.tow 0 0 rfl (.cons rfl (.refl _) (.cons rfl (.refl _) (.cons rfl (.refl _) (.cons rfl (.refl _) (.cons rfl (.refl _) (.nil)))))) (.refl _) rfl)
          · refine bF ?_
            exact JP1.a h (Le.tow 0 0 rfl (.cons rfl (.refl _) (.cons rfl (.refl _) (.cons rfl (.refl _) (.cons rfl (.refl _) (.cons rfl (.refl _) (.nil)))))) (.refl _) rfl)
        · have h := hk
          refine st_test h (fun hb h => ?_) (fun hb h => ?_)
          · exact JP2.b h (Le.tow 0 0 rfl (.cons rfl (.refl _) (.nil)) (.refl _) rfl)
          · refine TL.le (τ := R12_fits_L1_st p0 p1 p2 (wr (v7 + 1))) ?_ ((ih_R12_fits_L1 (wr (v7 + 1)) _ h))
            exact Le.tow 0 0 rfl (.cons rfl (.refl _) (.cons rfl (.refl _) (.cons rfl (.refl _) (.cons rfl (.refl _) (.nil))))) (.refl _) rfl
  · exact JP2.a h (Le.tow 0 0 rfl (.nil) (.refl _) rfl)
theorem R12_fits_L1_ok : ∀ (p0 : (List UInt8)) (p1 : (List UInt8)) (p2 : (List UInt8)) (v7 : Int) (o1 : Unit ⊕ Unit), R12_fits_L1 p0 p1 p2 v7 = some o1 → TL (0, 0) Try.prog 48 R12_fits_L1_c (JP2 (0, 0) 48 o1 (.exit 0) (R12_fits_L1_x0 p0 p1 p2) .ret (R12_fits_L1_x1 p0 p1 p2)) (R12_fits_L1_st p0 p1 p2 v7) := fun p0 p1 p2 v7 o1 h => (R12_fits_L1_grp p0 p1 p2) v7 o1 h
noncomputable def R12_fits (p0 : (List UInt8)) (p1 : (List UInt8)) (p2 : (List UInt8)) : Option (Bool) :=
  (R12_fits_L1 p0 p1 p2 0) >>= fun o1 =>
  match o1 with
  | .inl y2 =>
    some true
  | .inr y3 =>
    some false
set_option maxRecDepth 100000 in
set_option maxHeartbeats 4000000 in
theorem R12_fits_ok : ∀ (p0 : (List UInt8)) (p1 : (List UInt8)) (p2 : (List UInt8)) (o : Bool), R12_fits p0 p1 p2 = some o → PCall Try.prog 42 [sV p0, sV p1, sV p2] (t_R12_fits o) := by
  intro p0 p1 p2 o h
  unfold R12_fits at h
  refine PCall.ofB mixed tbOk R12_fits_lv Try.func42 rfl (by kernel_rfl) (Nat.le_of_ble_eq_true rfl) ?_
  refine st_bind h (fun o1 ho hk => ?_)
  refine Exists.intro (JP2 _ _ o1 (.exit 0) (R12_fits_L1_x0 p0 p1 p2) .ret (R12_fits_L1_x1 p0 p1 p2)) (And.intro (T_le (τ := R12_fits_L1_st p0 p1 p2 0) ?_ (TL.loop (R12_fits_L1_ok p0 p1 p2 0 o1 ho))) (join2 (fun y2 hy => ?_) (fun y3 hy => ?_)))
  · exact Le.tow 0 0 rfl (.cons rfl (.refl _) (.cons rfl (.refl _) (.cons rfl (.refl _) (.cons rfl (.refl _) (.nil))))) (.refl _) rfl
  · have h := (by rw [hy] at hk; exact hk)
    refine st_ret (t := t_R12_fits) h ?_
    exact .refl _
  · have h := (by rw [hy] at hk; exact hk)
    refine st_ret (t := t_R12_fits) h ?_
    exact .refl _
noncomputable def R12_upto_L1 (p0 : (List UInt8)) (p1 : (List UInt8)) (v5 : Int) : Option (Unit ⊕ Int) :=
  if (decide (v5 < (p0.length : Int))) then
    idx p0 v5 >>= fun x4 =>
    R12_one p1 (x4.toNat : Int) >>= fun x5 =>
    if x5 then
      some (.inr v5)
    else
      R12_upto_L1 p0 p1 (wr (v5 + 1))
  else
    some (.inl ())
  partial_fixpoint
set_option maxRecDepth 100000 in
set_option maxHeartbeats 4000000 in
theorem R12_upto_L1_grp : ∀ (p0 : (List UInt8)) (p1 : (List UInt8)), (∀ (v5 : Int) (o1 : Unit ⊕ Int), R12_upto_L1 p0 p1 v5 = some o1 → TL (0, 0) Try.prog 20 R12_upto_L1_c (JP2 (0, 0) 20 o1 (.exit 0) (R12_upto_L1_x0 p0 p1) .ret (R12_upto_L1_x1 p0 p1)) (R12_upto_L1_st p0 p1 v5)) := by
  intro p0 p1
  refine R12_upto_L1.partial_correctness p0 p1 _ ?_
  intro R12_upto_L1' ih_R12_upto_L1 v5 o1 h
  refine TL.round (bwp_sound mixed tbOk (lv := R12_upto_lv) _ _ _ ?_)
  refine vrfl ?_
  refine st_test h (fun hb h => ?_) (fun hb h => ?_)
  · refine st_sidx h (fun x4 hi h => ?_)
    refine st_call [sV p1, nV .u8 (x4.toNat : Int)] t_R12_one h (fun x5 hy => (R12_one_ok p1 (x4.toNat : Int) x5 hy)) (fun x5 hy h => ?_)
    refine st_test h (fun hb h => ?_) (fun hb h => ?_)
    · exact JP2.b h (Le.tow 0 0 rfl (.cons rfl (.refl _) (.nil)) (.refl _) rfl)
    · refine TL.le (τ := R12_upto_L1_st p0 p1 (wr (v5 + 1))) ?_ ((ih_R12_upto_L1 (wr (v5 + 1)) _ h))
      exact Le.tow 0 0 rfl (.cons rfl (.refl _) (.cons rfl (.refl _) (.cons rfl (.refl _) (.nil)))) (.refl _) rfl
  · exact JP2.a h (Le.tow 0 0 rfl (.cons rfl (.refl _) (.nil)) (.refl _) rfl)
theorem R12_upto_L1_ok : ∀ (p0 : (List UInt8)) (p1 : (List UInt8)) (v5 : Int) (o1 : Unit ⊕ Int), R12_upto_L1 p0 p1 v5 = some o1 → TL (0, 0) Try.prog 20 R12_upto_L1_c (JP2 (0, 0) 20 o1 (.exit 0) (R12_upto_L1_x0 p0 p1) .ret (R12_upto_L1_x1 p0 p1)) (R12_upto_L1_st p0 p1 v5) := fun p0 p1 v5 o1 h => (R12_upto_L1_grp p0 p1) v5 o1 h
noncomputable def R12_upto (p0 : (List UInt8)) (p1 : (List UInt8)) : Option (Int) :=
  (R12_upto_L1 p0 p1 0) >>= fun o1 =>
  match o1 with
  | .inl y2 =>
    some (p0.length : Int)
  | .inr y3 =>
    some y3
set_option maxRecDepth 100000 in
set_option maxHeartbeats 4000000 in
theorem R12_upto_ok : ∀ (p0 : (List UInt8)) (p1 : (List UInt8)) (o : Int), R12_upto p0 p1 = some o → PCall Try.prog 38 [sV p0, sV p1] (t_R12_upto o) := by
  intro p0 p1 o h
  unfold R12_upto at h
  refine PCall.ofB mixed tbOk R12_upto_lv Try.func38 rfl (by kernel_rfl) (Nat.le_of_ble_eq_true rfl) ?_
  refine st_bind h (fun o1 ho hk => ?_)
  refine Exists.intro (JP2 _ _ o1 (.exit 0) (R12_upto_L1_x0 p0 p1) .ret (R12_upto_L1_x1 p0 p1)) (And.intro (T_le (τ := R12_upto_L1_st p0 p1 0) ?_ (TL.loop (R12_upto_L1_ok p0 p1 0 o1 ho))) (join2 (fun y2 hy => ?_) (fun y3 hy => ?_)))
  · exact Le.tow 0 0 rfl (.cons rfl (.refl _) (.cons rfl (.refl _) (.cons rfl (.refl _) (.nil)))) (.refl _) rfl
  · have h := (by rw [hy] at hk; exact hk)
    refine vrfl ?_
    refine st_ret (t := t_R12_upto) h ?_
    exact .refl _
  · have h := (by rw [hy] at hk; exact hk)
    refine st_ret (t := t_R12_upto) h ?_
    exact .refl _
noncomputable def R12_authority (p0 : R12_Uri) (p1 : (List UInt8)) : Option (R12_Uri × Bool) :=
  R12_upto p1 [64] >>= fun x1 =>
  ( if (decide (x1 < (p1.length : Int))) then
      cutL p1 0 x1 >>= fun x5 =>
      cutL p1 (wr (x1 + 1)) (p1.length : Int) >>= fun x6 =>
      R12_fits x5 [64] [] >>= fun x7 =>
      if (!x7) then
        some (.inr (x5, x5))
      else
        some (.inl (x6, x5, true))
    else
      some (.inl (p1, p0.User, p0.HasUser)) : Option (((List UInt8) × (List UInt8) × Bool) ⊕ ((List UInt8) × (List UInt8)))) >>= fun o2 =>
  match o2 with
  | .inl y3 =>
    R12_upto y3.1 [58] >>= fun x8 =>
    cutL y3.1 0 x8 >>= fun x9 =>
    ( if (decide (x8 < (y3.1.length : Int))) then
        cutL y3.1 (wr (x8 + 1)) (y3.1.length : Int) >>= fun x11 =>
        some (x11, true)
      else
        some (p0.Port, p0.HasPort) : Option (((List UInt8) × Bool))) >>= fun o10 =>
    (R12_authority_L1 p0 y3 x9 o10 0) >>= fun o12 =>
    match o12 with
    | .inl y13 =>
      R12_fits x9 [58, 64] [] >>= fun x17 =>
      some ((R12_Uri.mk p0.Scheme y3.2.1 x9 o10.1 p0.Path p0.Query p0.Frag true y3.2.2 o10.2 p0.HasQuery p0.HasFrag), x17)
    | .inr y14 =>
      some ((R12_Uri.mk p0.Scheme y3.2.1 x9 o10.1 p0.Path p0.Query p0.Frag true y3.2.2 o10.2 p0.HasQuery p0.HasFrag), false)
  | .inr y4 =>
    some ((R12_Uri.mk p0.Scheme y4.2 p0.Host p0.Port p0.Path p0.Query p0.Frag true true p0.HasPort p0.HasQuery p0.HasFrag), false)
set_option maxRecDepth 100000 in
set_option maxHeartbeats 4000000 in
theorem R12_authority_ok : ∀ (p0 : R12_Uri) (p1 : (List UInt8)) (o : R12_Uri × Bool), R12_authority p0 p1 = some o → PCall Try.prog 41 [.agg [sV p0.Scheme, sV p0.User, sV p0.Host, sV p0.Port, sV p0.Path, sV p0.Query, sV p0.Frag, bV p0.Auth, bV p0.HasUser, bV p0.HasPort, bV p0.HasQuery, bV p0.HasFrag], sV p1] (t_R12_authority o) := by
  intro p0 p1 o h
  unfold R12_authority at h
  refine PCall.ofB mixed tbOk R12_authority_lv Try.func41 rfl (by kernel_rfl) (Nat.le_of_ble_eq_true rfl) ?_
  refine st_call [sV p1, sV [64]] t_R12_upto h (fun x1 hy => (R12_upto_ok p1 [64] x1 hy)) (fun x1 hy h => ?_)
  refine st_bind h (fun o2 ho hk => ?_)
  refine Exists.intro (JP2 _ _ o2 .normal (R12_authority_J0_0 p0) .ret (R12_authority_J0_1 p0)) (And.intro ?_ (join2 (fun y3 hy => ?_) (fun y4 hy => ?_)))
  · have h := ho
    refine vrfl ?_
    refine st_test h (fun hb h => ?_) (fun hb h => ?_)
    · refine st_cuts none (some x1) h (fun x5 hi h => ?_)
      refine st_cuts (some (wr (x1 + 1))) none h (fun x6 hi h => ?_)
      refine st_call [sV x5, sV [64], sV []] t_R12_fits h (fun x7 hy => (R12_fits_ok x5 [64] [] x7 hy)) (fun x7 hy h => ?_)
      refine st_test h (fun hb h => ?_) (fun hb h => ?_)
      · exact JP2.b h (Le.tow 2 0 rfl (.cons rfl (.refl _) (.cons rfl (.refl _) (.nil))) (.refl _) rfl)
      · exact JP2.a h (Le.tow 2 0 rfl (.cons rfl (.refl _) (.cons rfl (.refl _) (.cons rfl (.refl _) (.nil)))) (.refl _) rfl)
    · exact JP2.a h (Le.tow 2 0 rfl (.cons rfl (.refl _) (.cons rfl (.refl _) (.cons rfl (.refl _) (.nil)))) (.refl _) rfl)
  · have h := (by rw [hy] at hk; exact hk)
    refine st_call [sV y3.1, sV [58]] t_R12_upto h (fun x8 hy => (R12_upto_ok y3.1 [58] x8 hy)) (fun x8 hy h => ?_)
    refine st_cuts none (some x8) h (fun x9 hi h => ?_)
    refine st_bind h (fun o10 ho hk => ?_)
    refine Exists.intro (JP1 _ _ o10 .normal (R12_authority_J1_0 p0 y3 x9)) (And.intro ?_ (join1 ?_))
    · have h := ho
      refine vrfl ?_
      refine st_test h (fun hb h => ?_) (fun hb h => ?_)
      · refine st_cuts (some (wr (x8 + 1))) none h (fun x11 hi h => ?_)
        exact JP1.a h (Le.tow 2 0 rfl (.cons rfl (.refl _) (.cons rfl (.refl _) (.nil))) (.refl _) rfl)
      · exact JP1.a h (Le.tow 2 0 rfl (.cons rfl (.refl _) (.cons rfl (.refl _) (.nil))) (.refl _) rfl)
    · have h := hk
      refine st_bind h (fun o12 ho hk => ?_)
      refine Exists.intro (JP2 _ _ o12 (.exit 0) (R12_authority_L1_x0 p0 y3 x9 o10) .ret (R12_authority_L1_x1 p0 y3 x9 o10)) (And.intro (T_le (τ := R12_authority_L1_st p0 y3 x9 o10 0) ?_ (TL.loop (R12_authority_L1_ok p0 y3 x9 o10 0 o12 ho))) (join2 (fun y13 hy => ?_) (fun y14 hy => ?_)))
      · exact Le.tow 2 0 rfl (.cons rfl (.refl _) (.cons rfl (.refl _) (.cons rfl (.refl _) (.nil)))) (.refl _) rfl
      · have h := (by rw [hy] at hk; exact hk)
        refine And.intro (by decide +kernel) (And.intro rfl ?_)
        refine st_calld [sV x9, sV [58, 64], sV []] t_R12_fits h (fun x17 hy => (R12_fits_ok x9 [58, 64] [] x17 hy)) (fun x17 hy h => ?_)
        refine st_ret (t := t_R12_authority) h ?_
        exact .refl _
      · have h := (by rw [hy] at hk; exact hk)
        refine st_ret (t := t_R12_authority) h ?_
        exact .refl _
  · have h := (by rw [hy] at hk; exact hk)
    refine st_ret (t := t_R12_authority) h ?_
    exact .refl _
noncomputable def R12_letter (p0 : Int) : Option (Bool) :=
  ( if (decide (p0 ≥ 97)) then
      if (decide (p0 ≤ 122)) then
        some true
      else
        if (decide (p0 ≥ 65)) then
          some (decide (p0 ≤ 90))
        else
          some false
    else
      if (decide (p0 ≥ 65)) then
        some (decide (p0 ≤ 90))
      else
        some false : Option (Bool)) >>= fun o1 =>
  some o1
set_option maxRecDepth 100000 in
set_option maxHeartbeats 4000000 in
theorem R12_letter_ok : ∀ (p0 : Int) (o : Bool), R12_letter p0 = some o → PCall Try.prog 72 [nV .u8 p0] (t_R12_letter o) := by
  intro p0 o h
  unfold R12_letter at h
  refine PCall.ofB mixed tbOk R12_letter_lv Try.func72 rfl (by kernel_rfl) (Nat.le_of_ble_eq_true rfl) ?_
  refine st_bind h (fun o1 ho hk => ?_)
  refine Exists.intro (JP1 _ _ o1 .normal (R12_letter_J0_0 )) (And.intro ?_ (join1 ?_))
  · have h := ho
    refine st_test h (fun hb h => ?_) (fun hb h => ?_)
    · refine st_test h (fun hb h => ?_) (fun hb h => ?_)
      · exact JP1.a h (Le.tow 0 0 rfl (.cons rfl (.refl _) (.nil)) (.refl _) rfl)
      · refine st_test h (fun hb h => ?_) (fun hb h => ?_)
        · exact JP1.a h (Le.tow 0 0 rfl (.cons rfl (.refl _) (.nil)) (.refl _) rfl)
        · exact JP1.a h (Le.tow 0 0 rfl (.cons rfl (.refl _) (.nil)) (.refl _) rfl)
    · refine bF ?_
      refine st_test h (fun hb h => ?_) (fun hb h => ?_)
      · exact JP1.a h (Le.tow 0 0 rfl (.cons rfl (.refl _) (.nil)) (.refl _) rfl)
      · exact JP1.a h (Le.tow 0 0 rfl (.cons rfl (.refl _) (.nil)) (.refl _) rfl)
  · have h := hk
    refine st_ret (t := t_R12_letter) h ?_
    exact .refl _
noncomputable def R12_scheme_L1 (p0 : (List UInt8)) (v3 : Int) : Option (Unit ⊕ Unit) :=
  if (decide (v3 < (p0.length : Int))) then
    ( idx p0 v3 >>= fun x8 =>
      R12_letter (x8.toNat : Int) >>= fun x9 =>
      if (!x9) then
        idx p0 v3 >>= fun x10 =>
        R12_digit (x10.toNat : Int) >>= fun x11 =>
        if (!x11) then
          idx p0 v3 >>= fun x12 =>
          R12_one [43, 45, 46] (x12.toNat : Int) >>= fun x13 =>
          some (!x13)
        else
          some false
      else
        some false : Option (Bool)) >>= fun o7 =>
    if o7 then
      some (.inr ())
    else
      R12_scheme_L1 p0 (wr (v3 + 1))
  else
    some (.inl ())
  partial_fixpoint
set_option maxRecDepth 100000 in
set_option maxHeartbeats 4000000 in
theorem R12_scheme_L1_grp : ∀ (p0 : (List UInt8)), (∀ (v3 : Int) (o4 : Unit ⊕ Unit), R12_scheme_L1 p0 v3 = some o4 → TL (0, 0) Try.prog 38 R12_scheme_L1_c (JP2 (0, 0) 38 o4 (.exit 0) (R12_scheme_L1_x0 p0) .ret (R12_scheme_L1_x1 p0)) (R12_scheme_L1_st p0 v3)) := by
  intro p0
  refine R12_scheme_L1.partial_correctness p0 _ ?_
  intro R12_scheme_L1' ih_R12_scheme_L1 v3 o4 h
  refine TL.round (bwp_sound mixed tbOk (lv := R12_scheme_lv) _ _ _ ?_)
  refine vrfl ?_
  refine st_test h (fun hb h => ?_) (fun hb h => ?_)
  · refine st_bind h (fun o7 ho hk => ?_)
    refine Exists.intro (JP1 _ _ o7 .normal (R12_scheme_J1_0 p0 v3)) (And.intro ?_ (join1 ?_))
    · have h := ho
      refine st_sidx h (fun x8 hi h => ?_)
      refine st_call [nV .u8 (x8.toNat : Int)] t_R12_letter h (fun x9 hy => (R12_letter_ok (x8.toNat : Int) x9 hy)) (fun x9 hy h => ?_)
      refine st_test h (fun hb h => ?_) (fun hb h => ?_)
      · refine st_sidx h (fun x10 hi h => ?_)
        refine st_call [nV .u8 (x10.toNat : Int)] t_R12_digit h (fun x11 hy => (R12_digit_ok (x10.toNat : Int) x11 hy)) (fun x11 hy h => ?_)
        refine st_test h (fun hb h => ?_) (fun hb h => ?_)
        · refine st_sidx h (fun x12 hi h => ?_)
          refine st_call [sV [43, 45, 46], nV .u8 (x12.toNat : Int)] t_R12_one h (fun x13 hy => (R12_one_ok [43, 45, 46] (x12.toNat : Int) x13 hy)) (fun x13 hy h => ?_)
          exact JP1.a h (Le.tow 0 0 rfl (.cons rfl (.refl _) (.cons rfl (.refl _) (.cons rfl (.refl _) (.nil)))) (.refl _) rfl)
        · exact JP1.a h (Le.tow 0 0 rfl (.cons rfl (.refl _) (.cons rfl (.refl _) (.cons rfl (.refl _) (.nil)))) (.refl _) rfl)
      · refine bF ?_
        exact JP1.a h (Le.tow 0 0 rfl (.cons rfl (.refl _) (.cons rfl (.refl _) (.cons rfl (.refl _) (.nil)))) (.refl _) rfl)
    · have h := hk
      refine st_test h (fun hb h => ?_) (fun hb h => ?_)
      · exact JP2.b h (Le.tow 0 0 rfl (.cons rfl (.refl _) (.nil)) (.refl _) rfl)
      · refine TL.le (τ := R12_scheme_L1_st p0 (wr (v3 + 1))) ?_ ((ih_R12_scheme_L1 (wr (v3 + 1)) _ h))
        exact Le.tow 0 0 rfl (.cons rfl (.refl _) (.cons rfl (.refl _) (.nil))) (.refl _) rfl
  · exact JP2.a h (Le.tow 0 0 rfl (.nil) (.refl _) rfl)
theorem R12_scheme_L1_ok : ∀ (p0 : (List UInt8)) (v3 : Int) (o4 : Unit ⊕ Unit), R12_scheme_L1 p0 v3 = some o4 → TL (0, 0) Try.prog 38 R12_scheme_L1_c (JP2 (0, 0) 38 o4 (.exit 0) (R12_scheme_L1_x0 p0) .ret (R12_scheme_L1_x1 p0)) (R12_scheme_L1_st p0 v3) := fun p0 v3 o4 h => (R12_scheme_L1_grp p0) v3 o4 h
noncomputable def R12_scheme (p0 : (List UInt8)) : Option (Bool) :=
  ( if ((p0.length : Int) == 0) then
      some true
    else
      idx p0 0 >>= fun x2 =>
      R12_letter (x2.toNat : Int) >>= fun x3 =>
      some (!x3) : Option (Bool)) >>= fun o1 =>
  if o1 then
    some false
  else
    (R12_scheme_L1 p0 0) >>= fun o4 =>
    match o4 with
    | .inl y5 =>
      some true
    | .inr y6 =>
      some false
set_option maxRecDepth 100000 in
set_option maxHeartbeats 4000000 in
theorem R12_scheme_ok : ∀ (p0 : (List UInt8)) (o : Bool), R12_scheme p0 = some o → PCall Try.prog 39 [sV p0] (t_R12_scheme o) := by
  intro p0 o h
  unfold R12_scheme at h
  refine PCall.ofB mixed tbOk R12_scheme_lv Try.func39 rfl (by kernel_rfl) (Nat.le_of_ble_eq_true rfl) ?_
  refine st_bind h (fun o1 ho hk => ?_)
  refine Exists.intro (JP1 _ _ o1 .normal (R12_scheme_J0_0 p0)) (And.intro ?_ (join1 ?_))
  · have h := ho
    refine vrfl ?_
    refine st_test h (fun hb h => ?_) (fun hb h => ?_)
    · exact JP1.a h (Le.tow 0 0 rfl (.cons rfl (.refl _) (.cons rfl (.refl _) (.nil))) (.refl _) rfl)
    · refine st_sidx h (fun x2 hi h => ?_)
      refine st_call [nV .u8 (x2.toNat : Int)] t_R12_letter h (fun x3 hy => (R12_letter_ok (x2.toNat : Int) x3 hy)) (fun x3 hy h => ?_)
      exact JP1.a h (Le.tow 0 0 rfl (.cons rfl (.refl _) (.cons rfl (.refl _) (.nil))) (.refl _) rfl)
  · have h := hk
    refine st_test h (fun hb h => ?_) (fun hb h => ?_)
    · refine st_ret (t := t_R12_scheme) h ?_
      exact .refl _
    · refine st_bind h (fun o4 ho hk => ?_)
      refine Exists.intro (JP2 _ _ o4 (.exit 0) (R12_scheme_L1_x0 p0) .ret (R12_scheme_L1_x1 p0)) (And.intro (T_le (τ := R12_scheme_L1_st p0 0) ?_ (TL.loop (R12_scheme_L1_ok p0 0 o4 ho))) (join2 (fun y5 hy => ?_) (fun y6 hy => ?_)))
      · exact Le.tow 0 0 rfl (.cons rfl (.refl _) (.cons rfl (.refl _) (.nil))) (.refl _) rfl
      · have h := (by rw [hy] at hk; exact hk)
        refine st_ret (t := t_R12_scheme) h ?_
        exact .refl _
      · have h := (by rw [hy] at hk; exact hk)
        refine st_ret (t := t_R12_scheme) h ?_
        exact .refl _
noncomputable def R12_Split (p0 : (List UInt8)) : Option (R12_Uri × Int) :=
  R12_upto p0 [58, 47, 63, 35] >>= fun x1 =>
  ( ( if (decide (x1 < (p0.length : Int))) then
        idx p0 x1 >>= fun x6 =>
        some ((x6.toNat : Int) == 58)
      else
        some false : Option (Bool)) >>= fun o5 =>
    if o5 then
      cutL p0 0 x1 >>= fun x7 =>
      R12_scheme x7 >>= fun x8 =>
      if (!x8) then
        some (.inr ())
      else
        cutL p0 0 x1 >>= fun x9 =>
        cutL p0 (wr (x1 + 1)) (p0.length : Int) >>= fun x10 =>
        some (.inl (x10, x9))
    else
      some (.inl (p0, [])) : Option (((List UInt8) × (List UInt8)) ⊕ Unit)) >>= fun o2 =>
  match o2 with
  | .inl y3 =>
    ( R01_Begins y3.1 [47, 47] 0 >>= fun x14 =>
      if x14 then
        cutL y3.1 2 (y3.1.length : Int) >>= fun x15 =>
        R12_upto x15 [47, 63, 35] >>= fun x16 =>
        cutL y3.1 2 (wr (2 + x16)) >>= fun x17 =>
        R12_authority (R12_Uri.mk y3.2 [] [] [] [] [] [] false false false false false) x17 >>= fun x18 =>
        if (!x18.2) then
          some (.inr (x18.1.Scheme, x18.1.User, x18.1.Host, x18.1.Port, x18.1.Path, x18.1.Query, x18.1.Frag, x18.1.Auth, x18.1.HasUser, x18.1.HasPort, x18.1.HasQuery, x18.1.HasFrag))
        else
          cutL y3.1 (wr (2 + x16)) (y3.1.length : Int) >>= fun x19 =>
          some (.inl (x19, x18.1.Scheme, x18.1.User, x18.1.Host, x18.1.Port, x18.1.Path, x18.1.Query, x18.1.Frag, x18.1.Auth, x18.1.HasUser, x18.1.HasPort, x18.1.HasQuery, x18.1.HasFrag))
      else
        some (.inl (y3.1, y3.2, [], [], [], [], [], [], false, false, false, false, false)) : Option (((List UInt8) × (List UInt8) × (List UInt8) × (List UInt8) × (List UInt8) × (List UInt8) × (List UInt8) × (List UInt8) × Bool × Bool × Bool × Bool × Bool) ⊕ ((List UInt8) × (List UInt8) × (List UInt8) × (List UInt8) × (List UInt8) × (List UInt8) × (List UInt8) × Bool × Bool × Bool × Bool × Bool))) >>= fun o11 =>
    match o11 with
    | .inl y12 =>
      R12_upto y12.1 [63, 35] >>= fun x20 =>
      cutL y12.1 0 x20 >>= fun x21 =>
      cutL y12.1 x20 (y12.1.length : Int) >>= fun x22 =>
      ( R01_Begins x22 [63] 0 >>= fun x24 =>
        if x24 then
          R12_upto x22 [35] >>= fun x25 =>
          cutL x22 1 x25 >>= fun x26 =>
          cutL x22 x25 (x22.length : Int) >>= fun x27 =>
          some (x27, x26, true)
        else
          some (x22, y12.2.2.2.2.2.2.1, y12.2.2.2.2.2.2.2.2.2.2.2.1) : Option (((List UInt8) × (List UInt8) × Bool))) >>= fun o23 =>
      ( if (decide ((o23.1.length : Int) > 0)) then
          cutL o23.1 1 (o23.1.length : Int) >>= fun x29 =>
          some (x29, true)
        else
          some (y12.2.2.2.2.2.2.2.1, y12.2.2.2.2.2.2.2.2.2.2.2.2) : Option (((List UInt8) × Bool))) >>= fun o28 =>
      ( R12_fits x21 [] [47] >>= fun x31 =>
        if (!x31) then
          some true
        else
          R12_fits o23.2.1 [] [47, 63] >>= fun x32 =>
          if (!x32) then
            some true
          else
            R12_fits o28.1 [] [47, 63] >>= fun x33 =>
            some (!x33) : Option (Bool)) >>= fun o30 =>
      if o30 then
        some ((R12_Uri.mk [] [] [] [] [] [] [] false false false false false), 7)
      else
        some ((R12_Uri.mk y12.2.1 y12.2.2.1 y12.2.2.2.1 y12.2.2.2.2.1 x21 o23.2.1 o28.1 y12.2.2.2.2.2.2.2.2.1 y12.2.2.2.2.2.2.2.2.2.1 y12.2.2.2.2.2.2.2.2.2.2.1 o23.2.2 o28.2), 0)
    | .inr y13 =>
      some ((R12_Uri.mk [] [] [] [] [] [] [] false false false false false), 7)
  | .inr y4 =>
    some ((R12_Uri.mk [] [] [] [] [] [] [] false false false false false), 7)
set_option maxRecDepth 100000 in
set_option maxHeartbeats 4000000 in
theorem R12_Split_ok : ∀ (p0 : (List UInt8)) (o : R12_Uri × Int), R12_Split p0 = some o → PCall Try.prog 12 [sV p0] (t_R12_Split o) := by
  intro p0 o h
  unfold R12_Split at h
  refine PCall.ofB mixed tbOk R12_Split_lv Try.func12 rfl (by kernel_rfl) (Nat.le_of_ble_eq_true rfl) ?_
  refine st_call [sV p0, sV [58, 47, 63, 35]] t_R12_upto h (fun x1 hy => (R12_upto_ok p0 [58, 47, 63, 35] x1 hy)) (fun x1 hy h => ?_)
  refine st_bind h (fun o2 ho hk => ?_)
  refine Exists.intro (JP2 _ _ o2 .normal (R12_Split_J0_0 ) .ret (R12_Split_J0_1 )) (And.intro ?_ (join2 (fun y3 hy => ?_) (fun y4 hy => ?_)))
  · have h := ho
    refine st_bind h (fun o5 ho hk => ?_)
    refine Exists.intro (JP1 _ _ o5 .normal (R12_Split_J1_0 p0 x1)) (And.intro ?_ (join1 ?_))
    · have h := ho
      refine vrfl ?_
      refine st_test h (fun hb h => ?_) (fun hb h => ?_)
      · refine st_sidx h (fun x6 hi h => ?_)
        exact JP1.a h (Le.tow 2 0 rfl (.cons rfl (.refl _) (.cons rfl (.refl _) (.cons rfl (.refl _) (.cons rfl (.refl _) (.cons rfl (.refl _) (.nil)))))) (.refl _) rfl)
      · exact JP1.a h (Le.tow 2 0 rfl (.cons rfl (.refl _) (.cons rfl (.refl _) (.cons rfl (.refl _) (.cons rfl (.refl _) (.cons rfl (.refl _) (.nil)))))) (.refl _) rfl)
    · have h := hk
      refine st_test h (fun hb h => ?_) (fun hb h => ?_)
      · refine st_cuts none (some x1) h (fun x7 hi h => ?_)
        refine st_call [sV x7] t_R12_scheme h (fun x8 hy => (R12_scheme_ok x7 x8 hy)) (fun x8 hy h => ?_)
        refine st_test h (fun hb h => ?_) (fun hb h => ?_)
        · exact JP2.b h (Le.tow 2 0 rfl (.cons rfl (.refl _) (.cons rfl (.refl _) (.nil))) (.refl _) rfl)
        · refine st_cuts none (some x1) h (fun x9 hi h => ?_)
          refine st_cuts (some (wr (x1 + 1))) none h (fun x10 hi h => ?_)
          exact JP2.a h (Le.tow 2 0 rfl (.cons rfl (.refl _) (.cons rfl (.refl _) (.cons rfl (.refl _) (.nil)))) (.refl _) rfl)
      · exact JP2.a h (Le.tow 2 0 rfl (.cons rfl (.refl _) (.cons rfl (.refl _) (.cons rfl (.refl _) (.nil)))) (.refl _) rfl)
  · have h := (by rw [hy] at hk; exact hk)
    refine st_bind h (fun o11 ho hk => ?_)
    refine Exists.intro (JP2 _ _ o11 .normal (R12_Split_J2_0 y3) .ret (R12_Split_J2_1 y3)) (And.intro ?_ (join2 (fun y12 hy => ?_) (fun y13 hy => ?_)))
    · have h := ho
      refine st_call [sV y3.1, sV [47, 47], iV 0] t_R01_Begins h (fun x14 hy => (R01_Begins_ok y3.1 [47, 47] 0 x14 hy)) (fun x14 hy h => ?_)
      refine st_test h (fun hb h => ?_) (fun hb h => ?_)
      · refine st_cuts (some 2) none h (fun x15 hi h => ?_)
        refine st_call [sV x15, sV [47, 63, 35]] t_R12_upto h (fun x16 hy => (R12_upto_ok x15 [47, 63, 35] x16 hy)) (fun x16 hy h => ?_)
        refine And.intro (by decide +kernel) (And.intro rfl ?_)
        refine st_cuts (some 2) (some (wr (2 + x16))) h (fun x17 hi h => ?_)
        refine st_calld [.agg [sV y3.2, sV [], sV [], sV [], sV [], sV [], sV [], bV false, bV false, bV false, bV false, bV false], sV x17] t_R12_authority h (fun x18 hy => (R12_authority_ok (R12_Uri.mk y3.2 [] [] [] [] [] [] false false false false false) x17 x18 hy)) (fun x18 hy h => ?_)
        refine st_test h (fun hb h => ?_) (fun hb h => ?_)
        · exact JP2.b h (Le.tow 3 0 rfl (.cons rfl (.refl _) (.cons rfl (.refl _) (.nil))) (.refl _) rfl)
        · refine st_cuts (some (wr (2 + x16))) none h (fun x19 hi h => ?_)
          exact JP2.a h (Le.tow 2 0 rfl (.cons rfl (.refl _) (.cons rfl (.refl _) (.cons rfl (.refl _) (.nil)))) (.refl _) rfl)
      · exact JP2.a h (Le.tow 2 0 rfl (.cons rfl (.refl _) (.cons rfl (.refl _) (.cons rfl (.refl _) (.nil)))) (.refl _) rfl)
    · have h := (by rw [hy] at hk; exact hk)
      refine st_call [sV y12.1, sV [63, 35]] t_R12_upto h (fun x20 hy => (R12_upto_ok y12.1 [63, 35] x20 hy)) (fun x20 hy h => ?_)
      refine st_cuts none (some x20) h (fun x21 hi h => ?_)
      refine st_cuts (some x20) none h (fun x22 hi h => ?_)
      refine st_bind h (fun o23 ho hk => ?_)
      refine Exists.intro (JP1 _ _ o23 .normal (R12_Split_J3_0 y12 x21)) (And.intro ?_ (join1 ?_))
      · have h := ho
        refine st_call [sV x22, sV [63], iV 0] t_R01_Begins h (fun x24 hy => (R01_Begins_ok x22 [63] 0 x24 hy)) (fun x24 hy h => ?_)
        refine st_test h (fun hb h => ?_) (fun hb h => ?_)
        · refine st_call [sV x22, sV [35]] t_R12_upto h (fun x25 hy => (R12_upto_ok x22 [35] x25 hy)) (fun x25 hy h => ?_)
          refine st_cuts (some 1) (some x25) h (fun x26 hi h => ?_)
          refine st_cuts (some x25) none h (fun x27 hi h => ?_)
          exact JP1.a h (Le.tow 2 0 rfl (.cons rfl (.refl _) (.cons rfl (.refl _) (.cons rfl (.refl _) (.nil)))) (.refl _) rfl)
        · exact JP1.a h (Le.tow 2 0 rfl (.cons rfl (.refl _) (.cons rfl (.refl _) (.cons rfl (.refl _) (.nil)))) (.refl _) rfl)
      · have h := hk
        refine st_bind h (fun o28 ho hk => ?_)
        refine Exists.intro (JP1 _ _ o28 .normal (R12_Split_J4_0 y12 x21 o23)) (And.intro ?_ (join1 ?_))
        · have h := ho
          refine vrfl ?_
          refine st_test h (fun hb h => ?_) (fun hb h => ?_)
          · refine st_cuts (some 1) none h (fun x29 hi h => ?_)
            exact JP1.a h (Le.tow 2 0 rfl (.cons rfl (.refl _) (.cons rfl (.refl _) (.nil))) (.refl _) rfl)
          · exact JP1.a h (Le.tow 2 0 rfl (.cons rfl (.refl _) (.cons rfl (.refl _) (.nil))) (.refl _) rfl)
        · have h := hk
          refine st_bind h (fun o30 ho hk => ?_)
          refine Exists.intro (JP1 _ _ o30 .normal (R12_Split_J5_0 y12 x21 o23 o28)) (And.intro ?_ (join1 ?_))
          · have h := ho
            refine st_call [sV x21, sV [], sV [47]] t_R12_fits h (fun x31 hy => (R12_fits_ok x21 [] [47] x31 hy)) (fun x31 hy h => ?_)
            refine st_test h (fun hb h => ?_) (fun hb h => ?_)
            · refine bT ?_
              exact JP1.a h (Le.tow 2 0 rfl (.cons rfl (.refl _) (.cons rfl (.refl _) (.cons rfl (.refl _) (.nil)))) (.refl _) rfl)
            · refine st_call [sV o23.2.1, sV [], sV [47, 63]] t_R12_fits h (fun x32 hy => (R12_fits_ok o23.2.1 [] [47, 63] x32 hy)) (fun x32 hy h => ?_)
              refine st_test h (fun hb h => ?_) (fun hb h => ?_)
              · exact JP1.a h (Le.tow 2 0 rfl (.cons rfl (.refl _) (.cons rfl (.refl _) (.cons rfl (.refl _) (.nil)))) (.refl _) rfl)
              · refine st_call [sV o28.1, sV [], sV [47, 63]] t_R12_fits h (fun x33 hy => (R12_fits_ok o28.1 [] [47, 63] x33 hy)) (fun x33 hy h => ?_)
                exact JP1.a h (Le.tow 2 0 rfl (.cons rfl (.refl _) (.cons rfl (.refl _) (.cons rfl (.refl _) (.nil)))) (.refl _) rfl)
          · have h := hk
            refine st_test h (fun hb h => ?_) (fun hb h => ?_)
            · refine st_ret (t := t_R12_Split) h ?_
              exact .refl _
            · refine st_ret (t := t_R12_Split) h ?_
              exact .refl _
    · have h := (by rw [hy] at hk; exact hk)
      refine st_ret (t := t_R12_Split) h ?_
      exact .refl _
  · have h := (by rw [hy] at hk; exact hk)
    refine st_ret (t := t_R12_Split) h ?_
    exact .refl _
noncomputable def internal_stringslite_Index (p0 : (List UInt8)) (p1 : (List UInt8)) : Option (Int) :=
  need (p0.length < 4294967281) >>= fun _ =>
  some (Lib.index p0 p1)
set_option maxRecDepth 100000 in
set_option maxHeartbeats 4000000 in
theorem internal_stringslite_Index_ok : ∀ (p0 : (List UInt8)) (p1 : (List UInt8)) (o : Int), internal_stringslite_Index p0 p1 = some o → PCall Try.prog 119 [sV p0, sV p1] (t_internal_stringslite_Index o) := by
  intro p0 p1 o h
  unfold internal_stringslite_Index at h
  obtain ⟨h1, h⟩ := need_some h
  cases h
  exact index_ok _ _ h1
noncomputable def internal_stringslite_Cut (p0 : (List UInt8)) (p1 : (List UInt8)) : Option ((List UInt8) × (List UInt8) × Bool) :=
  internal_stringslite_Index p0 p1 >>= fun x1 =>
  if (decide (x1 ≥ 0)) then
    cutL p0 0 x1 >>= fun x2 =>
    cutL p0 (wr (x1 + (p1.length : Int))) (p0.length : Int) >>= fun x3 =>
    some (x2, x3, true)
  else
    some (p0, [], false)
set_option maxRecDepth 100000 in
set_option maxHeartbeats 4000000 in
theorem internal_stringslite_Cut_ok : ∀ (p0 : (List UInt8)) (p1 : (List UInt8)) (o : (List UInt8) × (List UInt8) × Bool), internal_stringslite_Cut p0 p1 = some o → PCall Try.prog 96 [sV p0, sV p1] (t_internal_stringslite_Cut o) := by
  intro p0 p1 o h
  unfold internal_stringslite_Cut at h
  refine PCall.ofB mixed tbOk internal_stringslite_Cut_lv Try.func96 rfl (by kernel_rfl) (Nat.le_of_ble_eq_true rfl) ?_
  refine st_call [sV p0, sV p1] t_internal_stringslite_Index h (fun x1 hy => (internal_stringslite_Index_ok p0 p1 x1 hy)) (fun x1 hy h => ?_)
  refine st_test h (fun hb h => ?_) (fun hb h => ?_)
  · refine And.intro (by decide +kernel) (And.intro rfl ?_)
    refine st_cuts none (some x1) h (fun x2 hi h => ?_)
    refine vrfl ?_
    refine st_cuts (some (wr (x1 + (p1.length : Int)))) none h (fun x3 hi h => ?_)
    refine st_ret (t := t_internal_stringslite_Cut) h ?_
    exact .refl _
  · refine st_ret (t := t_internal_stringslite_Cut) h ?_
    exact .refl _
noncomputable def internal_stringslite_HasPrefix (p0 : (List UInt8)) (p1 : (List UInt8)) : Option (Bool) :=
  ( if (decide ((p0.length : Int) ≥ (p1.length : Int))) then
      cutL p0 0 (p1.length : Int) >>= fun x2 =>
      some (x2 == p1)
    else
      some false : Option (Bool)) >>= fun o1 =>
  some o1
set_option maxRecDepth 100000 in
set_option maxHeartbeats 4000000 in
theorem internal_stringslite_HasPrefix_ok : ∀ (p0 : (List UInt8)) (p1 : (List UInt8)) (o : Bool), internal_stringslite_HasPrefix p0 p1 = some o → PCall Try.prog 95 [sV p0, sV p1] (t_internal_stringslite_HasPrefix o) := by
  intro p0 p1 o h
  unfold internal_stringslite_HasPrefix at h
  refine PCall.ofB mixed tbOk internal_stringslite_HasPrefix_lv Try.func95 rfl (by kernel_rfl) (Nat.le_of_ble_eq_true rfl) ?_
  refine st_bind h (fun o1 ho hk => ?_)
  refine Exists.intro (JP1 _ _ o1 .normal (internal_stringslite_HasPrefix_J0_0 )) (And.intro ?_ (join1 ?_))
  · have h := ho
    refine vrfl ?_
    refine vrfl ?_
    refine st_test h (fun hb h => ?_) (fun hb h => ?_)
    · refine vrfl ?_
      refine st_cuts none (some (p1.length : Int)) h (fun x2 hi h => ?_)
      exact JP1.a h (Le.tow 0 0 rfl (.cons rfl (.refl _) (.nil)) (.refl _) rfl)
    · exact JP1.a h (Le.tow 0 0 rfl (.cons rfl (.refl _) (.nil)) (.refl _) rfl)
  · have h := hk
    refine st_ret (t := t_internal_stringslite_HasPrefix) h ?_
    exact .refl _
noncomputable def internal_stringslite_CutPrefix (p0 : (List UInt8)) (p1 : (List UInt8)) : Option ((List UInt8) × Bool) :=
  internal_stringslite_HasPrefix p0 p1 >>= fun x1 =>
  if (!x1) then
    some (p0, false)
  else
    cutL p0 (p1.length : Int) (p0.length : Int) >>= fun x2 =>
    some (x2, true)
set_option maxRecDepth 100000 in
set_option maxHeartbeats 4000000 in
theorem internal_stringslite_CutPrefix_ok : ∀ (p0 : (List UInt8)) (p1 : (List UInt8)) (o : (List UInt8) × Bool), internal_stringslite_CutPrefix p0 p1 = some o → PCall Try.prog 99 [sV p0, sV p1] (t_internal_stringslite_CutPrefix o) := by
  intro p0 p1 o h
  unfold internal_stringslite_CutPrefix at h
  refine PCall.ofB mixed tbOk internal_stringslite_CutPrefix_lv Try.func99 rfl (by kernel_rfl) (Nat.le_of_ble_eq_true rfl) ?_
  refine st_call [sV p0, sV p1] t_internal_stringslite_HasPrefix h (fun x1 hy => (internal_stringslite_HasPrefix_ok p0 p1 x1 hy)) (fun x1 hy h => ?_)
  refine st_test h (fun hb h => ?_) (fun hb h => ?_)
  · refine st_ret (t := t_internal_stringslite_CutPrefix) h ?_
    exact .refl _
  · refine vrfl ?_
    refine st_cuts (some (p1.length : Int)) none h (fun x2 hi h => ?_)
    refine st_ret (t := t_internal_stringslite_CutPrefix) h ?_
    exact .refl _
noncomputable def internal_stringslite_IndexByte (p0 : (List UInt8)) (p1 : Int) : Option (Int) :=
  some (Lib.indexByte p0 p1.toNat.toUInt8)
set_option maxRecDepth 100000 in
set_option maxHeartbeats 4000000 in
theorem internal_stringslite_IndexByte_ok : ∀ (p0 : (List UInt8)) (p1 : Int) (o : Int), internal_stringslite_IndexByte p0 p1 = some o → PCall Try.prog 94 [sV p0, nV .u8 p1] (t_internal_stringslite_IndexByte o) := by
  intro p0 p1 o h
  unfold internal_stringslite_IndexByte at h
  cases h
  exact indexByte_ok _ _
noncomputable def uri_Split_L1_r5 (p0 : (List UInt8)) (h1_0 : (List UInt8)) (h1_1 : (List UInt8)) (h1_2 : (List UInt8)) (h1_3 : (List UInt8)) (h1_4 : (List UInt8)) (h1_5 : (List UInt8)) (h1_6 : (List UInt8)) (h1_7 : (List UInt8)) (h1_8 : Bool) (h1_9 : Bool) (h1_10 : Bool) (h1_11 : Bool) (h1_12 : Bool) : Option (((List UInt8) × (List UInt8) × (List UInt8) × (List UInt8) × (List UInt8) × (List UInt8) × (List UInt8) × (List UInt8) × Bool × Bool × Bool × Bool × Bool) ⊕ ((List UInt8) × (List UInt8) × (List UInt8) × (List UInt8) × (List UInt8) × (List UInt8) × (List UInt8) × (List UInt8) × Bool × Bool × Bool × Bool × Bool)) :=
  some (.inl (h1_0, h1_1, h1_2, h1_3, h1_4, h1_5, h1_6, h1_7, h1_8, h1_9, h1_10, h1_11, h1_12))
set_option maxRecDepth 100000 in
set_option maxHeartbeats 4000000 in
theorem uri_Split_L1_r5_ok : ∀ (p0 : (List UInt8)) (h1_0 : (List UInt8)) (h1_1 : (List UInt8)) (h1_2 : (List UInt8)) (h1_3 : (List UInt8)) (h1_4 : (List UInt8)) (h1_5 : (List UInt8)) (h1_6 : (List UInt8)) (h1_7 : (List UInt8)) (h1_8 : Bool) (h1_9 : Bool) (h1_10 : Bool) (h1_11 : Bool) (h1_12 : Bool) (o1 : ((List UInt8) × (List UInt8) × (List UInt8) × (List UInt8) × (List UInt8) × (List UInt8) × (List UInt8) × (List UInt8) × Bool × Bool × Bool × Bool × Bool) ⊕ ((List UInt8) × (List UInt8) × (List UInt8) × (List UInt8) × (List UInt8) × (List UInt8) × (List UInt8) × (List UInt8) × Bool × Bool × Bool × Bool × Bool)), uri_Split_L1_r5 p0 h1_0 h1_1 h1_2 h1_3 h1_4 h1_5 h1_6 h1_7 h1_8 h1_9 h1_10 h1_11 h1_12 = some o1 → TL (0, 0) Try.prog 35 uri_Split_L1_c (JP2 (0, 0) 35 o1 (.exit 0) (uri_Split_L1_x0 p0) .ret (uri_Split_L1_x1 p0)) (uri_Split_L1_r5_st p0 h1_0 h1_1 h1_2 h1_3 h1_4 h1_5 h1_6 h1_7 h1_8 h1_9 h1_10 h1_11 h1_12) := by
  intro p0 h1_0 h1_1 h1_2 h1_3 h1_4 h1_5 h1_6 h1_7 h1_8 h1_9 h1_10 h1_11 h1_12 o1 h
  unfold uri_Split_L1_r5 at h
  refine TL.round (bwp_sound mixed tbOk (lv := uri_Split_lv) _ _ _ ?_)
  refine bF ?_
  exact JP2.a h (Le.tow 2 0 rfl (.cons rfl (.refl _) (.cons rfl (.refl _) (.nil))) (.refl _) rfl)
noncomputable def strings_CutPrefix (p0 : (List UInt8)) (p1 : (List UInt8)) : Option ((List UInt8) × Bool) :=
  internal_stringslite_CutPrefix p0 p1 >>= fun x1 =>
  some (x1.1, x1.2)
set_option maxRecDepth 100000 in
set_option maxHeartbeats 4000000 in
theorem strings_CutPrefix_ok : ∀ (p0 : (List UInt8)) (p1 : (List UInt8)) (o : (List UInt8) × Bool), strings_CutPrefix p0 p1 = some o → PCall Try.prog 70 [sV p0, sV p1] (t_strings_CutPrefix o) := by
  intro p0 p1 o h
  unfold strings_CutPrefix at h
  refine PCall.ofB mixed tbOk strings_CutPrefix_lv Try.func70 rfl (by kernel_rfl) (Nat.le_of_ble_eq_true rfl) ?_
  refine st_call [sV p0, sV p1] t_internal_stringslite_CutPrefix h (fun x1 hy => (internal_stringslite_CutPrefix_ok p0 p1 x1 hy)) (fun x1 hy h => ?_)
  refine st_ret (t := t_strings_CutPrefix) h ?_
  exact .refl _
noncomputable def uri_digit (p0 : Int) : Option (Bool) :=
  ( if (decide (p0 ≥ 48)) then
      some (decide (p0 ≤ 57))
    else
      some false : Option (Bool)) >>= fun o1 =>
  some o1
set_option maxRecDepth 100000 in
set_option maxHeartbeats 4000000 in
theorem uri_digit_ok : ∀ (p0 : Int) (o : Bool), uri_digit p0 = some o → PCall Try.prog 63 [nV .u8 p0] (t_uri_digit o) := by
  intro p0 o h
  unfold uri_digit at h
  refine PCall.ofB mixed tbOk uri_digit_lv Try.func63 rfl (by kernel_rfl) (Nat.le_of_ble_eq_true rfl) ?_
  refine st_bind h (fun o1 ho hk => ?_)
  refine Exists.intro (JP1 _ _ o1 .normal (uri_digit_J0_0 )) (And.intro ?_ (join1 ?_))
  · have h := ho
    refine st_test h (fun hb h => ?_) (fun hb h => ?_)
    · exact JP1.a h (Le.tow 0 0 rfl (.cons rfl (.refl _) (.nil)) (.refl _) rfl)
    · exact JP1.a h (Le.tow 0 0 rfl (.cons rfl (.refl _) (.nil)) (.refl _) rfl)
  · have h := hk
    refine st_ret (t := t_uri_digit) h ?_
    exact .refl _
noncomputable def uri_worth (p0 : Int) : Option (Int × Bool) :=
  uri_digit p0 >>= fun x1 =>
  if x1 then
    some ((IntKind.u8.wrap (p0 - 48)), true)
  else
    ( if (decide ((bits .or .u8 p0 32) ≥ 97)) then
        some (decide ((bits .or .u8 p0 32) ≤ 102))
      else
        some false : Option (Bool)) >>= fun o2 =>
    if o2 then
      some ((IntKind.u8.wrap ((IntKind.u8.wrap ((bits .or .u8 p0 32) - 97)) + 10)), true)
    else
      some (0, false)
set_option maxRecDepth 100000 in
set_option maxHeartbeats 4000000 in
theorem uri_worth_ok : ∀ (p0 : Int) (o : Int × Bool), uri_worth p0 = some o → PCall Try.prog 120 [nV .u8 p0] (t_uri_worth o) := by
  intro p0 o h
  unfold uri_worth at h
  refine PCall.ofB mixed tbOk uri_worth_lv Try.func120 rfl (by kernel_rfl) (Nat.le_of_ble_eq_true rfl) ?_
  refine st_call [nV .u8 p0] t_uri_digit h (fun x1 hy => (uri_digit_ok p0 x1 hy)) (fun x1 hy h => ?_)
  refine st_test h (fun hb h => ?_) (fun hb h => ?_)
  · refine st_ret (t := t_uri_worth) h ?_
    exact .refl _
  · refine st_bind h (fun o2 ho hk => ?_)
    refine Exists.intro (JP1 _ _ o2 .normal (uri_worth_J0_0 p0)) (And.intro ?_ (join1 ?_))
    · have h := ho
      refine st_test h (fun hb h => ?_) (fun hb h => ?_)
      · exact JP1.a h (Le.tow 0 0 rfl (.cons rfl (.refl _) (.cons rfl (.refl _) (.nil))) (.refl _) rfl)
      · exact JP1.a h (Le.tow 0 0 rfl (.cons rfl (.refl _) (.cons rfl (.refl _) (.nil))) (.refl _) rfl)
    · have h := hk
      refine st_test h (fun hb h => ?_) (fun hb h => ?_)
      · refine st_ret (t := t_uri_worth) h ?_
        exact .refl _
      · refine st_ret (t := t_uri_worth) h ?_
        exact .refl _
noncomputable def uri_coded (p0 : (List UInt8)) (p1 : Int) : Option (Int × Bool) :=
  if (decide ((wr ((p0.length : Int) - p1)) < 3)) then
    some (0, false)
  else
    idx p0 (wr (p1 + 1)) >>= fun x1 =>
    uri_worth (x1.toNat : Int) >>= fun x2 =>
    idx p0 (wr (p1 + 2)) >>= fun x3 =>
    uri_worth (x3.toNat : Int) >>= fun x4 =>
    ( if x2.2 then
        some x4.2
      else
        some false : Option (Bool)) >>= fun o5 =>
    some ((bits .or .u8 (IntKind.u8.wrap (x2.1 * 2 ^ (min (4 : Int).toNat (IntKind.u8.bits)))) x4.1), o5)
set_option maxRecDepth 100000 in
set_option maxHeartbeats 4000000 in
theorem uri_coded_ok : ∀ (p0 : (List UInt8)) (p1 : Int) (o : Int × Bool), uri_coded p0 p1 = some o → PCall Try.prog 97 [sV p0, iV p1] (t_uri_coded o) := by
  intro p0 p1 o h
  unfold uri_coded at h
  refine PCall.ofB mixed tbOk uri_coded_lv Try.func97 rfl (by kernel_rfl) (Nat.le_of_ble_eq_true rfl) ?_
  refine vrfl ?_
  refine st_test h (fun hb h => ?_) (fun hb h => ?_)
  · refine st_ret (t := t_uri_coded) h ?_
    exact .refl _
  · refine st_sidx h (fun x1 hi h => ?_)
    refine st_call [nV .u8 (x1.toNat : Int)] t_uri_worth h (fun x2 hy => (uri_worth_ok (x1.toNat : Int) x2 hy)) (fun x2 hy h => ?_)
    refine st_sidx h (fun x3 hi h => ?_)
    refine st_call [nV .u8 (x3.toNat : Int)] t_uri_worth h (fun x4 hy => (uri_worth_ok (x3.toNat : Int) x4 hy)) (fun x4 hy h => ?_)
    refine st_bind h (fun o5 ho hk => ?_)
    refine Exists.intro (JP1 _ _ o5 .normal (uri_coded_J0_0 x2 x4)) (And.intro ?_ (join1 ?_))
    · have h := ho
      refine And.intro (by decide) ?_
      refine st_test h (fun hb h => ?_) (fun hb h => ?_)
      · exact JP1.a h (Le.tow 0 0 rfl (.cons rfl (.refl _) (.cons rfl (.refl _) (.nil))) (.refl _) rfl)
      · exact JP1.a h (Le.tow 0 0 rfl (.cons rfl (.refl _) (.cons rfl (.refl _) (.nil))) (.refl _) rfl)
    · have h := hk
      refine st_ret (t := t_uri_coded) h ?_
      exact .refl _
noncomputable def strings_IndexByte (p0 : (List UInt8)) (p1 : Int) : Option (Int) :=
  internal_stringslite_IndexByte p0 p1 >>= fun x1 =>
  some x1
set_option maxRecDepth 100000 in
set_option maxHeartbeats 4000000 in
theorem strings_IndexByte_ok : ∀ (p0 : (List UInt8)) (p1 : Int) (o : Int), strings_IndexByte p0 p1 = some o → PCall Try.prog 64 [sV p0, nV .u8 p1] (t_strings_IndexByte o) := by
  intro p0 p1 o h
  unfold strings_IndexByte at h
  refine PCall.ofB mixed tbOk strings_IndexByte_lv Try.func64 rfl (by kernel_rfl) (Nat.le_of_ble_eq_true rfl) ?_
  refine st_call [sV p0, nV .u8 p1] t_internal_stringslite_IndexByte h (fun x1 hy => (internal_stringslite_IndexByte_ok p0 p1 x1 hy)) (fun x1 hy h => ?_)
  refine st_ret (t := t_strings_IndexByte) h ?_
  exact .refl _
noncomputable def uri_letter (p0 : Int) : Option (Bool) :=
  ( if (decide ((bits .or .u8 p0 32) ≥ 97)) then
      some (decide ((bits .or .u8 p0 32) ≤ 122))
    else
      some false : Option (Bool)) >>= fun o1 =>
  some o1
set_option maxRecDepth 100000 in
set_option maxHeartbeats 4000000 in
theorem uri_letter_ok : ∀ (p0 : Int) (o : Bool), uri_letter p0 = some o → PCall Try.prog 62 [nV .u8 p0] (t_uri_letter o) := by
  intro p0 o h
  unfold uri_letter at h
  refine PCall.ofB mixed tbOk uri_letter_lv Try.func62 rfl (by kernel_rfl) (Nat.le_of_ble_eq_true rfl) ?_
  refine st_bind h (fun o1 ho hk => ?_)
  refine Exists.intro (JP1 _ _ o1 .normal (uri_letter_J0_0 )) (And.intro ?_ (join1 ?_))
  · have h := ho
    refine st_test h (fun hb h => ?_) (fun hb h => ?_)
    · exact JP1.a h (Le.tow 0 0 rfl (.cons rfl (.refl _) (.nil)) (.refl _) rfl)
    · exact JP1.a h (Le.tow 0 0 rfl (.cons rfl (.refl _) (.nil)) (.refl _) rfl)
  · have h := hk
    refine st_ret (t := t_uri_letter) h ?_
    exact .refl _
noncomputable def uri_with_1 (p0 : Int) (p1_0e : (List UInt8)) : Option (Bool) :=
  ( uri_letter p0 >>= fun x2 =>
    if x2 then
      some true
    else
      uri_digit p0 >>= fun x3 =>
      if x3 then
        some true
      else
        strings_IndexByte [45, 46, 95, 126, 33, 36, 38, 39, 40, 41, 42, 43, 44, 59, 61] p0 >>= fun x4 =>
        if (decide (x4 ≥ 0)) then
          some true
        else
          strings_IndexByte p1_0e p0 >>= fun x5 =>
          some (decide (x5 ≥ 0)) : Option (Bool)) >>= fun o1 =>
  some o1
set_option maxRecDepth 100000 in
set_option maxHeartbeats 4000000 in
theorem uri_with_1_ok : ∀ (p0 : Int) (p1_0e : (List UInt8)) (o : Bool), uri_with_1 p0 p1_0e = some o → CallOK Try.prog 98 [.p (nV .u8 p0), .p (.ep [sV p1_0e])] ⟨[], []⟩ (t_uri_with_1 o) ⟨[], []⟩ := by
  intro p0 p1_0e o h
  unfold uri_with_1 at h
  refine CallOK.ofB mixed tbOk uri_with_1_lv Try.func98 rfl (by kernel_rfl) (Nat.le_of_ble_eq_true rfl) rfl rfl rfl ?_
  refine st_bind h (fun o1 ho hk => ?_)
  refine Exists.intro (JP1 _ _ o1 .normal (uri_with_1_J0_0 )) (And.intro ?_ (join1 ?_))
  · have h := ho
    refine st_call [nV .u8 p0] t_uri_letter h (fun x2 hy => (uri_letter_ok p0 x2 hy)) (fun x2 hy h => ?_)
    refine st_test h (fun hb h => ?_) (fun hb h => ?_)
    · refine bT ?_
      refine bT ?_
      exact JP1.a h (Le.tow 0 0 rfl (.cons rfl (.refl _) (.nil)) (.refl _) rfl)
    · refine st_call [nV .u8 p0] t_uri_digit h (fun x3 hy => (uri_digit_ok p0 x3 hy)) (fun x3 hy h => ?_)
      refine st_test h (fun hb h => ?_) (fun hb h => ?_)
      · refine bT ?_
        exact JP1.a h (Le.tow 0 0 rfl (.cons rfl (.refl _) (.nil)) (.refl _) rfl)
      · refine st_call [sV [45, 46, 95, 126, 33, 36, 38, 39, 40, 41, 42, 43, 44, 59, 61], nV .u8 p0] t_strings_IndexByte h (fun x4 hy => (strings_IndexByte_ok [45, 46, 95, 126, 33, 36, 38, 39, 40, 41, 42, 43, 44, 59, 61] p0 x4 hy)) (fun x4 hy h => ?_)
        refine st_test h (fun hb h => ?_) (fun hb h => ?_)
        · exact JP1.a h (Le.tow 0 0 rfl (.cons rfl (.refl _) (.nil)) (.refl _) rfl)
        · refine st_call [sV p1_0e, nV .u8 p0] t_strings_IndexByte h (fun x5 hy => (strings_IndexByte_ok p1_0e p0 x5 hy)) (fun x5 hy h => ?_)
          exact JP1.a h (Le.tow 0 0 rfl (.cons rfl (.refl _) (.nil)) (.refl _) rfl)
  · have h := hk
    refine Exists.intro _ (And.intro (Le.refl _ _ _) ?_)
    exact st_retc (t := t_uri_with_1) (ss := fun o => ⟨[], []⟩) h ⟨[], rfl, .refl _, .refl _, rfl⟩
noncomputable def uri_fits_uri_with_1_L1 (p0 : (List UInt8)) (p1_0c_0e : (List UInt8)) (v5 : Int) : Option (Unit ⊕ Unit) :=
  if (decide (v5 < (p0.length : Int))) then
    idx p0 v5 >>= fun x4 =>
    if ((x4.toNat : Int) == 37) then
      uri_coded p0 v5 >>= fun x5 =>
      if (!x5.2) then
        some (.inr ())
      else
        uri_fits_uri_with_1_L1 p0 p1_0c_0e (wr ((wr (v5 + 2)) + 1))
    else
      idx p0 v5 >>= fun x6 =>
      uri_with_1 (x6.toNat : Int) p1_0c_0e >>= fun x7 =>
      if (!x7) then
        some (.inr ())
      else
        uri_fits_uri_with_1_L1 p0 p1_0c_0e (wr (v5 + 1))
  else
    some (.inl ())
  partial_fixpoint
set_option maxRecDepth 100000 in
set_option maxHeartbeats 4000000 in
theorem uri_fits_uri_with_1_L1_grp : ∀ (p0 : (List UInt8)) (p1_0c_0e : (List UInt8)), (∀ (v5 : Int) (o1 : Unit ⊕ Unit), uri_fits_uri_with_1_L1 p0 p1_0c_0e v5 = some o1 → TL (0, 0) Try.prog 34 uri_fits_uri_with_1_L1_c (JP2 (0, 0) 34 o1 (.exit 0) (uri_fits_uri_with_1_L1_x0 p0 p1_0c_0e) .ret (uri_fits_uri_with_1_L1_x1 p0 p1_0c_0e)) (uri_fits_uri_with_1_L1_st p0 p1_0c_0e v5)) := by
  intro p0 p1_0c_0e
  refine uri_fits_uri_with_1_L1.partial_correctness p0 p1_0c_0e _ ?_
  intro uri_fits_uri_with_1_L1' ih_uri_fits_uri_with_1_L1 v5 o1 h
  refine TL.round (bwp_sound mixed tbOk (lv := uri_fits_uri_with_1_lv) _ _ _ ?_)
  refine vrfl ?_
  refine st_test h (fun hb h => ?_) (fun hb h => ?_)
  · refine st_sidx h (fun x4 hi h => ?_)
    refine st_test h (fun hb h => ?_) (fun hb h => ?_)
    · refine st_call [sV p0, iV v5] t_uri_coded h (fun x5 hy => (uri_coded_ok p0 v5 x5 hy)) (fun x5 hy h => ?_)
      refine st_test h (fun hb h => ?_) (fun hb h => ?_)
      · exact JP2.b h (Le.tow 0 0 rfl (.cons rfl (.refl _) (.nil)) (.refl _) rfl)
      · refine TL.le (τ := uri_fits_uri_with_1_L1_st p0 p1_0c_0e (wr ((wr (v5 + 2)) + 1))) ?_ ((ih_uri_fits_uri_with_1_L1 (wr ((wr (v5 + 2)) + 1)) _ h))
        exact Le.tow 0 0 rfl (.cons rfl (.refl _) (.cons rfl (.refl _) (.cons rfl (.refl _) (.nil)))) (.refl _) rfl
    · refine st_sidx h (fun x6 hi h => ?_)
      refine st_callc _ _ h (fun x7 hy => ((uri_with_1_ok (x6.toNat : Int) p1_0c_0e x7 hy).fr [] [] rfl rfl rfl)) (fun x7 hy h => ?_)
      refine st_test h (fun hb h => ?_) (fun hb h => ?_)
      · exact JP2.b h (Le.tow 0 0 rfl (.cons rfl (.refl _) (.nil)) (.refl _) rfl)
      · refine TL.le (τ := uri_fits_uri_with_1_L1_st p0 p1_0c_0e (wr (v5 + 1))) ?_ ((ih_uri_fits_uri_with_1_L1 (wr (v5 + 1)) _ h))
        exact Le.tow 0 0 rfl (.cons rfl (.refl _) (.cons rfl (.refl _) (.cons rfl (.refl _) (.nil)))) (.refl _) rfl
  · exact JP2.a h (Le.tow 0 0 rfl (.nil) (.refl _) rfl)
theorem uri_fits_uri_with_1_L1_ok : ∀ (p0 : (List UInt8)) (p1_0c_0e : (List UInt8)) (v5 : Int) (o1 : Unit ⊕ Unit), uri_fits_uri_with_1_L1 p0 p1_0c_0e v5 = some o1 → TL (0, 0) Try.prog 34 uri_fits_uri_with_1_L1_c (JP2 (0, 0) 34 o1 (.exit 0) (uri_fits_uri_with_1_L1_x0 p0 p1_0c_0e) .ret (uri_fits_uri_with_1_L1_x1 p0 p1_0c_0e)) (uri_fits_uri_with_1_L1_st p0 p1_0c_0e v5) := fun p0 p1_0c_0e v5 o1 h => (uri_fits_uri_with_1_L1_grp p0 p1_0c_0e) v5 o1 h
noncomputable def uri_fits_uri_with_1 (p0 : (List UInt8)) (p1_0c_0e : (List UInt8)) : Option (Bool) :=
  (uri_fits_uri_with_1_L1 p0 p1_0c_0e 0) >>= fun o1 =>
  match o1 with
  | .inl y2 =>
    some true
  | .inr y3 =>
    some false
set_option maxRecDepth 100000 in
set_option maxHeartbeats 4000000 in
theorem uri_fits_uri_with_1_ok : ∀ (p0 : (List UInt8)) (p1_0c_0e : (List UInt8)) (o : Bool), uri_fits_uri_with_1 p0 p1_0c_0e = some o → CallOK Try.prog 68 [.p (sV p0), .fn (.func 98) [] [.p (.ep [sV p1_0c_0e])]] ⟨[], []⟩ (t_uri_fits_uri_with_1 o) ⟨[], []⟩ := by
  intro p0 p1_0c_0e o h
  unfold uri_fits_uri_with_1 at h
  refine CallOK.ofB mixed tbOk uri_fits_uri_with_1_lv Try.func68 rfl (by kernel_rfl) (Nat.le_of_ble_eq_true rfl) rfl rfl rfl ?_
  refine st_bind h (fun o1 ho hk => ?_)
  refine Exists.intro (JP2 _ _ o1 (.exit 0) (uri_fits_uri_with_1_L1_x0 p0 p1_0c_0e) .ret (uri_fits_uri_with_1_L1_x1 p0 p1_0c_0e)) (And.intro (T_le (τ := uri_fits_uri_with_1_L1_st p0 p1_0c_0e 0) ?_ (TL.loop (uri_fits_uri_with_1_L1_ok p0 p1_0c_0e 0 o1 ho))) (join2 (fun y2 hy => ?_) (fun y3 hy => ?_)))
  · exact Le.tow 0 0 rfl (.cons rfl (.refl _) (.cons rfl (.refl _) (.cons rfl (.refl _) (.nil)))) (.refl _) rfl
  · have h := (by rw [hy] at hk; exact hk)
    refine Exists.intro _ (And.intro (Le.refl _ _ _) ?_)
    exact st_retc (t := t_uri_fits_uri_with_1) (ss := fun o => ⟨[], []⟩) h ⟨[], rfl, .refl _, .refl _, rfl⟩
  · have h := (by rw [hy] at hk; exact hk)
    refine Exists.intro _ (And.intro (Le.refl _ _ _) ?_)
    exact st_retc (t := t_uri_fits_uri_with_1) (ss := fun o => ⟨[], []⟩) h ⟨[], rfl, .refl _, .refl _, rfl⟩
noncomputable def uri_with (p0 : (List UInt8)) : Option ((List UInt8)) :=
  some p0
set_option maxRecDepth 100000 in
set_option maxHeartbeats 4000000 in
theorem uri_with_ok : ∀ (p0 : (List UInt8)) (o : (List UInt8)), uri_with p0 = some o → PCall Try.prog 69 [sV p0] (t_uri_with o) := by
  intro p0 o h
  unfold uri_with at h
  refine PCall.ofM mixed tbOk uri_with_lv Try.func69 rfl (by kernel_rfl) (Nat.le_of_ble_eq_true rfl) ?_
  refine st_ret (t := t_uri_with) h ?_
  exact .refl _
noncomputable def uri_reader_frag (h0_0 : (List UInt8)) (h0_1 : (List UInt8)) (h0_2 : (List UInt8)) (h0_3 : (List UInt8)) (h0_4 : (List UInt8)) (h0_5 : (List UInt8)) (h0_6 : (List UInt8)) (h0_7 : (List UInt8)) (h0_8 : Bool) (h0_9 : Bool) (h0_10 : Bool) (h0_11 : Bool) (h0_12 : Bool) : Option (Bool × (List UInt8) × Bool) :=
  strings_CutPrefix h0_0 [35] >>= fun x1 =>
  uri_with [58, 64, 47, 63] >>= fun x2 =>
  uri_fits_uri_with_1 x1.1 x2 >>= fun x3 =>
  some (x3, x1.1, x1.2)
set_option maxRecDepth 100000 in
set_option maxHeartbeats 4000000 in
theorem uri_reader_frag_ok : ∀ (h0_0 : (List UInt8)) (h0_1 : (List UInt8)) (h0_2 : (List UInt8)) (h0_3 : (List UInt8)) (h0_4 : (List UInt8)) (h0_5 : (List UInt8)) (h0_6 : (List UInt8)) (h0_7 : (List UInt8)) (h0_8 : Bool) (h0_9 : Bool) (h0_10 : Bool) (h0_11 : Bool) (h0_12 : Bool) (o : Bool × (List UInt8) × Bool), uri_reader_frag h0_0 h0_1 h0_2 h0_3 h0_4 h0_5 h0_6 h0_7 h0_8 h0_9 h0_10 h0_11 h0_12 = some o → CallOK Try.prog 37 [.ptr 0 0] ⟨[[.p (sV h0_0), .p (sV h0_1), .p (sV h0_2), .p (sV h0_3), .p (sV h0_4), .p (sV h0_5), .p (sV h0_6), .p (sV h0_7), .p (bV h0_8), .p (bV h0_9), .p (bV h0_10), .p (bV h0_11), .p (bV h0_12)]], []⟩ (t_uri_reader_frag o) ⟨[[.p (sV h0_0), .p (sV h0_1), .p (sV h0_2), .p (sV h0_3), .p (sV h0_4), .p (sV h0_5), .p (sV h0_6), .p (sV o.2.1), .p (bV h0_8), .p (bV h0_9), .p (bV h0_10), .p (bV h0_11), .p (bV o.2.2)]], []⟩ := by
  intro h0_0 h0_1 h0_2 h0_3 h0_4 h0_5 h0_6 h0_7 h0_8 h0_9 h0_10 h0_11 h0_12 o h
  unfold uri_reader_frag at h
  refine CallOK.ofB mixed tbOk uri_reader_frag_lv Try.func37 rfl (by kernel_rfl) (Nat.le_of_ble_eq_true rfl) rfl rfl rfl ?_
  refine st_call [sV h0_0, sV [35]] t_strings_CutPrefix h (fun x1 hy => (strings_CutPrefix_ok h0_0 [35] x1 hy)) (fun x1 hy h => ?_)
  refine And.intro (by decide +kernel) (And.intro rfl ?_)
  refine st_calld [sV [58, 64, 47, 63]] t_uri_with h (fun x2 hy => (uri_with_ok [58, 64, 47, 63] x2 hy)) (fun x2 hy h => ?_)
  refine st_callq (fun x3 => (t_uri_fits_uri_with_1 x3).ren [] []) h (fun x3 hy => (uri_fits_uri_with_1_ok x1.1 x2 x3 hy).fd rfl rfl [] rfl rfl) (fun x3 hy h => ?_)
  refine Exists.intro _ (And.intro (Le.refl _ _ _) ?_)
  exact st_retc (t := t_uri_reader_frag) (ss := fun o => ⟨[[.p (sV h0_0), .p (sV h0_1), .p (sV h0_2), .p (sV h0_3), .p (sV h0_4), .p (sV h0_5), .p (sV h0_6), .p (sV o.2.1), .p (bV h0_8), .p (bV h0_9), .p (bV h0_10), .p (bV h0_11), .p (bV o.2.2)]], []⟩) h ⟨[], rfl, .refl _, .refl _, rfl⟩
noncomputable def uri_Split_L1_r4 (p0 : (List UInt8)) (h1_0 : (List UInt8)) (h1_1 : (List UInt8)) (h1_2 : (List UInt8)) (h1_3 : (List UInt8)) (h1_4 : (List UInt8)) (h1_5 : (List UInt8)) (h1_6 : (List UInt8)) (h1_8 : Bool) (h1_9 : Bool) (h1_10 : Bool) (h1_11 : Bool) : Option (((List UInt8) × (List UInt8) × (List UInt8) × (List UInt8) × (List UInt8) × (List UInt8) × (List UInt8) × (List UInt8) × Bool × Bool × Bool × Bool × Bool) ⊕ ((List UInt8) × (List UInt8) × (List UInt8) × (List UInt8) × (List UInt8) × (List UInt8) × (List UInt8) × (List UInt8) × Bool × Bool × Bool × Bool × Bool)) :=
  uri_reader_frag h1_0 h1_1 h1_2 h1_3 h1_4 h1_5 h1_6 [] h1_8 h1_9 h1_10 h1_11 false >>= fun x4 =>
  if (!x4.1) then
    some (.inr (h1_0, h1_1, h1_2, h1_3, h1_4, h1_5, h1_6, x4.2.1, h1_8, h1_9, h1_10, h1_11, x4.2.2))
  else
    uri_Split_L1_r5 p0 h1_0 h1_1 h1_2 h1_3 h1_4 h1_5 h1_6 x4.2.1 h1_8 h1_9 h1_10 h1_11 x4.2.2
set_option maxRecDepth 100000 in
set_option maxHeartbeats 4000000 in
theorem uri_Split_L1_r4_ok : ∀ (p0 : (List UInt8)) (h1_0 : (List UInt8)) (h1_1 : (List UInt8)) (h1_2 : (List UInt8)) (h1_3 : (List UInt8)) (h1_4 : (List UInt8)) (h1_5 : (List UInt8)) (h1_6 : (List UInt8)) (h1_8 : Bool) (h1_9 : Bool) (h1_10 : Bool) (h1_11 : Bool) (o1 : ((List UInt8) × (List UInt8) × (List UInt8) × (List UInt8) × (List UInt8) × (List UInt8) × (List UInt8) × (List UInt8) × Bool × Bool × Bool × Bool × Bool) ⊕ ((List UInt8) × (List UInt8) × (List UInt8) × (List UInt8) × (List UInt8) × (List UInt8) × (List UInt8) × (List UInt8) × Bool × Bool × Bool × Bool × Bool)), uri_Split_L1_r4 p0 h1_0 h1_1 h1_2 h1_3 h1_4 h1_5 h1_6 h1_8 h1_9 h1_10 h1_11 = some o1 → TL (0, 0) Try.prog 35 uri_Split_L1_c (JP2 (0, 0) 35 o1 (.exit 0) (uri_Split_L1_x0 p0) .ret (uri_Split_L1_x1 p0)) (uri_Split_L1_r4_st p0 h1_0 h1_1 h1_2 h1_3 h1_4 h1_5 h1_6 h1_8 h1_9 h1_10 h1_11) := by
  intro p0 h1_0 h1_1 h1_2 h1_3 h1_4 h1_5 h1_6 h1_8 h1_9 h1_10 h1_11 o1 h
  unfold uri_Split_L1_r4 at h
  refine TL.round (bwp_sound mixed tbOk (lv := uri_Split_lv) _ _ _ ?_)
  refine bT ?_
  refine Exists.intro _ (And.intro (by decide) (And.intro rfl (And.intro rfl ?_)))
  refine And.intro rfl ?_
  refine st_callc _ _ h (fun x4 hy => ((uri_reader_frag_ok h1_0 h1_1 h1_2 h1_3 h1_4 h1_5 h1_6 [] h1_8 h1_9 h1_10 h1_11 false x4 hy).fr [1] [] rfl rfl rfl)) (fun x4 hy h => ?_)
  refine st_test h (fun hb h => ?_) (fun hb h => ?_)
  · exact JP2.b h (Le.tow 2 0 rfl (.cons rfl (.refl _) (.cons rfl (.refl _) (.nil))) (.refl _) rfl)
  · refine TL.le (τ := uri_Split_L1_r5_st p0 h1_0 h1_1 h1_2 h1_3 h1_4 h1_5 h1_6 x4.2.1 h1_8 h1_9 h1_10 h1_11 x4.2.2) ?_ ((uri_Split_L1_r5_ok p0 h1_0 h1_1 h1_2 h1_3 h1_4 h1_5 h1_6 x4.2.1 h1_8 h1_9 h1_10 h1_11 x4.2.2 _ h))
    exact Le.tow 2 0 rfl (.cons rfl (.refl _) (.cons rfl (.refl _) (.cons rfl (.refl _) (.cons rfl (.refl _) (.cons rfl (.refl _) (.nil)))))) (.refl _) rfl
noncomputable def strings_HasPrefix (p0 : (List UInt8)) (p1 : (List UInt8)) : Option (Bool) :=
  internal_stringslite_HasPrefix p0 p1 >>= fun x1 =>
  some x1
set_option maxRecDepth 100000 in
set_option maxHeartbeats 4000000 in
theorem strings_HasPrefix_ok : ∀ (p0 : (List UInt8)) (p1 : (List UInt8)) (o : Bool), strings_HasPrefix p0 p1 = some o → PCall Try.prog 65 [sV p0, sV p1] (t_strings_HasPrefix o) := by
  intro p0 p1 o h
  unfold strings_HasPrefix at h
  refine PCall.ofB mixed tbOk strings_HasPrefix_lv Try.func65 rfl (by kernel_rfl) (Nat.le_of_ble_eq_true rfl) ?_
  refine st_call [sV p0, sV p1] t_internal_stringslite_HasPrefix h (fun x1 hy => (internal_stringslite_HasPrefix_ok p0 p1 x1 hy)) (fun x1 hy h => ?_)
  refine st_ret (t := t_strings_HasPrefix) h ?_
  exact .refl _
noncomputable def strings_IndexAny (p0 : (List UInt8)) (p1 : (List UInt8)) : Option (Int) :=
  need (p0.length < 4294967281) >>= fun _ =>
  need (p1.length ≤ 1000) >>= fun _ =>
  need (p1.all (fun b => decide (b.toNat < 128)) = true) >>= fun _ =>
  some (Lib.indexAny p0 p1)
set_option maxRecDepth 100000 in
set_option maxHeartbeats 4000000 in
theorem strings_IndexAny_ok : ∀ (p0 : (List UInt8)) (p1 : (List UInt8)) (o : Int), strings_IndexAny p0 p1 = some o → PCall Try.prog 61 [sV p0, sV p1] (t_strings_IndexAny o) := by
  intro p0 p1 o h
  unfold strings_IndexAny at h
  obtain ⟨h1, h⟩ := need_some h
  obtain ⟨h2, h⟩ := need_some h
  obtain ⟨h4, h⟩ := need_some h
  cases h
  exact indexAny2_ok _ _ h1 h2 h4
noncomputable def uri_reader_upto (p1 : (List UInt8)) (h0_0 : (List UInt8)) (h0_1 : (List UInt8)) (h0_2 : (List UInt8)) (h0_3 : (List UInt8)) (h0_4 : (List UInt8)) (h0_5 : (List UInt8)) (h0_6 : (List UInt8)) (h0_7 : (List UInt8)) (h0_8 : Bool) (h0_9 : Bool) (h0_10 : Bool) (h0_11 : Bool) (h0_12 : Bool) : Option ((List UInt8) × (List UInt8)) :=
  strings_IndexAny h0_0 p1 >>= fun x1 =>
  ( if (decide (x1 < 0)) then
      some (h0_0.length : Int)
    else
      some x1 : Option (Int)) >>= fun o2 =>
  cutL h0_0 0 o2 >>= fun x3 =>
  cutL h0_0 o2 (h0_0.length : Int) >>= fun x4 =>
  some (x3, x4)
set_option maxRecDepth 100000 in
set_option maxHeartbeats 4000000 in
theorem uri_reader_upto_ok : ∀ (p1 : (List UInt8)) (h0_0 : (List UInt8)) (h0_1 : (List UInt8)) (h0_2 : (List UInt8)) (h0_3 : (List UInt8)) (h0_4 : (List UInt8)) (h0_5 : (List UInt8)) (h0_6 : (List UInt8)) (h0_7 : (List UInt8)) (h0_8 : Bool) (h0_9 : Bool) (h0_10 : Bool) (h0_11 : Bool) (h0_12 : Bool) (o : (List UInt8) × (List UInt8)), uri_reader_upto p1 h0_0 h0_1 h0_2 h0_3 h0_4 h0_5 h0_6 h0_7 h0_8 h0_9 h0_10 h0_11 h0_12 = some o → CallOK Try.prog 66 [.ptr 0 0, .p (sV p1)] ⟨[[.p (sV h0_0), .p (sV h0_1), .p (sV h0_2), .p (sV h0_3), .p (sV h0_4), .p (sV h0_5), .p (sV h0_6), .p (sV h0_7), .p (bV h0_8), .p (bV h0_9), .p (bV h0_10), .p (bV h0_11), .p (bV h0_12)]], []⟩ (t_uri_reader_upto o) ⟨[[.p (sV o.2), .p (sV h0_1), .p (sV h0_2), .p (sV h0_3), .p (sV h0_4), .p (sV h0_5), .p (sV h0_6), .p (sV h0_7), .p (bV h0_8), .p (bV h0_9), .p (bV h0_10), .p (bV h0_11), .p (bV h0_12)]], []⟩ := by
  intro p1 h0_0 h0_1 h0_2 h0_3 h0_4 h0_5 h0_6 h0_7 h0_8 h0_9 h0_10 h0_11 h0_12 o h
  unfold uri_reader_upto at h
  refine CallOK.ofB mixed tbOk uri_reader_upto_lv Try.func66 rfl (by kernel_rfl) (Nat.le_of_ble_eq_true rfl) rfl rfl rfl ?_
  refine st_call [sV h0_0, sV p1] t_strings_IndexAny h (fun x1 hy => (strings_IndexAny_ok h0_0 p1 x1 hy)) (fun x1 hy h => ?_)
  refine st_bind h (fun o2 ho hk => ?_)
  refine Exists.intro (JP1 _ _ o2 .normal (uri_reader_upto_J0_0 h0_0 h0_1 h0_2 h0_3 h0_4 h0_5 h0_6 h0_7 h0_8 h0_9 h0_10 h0_11 h0_12)) (And.intro ?_ (join1 ?_))
  · have h := ho
    refine st_test h (fun hb h => ?_) (fun hb h => ?_)
    · refine vrfl ?_
      exact JP1.a h (Le.tow 1 0 rfl (.cons rfl (.refl _) (.cons rfl (.refl _) (.nil))) (.refl _) rfl)
    · exact JP1.a h (Le.tow 1 0 rfl (.cons rfl (.refl _) (.cons rfl (.refl _) (.nil))) (.refl _) rfl)
  · have h := hk
    refine st_cuts none (some o2) h (fun x3 hi h => ?_)
    refine st_cuts (some o2) none h (fun x4 hi h => ?_)
    refine Exists.intro _ (And.intro (Le.refl _ _ _) ?_)
    exact st_retc (t := t_uri_reader_upto) (ss := fun o => ⟨[[.p (sV o.2), .p (sV h0_1), .p (sV h0_2), .p (sV h0_3), .p (sV h0_4), .p (sV h0_5), .p (sV h0_6), .p (sV h0_7), .p (bV h0_8), .p (bV h0_9), .p (bV h0_10), .p (bV h0_11), .p (bV h0_12)]], []⟩) h ⟨[], rfl, .refl _, .refl _, rfl⟩
noncomputable def uri_reader_query (h0_0 : (List UInt8)) (h0_1 : (List UInt8)) (h0_2 : (List UInt8)) (h0_3 : (List UInt8)) (h0_4 : (List UInt8)) (h0_5 : (List UInt8)) (h0_6 : (List UInt8)) (h0_7 : (List UInt8)) (h0_8 : Bool) (h0_9 : Bool) (h0_10 : Bool) (h0_11 : Bool) (h0_12 : Bool) : Option (Bool × (List UInt8) × (List UInt8) × Bool) :=
  ( strings_HasPrefix h0_0 [63] >>= fun x2 =>
    if x2 then
      cutL h0_0 1 (h0_0.length : Int) >>= fun x3 =>
      uri_reader_upto [35] x3 h0_1 h0_2 h0_3 h0_4 h0_5 h0_6 h0_7 h0_8 h0_9 h0_10 h0_11 h0_12 >>= fun x4 =>
      some (x4.2, x4.1, true)
    else
      some (h0_0, h0_6, h0_11) : Option (((List UInt8) × (List UInt8) × Bool))) >>= fun o1 =>
  uri_with [58, 64, 47, 63] >>= fun x5 =>
  uri_fits_uri_with_1 o1.2.1 x5 >>= fun x6 =>
  some (x6, o1.1, o1.2.1, o1.2.2)
set_option maxRecDepth 100000 in
set_option maxHeartbeats 4000000 in
theorem uri_reader_query_ok : ∀ (h0_0 : (List UInt8)) (h0_1 : (List UInt8)) (h0_2 : (List UInt8)) (h0_3 : (List UInt8)) (h0_4 : (List UInt8)) (h0_5 : (List UInt8)) (h0_6 : (List UInt8)) (h0_7 : (List UInt8)) (h0_8 : Bool) (h0_9 : Bool) (h0_10 : Bool) (h0_11 : Bool) (h0_12 : Bool) (o : Bool × (List UInt8) × (List UInt8) × Bool), uri_reader_query h0_0 h0_1 h0_2 h0_3 h0_4 h0_5 h0_6 h0_7 h0_8 h0_9 h0_10 h0_11 h0_12 = some o → CallOK Try.prog 36 [.ptr 0 0] ⟨[[.p (sV h0_0), .p (sV h0_1), .p (sV h0_2), .p (sV h0_3), .p (sV h0_4), .p (sV h0_5), .p (sV h0_6), .p (sV h0_7), .p (bV h0_8), .p (bV h0_9), .p (bV h0_10), .p (bV h0_11), .p (bV h0_12)]], []⟩ (t_uri_reader_query o) ⟨[[.p (sV o.2.1), .p (sV h0_1), .p (sV h0_2), .p (sV h0_3), .p (sV h0_4), .p (sV h0_5), .p (sV o.2.2.1), .p (sV h0_7), .p (bV h0_8), .p (bV h0_9), .p (bV h0_10), .p (bV o.2.2.2), .p (bV h0_12)]], []⟩ := by
  intro h0_0 h0_1 h0_2 h0_3 h0_4 h0_5 h0_6 h0_7 h0_8 h0_9 h0_10 h0_11 h0_12 o h
  unfold uri_reader_query at h
  refine CallOK.ofB mixed tbOk uri_reader_query_lv Try.func36 rfl (by kernel_rfl) (Nat.le_of_ble_eq_true rfl) rfl rfl rfl ?_
  refine st_bind h (fun o1 ho hk => ?_)
  refine Exists.intro (JP1 _ _ o1 .normal (uri_reader_query_J0_0 h0_1 h0_2 h0_3 h0_4 h0_5 h0_7 h0_8 h0_9 h0_10 h0_12)) (And.intro ?_ (join1 ?_))
  · have h := ho
    refine st_call [sV h0_0, sV [63]] t_strings_HasPrefix h (fun x2 hy => (strings_HasPrefix_ok h0_0 [63] x2 hy)) (fun x2 hy h => ?_)
    refine st_test h (fun hb h => ?_) (fun hb h => ?_)
    · refine st_cuts (some 1) none h (fun x3 hi h => ?_)
      refine st_callc _ _ h (fun x4 hy => ((uri_reader_upto_ok [35] x3 h0_1 h0_2 h0_3 h0_4 h0_5 h0_6 h0_7 h0_8 h0_9 h0_10 h0_11 h0_12 x4 hy).fr [0] [] rfl rfl rfl)) (fun x4 hy h => ?_)
      exact JP1.a h (Le.tow 1 0 rfl (.cons rfl (.refl _) (.nil)) (.refl _) rfl)
    · exact JP1.a h (Le.tow 1 0 rfl (.cons rfl (.refl _) (.nil)) (.refl _) rfl)
  · have h := hk
    refine And.intro (by decide +kernel) (And.intro rfl ?_)
    refine st_calld [sV [58, 64, 47, 63]] t_uri_with h (fun x5 hy => (uri_with_ok [58, 64, 47, 63] x5 hy)) (fun x5 hy h => ?_)
    refine st_callq (fun x6 => (t_uri_fits_uri_with_1 x6).ren [] []) h (fun x6 hy => (uri_fits_uri_with_1_ok o1.2.1 x5 x6 hy).fd rfl rfl [] rfl rfl) (fun x6 hy h => ?_)
    refine Exists.intro _ (And.intro (Le.refl _ _ _) ?_)
    exact st_retc (t := t_uri_reader_query) (ss := fun o => ⟨[[.p (sV o.2.1), .p (sV h0_1), .p (sV h0_2), .p (sV h0_3), .p (sV h0_4), .p (sV h0_5), .p (sV o.2.2.1), .p (sV h0_7), .p (bV h0_8), .p (bV h0_9), .p (bV h0_10), .p (bV o.2.2.2), .p (bV h0_12)]], []⟩) h ⟨[], rfl, .refl _, .refl _, rfl⟩
noncomputable def uri_Split_L1_r3 (p0 : (List UInt8)) (h1_0 : (List UInt8)) (h1_1 : (List UInt8)) (h1_2 : (List UInt8)) (h1_3 : (List UInt8)) (h1_4 : (List UInt8)) (h1_5 : (List UInt8)) (h1_8 : Bool) (h1_9 : Bool) (h1_10 : Bool) : Option (((List UInt8) × (List UInt8) × (List UInt8) × (List UInt8) × (List UInt8) × (List UInt8) × (List UInt8) × (List UInt8) × Bool × Bool × Bool × Bool × Bool) ⊕ ((List UInt8) × (List UInt8) × (List UInt8) × (List UInt8) × (List UInt8) × (List UInt8) × (List UInt8) × (List UInt8) × Bool × Bool × Bool × Bool × Bool)) :=
  uri_reader_query h1_0 h1_1 h1_2 h1_3 h1_4 h1_5 [] [] h1_8 h1_9 h1_10 false false >>= fun x5 =>
  if (!x5.1) then
    some (.inr (x5.2.1, h1_1, h1_2, h1_3, h1_4, h1_5, x5.2.2.1, [], h1_8, h1_9, h1_10, x5.2.2.2, false))
  else
    uri_Split_L1_r4 p0 x5.2.1 h1_1 h1_2 h1_3 h1_4 h1_5 x5.2.2.1 h1_8 h1_9 h1_10 x5.2.2.2
set_option maxRecDepth 100000 in
set_option maxHeartbeats 4000000 in
theorem uri_Split_L1_r3_ok : ∀ (p0 : (List UInt8)) (h1_0 : (List UInt8)) (h1_1 : (List UInt8)) (h1_2 : (List UInt8)) (h1_3 : (List UInt8)) (h1_4 : (List UInt8)) (h1_5 : (List UInt8)) (h1_8 : Bool) (h1_9 : Bool) (h1_10 : Bool) (o1 : ((List UInt8) × (List UInt8) × (List UInt8) × (List UInt8) × (List UInt8) × (List UInt8) × (List UInt8) × (List UInt8) × Bool × Bool × Bool × Bool × Bool) ⊕ ((List UInt8) × (List UInt8) × (List UInt8) × (List UInt8) × (List UInt8) × (List UInt8) × (List UInt8) × (List UInt8) × Bool × Bool × Bool × Bool × Bool)), uri_Split_L1_r3 p0 h1_0 h1_1 h1_2 h1_3 h1_4 h1_5 h1_8 h1_9 h1_10 = some o1 → TL (0, 0) Try.prog 35 uri_Split_L1_c (JP2 (0, 0) 35 o1 (.exit 0) (uri_Split_L1_x0 p0) .ret (uri_Split_L1_x1 p0)) (uri_Split_L1_r3_st p0 h1_0 h1_1 h1_2 h1_3 h1_4 h1_5 h1_8 h1_9 h1_10) := by
  intro p0 h1_0 h1_1 h1_2 h1_3 h1_4 h1_5 h1_8 h1_9 h1_10 o1 h
  unfold uri_Split_L1_r3 at h
  refine TL.round (bwp_sound mixed tbOk (lv := uri_Split_lv) _ _ _ ?_)
  refine bT ?_
  refine Exists.intro _ (And.intro (by decide) (And.intro rfl (And.intro rfl ?_)))
  refine And.intro rfl ?_
  refine st_callc _ _ h (fun x5 hy => ((uri_reader_query_ok h1_0 h1_1 h1_2 h1_3 h1_4 h1_5 [] [] h1_8 h1_9 h1_10 false false x5 hy).fr [1] [] rfl rfl rfl)) (fun x5 hy h => ?_)
  refine st_test h (fun hb h => ?_) (fun hb h => ?_)
  · exact JP2.b h (Le.tow 2 0 rfl (.cons rfl (.refl _) (.cons rfl (.refl _) (.nil))) (.refl _) rfl)
  · refine TL.le (τ := uri_Split_L1_r4_st p0 x5.2.1 h1_1 h1_2 h1_3 h1_4 h1_5 x5.2.2.1 h1_8 h1_9 h1_10 x5.2.2.2) ?_ ((uri_Split_L1_r4_ok p0 x5.2.1 h1_1 h1_2 h1_3 h1_4 h1_5 x5.2.2.1 h1_8 h1_9 h1_10 x5.2.2.2 _ h))
    exact Le.tow 2 0 rfl (.cons rfl (.refl _) (.cons rfl (.refl _) (.cons rfl (.refl _) (.cons rfl (.refl _) (.cons rfl (.refl _) (.nil)))))) (.refl _) rfl
noncomputable def uri_reader_path (h0_0 : (List UInt8)) (h0_1 : (List UInt8)) (h0_2 : (List UInt8)) (h0_3 : (List UInt8)) (h0_4 : (List UInt8)) (h0_5 : (List UInt8)) (h0_6 : (List UInt8)) (h0_7 : (List UInt8)) (h0_8 : Bool) (h0_9 : Bool) (h0_10 : Bool) (h0_11 : Bool) (h0_12 : Bool) : Option (Bool × (List UInt8) × (List UInt8)) :=
  uri_reader_upto [63, 35] h0_0 h0_1 h0_2 h0_3 h0_4 h0_5 h0_6 h0_7 h0_8 h0_9 h0_10 h0_11 h0_12 >>= fun x1 =>
  uri_with [58, 64, 47] >>= fun x2 =>
  uri_fits_uri_with_1 x1.1 x2 >>= fun x3 =>
  some (x3, x1.2, x1.1)
set_option maxRecDepth 100000 in
set_option maxHeartbeats 4000000 in
theorem uri_reader_path_ok : ∀ (h0_0 : (List UInt8)) (h0_1 : (List UInt8)) (h0_2 : (List UInt8)) (h0_3 : (List UInt8)) (h0_4 : (List UInt8)) (h0_5 : (List UInt8)) (h0_6 : (List UInt8)) (h0_7 : (List UInt8)) (h0_8 : Bool) (h0_9 : Bool) (h0_10 : Bool) (h0_11 : Bool) (h0_12 : Bool) (o : Bool × (List UInt8) × (List UInt8)), uri_reader_path h0_0 h0_1 h0_2 h0_3 h0_4 h0_5 h0_6 h0_7 h0_8 h0_9 h0_10 h0_11 h0_12 = some o → CallOK Try.prog 35 [.ptr 0 0] ⟨[[.p (sV h0_0), .p (sV h0_1), .p (sV h0_2), .p (sV h0_3), .p (sV h0_4), .p (sV h0_5), .p (sV h0_6), .p (sV h0_7), .p (bV h0_8), .p (bV h0_9), .p (bV h0_10), .p (bV h0_11), .p (bV h0_12)]], []⟩ (t_uri_reader_path o) ⟨[[.p (sV o.2.1), .p (sV h0_1), .p (sV h0_2), .p (sV h0_3), .p (sV h0_4), .p (sV o.2.2), .p (sV h0_6), .p (sV h0_7), .p (bV h0_8), .p (bV h0_9), .p (bV h0_10), .p (bV h0_11), .p (bV h0_12)]], []⟩ := by
  intro h0_0 h0_1 h0_2 h0_3 h0_4 h0_5 h0_6 h0_7 h0_8 h0_9 h0_10 h0_11 h0_12 o h
  unfold uri_reader_path at h
  refine CallOK.ofB mixed tbOk uri_reader_path_lv Try.func35 rfl (by kernel_rfl) (Nat.le_of_ble_eq_true rfl) rfl rfl rfl ?_
  refine st_callc _ _ h (fun x1 hy => ((uri_reader_upto_ok [63, 35] h0_0 h0_1 h0_2 h0_3 h0_4 h0_5 h0_6 h0_7 h0_8 h0_9 h0_10 h0_11 h0_12 x1 hy).fr [0] [] rfl rfl rfl)) (fun x1 hy h => ?_)
  refine And.intro (by decide +kernel) (And.intro rfl ?_)
  refine st_calld [sV [58, 64, 47]] t_uri_with h (fun x2 hy => (uri_with_ok [58, 64, 47] x2 hy)) (fun x2 hy h => ?_)
  refine st_callq (fun x3 => (t_uri_fits_uri_with_1 x3).ren [] []) h (fun x3 hy => (uri_fits_uri_with_1_ok x1.1 x2 x3 hy).fd rfl rfl [] rfl rfl) (fun x3 hy h => ?_)
  refine Exists.intro _ (And.intro (Le.refl _ _ _) ?_)
  exact st_retc (t := t_uri_reader_path) (ss := fun o => ⟨[[.p (sV o.2.1), .p (sV h0_1), .p (sV h0_2), .p (sV h0_3), .p (sV h0_4), .p (sV o.2.2), .p (sV h0_6), .p (sV h0_7), .p (bV h0_8), .p (bV h0_9), .p (bV h0_10), .p (bV h0_11), .p (bV h0_12)]], []⟩) h ⟨[], rfl, .refl _, .refl _, rfl⟩
noncomputable def uri_Split_L1_r2 (p0 : (List UInt8)) (h1_0 : (List UInt8)) (h1_1 : (List UInt8)) (h1_2 : (List UInt8)) (h1_3 : (List UInt8)) (h1_4 : (List UInt8)) (h1_8 : Bool) (h1_9 : Bool) (h1_10 : Bool) : Option (((List UInt8) × (List UInt8) × (List UInt8) × (List UInt8) × (List UInt8) × (List UInt8) × (List UInt8) × (List UInt8) × Bool × Bool × Bool × Bool × Bool) ⊕ ((List UInt8) × (List UInt8) × (List UInt8) × (List UInt8) × (List UInt8) × (List UInt8) × (List UInt8) × (List UInt8) × Bool × Bool × Bool × Bool × Bool)) :=
  uri_reader_path h1_0 h1_1 h1_2 h1_3 h1_4 [] [] [] h1_8 h1_9 h1_10 false false >>= fun x6 =>
  if (!x6.1) then
    some (.inr (x6.2.1, h1_1, h1_2, h1_3, h1_4, x6.2.2, [], [], h1_8, h1_9, h1_10, false, false))
  else
    uri_Split_L1_r3 p0 x6.2.1 h1_1 h1_2 h1_3 h1_4 x6.2.2 h1_8 h1_9 h1_10
set_option maxRecDepth 100000 in
set_option maxHeartbeats 4000000 in
theorem uri_Split_L1_r2_ok : ∀ (p0 : (List UInt8)) (h1_0 : (List UInt8)) (h1_1 : (List UInt8)) (h1_2 : (List UInt8)) (h1_3 : (List UInt8)) (h1_4 : (List UInt8)) (h1_8 : Bool) (h1_9 : Bool) (h1_10 : Bool) (o1 : ((List UInt8) × (List UInt8) × (List UInt8) × (List UInt8) × (List UInt8) × (List UInt8) × (List UInt8) × (List UInt8) × Bool × Bool × Bool × Bool × Bool) ⊕ ((List UInt8) × (List UInt8) × (List UInt8) × (List UInt8) × (List UInt8) × (List UInt8) × (List UInt8) × (List UInt8) × Bool × Bool × Bool × Bool × Bool)), uri_Split_L1_r2 p0 h1_0 h1_1 h1_2 h1_3 h1_4 h1_8 h1_9 h1_10 = some o1 → TL (0, 0) Try.prog 35 uri_Split_L1_c (JP2 (0, 0) 35 o1 (.exit 0) (uri_Split_L1_x0 p0) .ret (uri_Split_L1_x1 p0)) (uri_Split_L1_r2_st p0 h1_0 h1_1 h1_2 h1_3 h1_4 h1_8 h1_9 h1_10) := by
  intro p0 h1_0 h1_1 h1_2 h1_3 h1_4 h1_8 h1_9 h1_10 o1 h
  unfold uri_Split_L1_r2 at h
  refine TL.round (bwp_sound mixed tbOk (lv := uri_Split_lv) _ _ _ ?_)
  refine bT ?_
  refine Exists.intro _ (And.intro (by decide) (And.intro rfl (And.intro rfl ?_)))
  refine And.intro rfl ?_
  refine st_callc _ _ h (fun x6 hy => ((uri_reader_path_ok h1_0 h1_1 h1_2 h1_3 h1_4 [] [] [] h1_8 h1_9 h1_10 false false x6 hy).fr [1] [] rfl rfl rfl)) (fun x6 hy h => ?_)
  refine st_test h (fun hb h => ?_) (fun hb h => ?_)
  · exact JP2.b h (Le.tow 2 0 rfl (.cons rfl (.refl _) (.cons rfl (.refl _) (.nil))) (.refl _) rfl)
  · refine TL.le (τ := uri_Split_L1_r3_st p0 x6.2.1 h1_1 h1_2 h1_3 h1_4 x6.2.2 h1_8 h1_9 h1_10) ?_ ((uri_Split_L1_r3_ok p0 x6.2.1 h1_1 h1_2 h1_3 h1_4 x6.2.2 h1_8 h1_9 h1_10 _ h))
    exact Le.tow 2 0 rfl (.cons rfl (.refl _) (.cons rfl (.refl _) (.cons rfl (.refl _) (.cons rfl (.refl _) (.cons rfl (.refl _) (.nil)))))) (.refl _) rfl
noncomputable def strings_Cut (p0 : (List UInt8)) (p1 : (List UInt8)) : Option ((List UInt8) × (List UInt8) × Bool) :=
  internal_stringslite_Cut p0 p1 >>= fun x1 =>
  some (x1.1, x1.2.1, x1.2.2)
set_option maxRecDepth 100000 in
set_option maxHeartbeats 4000000 in
theorem strings_Cut_ok : ∀ (p0 : (List UInt8)) (p1 : (List UInt8)) (o : (List UInt8) × (List UInt8) × Bool), strings_Cut p0 p1 = some o → PCall Try.prog 67 [sV p0, sV p1] (t_strings_Cut o) := by
  intro p0 p1 o h
  unfold strings_Cut at h
  refine PCall.ofB mixed tbOk strings_Cut_lv Try.func67 rfl (by kernel_rfl) (Nat.le_of_ble_eq_true rfl) ?_
  refine st_call [sV p0, sV p1] t_internal_stringslite_Cut h (fun x1 hy => (internal_stringslite_Cut_ok p0 p1 x1 hy)) (fun x1 hy h => ?_)
  refine st_ret (t := t_strings_Cut) h ?_
  exact .refl _
noncomputable def uri_reader_authority_L1 (h0_1 : (List UInt8)) (h0_5 : (List UInt8)) (h0_6 : (List UInt8)) (h0_7 : (List UInt8)) (h0_11 : Bool) (h0_12 : Bool) (x3 : (List UInt8) × (List UInt8)) (o4 : (List UInt8) × (List UInt8) × Bool) (x6 : (List UInt8) × (List UInt8) × Bool) (v66 : Int) : Option (Unit ⊕ Unit) :=
  if (decide (v66 < (x6.2.1.length : Int))) then
    idx x6.2.1 v66 >>= fun x10 =>
    uri_digit (x10.toNat : Int) >>= fun x11 =>
    if (!x11) then
      some (.inr ())
    else
      uri_reader_authority_L1 h0_1 h0_5 h0_6 h0_7 h0_11 h0_12 x3 o4 x6 (wr (v66 + 1))
  else
    some (.inl ())
  partial_fixpoint
set_option maxRecDepth 100000 in
set_option maxHeartbeats 4000000 in
theorem uri_reader_authority_L1_grp : ∀ (h0_1 : (List UInt8)) (h0_5 : (List UInt8)) (h0_6 : (List UInt8)) (h0_7 : (List UInt8)) (h0_11 : Bool) (h0_12 : Bool) (x3 : (List UInt8) × (List UInt8)) (o4 : (List UInt8) × (List UInt8) × Bool) (x6 : (List UInt8) × (List UInt8) × Bool), (∀ (v66 : Int) (o7 : Unit ⊕ Unit), uri_reader_authority_L1 h0_1 h0_5 h0_6 h0_7 h0_11 h0_12 x3 o4 x6 v66 = some o7 → TL (1, 0) Try.prog 92 uri_reader_authority_L1_c (JP2 (1, 0) 92 o7 (.exit 0) (uri_reader_authority_L1_x0 h0_1 h0_5 h0_6 h0_7 h0_11 h0_12 x3 o4 x6) .ret (uri_reader_authority_L1_x1 h0_1 h0_5 h0_6 h0_7 h0_11 h0_12 x3 o4 x6)) (uri_reader_authority_L1_st h0_1 h0_5 h0_6 h0_7 h0_11 h0_12 x3 o4 x6 v66)) := by
  intro h0_1 h0_5 h0_6 h0_7 h0_11 h0_12 x3 o4 x6
  refine uri_reader_authority_L1.partial_correctness h0_1 h0_5 h0_6 h0_7 h0_11 h0_12 x3 o4 x6 _ ?_
  intro uri_reader_authority_L1' ih_uri_reader_authority_L1 v66 o7 h
  refine TL.round (bwp_sound mixed tbOk (lv := uri_reader_authority_lv) _ _ _ ?_)
  refine st_test h (fun hb h => ?_) (fun hb h => ?_)
  · refine st_sidx h (fun x10 hi h => ?_)
    refine st_call [nV .u8 (x10.toNat : Int)] t_uri_digit h (fun x11 hy => (uri_digit_ok (x10.toNat : Int) x11 hy)) (fun x11 hy h => ?_)
    refine st_test h (fun hb h => ?_) (fun hb h => ?_)
    · exact JP2.b h (Le.tow 1 0 rfl (.cons rfl (.refl _) (.nil)) (.refl _) rfl)
    · refine TL.le (τ := uri_reader_authority_L1_st h0_1 h0_5 h0_6 h0_7 h0_11 h0_12 x3 o4 x6 (wr (v66 + 1))) ?_ ((ih_uri_reader_authority_L1 (wr (v66 + 1)) _ h))
      exact Le.tow 1 0 rfl (.cons rfl (.refl _) (.cons rfl (.refl _) (.cons rfl (.refl _) (.nil)))) (.refl _) rfl
  · exact JP2.a h (Le.tow 1 0 rfl (.cons rfl (.refl _) (.nil)) (.refl _) rfl)
theorem uri_reader_authority_L1_ok : ∀ (h0_1 : (List UInt8)) (h0_5 : (List UInt8)) (h0_6 : (List UInt8)) (h0_7 : (List UInt8)) (h0_11 : Bool) (h0_12 : Bool) (x3 : (List UInt8) × (List UInt8)) (o4 : (List UInt8) × (List UInt8) × Bool) (x6 : (List UInt8) × (List UInt8) × Bool) (v66 : Int) (o7 : Unit ⊕ Unit), uri_reader_authority_L1 h0_1 h0_5 h0_6 h0_7 h0_11 h0_12 x3 o4 x6 v66 = some o7 → TL (1, 0) Try.prog 92 uri_reader_authority_L1_c (JP2 (1, 0) 92 o7 (.exit 0) (uri_reader_authority_L1_x0 h0_1 h0_5 h0_6 h0_7 h0_11 h0_12 x3 o4 x6) .ret (uri_reader_authority_L1_x1 h0_1 h0_5 h0_6 h0_7 h0_11 h0_12 x3 o4 x6)) (uri_reader_authority_L1_st h0_1 h0_5 h0_6 h0_7 h0_11 h0_12 x3 o4 x6 v66) := fun h0_1 h0_5 h0_6 h0_7 h0_11 h0_12 x3 o4 x6 v66 o7 h => (uri_reader_authority_L1_grp h0_1 h0_5 h0_6 h0_7 h0_11 h0_12 x3 o4 x6) v66 o7 h
noncomputable def uri_reader_authority (h0_0 : (List UInt8)) (h0_1 : (List UInt8)) (h0_2 : (List UInt8)) (h0_3 : (List UInt8)) (h0_4 : (List UInt8)) (h0_5 : (List UInt8)) (h0_6 : (List UInt8)) (h0_7 : (List UInt8)) (h0_8 : Bool) (h0_9 : Bool) (h0_10 : Bool) (h0_11 : Bool) (h0_12 : Bool) : Option (Bool × (List UInt8) × (List UInt8) × (List UInt8) × (List UInt8) × Bool × Bool × Bool) :=
  strings_HasPrefix h0_0 [47, 47] >>= fun x1 =>
  if (!x1) then
    some (true, h0_0, h0_2, h0_3, h0_4, h0_8, h0_9, h0_10)
  else
    cutL h0_0 2 (h0_0.length : Int) >>= fun x2 =>
    uri_reader_upto [47, 63, 35] x2 h0_1 h0_2 h0_3 h0_4 h0_5 h0_6 h0_7 h0_8 h0_9 h0_10 h0_11 h0_12 >>= fun x3 =>
    ( strings_Cut x3.1 [64] >>= fun x5 =>
      if x5.2.2 then
        some (x5.2.1, x5.1, true)
      else
        some (x3.1, h0_2, h0_9) : Option (((List UInt8) × (List UInt8) × Bool))) >>= fun o4 =>
    strings_Cut o4.1 [58] >>= fun x6 =>
    (uri_reader_authority_L1 h0_1 h0_5 h0_6 h0_7 h0_11 h0_12 x3 o4 x6 0) >>= fun o7 =>
    match o7 with
    | .inl y8 =>
      ( uri_with [58] >>= fun x13 =>
        uri_fits_uri_with_1 o4.2.1 x13 >>= fun x14 =>
        if x14 then
          uri_with [] >>= fun x15 =>
          uri_fits_uri_with_1 x6.1 x15 >>= fun x16 =>
          some x16
        else
          some false : Option (Bool)) >>= fun o12 =>
      some (o12, x3.2, o4.2.1, x6.1, x6.2.1, true, o4.2.2, x6.2.2)
    | .inr y9 =>
      some (false, x3.2, o4.2.1, x6.1, x6.2.1, true, o4.2.2, x6.2.2)
set_option maxRecDepth 100000 in
set_option maxHeartbeats 4000000 in
theorem uri_reader_authority_ok : ∀ (h0_0 : (List UInt8)) (h0_1 : (List UInt8)) (h0_2 : (List UInt8)) (h0_3 : (List UInt8)) (h0_4 : (List UInt8)) (h0_5 : (List UInt8)) (h0_6 : (List UInt8)) (h0_7 : (List UInt8)) (h0_8 : Bool) (h0_9 : Bool) (h0_10 : Bool) (h0_11 : Bool) (h0_12 : Bool) (o : Bool × (List UInt8) × (List UInt8) × (List UInt8) × (List UInt8) × Bool × Bool × Bool), uri_reader_authority h0_0 h0_1 h0_2 h0_3 h0_4 h0_5 h0_6 h0_7 h0_8 h0_9 h0_10 h0_11 h0_12 = some o → CallOK Try.prog 34 [.ptr 0 0] ⟨[[.p (sV h0_0), .p (sV h0_1), .p (sV h0_2), .p (sV h0_3), .p (sV h0_4), .p (sV h0_5), .p (sV h0_6), .p (sV h0_7), .p (bV h0_8), .p (bV h0_9), .p (bV h0_10), .p (bV h0_11), .p (bV h0_12)]], []⟩ (t_uri_reader_authority o) ⟨[[.p (sV o.2.1), .p (sV h0_1), .p (sV o.2.2.1), .p (sV o.2.2.2.1), .p (sV o.2.2.2.2.1), .p (sV h0_5), .p (sV h0_6), .p (sV h0_7), .p (bV o.2.2.2.2.2.1), .p (bV o.2.2.2.2.2.2.1), .p (bV o.2.2.2.2.2.2.2), .p (bV h0_11), .p (bV h0_12)]], []⟩ := by
  intro h0_0 h0_1 h0_2 h0_3 h0_4 h0_5 h0_6 h0_7 h0_8 h0_9 h0_10 h0_11 h0_12 o h
  unfold uri_reader_authority at h
  refine CallOK.ofB mixed tbOk uri_reader_authority_lv Try.func34 rfl (by kernel_rfl) (Nat.le_of_ble_eq_true rfl) rfl rfl rfl ?_
  refine st_call [sV h0_0, sV [47, 47]] t_strings_HasPrefix h (fun x1 hy => (strings_HasPrefix_ok h0_0 [47, 47] x1 hy)) (fun x1 hy h => ?_)
  refine st_test h (fun hb h => ?_) (fun hb h => ?_)
  · refine Exists.intro _ (And.intro (Le.refl _ _ _) ?_)
    exact st_retc (t := t_uri_reader_authority) (ss := fun o => ⟨[[.p (sV o.2.1), .p (sV h0_1), .p (sV o.2.2.1), .p (sV o.2.2.2.1), .p (sV o.2.2.2.2.1), .p (sV h0_5), .p (sV h0_6), .p (sV h0_7), .p (bV o.2.2.2.2.2.1), .p (bV o.2.2.2.2.2.2.1), .p (bV o.2.2.2.2.2.2.2), .p (bV h0_11), .p (bV h0_12)]], []⟩) h ⟨[], rfl, .refl _, .refl _, rfl⟩
  · refine st_cuts (some 2) none h (fun x2 hi h => ?_)
    refine And.intro (by decide +kernel) (And.intro rfl ?_)
    refine st_callh _ _ h (fun x3 hy => ((uri_reader_upto_ok [47, 63, 35] x2 h0_1 h0_2 h0_3 h0_4 h0_5 h0_6 h0_7 h0_8 h0_9 h0_10 h0_11 h0_12 x3 hy).fr [0] [] rfl rfl rfl)) (fun x3 => Nat.le_of_ble_eq_true rfl) (fun x3 hy h => ?_)
    refine st_bind h (fun o4 ho hk => ?_)
    refine Exists.intro (JP1 _ _ o4 .normal (uri_reader_authority_J0_0 h0_1 h0_3 h0_4 h0_5 h0_6 h0_7 h0_10 h0_11 h0_12 x3)) (And.intro ?_ (join1 ?_))
    · have h := ho
      refine st_call [sV x3.1, sV [64]] t_strings_Cut h (fun x5 hy => (strings_Cut_ok x3.1 [64] x5 hy)) (fun x5 hy h => ?_)
      refine st_test h (fun hb h => ?_) (fun hb h => ?_)
      · exact JP1.a h (Le.tow 1 0 rfl (.cons rfl (.refl _) (.cons rfl (.refl _) (.nil))) (.refl _) rfl)
      · exact JP1.a h (Le.tow 1 0 rfl (.cons rfl (.refl _) (.cons rfl (.refl _) (.nil))) (.refl _) rfl)
    · have h := hk
      refine st_call [sV o4.1, sV [58]] t_strings_Cut h (fun x6 hy => (strings_Cut_ok o4.1 [58] x6 hy)) (fun x6 hy h => ?_)
      refine vrfl ?_
      refine st_bind h (fun o7 ho hk => ?_)
      refine Exists.intro (JP2 _ _ o7 (.exit 0) (uri_reader_authority_L1_x0 h0_1 h0_5 h0_6 h0_7 h0_11 h0_12 x3 o4 x6) .ret (uri_reader_authority_L1_x1 h0_1 h0_5 h0_6 h0_7 h0_11 h0_12 x3 o4 x6)) (And.intro (T_le (τ := uri_reader_authority_L1_st h0_1 h0_5 h0_6 h0_7 h0_11 h0_12 x3 o4 x6 0) ?_ (TL.loop (uri_reader_authority_L1_ok h0_1 h0_5 h0_6 h0_7 h0_11 h0_12 x3 o4 x6 0 o7 ho))) (join2 (fun y8 hy => ?_) (fun y9 hy => ?_)))
      · exact Le.tow 1 0 rfl (.cons rfl (.refl _) (.cons rfl (.refl _) (.cons rfl (.refl _) (.nil)))) (.refl _) rfl
      · have h := (by rw [hy] at hk; exact hk)
        refine st_bind h (fun o12 ho hk => ?_)
        refine Exists.intro (JP1 _ _ o12 .normal (uri_reader_authority_J1_0 h0_1 h0_5 h0_6 h0_7 h0_11 h0_12 x3 o4 x6)) (And.intro ?_ (join1 ?_))
        · have h := ho
          refine And.intro (by decide +kernel) (And.intro rfl ?_)
          refine st_calld [sV [58]] t_uri_with h (fun x13 hy => (uri_with_ok [58] x13 hy)) (fun x13 hy h => ?_)
          refine st_callq (fun x14 => (t_uri_fits_uri_with_1 x14).ren [] []) h (fun x14 hy => (uri_fits_uri_with_1_ok o4.2.1 x13 x14 hy).fd rfl rfl [] rfl rfl) (fun x14 hy h => ?_)
          refine st_test h (fun hb h => ?_) (fun hb h => ?_)
          · refine st_calld [sV []] t_uri_with h (fun x15 hy => (uri_with_ok [] x15 hy)) (fun x15 hy h => ?_)
            refine st_callq (fun x16 => (t_uri_fits_uri_with_1 x16).ren [] []) h (fun x16 hy => (uri_fits_uri_with_1_ok x6.1 x15 x16 hy).fd rfl rfl [] rfl rfl) (fun x16 hy h => ?_)
            exact JP1.a h (Le.tow 1 0 rfl (.cons rfl (.refl _) (.nil)) (.refl _) rfl)
          · exact JP1.a h (Le.tow 1 0 rfl (.cons rfl (.refl _) (.nil)) (.refl _) rfl)
        · have h := hk
          refine Exists.intro _ (And.intro (Le.refl _ _ _) ?_)
          exact st_retc (t := t_uri_reader_authority) (ss := fun o => ⟨[[.p (sV o.2.1), .p (sV h0_1), .p (sV o.2.2.1), .p (sV o.2.2.2.1), .p (sV o.2.2.2.2.1), .p (sV h0_5), .p (sV h0_6), .p (sV h0_7), .p (bV o.2.2.2.2.2.1), .p (bV o.2.2.2.2.2.2.1), .p (bV o.2.2.2.2.2.2.2), .p (bV h0_11), .p (bV h0_12)]], []⟩) h ⟨[], rfl, .refl _, .refl _, rfl⟩
      · have h := (by rw [hy] at hk; exact hk)
        refine Exists.intro _ (And.intro (Le.refl _ _ _) ?_)
        exact st_retc (t := t_uri_reader_authority) (ss := fun o => ⟨[[.p (sV o.2.1), .p (sV h0_1), .p (sV o.2.2.1), .p (sV o.2.2.2.1), .p (sV o.2.2.2.2.1), .p (sV h0_5), .p (sV h0_6), .p (sV h0_7), .p (bV o.2.2.2.2.2.1), .p (bV o.2.2.2.2.2.2.1), .p (bV o.2.2.2.2.2.2.2), .p (bV h0_11), .p (bV h0_12)]], []⟩) h ⟨[], rfl, .refl _, .refl _, rfl⟩
noncomputable def uri_Split_L1_r1 (p0 : (List UInt8)) (h1_0 : (List UInt8)) (h1_1 : (List UInt8)) : Option (((List UInt8) × (List UInt8) × (List UInt8) × (List UInt8) × (List UInt8) × (List UInt8) × (List UInt8) × (List UInt8) × Bool × Bool × Bool × Bool × Bool) ⊕ ((List UInt8) × (List UInt8) × (List UInt8) × (List UInt8) × (List UInt8) × (List UInt8) × (List UInt8) × (List UInt8) × Bool × Bool × Bool × Bool × Bool)) :=
  uri_reader_authority h1_0 h1_1 [] [] [] [] [] [] false false false false false >>= fun x7 =>
  if (!x7.1) then
    some (.inr (x7.2.1, h1_1, x7.2.2.1, x7.2.2.2.1, x7.2.2.2.2.1, [], [], [], x7.2.2.2.2.2.1, x7.2.2.2.2.2.2.1, x7.2.2.2.2.2.2.2, false, false))
  else
    uri_Split_L1_r2 p0 x7.2.1 h1_1 x7.2.2.1 x7.2.2.2.1 x7.2.2.2.2.1 x7.2.2.2.2.2.1 x7.2.2.2.2.2.2.1 x7.2.2.2.2.2.2.2
set_option maxRecDepth 100000 in
set_option maxHeartbeats 4000000 in
theorem uri_Split_L1_r1_ok : ∀ (p0 : (List UInt8)) (h1_0 : (List UInt8)) (h1_1 : (List UInt8)) (o1 : ((List UInt8) × (List UInt8) × (List UInt8) × (List UInt8) × (List UInt8) × (List UInt8) × (List UInt8) × (List UInt8) × Bool × Bool × Bool × Bool × Bool) ⊕ ((List UInt8) × (List UInt8) × (List UInt8) × (List UInt8) × (List UInt8) × (List UInt8) × (List UInt8) × (List UInt8) × Bool × Bool × Bool × Bool × Bool)), uri_Split_L1_r1 p0 h1_0 h1_1 = some o1 → TL (0, 0) Try.prog 35 uri_Split_L1_c (JP2 (0, 0) 35 o1 (.exit 0) (uri_Split_L1_x0 p0) .ret (uri_Split_L1_x1 p0)) (uri_Split_L1_r1_st p0 h1_0 h1_1) := by
  intro p0 h1_0 h1_1 o1 h
  unfold uri_Split_L1_r1 at h
  refine TL.round (bwp_sound mixed tbOk (lv := uri_Split_lv) _ _ _ ?_)
  refine bT ?_
  refine Exists.intro _ (And.intro (by decide) (And.intro rfl (And.intro rfl ?_)))
  refine And.intro rfl ?_
  refine st_callc _ _ h (fun x7 hy => ((uri_reader_authority_ok h1_0 h1_1 [] [] [] [] [] [] false false false false false x7 hy).fr [1] [] rfl rfl rfl)) (fun x7 hy h => ?_)
  refine st_test h (fun hb h => ?_) (fun hb h => ?_)
  · exact JP2.b h (Le.tow 2 0 rfl (.cons rfl (.refl _) (.cons rfl (.refl _) (.nil))) (.refl _) rfl)
  · refine TL.le (τ := uri_Split_L1_r2_st p0 x7.2.1 h1_1 x7.2.2.1 x7.2.2.2.1 x7.2.2.2.2.1 x7.2.2.2.2.2.1 x7.2.2.2.2.2.2.1 x7.2.2.2.2.2.2.2) ?_ ((uri_Split_L1_r2_ok p0 x7.2.1 h1_1 x7.2.2.1 x7.2.2.2.1 x7.2.2.2.2.1 x7.2.2.2.2.2.1 x7.2.2.2.2.2.2.1 x7.2.2.2.2.2.2.2 _ h))
    exact Le.tow 2 0 rfl (.cons rfl (.refl _) (.cons rfl (.refl _) (.cons rfl (.refl _) (.cons rfl (.refl _) (.cons rfl (.refl _) (.nil)))))) (.refl _) rfl
noncomputable def uri_reader_scheme_L1 (h0_0 : (List UInt8)) (h0_1 : (List UInt8)) (h0_2 : (List UInt8)) (h0_3 : (List UInt8)) (h0_4 : (List UInt8)) (h0_5 : (List UInt8)) (h0_6 : (List UInt8)) (h0_7 : (List UInt8)) (h0_8 : Bool) (h0_9 : Bool) (h0_10 : Bool) (h0_11 : Bool) (h0_12 : Bool) (x1 : Int) (x4 : (List UInt8)) (v30 : Int) : Option (Unit ⊕ Unit) :=
  if (decide (v30 < x1)) then
    idx x4 v30 >>= fun x8 =>
    ( uri_letter (x8.toNat : Int) >>= fun x10 =>
      if (!x10) then
        if (v30 == 0) then
          some true
        else
          uri_digit (x8.toNat : Int) >>= fun x11 =>
          if (!x11) then
            strings_IndexByte [43, 45, 46] (x8.toNat : Int) >>= fun x12 =>
            some (decide (x12 < 0))
          else
            some false
      else
        some false : Option (Bool)) >>= fun o9 =>
    if o9 then
      some (.inr ())
    else
      uri_reader_scheme_L1 h0_0 h0_1 h0_2 h0_3 h0_4 h0_5 h0_6 h0_7 h0_8 h0_9 h0_10 h0_11 h0_12 x1 x4 (wr (v30 + 1))
  else
    some (.inl ())
  partial_fixpoint
set_option maxRecDepth 100000 in
set_option maxHeartbeats 4000000 in
theorem uri_reader_scheme_L1_grp : ∀ (h0_0 : (List UInt8)) (h0_1 : (List UInt8)) (h0_2 : (List UInt8)) (h0_3 : (List UInt8)) (h0_4 : (List UInt8)) (h0_5 : (List UInt8)) (h0_6 : (List UInt8)) (h0_7 : (List UInt8)) (h0_8 : Bool) (h0_9 : Bool) (h0_10 : Bool) (h0_11 : Bool) (h0_12 : Bool) (x1 : Int) (x4 : (List UInt8)), (∀ (v30 : Int) (o5 : Unit ⊕ Unit), uri_reader_scheme_L1 h0_0 h0_1 h0_2 h0_3 h0_4 h0_5 h0_6 h0_7 h0_8 h0_9 h0_10 h0_11 h0_12 x1 x4 v30 = some o5 → TL (1, 0) Try.prog 71 uri_reader_scheme_L1_c (JP2 (1, 0) 71 o5 (.exit 0) (uri_reader_scheme_L1_x0 h0_0 h0_1 h0_2 h0_3 h0_4 h0_5 h0_6 h0_7 h0_8 h0_9 h0_10 h0_11 h0_12 x1 x4) .ret (uri_reader_scheme_L1_x1 h0_0 h0_1 h0_2 h0_3 h0_4 h0_5 h0_6 h0_7 h0_8 h0_9 h0_10 h0_11 h0_12 x1 x4)) (uri_reader_scheme_L1_st h0_0 h0_1 h0_2 h0_3 h0_4 h0_5 h0_6 h0_7 h0_8 h0_9 h0_10 h0_11 h0_12 x1 x4 v30)) := by
  intro h0_0 h0_1 h0_2 h0_3 h0_4 h0_5 h0_6 h0_7 h0_8 h0_9 h0_10 h0_11 h0_12 x1 x4
  refine uri_reader_scheme_L1.partial_correctness h0_0 h0_1 h0_2 h0_3 h0_4 h0_5 h0_6 h0_7 h0_8 h0_9 h0_10 h0_11 h0_12 x1 x4 _ ?_
  intro uri_reader_scheme_L1' ih_uri_reader_scheme_L1 v30 o5 h
  refine TL.round (bwp_sound mixed tbOk (lv := uri_reader_scheme_lv) _ _ _ ?_)
  refine st_test h (fun hb h => ?_) (fun hb h => ?_)
  · refine st_sidx h (fun x8 hi h => ?_)
    refine st_bind h (fun o9 ho hk => ?_)
    refine Exists.intro (JP1 _ _ o9 .normal (uri_reader_scheme_J1_0 h0_0 h0_1 h0_2 h0_3 h0_4 h0_5 h0_6 h0_7 h0_8 h0_9 h0_10 h0_11 h0_12 x1 x4 v30)) (And.intro ?_ (join1 ?_))
    · have h := ho
      refine st_call [nV .u8 (x8.toNat : Int)] t_uri_letter h (fun x10 hy => (uri_letter_ok (x8.toNat : Int) x10 hy)) (fun x10 hy h => ?_)
      refine st_test h (fun hb h => ?_) (fun hb h => ?_)
      · refine st_test h (fun hb h => ?_) (fun hb h => ?_)
        · exact JP1.a h (Le.tow 1 0 rfl (.cons rfl (.refl _) (.cons rfl (.refl _) (.cons rfl (.refl _) (.cons rfl (.refl _) (.cons rfl (.refl _) (.cons rfl (.refl _) (.nil))))))) (.refl _) rfl)
        · refine st_call [nV .u8 (x8.toNat : Int)] t_uri_digit h (fun x11 hy => (uri_digit_ok (x8.toNat : Int) x11 hy)) (fun x11 hy h => ?_)
          refine st_test h (fun hb h => ?_) (fun hb h => ?_)
          · refine st_call [sV [43, 45, 46], nV .u8 (x8.toNat : Int)] t_strings_IndexByte h (fun x12 hy => (strings_IndexByte_ok [43, 45, 46] (x8.toNat : Int) x12 hy)) (fun x12 hy h => ?_)
            exact JP1.a h (Le.tow 1 0 rfl (.cons rfl (.refl _) (.cons rfl (.refl _) (.cons rfl (.refl _) (.cons rfl (.refl _) (.cons rfl (.refl _) (.cons rfl (.refl _) (.nil))))))) (.refl _) rfl)
          · exact JP1.a h (Le.tow 1 0 rfl (.cons rfl (.refl _) (.cons rfl (.refl _) (.cons rfl (.refl _) (.cons rfl (.refl _) (.cons rfl (.refl _) (.cons rfl (.refl _) (.nil))))))) (.refl _) rfl)
      · exact JP1.a h (Le.tow 1 0 rfl (.cons rfl (.refl _) (.cons rfl (.refl _) (.cons rfl (.refl _) (.cons rfl (.refl _) (.cons rfl (.refl _) (.cons rfl (.refl _) (.nil))))))) (.refl _) rfl)
    · have h := hk
      refine st_test h (fun hb h => ?_) (fun hb h => ?_)
      · exact JP2.b h (Le.tow 1 0 rfl (.cons rfl (.refl _) (.nil)) (.refl _) rfl)
      · refine TL.le (τ := uri_reader_scheme_L1_st h0_0 h0_1 h0_2 h0_3 h0_4 h0_5 h0_6 h0_7 h0_8 h0_9 h0_10 h0_11 h0_12 x1 x4 (wr (v30 + 1))) ?_ ((ih_uri_reader_scheme_L1 (wr (v30 + 1)) _ h))
        exact Le.tow 1 0 rfl (.cons rfl (.refl _) (.cons rfl (.refl _) (.cons rfl (.refl _) (.cons rfl (.refl _) (.cons rfl (.refl _) (.nil)))))) (.refl _) rfl
  · exact JP2.a h (Le.tow 1 0 rfl (.cons rfl (.refl _) (.cons rfl (.refl _) (.cons rfl (.refl _) (.nil)))) (.refl _) rfl)
theorem uri_reader_scheme_L1_ok : ∀ (h0_0 : (List UInt8)) (h0_1 : (List UInt8)) (h0_2 : (List UInt8)) (h0_3 : (List UInt8)) (h0_4 : (List UInt8)) (h0_5 : (List UInt8)) (h0_6 : (List UInt8)) (h0_7 : (List UInt8)) (h0_8 : Bool) (h0_9 : Bool) (h0_10 : Bool) (h0_11 : Bool) (h0_12 : Bool) (x1 : Int) (x4 : (List UInt8)) (v30 : Int) (o5 : Unit ⊕ Unit), uri_reader_scheme_L1 h0_0 h0_1 h0_2 h0_3 h0_4 h0_5 h0_6 h0_7 h0_8 h0_9 h0_10 h0_11 h0_12 x1 x4 v30 = some o5 → TL (1, 0) Try.prog 71 uri_reader_scheme_L1_c (JP2 (1, 0) 71 o5 (.exit 0) (uri_reader_scheme_L1_x0 h0_0 h0_1 h0_2 h0_3 h0_4 h0_5 h0_6 h0_7 h0_8 h0_9 h0_10 h0_11 h0_12 x1 x4) .ret (uri_reader_scheme_L1_x1 h0_0 h0_1 h0_2 h0_3 h0_4 h0_5 h0_6 h0_7 h0_8 h0_9 h0_10 h0_11 h0_12 x1 x4)) (uri_reader_scheme_L1_st h0_0 h0_1 h0_2 h0_3 h0_4 h0_5 h0_6 h0_7 h0_8 h0_9 h0_10 h0_11 h0_12 x1 x4 v30) := fun h0_0 h0_1 h0_2 h0_3 h0_4 h0_5 h0_6 h0_7 h0_8 h0_9 h0_10 h0_11 h0_12 x1 x4 v30 o5 h => (uri_reader_scheme_L1_grp h0_0 h0_1 h0_2 h0_3 h0_4 h0_5 h0_6 h0_7 h0_8 h0_9 h0_10 h0_11 h0_12 x1 x4) v30 o5 h
noncomputable def uri_reader_scheme (h0_0 : (List UInt8)) (h0_1 : (List UInt8)) (h0_2 : (List UInt8)) (h0_3 : (List UInt8)) (h0_4 : (List UInt8)) (h0_5 : (List UInt8)) (h0_6 : (List UInt8)) (h0_7 : (List UInt8)) (h0_8 : Bool) (h0_9 : Bool) (h0_10 : Bool) (h0_11 : Bool) (h0_12 : Bool) : Option (Bool × (List UInt8) × (List UInt8)) :=
  strings_IndexAny h0_0 [58, 47, 63, 35] >>= fun x1 =>
  ( if (decide (x1 < 0)) then
      some true
    else
      idx h0_0 x1 >>= fun x3 =>
      some ((x3.toNat : Int) != 58) : Option (Bool)) >>= fun o2 =>
  if o2 then
    some (true, h0_0, h0_1)
  else
    cutL h0_0 0 x1 >>= fun x4 =>
    (uri_reader_scheme_L1 h0_0 h0_1 h0_2 h0_3 h0_4 h0_5 h0_6 h0_7 h0_8 h0_9 h0_10 h0_11 h0_12 x1 x4 0) >>= fun o5 =>
    match o5 with
    | .inl y6 =>
      cutL h0_0 (wr (x1 + 1)) (h0_0.length : Int) >>= fun x13 =>
      some ((!(x4 == [])), x13, x4)
    | .inr y7 =>
      some (false, h0_0, h0_1)
set_option maxRecDepth 100000 in
set_option maxHeartbeats 4000000 in
theorem uri_reader_scheme_ok : ∀ (h0_0 : (List UInt8)) (h0_1 : (List UInt8)) (h0_2 : (List UInt8)) (h0_3 : (List UInt8)) (h0_4 : (List UInt8)) (h0_5 : (List UInt8)) (h0_6 : (List UInt8)) (h0_7 : (List UInt8)) (h0_8 : Bool) (h0_9 : Bool) (h0_10 : Bool) (h0_11 : Bool) (h0_12 : Bool) (o : Bool × (List UInt8) × (List UInt8)), uri_reader_scheme h0_0 h0_1 h0_2 h0_3 h0_4 h0_5 h0_6 h0_7 h0_8 h0_9 h0_10 h0_11 h0_12 = some o → CallOK Try.prog 33 [.ptr 0 0] ⟨[[.p (sV h0_0), .p (sV h0_1), .p (sV h0_2), .p (sV h0_3), .p (sV h0_4), .p (sV h0_5), .p (sV h0_6), .p (sV h0_7), .p (bV h0_8), .p (bV h0_9), .p (bV h0_10), .p (bV h0_11), .p (bV h0_12)]], []⟩ (t_uri_reader_scheme o) ⟨[[.p (sV o.2.1), .p (sV o.2.2), .p (sV h0_2), .p (sV h0_3), .p (sV h0_4), .p (sV h0_5), .p (sV h0_6), .p (sV h0_7), .p (bV h0_8), .p (bV h0_9), .p (bV h0_10), .p (bV h0_11), .p (bV h0_12)]], []⟩ := by
  intro h0_0 h0_1 h0_2 h0_3 h0_4 h0_5 h0_6 h0_7 h0_8 h0_9 h0_10 h0_11 h0_12 o h
  unfold uri_reader_scheme at h
  refine CallOK.ofB mixed tbOk uri_reader_scheme_lv Try.func33 rfl (by kernel_rfl) (Nat.le_of_ble_eq_true rfl) rfl rfl rfl ?_
  refine st_call [sV h0_0, sV [58, 47, 63, 35]] t_strings_IndexAny h (fun x1 hy => (strings_IndexAny_ok h0_0 [58, 47, 63, 35] x1 hy)) (fun x1 hy h => ?_)
  refine st_bind h (fun o2 ho hk => ?_)
  refine Exists.intro (JP1 _ _ o2 .normal (uri_reader_scheme_J0_0 h0_0 h0_1 h0_2 h0_3 h0_4 h0_5 h0_6 h0_7 h0_8 h0_9 h0_10 h0_11 h0_12 x1)) (And.intro ?_ (join1 ?_))
  · have h := ho
    refine st_test h (fun hb h => ?_) (fun hb h => ?_)
    · exact JP1.a h (Le.tow 1 0 rfl (.cons rfl (.refl _) (.cons rfl (.refl _) (.cons rfl (.refl _) (.nil)))) (.refl _) rfl)
    · refine st_sidx h (fun x3 hi h => ?_)
      exact JP1.a h (Le.tow 1 0 rfl (.cons rfl (.refl _) (.cons rfl (.refl _) (.cons rfl (.refl _) (.nil)))) (.refl _) rfl)
  · have h := hk
    refine st_test h (fun hb h => ?_) (fun hb h => ?_)
    · refine Exists.intro _ (And.intro (Le.refl _ _ _) ?_)
      exact st_retc (t := t_uri_reader_scheme) (ss := fun o => ⟨[[.p (sV o.2.1), .p (sV o.2.2), .p (sV h0_2), .p (sV h0_3), .p (sV h0_4), .p (sV h0_5), .p (sV h0_6), .p (sV h0_7), .p (bV h0_8), .p (bV h0_9), .p (bV h0_10), .p (bV h0_11), .p (bV h0_12)]], []⟩) h ⟨[], rfl, .refl _, .refl _, rfl⟩
    · refine st_cuts none (some x1) h (fun x4 hi h => ?_)
      refine st_bind h (fun o5 ho hk => ?_)
      refine Exists.intro (JP2 _ _ o5 (.exit 0) (uri_reader_scheme_L1_x0 h0_0 h0_1 h0_2 h0_3 h0_4 h0_5 h0_6 h0_7 h0_8 h0_9 h0_10 h0_11 h0_12 x1 x4) .ret (uri_reader_scheme_L1_x1 h0_0 h0_1 h0_2 h0_3 h0_4 h0_5 h0_6 h0_7 h0_8 h0_9 h0_10 h0_11 h0_12 x1 x4)) (And.intro (T_le (τ := uri_reader_scheme_L1_st h0_0 h0_1 h0_2 h0_3 h0_4 h0_5 h0_6 h0_7 h0_8 h0_9 h0_10 h0_11 h0_12 x1 x4 0) ?_ (TL.loop (uri_reader_scheme_L1_ok h0_0 h0_1 h0_2 h0_3 h0_4 h0_5 h0_6 h0_7 h0_8 h0_9 h0_10 h0_11 h0_12 x1 x4 0 o5 ho))) (join2 (fun y6 hy => ?_) (fun y7 hy => ?_)))
      · exact Le.tow 1 0 rfl (.cons rfl (.refl _) (.cons rfl (.refl _) (.cons rfl (.refl _) (.cons rfl (.refl _) (.cons rfl (.refl _) (.nil)))))) (.refl _) rfl
      · have h := (by rw [hy] at hk; exact hk)
        refine And.intro (by decide +kernel) (And.intro rfl ?_)
        refine st_cuts (some (wr (x1 + 1))) none h (fun x13 hi h => ?_)
        refine Exists.intro _ (And.intro (Le.refl _ _ _) ?_)
        exact st_retc (t := t_uri_reader_scheme) (ss := fun o => ⟨[[.p (sV o.2.1), .p (sV o.2.2), .p (sV h0_2), .p (sV h0_3), .p (sV h0_4), .p (sV h0_5), .p (sV h0_6), .p (sV h0_7), .p (bV h0_8), .p (bV h0_9), .p (bV h0_10), .p (bV h0_11), .p (bV h0_12)]], []⟩) h ⟨[], rfl, .refl _, .refl _, rfl⟩
      · have h := (by rw [hy] at hk; exact hk)
        refine Exists.intro _ (And.intro (Le.refl _ _ _) ?_)
        exact st_retc (t := t_uri_reader_scheme) (ss := fun o => ⟨[[.p (sV o.2.1), .p (sV o.2.2), .p (sV h0_2), .p (sV h0_3), .p (sV h0_4), .p (sV h0_5), .p (sV h0_6), .p (sV h0_7), .p (bV h0_8), .p (bV h0_9), .p (bV h0_10), .p (bV h0_11), .p (bV h0_12)]], []⟩) h ⟨[], rfl, .refl _, .refl _, rfl⟩
noncomputable def uri_Split_L1_r0 (p0 : (List UInt8)) : Option (((List UInt8) × (List UInt8) × (List UInt8) × (List UInt8) × (List UInt8) × (List UInt8) × (List UInt8) × (List UInt8) × Bool × Bool × Bool × Bool × Bool) ⊕ ((List UInt8) × (List UInt8) × (List UInt8) × (List UInt8) × (List UInt8) × (List UInt8) × (List UInt8) × (List UInt8) × Bool × Bool × Bool × Bool × Bool)) :=
  uri_reader_scheme p0 [] [] [] [] [] [] [] false false false false false >>= fun x8 =>
  if (!x8.1) then
    some (.inr (x8.2.1, x8.2.2, [], [], [], [], [], [], false, false, false, false, false))
  else
    uri_Split_L1_r1 p0 x8.2.1 x8.2.2
set_option maxRecDepth 100000 in
set_option maxHeartbeats 4000000 in
theorem uri_Split_L1_r0_ok : ∀ (p0 : (List UInt8)) (o1 : ((List UInt8) × (List UInt8) × (List UInt8) × (List UInt8) × (List UInt8) × (List UInt8) × (List UInt8) × (List UInt8) × Bool × Bool × Bool × Bool × Bool) ⊕ ((List UInt8) × (List UInt8) × (List UInt8) × (List UInt8) × (List UInt8) × (List UInt8) × (List UInt8) × (List UInt8) × Bool × Bool × Bool × Bool × Bool)), uri_Split_L1_r0 p0 = some o1 → TL (0, 0) Try.prog 35 uri_Split_L1_c (JP2 (0, 0) 35 o1 (.exit 0) (uri_Split_L1_x0 p0) .ret (uri_Split_L1_x1 p0)) (uri_Split_L1_r0_st p0) := by
  intro p0 o1 h
  unfold uri_Split_L1_r0 at h
  refine TL.round (bwp_sound mixed tbOk (lv := uri_Split_lv) _ _ _ ?_)
  refine bT ?_
  refine Exists.intro _ (And.intro (by decide) (And.intro rfl (And.intro rfl ?_)))
  refine And.intro rfl ?_
  refine st_callc _ _ h (fun x8 hy => ((uri_reader_scheme_ok p0 [] [] [] [] [] [] [] false false false false false x8 hy).fr [1] [] rfl rfl rfl)) (fun x8 hy h => ?_)
  refine st_test h (fun hb h => ?_) (fun hb h => ?_)
  · exact JP2.b h (Le.tow 2 0 rfl (.cons rfl (.refl _) (.cons rfl (.refl _) (.nil))) (.refl _) rfl)
  · refine TL.le (τ := uri_Split_L1_r1_st p0 x8.2.1 x8.2.2) ?_ ((uri_Split_L1_r1_ok p0 x8.2.1 x8.2.2 _ h))
    exact Le.tow 2 0 rfl (.cons rfl (.refl _) (.cons rfl (.refl _) (.cons rfl (.refl _) (.cons rfl (.refl _) (.cons rfl (.refl _) (.nil)))))) (.refl _) rfl
noncomputable def uri_Split (p0 : (List UInt8)) : Option (uri_Uri × Int) :=
  (uri_Split_L1_r0 p0) >>= fun o1 =>
  match o1 with
  | .inl y2 =>
    some ((uri_Uri.mk y2.2.1 y2.2.2.1 y2.2.2.2.1 y2.2.2.2.2.1 y2.2.2.2.2.2.1 y2.2.2.2.2.2.2.1 y2.2.2.2.2.2.2.2.1 y2.2.2.2.2.2.2.2.2.1 y2.2.2.2.2.2.2.2.2.2.1 y2.2.2.2.2.2.2.2.2.2.2.1 y2.2.2.2.2.2.2.2.2.2.2.2.1 y2.2.2.2.2.2.2.2.2.2.2.2.2), 0)
  | .inr y3 =>
    some ((uri_Uri.mk [] [] [] [] [] [] [] false false false false false), 7)
set_option maxRecDepth 100000 in
set_option maxHeartbeats 4000000 in
theorem uri_Split_ok : ∀ (p0 : (List UInt8)) (o : uri_Uri × Int), uri_Split p0 = some o → PCall Try.prog 11 [sV p0] (t_uri_Split o) := by
  intro p0 o h
  unfold uri_Split at h
  refine PCall.ofB mixed tbOk uri_Split_lv Try.func11 rfl (by kernel_rfl) (Nat.le_of_ble_eq_true rfl) ?_
  refine vrfl ?_
  refine st_bind h (fun o1 ho hk => ?_)
  refine Exists.intro (JP2 _ _ o1 (.exit 0) (uri_Split_L1_x0 p0) .ret (uri_Split_L1_x1 p0)) (And.intro (T_le (τ := uri_Split_L1_r0_st p0) ?_ (TL.loop (uri_Split_L1_r0_ok p0 o1 ho))) (join2 (fun y2 hy => ?_) (fun y3 hy => ?_)))
  · exact Le.tow 2 0 rfl (.cons rfl (.refl _) (.cons rfl (.refl _) (.cons rfl (.refl _) (.cons rfl (.refl _) (.cons rfl (.refl _) (.nil)))))) (.refl _) rfl
  · have h := (by rw [hy] at hk; exact hk)
    refine st_ret (t := t_uri_Split) h ?_
    exact .refl _
  · have h := (by rw [hy] at hk; exact hk)
    refine st_ret (t := t_uri_Split) h ?_
    exact .refl _
noncomputable def nunciolaw12_awake : Option (Bool) :=
  uri_Split [104, 116, 116, 112, 115, 58, 47, 47, 117, 64, 104, 58, 56, 47, 97, 63, 98, 35, 99] >>= fun x1 =>
  uri_Split [97, 58, 98] >>= fun x2 =>
  uri_Split [49, 58, 98] >>= fun x3 =>
  uri_Split [97, 32, 98] >>= fun x4 =>
  ( if (x1.2 == 0) then
      if (x1.1.Scheme == [104, 116, 116, 112, 115]) then
        if (x1.1.User == [117]) then
          if (x1.1.Host == [104]) then
            if (x1.1.Port == [56]) then
              if (x1.1.Path == [47, 97]) then
                if (x1.1.Query == [98]) then
                  if (x1.1.Frag == [99]) then
                    if (x2.2 == 0) then
                      if (x2.1.Scheme == [97]) then
                        if (x2.1.Path == [98]) then
                          if (x3.2 == 7) then
                            some (x4.2 == 7)
                          else
                            some false
                        else
                          some false
                      else
                        some false
                    else
                      some false
                  else
                    some false
                else
                  some false
              else
                some false
            else
              some false
          else
            some false
        else
          some false
      else
        some false
    else
      some false : Option (Bool)) >>= fun o5 =>
  some o5
set_option maxRecDepth 100000 in
set_option maxHeartbeats 4000000 in
theorem nunciolaw12_awake_ok : ∀ (o : Bool), nunciolaw12_awake  = some o → PCall Try.prog 15 [] (t_nunciolaw12_awake o) := by
  intro o h
  unfold nunciolaw12_awake at h
  refine PCall.ofB mixed tbOk nunciolaw12_awake_lv Try.func15 rfl (by kernel_rfl) (Nat.le_of_ble_eq_true rfl) ?_
  refine st_call [sV [104, 116, 116, 112, 115, 58, 47, 47, 117, 64, 104, 58, 56, 47, 97, 63, 98, 35, 99]] t_uri_Split h (fun x1 hy => (uri_Split_ok [104, 116, 116, 112, 115, 58, 47, 47, 117, 64, 104, 58, 56, 47, 97, 63, 98, 35, 99] x1 hy)) (fun x1 hy h => ?_)
  refine st_call [sV [97, 58, 98]] t_uri_Split h (fun x2 hy => (uri_Split_ok [97, 58, 98] x2 hy)) (fun x2 hy h => ?_)
  refine st_call [sV [49, 58, 98]] t_uri_Split h (fun x3 hy => (uri_Split_ok [49, 58, 98] x3 hy)) (fun x3 hy h => ?_)
  refine st_call [sV [97, 32, 98]] t_uri_Split h (fun x4 hy => (uri_Split_ok [97, 32, 98] x4 hy)) (fun x4 hy h => ?_)
  refine st_bind h (fun o5 ho hk => ?_)
  refine Exists.intro (JP1 _ _ o5 .normal (nunciolaw12_awake_J0_0 x1 x2 x3 x4)) (And.intro ?_ (join1 ?_))
  · have h := ho
    refine st_test h (fun hb h => ?_) (fun hb h => ?_)
    · refine st_test h (fun hb h => ?_) (fun hb h => ?_)
      · refine st_test h (fun hb h => ?_) (fun hb h => ?_)
        · refine st_test h (fun hb h => ?_) (fun hb h => ?_)
          · refine st_test h (fun hb h => ?_) (fun hb h => ?_)
            · refine st_test h (fun hb h => ?_) (fun hb h => ?_)
              · refine st_test h (fun hb h => ?_) (fun hb h => ?_)
                · refine st_test h (fun hb h => ?_) (fun hb h => ?_)
                  · refine st_test h (fun hb h => ?_) (fun hb h => ?_)
                    · refine st_test h (fun hb h => ?_) (fun hb h => ?_)
                      · refine st_test h (fun hb h => ?_) (fun hb h => ?_)
                        · refine st_test h (fun hb h => ?_) (fun hb h => ?_)
                          · exact JP1.a h (Le.tow 4 0 rfl (.cons rfl (.refl _) (.nil)) (.refl _) rfl)
                          · exact JP1.a h (Le.tow 4 0 rfl (.cons rfl (.refl _) (.nil)) (.refl _) rfl)
                        · refine bF ?_
                          exact JP1.a h (Le.tow 4 0 rfl (.cons rfl (.refl _) (.nil)) (.refl _) rfl)
                      · refine bF ?_
                        refine bF ?_
                        exact JP1.a h (Le.tow 4 0 rfl (.cons rfl (.refl _) (.nil)) (.refl _) rfl)
                    · refine bF ?_
                      refine bF ?_
                      refine bF ?_
                      exact JP1.a h (Le.tow 4 0 rfl (.cons rfl (.refl _) (.nil)) (.refl _) rfl)
                  · refine bF ?_
                    refine bF ?_
                    refine bF ?_
                    refine bF ?_
                    exact JP1.a h (Le.tow 4 0 rfl (.cons rfl (.refl _) (.nil)) (.refl _) rfl)
                · refine bF ?_
                  refine bF ?_
                  refine bF ?_
                  refine bF ?_
                  refine bF ?_
                  exact JP1.a h (Le.tow 4 0 rfl (.cons rfl (.refl _) (.nil)) (.refl _) rfl)
              · refine bF ?_
                refine bF ?_
                refine bF ?_
                refine bF ?_
                refine bF ?_
                refine bF ?_
                exact JP1.a h (Le.tow 4 0 rfl (.cons rfl (.refl _) (.nil)) (.refl _) rfl)
            · refine bF ?_
              refine bF ?_
              refine bF ?_
              refine bF ?_
              refine bF ?_
              refine bF ?_
              refine bF ?_
              exact JP1.a h (Le.tow 4 0 rfl (.cons rfl (.refl _) (.nil)) (.refl _) rfl)
          · refine bF ?_
            refine bF ?_
            refine bF ?_
            refine bF ?_
            refine bF ?_
            refine bF ?_
            refine bF ?_
            refine bF ?_
            exact JP1.a h (Le.tow 4 0 rfl (.cons rfl (.refl _) (.nil)) (.refl _) rfl)
        · refine bF ?_
          refine bF ?_
          refine bF ?_
          refine bF ?_
          refine bF ?_
          refine bF ?_
          refine bF ?_
          refine bF ?_
          refine bF ?_
          exact JP1.a h (Le.tow 4 0 rfl (.cons rfl (.refl _) (.nil)) (.refl _) rfl)
      · refine bF ?_
        refine bF ?_
        refine bF ?_
        refine bF ?_
        refine bF ?_
        refine bF ?_
        refine bF ?_
        refine bF ?_
        refine bF ?_
        refine bF ?_
        exact JP1.a h (Le.tow 4 0 rfl (.cons rfl (.refl _) (.nil)) (.refl _) rfl)
    · refine bF ?_
      refine bF ?_
      refine bF ?_
      refine bF ?_
      refine bF ?_
      refine bF ?_
      refine bF ?_
      refine bF ?_
      refine bF ?_
      refine bF ?_
      refine bF ?_
      exact JP1.a h (Le.tow 4 0 rfl (.cons rfl (.refl _) (.nil)) (.refl _) rfl)
  · have h := hk
    refine st_ret (t := t_nunciolaw12_awake) h ?_
    exact .refl _
noncomputable def nunciolaw12_few (p0 : (List UInt8)) : Option ((List UInt8)) :=
  cutL p0 0 (if 300 < (p0.length : Int) then 300 else (p0.length : Int)) >>= fun x1 =>
  some x1
set_option maxRecDepth 100000 in
set_option maxHeartbeats 4000000 in
theorem nunciolaw12_few_ok : ∀ (p0 : (List UInt8)) (o : (List UInt8)), nunciolaw12_few p0 = some o → PCall Try.prog 10 [sV p0] (t_nunciolaw12_few o) := by
  intro p0 o h
  unfold nunciolaw12_few at h
  refine PCall.ofB mixed tbOk nunciolaw12_few_lv Try.func10 rfl (by kernel_rfl) (Nat.le_of_ble_eq_true rfl) ?_
  refine vrfl ?_
  refine st_cuts none (some (if 300 < (p0.length : Int) then 300 else (p0.length : Int))) h (fun x1 hi h => ?_)
  refine st_ret (t := t_nunciolaw12_few) h ?_
  exact .refl _
noncomputable def nunciolaw12_its (p0 : uri_Uri) : Option (R12_Uri) :=
  some (R12_Uri.mk p0.Scheme p0.User p0.Host p0.Port p0.Path p0.Query p0.Frag p0.Auth p0.HasUser p0.HasPort p0.HasQuery p0.HasFrag)
set_option maxRecDepth 100000 in
set_option maxHeartbeats 4000000 in
theorem nunciolaw12_its_ok : ∀ (p0 : uri_Uri) (o : R12_Uri), nunciolaw12_its p0 = some o → PCall Try.prog 13 [.agg [sV p0.Scheme, sV p0.User, sV p0.Host, sV p0.Port, sV p0.Path, sV p0.Query, sV p0.Frag, bV p0.Auth, bV p0.HasUser, bV p0.HasPort, bV p0.HasQuery, bV p0.HasFrag]] (t_nunciolaw12_its o) := by
  intro p0 o h
  unfold nunciolaw12_its at h
  refine PCall.ofB mixed tbOk nunciolaw12_its_lv Try.func13 rfl (by kernel_rfl) (Nat.le_of_ble_eq_true rfl) ?_
  refine st_ret (t := t_nunciolaw12_its) h ?_
  exact .refl _
noncomputable def strings_Builder_String_2 (h0_0 : Bool) (h0_1 : (List Int)) : Option ((List UInt8)) :=
  b2s h0_1
set_option maxRecDepth 100000 in
set_option maxHeartbeats 4000000 in
theorem strings_Builder_String_2_ok : ∀ (h0_0 : Bool) (h0_1 : (List Int)) (o : (List UInt8)), strings_Builder_String_2 h0_0 h0_1 = some o → CallOK Try.prog 45 [.ptr 0 0] ⟨[[.sp Try.prog 67 h0_0 0 0, .own 0 5 1 (h0_1.map (cNum .u8))]], [(h0_1.map (cNum .u8)).length]⟩ (t_strings_Builder_String_2 o) ⟨[[.sp Try.prog 67 h0_0 0 0, .p (.sl false (h0_1.map (cNum .u8)))]], [((h0_1.map (cNum .u8)).length + 1)]⟩ := by
  intro h0_0 h0_1 o h
  unfold strings_Builder_String_2 at h
  exact builderString_ok [[.sp Try.prog 67 h0_0 0 0, .own 0 5 1 (h0_1.map (cNum .u8))]] [(h0_1.map (cNum .u8)).length] 0 0 [.sp Try.prog 67 h0_0 0 0, .own 0 5 1 (h0_1.map (cNum .u8))] (h0_1.map (cNum .u8)) rfl rfl rfl (b2s_cells h)
noncomputable def strings_Builder_copyCheck_2 (h0_0 : Bool) (h0_1 : (List Int)) : Option (Bool) :=
  some true
set_option maxRecDepth 100000 in
set_option maxHeartbeats 4000000 in
theorem strings_Builder_copyCheck_2_ok : ∀ (h0_0 : Bool) (h0_1 : (List Int)) (o : Bool), strings_Builder_copyCheck_2 h0_0 h0_1 = some o → CallOK Try.prog 76 [.ptr 0 0] ⟨[[.sp Try.prog 67 h0_0 0 0, .own 0 5 1 (h0_1.map (cNum .u8))]], [(h0_1.map (cNum .u8)).length]⟩ (t_strings_Builder_copyCheck_2 o) ⟨[[.sp Try.prog 67 o 0 0, .own 0 5 1 (h0_1.map (cNum .u8))]], [(h0_1.map (cNum .u8)).length]⟩ := by
  intro h0_0 h0_1 o h
  unfold strings_Builder_copyCheck_2 at h
  cases h
  exact copyCheck_ok [[.sp Try.prog 67 h0_0 0 0, .own 0 5 1 (h0_1.map (cNum .u8))]] _ 0 [.sp Try.prog 67 h0_0 0 0, .own 0 5 1 (h0_1.map (cNum .u8))] rfl rfl
noncomputable def strings_Builder_WriteString_2 (p1 : (List UInt8)) (h0_0 : Bool) (h0_1 : (List Int)) : Option (Int × Unit × Bool × (List Int)) :=
  strings_Builder_copyCheck_2 h0_0 h0_1 >>= fun x1 =>
  appL 1 h0_1 (s2b p1) >>= fun x2 =>
  some ((p1.length : Int), (), x1, x2)
set_option maxRecDepth 100000 in
set_option maxHeartbeats 4000000 in
theorem strings_Builder_WriteString_2_ok : ∀ (p1 : (List UInt8)) (h0_0 : Bool) (h0_1 : (List Int)) (o : Int × Unit × Bool × (List Int)), strings_Builder_WriteString_2 p1 h0_0 h0_1 = some o → CallOK Try.prog 44 [.ptr 0 0, .p (sV p1)] ⟨[[.sp Try.prog 67 h0_0 0 0, .own 0 5 1 (h0_1.map (cNum .u8))]], [(h0_1.map (cNum .u8)).length]⟩ (t_strings_Builder_WriteString_2 o) ⟨[[.sp Try.prog 67 o.2.2.1 0 0, .own 0 5 1 (o.2.2.2.map (cNum .u8))]], [(o.2.2.2.map (cNum .u8)).length]⟩ := by
  intro p1 h0_0 h0_1 o h
  unfold strings_Builder_WriteString_2 at h
  refine CallOK.ofB mixed tbOk strings_Builder_WriteString_2_lv Try.func44 rfl (by kernel_rfl) (Nat.le_of_ble_eq_true rfl) rfl rfl rfl ?_
  refine st_callc _ _ h (fun x1 hy => ((strings_Builder_copyCheck_2_ok h0_0 h0_1 x1 hy).fr [0] [0] rfl rfl rfl)) (fun x1 hy h => ?_)
  refine st_appso (a := h0_1) (b := p1) h rfl (fun x2 hi h => ?_)
  refine vrfl ?_
  refine Exists.intro _ (And.intro (Le.refl _ _ _) ?_)
  exact st_retc (t := t_strings_Builder_WriteString_2) (ss := fun o => ⟨[[.sp Try.prog 67 o.2.2.1 0 0, .own 0 5 1 (o.2.2.2.map (cNum .u8))]], [(o.2.2.2.map (cNum .u8)).length]⟩) h ⟨[0], rfl, .refl _, .refl _, rfl⟩
noncomputable def uri_Text_1_L1 (p0 : Bool) (p1 : (List (List UInt8))) (v9 : Int) (h0_0_ : Bool) (h0_1 : (List Int)) : Option ((Bool × (List Int))) :=
  if (decide (v9 < (p1.length : Int))) then
    idx p1 v9 >>= fun x2 =>
    if p0 then
      strings_Builder_WriteString_2 x2 h0_0_ h0_1 >>= fun x3 =>
      uri_Text_1_L1 p0 p1 (wr (v9 + 1)) x3.2.2.1 x3.2.2.2
    else
      uri_Text_1_L1 p0 p1 (wr (v9 + 1)) h0_0_ h0_1
  else
    some (h0_0_, h0_1)
  partial_fixpoint
set_option maxRecDepth 100000 in
set_option maxHeartbeats 4000000 in
theorem uri_Text_1_L1_grp : ∀ (p0 : Bool) (p1 : (List (List UInt8))), (∀ (v9 : Int) (h0_0_ : Bool) (h0_1 : (List Int)) (o1 : (Bool × (List Int))), uri_Text_1_L1 p0 p1 v9 h0_0_ h0_1 = some o1 → TL (1, 0) Try.prog 17 uri_Text_1_L1_c (JP1 (1, 0) 17 o1 (.exit 0) (uri_Text_1_L1_x0 p0 p1)) (uri_Text_1_L1_st p0 p1 v9 h0_0_ h0_1)) := by
  intro p0 p1
  refine uri_Text_1_L1.partial_correctness p0 p1 _ ?_
  intro uri_Text_1_L1' ih_uri_Text_1_L1 v9 h0_0_ h0_1 o1 h
  refine TL.round (bwp_sound mixed tbOk (lv := uri_Text_1_lv) _ _ _ ?_)
  refine st_test h (fun hb h => ?_) (fun hb h => ?_)
  · refine st_idx (l := p1) (c := cStr) (c' := cStr) h (fun _ => rfl) (fun _ => rfl) (by decide) (fun x2 hi h => ?_)
    refine st_test h (fun hb h => ?_) (fun hb h => ?_)
    · refine st_callc _ _ h (fun x3 hy => ((strings_Builder_WriteString_2_ok x2 h0_0_ h0_1 x3 hy).fr [0] [0] rfl rfl rfl)) (fun x3 hy h => ?_)
      refine TL.le (τ := uri_Text_1_L1_st p0 p1 (wr (v9 + 1)) x3.2.2.1 x3.2.2.2) ?_ ((ih_uri_Text_1_L1 (wr (v9 + 1)) x3.2.2.1 x3.2.2.2 _ h))
      exact Le.tow 1 1 rfl (.cons rfl (.refl _) (.cons rfl (.refl _) (.cons rfl (.refl _) (.cons rfl (.refl _) (.cons rfl (.refl _) (.nil)))))) (.refl _) rfl
    · refine TL.le (τ := uri_Text_1_L1_st p0 p1 (wr (v9 + 1)) h0_0_ h0_1) ?_ ((ih_uri_Text_1_L1 (wr (v9 + 1)) h0_0_ h0_1 _ h))
      exact Le.tow 1 1 rfl (.cons rfl (.refl _) (.cons rfl (.refl _) (.cons rfl (.refl _) (.cons rfl (.refl _) (.cons rfl (.refl _) (.nil)))))) (.refl _) rfl
  · exact JP1.a h (Le.tow 1 1 rfl (.nil) (.refl _) rfl)
theorem uri_Text_1_L1_ok : ∀ (p0 : Bool) (p1 : (List (List UInt8))) (v9 : Int) (h0_0_ : Bool) (h0_1 : (List Int)) (o1 : (Bool × (List Int))), uri_Text_1_L1 p0 p1 v9 h0_0_ h0_1 = some o1 → TL (1, 0) Try.prog 17 uri_Text_1_L1_c (JP1 (1, 0) 17 o1 (.exit 0) (uri_Text_1_L1_x0 p0 p1)) (uri_Text_1_L1_st p0 p1 v9 h0_0_ h0_1) := fun p0 p1 v9 h0_0_ h0_1 o1 h => (uri_Text_1_L1_grp p0 p1) v9 h0_0_ h0_1 o1 h
noncomputable def uri_Text_1 (p0 : Bool) (p1 : (List (List UInt8))) (h0_0 : Bool) : Option (Bool × (List Int)) :=
  (uri_Text_1_L1 p0 p1 0 h0_0 []) >>= fun o1 =>
  some (o1.1, o1.2)
set_option maxRecDepth 100000 in
set_option maxHeartbeats 4000000 in
theorem uri_Text_1_ok : ∀ (p0 : Bool) (p1 : (List (List UInt8))) (h0_0 : Bool) (o : Bool × (List Int)), uri_Text_1 p0 p1 h0_0 = some o → CallOK Try.prog 43 [.p (bV p0), .p (.sl false (p1.map cStr)), .ptr 0 0] ⟨[[.sp Try.prog 67 h0_0 0 0, .p (.sl true [])]], []⟩ (t_uri_Text_1 o) ⟨[[.sp Try.prog 67 o.1 0 0, .own 0 5 1 (o.2.map (cNum .u8))]], [(o.2.map (cNum .u8)).length]⟩ := by
  intro p0 p1 h0_0 o h
  unfold uri_Text_1 at h
  refine CallOK.ofB mixed tbOk uri_Text_1_lv Try.func43 rfl (by kernel_rfl) (Nat.le_of_ble_eq_true rfl) rfl rfl rfl ?_
  refine view (lenMap _ _) rfl ?_
  refine st_bind h (fun o1 ho hk => ?_)
  refine Exists.intro (JP1 _ _ o1 (.exit 0) (uri_Text_1_L1_x0 p0 p1)) (And.intro (T_le (τ := uri_Text_1_L1_st p0 p1 0 h0_0 []) ?_ (TL.loop (uri_Text_1_L1_ok p0 p1 0 h0_0 [] o1 ho))) (join1 ?_))
  · exact (Le.ownH 0 1 5 1 rfl rfl sizeNil).trans (Le.tow 1 1 rfl (.cons rfl (.refl _) (.cons rfl (.refl _) (.cons rfl (.refl _) (.cons rfl (.refl _) (.cons rfl (.refl _) (.nil)))))) (.refl _) rfl)
  have h := hk
  refine Exists.intro _ (And.intro (Le.refl _ _ _) ?_)
  exact st_retc (t := t_uri_Text_1) (ss := fun o => ⟨[[.sp Try.prog 67 o.1 0 0, .own 0 5 1 (o.2.map (cNum .u8))]], [(o.2.map (cNum .u8)).length]⟩) h ⟨[0], rfl, .refl _, .refl _, rfl⟩
noncomputable def uri_Text_1_2_L1 (p0 : Bool) (p1 : (List (List UInt8))) (v9 : Int) (h0_0_ : Bool) (h0_1_ : (List Int)) : Option ((Bool × (List Int))) :=
  if (decide (v9 < (p1.length : Int))) then
    idx p1 v9 >>= fun x2 =>
    if p0 then
      strings_Builder_WriteString_2 x2 h0_0_ h0_1_ >>= fun x3 =>
      uri_Text_1_2_L1 p0 p1 (wr (v9 + 1)) x3.2.2.1 x3.2.2.2
    else
      uri_Text_1_2_L1 p0 p1 (wr (v9 + 1)) h0_0_ h0_1_
  else
    some (h0_0_, h0_1_)
  partial_fixpoint
set_option maxRecDepth 100000 in
set_option maxHeartbeats 4000000 in
theorem uri_Text_1_2_L1_grp : ∀ (p0 : Bool) (p1 : (List (List UInt8))), (∀ (v9 : Int) (h0_0_ : Bool) (h0_1_ : (List Int)) (o1 : (Bool × (List Int))), uri_Text_1_2_L1 p0 p1 v9 h0_0_ h0_1_ = some o1 → TL (1, 1) Try.prog 17 uri_Text_1_2_L1_c (JP1 (1, 1) 17 o1 (.exit 0) (uri_Text_1_2_L1_x0 p0 p1)) (uri_Text_1_2_L1_st p0 p1 v9 h0_0_ h0_1_)) := by
  intro p0 p1
  refine uri_Text_1_2_L1.partial_correctness p0 p1 _ ?_
  intro uri_Text_1_2_L1' ih_uri_Text_1_2_L1 v9 h0_0_ h0_1_ o1 h
  refine TL.round (bwp_sound mixed tbOk (lv := uri_Text_1_2_lv) _ _ _ ?_)
  refine st_test h (fun hb h => ?_) (fun hb h => ?_)
  · refine st_idx (l := p1) (c := cStr) (c' := cStr) h (fun _ => rfl) (fun _ => rfl) (by decide) (fun x2 hi h => ?_)
    refine st_test h (fun hb h => ?_) (fun hb h => ?_)
    · refine st_callc _ _ h (fun x3 hy => ((strings_Builder_WriteString_2_ok x2 h0_0_ h0_1_ x3 hy).fr [0] [0] rfl rfl rfl)) (fun x3 hy h => ?_)
      refine TL.le (τ := uri_Text_1_2_L1_st p0 p1 (wr (v9 + 1)) x3.2.2.1 x3.2.2.2) ?_ ((ih_uri_Text_1_2_L1 (wr (v9 + 1)) x3.2.2.1 x3.2.2.2 _ h))
      exact Le.tow 1 1 rfl (.cons rfl (.refl _) (.cons rfl (.refl _) (.cons rfl (.refl _) (.cons rfl (.refl _) (.cons rfl (.refl _) (.nil)))))) (.refl _) rfl
    · refine TL.le (τ := uri_Text_1_2_L1_st p0 p1 (wr (v9 + 1)) h0_0_ h0_1_) ?_ ((ih_uri_Text_1_2_L1 (wr (v9 + 1)) h0_0_ h0_1_ _ h))
      exact Le.tow 1 1 rfl (.cons rfl (.refl _) (.cons rfl (.refl _) (.cons rfl (.refl _) (.cons rfl (.refl _) (.cons rfl (.refl _) (.nil)))))) (.refl _) rfl
  · exact JP1.a h (Le.tow 1 1 rfl (.nil) (.refl _) rfl)
theorem uri_Text_1_2_L1_ok : ∀ (p0 : Bool) (p1 : (List (List UInt8))) (v9 : Int) (h0_0_ : Bool) (h0_1_ : (List Int)) (o1 : (Bool × (List Int))), uri_Text_1_2_L1 p0 p1 v9 h0_0_ h0_1_ = some o1 → TL (1, 1) Try.prog 17 uri_Text_1_2_L1_c (JP1 (1, 1) 17 o1 (.exit 0) (uri_Text_1_2_L1_x0 p0 p1)) (uri_Text_1_2_L1_st p0 p1 v9 h0_0_ h0_1_) := fun p0 p1 v9 h0_0_ h0_1_ o1 h => (uri_Text_1_2_L1_grp p0 p1) v9 h0_0_ h0_1_ o1 h
noncomputable def uri_Text_1_2 (p0 : Bool) (p1 : (List (List UInt8))) (h0_0 : Bool) (h0_1 : (List Int)) : Option (Bool × (List Int)) :=
  (uri_Text_1_2_L1 p0 p1 0 h0_0 h0_1) >>= fun o1 =>
  some (o1.1, o1.2)
set_option maxRecDepth 100000 in
set_option maxHeartbeats 4000000 in
theorem uri_Text_1_2_ok : ∀ (p0 : Bool) (p1 : (List (List UInt8))) (h0_0 : Bool) (h0_1 : (List Int)) (o : Bool × (List Int)), uri_Text_1_2 p0 p1 h0_0 h0_1 = some o → CallOK Try.prog 43 [.p (bV p0), .p (.sl false (p1.map cStr)), .ptr 0 0] ⟨[[.sp Try.prog 67 h0_0 0 0, .own 0 5 1 (h0_1.map (cNum .u8))]], [(h0_1.map (cNum .u8)).length]⟩ (t_uri_Text_1_2 o) ⟨[[.sp Try.prog 67 o.1 0 0, .own 0 5 1 (o.2.map (cNum .u8))]], [(o.2.map (cNum .u8)).length]⟩ := by
  intro p0 p1 h0_0 h0_1 o h
  unfold uri_Text_1_2 at h
  refine CallOK.ofB mixed tbOk uri_Text_1_2_lv Try.func43 rfl (by kernel_rfl) (Nat.le_of_ble_eq_true rfl) rfl rfl rfl ?_
  refine view (lenMap _ _) rfl ?_
  refine st_bind h (fun o1 ho hk => ?_)
  refine Exists.intro (JP1 _ _ o1 (.exit 0) (uri_Text_1_2_L1_x0 p0 p1)) (And.intro (T_le (τ := uri_Text_1_2_L1_st p0 p1 0 h0_0 h0_1) ?_ (TL.loop (uri_Text_1_2_L1_ok p0 p1 0 h0_0 h0_1 o1 ho))) (join1 ?_))
  · exact Le.tow 1 1 rfl (.cons rfl (.refl _) (.cons rfl (.refl _) (.cons rfl (.refl _) (.cons rfl (.refl _) (.cons rfl (.refl _) (.nil)))))) (.refl _) rfl
  have h := hk
  refine Exists.intro _ (And.intro (Le.refl _ _ _) ?_)
  exact st_retc (t := t_uri_Text_1_2) (ss := fun o => ⟨[[.sp Try.prog 67 o.1 0 0, .own 0 5 1 (o.2.map (cNum .u8))]], [(o.2.map (cNum .u8)).length]⟩) h ⟨[0], rfl, .refl _, .refl _, rfl⟩
noncomputable def uri_Text (p0 : uri_Uri) : Option ((List UInt8)) :=
  uri_Text_1 (!(p0.Scheme == [])) ([p0.Scheme, [58]]) false >>= fun x1 =>
  uri_Text_1_2 p0.Auth ([[47, 47]]) x1.1 x1.2 >>= fun x2 =>
  ( if p0.Auth then
      uri_Text_1_2 p0.HasUser ([p0.User, [64]]) x2.1 x2.2 >>= fun x4 =>
      some (x4.1, x4.2)
    else
      uri_Text_1_2 false ([p0.User, [64]]) x2.1 x2.2 >>= fun x5 =>
      some (x5.1, x5.2) : Option ((Bool × (List Int)))) >>= fun o3 =>
  uri_Text_1_2 p0.Auth [p0.Host] o3.1 o3.2 >>= fun x6 =>
  ( if p0.Auth then
      uri_Text_1_2 p0.HasPort ([[58], p0.Port]) x6.1 x6.2 >>= fun x8 =>
      some (x8.1, x8.2)
    else
      uri_Text_1_2 false ([[58], p0.Port]) x6.1 x6.2 >>= fun x9 =>
      some (x9.1, x9.2) : Option ((Bool × (List Int)))) >>= fun o7 =>
  uri_Text_1_2 true [p0.Path] o7.1 o7.2 >>= fun x10 =>
  uri_Text_1_2 p0.HasQuery ([[63], p0.Query]) x10.1 x10.2 >>= fun x11 =>
  uri_Text_1_2 p0.HasFrag ([[35], p0.Frag]) x11.1 x11.2 >>= fun x12 =>
  strings_Builder_String_2 x12.1 x12.2 >>= fun x13 =>
  some x13
set_option maxRecDepth 100000 in
set_option maxHeartbeats 4000000 in
theorem uri_Text_ok : ∀ (p0 : uri_Uri) (o : (List UInt8)), uri_Text p0 = some o → PCall Try.prog 14 [.agg [sV p0.Scheme, sV p0.User, sV p0.Host, sV p0.Port, sV p0.Path, sV p0.Query, sV p0.Frag, bV p0.Auth, bV p0.HasUser, bV p0.HasPort, bV p0.HasQuery, bV p0.HasFrag]] (t_uri_Text o) := by
  intro p0 o h
  unfold uri_Text at h
  refine PCall.ofB mixed tbOk uri_Text_lv Try.func14 rfl (by kernel_rfl) (Nat.le_of_ble_eq_true rfl) ?_
  refine st_callc _ _ h (fun x1 hy => ((uri_Text_1_ok (!(p0.Scheme == [])) ([p0.Scheme, [58]]) false x1 hy).fr [1] [] rfl rfl rfl).weakC (.cons (.refl _) (.cons (.p (.not)) (.cons (.refl _) (.nil))))) (fun x1 hy h => ?_)
  refine st_callc _ _ h (fun x2 hy => ((uri_Text_1_2_ok p0.Auth ([[47, 47]]) x1.1 x1.2 x2 hy).fr [1] [0] rfl rfl rfl).weakC (.cons (.refl _) (.cons (.p (.not)) (.cons (.refl _) (.nil))))) (fun x2 hy h => ?_)
  refine st_bind h (fun o3 ho hk => ?_)
  refine Exists.intro (JP1 _ _ o3 .normal (uri_Text_J0_0 p0)) (And.intro ?_ (join1 ?_))
  · have h := ho
    refine st_test h (fun hb h => ?_) (fun hb h => ?_)
    · refine st_callc _ _ h (fun x4 hy => ((uri_Text_1_2_ok p0.HasUser ([p0.User, [64]]) x2.1 x2.2 x4 hy).fr [1] [0] rfl rfl rfl).weakC (.cons (.refl _) (.cons (.p (.not)) (.cons (.refl _) (.nil))))) (fun x4 hy h => ?_)
      exact JP1.a h (Le.tow 2 1 rfl (.cons rfl (.refl _) (.cons rfl (.refl _) (.cons rfl (.refl _) (.nil)))) (.refl _) rfl)
    · refine st_callc _ _ h (fun x5 hy => ((uri_Text_1_2_ok false ([p0.User, [64]]) x2.1 x2.2 x5 hy).fr [1] [0] rfl rfl rfl).weakC (.cons (.refl _) (.cons (.p (.not)) (.cons (.refl _) (.nil))))) (fun x5 hy h => ?_)
      exact JP1.a h (Le.tow 2 1 rfl (.cons rfl (.refl _) (.cons rfl (.refl _) (.cons rfl (.refl _) (.nil)))) (.refl _) rfl)
  · have h := hk
    refine st_callc _ _ h (fun x6 hy => ((uri_Text_1_2_ok p0.Auth [p0.Host] o3.1 o3.2 x6 hy).fr [1] [0] rfl rfl rfl).weakC (.cons (.refl _) (.cons (.p (.not)) (.cons (.refl _) (.nil))))) (fun x6 hy h => ?_)
    refine st_bind h (fun o7 ho hk => ?_)
    refine Exists.intro (JP1 _ _ o7 .normal (uri_Text_J1_0 p0)) (And.intro ?_ (join1 ?_))
    · have h := ho
      refine st_test h (fun hb h => ?_) (fun hb h => ?_)
      · refine st_callc _ _ h (fun x8 hy => ((uri_Text_1_2_ok p0.HasPort ([[58], p0.Port]) x6.1 x6.2 x8 hy).fr [1] [0] rfl rfl rfl).weakC (.cons (.refl _) (.cons (.p (.not)) (.cons (.refl _) (.nil))))) (fun x8 hy h => ?_)
        exact JP1.a h (Le.tow 2 1 rfl (.cons rfl (.refl _) (.cons rfl (.refl _) (.cons rfl (.refl _) (.nil)))) (.refl _) rfl)
      · refine st_callc _ _ h (fun x9 hy => ((uri_Text_1_2_ok false ([[58], p0.Port]) x6.1 x6.2 x9 hy).fr [1] [0] rfl rfl rfl).weakC (.cons (.refl _) (.cons (.p (.not)) (.cons (.refl _) (.nil))))) (fun x9 hy h => ?_)
        exact JP1.a h (Le.tow 2 1 rfl (.cons rfl (.refl _) (.cons rfl (.refl _) (.cons rfl (.refl _) (.nil)))) (.refl _) rfl)
    · have h := hk
      refine st_callc _ _ h (fun x10 hy => ((uri_Text_1_2_ok true [p0.Path] o7.1 o7.2 x10 hy).fr [1] [0] rfl rfl rfl).weakC (.cons (.refl _) (.cons (.p (.not)) (.cons (.refl _) (.nil))))) (fun x10 hy h => ?_)
      refine st_callc _ _ h (fun x11 hy => ((uri_Text_1_2_ok p0.HasQuery ([[63], p0.Query]) x10.1 x10.2 x11 hy).fr [1] [0] rfl rfl rfl).weakC (.cons (.refl _) (.cons (.p (.not)) (.cons (.refl _) (.nil))))) (fun x11 hy h => ?_)
      refine st_callc _ _ h (fun x12 hy => ((uri_Text_1_2_ok p0.HasFrag ([[35], p0.Frag]) x11.1 x11.2 x12 hy).fr [1] [0] rfl rfl rfl).weakC (.cons (.refl _) (.cons (.p (.not)) (.cons (.refl _) (.nil))))) (fun x12 hy h => ?_)
      refine st_callc _ _ h (fun x13 hy => ((strings_Builder_String_2_ok x12.1 x12.2 x13 hy).fr [1] [0] rfl rfl rfl)) (fun x13 hy h => ?_)
      refine st_ret (t := t_uri_Text) h ?_
      exact .refl _
noncomputable def nunciolaw12_UriSplits (p0 : (List UInt8)) : Option (Bool) :=
  nunciolaw12_few p0 >>= fun x1 =>
  uri_Split x1 >>= fun x2 =>
  R12_Split x1 >>= fun x3 =>
  ( if (x2.2 == x3.2) then
      nunciolaw12_its x2.1 >>= fun x5 =>
      if ((x5.Scheme == x3.1.Scheme) && ((x5.User == x3.1.User) && ((x5.Host == x3.1.Host) && ((x5.Port == x3.1.Port) && ((x5.Path == x3.1.Path) && ((x5.Query == x3.1.Query) && ((x5.Frag == x3.1.Frag) && ((x5.Auth == x3.1.Auth) && ((x5.HasUser == x3.1.HasUser) && ((x5.HasPort == x3.1.HasPort) && ((x5.HasQuery == x3.1.HasQuery) && ((x5.HasFrag == x3.1.HasFrag) && true)))))))))))) then
        if (x2.2 != 0) then
          nunciolaw12_awake >>= fun x6 =>
          some x6
        else
          uri_Text x2.1 >>= fun x7 =>
          if (x7 == x1) then
            nunciolaw12_awake >>= fun x8 =>
            some x8
          else
            some false
      else
        some false
    else
      some false : Option (Bool)) >>= fun o4 =>
  some o4
set_option maxRecDepth 100000 in
set_option maxHeartbeats 4000000 in
theorem nunciolaw12_UriSplits_ok : ∀ (p0 : (List UInt8)) (o : Bool), nunciolaw12_UriSplits p0 = some o → PCall Try.prog 3 [sV p0] (t_nunciolaw12_UriSplits o) := by
  intro p0 o h
  unfold nunciolaw12_UriSplits at h
  refine PCall.ofB mixed tbOk nunciolaw12_UriSplits_lv Try.func3 rfl (by kernel_rfl) (Nat.le_of_ble_eq_true rfl) ?_
  refine st_call [sV p0] t_nunciolaw12_few h (fun x1 hy => (nunciolaw12_few_ok p0 x1 hy)) (fun x1 hy h => ?_)
  refine st_call [sV x1] t_uri_Split h (fun x2 hy => (uri_Split_ok x1 x2 hy)) (fun x2 hy h => ?_)
  refine st_call [sV x1] t_R12_Split h (fun x3 hy => (R12_Split_ok x1 x3 hy)) (fun x3 hy h => ?_)
  refine st_bind h (fun o4 ho hk => ?_)
  refine Exists.intro (JP1 _ _ o4 .normal (nunciolaw12_UriSplits_J0_0 x2 x3)) (And.intro ?_ (join1 ?_))
  · have h := ho
    refine And.intro (by decide +kernel) (And.intro rfl ?_)
    refine st_test h (fun hb h => ?_) (fun hb h => ?_)
    · refine st_calld [.agg [sV x2.1.Scheme, sV x2.1.User, sV x2.1.Host, sV x2.1.Port, sV x2.1.Path, sV x2.1.Query, sV x2.1.Frag, bV x2.1.Auth, bV x2.1.HasUser, bV x2.1.HasPort, bV x2.1.HasQuery, bV x2.1.HasFrag]] t_nunciolaw12_its h (fun x5 hy => (nunciolaw12_its_ok x2.1 x5 hy)) (fun x5 hy h => ?_)
      refine And.intro rfl ?_
      refine st_test h (fun hb h => ?_) (fun hb h => ?_)
      · refine st_test h (fun hb h => ?_) (fun hb h => ?_)
        · refine bT ?_
          refine st_calld [] t_nunciolaw12_awake h (fun x6 hy => (nunciolaw12_awake_ok x6 hy)) (fun x6 hy h => ?_)
          exact JP1.a h (Le.tow 2 0 rfl (.cons rfl (.refl _) (.nil)) (.refl _) rfl)
        · refine st_calld [.agg [sV x2.1.Scheme, sV x2.1.User, sV x2.1.Host, sV x2.1.Port, sV x2.1.Path, sV x2.1.Query, sV x2.1.Frag, bV x2.1.Auth, bV x2.1.HasUser, bV x2.1.HasPort, bV x2.1.HasQuery, bV x2.1.HasFrag]] t_uri_Text h (fun x7 hy => (uri_Text_ok x2.1 x7 hy)) (fun x7 hy h => ?_)
          refine st_test h (fun hb h => ?_) (fun hb h => ?_)
          · refine st_calld [] t_nunciolaw12_awake h (fun x8 hy => (nunciolaw12_awake_ok x8 hy)) (fun x8 hy h => ?_)
            exact JP1.a h (Le.tow 2 0 rfl (.cons rfl (.refl _) (.nil)) (.refl _) rfl)
          · exact JP1.a h (Le.tow 2 0 rfl (.cons rfl (.refl _) (.nil)) (.refl _) rfl)
      · refine bF ?_
        exact JP1.a h (Le.tow 2 0 rfl (.cons rfl (.refl _) (.nil)) (.refl _) rfl)
    · refine bF ?_
      refine bF ?_
      exact JP1.a h (Le.tow 2 0 rfl (.cons rfl (.refl _) (.nil)) (.refl _) rfl)
  · have h := hk
    refine st_ret (t := t_nunciolaw12_UriSplits) h ?_
    exact .refl _
end Go.Proofs.Ytlhjieapkcnghaa
end
