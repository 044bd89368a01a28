/- The proof's texts, part 8 of 11: the walks by a logic in which data are by value, the plain laws, and at the end the law, for every input. -/
import Derived.Test.YtagokkpnfceidaaDoorMgParseRemarks7

section
set_option linter.unusedVariables false
set_option linter.unusedSimpArgs false
set_option maxRecDepth 100000
set_option maxHeartbeats 4000000
namespace Go.Proofs.YtagokkpnfceidaaDoor
open Go.RowKit
structure Qab where
 Kind:Int
 Name:(List UInt8)
 Text:(List UInt8)
 N:Int
 L:(List Qab)
 Then:(List Qab)
 Else:(List Qab)
mutual
noncomputable def Qae:Qab→List V
 | ⟨x0,x1,x2,x3,x4,x5,x6⟩=>[iV x0,sV x1,sV x2,iV x3,.sl false (Qf0 x4),.sl false (Qf0 x5),.sl false (Qf0 x6)]
noncomputable def Qf0:List Qab→List (List V)
 | []=>[]
 | x::r=>Qae x::Qf0 r
end
theorem Qju:∀ l:List Qab,Qf0 l=l.map Qae
 | []=>rfl
 | x::r=>by rw[Qf0,Qju r]; rfl
noncomputable def Qdq (x:Qab):List V:=[iV x.Kind,sV x.Name,sV x.Text,iV x.N,.sl false (x.L.map Qae),.sl false (x.Then.map Qae),.sl false (x.Else.map Qae)]
theorem Qau (x:Qab):Qae x=Qdq x:=by cases x; simp[Qae,Qdq,Qju]
structure Qaa where
 Kind:Int
 Text:(List UInt8)
 N:Int
 From:Int
 To:Int
noncomputable def Qac (x:Qaa):List V:=[iV x.Kind,sV x.Text,iV x.N,iV x.From,iV x.To]
structure Qgr where
 c_:Int
 k_:Int
noncomputable def Qdr (y:Bool):D :=.p (bV y)
noncomputable def Qoo:List (Nat×List Nat):=[(0,[0,1]),(1,[0,1,12]),(2,[4]),(3,[0,1,5]),(4,[0,1,5,16]),(5,[0,1,5]),(6,[0,1,5,6,7]),(7,[0,1,5,76]),(8,[4]),(9,[4]),(1000004,[0,1,5]),(3000006,[]),(3000007,[]),(6000006,[8,9])]
noncomputable def Qrf (p0:(List Qab)) (p1:(List Qab)) (v5:Int) (o4:Int×(List UInt8)×(List UInt8)×Int×(List Qab)×(List Qab)×(List Qab)×Int×(List UInt8)×(List UInt8)×Int×(List Qab)×(List Qab)×(List Qab)):St:=⟨[(0,.p (.sl false (p0.map Qae))),(1,.p (.sl false (p1.map Qae))),(5,.p (iV v5)),(6,.ptr 0 0),(7,.ptr 1 0)],⟨[[.p (iV o4.1),.p (sV o4.2.1),.p (sV o4.2.2.1),.p (iV o4.2.2.2.1),.p (.sl false (o4.2.2.2.2.1.map Qae)),.p (.sl false (o4.2.2.2.2.2.1.map Qae)),.p (.sl false (o4.2.2.2.2.2.2.1.map Qae))],[.p (iV o4.2.2.2.2.2.2.2.1),.p (sV o4.2.2.2.2.2.2.2.2.1),.p (sV o4.2.2.2.2.2.2.2.2.2.1),.p (iV o4.2.2.2.2.2.2.2.2.2.2.1),.p (.sl false (o4.2.2.2.2.2.2.2.2.2.2.2.1.map Qae)),.p (.sl false (o4.2.2.2.2.2.2.2.2.2.2.2.2.1.map Qae)),.p (.sl false (o4.2.2.2.2.2.2.2.2.2.2.2.2.2.map Qae))]],[]⟩⟩
noncomputable def Qrg (p0:(List Qab)) (p1:(List Qab)) (v5:Int) (o4:Int×(List UInt8)×(List UInt8)×Int×(List Qab)×(List Qab)×(List Qab)×Int×(List UInt8)×(List UInt8)×Int×(List Qab)×(List Qab)×(List Qab)) (o7:Bool):St:=⟨[(0,.p (.sl false (p0.map Qae))),(1,.p (.sl false (p1.map Qae))),(5,.p (iV v5)),(76,.p (bV o7))],⟨[[.p (iV o4.1),.p (sV o4.2.1),.p (sV o4.2.2.1),.p (iV o4.2.2.2.1),.p (.sl false (o4.2.2.2.2.1.map Qae)),.p (.sl false (o4.2.2.2.2.2.1.map Qae)),.p (.sl false (o4.2.2.2.2.2.2.1.map Qae))],[.p (iV o4.2.2.2.2.2.2.2.1),.p (sV o4.2.2.2.2.2.2.2.2.1),.p (sV o4.2.2.2.2.2.2.2.2.2.1),.p (iV o4.2.2.2.2.2.2.2.2.2.2.1),.p (.sl false (o4.2.2.2.2.2.2.2.2.2.2.2.1.map Qae)),.p (.sl false (o4.2.2.2.2.2.2.2.2.2.2.2.2.1.map Qae)),.p (.sl false (o4.2.2.2.2.2.2.2.2.2.2.2.2.2.map Qae))]],[]⟩⟩
noncomputable def Qh9 (p0:(List Qab)) (p1:(List Qab)) (v5:Int):St:=⟨[(0,.p (.sl false (p0.map Qae))),(1,.p (.sl false (p1.map Qae))),(5,.p (iV v5))],⟨[],[]⟩⟩
noncomputable def Qk4 (p0:(List Qab)) (p1:(List Qab)) (y2:Unit):St:=⟨[],⟨[],[]⟩⟩
noncomputable def Qk5 (p0:(List Qab)) (p1:(List Qab)) (y3:Unit):St:=⟨[(4,.p (bV false))],⟨[],[]⟩⟩
noncomputable def Qrh:Code:=((loopsOf (Tryd.f23.body.getD .skip)).getD 0 .skip)
noncomputable def Qbz (y:Bool):D :=.p (bV y)
noncomputable def Qfg:List (Nat×List Nat):=[(0,[0,1]),(1,[4]),(3000001,[])]
noncomputable def Qez  (o1:Bool):St:=⟨[(4,.p (bV o1))],⟨[],[]⟩⟩
noncomputable def Qd0 (y:Int):D :=.p (iV y)
noncomputable def Qjv (y:(List Qaa)×Int×Int):D :=.tup [.p (.sl false (y.1.map Qac)),.p (iV y.2.1),.p (iV y.2.2)]
noncomputable def Qa6:List (Nat×List Nat):=[(0,[0]),(1,[0,9]),(2,[2,3,4]),(3,[0,5]),(4,[0,5]),(5,[0,5,6]),(6,[0,5,6,21]),(7,[0,5,6]),(8,[0,5,6,30]),(9,[0,5]),(10,[0,5,52]),(11,[2,3,4]),(12,[0,5]),(13,[0,5]),(14,[0,5,66]),(15,[0,5,6]),(16,[0,5,6,75]),(17,[2,3,4]),(18,[0,5]),(19,[0,5]),(20,[0,5,93]),(21,[0,5]),(22,[0,5,107]),(23,[2,3,4]),(2006005,[]),(2008005,[]),(2014015,[]),(3000022,[]),(5000009,[14])]
noncomputable def Qop (p0:(List UInt8)) (w0:Int×(List Qaa)) (o4:Int):St:=⟨[(0,.p (sV p0)),(5,.ptr 0 0),(6,.p (iV o4))],⟨[[.p (sV p0),.p (iV w0.1),.own 0 106 5 (w0.2.map Qac)]],[(w0.2.map Qac).length]⟩⟩
noncomputable def Qoq (p0:(List UInt8)) (o5:Int×(List Qaa)):St:=⟨[(0,.p (sV p0)),(5,.ptr 0 0)],⟨[[.p (sV p0),.p (iV o5.1),.own 0 106 5 (o5.2.map Qac)]],[(o5.2.map Qac).length]⟩⟩
noncomputable def Qor (p0:(List UInt8)) (x8:Int×(List Qaa)) (x9:Int) (y11:Int):St:=⟨[(0,.p (sV p0)),(5,.ptr 0 0)],⟨[[.p (sV p0),.p (iV y11),.own 0 106 5 (x8.2.map Qac)]],[(x8.2.map Qac).length]⟩⟩
noncomputable def Qos (p0:(List UInt8)) (x8:Int×(List Qaa)) (x9:Int) (y12:Unit):St:=⟨[(2,.p (.sl true [])),(3,.p (iV (p0.length:Int))),(4,.p (iV 7))],⟨[[.p (sV p0),.p (iV x9),.own 0 106 5 (x8.2.map Qac)]],[(x8.2.map Qac).length]⟩⟩
noncomputable def Qot (p0:(List UInt8)) (o19:Bool×Int×(List Qaa)):St:=⟨[(0,.p (sV p0)),(5,.ptr 0 0),(107,.p (bV o19.1))],⟨[[.p (sV p0),.p (iV o19.2.1),.own 0 106 5 (o19.2.2.map Qac)]],[(o19.2.2.map Qac).length]⟩⟩
noncomputable def Qd1 (p0:(List UInt8)) (w0:Int×(List Qaa)):St:=⟨[(0,.p (sV p0)),(5,.ptr 0 0)],⟨[[.p (sV p0),.p (iV w0.1),.own 0 106 5 (w0.2.map Qac)]],[(w0.2.map Qac).length]⟩⟩
noncomputable def Qfh (p0:(List UInt8)) (w1:Int×(List Qaa)):St:=⟨[(0,.p (sV p0)),(5,.ptr 0 0)],⟨[[.p (sV p0),.p (iV w1.1),.own 0 106 5 (w1.2.map Qac)]],[(w1.2.map Qac).length]⟩⟩
noncomputable def Qer (p0:(List UInt8)) (o1:(List Qaa)×Int×Int):St:=⟨[(2,.p (.sl false (o1.1.map Qac))),(3,.p (iV o1.2.1)),(4,.p (iV o1.2.2))],⟨[],[]⟩⟩
noncomputable def Qcy:Code:=((scopesOf (Tryd.f47.body.getD .skip)).getD 0 .skip)
noncomputable def Qhf (y:Bool):D :=.p (bV y)
noncomputable def Qou:List (Nat×List Nat):=[(0,[0]),(1,[0,5,6]),(2,[0,5,6,7]),(3,[0,3,5,6]),(4,[0,5,6,13]),(5,[2]),(6,[0,5,6]),(7,[2]),(1000002,[0,5,6]),(3000007,[])]
noncomputable def Qf8 (p0:(List UInt8)) (v6:Int):St:=⟨[(0,.p (sV p0)),(5,.p (iV (p0.length:Int))),(6,.p (iV v6))],⟨[],[]⟩⟩
noncomputable def Qia (p0:(List UInt8)) (y2:Unit):St:=⟨[(0,.p (sV p0))],⟨[],[]⟩⟩
noncomputable def Qib (p0:(List UInt8)) (y3:Unit):St:=⟨[(2,.p (bV false))],⟨[],[]⟩⟩
noncomputable def Ql1:Code:=((loopsOf (Tryd.f144.body.getD .skip)).getD 0 .skip)
noncomputable def Qri  (o6:Bool):St:=⟨[(2,.p (bV o6))],⟨[],[]⟩⟩
noncomputable def Qf1 (y:Bool):D :=.p (bV y)
noncomputable def Qta:List (Nat×List Nat):=[(0,[0]),(1,[2]),(3000001,[])]
noncomputable def Qpq  (o1:Bool):St:=⟨[(2,.p (bV o1))],⟨[],[]⟩⟩
noncomputable def Qfi (y:Int×Bool):D :=.tup [.p (nV .u8 y.1),.p (bV y.2)]
noncomputable def Qpr:List (Nat×List Nat):=[(0,[0]),(1,[0,4]),(2,[0,4,5]),(3,[2,3]),(4,[0,7]),(5,[2,3]),(6,[2,3]),(3000006,[])]
noncomputable def Qni (p0:Int) (o1:Bool):St:=⟨[(2,.p (nV .u8 p0)),(3,.p (bV o1))],⟨[],[]⟩⟩
noncomputable def Qgg (y:Bool):D :=.p (bV y)
noncomputable def Qrj:List (Nat×List Nat):=[(0,[0]),(1,[2]),(3000001,[])]
noncomputable def Qov  (o1:Bool):St:=⟨[(2,.p (bV o1))],⟨[],[]⟩⟩
noncomputable def Qfx (_:Int):D :=.tup []
noncomputable def Qi0:List (Nat×List Nat):=[(0,[])]
noncomputable def Qel (y:Bool×Int×(List Qaa)):D :=.p (bV y.1)
noncomputable def Qjw:List (Nat×List Nat):=[(0,[0]),(1,[0,3]),(2,[0,3,4,5]),(3,[0,3,4,5,18]),(4,[5]),(5,[2])]
noncomputable def Qho (_:Int×(List Qaa)):D :=.tup []
noncomputable def Qku:List (Nat×List Nat):=[(0,[0,4]),(1,[])]
noncomputable def Qd9 (y:(List UInt8)):D :=.p (sV y)
noncomputable def Qd2:List (Nat×List Nat):=[(0,[0,1,2]),(1,[0,2,7]),(2,[0,2,7,25]),(3,[0,2,7]),(4,[6]),(1000002,[0,2,7]),(3000002,[])]
noncomputable def Qgh (h0_0:(List UInt8)) (h0_1:Int) (h0_2:(List Qaa)) (v7:Int) (o2:Bool):St:=⟨[(0,.ptr 0 0),(2,.fn (.func 109) [] []),(7,.p (iV v7)),(25,.p (bV o2))],⟨[[.p (sV h0_0),.p (iV h0_1),.own 0 106 5 (h0_2.map Qac)]],[(h0_2.map Qac).length]⟩⟩
noncomputable def Qbi (h0_0:(List UInt8)) (h0_1:Int) (h0_2:(List Qaa)) (v7:Int):St:=⟨[(0,.ptr 0 0),(2,.fn (.func 109) [] []),(7,.p (iV v7))],⟨[[.p (sV h0_0),.p (iV h0_1),.own 0 106 5 (h0_2.map Qac)]],[(h0_2.map Qac).length]⟩⟩
noncomputable def Qb5 (h0_0:(List UInt8)) (h0_1:Int) (h0_2:(List Qaa)) (o1:Int):St:=⟨[(0,.ptr 0 0),(7,.p (iV o1))],⟨[[.p (sV h0_0),.p (iV h0_1),.own 0 106 5 (h0_2.map Qac)]],[(h0_2.map Qac).length]⟩⟩
noncomputable def Qda:Code:=((loopsOf (Tryd.f142.body.getD .skip)).getD 0 .skip)
noncomputable def Qd3 (y:(List UInt8)):D :=.p (sV y)
noncomputable def Qdk:List (Nat×List Nat):=[(0,[0,1,2]),(1,[0,2,7]),(2,[0,2,7,25]),(3,[0,2,7]),(4,[6]),(1000002,[0,2,7]),(3000002,[])]
noncomputable def Qf2 (h0_0:(List UInt8)) (h0_1:Int) (h0_2:(List Qaa)) (v7:Int) (o2:Bool):St:=⟨[(0,.ptr 0 0),(2,.fn (.func 111) [] []),(7,.p (iV v7)),(25,.p (bV o2))],⟨[[.p (sV h0_0),.p (iV h0_1),.own 0 106 5 (h0_2.map Qac)]],[(h0_2.map Qac).length]⟩⟩
noncomputable def Qbf (h0_0:(List UInt8)) (h0_1:Int) (h0_2:(List Qaa)) (v7:Int):St:=⟨[(0,.ptr 0 0),(2,.fn (.func 111) [] []),(7,.p (iV v7))],⟨[[.p (sV h0_0),.p (iV h0_1),.own 0 106 5 (h0_2.map Qac)]],[(h0_2.map Qac).length]⟩⟩
noncomputable def Qb0 (h0_0:(List UInt8)) (h0_1:Int) (h0_2:(List Qaa)) (o1:Int):St:=⟨[(0,.ptr 0 0),(7,.p (iV o1))],⟨[[.p (sV h0_0),.p (iV h0_1),.own 0 106 5 (h0_2.map Qac)]],[(h0_2.map Qac).length]⟩⟩
noncomputable def Qcz:Code:=((loopsOf (Tryd.f142.body.getD .skip)).getD 0 .skip)
noncomputable def Qfj (y:Bool×Int×(List Qaa)):D :=.p (bV y.1)
noncomputable def Qhp:List (Nat×List Nat):=[(0,[0]),(1,[0,3]),(2,[0,12,13]),(3,[0,12,13,14]),(4,[0,5,12,13]),(5,[0,5,12,13,27]),(6,[]),(7,[2]),(8,[0,12,13]),(9,[2]),(1000003,[0,12,13])]
noncomputable def Qci (h0_0:(List UInt8)) (h0_1:Int) (h0_2:(List Qaa)) (v13:Int):St:=⟨[(0,.ptr 0 0),(12,.p (.agg [nV .u8 46,iV 7,nV .u8 40,iV 8,nV .u8 41,iV 9,nV .u8 44,iV 10,nV .u8 61,iV 11])),(13,.p (iV v13))],⟨[[.p (sV h0_0),.p (iV h0_1),.own 0 106 5 (h0_2.map Qac)],[.p (nV .u8 46),.p (iV 7),.p (nV .u8 40),.p (iV 8),.p (nV .u8 41),.p (iV 9),.p (nV .u8 44),.p (iV 10),.p (nV .u8 61),.p (iV 11)]],[(h0_2.map Qac).length]⟩⟩
noncomputable def Qdw (h0_0:(List UInt8)) (h0_1:Int) (h0_2:(List Qaa)) (y2:Unit):St:=⟨[],⟨[[.p (sV h0_0),.p (iV h0_1),.own 0 106 5 (h0_2.map Qac)],[.p (nV .u8 46),.p (iV 7),.p (nV .u8 40),.p (iV 8),.p (nV .u8 41),.p (iV 9),.p (nV .u8 44),.p (iV 10),.p (nV .u8 61),.p (iV 11)]],[(h0_2.map Qac).length]⟩⟩
noncomputable def Qdx (h0_0:(List UInt8)) (h0_1:Int) (h0_2:(List Qaa)) (y3:Int×(List Qaa)):St:=⟨[(2,.p (bV true))],⟨[[.p (sV h0_0),.p (iV y3.1),.own 0 106 5 (y3.2.map Qac)],[.p (nV .u8 46),.p (iV 7),.p (nV .u8 40),.p (iV 8),.p (nV .u8 41),.p (iV 9),.p (nV .u8 44),.p (iV 10),.p (nV .u8 61),.p (iV 11)]],[(y3.2.map Qac).length]⟩⟩
noncomputable def Qgi:Code:=((loopsOf (Tryd.f113.body.getD .skip)).getD 0 .skip)
noncomputable def Qd4 (y:Bool×Int×(List Qaa)):D :=.p (bV y.1)
noncomputable def Qhq:List (Nat×List Nat):=[(0,[0]),(1,[0,3]),(2,[0,3,4]),(3,[0,3,4,29]),(4,[0,3,4,5,6]),(5,[0,3,4,5,6,39]),(6,[0,3,4,49]),(7,[2]),(8,[0,3,4,7,8]),(9,[0,3,4,7,62]),(10,[2]),(11,[0,3,4]),(12,[0,3,4]),(13,[0,3,4,6,67]),(14,[2]),(15,[0,3,4,6]),(16,[0,3,4]),(17,[0,3,4,101]),(18,[2]),(19,[]),(20,[2]),(1000003,[0,3,4]),(3000003,[]),(3000013,[]),(5000019,[1,9,1001]),(8000019,[1])]
noncomputable def Qjx (h0_0:(List UInt8)) (h0_1:Int) (h0_2:(List Qaa)) (v4:Int) (h1_0:Bool) (h1_1:(List Int)) (o4:Bool):St:=⟨[(0,.ptr 0 0),(3,.ptr 1 0),(4,.p (iV v4)),(29,.p (bV o4))],⟨[[.p (sV h0_0),.p (iV h0_1),.own 0 106 5 (h0_2.map Qac)],[.sp Tryd.prog 44 h1_0 1 0,.own 1 5 1 (h1_1.map (cNum .u8))]],[(h0_2.map Qac).length,(h1_1.map (cNum .u8)).length]⟩⟩
noncomputable def Qjy (h0_0:(List UInt8)) (h0_1:Int) (h0_2:(List Qaa)) (v4:Int) (h1_0:Bool) (h1_1:(List Int)) (x6:Int×Int) (o10:Bool):St:=⟨[(0,.ptr 0 0),(3,.ptr 1 0),(4,.p (iV v4)),(6,.p (iV x6.2)),(67,.p (bV o10))],⟨[[.p (sV h0_0),.p (iV h0_1),.own 0 106 5 (h0_2.map Qac)],[.sp Tryd.prog 44 h1_0 1 0,.own 1 5 1 (h1_1.map (cNum .u8))]],[(h0_2.map Qac).length,(h1_1.map (cNum .u8)).length]⟩⟩
noncomputable def Qb3 (h0_0:(List UInt8)) (h0_1:Int) (h0_2:(List Qaa)) (v4:Int) (h1_0:Bool) (h1_1:(List Int)):St:=⟨[(0,.ptr 0 0),(3,.ptr 1 0),(4,.p (iV v4))],⟨[[.p (sV h0_0),.p (iV h0_1),.own 0 106 5 (h0_2.map Qac)],[.sp Tryd.prog 44 h1_0 1 0,.own 1 5 1 (h1_1.map (cNum .u8))]],[(h0_2.map Qac).length,(h1_1.map (cNum .u8)).length]⟩⟩
noncomputable def Qdy (h0_0:(List UInt8)) (h0_1:Int) (h0_2:(List Qaa)) (y2:Int×Bool×(List Int)):St:=⟨[(0,.ptr 0 0),(3,.ptr 1 0),(4,.p (iV y2.1))],⟨[[.p (sV h0_0),.p (iV h0_1),.own 0 106 5 (h0_2.map Qac)],[.sp Tryd.prog 44 y2.2.1 1 0,.own 1 5 1 (y2.2.2.map (cNum .u8))]],[(h0_2.map Qac).length,(y2.2.2.map (cNum .u8)).length]⟩⟩
noncomputable def Qdz (h0_0:(List UInt8)) (h0_1:Int) (h0_2:(List Qaa)) (y3:Bool×(List Int)):St:=⟨[(2,.p (bV false))],⟨[[.p (sV h0_0),.p (iV h0_1),.own 0 106 5 (h0_2.map Qac)],[.sp Tryd.prog 44 y3.1 1 0,.own 1 5 1 (y3.2.map (cNum .u8))]],[(h0_2.map Qac).length,(y3.2.map (cNum .u8)).length]⟩⟩
noncomputable def Qgj:Code:=((loopsOf (Tryd.f108.body.getD .skip)).getD 0 .skip)
noncomputable def Qb7 (y:Bool×Int×(List Qaa)):D :=.p (bV y.1)
noncomputable def Qjg:List (Nat×List Nat):=[(0,[0]),(1,[0,3]),(2,[0,3,13]),(3,[2]),(4,[0,3,18]),(5,[2]),(6,[0,27]),(7,[2]),(8,[2]),(3000004,[])]
noncomputable def Qih (h0_0:(List UInt8)) (h0_1:Int) (h0_2:(List Qaa)) (x1:UInt8) (o3:Bool):St:=⟨[(0,.ptr 0 0),(3,.p (nV .u8 (x1.toNat:Int))),(18,.p (bV o3))],⟨[[.p (sV h0_0),.p (iV h0_1),.own 0 106 5 (h0_2.map Qac)]],[(h0_2.map Qac).length]⟩⟩
noncomputable def Qfk (y:Bool×Int×(List Qaa)):D :=.p (bV y.1)
noncomputable def Qlg:List (Nat×List Nat):=[(0,[0]),(1,[0,3]),(2,[0,3,12]),(3,[2]),(4,[]),(5,[2])]
noncomputable def Qbj (y:Bool):D :=.p (bV y)
noncomputable def Qea:List (Nat×List Nat):=[(0,[0,1,2]),(1,[0,1,2]),(2,[0,1,2,7]),(3,[0,1,2,7,8]),(4,[0,1,2,7,8,27]),(5,[0,1,2,7,8]),(6,[0,1,2,7,8,33]),(7,[0,1,2,7,8]),(8,[0,2,9]),(9,[0,9,44]),(10,[0,9]),(11,[0,9,10,11,12]),(12,[0,9,10,11,12,13,14,15]),(13,[0,9,10,11,12,14,67]),(14,[6]),(15,[0,9,10,11,12,14,69]),(16,[6]),(17,[0,10,11,12,14,16,18]),(18,[10,11,12,14,16,18,97]),(19,[6]),(20,[6]),(1000004,[0,1,2,7,8]),(2009005,[]),(3000013,[]),(3000016,[]),(3000018,[]),(3000019,[]),(3000020,[])]
noncomputable def Qa4 (p2:Bool) (x1:(List UInt8)) (x2:(List UInt8)) (v7:(List Int)) (v8:Int):St:=⟨[(0,.p (sV x1)),(1,.p (sV x2)),(2,.p (bV p2)),(7,.own 0 5 1 (v7.map (cNum .u8))),(8,.p (iV v8))],⟨[],[(v7.map (cNum .u8)).length]⟩⟩
noncomputable def Qb8 (p2:Bool) (x1:(List UInt8)) (x2:(List UInt8)) (o3:(List Int)):St:=⟨[(0,.p (sV x1)),(2,.p (bV p2)),(7,.own 0 5 1 (o3.map (cNum .u8)))],⟨[],[(o3.map (cNum .u8)).length]⟩⟩
noncomputable def Qdl:Code:=((loopsOf (Tryd.f8.body.getD .skip)).getD 0 .skip)
noncomputable def Qgs (x1:(List UInt8)) (o3:(List Int)) (o8:(List UInt8)):St:=⟨[(0,.p (sV x1)),(9,.p (sV o8))],⟨[],[(o3.map (cNum .u8)).length]⟩⟩
noncomputable def Qgt (x1:(List UInt8)) (o3:(List Int)) (o8:(List UInt8)) (x9:(List Qab)×Int×Int) (x10:(List Qab)×Int×Int) (o11:Bool):St:=⟨[(0,.p (sV x1)),(9,.p (sV o8)),(10,.p (.sl false (x9.1.map Qae))),(11,.p (iV x9.2.1)),(12,.p (iV x9.2.2)),(14,.p (iV x10.2.1)),(67,.p (bV o11))],⟨[],[(o3.map (cNum .u8)).length]⟩⟩
noncomputable def Qgu (o3:(List Int)) (o13:Bool):St:=⟨[(6,.p (bV o13))],⟨[],[(o3.map (cNum .u8)).length]⟩⟩
noncomputable def Qgv (o3:(List Int)) (x9:(List Qab)×Int×Int) (x10:(List Qab)×Int×Int) (x15:(List Qab)×Int×Int) (o16:Bool):St:=⟨[(10,.p (.sl false (x9.1.map Qae))),(11,.p (iV x9.2.1)),(12,.p (iV x9.2.2)),(14,.p (iV x10.2.1)),(16,.p (.sl false (x15.1.map Qae))),(18,.p (iV x15.2.2)),(97,.p (bV o16))],⟨[],[(o3.map (cNum .u8)).length]⟩⟩
noncomputable def Qgw (o3:(List Int)) (o18:Bool):St:=⟨[(6,.p (bV o18))],⟨[],[(o3.map (cNum .u8)).length]⟩⟩
noncomputable def Qgx (o3:(List Int)) (o20:Bool):St:=⟨[(6,.p (bV o20))],⟨[],[(o3.map (cNum .u8)).length]⟩⟩
noncomputable def Qce (y:Bool):D :=.p (bV y)
noncomputable def Qkv:List (Nat×List Nat):=[(0,[]),(1,[1,3]),(2,[1,3,5,6]),(3,[1,3,5,6,8,9]),(4,[0]),(3000004,[])]
noncomputable def Qjh  (o4:Bool):St:=⟨[(0,.p (bV o4))],⟨[],[]⟩⟩
noncomputable def Qeh (y:(List UInt8)):D :=.p (sV y)
noncomputable def Ql2:List (Nat×List Nat):=[(0,[0]),(1,[2])]
noncomputable def Qf9 (y:Bool):D :=.p (bV y)
noncomputable def Qow:List (Nat×List Nat):=[(0,[0,1,2]),(1,[6]),(3000001,[])]
noncomputable def Qmy  (o1:Bool):St:=⟨[(6,.p (bV o1))],⟨[],[]⟩⟩
noncomputable def Qk6 (y:Int×Bool):D :=.tup [.p (iV y.1),.p (bV y.2)]
noncomputable def Qbo (y:(List Qab)×Int×Int):D :=.tup [.p (.sl false (y.1.map Qae)),.p (iV y.2.1),.p (iV y.2.2)]
noncomputable def Qps:List (Nat×List Nat):=[(0,[1,2,3,4]),(1,[1,2,3,4,5]),(2,[1,2,3,4,5,14]),(3,[2,3,4]),(4,[1,2,3,4,6]),(5,[2,3,4,6]),(6,[2,3,4]),(7,[2,3,4,26]),(8,[2,3,4]),(9,[2,3,4,30]),(10,[2,3,4]),(11,[2,3,4]),(9400003,[]),(9600006,[1]),(9700006,[2,3,4])]
noncomputable def Qe0 (y:(List Qab)×Int):D :=.p (.sl false (y.1.map Qae))
noncomputable def Qg5:List (Nat×List Nat):=[(0,[0]),(1,[0,5]),(2,[2]),(3,[0,3]),(4,[0,3,15]),(5,[0,3]),(6,[3]),(7,[2]),(1000004,[0,3]),(3000004,[]),(9600003,[1]),(9600005,[2]),(9600006,[1])]
noncomputable def Qji (h0_0:(List Qaa)) (v3:(List Qab)) (o8:Bool×Int):St:=⟨[(0,.ptr 0 0),(3,.own 0 1000071 7 (v3.map Qae)),(15,.p (bV o8.1))],⟨[[.p (.sl false (h0_0.map Qac)),.p (iV o8.2)]],[(v3.map Qae).length]⟩⟩
noncomputable def Qde (h0_0:(List Qaa)) (v3:(List Qab)) (h0_1_:Int):St:=⟨[(0,.ptr 0 0),(3,.own 0 1000071 7 (v3.map Qae))],⟨[[.p (.sl false (h0_0.map Qac)),.p (iV h0_1_)]],[(v3.map Qae).length]⟩⟩
noncomputable def Qfl (h0_0:(List Qaa)) (y6:(List Qab)×Int):St:=⟨[(0,.ptr 0 0),(3,.own 0 1000071 7 (y6.1.map Qae))],⟨[[.p (.sl false (h0_0.map Qac)),.p (iV y6.2)]],[(y6.1.map Qae).length]⟩⟩
noncomputable def Qfm (h0_0:(List Qaa)) (y7:Int):St:=⟨[],⟨[[.p (.sl false (h0_0.map Qac)),.p (iV y7)]],[]⟩⟩
noncomputable def Qjj:Code:=((loopsOf (Tryd.f160.body.getD .skip)).getD 0 .skip)
noncomputable def Qem (y:(List Qab)×Int×Int):D :=.tup [.p (.sl false (y.1.map Qae)),.p (iV y.2.1)]
noncomputable def Qbg:List (Nat×List Nat):=[(0,[0,1,2]),(1,[0,1,2,8]),(2,[0,1,2,8,20]),(3,[0,1,2,8,9]),(4,[0,1,2,8,9,10]),(5,[0,1,2,8,9,10,27]),(6,[0,1,2,8,9,10,37]),(7,[0,1,2,8]),(8,[0,1,2,8]),(9,[0,1,2,8]),(10,[0,1,2,8,56]),(11,[0,1,2,8,59]),(12,[8]),(13,[6,7]),(14,[0,1,2,8,68]),(15,[8]),(16,[6,7]),(17,[0,1,2,8]),(18,[8]),(19,[6,7]),(1000002,[0,1,2,8]),(3000006,[]),(3000011,[]),(3000014,[]),(5000007,[2002,2003,2004]),(9000003,[1,0,0,0]),(9000006,[5,0,0,0,6,0,0,0,7,0,0,0]),(9000007,[8,0,0,0,9,0,0,0,10,1,8,0]),(9000008,[5,0,0,0]),(9000017,[4,0,0,0]),(9500013,[]),(9500016,[]),(9500019,[]),(9600009,[1]),(9600012,[1]),(9600015,[1]),(9600017,[2]),(9600018,[3]),(9800007,[8]),(7000007,[0,1,2,8,38,39,45])]
noncomputable def Qi1 (p1:Bool) (p2:Bool) (h0_0:(List Qaa)) (v8:(List Qab)) (x8:Qaa) (x9:Bool×Int) (o10:Bool):St:=⟨[(0,.ptr 0 0),(1,.p (bV p1)),(2,.p (bV p2)),(8,.x 0 1 (.sl 71 7 (v8.map Qae))),(9,.p (iV (wr ((v8.length:Int)-1)))),(10,.ptr 1 0),(37,.p (bV o10))],⟨[[.p (.sl false (h0_0.map Qac)),.p (iV x9.2)],[.p (iV x8.Kind),.p (sV x8.Text),.p (iV x8.N),.p (iV x8.From),.p (iV x8.To)]],[1]⟩⟩
noncomputable def Qi2 (p1:Bool) (p2:Bool) (h0_0:(List Qaa)) (v8:(List Qab)) (x8:Qaa) (o19:Bool×Int):St:=⟨[(0,.ptr 0 0),(1,.p (bV p1)),(2,.p (bV p2)),(8,.x 0 1 (.sl 71 7 (v8.map Qae))),(59,.p (bV o19.1))],⟨[[.p (.sl false (h0_0.map Qac)),.p (iV o19.2)],[.p (iV x8.Kind),.p (sV x8.Text),.p (iV x8.N),.p (iV x8.From),.p (iV x8.To)]],[1]⟩⟩
noncomputable def Qi3 (p1:Bool) (p2:Bool) (h0_0:(List Qaa)) (v8:(List Qab)) (x8:Qaa) (o24:Bool×Int):St:=⟨[(0,.ptr 0 0),(1,.p (bV p1)),(2,.p (bV p2)),(8,.x 0 1 (.sl 71 7 (v8.map Qae))),(68,.p (bV o24.1))],⟨[[.p (.sl false (h0_0.map Qac)),.p (iV o24.2)],[.p (iV x8.Kind),.p (sV x8.Text),.p (iV x8.N),.p (iV x8.From),.p (iV x8.To)]],[1]⟩⟩
noncomputable def Qbe (p1:Bool) (p2:Bool) (h0_0:(List Qaa)) (v8:(List Qab)) (h0_1_:Int):St:=⟨[(0,.ptr 0 0),(1,.p (bV p1)),(2,.p (bV p2)),(8,.x 0 1 (.sl 71 7 (v8.map Qae)))],⟨[[.p (.sl false (h0_0.map Qac)),.p (iV h0_1_)]],[1]⟩⟩
noncomputable def Qe9 (p1:Bool) (p2:Bool) (h0_0:(List Qaa)) (y5:(List Qab)×Int):St:=⟨[(0,.ptr 0 0),(1,.p (bV p1)),(8,.x 0 1 (.sl 71 7 (y5.1.map Qae)))],⟨[[.p (.sl false (h0_0.map Qac)),.p (iV y5.2)]],[1]⟩⟩
noncomputable def Qfa (p1:Bool) (p2:Bool) (h0_0:(List Qaa)) (y6:(List Qab)×Int×Int):St:=⟨[(6,.p (.sl false (y6.1.map Qae))),(7,.p (iV y6.2.1))],⟨[[.p (.sl false (h0_0.map Qac)),.p (iV y6.2.2)]],[1]⟩⟩
noncomputable def Qfb (p1:Bool) (p2:Bool) (h0_0:(List Qaa)) (y7:Int):St:=⟨[],⟨[[.p (.sl false (h0_0.map Qac)),.p (iV y7)]],[1]⟩⟩
noncomputable def Qi4:Code:=((loopsOf (Tryd.f50.body.getD .skip)).getD 0 .skip)
noncomputable def Qek (p1:Bool) (p2:Bool) (h0_0:(List Qaa)) (h0_1:Int) (w0:Unit):St:=⟨[(0,.ptr 0 0),(1,.p (bV p1)),(2,.p (bV p2)),(8,.p (.sl true []))],⟨[[.p (.sl false (h0_0.map Qac)),.p (iV h0_1)]],[]⟩⟩
noncomputable def Qfc (p1:Bool) (p2:Bool) (h0_0:(List Qaa)) (h0_1:Int) (y2:(List Qab)×Int×Int):St:=⟨[(6,.p (.sl false (y2.1.map Qae))),(7,.p (iV y2.2.1))],⟨[[.p (.sl false (h0_0.map Qac)),.p (iV y2.2.2)]],[1]⟩⟩
noncomputable def Qfd (p1:Bool) (p2:Bool) (h0_0:(List Qaa)) (h0_1:Int) (y3:Int):St:=⟨[],⟨[[.p (.sl false (h0_0.map Qac)),.p (iV y3)]],[1]⟩⟩
noncomputable def Qfn:Code:=((scopesOf (Tryd.f50.body.getD .skip)).getD 0 .skip)
noncomputable def Qgk (y:(List Qab)×Int):D :=.p (.sl false (y.1.map Qae))
noncomputable def Qjk:List (Nat×List Nat):=[(0,[0]),(1,[0,3]),(2,[3]),(3,[2]),(9600001,[1]),(9600002,[1])]
noncomputable def Qe1 (y:Qab×Int):D :=.p (.agg [iV y.1.Kind,sV y.1.Name,sV y.1.Text,iV y.1.N,.sl false (y.1.L.map Qae),.sl false (y.1.Then.map Qae),.sl false (y.1.Else.map Qae)])
noncomputable def Qg6:List (Nat×List Nat):=[(0,[0,2]),(1,[0,2,3]),(2,[0,2,3,7]),(3,[0,2,3]),(4,[2]),(1000002,[0,2,3]),(5000003,[1,1003,1006]),(8000003,[2]),(9600001,[1]),(9600003,[1])]
noncomputable def Qcd (h0_0:(List Qaa)) (h0_1_:Int) (h2_0:Int) (h2_1:(List UInt8)) (h2_2:(List UInt8)) (h2_3:Int) (h2_4:(List Qab)) (h2_5:(List Qab)) (h2_6:(List Qab)):St:=⟨[(0,.ptr 0 0),(2,.ptr 1 0),(3,.ptr 2 0)],⟨[[.p (.sl false (h0_0.map Qac)),.p (iV h0_1_)],[.p (iV 0),.p (sV []),.p (sV []),.p (iV 0),.p (.sl true []),.p (.sl true []),.p (.sl true [])],[.p (iV h2_0),.p (sV h2_1),.p (sV h2_2),.p (iV h2_3),.p (.sl false (h2_4.map Qae)),.p (.sl false (h2_5.map Qae)),.p (.sl false (h2_6.map Qae))]],[]⟩⟩
noncomputable def Qdf (h0_0:(List Qaa)) (y5:Int×Int×(List UInt8)×(List UInt8)×Int×(List Qab)×(List Qab)×(List Qab)):St:=⟨[(2,.ptr 1 0),(3,.ptr 2 0)],⟨[[.p (.sl false (h0_0.map Qac)),.p (iV y5.1)],[.p (iV 0),.p (sV []),.p (sV []),.p (iV 0),.p (.sl true []),.p (.sl true []),.p (.sl true [])],[.p (iV y5.2.1),.p (sV y5.2.2.1),.p (sV y5.2.2.2.1),.p (iV y5.2.2.2.2.1),.p (.sl false (y5.2.2.2.2.2.1.map Qae)),.p (.sl false (y5.2.2.2.2.2.2.1.map Qae)),.p (.sl false (y5.2.2.2.2.2.2.2.map Qae))]],[]⟩⟩
noncomputable def Qdg (h0_0:(List Qaa)) (y6:Int×Int×(List UInt8)×(List UInt8)×Int×(List Qab)×(List Qab)×(List Qab)):St:=⟨[],⟨[[.p (.sl false (h0_0.map Qac)),.p (iV y6.1)],[.p (iV 0),.p (sV []),.p (sV []),.p (iV 0),.p (.sl true []),.p (.sl true []),.p (.sl true [])],[.p (iV y6.2.1),.p (sV y6.2.2.1),.p (sV y6.2.2.2.1),.p (iV y6.2.2.2.2.1),.p (.sl false (y6.2.2.2.2.2.1.map Qae)),.p (.sl false (y6.2.2.2.2.2.2.1.map Qae)),.p (.sl false (y6.2.2.2.2.2.2.2.map Qae))]],[]⟩⟩
noncomputable def Qfy:Code:=((loopsOf (Tryd.f145.body.getD .skip)).getD 0 .skip)
noncomputable def Qba (y:Qab×Int):D :=.p (.agg [iV y.1.Kind,sV y.1.Name,sV y.1.Text,iV y.1.N,.sl false (y.1.L.map Qae),.sl false (y.1.Then.map Qae),.sl false (y.1.Else.map Qae)])
noncomputable def Qjz:List (Nat×List Nat):=[(0,[0,2]),(1,[0,2,3]),(2,[0,2,3,8]),(3,[2,3]),(4,[2]),(5,[0,2,3,22]),(6,[2,3]),(7,[2]),(8,[0,2,36]),(9,[2]),(10,[0,2,40]),(11,[2]),(12,[0,2,44]),(13,[0,2]),(14,[0,2]),(15,[0,2,4]),(16,[2,4]),(17,[2]),(18,[0,2,5]),(19,[0,2,5,66]),(20,[2,5]),(21,[2]),(9600013,[1]),(9600014,[5]),(9600015,[1]),(9600016,[1]),(9600018,[1]),(9600020,[1])]
noncomputable def Qlh (_:Unit):D :=.tup []
noncomputable def Qhr (y:(List UInt8)×Int):D :=.p (sV y.1)
noncomputable def Qkw:List (Nat×List Nat):=[(0,[0]),(1,[0]),(2,[2]),(9600001,[5]),(9600002,[1])]
noncomputable def Qe2 (y:Qaa):D :=.p (.agg [iV y.Kind,sV y.Text,iV y.N,iV y.From,iV y.To])
noncomputable def Qkx:List (Nat×List Nat):=[(0,[0,2]),(1,[0,2,12]),(2,[2]),(3,[2])]
noncomputable def Qen (y:Int):D :=.p (iV y)
noncomputable def Qj0:List (Nat×List Nat):=[(0,[0,1]),(1,[0,1,14]),(2,[4]),(3,[4])]
noncomputable def Qe3 (y:Bool×Int):D :=.p (bV y.1)
noncomputable def Qky:List (Nat×List Nat):=[(0,[0,1]),(1,[0,9]),(2,[4]),(3,[]),(4,[4])]
noncomputable def Qbr (y:Qab×Int):D :=.p (.agg [iV y.1.Kind,sV y.1.Name,sV y.1.Text,iV y.1.N,.sl false (y.1.L.map Qae),.sl false (y.1.Then.map Qae),.sl false (y.1.Else.map Qae)])
noncomputable def Qkz:List (Nat×List Nat):=[(0,[0,2]),(1,[0,2,3]),(2,[2,3]),(3,[0,2,3,8]),(4,[0,2,3]),(5,[0,2,3]),(6,[0,2,3,4]),(7,[0,2,3,21]),(8,[2,3]),(9,[0,2,3,28]),(10,[0,2,3]),(11,[0,2,3]),(12,[0,2,3]),(13,[2,3]),(14,[0,2,3,47]),(15,[0,2,3]),(16,[0,2,3]),(17,[0,2,3]),(18,[2,3]),(19,[0,2,3,64]),(20,[0,2,3]),(21,[2,3]),(22,[2]),(9600002,[1]),(9600004,[1]),(9600006,[1]),(9600008,[1]),(9600010,[1]),(9600011,[3]),(9600012,[1]),(9600013,[1]),(9600015,[1]),(9600016,[1]),(9600017,[1]),(9600018,[1]),(9600020,[1]),(9600021,[1])]
noncomputable def Qhs (y:Qaa×Int):D :=.p (.agg [iV y.1.Kind,sV y.1.Text,iV y.1.N,iV y.1.From,iV y.1.To])
noncomputable def Qk0:List (Nat×List Nat):=[(0,[0,1,4]),(1,[0,1,4,5]),(2,[0,4,5]),(3,[4,5]),(4,[4]),(9600002,[5])]
noncomputable def Qe4 (y:Bool×Int):D :=.p (bV y.1)
noncomputable def Qk1:List (Nat×List Nat):=[(0,[0,1]),(1,[0,1,5]),(2,[0,16]),(3,[4]),(4,[]),(5,[4]),(3000002,[])]
noncomputable def Qjl (h0_0:(List Qaa)) (h0_1:Int) (x1:Qaa) (o2:Bool):St:=⟨[(0,.ptr 0 0),(16,.p (bV o2))],⟨[[.p (.sl false (h0_0.map Qac)),.p (iV h0_1)],[.p (iV x1.Kind),.p (sV x1.Text),.p (iV x1.N),.p (iV x1.From),.p (iV x1.To)]],[]⟩⟩
noncomputable def Qhy (y:(List UInt8)):D :=.p (sV y)
noncomputable def Qdm (y:Unit×Bool×(List Int)):D :=.p (.v .nilIface)
noncomputable def Qgl:List (Nat×List Nat):=[(0,[0,1]),(1,[0,1]),(2,[]),(3,[4])]
noncomputable def Qc0 (y:Int×Unit×Bool×(List Int)):D :=.tup [.p (iV y.1),.p (.v .nilIface)]
noncomputable def Qft:List (Nat×List Nat):=[(0,[0,1]),(1,[0,1]),(2,[1]),(3,[4,5])]
noncomputable def Qgy (_:Bool):D :=.tup []
noncomputable def Qe5 (y:Bool):D :=.p (bV y)
noncomputable def Qk2:List (Nat×List Nat):=[(0,[0,1]),(1,[4])]
noncomputable def Qfo (y:Int):D :=.p (iV y)
noncomputable def Qnj:List (Nat×List Nat):=[(0,[0,1]),(1,[4])]
noncomputable def Qh2 (y:(List UInt8)):D :=.p (sV y)
noncomputable def Qj1 (y:Int):D :=.p (iV y)
noncomputable def Qi5:List (Nat×List Nat):=[(0,[0]),(1,[0,3]),(2,[3,5]),(3,[3,5]),(4,[2]),(4000003,[3,5])]
noncomputable def Qck (x1:(List Qab)×Int) (h0_0:Int):St:=⟨[(3,.ptr 0 0),(5,.fn (.func 116) [] [.p (.ep [.sl false (x1.1.map Qae)]),.p (.ep [iV x1.2])])],⟨[[.p (iV h0_0)]],[]⟩⟩
noncomputable def Qgz (x1:(List Qab)×Int) (o6:Int):St:=⟨[(3,.ptr 0 0),(5,.fn (.func 116) [] [.p (.ep [.sl false (x1.1.map Qae)]),.p (.ep [iV x1.2])])],⟨[[.p (iV o6)]],[]⟩⟩
noncomputable def Qc1:Code:=((loopsOf (Tryd.f51.body.getD .skip)).getD 0 .skip)
noncomputable def Qli (y:Int):D :=.p (iV y)
noncomputable def Qj2:List (Nat×List Nat):=[(0,[0,5]),(1,[0,3,5]),(2,[3,5,7]),(3,[3,5,7]),(4,[3,5,7]),(5,[2]),(4000003,[3,5,7])]
noncomputable def Qc2 (x1:(List Qab)×Int) (h0_0:Int):St:=⟨[(3,.ptr 0 0),(7,.fn (.func 116) [] [.p (.ep [.sl false (x1.1.map Qae)]),.p (.ep [iV x1.2])])],⟨[[.p (iV h0_0)]],[]⟩⟩
noncomputable def Qht (x1:(List Qab)×Int) (o6:Int):St:=⟨[(3,.ptr 0 0),(7,.fn (.func 116) [] [.p (.ep [.sl false (x1.1.map Qae)]),.p (.ep [iV x1.2])])],⟨[[.p (iV o6)]],[]⟩⟩
noncomputable def Qds:Code:=((loopsOf (Tryd.f52.body.getD .skip)).getD 0 .skip)
noncomputable def Qi6 (y:Bool):D :=.p (bV y)
noncomputable def Qtb:List (Nat×List Nat):=[(0,[0]),(1,[0,3]),(2,[0,3,4]),(3,[0,3,4]),(4,[0,3,4]),(5,[0,3,4]),(6,[0,3,4]),(7,[0,3,4]),(8,[0,3,4]),(9,[0,3,4]),(10,[0,3,4]),(11,[0,4]),(12,[2]),(13,[2]),(2002037,[])]
noncomputable def Qpt (p0:(List UInt8)) (o1:Bool):St:=⟨[(0,.p (sV p0)),(4,.p (bV o1))],⟨[],[]⟩⟩
noncomputable def Qii (y:(List Qab)×Int):D :=.fn (.func 116) [] [.p (.ep [.sl false (y.1.map Qae)]),.p (.ep [iV y.2])]
noncomputable def Qut:List (Nat×List Nat):=[(0,[2,3]),(1,[4])]
noncomputable def Qa5 (y:(Qab×Int)):List V:=[.agg [iV y.1.Kind,sV y.1.Name,sV y.1.Text,iV y.1.N,.sl false (y.1.L.map Qae),.sl false (y.1.Then.map Qae),.sl false (y.1.Else.map Qae)],iV y.2]
noncomputable def Qfp:List (Nat×List Nat):=[(0,[1,2,3,8,9]),(1,[2,3,8,9,10,11,12]),(2,[2,3,8,9,10,11,12,13]),(3,[2,3,5,8,9,10,11,12]),(4,[2,3,5,8,9,10,11,12,20]),(5,[2,3,8,9,10,11,12,27,28]),(6,[2,3,8,9,10,11,12,27,28,29]),(7,[2,3,7,8,9,10,11,12,27,28]),(8,[2,3,8,9,10,11,12,27,28,34]),(9,[2,3,8,10,11,12,27,28,34,36]),(10,[2,3,8,9,10,11,12,27,28,34]),(11,[2,3,8,9,10,11,12,27,28,34,41]),(12,[2,3,8,9,10,11,12,27,28]),(13,[2,3,8,9,10,11,12]),(1000002,[2,3,8,9,10,11,12]),(1000006,[2,3,8,9,10,11,12,27,28]),(4000009,[2,3,8,9,10,11,12,27,28,34])]
noncomputable def Qcl (p0:(List Qab)) (p1:Int) (v12:Int) (x3:Qab) (v28:Int) (x7:(List Qab)×Int) (gxs gp:List (List V)):St:=⟨[(2,.p (.ep [iV p1])),(3,.ptr 0 0),(10,.p (.sl false (p0.map Qae))),(11,.p (iV (p0.length:Int))),(12,.p (iV v12)),(27,.p (.agg [.sl false (x3.L.map Qae),.sl false (x3.Then.map Qae),.sl false (x3.Else.map Qae)])),(28,.p (iV v28)),(34,.fn (.func 116) [] [.p (.ep [.sl false (x7.1.map Qae)]),.p (.ep [iV x7.2])])],⟨[[.yld Tryd.prog 0 gxs],[.p (iV x3.Kind),.p (sV x3.Name),.p (sV x3.Text),.p (iV x3.N),.p (.sl false (x3.L.map Qae)),.p (.sl false (x3.Then.map Qae)),.p (.sl false (x3.Else.map Qae))]],[gp.length]⟩⟩
noncomputable def Qg0 (p0:(List Qab)) (p1:Int) (v12:Int) (x3:Qab) (v28:Int) (x7:(List Qab)×Int) (gxs:List (List V)) (gq12:List (List V)) (oy:Unit):St:=⟨[(2,.p (.ep [iV p1])),(3,.ptr 0 0),(10,.p (.sl false (p0.map Qae))),(11,.p (iV (p0.length:Int))),(12,.p (iV v12)),(27,.p (.agg [.sl false (x3.L.map Qae),.sl false (x3.Then.map Qae),.sl false (x3.Else.map Qae)])),(28,.p (iV v28)),(34,.fn (.func 116) [] [.p (.ep [.sl false (x7.1.map Qae)]),.p (.ep [iV x7.2])])],⟨[[.yld Tryd.prog 0 gxs],[.p (iV x3.Kind),.p (sV x3.Name),.p (sV x3.Text),.p (iV x3.N),.p (.sl false (x3.L.map Qae)),.p (.sl false (x3.Then.map Qae)),.p (.sl false (x3.Else.map Qae))]],[gq12.length]⟩⟩
noncomputable def Qc3:Code:=((loopsOf (Tryd.f116.body.getD .skip)).getD 2 .skip)
noncomputable def Qg1 (p0:(List Qab)) (p1:Int) (v12:Int) (x3:Qab) (v28:Int) (gxs gp:List (List V)):St:=⟨[(2,.p (.ep [iV p1])),(3,.ptr 0 0),(10,.p (.sl false (p0.map Qae))),(11,.p (iV (p0.length:Int))),(12,.p (iV v12)),(27,.p (.agg [.sl false (x3.L.map Qae),.sl false (x3.Then.map Qae),.sl false (x3.Else.map Qae)])),(28,.p (iV v28))],⟨[[.yld Tryd.prog 0 gxs],[.p (iV x3.Kind),.p (sV x3.Name),.p (sV x3.Text),.p (iV x3.N),.p (.sl false (x3.L.map Qae)),.p (.sl false (x3.Then.map Qae)),.p (.sl false (x3.Else.map Qae))]],[gp.length]⟩⟩
noncomputable def Qjc (p0:(List Qab)) (p1:Int) (v12:Int) (x3:Qab) (gxs:List (List V)) (gq4:List (List V)) (oy:Unit):St:=⟨[(2,.p (.ep [iV p1])),(3,.ptr 0 0),(10,.p (.sl false (p0.map Qae))),(11,.p (iV (p0.length:Int))),(12,.p (iV v12))],⟨[[.yld Tryd.prog 0 gxs],[.p (iV x3.Kind),.p (sV x3.Name),.p (sV x3.Text),.p (iV x3.N),.p (.sl false (x3.L.map Qae)),.p (.sl false (x3.Then.map Qae)),.p (.sl false (x3.Else.map Qae))]],[gq4.length]⟩⟩
noncomputable def Qox:Code:=((loopsOf (Tryd.f116.body.getD .skip)).getD 1 .skip)
noncomputable def Qg2 (p0:(List Qab)) (p1:Int) (v12:Int) (gxs gp:List (List V)):St:=⟨[(2,.p (.ep [iV p1])),(3,.ptr 0 0),(10,.p (.sl false (p0.map Qae))),(11,.p (iV (p0.length:Int))),(12,.p (iV v12))],⟨[[.yld Tryd.prog 0 gxs]],[gp.length]⟩⟩
noncomputable def Qjd (p0:(List Qab)) (p1:Int) (gxs:List (List V)) (gq1:List (List V)) (oy:Unit):St:=⟨[],⟨[[.yld Tryd.prog 0 gxs]],[gq1.length]⟩⟩
noncomputable def Qoy:Code:=((loopsOf (Tryd.f116.body.getD .skip)).getD 0 .skip)
noncomputable def Qhg (y:Int×Int):D :=.tup [.p (nV .i32 y.1),.p (iV y.2)]
noncomputable def Quu:List (Nat×List Nat):=[(0,[0,1]),(1,[0,1,17]),(2,[4,5]),(3,[0,1,6]),(4,[4,5]),(5,[0,1,6,21]),(6,[4,5]),(7,[0,1,6,26]),(8,[0,1,4,7,8]),(9,[0,1,6,36]),(10,[0,1,4,7,8]),(11,[0,1,6,46]),(12,[0,1,4,7,8]),(13,[4,7,8,9]),(14,[4,8,77]),(15,[4,5]),(16,[4,5]),(2004022,[]),(3000001,[]),(3000007,[]),(3000009,[]),(3000011,[]),(3000014,[])]
noncomputable def Qrk (p0:(List UInt8)) (p1:Int) (o1:Bool):St:=⟨[(0,.p (sV p0)),(1,.p (iV p1)),(17,.p (bV o1))],⟨[],[]⟩⟩
noncomputable def Qrl (p0:(List UInt8)) (p1:Int) (y4:Int×Int×Int):St:=⟨[(0,.p (sV p0)),(1,.p (iV p1)),(4,.p (nV .i32 y4.1)),(7,.p (nV .i32 y4.2.1)),(8,.p (iV y4.2.2))],⟨[],[]⟩⟩
noncomputable def Qrm (p0:(List UInt8)) (p1:Int) (y5:Int):St:=⟨[(4,.p (nV .i32 y5)),(5,.p (iV 1))],⟨[],[]⟩⟩
noncomputable def Qrn (p0:(List UInt8)) (p1:Int) (x2:UInt8) (o6:Bool):St:=⟨[(0,.p (sV p0)),(1,.p (iV p1)),(6,.p (nV .u8 (x2.toNat:Int))),(26,.p (bV o6))],⟨[],[]⟩⟩
noncomputable def Qro (p0:(List UInt8)) (p1:Int) (x2:UInt8) (o7:Bool):St:=⟨[(0,.p (sV p0)),(1,.p (iV p1)),(6,.p (nV .u8 (x2.toNat:Int))),(36,.p (bV o7))],⟨[],[]⟩⟩
noncomputable def Qrp (p0:(List UInt8)) (p1:Int) (x2:UInt8) (o8:Bool):St:=⟨[(0,.p (sV p0)),(1,.p (iV p1)),(6,.p (nV .u8 (x2.toNat:Int))),(46,.p (bV o8))],⟨[],[]⟩⟩
noncomputable def Qrq (y4:Int×Int×Int) (x10:Int×Bool) (o11:Bool):St:=⟨[(4,.p (nV .i32 x10.1)),(8,.p (iV y4.2.2)),(77,.p (bV o11))],⟨[],[]⟩⟩
noncomputable def Qrr (y:Bool):D :=.p (bV y)
noncomputable def Qyt:List (Nat×List Nat):=[(0,[0]),(1,[2]),(3000001,[])]
noncomputable def Quv  (o1:Bool):St:=⟨[(2,.p (bV o1))],⟨[],[]⟩⟩
noncomputable def Qij (y:Int×Bool):D :=.tup [.p (nV .i32 y.1),.p (bV y.2)]
noncomputable def Qoz:List (Nat×List Nat):=[(0,[0,1,2]),(1,[0,1,2,12]),(2,[6,7]),(3,[0,1,13,14]),(4,[0,1,13,14,15]),(5,[0,1,8,13,14]),(6,[0,1,8,13,14,21]),(7,[6,7]),(8,[0,1,13,14]),(9,[0,1,13,14]),(10,[6,7]),(1000004,[0,1,13,14])]
noncomputable def Qga (p0:(List UInt8)) (p2:Int) (v1:Int) (v14:Int):St:=⟨[(0,.p (sV p0)),(1,.p (nV .i32 v1)),(13,.p (iV p2)),(14,.p (iV v14))],⟨[],[]⟩⟩
noncomputable def Qic (p0:(List UInt8)) (p2:Int) (y2:Int):St:=⟨[(1,.p (nV .i32 y2))],⟨[],[]⟩⟩
noncomputable def Qid (p0:(List UInt8)) (p2:Int) (y3:Unit):St:=⟨[(6,.p (nV .i32 0)),(7,.p (bV false))],⟨[],[]⟩⟩
noncomputable def Ql3:Code:=((loopsOf (Tryd.f147.body.getD .skip)).getD 0 .skip)
noncomputable def Qxj (p0:(List UInt8)) (p1:(List UInt8)) (p2:Int):Option (Bool) :=
 ( if(decide (p2 ≥ 0)) then
   if(decide (p2≤(p0.length:Int))) then
    if(decide ((p1.length:Int)≤(wr ((p0.length:Int)-p2)))) then
     cutL p0 p2 (wr (p2+(p1.length:Int)))>>=fun x2 =>
     some (x2==p1)
    else
     some false
   else
    some false
  else
   some false:Option (Bool))>>=fun o1 =>
 some o1
noncomputable def Qv2 (p0:Int):Option (Bool) :=
 ( if(decide (p0 ≥ 0)) then
   if(decide (p0≤1114111)) then
    if(decide (p0 ≥ 55296)) then
     some (!(decide (p0≤57343)))
    else
     some true
   else
    some false
  else
   some false:Option (Bool))>>=fun o1 =>
 some o1
noncomputable def Qyu (p0:Int):Option ((List UInt8)) :=
 ( Qv2 p0>>=fun x2 =>
  if(!x2) then
   some 65533
  else
   some p0:Option (Int))>>=fun o1 =>
 if(decide (o1<128)) then
  b2s [(IntKind.u8.wrap o1)]>>=fun x3 =>
  some x3
 else
  if(decide (o1<2048)) then
   b2s [(IntKind.u8.wrap (wr (192+(wr (o1.tdiv 64))))),(IntKind.u8.wrap (wr (128+(o1.tmod 64))))]>>=fun x4 =>
   some x4
  else
   if(decide (o1<65536)) then
    b2s [(IntKind.u8.wrap (wr (224+(wr (o1.tdiv 4096))))),(IntKind.u8.wrap (wr (128+((wr (o1.tdiv 64)).tmod 64)))),(IntKind.u8.wrap (wr (128+(o1.tmod 64))))]>>=fun x5 =>
    some x5
   else
    b2s [(IntKind.u8.wrap (wr (240+(wr (o1.tdiv 262144))))),(IntKind.u8.wrap (wr (128+((wr (o1.tdiv 4096)).tmod 64)))),(IntKind.u8.wrap (wr (128+((wr (o1.tdiv 64)).tmod 64)))),(IntKind.u8.wrap (wr (128+(o1.tmod 64))))]>>=fun x6 =>
    some x6
noncomputable def Qo0 (p0:(List UInt8)) (p1:Int) (v6:(List Int)) (v7:Int) (v8:Int) (v9:Int):Option (Int) :=
 if(decide (v9<v7)) then
  idx p0 (wr (p1+v9))>>=fun x9 =>
  Qo0 p0 p1 v6 v7 (wr ((wr ((wr (64*v8))+(wr (x9.toNat:Int))))-128)) (wr (v9+1))
 else
  some v8
 partial_fixpoint
noncomputable def Qo1 (p0:(List UInt8)) (p1:Int) (v6:(List Int)) (v7:Int):Option (Unit⊕(Int×Int)) :=
 ( if(decide (v7≤4)) then
   some (decide (v7≤(wr ((p0.length:Int)-p1))))
  else
   some false:Option (Bool))>>=fun o5 =>
 if o5 then
  idx p0 p1>>=fun x6 =>
  idx v6 v7>>=fun x7 =>
  (Qo0 p0 p1 v6 v7 (wr ((wr (x6.toNat:Int))-x7)) 1)>>=fun o8 =>
  ( if(decide (o8 ≥ 0)) then
    Qv2 o8>>=fun x11 =>
    if x11 then
     Qyu o8>>=fun x12 =>
     cutL p0 p1 (wr (p1+v7))>>=fun x13 =>
     some (x12==x13)
    else
     some false
   else
    some false:Option (Bool))>>=fun o10 =>
  if o10 then
   some (.inr (o8,v7))
  else
   Qo1 p0 p1 v6 (wr (v7+1))
 else
  some (.inl ())
 partial_fixpoint
noncomputable def Q0p (p0:(List UInt8)) (p1:Int):Option (Int×Int) :=
 ( if(decide (p1<0)) then
   some true
  else
   some (decide (p1 ≥ (p0.length:Int))):Option (Bool))>>=fun o1 =>
 if o1 then
  some (0,0)
 else
  (Qo1 p0 p1 [0,0,192,224,240] 1)>>=fun o2 =>
  match o2 with
  | .inl y3 =>
   some (65533,1)
  | .inr y4 =>
   some (y4.1,y4.2)
noncomputable def Qtc (p0:(List UInt8)) (v3:Int):Option (Unit⊕Unit) :=
 if(decide (v3<(p0.length:Int))) then
  Q0p p0 v3>>=fun x4 =>
  ( if(x4.1==65533) then
    some (x4.2==1)
   else
    some false:Option (Bool))>>=fun o5 =>
  if o5 then
   some (.inr ())
  else
   Qtc p0 (wr (v3+x4.2))
 else
  some (.inl ())
 partial_fixpoint
noncomputable def Q1v (p0:(List UInt8)):Option (Bool) :=
 (Qtc p0 0)>>=fun o1 =>
 match o1 with
 | .inl y2 =>
  some true
 | .inr y3 =>
  some false
noncomputable def Qna (p0:(List UInt8)) (v4:(List UInt8)) (v5:Int):Option ((List UInt8)⊕Unit) :=
 if(decide (v5<(p0.length:Int))) then
  cutL p0 v5 (wr (v5+1))>>=fun x5 =>
  if(x5==[13]) then
   some (.inr ())
  else
   ( if(x5==[10]) then
     some [92,110]
    else
     if(x5==[9]) then
      some [92,116]
     else
      ( if(x5==[34]) then
        some true
       else
        some (x5==[92]):Option (Bool))>>=fun o7 =>
      if o7 then
       need ([92].length+x5.length≤9223372036854775807)>>=fun _ =>
       some ([92]++x5)
      else
       some x5:Option ((List UInt8)))>>=fun o6 =>
   need (v4.length+o6.length≤9223372036854775807)>>=fun _ =>
   Qna p0 (v4++o6) (wr (v5+1))
 else
  some (.inl v4)
 partial_fixpoint
noncomputable def Ql4 (p0:(List UInt8)):Option ((List UInt8)×Bool) :=
 Q1v p0>>=fun x1 =>
 if(!x1) then
  some ([],false)
 else
  (Qna p0 [34] 0)>>=fun o2 =>
  match o2 with
  | .inl y3 =>
   need (y3.length+[34].length≤9223372036854775807)>>=fun _ =>
   some ((y3++[34]),true)
  | .inr y4 =>
   some ([],false)
noncomputable def Qyv (p0:Int):Option (Bool) :=
 ( if(decide (p0 ≥ 48)) then
   some (decide (p0≤57))
  else
   some false:Option (Bool))>>=fun o1 =>
 some o1
noncomputable def Qtd (p0:Int):Option (Bool) :=
 ( if(decide (p0 ≥ 97)) then
   some (decide (p0≤122))
  else
   some false:Option (Bool))>>=fun o1 =>
 some o1
noncomputable def Qo2 (p0:(List UInt8)) (v3:Int):Option (Unit⊕Unit) :=
 if(decide (v3<(p0.length:Int))) then
  ( idx p0 v3>>=fun x8 =>
   Qtd (x8.toNat:Int)>>=fun x9 =>
   if(!x9) then
    idx p0 v3>>=fun x10 =>
    Qyv (x10.toNat:Int)>>=fun x11 =>
    if(!x11) then
     idx p0 v3>>=fun x12 =>
     some ((x12.toNat:Int) != 95)
    else
     some false
   else
    some false:Option (Bool))>>=fun o7 =>
  if o7 then
   some (.inr ())
  else
   Qo2 p0 (wr (v3+1))
 else
  some (.inl ())
 partial_fixpoint
noncomputable def Qrs (p0:(List UInt8)):Option (Bool) :=
 ( if(decide ((p0.length:Int)<1)) then
   some true
  else
   if(decide ((p0.length:Int)>32)) then
    some true
   else
    idx p0 0>>=fun x2 =>
    Qtd (x2.toNat:Int)>>=fun x3 =>
    some (!x3):Option (Bool))>>=fun o1 =>
 if o1 then
  some false
 else
  (Qo2 p0 0)>>=fun o4 =>
  match o4 with
  | .inl y5 =>
   some true
  | .inr y6 =>
   some false
mutual
noncomputable def Ql5 (p0:(List Qab)):Option (Int) :=
 (Qnb p0 0 0)>>=fun o1 =>
 some o1
 partial_fixpoint
noncomputable def Qnb (p0:(List Qab)) (v3:Int) (v4:Int):Option (Int) :=
 if(decide (v4<(p0.length:Int))) then
  idx p0 v4>>=fun x2 =>
  Ql5 x2.L>>=fun x3 =>
  idx p0 v4>>=fun x4 =>
  Ql5 x4.Then>>=fun x5 =>
  idx p0 v4>>=fun x6 =>
  Ql5 x6.Else>>=fun x7 =>
  Qnb p0 (wr ((wr ((wr ((wr (v3+1))+x3))+x5))+x7)) (wr (v4+1))
 else
  some v3
 partial_fixpoint
end
mutual
noncomputable def Qnw (p0:(List Qab)):Option (Int) :=
 (Qo3 p0 0 0)>>=fun o1 =>
 some o1
 partial_fixpoint
noncomputable def Qo3 (p0:(List Qab)) (v3:Int) (v4:Int):Option (Int) :=
 if(decide (v4<(p0.length:Int))) then
  idx p0 v4>>=fun x2 =>
  Qnw x2.L>>=fun x3 =>
  idx p0 v4>>=fun x4 =>
  Qnw x4.Then>>=fun x5 =>
  idx p0 v4>>=fun x6 =>
  Qnw x6.Else>>=fun x7 =>
  Qo3 p0 (if(wr (1+(if x7>(if x5>x3 then x5 else x3) then x7 else(if x5>x3 then x5 else x3))))>v3 then(wr (1+(if x7>(if x5>x3 then x5 else x3) then x7 else(if x5>x3 then x5 else x3)))) else v3) (wr (v4+1))
 else
  some v3
 partial_fixpoint
end
noncomputable def Qo4 (p0:(List UInt8)) (x1:(List (List UInt8))) (v4:Int):Option (Unit⊕Unit) :=
 if(decide (v4<(x1.length:Int))) then
  idx x1 v4>>=fun x5 =>
  if(x5==p0) then
   some (.inr ())
  else
   Qo4 p0 x1 (wr (v4+1))
 else
  some (.inl ())
 partial_fixpoint
noncomputable def Qyw:Option ((List (List UInt8))) :=
 some ([[105,102],[101,108,115,101],[101,110,100],[101,97,99,104],[105,110],[108,101,116],[117,115,101],[116,114,117,101],[102,97,108,115,101],[115,101,99,114,101,116]])
noncomputable def Qnx (p0:(List UInt8)):Option (Bool) :=
 Qyw>>=fun x1 =>
 (Qo4 p0 x1 0)>>=fun o2 =>
 match o2 with
 | .inl y3 =>
  Qrs p0>>=fun x6 =>
  some x6
 | .inr y4 =>
  some false
noncomputable def Qei (p0:Qab) (p1:Bool) (p2:Bool) (p3:Bool) (p4:Bool) (p5:Bool):Option (Bool) :=
 ( if p1 then
   if p2 then
    if p3 then
     if p4 then
      if p5 then
       if(p0.Kind==10) then
        some true
       else
        some ((p0.Else.length:Int)==0)
      else
       if((p0.Then.length:Int)==0) then
        if(p0.Kind==10) then
         some true
        else
         some ((p0.Else.length:Int)==0)
       else
        some false
     else
      if((p0.L.length:Int)==0) then
       if p5 then
        if(p0.Kind==10) then
         some true
        else
         some ((p0.Else.length:Int)==0)
       else
        if((p0.Then.length:Int)==0) then
         if(p0.Kind==10) then
          some true
         else
          some ((p0.Else.length:Int)==0)
        else
         some false
      else
       some false
    else
     if(p0.N==0) then
      if p4 then
       if p5 then
        if(p0.Kind==10) then
         some true
        else
         some ((p0.Else.length:Int)==0)
       else
        if((p0.Then.length:Int)==0) then
         if(p0.Kind==10) then
          some true
         else
          some ((p0.Else.length:Int)==0)
        else
         some false
      else
       if((p0.L.length:Int)==0) then
        if p5 then
         if(p0.Kind==10) then
          some true
         else
          some ((p0.Else.length:Int)==0)
        else
         if((p0.Then.length:Int)==0) then
          if(p0.Kind==10) then
           some true
          else
           some ((p0.Else.length:Int)==0)
         else
          some false
       else
        some false
     else
      some false
   else
    if(p0.Text==[]) then
     if p3 then
      if p4 then
       if p5 then
        if(p0.Kind==10) then
         some true
        else
         some ((p0.Else.length:Int)==0)
       else
        if((p0.Then.length:Int)==0) then
         if(p0.Kind==10) then
          some true
         else
          some ((p0.Else.length:Int)==0)
        else
         some false
      else
       if((p0.L.length:Int)==0) then
        if p5 then
         if(p0.Kind==10) then
          some true
         else
          some ((p0.Else.length:Int)==0)
        else
         if((p0.Then.length:Int)==0) then
          if(p0.Kind==10) then
           some true
          else
           some ((p0.Else.length:Int)==0)
         else
          some false
       else
        some false
     else
      if(p0.N==0) then
       if p4 then
        if p5 then
         if(p0.Kind==10) then
          some true
         else
          some ((p0.Else.length:Int)==0)
        else
         if((p0.Then.length:Int)==0) then
          if(p0.Kind==10) then
           some true
          else
           some ((p0.Else.length:Int)==0)
         else
          some false
       else
        if((p0.L.length:Int)==0) then
         if p5 then
          if(p0.Kind==10) then
           some true
          else
           some ((p0.Else.length:Int)==0)
         else
          if((p0.Then.length:Int)==0) then
           if(p0.Kind==10) then
            some true
           else
            some ((p0.Else.length:Int)==0)
          else
           some false
        else
         some false
      else
       some false
    else
     some false
  else
   if(p0.Name==[]) then
    if p2 then
     if p3 then
      if p4 then
       if p5 then
        if(p0.Kind==10) then
         some true
        else
         some ((p0.Else.length:Int)==0)
       else
        if((p0.Then.length:Int)==0) then
         if(p0.Kind==10) then
          some true
         else
          some ((p0.Else.length:Int)==0)
        else
         some false
      else
       if((p0.L.length:Int)==0) then
        if p5 then
         if(p0.Kind==10) then
          some true
         else
          some ((p0.Else.length:Int)==0)
        else
         if((p0.Then.length:Int)==0) then
          if(p0.Kind==10) then
           some true
          else
           some ((p0.Else.length:Int)==0)
         else
          some false
       else
        some false
     else
      if(p0.N==0) then
       if p4 then
        if p5 then
         if(p0.Kind==10) then
          some true
         else
          some ((p0.Else.length:Int)==0)
        else
         if((p0.Then.length:Int)==0) then
          if(p0.Kind==10) then
           some true
          else
           some ((p0.Else.length:Int)==0)
         else
          some false
       else
        if((p0.L.length:Int)==0) then
         if p5 then
          if(p0.Kind==10) then
           some true
          else
           some ((p0.Else.length:Int)==0)
         else
          if((p0.Then.length:Int)==0) then
           if(p0.Kind==10) then
            some true
           else
            some ((p0.Else.length:Int)==0)
          else
           some false
        else
         some false
      else
       some false
    else
     if(p0.Text==[]) then
      if p3 then
       if p4 then
        if p5 then
         if(p0.Kind==10) then
          some true
         else
          some ((p0.Else.length:Int)==0)
        else
         if((p0.Then.length:Int)==0) then
          if(p0.Kind==10) then
           some true
          else
           some ((p0.Else.length:Int)==0)
         else
          some false
       else
        if((p0.L.length:Int)==0) then
         if p5 then
          if(p0.Kind==10) then
           some true
          else
           some ((p0.Else.length:Int)==0)
         else
          if((p0.Then.length:Int)==0) then
           if(p0.Kind==10) then
            some true
           else
            some ((p0.Else.length:Int)==0)
          else
           some false
        else
         some false
      else
       if(p0.N==0) then
        if p4 then
         if p5 then
          if(p0.Kind==10) then
           some true
          else
           some ((p0.Else.length:Int)==0)
         else
          if((p0.Then.length:Int)==0) then
           if(p0.Kind==10) then
            some true
           else
            some ((p0.Else.length:Int)==0)
          else
           some false
        else
         if((p0.L.length:Int)==0) then
          if p5 then
           if(p0.Kind==10) then
            some true
           else
            some ((p0.Else.length:Int)==0)
          else
           if((p0.Then.length:Int)==0) then
            if(p0.Kind==10) then
             some true
            else
             some ((p0.Else.length:Int)==0)
           else
            some false
         else
          some false
       else
        some false
     else
      some false
   else
    some false:Option (Bool))>>=fun o1 =>
 some o1
mutual
noncomputable def Qv3 (p0:Qab):Option (Bool) :=
 if(p0.Kind==1) then
  Ql4 p0.Text>>=fun x1 =>
  ( if x1.2 then
    Qei p0 false true false false false>>=fun x3 =>
    some x3
   else
    some false:Option (Bool))>>=fun o2 =>
  some o2
 else
  if(p0.Kind==2) then
   Qei p0 false false true false false>>=fun x4 =>
   some x4
  else
   if(p0.Kind==3) then
    ( if(p0.N==0) then
      Qei p0 false false true false false>>=fun x6 =>
      some x6
     else
      if(p0.N==1) then
       Qei p0 false false true false false>>=fun x7 =>
       some x7
      else
       some false:Option (Bool))>>=fun o5 =>
    some o5
   else
    if(p0.Kind==4) then
     ( Qnx p0.Name>>=fun x9 =>
      if x9 then
       Qei p0 true false false false false>>=fun x10 =>
       some x10
      else
       some false:Option (Bool))>>=fun o8 =>
     some o8
    else
     if(p0.Kind==5) then
      ( Qrs p0.Name>>=fun x12 =>
       if x12 then
        if((p0.L.length:Int)==1) then
         Qo5 p0.L>>=fun x13 =>
         if x13 then
          Qei p0 true false false true false>>=fun x14 =>
          some x14
         else
          some false
        else
         some false
       else
        some false:Option (Bool))>>=fun o11 =>
      some o11
     else
      if(p0.Kind==6) then
       ( Qnx p0.Name>>=fun x16 =>
        if x16 then
         if(decide ((p0.L.length:Int)≤3)) then
          Qo5 p0.L>>=fun x17 =>
          if x17 then
           Qei p0 true false false true false>>=fun x18 =>
           some x18
          else
           some false
         else
          some false
        else
         some false:Option (Bool))>>=fun o15 =>
       some o15
      else
       if(p0.Kind==7) then
        ( Qrs p0.Name>>=fun x20 =>
         if x20 then
          Qei p0 true false false false false>>=fun x21 =>
          some x21
         else
          some false:Option (Bool))>>=fun o19 =>
        some o19
       else
        some false
 partial_fixpoint
noncomputable def Qo5 (p0:(List Qab)):Option (Bool) :=
 (Qnc p0 0)>>=fun o1 =>
 match o1 with
 | .inl y2 =>
  some true
 | .inr y3 =>
  some false
 partial_fixpoint
noncomputable def Qnc (p0:(List Qab)) (v3:Int):Option (Unit⊕Unit) :=
 if(decide (v3<(p0.length:Int))) then
  idx p0 v3>>=fun x4 =>
  Qv3 x4>>=fun x5 =>
  if(!x5) then
   some (.inr ())
  else
   Qnc p0 (wr (v3+1))
 else
  some (.inl ())
 partial_fixpoint
end
noncomputable def Ql6 (p0:(List UInt8)) (p1:(List UInt8)) (v5:Int):Option (Unit⊕Unit) :=
 if(decide (v5<(p0.length:Int))) then
  Qxj p0 p1 v5>>=fun x4 =>
  if x4 then
   some (.inr ())
  else
   Ql6 p0 p1 (wr (v5+1))
 else
  some (.inl ())
 partial_fixpoint
noncomputable def Qxk (p0:(List UInt8)) (p1:(List UInt8)):Option (Bool) :=
 (Ql6 p0 p1 0)>>=fun o1 =>
 match o1 with
 | .inl y2 =>
  some false
 | .inr y3 =>
  some true
mutual
noncomputable def Qo6 (p0:(List Qab)) (p1:Bool):Option (Bool) :=
 (Qj3 p0 p1 0)>>=fun o1 =>
 match o1 with
 | .inl y2 =>
  some true
 | .inr y3 =>
  some false
 partial_fixpoint
noncomputable def Qj3 (p0:(List Qab)) (p1:Bool) (v5:Int):Option (Unit⊕Unit) :=
 if(decide (v5<(p0.length:Int))) then
  idx p0 v5>>=fun x4 =>
  Qv4 x4>>=fun x5 =>
  if(!x5) then
   some (.inr ())
  else
   idx p0 v5>>=fun x6 =>
   if(x6.Kind != 8) then
    Qj3 p0 p1 (wr (v5+1))
   else
    idx p0 v5>>=fun x7 =>
    ( if(!(v5==(wr ((p0.length:Int)-1)))) then
      idx p0 (wr (v5+1))>>=fun x9 =>
      if(x9.Kind==8) then
       some true
      else
       if(!(v5==(wr ((p0.length:Int)-1)))) then
        idx x7.Text (wr ((x7.Text.length:Int)-1))>>=fun x10 =>
        some ((x10.toNat:Int)==123)
       else
        if p1 then
         idx x7.Text (wr ((x7.Text.length:Int)-1))>>=fun x11 =>
         some ((x11.toNat:Int)==123)
        else
         some false
     else
      if(!(v5==(wr ((p0.length:Int)-1)))) then
       idx x7.Text (wr ((x7.Text.length:Int)-1))>>=fun x12 =>
       some ((x12.toNat:Int)==123)
      else
       if p1 then
        idx x7.Text (wr ((x7.Text.length:Int)-1))>>=fun x13 =>
        some ((x13.toNat:Int)==123)
       else
        some false:Option (Bool))>>=fun o8 =>
    if o8 then
     some (.inr ())
    else
     Qj3 p0 p1 (wr (v5+1))
 else
  some (.inl ())
 partial_fixpoint
noncomputable def Qv4 (p0:Qab):Option (Bool) :=
 ( if((p0.L.length:Int)==1) then
   Qo5 p0.L>>=fun x2 =>
   some x2
  else
   some false:Option (Bool))>>=fun o1 =>
 if(p0.Kind==8) then
  ( if(!(p0.Text==[])) then
    Qxk p0.Text [123,123]>>=fun x4 =>
    if(!x4) then
     Qei p0 false true false false false>>=fun x5 =>
     some x5
    else
     some false
   else
    some false:Option (Bool))>>=fun o3 =>
  some o3
 else
  if(p0.Kind==9) then
   ( if o1 then
     Qei p0 false false false true false>>=fun x7 =>
     some x7
    else
     some false:Option (Bool))>>=fun o6 =>
   some o6
  else
   if(p0.Kind==10) then
    ( if o1 then
      Qo6 p0.Then true>>=fun x9 =>
      if x9 then
       Qo6 p0.Else true>>=fun x10 =>
       if x10 then
        Qei p0 false false false true true>>=fun x11 =>
        some x11
       else
        some false
      else
       some false
     else
      some false:Option (Bool))>>=fun o8 =>
    some o8
   else
    ( if(p0.Kind==11) then
      some (p0.Kind==11)
     else
      some (p0.Kind==12):Option (Bool))>>=fun o12 =>
    if o12 then
     ( Qnx p0.Name>>=fun x14 =>
      if x14 then
       if o1 then
        Qo6 p0.Then true>>=fun x15 =>
        if x15 then
         Qei p0 true false false true true>>=fun x16 =>
         some x16
        else
         some false
       else
        some false
      else
       some false:Option (Bool))>>=fun o13 =>
     some o13
    else
     if(p0.Kind==13) then
      ( Qnx p0.Name>>=fun x18 =>
       if x18 then
        if o1 then
         Qei p0 true false false true false>>=fun x19 =>
         some x19
        else
         some false
       else
        some false:Option (Bool))>>=fun o17 =>
      some o17
     else
      some false
 partial_fixpoint
end
mutual
noncomputable def Qes (p0:(List Qab)) (p1:(List Qab)):Option (Bool) :=
 if((p0.length:Int) != (p1.length:Int)) then
  some false
 else
  (Qe6 p0 p1 0)>>=fun o1 =>
  match o1 with
  | .inl y2 =>
   some true
  | .inr y3 =>
   some false
 partial_fixpoint
noncomputable def Qe6 (p0:(List Qab)) (p1:(List Qab)) (v5:Int):Option (Unit⊕Unit) :=
 if(decide (v5<(p0.length:Int))) then
  ( idx p0 v5>>=fun x5 =>
   idx p1 v5>>=fun x6 =>
   some (x5.Kind,x5.Name,x5.Text,x5.N,x5.L,x5.Then,x5.Else,x6.Kind,x6.Name,x6.Text,x6.N,x6.L,x6.Then,x6.Else):Option ((Int×(List UInt8)×(List UInt8)×Int×(List Qab)×(List Qab)×(List Qab)×Int×(List UInt8)×(List UInt8)×Int×(List Qab)×(List Qab)×(List Qab))))>>=fun o4 =>
  ( if(o4.1 != o4.2.2.2.2.2.2.2.1) then
    some true
   else
    if(!(o4.2.1==o4.2.2.2.2.2.2.2.2.1)) then
     some true
    else
     if(!(o4.2.2.1==o4.2.2.2.2.2.2.2.2.2.1)) then
      some true
     else
      if(o4.2.2.2.1 != o4.2.2.2.2.2.2.2.2.2.2.1) then
       some true
      else
       Qes o4.2.2.2.2.1 o4.2.2.2.2.2.2.2.2.2.2.2.1>>=fun x8 =>
       if(!x8) then
        some true
       else
        Qes o4.2.2.2.2.2.1 o4.2.2.2.2.2.2.2.2.2.2.2.2.1>>=fun x9 =>
        if(!x9) then
         some true
        else
         Qes o4.2.2.2.2.2.2.1 o4.2.2.2.2.2.2.2.2.2.2.2.2.2>>=fun x10 =>
         some (!x10):Option (Bool))>>=fun o7 =>
  if o7 then
   some (.inr ())
  else
   Qe6 p0 p1 (wr (v5+1))
 else
  some (.inl ())
 partial_fixpoint
end
theorem Qte:(∀ (p0:(List Qab)) (p1:(List Qab)) (o:Bool),Qes p0 p1=some o→PCall Tryd.prog 23 [.sl false (p0.map Qae),.sl false (p1.map Qae)] (Qdr o))∧(∀ (p0:(List Qab)) (p1:(List Qab)) (v5:Int) (o1:Unit⊕Unit),Qe6 p0 p1 v5=some o1→TL (0,0) Tryd.prog 77 Qrh (JP2 (0,0) 77 o1 (.exit 0) (Qk4 p0 p1) .ret (Qk5 p0 p1)) (Qh9 p0 p1 v5)):=by
 refine Qes.mutual_partial_correctness _ _ ?_ ?_
 ·intro Qe6' iQe6 p0 p1 o h
  refine PCall.ofB mixed tbOk Qoo Tryd.func23 rfl (by kernel_rfl) (Nat.le_of_ble_eq_true rfl) ?_
  refine view (lenMap _ _) rfl ?_
  refine view (lenMap _ _) rfl ?_
  refine Qaf h (fun hb h=>?_) (fun hb h=>?_)
  ·refine Qbw (t:=Qdr) h ?_
   exact .refl _
  ·refine Qah h (fun o1 ho hk=>?_)
   refine Exists.intro (JP2 _ _ o1 (.exit 0) (Qk4 p0 p1) .ret (Qk5 p0 p1)) (And.intro (T_le (τ := Qh9 p0 p1 0) ?_ (TL.loop (iQe6 p0 p1 0 o1 ho))) (join2 (fun y2 hy=>?_) (fun y3 hy=>?_)))
   ·exact Le.tz 0 0 rfl rfl rfl
   ·have h:=(by rw[hy] at hk; exact hk)
    refine Qbw (t:=Qdr) h ?_
    exact .refl _
   ·have h:=(by rw[hy] at hk; exact hk)
    refine Qbw (t:=Qdr) h ?_
    exact .refl _
 ·intro Qes' Qe6' iQes iQe6 p0 p1 v5 o1 h
  refine TL.round (Qan mixed tbOk (lv:=Qoo) _ _ _ ?_)
  refine view (lenMap _ _) rfl ?_
  refine Qaf h (fun hb h=>?_) (fun hb h=>?_)
  ·refine Qah h (fun o4 ho hk=>?_)
   refine Exists.intro (JP1 _ _ o4 .normal (Qrf p0 p1 v5)) (And.intro ?_ (join1 ?_))
   ·have h:=ho
    refine And.intro (by decide +kernel) (And.intro (by decide +kernel) (And.intro (by decide +kernel) (And.intro rfl ?_)))
    refine Qm9 (l:=p0) (c:=Qae) (c' := Qdq) h Qau (fun _=>rfl) (by decide) (fun x5 hi h=>?_)
    refine Qm9 (l:=p1) (c:=Qae) (c' := Qdq) h Qau (fun _=>rfl) (by decide) (fun x6 hi h=>?_)
    refine And.intro (Nat.le_of_ble_eq_true rfl) (And.intro ?_ ?_)
    ·refine JP1.a h ?_
     exact Le.tz 2 0 rfl rfl rfl
    ·refine JP1.a h ?_
     exact Le.trans (τ := ⟨[(0,.p (.sl false (p0.map Qae))),(1,.p (.sl false (p1.map Qae))),(5,.p (iV v5)),(6,.ptr 0 0),(7,.ptr 1 0)],⟨[[.p (iV x5.Kind),.p (sV x5.Name),.p (sV x5.Text),.p (iV x5.N),.p (.sl false (x5.L.map Qae)),.p (.sl false (x5.Then.map Qae)),.p (.sl false (x5.Else.map Qae))],[.p (iV x6.Kind),.p (sV x6.Name),.p (sV x6.Text),.p (iV x6.N),.p (.sl false (x6.L.map Qae)),.p (.sl false (x6.Then.map Qae)),.p (.sl false (x6.Else.map Qae))]],[]⟩⟩) (Le.perm [1,0] rfl rfl rfl) (Le.tz 2 0 rfl rfl rfl)
   ·have h:=hk
    refine Qah h (fun o7 ho hk=>?_)
    refine Exists.intro (JP1 _ _ o7 .normal (Qrg p0 p1 v5 o4)) (And.intro ?_ (join1 ?_))
    ·have h:=ho
     refine Qaf h (fun hb h=>?_) (fun hb h=>?_)
     ·refine bT ?_
      refine bT ?_
      refine bT ?_
      refine bT ?_
      refine bT ?_
      refine JP1.a h ?_
      exact Le.tz 2 0 rfl rfl rfl
     ·refine Qaf h (fun hb h=>?_) (fun hb h=>?_)
      ·refine bT ?_
       refine bT ?_
       refine bT ?_
       refine bT ?_
       refine JP1.a h ?_
       exact Le.tz 2 0 rfl rfl rfl
      ·refine Qaf h (fun hb h=>?_) (fun hb h=>?_)
       ·refine bT ?_
        refine bT ?_
        refine bT ?_
        refine JP1.a h ?_
        exact Le.tz 2 0 rfl rfl rfl
       ·refine Qaf h (fun hb h=>?_) (fun hb h=>?_)
        ·refine bT ?_
         refine bT ?_
         refine JP1.a h ?_
         exact Le.tz 2 0 rfl rfl rfl
        ·refine Qax [.sl false (o4.2.2.2.2.1.map Qae),.sl false (o4.2.2.2.2.2.2.2.2.2.2.2.1.map Qae)] Qdr h (fun x8 hy=>(iQes o4.2.2.2.2.1 o4.2.2.2.2.2.2.2.2.2.2.2.1 x8 hy)) (fun x8 hy h=>?_)
         refine Qaf h (fun hb h=>?_) (fun hb h=>?_)
         ·refine bT ?_
          refine JP1.a h ?_
          exact Le.tz 2 0 rfl rfl rfl
         ·refine Qax [.sl false (o4.2.2.2.2.2.1.map Qae),.sl false (o4.2.2.2.2.2.2.2.2.2.2.2.2.1.map Qae)] Qdr h (fun x9 hy=>(iQes o4.2.2.2.2.2.1 o4.2.2.2.2.2.2.2.2.2.2.2.2.1 x9 hy)) (fun x9 hy h=>?_)
          refine Qaf h (fun hb h=>?_) (fun hb h=>?_)
          ·refine JP1.a h ?_
           exact Le.tz 2 0 rfl rfl rfl
          ·refine Qax [.sl false (o4.2.2.2.2.2.2.1.map Qae),.sl false (o4.2.2.2.2.2.2.2.2.2.2.2.2.2.map Qae)] Qdr h (fun x10 hy=>(iQes o4.2.2.2.2.2.2.1 o4.2.2.2.2.2.2.2.2.2.2.2.2.2 x10 hy)) (fun x10 hy h=>?_)
           refine JP1.a h ?_
           exact Le.tz 2 0 rfl rfl rfl
    ·have h:=hk
     refine Qaf h (fun hb h=>?_) (fun hb h=>?_)
     ·exact JP2.b h (Le.tz 0 0 rfl rfl rfl)
     ·refine TL.le (τ := Qh9 p0 p1 (wr (v5+1))) ?_ ((iQe6 p0 p1 (wr (v5+1)) _ h))
      exact Le.tz 0 0 rfl rfl rfl
  ·exact JP2.a h (Le.tz 0 0 rfl rfl rfl)
theorem Qo7:∀ (p0:(List Qab)) (p1:(List Qab)) (o:Bool),Qes p0 p1=some o→PCall Tryd.prog 23 [.sl false (p0.map Qae),.sl false (p1.map Qae)] (Qdr o):=fun p0 p1=>Qte.1 p0 p1
noncomputable def Qbn (p0:(List UInt8)) (p1:(List UInt8)):Option (Bool) :=
 ( if(decide ((p0.length:Int) ≥ (p1.length:Int))) then
   cutL p0 0 (p1.length:Int)>>=fun x2 =>
   some (x2==p1)
  else
   some false:Option (Bool))>>=fun o1 =>
 some o1
theorem Qfq:∀ (p0:(List UInt8)) (p1:(List UInt8)) (o:Bool),Qbn p0 p1=some o→PCall Tryd.prog 92 [sV p0,sV p1] (Qbz o):=by
 intro p0 p1 o h
 unfold Qbn at h
 refine PCall.ofB mixed tbOk Qfg Tryd.func92 rfl (by kernel_rfl) (Nat.le_of_ble_eq_true rfl) ?_
 refine Qah h (fun o1 ho hk=>?_)
 refine Exists.intro (JP1 _ _ o1 .normal (Qez )) (And.intro ?_ (join1 ?_))
 ·have h:=ho
  refine vrfl ?_
  refine vrfl ?_
  refine Qaf h (fun hb h=>?_) (fun hb h=>?_)
  ·refine vrfl ?_
   refine Qhn none (some (p1.length:Int)) h (fun x2 hi h=>?_)
   refine JP1.a h ?_
   exact Le.tz 0 0 rfl rfl rfl
  ·refine JP1.a h ?_
   exact Le.tz 0 0 rfl rfl rfl
 ·have h:=hk
  refine Qbw (t:=Qbz) h ?_
  exact .refl _
noncomputable def Qb1 (p0:(List UInt8)) (p1:(List UInt8)):Option (Int) :=
 need (p0.length<4294967281)>>=fun _ =>
 some (Lib.index p0 p1)
theorem Qg3:∀ (p0:(List UInt8)) (p1:(List UInt8)) (o:Int),Qb1 p0 p1=some o→PCall Tryd.prog 94 [sV p0,sV p1] (Qd0 o):=by
 intro p0 p1 o h
 unfold Qb1 at h
 obtain⟨h1,h⟩:=Qly h
 cases h
 exact Q0k _ _ h1
noncomputable def Qet (p0:(List UInt8)) (p1:(List UInt8)):Option ((List UInt8)) :=
 need (p1.length<4294967281)>>=fun _ =>
 need (p1.all (fun b=>decide (b.toNat<128))=true)>>=fun _ =>
 some (Lib.trimLeftS p0 p1)
theorem Qlj:∀ (p0:(List UInt8)) (p1:(List UInt8)) (o:(List UInt8)),Qet p0 p1=some o→PCall Tryd.prog 107 [sV p0,sV p1] (Qh2 o):=by
 intro p0 p1 o h
 unfold Qet at h
 obtain⟨h1,h⟩:=Qly h
 obtain⟨h2,h⟩:=Qly h
 cases h
 exact Quo _ _ h1 h2
noncomputable def Qbx (h0_0:(List UInt8)) (h0_1:Int) (h0_2:(List Qaa)):Option (Int) :=
 cutL h0_0 h0_1 (h0_0.length:Int)>>=fun x1 =>
 Qet x1 [32,9,10,13]>>=fun x2 =>
 some (wr ((h0_0.length:Int)-(x2.length:Int)))
theorem Qfr:∀ (h0_0:(List UInt8)) (h0_1:Int) (h0_2:(List Qaa)) (o:Int),Qbx h0_0 h0_1 h0_2=some o→CallOK Tryd.prog 78 [.ptr 0 0] ⟨[[.p (sV h0_0),.p (iV h0_1),.own 0 106 5 (h0_2.map Qac)]],[(h0_2.map Qac).length]⟩ (Qfx o) ⟨[[.p (sV h0_0),.p (iV o),.own 0 106 5 (h0_2.map Qac)]],[(h0_2.map Qac).length]⟩:=by
 intro h0_0 h0_1 h0_2 o h
 unfold Qbx at h
 refine CallOK.ofB mixed tbOk Qi0 Tryd.func78 rfl (by kernel_rfl) (Nat.le_of_ble_eq_true rfl) rfl rfl rfl ?_
 refine And.intro (by decide +kernel) (And.intro rfl ?_)
 refine vrfl ?_
 refine Qhn (some h0_1) none h (fun x1 hi h=>?_)
 refine Q0c [sV x1,sV [32,9,10,13]] Qh2 h (fun x2 hy=>(Qlj x1 [32,9,10,13] x2 hy)) (fun x2 hy h=>?_)
 refine vrfl ?_
 refine Exists.intro _ (And.intro (Le.refl _ _ _) ?_)
 exact Qb4 (t:=Qfx) (ss:=fun o=>⟨[[.p (sV h0_0),.p (iV o),.own 0 106 5 (h0_2.map Qac)]],[(h0_2.map Qac).length]⟩) h ⟨[0],rfl,.refl _,.refl _,rfl⟩
noncomputable def Qap (p1:Int) (p2:(List UInt8)) (p3:Int) (p4:Int) (h0_0:(List UInt8)) (h0_1:Int) (h0_2:(List Qaa)):Option (Int×(List Qaa)) :=
 appL 48 h0_2 [(Qaa.mk p1 p2 p3 h0_1 (wr (h0_1+p4)))]>>=fun x1 =>
 some ((wr (h0_1+p4)),x1)
theorem Qbk:∀ (p1:Int) (p2:(List UInt8)) (p3:Int) (p4:Int) (h0_0:(List UInt8)) (h0_1:Int) (h0_2:(List Qaa)) (o:Int×(List Qaa)),Qap p1 p2 p3 p4 h0_0 h0_1 h0_2=some o→CallOK Tryd.prog 77 [.ptr 0 0,.p (iV p1),.p (sV p2),.p (iV p3),.p (iV p4)] ⟨[[.p (sV h0_0),.p (iV h0_1),.own 0 106 5 (h0_2.map Qac)]],[(h0_2.map Qac).length]⟩ (Qho o) ⟨[[.p (sV h0_0),.p (iV o.1),.own 0 106 5 (o.2.map Qac)]],[(o.2.map Qac).length]⟩:=by
 intro p1 p2 p3 p4 h0_0 h0_1 h0_2 o h
 unfold Qap at h
 refine CallOK.ofB mixed tbOk Qku Tryd.func77 rfl (by kernel_rfl) (Nat.le_of_ble_eq_true rfl) rfl rfl rfl ?_
 refine And.intro (by decide +kernel) (And.intro rfl ?_)
 refine Qrc (a:=h0_2) (b:=[(Qaa.mk p1 p2 p3 h0_1 (wr (h0_1+p4)))]) (c:=Qac) h (.refl _) (fun _=>rfl) rfl (fun x1 hi h=>?_)
 refine Exists.intro _ (And.intro (Le.refl _ _ _) ?_)
 exact Qb4 (t:=Qho) (ss:=fun o=>⟨[[.p (sV h0_0),.p (iV o.1),.own 0 106 5 (o.2.map Qac)]],[(o.2.map Qac).length]⟩) h ⟨[0],rfl,.refl _,.refl _,rfl⟩
noncomputable def Qgm (p0:Int):Option (Bool) :=
 ( if(decide (p0 ≥ 48)) then
   some (decide (p0≤57))
  else
   some false:Option (Bool))>>=fun o1 =>
 some o1
theorem Qh3:∀ (p0:Int) (o:Bool),Qgm p0=some o→PCall Tryd.prog 109 [nV .u8 p0] (Qf1 o):=by
 intro p0 o h
 unfold Qgm at h
 refine PCall.ofB mixed tbOk Qta Tryd.func109 rfl (by kernel_rfl) (Nat.le_of_ble_eq_true rfl) ?_
 refine Qah h (fun o1 ho hk=>?_)
 refine Exists.intro (JP1 _ _ o1 .normal (Qpq )) (And.intro ?_ (join1 ?_))
 ·have h:=ho
  refine Qaf h (fun hb h=>?_) (fun hb h=>?_)
  ·refine JP1.a h ?_
   exact Le.tz 0 0 rfl rfl rfl
  ·refine JP1.a h ?_
   exact Le.tz 0 0 rfl rfl rfl
 ·have h:=hk
  refine Qbw (t:=Qf1) h ?_
  exact .refl _
noncomputable def Qf3 (p0:Int):Option (Bool) :=
 ( if(decide (p0 ≥ 97)) then
   if(decide (p0≤122)) then
    some true
   else
    Qgm p0>>=fun x2 =>
    if x2 then
     some true
    else
     some (p0==95)
  else
   Qgm p0>>=fun x3 =>
   if x3 then
    some true
   else
    some (p0==95):Option (Bool))>>=fun o1 =>
 some o1
theorem Qi7:∀ (p0:Int) (o:Bool),Qf3 p0=some o→PCall Tryd.prog 111 [nV .u8 p0] (Qgg o):=by
 intro p0 o h
 unfold Qf3 at h
 refine PCall.ofB mixed tbOk Qrj Tryd.func111 rfl (by kernel_rfl) (Nat.le_of_ble_eq_true rfl) ?_
 refine Qah h (fun o1 ho hk=>?_)
 refine Exists.intro (JP1 _ _ o1 .normal (Qov )) (And.intro ?_ (join1 ?_))
 ·have h:=ho
  refine Qaf h (fun hb h=>?_) (fun hb h=>?_)
  ·refine Qaf h (fun hb h=>?_) (fun hb h=>?_)
   ·refine bT ?_
    refine JP1.a h ?_
    exact Le.tz 0 0 rfl rfl rfl
   ·refine Qax [nV .u8 p0] Qf1 h (fun x2 hy=>(Qh3 p0 x2 hy)) (fun x2 hy h=>?_)
    refine Qaf h (fun hb h=>?_) (fun hb h=>?_)
    ·refine JP1.a h ?_
     exact Le.tz 0 0 rfl rfl rfl
    ·refine JP1.a h ?_
     exact Le.tz 0 0 rfl rfl rfl
  ·refine bF ?_
   refine Qax [nV .u8 p0] Qf1 h (fun x3 hy=>(Qh3 p0 x3 hy)) (fun x3 hy h=>?_)
   refine Qaf h (fun hb h=>?_) (fun hb h=>?_)
   ·refine JP1.a h ?_
    exact Le.tz 0 0 rfl rfl rfl
   ·refine JP1.a h ?_
    exact Le.tz 0 0 rfl rfl rfl
 ·have h:=hk
  refine Qbw (t:=Qgg) h ?_
  exact .refl _
noncomputable def Qao (h0_0:(List UInt8)) (h0_1:Int) (h0_2:(List Qaa)) (v7:Int):Option (Int) :=
 ( if(decide (v7<(h0_0.length:Int))) then
   idx h0_0 v7>>=fun x3 =>
   Qgm (x3.toNat:Int)>>=fun x4 =>
   some x4
  else
   some false:Option (Bool))>>=fun o2 =>
 if o2 then
  Qao h0_0 h0_1 h0_2 (wr (v7+1))
 else
  some v7
 partial_fixpoint
theorem Qfu:∀ (h0_0:(List UInt8)) (h0_1:Int) (h0_2:(List Qaa)),(∀ (v7:Int) (o1:Int),Qao h0_0 h0_1 h0_2 v7=some o1→TL (1,1) Tryd.prog 38 Qda (JP1 (1,1) 38 o1 (.exit 0) (Qb5 h0_0 h0_1 h0_2)) (Qbi h0_0 h0_1 h0_2 v7)):=by
 intro h0_0 h0_1 h0_2
 refine Qao.partial_correctness h0_0 h0_1 h0_2 _ ?_
 intro Qao' iQao v7 o1 h
 refine TL.round (Qan mixed tbOk (lv:=Qd2) _ _ _ ?_)
 refine Qah h (fun o2 ho hk=>?_)
 refine Exists.intro (JP1 _ _ o2 .normal (Qgh h0_0 h0_1 h0_2 v7)) (And.intro ?_ (join1 ?_))
 ·have h:=ho
  refine vrfl ?_
  refine Qaf h (fun hb h=>?_) (fun hb h=>?_)
  ·refine Qff h (fun x3 hi h=>?_)
   refine Qax [nV .u8 (x3.toNat:Int)] Qf1 h (fun x4 hy=>(Qh3 (x3.toNat:Int) x4 hy)) (fun x4 hy h=>?_)
   refine JP1.a h ?_
   exact Le.tz 1 1 rfl rfl rfl
  ·refine JP1.a h ?_
   exact Le.tz 1 1 rfl rfl rfl
 ·have h:=hk
  refine Qaf h (fun hb h=>?_) (fun hb h=>?_)
  ·refine TL.le (τ := Qbi h0_0 h0_1 h0_2 (wr (v7+1))) ?_ ((iQao (wr (v7+1)) _ h))
   exact Le.tz 1 1 rfl rfl rfl
  ·exact JP1.a h (Le.tz 1 1 rfl rfl rfl)
theorem Qf4:∀ (h0_0:(List UInt8)) (h0_1:Int) (h0_2:(List Qaa)) (v7:Int) (o1:Int),Qao h0_0 h0_1 h0_2 v7=some o1→TL (1,1) Tryd.prog 38 Qda (JP1 (1,1) 38 o1 (.exit 0) (Qb5 h0_0 h0_1 h0_2)) (Qbi h0_0 h0_1 h0_2 v7):=fun h0_0 h0_1 h0_2 v7=>(Qfu h0_0 h0_1 h0_2) v7
noncomputable def Qb6 (p1:Int) (h0_0:(List UInt8)) (h0_1:Int) (h0_2:(List Qaa)):Option ((List UInt8)) :=
 (Qao h0_0 h0_1 h0_2 p1)>>=fun o1 =>
 cutL h0_0 h0_1 o1>>=fun x5 =>
 some x5
theorem Qhb:∀ (p1:Int) (h0_0:(List UInt8)) (h0_1:Int) (h0_2:(List Qaa)) (o:(List UInt8)),Qb6 p1 h0_0 h0_1 h0_2=some o→CallOK Tryd.prog 142 [.ptr 0 0,.p (iV p1),.fn (.func 109) [] []] ⟨[[.p (sV h0_0),.p (iV h0_1),.own 0 106 5 (h0_2.map Qac)]],[(h0_2.map Qac).length]⟩ (Qd9 o) ⟨[[.p (sV h0_0),.p (iV h0_1),.own 0 106 5 (h0_2.map Qac)]],[(h0_2.map Qac).length]⟩:=by
 intro p1 h0_0 h0_1 h0_2 o h
 unfold Qb6 at h
 refine CallOK.ofB mixed tbOk Qd2 Tryd.func142 rfl (by kernel_rfl) (Nat.le_of_ble_eq_true rfl) rfl rfl rfl ?_
 refine Qah h (fun o1 ho hk=>?_)
 refine Exists.intro (JP1 _ _ o1 (.exit 0) (Qb5 h0_0 h0_1 h0_2)) (And.intro (T_le (τ := Qbi h0_0 h0_1 h0_2 p1) ?_ (TL.loop (Qf4 h0_0 h0_1 h0_2 p1 o1 ho))) (join1 ?_))
 ·exact Le.tz 1 1 rfl rfl rfl
 have h:=hk
 refine And.intro (by decide +kernel) (And.intro rfl ?_)
 refine Qhn (some h0_1) (some o1) h (fun x5 hi h=>?_)
 refine Exists.intro _ (And.intro (Le.refl _ _ _) ?_)
 exact Qb4 (t:=Qd9) (ss:=fun o=>⟨[[.p (sV h0_0),.p (iV h0_1),.own 0 106 5 (h0_2.map Qac)]],[(h0_2.map Qac).length]⟩) h ⟨[0],rfl,.refl _,.refl _,rfl⟩
noncomputable def Qh4 (p0:(List UInt8)):Option (Int×Bool) :=
 need (p0.length≤9223372036854775807)>>=fun _ =>
 some (numP p0)
theorem Qo8:∀ (p0:(List UInt8)) (o:Int×Bool),Qh4 p0=some o→PCall Tryd.prog 143 [sV p0] (Qk6 o):=by
 intro p0 o h
 unfold Qh4 at h
 obtain⟨h1,h⟩:=Qly h
 cases h
 exact Qyq _ h1
noncomputable def Qcm (h0_0:(List UInt8)) (h0_1:Int) (h0_2:(List Qaa)):Option (Bool×Int×(List Qaa)) :=
 Qb6 (wr (h0_1+1)) h0_0 h0_1 h0_2>>=fun x1 =>
 Qh4 x1>>=fun x2 =>
 if x2.2 then
  Qap 6 [] x2.1 (x1.length:Int) h0_0 h0_1 h0_2>>=fun x3 =>
  some (x2.2,x3.1,x3.2)
 else
  some (x2.2,h0_1,h0_2)
theorem Qj4:∀ (h0_0:(List UInt8)) (h0_1:Int) (h0_2:(List Qaa)) (o:Bool×Int×(List Qaa)),Qcm h0_0 h0_1 h0_2=some o→CallOK Tryd.prog 110 [.ptr 0 0] ⟨[[.p (sV h0_0),.p (iV h0_1),.own 0 106 5 (h0_2.map Qac)]],[(h0_2.map Qac).length]⟩ (Qel o) ⟨[[.p (sV h0_0),.p (iV o.2.1),.own 0 106 5 (o.2.2.map Qac)]],[(o.2.2.map Qac).length]⟩:=by
 intro h0_0 h0_1 h0_2 o h
 unfold Qcm at h
 refine CallOK.ofB mixed tbOk Qjw Tryd.func110 rfl (by kernel_rfl) (Nat.le_of_ble_eq_true rfl) rfl rfl rfl ?_
 refine Qar _ _ h (fun x1 hy=>((Qhb (wr (h0_1+1)) h0_0 h0_1 h0_2 x1 hy).fr [0] [0] rfl rfl rfl)) (fun x1 hy h=>?_)
 refine Qax [sV x1] Qk6 h (fun x2 hy=>(Qo8 x1 x2 hy)) (fun x2 hy h=>?_)
 refine Qaf h (fun hb h=>?_) (fun hb h=>?_)
 ·refine vrfl ?_
  refine Qar _ _ h (fun x3 hy=>((Qbk 6 [] x2.1 (x1.length:Int) h0_0 h0_1 h0_2 x3 hy).fr [0] [0] rfl rfl rfl)) (fun x3 hy h=>?_)
  refine Exists.intro _ (And.intro (Le.refl _ _ _) ?_)
  exact Qb4 (t:=Qel) (ss:=fun o=>⟨[[.p (sV h0_0),.p (iV o.2.1),.own 0 106 5 (o.2.2.map Qac)]],[(o.2.2.map Qac).length]⟩) h ⟨[0],rfl,.refl _,.refl _,rfl⟩
 ·refine Exists.intro _ (And.intro (Le.refl _ _ _) ?_)
  exact Qb4 (t:=Qel) (ss:=fun o=>⟨[[.p (sV h0_0),.p (iV o.2.1),.own 0 106 5 (o.2.2.map Qac)]],[(o.2.2.map Qac).length]⟩) h ⟨[0],rfl,.refl _,.refl _,rfl⟩
noncomputable def Qa0 (h0_0:(List UInt8)) (h0_1:Int) (h0_2:(List Qaa)) (v13:Int):Option (Unit⊕(Int×(List Qaa))) :=
 if(decide (v13<5)) then
  idx ([(Qgr.mk 46 7),(Qgr.mk 40 8),(Qgr.mk 41 9),(Qgr.mk 44 10),(Qgr.mk 61 11)]:List Qgr) v13>>=fun x4 =>
  idx h0_0 h0_1>>=fun x5 =>
  if((x5.toNat:Int)==x4.c_) then
   Qap x4.k_ [] 0 1 h0_0 h0_1 h0_2>>=fun x6 =>
   some (.inr (x6.1,x6.2))
  else
   Qa0 h0_0 h0_1 h0_2 (wr (v13+1))
 else
  some (.inl ())
 partial_fixpoint
theorem Qi8:∀ (h0_0:(List UInt8)) (h0_1:Int) (h0_2:(List Qaa)),(∀ (v13:Int) (o1:Unit⊕(Int×(List Qaa))),Qa0 h0_0 h0_1 h0_2 v13=some o1→TL (1,1) Tryd.prog 33 Qgi (JP2 (1,1) 33 o1 (.exit 0) (Qdw h0_0 h0_1 h0_2) .ret (Qdx h0_0 h0_1 h0_2)) (Qci h0_0 h0_1 h0_2 v13)):=by
 intro h0_0 h0_1 h0_2
 refine Qa0.partial_correctness h0_0 h0_1 h0_2 _ ?_
 intro Qa0' iQa0 v13 o1 h
 refine TL.round (Qan mixed tbOk (lv:=Qhp) _ _ _ ?_)
 refine Qaf h (fun hb h=>?_) (fun hb h=>?_)
 ·refine Q0j (l:=([(Qgr.mk 46 7),(Qgr.mk 40 8),(Qgr.mk 41 9),(Qgr.mk 44 10),(Qgr.mk 61 11)]:List Qgr)) (c:=fun x4=>[nV .u8 x4.c_,iV x4.k_]) h rfl rfl rfl (fun _=>rfl) rfl (fun x4 hi h=>?_)
  refine And.intro (by decide +kernel) (And.intro rfl ?_)
  refine Qff h (fun x5 hi h=>?_)
  refine Qaf h (fun hb h=>?_) (fun hb h=>?_)
  ·refine Qar _ _ h (fun x6 hy=>((Qbk x4.k_ [] 0 1 h0_0 h0_1 h0_2 x6 hy).fr [0] [0] rfl rfl rfl)) (fun x6 hy h=>?_)
   exact JP2.b h (Le.tz 2 1 rfl rfl rfl)
  ·refine TL.le (τ := Qci h0_0 h0_1 h0_2 (wr (v13+1))) ?_ ((iQa0 (wr (v13+1)) _ h))
   exact Le.tz 2 1 rfl rfl rfl
 ·exact JP2.a h (Le.tz 2 1 rfl rfl rfl)
theorem Qjm:∀ (h0_0:(List UInt8)) (h0_1:Int) (h0_2:(List Qaa)) (v13:Int) (o1:Unit⊕(Int×(List Qaa))),Qa0 h0_0 h0_1 h0_2 v13=some o1→TL (1,1) Tryd.prog 33 Qgi (JP2 (1,1) 33 o1 (.exit 0) (Qdw h0_0 h0_1 h0_2) .ret (Qdx h0_0 h0_1 h0_2)) (Qci h0_0 h0_1 h0_2 v13):=fun h0_0 h0_1 h0_2 v13=>(Qi8 h0_0 h0_1 h0_2) v13
noncomputable def Qdn (h0_0:(List UInt8)) (h0_1:Int) (h0_2:(List Qaa)):Option (Bool×Int×(List Qaa)) :=
 (Qa0 h0_0 h0_1 h0_2 0)>>=fun o1 =>
 match o1 with
 | .inl y2 =>
  some (false,h0_1,h0_2)
 | .inr y3 =>
  some (true,y3.1,y3.2)
theorem Qlk:∀ (h0_0:(List UInt8)) (h0_1:Int) (h0_2:(List Qaa)) (o:Bool×Int×(List Qaa)),Qdn h0_0 h0_1 h0_2=some o→CallOK Tryd.prog 113 [.ptr 0 0] ⟨[[.p (sV h0_0),.p (iV h0_1),.own 0 106 5 (h0_2.map Qac)]],[(h0_2.map Qac).length]⟩ (Qfj o) ⟨[[.p (sV h0_0),.p (iV o.2.1),.own 0 106 5 (o.2.2.map Qac)]],[(o.2.2.map Qac).length]⟩:=by
 intro h0_0 h0_1 h0_2 o h
 unfold Qdn at h
 refine CallOK.ofB mixed tbOk Qhp Tryd.func113 rfl (by kernel_rfl) (Nat.le_of_ble_eq_true rfl) rfl rfl rfl ?_
 refine Qah h (fun o1 ho hk=>?_)
 refine Exists.intro (JP2 _ _ o1 (.exit 0) (Qdw h0_0 h0_1 h0_2) .ret (Qdx h0_0 h0_1 h0_2)) (And.intro (T_le (τ := Qci h0_0 h0_1 h0_2 0) ?_ (TL.loop (Qjm h0_0 h0_1 h0_2 0 o1 ho))) (join2 (fun y2 hy=>?_) (fun y3 hy=>?_)))
 ·exact Le.tz 2 1 rfl rfl rfl
 ·have h:=(by rw[hy] at hk; exact hk)
  refine Exists.intro _ (And.intro (Le.refl _ _ _) ?_)
  exact Qb4 (t:=Qfj) (ss:=fun o=>⟨[[.p (sV h0_0),.p (iV o.2.1),.own 0 106 5 (o.2.2.map Qac)]],[(o.2.2.map Qac).length]⟩) h ⟨[0],rfl,.refl _,.refl _,rfl⟩
 ·have h:=(by rw[hy] at hk; exact hk)
  refine Exists.intro _ (And.intro (Le.refl _ _ _) ?_)
  exact Qb4 (t:=Qfj) (ss:=fun o=>⟨[[.p (sV h0_0),.p (iV o.2.1),.own 0 106 5 (o.2.2.map Qac)]],[(o.2.2.map Qac).length]⟩) h ⟨[0],rfl,.refl _,.refl _,rfl⟩
noncomputable def Qhu (p0:Int):Option (Int×Bool) :=
 if(p0==110) then
  some (10,true)
 else
  if(p0==116) then
   some (9,true)
  else
   ( if(p0==34) then
     some true
    else
     some (p0==92):Option (Bool))>>=fun o1 =>
   some (p0,o1)
theorem Qpu:∀ (p0:Int) (o:Int×Bool),Qhu p0=some o→PCall Tryd.prog 141 [nV .u8 p0] (Qfi o):=by
 intro p0 o h
 unfold Qhu at h
 refine PCall.ofB mixed tbOk Qpr Tryd.func141 rfl (by kernel_rfl) (Nat.le_of_ble_eq_true rfl) ?_
 refine Qaf h (fun hb h=>?_) (fun hb h=>?_)
 ·refine Qbw (t:=Qfi) h ?_
  exact .refl _
 ·refine Qaf h (fun hb h=>?_) (fun hb h=>?_)
  ·refine Qbw (t:=Qfi) h ?_
   exact .refl _
  ·refine Qah h (fun o1 ho hk=>?_)
   refine Exists.intro (JP1 _ _ o1 .normal (Qni p0)) (And.intro ?_ (join1 ?_))
   ·have h:=ho
    refine Qaf h (fun hb h=>?_) (fun hb h=>?_)
    ·refine JP1.a h ?_
     exact Le.tz 0 0 rfl rfl rfl
    ·refine JP1.a h ?_
     exact Le.tz 0 0 rfl rfl rfl
   ·have h:=hk
    refine Qbw (t:=Qfi) h ?_
    exact .refl _
noncomputable def Qa2 (h0_0:Bool) (h0_1:(List Int)):Option (Bool) :=
 some true
theorem Qdb:∀ (h0_0:Bool) (h0_1:(List Int)) (o:Bool),Qa2 h0_0 h0_1=some o→CallOK Tryd.prog 53 [.ptr 0 0] ⟨[[.sp Tryd.prog 44 h0_0 0 0,.own 0 5 1 (h0_1.map (cNum .u8))]],[(h0_1.map (cNum .u8)).length]⟩ (Qgy o) ⟨[[.sp Tryd.prog 44 o 0 0,.own 0 5 1 (h0_1.map (cNum .u8))]],[(h0_1.map (cNum .u8)).length]⟩:=by
 intro h0_0 h0_1 o h
 unfold Qa2 at h
 cases h
 exact Qs8 [[.sp Tryd.prog 44 h0_0 0 0,.own 0 5 1 (h0_1.map (cNum .u8))]] _ 0 [.sp Tryd.prog 44 h0_0 0 0,.own 0 5 1 (h0_1.map (cNum .u8))] rfl rfl
noncomputable def Qbh (p1:Int) (h0_0:Bool) (h0_1:(List Int)):Option (Unit×Bool×(List Int)) :=
 Qa2 h0_0 h0_1>>=fun x1 =>
 appL 1 h0_1 [p1]>>=fun x2 =>
 some ((),x1,x2)
theorem Qgn:∀ (p1:Int) (h0_0:Bool) (h0_1:(List Int)) (o:Unit×Bool×(List Int)),Qbh p1 h0_0 h0_1=some o→CallOK Tryd.prog 39 [.ptr 0 0,.p (nV .u8 p1)] ⟨[[.sp Tryd.prog 44 h0_0 0 0,.own 0 5 1 (h0_1.map (cNum .u8))]],[(h0_1.map (cNum .u8)).length]⟩ (Qdm o) ⟨[[.sp Tryd.prog 44 o.2.1 0 0,.own 0 5 1 (o.2.2.map (cNum .u8))]],[(o.2.2.map (cNum .u8)).length]⟩:=by
 intro p1 h0_0 h0_1 o h
 unfold Qbh at h
 refine CallOK.ofB mixed tbOk Qgl Tryd.func39 rfl (by kernel_rfl) (Nat.le_of_ble_eq_true rfl) rfl rfl rfl ?_
 refine Qar _ _ h (fun x1 hy=>((Qdb h0_0 h0_1 x1 hy).fr [0] [0] rfl rfl rfl)) (fun x1 hy h=>?_)
 refine Qrc (a:=h0_1) (b:=[p1]) (c:=(cNum .u8)) h (.refl _) (fun _=>rfl) rfl (fun x2 hi h=>?_)
 refine Exists.intro _ (And.intro (Le.refl _ _ _) ?_)
 exact Qb4 (t:=Qdm) (ss:=fun o=>⟨[[.sp Tryd.prog 44 o.2.1 0 0,.own 0 5 1 (o.2.2.map (cNum .u8))]],[(o.2.2.map (cNum .u8)).length]⟩) h ⟨[0],rfl,.refl _,.refl _,rfl⟩
noncomputable def Qa8 (p1:(List UInt8)) (h0_0:Bool) (h0_1:(List Int)):Option (Int×Unit×Bool×(List Int)) :=
 Qa2 h0_0 h0_1>>=fun x1 =>
 appL 1 h0_1 (s2b p1)>>=fun x2 =>
 some ((p1.length:Int),(),x1,x2)
theorem Qfv:∀ (p1:(List UInt8)) (h0_0:Bool) (h0_1:(List Int)) (o:Int×Unit×Bool×(List Int)),Qa8 p1 h0_0 h0_1=some o→CallOK Tryd.prog 26 [.ptr 0 0,.p (sV p1)] ⟨[[.sp Tryd.prog 44 h0_0 0 0,.own 0 5 1 (h0_1.map (cNum .u8))]],[(h0_1.map (cNum .u8)).length]⟩ (Qc0 o) ⟨[[.sp Tryd.prog 44 o.2.2.1 0 0,.own 0 5 1 (o.2.2.2.map (cNum .u8))]],[(o.2.2.2.map (cNum .u8)).length]⟩:=by
 intro p1 h0_0 h0_1 o h
 unfold Qa8 at h
 refine CallOK.ofB mixed tbOk Qft Tryd.func26 rfl (by kernel_rfl) (Nat.le_of_ble_eq_true rfl) rfl rfl rfl ?_
 refine Qar _ _ h (fun x1 hy=>((Qdb h0_0 h0_1 x1 hy).fr [0] [0] rfl rfl rfl)) (fun x1 hy h=>?_)
 refine Q0f (a:=h0_1) (b:=p1) h rfl (fun x2 hi h=>?_)
 refine vrfl ?_
 refine Exists.intro _ (And.intro (Le.refl _ _ _) ?_)
 exact Qb4 (t:=Qc0) (ss:=fun o=>⟨[[.sp Tryd.prog 44 o.2.2.1 0 0,.own 0 5 1 (o.2.2.2.map (cNum .u8))]],[(o.2.2.2.map (cNum .u8)).length]⟩) h ⟨[0],rfl,.refl _,.refl _,rfl⟩
noncomputable def Qqi (p0:Int):Option (Bool) :=
 ( if(decide (p0 ≥ 0)) then
   if(decide (p0≤1114111)) then
    if(decide (p0<55296)) then
     some true
    else
     some (decide (p0>57343))
   else
    some false
  else
   some false:Option (Bool))>>=fun o1 =>
 some o1
theorem Qyx:∀ (p0:Int) (o:Bool),Qqi p0=some o→PCall Tryd.prog 89 [nV .i32 p0] (Qrr o):=by
 intro p0 o h
 unfold Qqi at h
 refine PCall.ofB mixed tbOk Qyt Tryd.func89 rfl (by kernel_rfl) (Nat.le_of_ble_eq_true rfl) ?_
 refine Qah h (fun o1 ho hk=>?_)
 refine Exists.intro (JP1 _ _ o1 .normal (Quv )) (And.intro ?_ (join1 ?_))
 ·have h:=ho
  refine Qaf h (fun hb h=>?_) (fun hb h=>?_)
  ·refine Qaf h (fun hb h=>?_) (fun hb h=>?_)
   ·refine Qaf h (fun hb h=>?_) (fun hb h=>?_)
    ·refine JP1.a h ?_
     exact Le.tz 0 0 rfl rfl rfl
    ·refine JP1.a h ?_
     exact Le.tz 0 0 rfl rfl rfl
   ·refine JP1.a h ?_
    exact Le.tz 0 0 rfl rfl rfl
  ·refine bF ?_
   refine JP1.a h ?_
   exact Le.tz 0 0 rfl rfl rfl
 ·have h:=hk
  refine Qbw (t:=Qrr) h ?_
  exact .refl _
noncomputable def Qeb (p0:(List UInt8)) (p2:Int) (v1:Int) (v14:Int):Option (Int⊕Unit) :=
 if(decide (v14<p2)) then
  idx p0 v14>>=fun x4 =>
  if((bits .and .u8 (x4.toNat:Int) 192) != 128) then
   some (.inr ())
  else
   idx p0 v14>>=fun x5 =>
   Qeb p0 p2 (bits .or .i32 (IntKind.i32.wrap (v1*2 ^ (min (6:Int).toNat (IntKind.i32.bits)))) (IntKind.i32.wrap (bits .and .u8 (x5.toNat:Int) 63))) (wr (v14+1))
 else
  some (.inl v1)
 partial_fixpoint
theorem Qo9:∀ (p0:(List UInt8)) (p2:Int),(∀ (v1:Int) (v14:Int) (o1:Int⊕Unit),Qeb p0 p2 v1 v14=some o1→TL (0,0) Tryd.prog 32 Ql3 (JP2 (0,0) 32 o1 (.exit 0) (Qic p0 p2) .ret (Qid p0 p2)) (Qga p0 p2 v1 v14)):=by
 intro p0 p2
 refine Qeb.partial_correctness p0 p2 _ ?_
 intro Qeb' iQeb v1 v14 o1 h
 refine TL.round (Qan mixed tbOk (lv:=Qoz) _ _ _ ?_)
 refine Qaf h (fun hb h=>?_) (fun hb h=>?_)
 ·refine Qff h (fun x4 hi h=>?_)
  refine Qaf h (fun hb h=>?_) (fun hb h=>?_)
  ·exact JP2.b h (Le.tz 0 0 rfl rfl rfl)
  ·refine And.intro (by decide) ?_
   refine Qff h (fun x5 hi h=>?_)
   refine vrfl ?_
   refine TL.le (τ := Qga p0 p2 (bits .or .i32 (IntKind.i32.wrap (v1*2 ^ (min (6:Int).toNat (IntKind.i32.bits)))) (IntKind.i32.wrap (bits .and .u8 (x5.toNat:Int) 63))) (wr (v14+1))) ?_ ((iQeb (bits .or .i32 (IntKind.i32.wrap (v1*2 ^ (min (6:Int).toNat (IntKind.i32.bits)))) (IntKind.i32.wrap (bits .and .u8 (x5.toNat:Int) 63))) (wr (v14+1)) _ h))
   exact Le.tz 0 0 rfl rfl rfl
 ·exact JP2.a h (Le.tz 0 0 rfl rfl rfl)
theorem Qpv:∀ (p0:(List UInt8)) (p2:Int) (v1:Int) (v14:Int) (o1:Int⊕Unit),Qeb p0 p2 v1 v14=some o1→TL (0,0) Tryd.prog 32 Ql3 (JP2 (0,0) 32 o1 (.exit 0) (Qic p0 p2) .ret (Qid p0 p2)) (Qga p0 p2 v1 v14):=fun p0 p2 v1 v14=>(Qo9 p0 p2) v1 v14
noncomputable def Qkt (p0:(List UInt8)) (p1:Int) (p2:Int):Option (Int×Bool) :=
 if(decide ((p0.length:Int)<p2)) then
  some (0,false)
 else
  (Qeb p0 p2 p1 0)>>=fun o1 =>
  match o1 with
  | .inl y2 =>
   some (y2,true)
  | .inr y3 =>
   some (0,false)
theorem Quw:∀ (p0:(List UInt8)) (p1:Int) (p2:Int) (o:Int×Bool),Qkt p0 p1 p2=some o→PCall Tryd.prog 147 [sV p0,nV .i32 p1,iV p2] (Qij o):=by
 intro p0 p1 p2 o h
 unfold Qkt at h
 refine PCall.ofB mixed tbOk Qoz Tryd.func147 rfl (by kernel_rfl) (Nat.le_of_ble_eq_true rfl) ?_
 refine vrfl ?_
 refine Qaf h (fun hb h=>?_) (fun hb h=>?_)
 ·refine Qbw (t:=Qij) h ?_
  exact .refl _
 ·refine Qah h (fun o1 ho hk=>?_)
  refine Exists.intro (JP2 _ _ o1 (.exit 0) (Qic p0 p2) .ret (Qid p0 p2)) (And.intro (T_le (τ := Qga p0 p2 p1 0) ?_ (TL.loop (Qpv p0 p2 p1 0 o1 ho))) (join2 (fun y2 hy=>?_) (fun y3 hy=>?_)))
  ·exact Le.tz 0 0 rfl rfl rfl
  ·have h:=(by rw[hy] at hk; exact hk)
   refine Qbw (t:=Qij) h ?_
   exact .refl _
  ·have h:=(by rw[hy] at hk; exact hk)
   refine Qbw (t:=Qij) h ?_
   exact .refl _
noncomputable def Ql7 (p0:(List UInt8)) (p1:Int):Option (Int×Int) :=
 ( if(decide (p1<0)) then
   some true
  else
   some (decide (p1 ≥ (p0.length:Int))):Option (Bool))>>=fun o1 =>
 if o1 then
  some (0,0)
 else
  idx p0 p1>>=fun x2 =>
  ( if(decide ((x2.toNat:Int)<128)) then
    some (.inr (IntKind.i32.wrap (x2.toNat:Int)))
   else
    ( if(decide ((x2.toNat:Int) ≥ 192)) then
      some (decide ((x2.toNat:Int)<224))
     else
      some false:Option (Bool))>>=fun o6 =>
    if o6 then
     some (.inl ((IntKind.i32.wrap (bits .and .u8 (x2.toNat:Int) 31)),128,1))
    else
     ( if(decide ((x2.toNat:Int) ≥ 224)) then
       some (decide ((x2.toNat:Int)<240))
      else
       some false:Option (Bool))>>=fun o7 =>
     if o7 then
      some (.inl ((IntKind.i32.wrap (bits .and .u8 (x2.toNat:Int) 15)),2048,2))
     else
      ( if(decide ((x2.toNat:Int) ≥ 240)) then
        some (decide ((x2.toNat:Int)<248))
       else
        some false:Option (Bool))>>=fun o8 =>
      if o8 then
       some (.inl ((IntKind.i32.wrap (bits .and .u8 (x2.toNat:Int) 7)),65536,3))
      else
       some (.inr 65533):Option ((Int×Int×Int)⊕Int))>>=fun o3 =>
  match o3 with
  | .inl y4 =>
   cutL p0 (wr (p1+1)) (p0.length:Int)>>=fun x9 =>
   Qkt x9 y4.1 y4.2.2>>=fun x10 =>
   ( if(!x10.2) then
     some true
    else
     if(decide (x10.1<y4.2.1)) then
      some true
     else
      Qqi x10.1>>=fun x12 =>
      some (!x12):Option (Bool))>>=fun o11 =>
   if o11 then
    some (65533,1)
   else
    some (x10.1,(wr (y4.2.2+1)))
  | .inr y5 =>
   some (y5,1)
theorem Qux:∀ (p0:(List UInt8)) (p1:Int) (o:Int×Int),Ql7 p0 p1=some o→PCall Tryd.prog 118 [sV p0,iV p1] (Qhg o):=by
 intro p0 p1 o h
 unfold Ql7 at h
 refine PCall.ofB mixed tbOk Quu Tryd.func118 rfl (by kernel_rfl) (Nat.le_of_ble_eq_true rfl) ?_
 refine Qah h (fun o1 ho hk=>?_)
 refine Exists.intro (JP1 _ _ o1 .normal (Qrk p0 p1)) (And.intro ?_ (join1 ?_))
 ·have h:=ho
  refine Qaf h (fun hb h=>?_) (fun hb h=>?_)
  ·refine JP1.a h ?_
   exact Le.tz 0 0 rfl rfl rfl
  ·refine vrfl ?_
   refine JP1.a h ?_
   exact Le.tz 0 0 rfl rfl rfl
 ·have h:=hk
  refine Qaf h (fun hb h=>?_) (fun hb h=>?_)
  ·refine Qbw (t:=Qhg) h ?_
   exact .refl _
  ·refine Qff h (fun x2 hi h=>?_)
   refine Qah h (fun o3 ho hk=>?_)
   refine Exists.intro (JP2 _ _ o3 .normal (Qrl p0 p1) .ret (Qrm p0 p1)) (And.intro ?_ (join2 (fun y4 hy=>?_) (fun y5 hy=>?_)))
   ·have h:=ho
    refine Qaf h (fun hb h=>?_) (fun hb h=>?_)
    ·refine vrfl ?_
     refine JP2.b h ?_
     exact Le.tz 0 0 rfl rfl rfl
    ·refine Qah h (fun o6 ho hk=>?_)
     refine Exists.intro (JP1 _ _ o6 .normal (Qrn p0 p1 x2)) (And.intro ?_ (join1 ?_))
     ·have h:=ho
      refine Qaf h (fun hb h=>?_) (fun hb h=>?_)
      ·refine JP1.a h ?_
       exact Le.tz 0 0 rfl rfl rfl
      ·refine JP1.a h ?_
       exact Le.tz 0 0 rfl rfl rfl
     ·have h:=hk
      refine Qaf h (fun hb h=>?_) (fun hb h=>?_)
      ·refine vrfl ?_
       refine JP2.a h ?_
       exact Le.tz 0 0 rfl rfl rfl
      ·refine Qah h (fun o7 ho hk=>?_)
       refine Exists.intro (JP1 _ _ o7 .normal (Qro p0 p1 x2)) (And.intro ?_ (join1 ?_))
       ·have h:=ho
        refine Qaf h (fun hb h=>?_) (fun hb h=>?_)
        ·refine JP1.a h ?_
         exact Le.tz 0 0 rfl rfl rfl
        ·refine JP1.a h ?_
         exact Le.tz 0 0 rfl rfl rfl
       ·have h:=hk
        refine Qaf h (fun hb h=>?_) (fun hb h=>?_)
        ·refine vrfl ?_
         refine JP2.a h ?_
         exact Le.tz 0 0 rfl rfl rfl
        ·refine Qah h (fun o8 ho hk=>?_)
         refine Exists.intro (JP1 _ _ o8 .normal (Qrp p0 p1 x2)) (And.intro ?_ (join1 ?_))
         ·have h:=ho
          refine Qaf h (fun hb h=>?_) (fun hb h=>?_)
          ·refine JP1.a h ?_
           exact Le.tz 0 0 rfl rfl rfl
          ·refine JP1.a h ?_
           exact Le.tz 0 0 rfl rfl rfl
         ·have h:=hk
          refine Qaf h (fun hb h=>?_) (fun hb h=>?_)
          ·refine vrfl ?_
           refine JP2.a h ?_
           exact Le.tz 0 0 rfl rfl rfl
          ·refine JP2.b h ?_
           exact Le.tz 0 0 rfl rfl rfl
   ·have h:=(by rw[hy] at hk; exact hk)
    refine Qhn (some (wr (p1+1))) none h (fun x9 hi h=>?_)
    refine Qax [sV x9,nV .i32 y4.1,iV y4.2.2] Qij h (fun x10 hy=>(Quw x9 y4.1 y4.2.2 x10 hy)) (fun x10 hy h=>?_)
    refine Qah h (fun o11 ho hk=>?_)
    refine Exists.intro (JP1 _ _ o11 .normal (Qrq y4 x10)) (And.intro ?_ (join1 ?_))
    ·have h:=ho
     refine Qaf h (fun hb h=>?_) (fun hb h=>?_)
     ·refine bT ?_
      refine JP1.a h ?_
      exact Le.tz 0 0 rfl rfl rfl
     ·refine Qaf h (fun hb h=>?_) (fun hb h=>?_)
      ·refine JP1.a h ?_
       exact Le.tz 0 0 rfl rfl rfl
      ·refine Qax [nV .i32 x10.1] Qrr h (fun x12 hy=>(Qyx x10.1 x12 hy)) (fun x12 hy h=>?_)
       refine JP1.a h ?_
       exact Le.tz 0 0 rfl rfl rfl
    ·have h:=hk
     refine Qaf h (fun hb h=>?_) (fun hb h=>?_)
     ·refine Qbw (t:=Qhg) h ?_
      exact .refl _
     ·refine Qbw (t:=Qhg) h ?_
      exact .refl _
   ·have h:=(by rw[hy] at hk; exact hk)
    refine Qbw (t:=Qhg) h ?_
    exact .refl _
noncomputable def Qa1 (h0_0:(List UInt8)) (h0_1:Int) (h0_2:(List Qaa)) (v4:Int) (h1_0:Bool) (h1_1:(List Int)):Option ((Int×Bool×(List Int))⊕(Bool×(List Int))) :=
 ( if(decide (v4<(h0_0.length:Int))) then
   idx h0_0 v4>>=fun x5 =>
   some ((x5.toNat:Int) != 34)
  else
   some false:Option (Bool))>>=fun o4 =>
 if o4 then
  Ql7 h0_0 v4>>=fun x6 =>
  if(x6.1==92) then
   if((wr (v4+1))==(h0_0.length:Int)) then
    some (.inr (h1_0,h1_1))
   else
    idx h0_0 (wr (v4+1))>>=fun x7 =>
    Qhu (x7.toNat:Int)>>=fun x8 =>
    if(!x8.2) then
     some (.inr (h1_0,h1_1))
    else
     Qbh x8.1 h1_0 h1_1>>=fun x9 =>
     Qa1 h0_0 h0_1 h0_2 (wr (v4+2)) x9.2.1 x9.2.2
  else
   ( if(x6.1==10) then
     some true
    else
     if(x6.1==13) then
      some true
     else
      if(x6.1==65533) then
       some (x6.2==1)
      else
       some false:Option (Bool))>>=fun o10 =>
   if o10 then
    some (.inr (h1_0,h1_1))
   else
    cutL h0_0 v4 (wr (v4+x6.2))>>=fun x11 =>
    Qa8 x11 h1_0 h1_1>>=fun x12 =>
    Qa1 h0_0 h0_1 h0_2 (wr (v4+x6.2)) x12.2.2.1 x12.2.2.2
 else
  some (.inl (v4,h1_0,h1_1))
 partial_fixpoint
theorem Qi9:∀ (h0_0:(List UInt8)) (h0_1:Int) (h0_2:(List Qaa)),(∀ (v4:Int) (h1_0:Bool) (h1_1:(List Int)) (o1:(Int×Bool×(List Int))⊕(Bool×(List Int))),Qa1 h0_0 h0_1 h0_2 v4 h1_0 h1_1=some o1→TL (1,1) Tryd.prog 112 Qgj (JP2 (1,1) 112 o1 (.exit 0) (Qdy h0_0 h0_1 h0_2) .ret (Qdz h0_0 h0_1 h0_2)) (Qb3 h0_0 h0_1 h0_2 v4 h1_0 h1_1)):=by
 intro h0_0 h0_1 h0_2
 refine Qa1.partial_correctness h0_0 h0_1 h0_2 _ ?_
 intro Qa1' iQa1 v4 h1_0 h1_1 o1 h
 refine TL.round (Qan mixed tbOk (lv:=Qhq) _ _ _ ?_)
 refine Qah h (fun o4 ho hk=>?_)
 refine Exists.intro (JP1 _ _ o4 .normal (Qjx h0_0 h0_1 h0_2 v4 h1_0 h1_1)) (And.intro ?_ (join1 ?_))
 ·have h:=ho
  refine vrfl ?_
  refine Qaf h (fun hb h=>?_) (fun hb h=>?_)
  ·refine Qff h (fun x5 hi h=>?_)
   refine JP1.a h ?_
   exact Le.tz 2 2 rfl rfl rfl
  ·refine JP1.a h ?_
   exact Le.tz 2 2 rfl rfl rfl
 ·have h:=hk
  refine Qaf h (fun hb h=>?_) (fun hb h=>?_)
  ·refine Qax [sV h0_0,iV v4] Qhg h (fun x6 hy=>(Qux h0_0 v4 x6 hy)) (fun x6 hy h=>?_)
   refine Qaf h (fun hb h=>?_) (fun hb h=>?_)
   ·refine vrfl ?_
    refine Qaf h (fun hb h=>?_) (fun hb h=>?_)
    ·exact JP2.b h (Le.tz 2 2 rfl rfl rfl)
    ·refine Qff h (fun x7 hi h=>?_)
     refine Qax [nV .u8 (x7.toNat:Int)] Qfi h (fun x8 hy=>(Qpu (x7.toNat:Int) x8 hy)) (fun x8 hy h=>?_)
     refine Qaf h (fun hb h=>?_) (fun hb h=>?_)
     ·exact JP2.b h (Le.tz 2 2 rfl rfl rfl)
     ·refine Qar _ _ h (fun x9 hy=>((Qgn x8.1 h1_0 h1_1 x9 hy).fr [1] [1] rfl rfl rfl)) (fun x9 hy h=>?_)
      refine TL.le (τ := Qb3 h0_0 h0_1 h0_2 (wr (v4+2)) x9.2.1 x9.2.2) ?_ ((iQa1 (wr (v4+2)) x9.2.1 x9.2.2 _ h))
      exact Le.tz 2 2 rfl rfl rfl
   ·refine Qah h (fun o10 ho hk=>?_)
    refine Exists.intro (JP1 _ _ o10 .normal (Qjy h0_0 h0_1 h0_2 v4 h1_0 h1_1 x6)) (And.intro ?_ (join1 ?_))
    ·have h:=ho
     refine Qaf h (fun hb h=>?_) (fun hb h=>?_)
     ·refine bT ?_
      refine JP1.a h ?_
      exact Le.tz 2 2 rfl rfl rfl
     ·refine Qaf h (fun hb h=>?_) (fun hb h=>?_)
      ·refine JP1.a h ?_
       exact Le.tz 2 2 rfl rfl rfl
      ·refine Qaf h (fun hb h=>?_) (fun hb h=>?_)
       ·refine JP1.a h ?_
        exact Le.tz 2 2 rfl rfl rfl
       ·refine JP1.a h ?_
        exact Le.tz 2 2 rfl rfl rfl
    ·have h:=hk
     refine Qaf h (fun hb h=>?_) (fun hb h=>?_)
     ·exact JP2.b h (Le.tz 2 2 rfl rfl rfl)
     ·refine Qhn (some v4) (some (wr (v4+x6.2))) h (fun x11 hi h=>?_)
      refine Qar _ _ h (fun x12 hy=>((Qfv x11 h1_0 h1_1 x12 hy).fr [1] [1] rfl rfl rfl)) (fun x12 hy h=>?_)
      refine TL.le (τ := Qb3 h0_0 h0_1 h0_2 (wr (v4+x6.2)) x12.2.2.1 x12.2.2.2) ?_ ((iQa1 (wr (v4+x6.2)) x12.2.2.1 x12.2.2.2 _ h))
      exact Le.tz 2 2 rfl rfl rfl
  ·exact JP2.a h (Le.tz 2 2 rfl rfl rfl)
theorem Qjn:∀ (h0_0:(List UInt8)) (h0_1:Int) (h0_2:(List Qaa)) (v4:Int) (h1_0:Bool) (h1_1:(List Int)) (o1:(Int×Bool×(List Int))⊕(Bool×(List Int))),Qa1 h0_0 h0_1 h0_2 v4 h1_0 h1_1=some o1→TL (1,1) Tryd.prog 112 Qgj (JP2 (1,1) 112 o1 (.exit 0) (Qdy h0_0 h0_1 h0_2) .ret (Qdz h0_0 h0_1 h0_2)) (Qb3 h0_0 h0_1 h0_2 v4 h1_0 h1_1):=fun h0_0 h0_1 h0_2 v4 h1_0 h1_1=>(Qi9 h0_0 h0_1 h0_2) v4 h1_0 h1_1
noncomputable def Qcb (h0_0:Bool) (h0_1:(List Int)):Option ((List UInt8)) :=
 b2s h0_1
theorem Qhv:∀ (h0_0:Bool) (h0_1:(List Int)) (o:(List UInt8)),Qcb h0_0 h0_1=some o→CallOK Tryd.prog 29 [.ptr 0 0] ⟨[[.sp Tryd.prog 44 h0_0 0 0,.own 0 5 1 (h0_1.map (cNum .u8))]],[(h0_1.map (cNum .u8)).length]⟩ (Qhy o) ⟨[[.sp Tryd.prog 44 h0_0 0 0,.p (.sl false (h0_1.map (cNum .u8)))]],[((h0_1.map (cNum .u8)).length+1)]⟩:=by
 intro h0_0 h0_1 o h
 unfold Qcb at h
 exact Qnh [[.sp Tryd.prog 44 h0_0 0 0,.own 0 5 1 (h0_1.map (cNum .u8))]] [(h0_1.map (cNum .u8)).length] 0 0 [.sp Tryd.prog 44 h0_0 0 0,.own 0 5 1 (h0_1.map (cNum .u8))] (h0_1.map (cNum .u8)) rfl rfl rfl (Qyl h)
noncomputable def Qdo (h0_0:(List UInt8)) (h0_1:Int) (h0_2:(List Qaa)):Option (Bool×Int×(List Qaa)) :=
 (Qa1 h0_0 h0_1 h0_2 (wr (h0_1+1)) false [])>>=fun o1 =>
 match o1 with
 | .inl y2 =>
  if(decide (y2.1 ≥ (h0_0.length:Int))) then
   some (false,h0_1,h0_2)
  else
   Qcb y2.2.1 y2.2.2>>=fun x13 =>
   Qap 5 x13 0 (wr ((wr (y2.1+1))-h0_1)) h0_0 h0_1 h0_2>>=fun x14 =>
   some (true,x14.1,x14.2)
 | .inr y3 =>
  some (false,h0_1,h0_2)
theorem Qll:∀ (h0_0:(List UInt8)) (h0_1:Int) (h0_2:(List Qaa)) (o:Bool×Int×(List Qaa)),Qdo h0_0 h0_1 h0_2=some o→CallOK Tryd.prog 108 [.ptr 0 0] ⟨[[.p (sV h0_0),.p (iV h0_1),.own 0 106 5 (h0_2.map Qac)]],[(h0_2.map Qac).length]⟩ (Qd4 o) ⟨[[.p (sV h0_0),.p (iV o.2.1),.own 0 106 5 (o.2.2.map Qac)]],[(o.2.2.map Qac).length]⟩:=by
 intro h0_0 h0_1 h0_2 o h
 unfold Qdo at h
 refine CallOK.ofB mixed tbOk Qhq Tryd.func108 rfl (by kernel_rfl) (Nat.le_of_ble_eq_true rfl) rfl rfl rfl ?_
 refine Qah h (fun o1 ho hk=>?_)
 refine Exists.intro (JP2 _ _ o1 (.exit 0) (Qdy h0_0 h0_1 h0_2) .ret (Qdz h0_0 h0_1 h0_2)) (And.intro (T_le (τ := Qb3 h0_0 h0_1 h0_2 (wr (h0_1+1)) false []) ?_ (TL.loop (Qjn h0_0 h0_1 h0_2 (wr (h0_1+1)) false [] o1 ho))) (join2 (fun y2 hy=>?_) (fun y3 hy=>?_)))
 ·exact(Le.ownH 1 1 5 1 rfl rfl sizeNil).trans (Le.tz 2 2 rfl rfl rfl)
 ·have h:=(by rw[hy] at hk; exact hk)
  refine vrfl ?_
  refine Qaf h (fun hb h=>?_) (fun hb h=>?_)
  ·refine Exists.intro _ (And.intro (Le.refl _ _ _) ?_)
   exact Qb4 (t:=Qd4) (ss:=fun o=>⟨[[.p (sV h0_0),.p (iV o.2.1),.own 0 106 5 (o.2.2.map Qac)]],[(o.2.2.map Qac).length]⟩) h ⟨[0],rfl,.refl _,.refl _,rfl⟩
  ·refine And.intro (by decide +kernel) (And.intro rfl ?_)
   refine Q0g _ _ h (fun x13 hy=>((Qhv y2.2.1 y2.2.2 x13 hy).ff [1] [1] rfl rfl rfl rfl (Nat.le_of_ble_eq_true rfl))) (fun x13 hy h=>?_)
   refine Qvx _ _ h (fun x14 hy=>((Qbk 5 x13 0 (wr ((wr (y2.1+1))-h0_1)) h0_0 h0_1 h0_2 x14 hy).fg [0] [0] rfl rfl rfl (Nat.le_of_ble_eq_true rfl))) (fun x14 hy h=>?_)
   refine Exists.intro _ (And.intro (Le.refl _ _ _) ?_)
   exact Qb4 (t:=Qd4) (ss:=fun o=>⟨[[.p (sV h0_0),.p (iV o.2.1),.own 0 106 5 (o.2.2.map Qac)]],[(o.2.2.map Qac).length]⟩) h ⟨[0],rfl,.refl _,.refl _,rfl⟩
 ·have h:=(by rw[hy] at hk; exact hk)
  refine Exists.intro _ (And.intro (Le.refl _ _ _) ?_)
  exact Qb4 (t:=Qd4) (ss:=fun o=>⟨[[.p (sV h0_0),.p (iV o.2.1),.own 0 106 5 (o.2.2.map Qac)]],[(o.2.2.map Qac).length]⟩) h ⟨[0],rfl,.refl _,.refl _,rfl⟩
noncomputable def Qec (p0:(List UInt8)) (v6:Int):Option (Unit⊕Unit) :=
 if(decide (v6<(p0.length:Int))) then
  idx p0 v6>>=fun x4 =>
  Qf3 (x4.toNat:Int)>>=fun x5 =>
  if(!x5) then
   some (.inr ())
  else
   Qec p0 (wr (v6+1))
 else
  some (.inl ())
 partial_fixpoint
theorem Qpa:∀ (p0:(List UInt8)),(∀ (v6:Int) (o1:Unit⊕Unit),Qec p0 v6=some o1→TL (0,0) Tryd.prog 27 Ql1 (JP2 (0,0) 27 o1 (.exit 0) (Qia p0) .ret (Qib p0)) (Qf8 p0 v6)):=by
 intro p0
 refine Qec.partial_correctness p0 _ ?_
 intro Qec' iQec v6 o1 h
 refine TL.round (Qan mixed tbOk (lv:=Qou) _ _ _ ?_)
 refine Qaf h (fun hb h=>?_) (fun hb h=>?_)
 ·refine Qff h (fun x4 hi h=>?_)
  refine Qax [nV .u8 (x4.toNat:Int)] Qgg h (fun x5 hy=>(Qi7 (x4.toNat:Int) x5 hy)) (fun x5 hy h=>?_)
  refine Qaf h (fun hb h=>?_) (fun hb h=>?_)
  ·exact JP2.b h (Le.tz 0 0 rfl rfl rfl)
  ·refine TL.le (τ := Qf8 p0 (wr (v6+1))) ?_ ((iQec (wr (v6+1)) _ h))
   exact Le.tz 0 0 rfl rfl rfl
 ·exact JP2.a h (Le.tz 0 0 rfl rfl rfl)
theorem Qpw:∀ (p0:(List UInt8)) (v6:Int) (o1:Unit⊕Unit),Qec p0 v6=some o1→TL (0,0) Tryd.prog 27 Ql1 (JP2 (0,0) 27 o1 (.exit 0) (Qia p0) .ret (Qib p0)) (Qf8 p0 v6):=fun p0 v6=>(Qpa p0) v6
noncomputable def Qh5 (p0:(List UInt8)):Option (Bool) :=
 (Qec p0 0)>>=fun o1 =>
 match o1 with
 | .inl y2 =>
  ( if(!(p0==[])) then
    if(decide ((p0.length:Int)≤32)) then
     idx p0 0>>=fun x7 =>
     some (decide ((x7.toNat:Int) ≥ 97))
    else
     some false
   else
    some false:Option (Bool))>>=fun o6 =>
  some o6
 | .inr y3 =>
  some false
theorem Qlm:∀ (p0:(List UInt8)) (o:Bool),Qh5 p0=some o→PCall Tryd.prog 144 [sV p0] (Qhf o):=by
 intro p0 o h
 unfold Qh5 at h
 refine PCall.ofB mixed tbOk Qou Tryd.func144 rfl (by kernel_rfl) (Nat.le_of_ble_eq_true rfl) ?_
 refine vrfl ?_
 refine Qah h (fun o1 ho hk=>?_)
 refine Exists.intro (JP2 _ _ o1 (.exit 0) (Qia p0) .ret (Qib p0)) (And.intro (T_le (τ := Qf8 p0 0) ?_ (TL.loop (Qpw p0 0 o1 ho))) (join2 (fun y2 hy=>?_) (fun y3 hy=>?_)))
 ·exact Le.tz 0 0 rfl rfl rfl
 ·have h:=(by rw[hy] at hk; exact hk)
  refine Qah h (fun o6 ho hk=>?_)
  refine Exists.intro (JP1 _ _ o6 .normal (Qri )) (And.intro ?_ (join1 ?_))
  ·have h:=ho
   refine Qaf h (fun hb h=>?_) (fun hb h=>?_)
   ·refine vrfl ?_
    refine Qaf h (fun hb h=>?_) (fun hb h=>?_)
    ·refine Qff h (fun x7 hi h=>?_)
     refine JP1.a h ?_
     exact Le.tz 0 0 rfl rfl rfl
    ·refine JP1.a h ?_
     exact Le.tz 0 0 rfl rfl rfl
   ·refine bF ?_
    refine JP1.a h ?_
    exact Le.tz 0 0 rfl rfl rfl
  ·have h:=hk
   refine Qbw (t:=Qhf) h ?_
   exact .refl _
 ·have h:=(by rw[hy] at hk; exact hk)
  refine Qbw (t:=Qhf) h ?_
  exact .refl _
noncomputable def Qal (h0_0:(List UInt8)) (h0_1:Int) (h0_2:(List Qaa)) (v7:Int):Option (Int) :=
 ( if(decide (v7<(h0_0.length:Int))) then
   idx h0_0 v7>>=fun x3 =>
   Qf3 (x3.toNat:Int)>>=fun x4 =>
   some x4
  else
   some false:Option (Bool))>>=fun o2 =>
 if o2 then
  Qal h0_0 h0_1 h0_2 (wr (v7+1))
 else
  some v7
 partial_fixpoint
theorem Qfs:∀ (h0_0:(List UInt8)) (h0_1:Int) (h0_2:(List Qaa)),(∀ (v7:Int) (o1:Int),Qal h0_0 h0_1 h0_2 v7=some o1→TL (1,1) Tryd.prog 38 Qcz (JP1 (1,1) 38 o1 (.exit 0) (Qb0 h0_0 h0_1 h0_2)) (Qbf h0_0 h0_1 h0_2 v7)):=by
 intro h0_0 h0_1 h0_2
 refine Qal.partial_correctness h0_0 h0_1 h0_2 _ ?_
 intro Qal' iQal v7 o1 h
 refine TL.round (Qan mixed tbOk (lv:=Qdk) _ _ _ ?_)
 refine Qah h (fun o2 ho hk=>?_)
 refine Exists.intro (JP1 _ _ o2 .normal (Qf2 h0_0 h0_1 h0_2 v7)) (And.intro ?_ (join1 ?_))
 ·have h:=ho
  refine vrfl ?_
  refine Qaf h (fun hb h=>?_) (fun hb h=>?_)
  ·refine Qff h (fun x3 hi h=>?_)
   refine Qax [nV .u8 (x3.toNat:Int)] Qgg h (fun x4 hy=>(Qi7 (x3.toNat:Int) x4 hy)) (fun x4 hy h=>?_)
   refine JP1.a h ?_
   exact Le.tz 1 1 rfl rfl rfl
  ·refine JP1.a h ?_
   exact Le.tz 1 1 rfl rfl rfl
 ·have h:=hk
  refine Qaf h (fun hb h=>?_) (fun hb h=>?_)
  ·refine TL.le (τ := Qbf h0_0 h0_1 h0_2 (wr (v7+1))) ?_ ((iQal (wr (v7+1)) _ h))
   exact Le.tz 1 1 rfl rfl rfl
  ·exact JP1.a h (Le.tz 1 1 rfl rfl rfl)
theorem Qfw:∀ (h0_0:(List UInt8)) (h0_1:Int) (h0_2:(List Qaa)) (v7:Int) (o1:Int),Qal h0_0 h0_1 h0_2 v7=some o1→TL (1,1) Tryd.prog 38 Qcz (JP1 (1,1) 38 o1 (.exit 0) (Qb0 h0_0 h0_1 h0_2)) (Qbf h0_0 h0_1 h0_2 v7):=fun h0_0 h0_1 h0_2 v7=>(Qfs h0_0 h0_1 h0_2) v7
noncomputable def Qb2 (p1:Int) (h0_0:(List UInt8)) (h0_1:Int) (h0_2:(List Qaa)):Option ((List UInt8)) :=
 (Qal h0_0 h0_1 h0_2 p1)>>=fun o1 =>
 cutL h0_0 h0_1 o1>>=fun x5 =>
 some x5
theorem Qg4:∀ (p1:Int) (h0_0:(List UInt8)) (h0_1:Int) (h0_2:(List Qaa)) (o:(List UInt8)),Qb2 p1 h0_0 h0_1 h0_2=some o→CallOK Tryd.prog 142 [.ptr 0 0,.p (iV p1),.fn (.func 111) [] []] ⟨[[.p (sV h0_0),.p (iV h0_1),.own 0 106 5 (h0_2.map Qac)]],[(h0_2.map Qac).length]⟩ (Qd3 o) ⟨[[.p (sV h0_0),.p (iV h0_1),.own 0 106 5 (h0_2.map Qac)]],[(h0_2.map Qac).length]⟩:=by
 intro p1 h0_0 h0_1 h0_2 o h
 unfold Qb2 at h
 refine CallOK.ofB mixed tbOk Qdk Tryd.func142 rfl (by kernel_rfl) (Nat.le_of_ble_eq_true rfl) rfl rfl rfl ?_
 refine Qah h (fun o1 ho hk=>?_)
 refine Exists.intro (JP1 _ _ o1 (.exit 0) (Qb0 h0_0 h0_1 h0_2)) (And.intro (T_le (τ := Qbf h0_0 h0_1 h0_2 p1) ?_ (TL.loop (Qfw h0_0 h0_1 h0_2 p1 o1 ho))) (join1 ?_))
 ·exact Le.tz 1 1 rfl rfl rfl
 have h:=hk
 refine And.intro (by decide +kernel) (And.intro rfl ?_)
 refine Qhn (some h0_1) (some o1) h (fun x5 hi h=>?_)
 refine Exists.intro _ (And.intro (Le.refl _ _ _) ?_)
 exact Qb4 (t:=Qd3) (ss:=fun o=>⟨[[.p (sV h0_0),.p (iV h0_1),.own 0 106 5 (h0_2.map Qac)]],[(h0_2.map Qac).length]⟩) h ⟨[0],rfl,.refl _,.refl _,rfl⟩
noncomputable def Qdp (h0_0:(List UInt8)) (h0_1:Int) (h0_2:(List Qaa)):Option (Bool×Int×(List Qaa)) :=
 Qb2 h0_1 h0_0 h0_1 h0_2>>=fun x1 =>
 Qh5 x1>>=fun x2 =>
 if(!x2) then
  some (false,h0_1,h0_2)
 else
  Qap 4 x1 0 (x1.length:Int) h0_0 h0_1 h0_2>>=fun x3 =>
  some (true,x3.1,x3.2)
theorem Qln:∀ (h0_0:(List UInt8)) (h0_1:Int) (h0_2:(List Qaa)) (o:Bool×Int×(List Qaa)),Qdp h0_0 h0_1 h0_2=some o→CallOK Tryd.prog 112 [.ptr 0 0] ⟨[[.p (sV h0_0),.p (iV h0_1),.own 0 106 5 (h0_2.map Qac)]],[(h0_2.map Qac).length]⟩ (Qfk o) ⟨[[.p (sV h0_0),.p (iV o.2.1),.own 0 106 5 (o.2.2.map Qac)]],[(o.2.2.map Qac).length]⟩:=by
 intro h0_0 h0_1 h0_2 o h
 unfold Qdp at h
 refine CallOK.ofB mixed tbOk Qlg Tryd.func112 rfl (by kernel_rfl) (Nat.le_of_ble_eq_true rfl) rfl rfl rfl ?_
 refine Qar _ _ h (fun x1 hy=>((Qg4 h0_1 h0_0 h0_1 h0_2 x1 hy).fr [0] [0] rfl rfl rfl)) (fun x1 hy h=>?_)
 refine Qax [sV x1] Qhf h (fun x2 hy=>(Qlm x1 x2 hy)) (fun x2 hy h=>?_)
 refine Qaf h (fun hb h=>?_) (fun hb h=>?_)
 ·refine Exists.intro _ (And.intro (Le.refl _ _ _) ?_)
  exact Qb4 (t:=Qfk) (ss:=fun o=>⟨[[.p (sV h0_0),.p (iV o.2.1),.own 0 106 5 (o.2.2.map Qac)]],[(o.2.2.map Qac).length]⟩) h ⟨[0],rfl,.refl _,.refl _,rfl⟩
 ·refine vrfl ?_
  refine Qar _ _ h (fun x3 hy=>((Qbk 4 x1 0 (x1.length:Int) h0_0 h0_1 h0_2 x3 hy).fr [0] [0] rfl rfl rfl)) (fun x3 hy h=>?_)
  refine Exists.intro _ (And.intro (Le.refl _ _ _) ?_)
  exact Qb4 (t:=Qfk) (ss:=fun o=>⟨[[.p (sV h0_0),.p (iV o.2.1),.own 0 106 5 (o.2.2.map Qac)]],[(o.2.2.map Qac).length]⟩) h ⟨[0],rfl,.refl _,.refl _,rfl⟩
noncomputable def Qcf (h0_0:(List UInt8)) (h0_1:Int) (h0_2:(List Qaa)):Option (Bool×Int×(List Qaa)) :=
 idx h0_0 h0_1>>=fun x1 =>
 if((x1.toNat:Int)==34) then
  Qdo h0_0 h0_1 h0_2>>=fun x2 =>
  some (x2.1,x2.2.1,x2.2.2)
 else
  ( if((x1.toNat:Int)==45) then
    some true
   else
    Qgm (x1.toNat:Int)>>=fun x4 =>
    some x4:Option (Bool))>>=fun o3 =>
  if o3 then
   Qcm h0_0 h0_1 h0_2>>=fun x5 =>
   some (x5.1,x5.2.1,x5.2.2)
  else
   Qf3 (x1.toNat:Int)>>=fun x6 =>
   if x6 then
    Qdp h0_0 h0_1 h0_2>>=fun x7 =>
    some (x7.1,x7.2.1,x7.2.2)
   else
    Qdn h0_0 h0_1 h0_2>>=fun x8 =>
    some (x8.1,x8.2.1,x8.2.2)
theorem Qjo:∀ (h0_0:(List UInt8)) (h0_1:Int) (h0_2:(List Qaa)) (o:Bool×Int×(List Qaa)),Qcf h0_0 h0_1 h0_2=some o→CallOK Tryd.prog 79 [.ptr 0 0] ⟨[[.p (sV h0_0),.p (iV h0_1),.own 0 106 5 (h0_2.map Qac)]],[(h0_2.map Qac).length]⟩ (Qb7 o) ⟨[[.p (sV h0_0),.p (iV o.2.1),.own 0 106 5 (o.2.2.map Qac)]],[(o.2.2.map Qac).length]⟩:=by
 intro h0_0 h0_1 h0_2 o h
 unfold Qcf at h
 refine CallOK.ofB mixed tbOk Qjg Tryd.func79 rfl (by kernel_rfl) (Nat.le_of_ble_eq_true rfl) rfl rfl rfl ?_
 refine And.intro (by decide +kernel) (And.intro rfl ?_)
 refine Qff h (fun x1 hi h=>?_)
 refine Qaf h (fun hb h=>?_) (fun hb h=>?_)
 ·refine Qar _ _ h (fun x2 hy=>((Qll h0_0 h0_1 h0_2 x2 hy).fr [0] [0] rfl rfl rfl)) (fun x2 hy h=>?_)
  refine Exists.intro _ (And.intro (Le.refl _ _ _) ?_)
  exact Qb4 (t:=Qb7) (ss:=fun o=>⟨[[.p (sV h0_0),.p (iV o.2.1),.own 0 106 5 (o.2.2.map Qac)]],[(o.2.2.map Qac).length]⟩) h ⟨[0],rfl,.refl _,.refl _,rfl⟩
 ·refine Qah h (fun o3 ho hk=>?_)
  refine Exists.intro (JP1 _ _ o3 .normal (Qih h0_0 h0_1 h0_2 x1)) (And.intro ?_ (join1 ?_))
  ·have h:=ho
   refine Qaf h (fun hb h=>?_) (fun hb h=>?_)
   ·refine JP1.a h ?_
    exact Le.tz 1 1 rfl rfl rfl
   ·refine Qax [nV .u8 (x1.toNat:Int)] Qf1 h (fun x4 hy=>(Qh3 (x1.toNat:Int) x4 hy)) (fun x4 hy h=>?_)
    refine JP1.a h ?_
    exact Le.tz 1 1 rfl rfl rfl
  ·have h:=hk
   refine Qaf h (fun hb h=>?_) (fun hb h=>?_)
   ·refine Qar _ _ h (fun x5 hy=>((Qj4 h0_0 h0_1 h0_2 x5 hy).fr [0] [0] rfl rfl rfl)) (fun x5 hy h=>?_)
    refine Exists.intro _ (And.intro (Le.refl _ _ _) ?_)
    exact Qb4 (t:=Qb7) (ss:=fun o=>⟨[[.p (sV h0_0),.p (iV o.2.1),.own 0 106 5 (o.2.2.map Qac)]],[(o.2.2.map Qac).length]⟩) h ⟨[0],rfl,.refl _,.refl _,rfl⟩
   ·refine Qax [nV .u8 (x1.toNat:Int)] Qgg h (fun x6 hy=>(Qi7 (x1.toNat:Int) x6 hy)) (fun x6 hy h=>?_)
    refine Qaf h (fun hb h=>?_) (fun hb h=>?_)
    ·refine Qar _ _ h (fun x7 hy=>((Qln h0_0 h0_1 h0_2 x7 hy).fr [0] [0] rfl rfl rfl)) (fun x7 hy h=>?_)
     refine Exists.intro _ (And.intro (Le.refl _ _ _) ?_)
     exact Qb4 (t:=Qb7) (ss:=fun o=>⟨[[.p (sV h0_0),.p (iV o.2.1),.own 0 106 5 (o.2.2.map Qac)]],[(o.2.2.map Qac).length]⟩) h ⟨[0],rfl,.refl _,.refl _,rfl⟩
    ·refine Qar _ _ h (fun x8 hy=>((Qlk h0_0 h0_1 h0_2 x8 hy).fr [0] [0] rfl rfl rfl)) (fun x8 hy h=>?_)
     refine Exists.intro _ (And.intro (Le.refl _ _ _) ?_)
     exact Qb4 (t:=Qb7) (ss:=fun o=>⟨[[.p (sV h0_0),.p (iV o.2.1),.own 0 106 5 (o.2.2.map Qac)]],[(o.2.2.map Qac).length]⟩) h ⟨[0],rfl,.refl _,.refl _,rfl⟩
noncomputable def strings_HasPrefix (p0:(List UInt8)) (p1:(List UInt8)):Option (Bool) :=
 Qbn p0 p1>>=fun x1 =>
 some x1
theorem Qk3:∀ (p0:(List UInt8)) (p1:(List UInt8)) (o:Bool),strings_HasPrefix p0 p1=some o→PCall Tryd.prog 59 [sV p0,sV p1] (Qe5 o):=by
 intro p0 p1 o h
 unfold strings_HasPrefix at h
 refine PCall.ofB mixed tbOk Qk2 Tryd.func59 rfl (by kernel_rfl) (Nat.le_of_ble_eq_true rfl) ?_
 refine Qax [sV p0,sV p1] Qbz h (fun x1 hy=>(Qfq p0 p1 x1 hy)) (fun x1 hy h=>?_)
 refine Qbw (t:=Qe5) h ?_
 exact .refl _
noncomputable def Qdc (p0:(List UInt8)) (p1:(List UInt8)) (p2:Int):Option (Bool) :=
 ( if(decide (p2 ≥ 0)) then
   if(decide (p2≤(p0.length:Int))) then
    cutL p0 p2 (p0.length:Int)>>=fun x2 =>
    strings_HasPrefix x2 p1>>=fun x3 =>
    some x3
   else
    some false
  else
   some false:Option (Bool))>>=fun o1 =>
 some o1
theorem Qj5:∀ (p0:(List UInt8)) (p1:(List UInt8)) (p2:Int) (o:Bool),Qdc p0 p1 p2=some o→PCall Tryd.prog 31 [sV p0,sV p1,iV p2] (Qf9 o):=by
 intro p0 p1 p2 o h
 unfold Qdc at h
 refine PCall.ofB mixed tbOk Qow Tryd.func31 rfl (by kernel_rfl) (Nat.le_of_ble_eq_true rfl) ?_
 refine Qah h (fun o1 ho hk=>?_)
 refine Exists.intro (JP1 _ _ o1 .normal (Qmy )) (And.intro ?_ (join1 ?_))
 ·have h:=ho
  refine Qaf h (fun hb h=>?_) (fun hb h=>?_)
  ·refine vrfl ?_
   refine Qaf h (fun hb h=>?_) (fun hb h=>?_)
   ·refine Qhn (some p2) none h (fun x2 hi h=>?_)
    refine Qax [sV x2,sV p1] Qe5 h (fun x3 hy=>(Qk3 x2 p1 x3 hy)) (fun x3 hy h=>?_)
    refine JP1.a h ?_
    exact Le.tz 0 0 rfl rfl rfl
   ·refine JP1.a h ?_
    exact Le.tz 0 0 rfl rfl rfl
  ·refine bF ?_
   refine JP1.a h ?_
   exact Le.tz 0 0 rfl rfl rfl
 ·have h:=hk
  refine Qbw (t:=Qf9) h ?_
  exact .refl _
noncomputable def strings_Index (p0:(List UInt8)) (p1:(List UInt8)):Option (Int) :=
 Qb1 p0 p1>>=fun x1 =>
 some x1
theorem Qje:∀ (p0:(List UInt8)) (p1:(List UInt8)) (o:Int),strings_Index p0 p1=some o→PCall Tryd.prog 76 [sV p0,sV p1] (Qfo o):=by
 intro p0 p1 o h
 unfold strings_Index at h
 refine PCall.ofB mixed tbOk Qnj Tryd.func76 rfl (by kernel_rfl) (Nat.le_of_ble_eq_true rfl) ?_
 refine Qax [sV p0,sV p1] Qd0 h (fun x1 hy=>(Qg3 p0 p1 x1 hy)) (fun x1 hy h=>?_)
 refine Qbw (t:=Qfo) h ?_
 exact .refl _
mutual
noncomputable def Qb9 (p0:(List UInt8)) (w0:Int×(List Qaa)):Option (((List Qaa)×Int×Int)) :=
 cutL p0 w0.1 (p0.length:Int)>>=fun x2 =>
 strings_Index x2 [123,123]>>=fun x3 =>
 ( if(decide (x3<0)) then
   some (wr ((p0.length:Int)-w0.1))
  else
   some x3:Option (Int))>>=fun o4 =>
 ( if(decide (o4>0)) then
   cutL p0 w0.1 (wr (w0.1+o4))>>=fun x6 =>
   Qap 1 x6 0 o4 p0 w0.1 w0.2>>=fun x7 =>
   some (x7.1,x7.2)
  else
   some (w0.1,w0.2):Option ((Int×(List Qaa))))>>=fun o5 =>
 if(o5.1==(p0.length:Int)) then
  some (o5.2,0,0)
 else
  Qap 2 [] 0 2 p0 o5.1 o5.2>>=fun x8 =>
  Qbx p0 x8.1 x8.2>>=fun x9 =>
  ( Qdc p0 [35] x9>>=fun x13 =>
   if x13 then
    cutL p0 x9 (p0.length:Int)>>=fun x14 =>
    strings_Index x14 [125,125]>>=fun x15 =>
    if(decide (x15<0)) then
     some (.inr ())
    else
     some (.inl (wr (x9+x15)))
   else
    some (.inl x9):Option (Int⊕Unit))>>=fun o10 =>
  match o10 with
  | .inl y11 =>
   Qed p0 (y11,x8.2)
  | .inr y12 =>
   some ([],(p0.length:Int),7)
 partial_fixpoint
noncomputable def Qed (p0:(List UInt8)) (w1:Int×(List Qaa)):Option (((List Qaa)×Int×Int)) :=
 Qbx p0 w1.1 w1.2>>=fun x16 =>
 Qdc p0 [125,125] x16>>=fun x17 =>
 if x17 then
  Qap 3 [] 0 2 p0 x16 w1.2>>=fun x18 =>
  Qb9 p0 (x18.1,x18.2)
 else
  ( if(x16==(p0.length:Int)) then
    some (true,x16,w1.2)
   else
    Qcf p0 x16 w1.2>>=fun x20 =>
    some ((!x20.1),x20.2.1,x20.2.2):Option ((Bool×Int×(List Qaa))))>>=fun o19 =>
  if o19.1 then
   some ([],o19.2.1,7)
  else
   Qed p0 (o19.2.1,o19.2.2)
 partial_fixpoint
end
theorem Qlo:∀ (p0:(List UInt8)),(∀ (w0:Int×(List Qaa)) (o1:((List Qaa)×Int×Int)),Qb9 p0 w0=some o1→TG (0,0) Tryd.prog 112 Qcy (behind Qcy 0) (JP1 (0,0) 112 o1 .ret (Qer p0)) (Qd1 p0 w0))∧(∀ (w1:Int×(List Qaa)) (o1:((List Qaa)×Int×Int)),Qed p0 w1=some o1→TG (0,0) Tryd.prog 112 Qcy (behind Qcy 1) (JP1 (0,0) 112 o1 .ret (Qer p0)) (Qfh p0 w1)):=by
 intro p0
 refine Qb9.mutual_partial_correctness p0 _ _ ?_ ?_
 ·intro Qed' iQed w0 o1 h
  refine TG.seqb mixed tbOk (lv:=Qa6) ?_
  refine Qhn (some w0.1) none h (fun x2 hi h=>?_)
  refine Qax [sV x2,sV [123,123]] Qfo h (fun x3 hy=>(Qje x2 [123,123] x3 hy)) (fun x3 hy h=>?_)
  refine TG.seqj mixed tbOk (lv:=Qa6) ?_
  refine Qah h (fun o4 ho hk=>?_)
  refine Exists.intro (JP1 _ _ o4 .normal (Qop p0 w0)) (And.intro ?_ (join1 ?_))
  ·have h:=ho
   refine Qaf h (fun hb h=>?_) (fun hb h=>?_)
   ·refine vrfl ?_
    refine JP1.a h ?_
    exact Le.tz 1 1 rfl rfl rfl
   ·refine JP1.a h ?_
    exact Le.tz 1 1 rfl rfl rfl
  ·have h:=hk
   refine TG.seqj mixed tbOk (lv:=Qa6) ?_
   refine Qah h (fun o5 ho hk=>?_)
   refine Exists.intro (JP1 _ _ o5 .normal (Qoq p0)) (And.intro ?_ (join1 ?_))
   ·have h:=ho
    refine Qaf h (fun hb h=>?_) (fun hb h=>?_)
    ·refine And.intro (by decide +kernel) (And.intro rfl ?_)
     refine Qhn (some w0.1) (some (wr (w0.1+o4))) h (fun x6 hi h=>?_)
     refine Qvx _ _ h (fun x7 hy=>((Qbk 1 x6 0 o4 p0 w0.1 w0.2 x7 hy).fg [0] [0] rfl rfl rfl (Nat.le_of_ble_eq_true rfl))) (fun x7 hy h=>?_)
     refine JP1.a h ?_
     exact Le.tz 1 1 rfl rfl rfl
    ·refine JP1.a h ?_
     exact Le.tz 1 1 rfl rfl rfl
   ·have h:=hk
    refine TG.seqb mixed tbOk (lv:=Qa6) ?_
    refine vrfl ?_
    refine Qaf h (fun hb h=>?_) (fun hb h=>?_)
    ·refine JP1.a h ?_
     exact Le.tz 0 0 rfl rfl rfl
    ·refine TG.seqb mixed tbOk (lv:=Qa6) ?_
     refine Qar _ _ h (fun x8 hy=>((Qbk 2 [] 0 2 p0 o5.1 o5.2 x8 hy).fr [0] [0] rfl rfl rfl)) (fun x8 hy h=>?_)
     refine TG.seqb mixed tbOk (lv:=Qa6) ?_
     refine Qar _ _ h (fun x9 hy=>((Qfr p0 x8.1 x8.2 x9 hy).fr [0] [0] rfl rfl rfl)) (fun x9 hy h=>?_)
     refine TG.seqj mixed tbOk (lv:=Qa6) ?_
     refine Qah h (fun o10 ho hk=>?_)
     refine Exists.intro (JP2 _ _ o10 .normal (Qor p0 x8 x9) .ret (Qos p0 x8 x9)) (And.intro ?_ (join2 (fun y11 hy=>?_) (fun y12 hy=>?_)))
     ·have h:=ho
      refine Qax [sV p0,sV [35],iV x9] Qf9 h (fun x13 hy=>(Qj5 p0 [35] x9 x13 hy)) (fun x13 hy h=>?_)
      refine Qaf h (fun hb h=>?_) (fun hb h=>?_)
      ·refine Qhn (some x9) none h (fun x14 hi h=>?_)
       refine Qax [sV x14,sV [125,125]] Qfo h (fun x15 hy=>(Qje x14 [125,125] x15 hy)) (fun x15 hy h=>?_)
       refine Qaf h (fun hb h=>?_) (fun hb h=>?_)
       ·refine vrfl ?_
        refine JP2.b h ?_
        exact Le.tz 1 1 rfl rfl rfl
       ·refine JP2.a h ?_
        exact Le.tz 1 1 rfl rfl rfl
      ·refine JP2.a h ?_
       exact Le.tz 1 1 rfl rfl rfl
     ·have h:=(by rw[hy] at hk; exact hk)
      refine TG.label (TG.le (τ := Qfh p0 (y11,x8.2)) ?_ ((iQed (y11,x8.2) _ h)))
      exact Le.tz 1 1 rfl rfl rfl
     ·have h:=(by rw[hy] at hk; exact hk)
      refine JP1.a h ?_
      exact Le.tow 0 0 rfl (.cons rfl (.p (.not)) (.cons rfl (.refl _) (.cons rfl (.refl _) (.nil)))) (.refl _) rfl
 ·intro Qb9' Qed' iQb9 iQed w1 o1 h
  refine TG.seqb mixed tbOk (lv:=Qa6) ?_
  refine Qar _ _ h (fun x16 hy=>((Qfr p0 w1.1 w1.2 x16 hy).fr [0] [0] rfl rfl rfl)) (fun x16 hy h=>?_)
  refine TG.seqb mixed tbOk (lv:=Qa6) ?_
  refine Qax [sV p0,sV [125,125],iV x16] Qf9 h (fun x17 hy=>(Qj5 p0 [125,125] x16 x17 hy)) (fun x17 hy h=>?_)
  refine Qaf h (fun hb h=>?_) (fun hb h=>?_)
  ·refine Qar _ _ h (fun x18 hy=>((Qbk 3 [] 0 2 p0 x16 w1.2 x18 hy).fr [0] [0] rfl rfl rfl)) (fun x18 hy h=>?_)
   refine Exists.intro _ (And.intro rfl (TG.skip (TG.le (τ := Qd1 p0 (x18.1,x18.2)) ?_ ((iQb9 (x18.1,x18.2) _ h)))))
   exact Le.tz 1 1 rfl rfl rfl
  ·refine TG.seqb mixed tbOk (lv:=Qa6) ?_
   refine Qah h (fun o19 ho hk=>?_)
   refine Exists.intro (JP1 _ _ o19 .normal (Qot p0)) (And.intro ?_ (join1 ?_))
   ·have h:=ho
    refine vrfl ?_
    refine Qaf h (fun hb h=>?_) (fun hb h=>?_)
    ·refine JP1.a h ?_
     exact Le.tz 1 1 rfl rfl rfl
    ·refine Qar _ _ h (fun x20 hy=>((Qjo p0 x16 w1.2 x20 hy).fr [0] [0] rfl rfl rfl)) (fun x20 hy h=>?_)
     refine JP1.a h ?_
     exact Le.tz 1 1 rfl rfl rfl
   ·have h:=hk
    refine Qaf h (fun hb h=>?_) (fun hb h=>?_)
    ·refine And.intro (by decide +kernel) (And.intro rfl ?_)
     refine JP1.a h ?_
     exact Le.tow 0 0 rfl (.cons rfl (.p (.not)) (.cons rfl (.refl _) (.cons rfl (.refl _) (.nil)))) (.refl _) rfl
    ·refine TG.lastb mixed tbOk (lv:=Qa6) ?_
     refine Exists.intro _ (And.intro rfl (TG.skip (TG.le (τ := Qfh p0 (o19.2.1,o19.2.2)) ?_ ((iQed (o19.2.1,o19.2.2) _ h)))))
     exact Le.tz 1 1 rfl rfl rfl
theorem Ql8:∀ (p0:(List UInt8)) (w0:Int×(List Qaa)) (o1:((List Qaa)×Int×Int)),Qb9 p0 w0=some o1→TG (0,0) Tryd.prog 112 Qcy (behind Qcy 0) (JP1 (0,0) 112 o1 .ret (Qer p0)) (Qd1 p0 w0):=fun p0 w0=>(Qlo p0).1 w0
noncomputable def Qik (p0:(List UInt8)):Option ((List Qaa)×Int×Int) :=
 ( if(decide ((p0.length:Int)>65536)) then
   some ([],0,6)
  else
   Qb9 p0 (0,[]):Option (((List Qaa)×Int×Int)))>>=fun o1 =>
 some (o1.1,o1.2.1,o1.2.2)
theorem Qrt:∀ (p0:(List UInt8)) (o:(List Qaa)×Int×Int),Qik p0=some o→PCall Tryd.prog 47 [sV p0] (Qjv o):=by
 intro p0 o h
 unfold Qik at h
 refine PCall.ofB mixed tbOk Qa6 Tryd.func47 rfl (by kernel_rfl) (Nat.le_of_ble_eq_true rfl) ?_
 refine Qah h (fun o1 ho hk=>?_)
 refine Exists.intro (JP1 _ _ o1 .ret (Qer p0)) (And.intro (TG.scope ?_) (join1 ?_))
 ·have h:=ho
  refine TG.seqb mixed tbOk (lv:=Qa6) ?_
  refine vrfl ?_
  refine Qaf h (fun hb h=>?_) (fun hb h=>?_)
  ·refine JP1.a h ?_
   exact Le.tow 0 0 rfl (.cons rfl (.p (.not)) (.cons rfl (.refl _) (.cons rfl (.refl _) (.nil)))) (.refl _) rfl
  ·refine TG.seqb mixed tbOk (lv:=Qa6) ?_
   refine TG.seqb mixed tbOk (lv:=Qa6) ?_
   refine TG.label (TG.le (τ := Qd1 p0 (0,[])) ?_ ((Ql8 p0 (0,[]) _ h)))
   exact(Le.ownH 0 2 106 5 rfl rfl sizeNil).trans (Le.tz 1 1 rfl rfl rfl)
 ·have h:=hk
  refine Qbw (t:=Qjv) h ?_
  exact .refl _
noncomputable def Qay (h0_0:(List Qaa)) (h0_1:Int):Option (Qaa) :=
 if(h0_1==(h0_0.length:Int)) then
  some (Qaa.mk 0 [] 0 0 0)
 else
  idx h0_0 h0_1>>=fun x1 =>
  some x1
theorem Qbl:∀ (h0_0:(List Qaa)) (h0_1:Int) (o:Qaa),Qay h0_0 h0_1=some o→CallOK Tryd.prog 80 [.ptr 0 0] ⟨[[.p (.sl false (h0_0.map Qac)),.p (iV h0_1)]],[]⟩ (Qe2 o) ⟨[[.p (.sl false (h0_0.map Qac)),.p (iV h0_1)]],[]⟩:=by
 intro h0_0 h0_1 o h
 unfold Qay at h
 refine CallOK.ofB mixed tbOk Qkx Tryd.func80 rfl (by kernel_rfl) (Nat.le_of_ble_eq_true rfl) rfl rfl rfl ?_
 refine And.intro (by decide +kernel) (And.intro rfl ?_)
 refine view (lenMap _ _) rfl ?_
 refine Qaf h (fun hb h=>?_) (fun hb h=>?_)
 ·refine Exists.intro _ (And.intro (Le.refl _ _ _) ?_)
  exact Qb4 (t:=Qe2) (ss:=fun o=>⟨[[.p (.sl false (h0_0.map Qac)),.p (iV h0_1)]],[]⟩) h ⟨[],rfl,.refl _,.refl _,rfl⟩
 ·refine And.intro (by decide +kernel) (And.intro rfl ?_)
  refine Qm9 (l:=h0_0) (c:=Qac) (c' := Qac) h (fun _=>rfl) (fun _=>rfl) (by decide) (fun x1 hi h=>?_)
  refine Exists.intro _ (And.intro (Le.refl _ _ _) ?_)
  exact Qb4 (t:=Qe2) (ss:=fun o=>⟨[[.p (.sl false (h0_0.map Qac)),.p (iV h0_1)]],[]⟩) h ⟨[],rfl,.refl _,.refl _,rfl⟩
noncomputable def Qa9 (p1:Int) (h0_0:(List Qaa)) (h0_1:Int):Option (Bool×Int) :=
 Qay h0_0 h0_1>>=fun x1 =>
 if(x1.Kind != p1) then
  some (false,h0_1)
 else
  some (true,(wr (h0_1+1)))
theorem Qby:∀ (p1:Int) (h0_0:(List Qaa)) (h0_1:Int) (o:Bool×Int),Qa9 p1 h0_0 h0_1=some o→CallOK Tryd.prog 81 [.ptr 0 0,.p (iV p1)] ⟨[[.p (.sl false (h0_0.map Qac)),.p (iV h0_1)]],[]⟩ (Qe3 o) ⟨[[.p (.sl false (h0_0.map Qac)),.p (iV o.2)]],[]⟩:=by
 intro p1 h0_0 h0_1 o h
 unfold Qa9 at h
 refine CallOK.ofB mixed tbOk Qky Tryd.func81 rfl (by kernel_rfl) (Nat.le_of_ble_eq_true rfl) rfl rfl rfl ?_
 refine Qar _ _ h (fun x1 hy=>((Qbl h0_0 h0_1 x1 hy).fr [0] [] rfl rfl rfl)) (fun x1 hy h=>?_)
 refine Qaf h (fun hb h=>?_) (fun hb h=>?_)
 ·refine Exists.intro _ (And.intro (Le.refl _ _ _) ?_)
  exact Qb4 (t:=Qe3) (ss:=fun o=>⟨[[.p (.sl false (h0_0.map Qac)),.p (iV o.2)]],[]⟩) h ⟨[],rfl,.refl _,.refl _,rfl⟩
 ·refine Exists.intro _ (And.intro (Le.refl _ _ _) ?_)
  exact Qb4 (t:=Qe3) (ss:=fun o=>⟨[[.p (.sl false (h0_0.map Qac)),.p (iV o.2)]],[]⟩) h ⟨[],rfl,.refl _,.refl _,rfl⟩
noncomputable def Qaq (p1:Bool) (h0_0:(List Qaa)) (h0_1:Int):Option ((Unit)⊕(Unit)) :=
 some (mustO p1)
theorem Qav:∀ (p1:Bool) (h0_0:(List Qaa)) (h0_1:Int) (o:(Unit)⊕(Unit)),Qaq p1 h0_0 h0_1=some o→CallS Tryd.prog 85 [.ptr 0 0,.p (bV p1)] ⟨[[.p (.sl false (h0_0.map Qac)),.p (iV h0_1)]],[]⟩ Qlh (fun(o:Unit)=>⟨[[.p (.sl false (h0_0.map Qac)),.p (iV h0_1)]],[]⟩) (fun(o:Unit)=>⟨[[.p (.sl false (h0_0.map Qac)),.p (iV h0_1)]],[]⟩) o:=by
 intro p1 h0_0 h0_1 o h
 unfold Qaq at h
 cases h
 exact Q1i _ _ _ _ rfl _ rfl
noncomputable def Qai (p1:Int) (h0_0:(List Qaa)) (h0_1:Int):Option ((Qaa×Int)⊕(Unit)) :=
 Qay h0_0 h0_1>>=fun x1 =>
 Qaq (x1.Kind==p1) h0_0 h0_1>>=fun o3 =>
 match o3 with
 | .inl x2 =>
  some (.inl (x1,(wr (h0_1+1))))
 | .inr z4 =>
  some (.inr ())
theorem Qag:∀ (p1:Int) (h0_0:(List Qaa)) (h0_1:Int) (o:(Qaa×Int)⊕(Unit)),Qai p1 h0_0 h0_1=some o→CallS Tryd.prog 82 [.ptr 0 0,.p (iV p1)] ⟨[[.p (.sl false (h0_0.map Qac)),.p (iV h0_1)]],[]⟩ Qhs (fun(o:Qaa×Int)=>⟨[[.p (.sl false (h0_0.map Qac)),.p (iV o.2)]],[]⟩) (fun(o:Unit)=>⟨[[.p (.sl false (h0_0.map Qac)),.p (iV h0_1)]],[]⟩) o:=by
 intro p1 h0_0 h0_1 o h
 unfold Qai at h
 refine CallS.ofB mixed tbOk Qk0 Tryd.func82 rfl (by kernel_rfl) (Nat.le_of_ble_eq_true rfl) (fun _=>rfl) (fun _=>rfl) (fun _=>rfl) (fun _=>rfl) (fun _=>rfl) ?_
 refine Qar _ _ h (fun x1 hy=>((Qbl h0_0 h0_1 x1 hy).fr [0] [] rfl rfl rfl)) (fun x1 hy h=>?_)
 refine xle ?_
 refine Qaz _ _ _ h (fun x2 hy=>(Qav (x1.Kind==p1) h0_0 h0_1 (.inl x2) hy).a.fr [0] [] rfl rfl rfl) (fun z4 hy=>(Qav (x1.Kind==p1) h0_0 h0_1 (.inr z4) hy).b.fr [0] [] rfl rfl rfl) (fun x2 hy h=>?_) (fun z4 hy h=>?_)
 ·refine Exists.intro _ (And.intro (Le.refl _ _ _) ?_)
  exact Qcx (t:=Qhs) (ss:=fun(o:Qaa×Int)=>⟨[[.p (.sl false (h0_0.map Qac)),.p (iV o.2)]],[]⟩) h ⟨[],rfl,.refl _,.refl _,rfl⟩
 ·refine xle ?_
  exact Qbq (sp:=fun(o:Unit)=>⟨[[.p (.sl false (h0_0.map Qac)),.p (iV h0_1)]],[]⟩) h ⟨[],rfl,.refl _,.refl _,rfl⟩
noncomputable instance Qqj:Lean.Order.CCPO ((List Qab)→(List Qab)→(List Qab)→Option ((Int×Int×(List UInt8)×(List UInt8)×Int×(List Qab)×(List Qab)×(List Qab))⊕(Int×Int×(List UInt8)×(List UInt8)×Int×(List Qab)×(List Qab)×(List Qab)))):=inferInstance
noncomputable instance Qqk:Lean.Order.CCPO ((List UInt8)→(List UInt8)→Int→(List Qab)→(List Qab)→(List Qab)→Option ((Int×Int×(List UInt8)×(List UInt8)×Int×(List Qab)×(List Qab)×(List Qab))⊕(Int×Int×(List UInt8)×(List UInt8)×Int×(List Qab)×(List Qab)×(List Qab)))):=inferInstance
noncomputable def Qbb (h0_0:(List Qaa)) (h0_1_:Int) (h2_0:Int) (h2_1:(List UInt8)) (h2_2:(List UInt8)) (h2_3:Int) (h2_4:(List Qab)) (h2_5:(List Qab)) (h2_6:(List Qab)):Option ((Int×Int×(List UInt8)×(List UInt8)×Int×(List Qab)×(List Qab)×(List Qab))⊕(Int×Int×(List UInt8)×(List UInt8)×Int×(List Qab)×(List Qab)×(List Qab))) :=
 Qa9 7 h0_0 h0_1_>>=fun x7 =>
 if x7.1 then
  Qai 4 h0_0 x7.2>>=fun o9 =>
  match o9 with
  | .inl x8 =>
   Qbb h0_0 x8.2 5 x8.1.Text [] 0 [(Qab.mk h2_0 h2_1 h2_2 h2_3 h2_4 h2_5 h2_6)] [] []
  | .inr z10 =>
   some (.inr (x7.2,h2_0,h2_1,h2_2,h2_3,h2_4,h2_5,h2_6))
 else
  some (.inl (x7.2,h2_0,h2_1,h2_2,h2_3,h2_4,h2_5,h2_6))
 partial_fixpoint
theorem Qil:∀ (h0_0:(List Qaa)),(∀ (h0_1_:Int) (h2_0:Int) (h2_1:(List UInt8)) (h2_2:(List UInt8)) (h2_3:Int) (h2_4:(List Qab)) (h2_5:(List Qab)) (h2_6:(List Qab)) (o4:(Int×Int×(List UInt8)×(List UInt8)×Int×(List Qab)×(List Qab)×(List Qab))⊕(Int×Int×(List UInt8)×(List UInt8)×Int×(List Qab)×(List Qab)×(List Qab))),Qbb h0_0 h0_1_ h2_0 h2_1 h2_2 h2_3 h2_4 h2_5 h2_6=some o4→TL (1,0) Tryd.prog 15 Qfy (JP2 (1,0) 15 o4 (.exit 0) (Qdf h0_0) (.panic panCH) (Qdg h0_0)) (Qcd h0_0 h0_1_ h2_0 h2_1 h2_2 h2_3 h2_4 h2_5 h2_6)):=by
 intro h0_0
 refine Qbb.partial_correctness h0_0 _ ?_
 intro Qbb' iQbb h0_1_ h2_0 h2_1 h2_2 h2_3 h2_4 h2_5 h2_6 o4 h
 refine TL.round (Qan mixed tbOk (lv:=Qg6) _ _ _ ?_)
 refine Qar _ _ h (fun x7 hy=>((Qby 7 h0_0 h0_1_ x7 hy).fr [0] [] rfl rfl rfl)) (fun x7 hy h=>?_)
 refine Qaf h (fun hb h=>?_) (fun hb h=>?_)
 ·refine xle ?_
  refine Q0l h (fun x8 hy h=>?_) (fun z10 hy h=>?_)
  ·refine And.intro (by decide +kernel) (And.intro rfl ?_)
   refine Exists.intro _ (Exists.intro _ (And.intro ((Qag 4 h0_0 x7.2 (.inl x8) hy).a.fg [0] [] rfl rfl rfl (Nat.le_of_ble_eq_true rfl)) ?_))
   refine TL.le (τ := Qcd h0_0 x8.2 5 x8.1.Text [] 0 [(Qab.mk h2_0 h2_1 h2_2 h2_3 h2_4 h2_5 h2_6)] [] []) ?_ ((iQbb x8.2 5 x8.1.Text [] 0 [(Qab.mk h2_0 h2_1 h2_2 h2_3 h2_4 h2_5 h2_6)] [] [] _ h))
   exact Le.tow 3 0 rfl (.cons rfl (.refl _) (.cons rfl (.refl _) (.cons rfl (.refl _) (.nil)))) (.cons (.refl _) (.cons (.refl _) (.cons (.cons (.refl _) (.cons (.refl _) (.cons (.refl _) (.cons (.refl _) (.cons (.p (.no (.cons (.ceq (Qau _) (.refl _)) (.nil)))) (.cons (.p (.not)) (.cons (.p (.not)) (.nil)))))))) (.nil)))) rfl
  ·refine Exists.intro ((.op 0 (.pan 1 (.op 3 (.pan 1 (.op 4 (.pan 1 (.nil)) (.nil))) (.nil))) (.op 3 (.op 0 (.pan 1 (.op 4 (.pan 1 (.nil)) (.nil))) (.op 4 (.op 0 (.pan 1 (.nil)) (.nil)) (.nil))) (.nil)):PT)) (And.intro (by decide +kernel) ?_)
   refine And.intro (And.intro ?_ (And.intro (And.intro ?_ (And.intro (And.intro ?_ (trivial)) (trivial))) (trivial))) (And.intro (And.intro (And.intro ?_ (And.intro (And.intro ?_ (trivial)) (trivial))) (And.intro (And.intro (And.intro ?_ (trivial)) (trivial)) (trivial))) (trivial))
   all_goals
    refine Or.inr (Exists.intro _ (And.intro ((Qag 4 h0_0 x7.2 (.inr z10) hy).b.fr [0] [] rfl rfl rfl) ?_))
    exact JP2.b h (Le.tz 3 0 rfl rfl rfl)
 ·exact JP2.a h (Le.tz 3 0 rfl rfl rfl)
theorem Qja:∀ (h0_0:(List Qaa)) (h0_1_:Int) (h2_0:Int) (h2_1:(List UInt8)) (h2_2:(List UInt8)) (h2_3:Int) (h2_4:(List Qab)) (h2_5:(List Qab)) (h2_6:(List Qab)) (o4:(Int×Int×(List UInt8)×(List UInt8)×Int×(List Qab)×(List Qab)×(List Qab))⊕(Int×Int×(List UInt8)×(List UInt8)×Int×(List Qab)×(List Qab)×(List Qab))),Qbb h0_0 h0_1_ h2_0 h2_1 h2_2 h2_3 h2_4 h2_5 h2_6=some o4→TL (1,0) Tryd.prog 15 Qfy (JP2 (1,0) 15 o4 (.exit 0) (Qdf h0_0) (.panic panCH) (Qdg h0_0)) (Qcd h0_0 h0_1_ h2_0 h2_1 h2_2 h2_3 h2_4 h2_5 h2_6):=fun h0_0 h0_1_ h2_0 h2_1 h2_2 h2_3 h2_4 h2_5 h2_6=>(Qil h0_0) h0_1_ h2_0 h2_1 h2_2 h2_3 h2_4 h2_5 h2_6
noncomputable def Qj6 (p0:(List UInt8)):Option (Bool) :=
 ( if(p0==[105,102]) then
   some (p0==[105,102])
  else
   if(p0==[101,108,115,101]) then
    some (p0==[101,108,115,101])
   else
    if(p0==[101,110,100]) then
     some (p0==[101,110,100])
    else
     if(p0==[101,97,99,104]) then
      some (p0==[101,97,99,104])
     else
      if(p0==[105,110]) then
       some (p0==[105,110])
      else
       if(p0==[108,101,116]) then
        some (p0==[108,101,116])
       else
        if(p0==[117,115,101]) then
         some (p0==[117,115,101])
        else
         if(p0==[116,114,117,101]) then
          some (p0==[116,114,117,101])
         else
          if(p0==[102,97,108,115,101]) then
           some (p0==[102,97,108,115,101])
          else
           some (p0==[115,101,99,114,101,116]):Option (Bool))>>=fun o1 =>
 if o1 then
  some false
 else
  Qh5 p0>>=fun x2 =>
  some x2
theorem Qtf:∀ (p0:(List UInt8)) (o:Bool),Qj6 p0=some o→PCall Tryd.prog 146 [sV p0] (Qi6 o):=by
 intro p0 o h
 unfold Qj6 at h
 refine PCall.ofB mixed tbOk Qtb Tryd.func146 rfl (by kernel_rfl) (Nat.le_of_ble_eq_true rfl) ?_
 refine Qah h (fun o1 ho hk=>?_)
 refine Exists.intro (JP1 _ _ o1 .normal (Qpt p0)) (And.intro ?_ (join1 ?_))
 ·have h:=ho
  refine Qaf h (fun hb h=>?_) (fun hb h=>?_)
  ·refine JP1.a h ?_
   exact Le.tz 0 0 rfl rfl rfl
  ·refine Qaf h (fun hb h=>?_) (fun hb h=>?_)
   ·refine JP1.a h ?_
    exact Le.tz 0 0 rfl rfl rfl
   ·refine Qaf h (fun hb h=>?_) (fun hb h=>?_)
    ·refine JP1.a h ?_
     exact Le.tz 0 0 rfl rfl rfl
    ·refine Qaf h (fun hb h=>?_) (fun hb h=>?_)
     ·refine JP1.a h ?_
      exact Le.tz 0 0 rfl rfl rfl
     ·refine Qaf h (fun hb h=>?_) (fun hb h=>?_)
      ·refine JP1.a h ?_
       exact Le.tz 0 0 rfl rfl rfl
      ·refine Qaf h (fun hb h=>?_) (fun hb h=>?_)
       ·refine JP1.a h ?_
        exact Le.tz 0 0 rfl rfl rfl
       ·refine Qaf h (fun hb h=>?_) (fun hb h=>?_)
        ·refine JP1.a h ?_
         exact Le.tz 0 0 rfl rfl rfl
        ·refine Qaf h (fun hb h=>?_) (fun hb h=>?_)
         ·refine JP1.a h ?_
          exact Le.tz 0 0 rfl rfl rfl
         ·refine Qaf h (fun hb h=>?_) (fun hb h=>?_)
          ·refine JP1.a h ?_
           exact Le.tz 0 0 rfl rfl rfl
          ·refine JP1.a h ?_
           exact Le.tz 0 0 rfl rfl rfl
 ·have h:=hk
  refine Qaf h (fun hb h=>?_) (fun hb h=>?_)
  ·refine Qbw (t:=Qi6) h ?_
   exact .refl _
  ·refine Qax [sV p0] Qhf h (fun x2 hy=>(Qlm p0 x2 hy)) (fun x2 hy h=>?_)
   refine Qbw (t:=Qi6) h ?_
   exact .refl _
noncomputable def Qbs (h0_0:(List Qaa)) (h0_1:Int):Option (((List UInt8)×Int)⊕(Unit)) :=
 Qay h0_0 h0_1>>=fun x1 =>
 Qj6 x1.Text>>=fun x2 =>
 Qaq x2 h0_0 h0_1>>=fun o4 =>
 match o4 with
 | .inl x3 =>
  Qai 4 h0_0 h0_1>>=fun o7 =>
  match o7 with
  | .inl x6 =>
   some (.inl (x6.1.Text,x6.2))
  | .inr z8 =>
   some (.inr ())
 | .inr z5 =>
  some (.inr ())
theorem Qbc:∀ (h0_0:(List Qaa)) (h0_1:Int) (o:((List UInt8)×Int)⊕(Unit)),Qbs h0_0 h0_1=some o→CallS Tryd.prog 115 [.ptr 0 0] ⟨[[.p (.sl false (h0_0.map Qac)),.p (iV h0_1)]],[]⟩ Qhr (fun(o:(List UInt8)×Int)=>⟨[[.p (.sl false (h0_0.map Qac)),.p (iV o.2)]],[]⟩) (fun(o:Unit)=>⟨[[.p (.sl false (h0_0.map Qac)),.p (iV h0_1)]],[]⟩) o:=by
 intro h0_0 h0_1 o h
 unfold Qbs at h
 refine CallS.ofB mixed tbOk Qkw Tryd.func115 rfl (by kernel_rfl) (Nat.le_of_ble_eq_true rfl) (fun _=>rfl) (fun _=>rfl) (fun _=>rfl) (fun _=>rfl) (fun _=>rfl) ?_
 refine xle ?_
 refine Qar _ _ h (fun x1 hy=>((Qbl h0_0 h0_1 x1 hy).fr [0] [] rfl rfl rfl)) (fun x1 hy h=>?_)
 refine Qax [sV x1.Text] Qi6 h (fun x2 hy=>(Qtf x1.Text x2 hy)) (fun x2 hy h=>?_)
 refine Qaz _ _ _ h (fun x3 hy=>(Qav x2 h0_0 h0_1 (.inl x3) hy).a.fr [0] [] rfl rfl rfl) (fun z5 hy=>(Qav x2 h0_0 h0_1 (.inr z5) hy).b.fr [0] [] rfl rfl rfl) (fun x3 hy h=>?_) (fun z5 hy h=>?_)
 ·refine xle ?_
  refine Qaz _ _ _ h (fun x6 hy=>(Qag 4 h0_0 h0_1 (.inl x6) hy).a.fr [0] [] rfl rfl rfl) (fun z8 hy=>(Qag 4 h0_0 h0_1 (.inr z8) hy).b.fr [0] [] rfl rfl rfl) (fun x6 hy h=>?_) (fun z8 hy h=>?_)
  ·refine Exists.intro _ (And.intro (Le.refl _ _ _) ?_)
   exact Qcx (t:=Qhr) (ss:=fun(o:(List UInt8)×Int)=>⟨[[.p (.sl false (h0_0.map Qac)),.p (iV o.2)]],[]⟩) h ⟨[],rfl,.refl _,.refl _,rfl⟩
  ·refine xle ?_
   exact Qbq (sp:=fun(o:Unit)=>⟨[[.p (.sl false (h0_0.map Qac)),.p (iV h0_1)]],[]⟩) h ⟨[],rfl,.refl _,.refl _,rfl⟩
 ·refine xle ?_
  exact Qbq (sp:=fun(o:Unit)=>⟨[[.p (.sl false (h0_0.map Qac)),.p (iV h0_1)]],[]⟩) h ⟨[],rfl,.refl _,.refl _,rfl⟩
noncomputable def Qak (p1:(List UInt8)) (h0_0:(List Qaa)) (h0_1:Int):Option (Bool×Int) :=
 Qay h0_0 h0_1>>=fun x1 =>
 ( if(x1.Kind != 4) then
   some true
  else
   some (!(x1.Text==p1)):Option (Bool))>>=fun o2 =>
 if o2 then
  some (false,h0_1)
 else
  some (true,(wr (h0_1+1)))
theorem Qaw:∀ (p1:(List UInt8)) (h0_0:(List Qaa)) (h0_1:Int) (o:Bool×Int),Qak p1 h0_0 h0_1=some o→CallOK Tryd.prog 83 [.ptr 0 0,.p (sV p1)] ⟨[[.p (.sl false (h0_0.map Qac)),.p (iV h0_1)]],[]⟩ (Qe4 o) ⟨[[.p (.sl false (h0_0.map Qac)),.p (iV o.2)]],[]⟩:=by
 intro p1 h0_0 h0_1 o h
 unfold Qak at h
 refine CallOK.ofB mixed tbOk Qk1 Tryd.func83 rfl (by kernel_rfl) (Nat.le_of_ble_eq_true rfl) rfl rfl rfl ?_
 refine Qar _ _ h (fun x1 hy=>((Qbl h0_0 h0_1 x1 hy).fr [0] [] rfl rfl rfl)) (fun x1 hy h=>?_)
 refine Qah h (fun o2 ho hk=>?_)
 refine Exists.intro (JP1 _ _ o2 .normal (Qjl h0_0 h0_1 x1)) (And.intro ?_ (join1 ?_))
 ·have h:=ho
  refine Qaf h (fun hb h=>?_) (fun hb h=>?_)
  ·refine JP1.a h ?_
   exact Le.tz 2 0 rfl rfl rfl
  ·refine JP1.a h ?_
   exact Le.tz 2 0 rfl rfl rfl
 ·have h:=hk
  refine Qaf h (fun hb h=>?_) (fun hb h=>?_)
  ·refine Exists.intro _ (And.intro (Le.refl _ _ _) ?_)
   exact Qb4 (t:=Qe4) (ss:=fun o=>⟨[[.p (.sl false (h0_0.map Qac)),.p (iV o.2)]],[]⟩) h ⟨[],rfl,.refl _,.refl _,rfl⟩
  ·refine Exists.intro _ (And.intro (Le.refl _ _ _) ?_)
   exact Qb4 (t:=Qe4) (ss:=fun o=>⟨[[.p (.sl false (h0_0.map Qac)),.p (iV o.2)]],[]⟩) h ⟨[],rfl,.refl _,.refl _,rfl⟩
mutual
noncomputable def Qc4 (h0_0:(List Qaa)) (h0_1:Int):Option (((List Qab)×Int)⊕(Int)) :=
 Qa9 9 h0_0 h0_1>>=fun x1 =>
 if x1.1 then
  some (.inl ([],x1.2))
 else
  Qbt h0_0 x1.2>>=fun o3 =>
  match o3 with
  | .inl x2 =>
   (Qbd h0_0 [x2.1] x2.2)>>=fun o5 =>
   match o5 with
   | .inl y6 =>
    Qai 9 h0_0 y6.2>>=fun o15 =>
    match o15 with
    | .inl x14 =>
     some (.inl (y6.1,x14.2))
    | .inr z16 =>
     some (.inr y6.2)
   | .inr y7 =>
    some (.inr y7)
  | .inr z4 =>
   some (.inr z4)
 partial_fixpoint
noncomputable def Qbd (h0_0:(List Qaa)) (v3:(List Qab)) (h0_1_:Int):Option (((List Qab)×Int)⊕Int) :=
 ( if(decide ((v3.length:Int)<3)) then
   Qa9 10 h0_0 h0_1_>>=fun x9 =>
   some (x9.1,x9.2)
  else
   some (false,h0_1_):Option ((Bool×Int)))>>=fun o8 =>
 if o8.1 then
  Qbt h0_0 o8.2>>=fun o11 =>
  match o11 with
  | .inl x10 =>
   appL 120 v3 [x10.1]>>=fun x13 =>
   Qbd h0_0 x13 x10.2
  | .inr z12 =>
   some (.inr z12)
 else
  some (.inl (v3,o8.2))
 partial_fixpoint
noncomputable def Qbt (h0_0:(List Qaa)) (h0_1:Int):Option ((Qab×Int)⊕(Int)) :=
 Qd5 h0_0 h0_1>>=fun o2 =>
 match o2 with
 | .inl x1 =>
  (Qbb h0_0 x1.2 x1.1.Kind x1.1.Name x1.1.Text x1.1.N x1.1.L x1.1.Then x1.1.Else)>>=fun o4 =>
  match o4 with
  | .inl y5 =>
   some (.inl ((Qab.mk y5.2.1 y5.2.2.1 y5.2.2.2.1 y5.2.2.2.2.1 y5.2.2.2.2.2.1 y5.2.2.2.2.2.2.1 y5.2.2.2.2.2.2.2),y5.1))
  | .inr y6 =>
   some (.inr y6.1)
 | .inr z3 =>
  some (.inr z3)
 partial_fixpoint
noncomputable def Qd5 (h0_0:(List Qaa)) (h0_1:Int):Option ((Qab×Int)⊕(Int)) :=
 Qay h0_0 h0_1>>=fun x1 =>
 if(x1.Kind==5) then
  some (.inl ((Qab.mk 1 [] x1.Text 0 [] [] []),(wr (h0_1+1))))
 else
  if(x1.Kind==6) then
   some (.inl ((Qab.mk 2 [] [] x1.N [] [] []),(wr (h0_1+1))))
  else
   Qak [116,114,117,101] h0_0 h0_1>>=fun x2 =>
   if x2.1 then
    some (.inl ((Qab.mk 3 [] [] 1 [] [] []),x2.2))
   else
    Qak [102,97,108,115,101] h0_0 x2.2>>=fun x3 =>
    if x3.1 then
     some (.inl ((Qab.mk 3 [] [] 0 [] [] []),x3.2))
    else
     Qak [115,101,99,114,101,116] h0_0 x3.2>>=fun x4 =>
     if x4.1 then
      Qai 8 h0_0 x4.2>>=fun o6 =>
      match o6 with
      | .inl x5 =>
       Qay h0_0 x5.2>>=fun x8 =>
       Qh5 x8.Text>>=fun x9 =>
       Qaq x9 h0_0 x5.2>>=fun o11 =>
       match o11 with
       | .inl x10 =>
        Qai 5 h0_0 x5.2>>=fun o14 =>
        match o14 with
        | .inl x13 =>
         Qai 9 h0_0 x13.2>>=fun o17 =>
         match o17 with
         | .inl x16 =>
          some (.inl ((Qab.mk 7 x13.1.Text [] 0 [] [] []),x16.2))
         | .inr z18 =>
          some (.inr x13.2)
        | .inr z15 =>
         some (.inr x5.2)
       | .inr z12 =>
        some (.inr x5.2)
      | .inr z7 =>
       some (.inr x4.2)
     else
      Qbs h0_0 x4.2>>=fun o20 =>
      match o20 with
      | .inl x19 =>
       Qa9 8 h0_0 x19.2>>=fun x22 =>
       if x22.1 then
        Qc4 h0_0 x22.2>>=fun o24 =>
        match o24 with
        | .inl x23 =>
         some (.inl ((Qab.mk 6 x19.1 [] 0 x23.1 [] []),x23.2))
        | .inr z25 =>
         some (.inr z25)
       else
        some (.inl ((Qab.mk 4 x19.1 [] 0 [] [] []),x22.2))
      | .inr z21 =>
       some (.inr x4.2)
 partial_fixpoint
end
end Go.Proofs.YtagokkpnfceidaaDoor
end
