/- The proof's texts, part 8 of 12: the walks by a logic in which data are by value, the plain laws, and at the end the law, for every input. -/
import Derived.Test.YtagokkpnfceidaaDoorMgParseBack7

section
set_option linter.unusedVariables false
set_option linter.unusedSimpArgs false
set_option maxRecDepth 100000
set_option maxHeartbeats 4000000
namespace Go.Proofs.YtagokkpnfceidaaDoor
open Go.RowKit
structure Qaa where
 Kind:Int
 Name:(List UInt8)
 Text:(List UInt8)
 N:Int
 L:(List Qaa)
 Then:(List Qaa)
 Else:(List Qaa)
mutual
noncomputable def Qac:Qaa→List V
 | ⟨x0,x1,x2,x3,x4,x5,x6⟩=>[iV x0,sV x1,sV x2,iV x3,.sl false (Qgy x4),.sl false (Qgy x5),.sl false (Qgy x6)]
noncomputable def Qgy:List Qaa→List (List V)
 | []=>[]
 | x::r=>Qac x::Qgy r
end
theorem Qlx:∀ l:List Qaa,Qgy l=l.map Qac
 | []=>rfl
 | x::r=>by rw[Qgy,Qlx r]; rfl
noncomputable def Qat (x:Qaa):List V:=[iV x.Kind,sV x.Name,sV x.Text,iV x.N,.sl false (x.L.map Qac),.sl false (x.Then.map Qac),.sl false (x.Else.map Qac)]
theorem Qah (x:Qaa):Qac x=Qat x:=by cases x; simp[Qac,Qat,Qlx]
structure Qab where
 Kind:Int
 Text:(List UInt8)
 N:Int
 From:Int
 To:Int
noncomputable def Qae (x:Qab):List V:=[iV x.Kind,sV x.Text,iV x.N,iV x.From,iV x.To]
structure Qh1 where
 c_:Int
 k_:Int
noncomputable def Qly (y:Bool):D :=.p (bV y)
noncomputable def Qu6:List (Nat×List Nat):=[(0,[0,1,2]),(1,[6]),(3000001,[])]
noncomputable def Qrn  (o1:Bool):St:=⟨[(6,.p (bV o1))],⟨[],[]⟩⟩
noncomputable def Qpo (y:(List UInt8)):D :=.p (sV y)
noncomputable def Qro:List (Nat×List Nat):=[(0,[0,1]),(1,[0,1,5]),(2,[0,1,5,6]),(3,[0,1,5,6,10]),(4,[0,1,5,6]),(5,[0,1,5,6,14]),(6,[0,1,5,6]),(7,[0,1,5,6]),(8,[4]),(1000003,[0,1,5,6])]
noncomputable def Qe7 (p0:(List (List UInt8))) (p1:(List UInt8)) (v5:(List UInt8)) (v6:Int):St:=⟨[(0,.p (.sl false (p0.map cStr))),(1,.p (sV p1)),(5,.p (sV v5)),(6,.p (iV v6))],⟨[],[]⟩⟩
noncomputable def Qjr (p0:(List (List UInt8))) (p1:(List UInt8)) (o1:(List UInt8)):St:=⟨[(5,.p (sV o1))],⟨[],[]⟩⟩
noncomputable def Qon:Code:=((loopsOf (Tryd.f106.body.getD .skip)).getD 0 .skip)
noncomputable def Qt9 (y:(List UInt8)):D :=.p (sV y)
noncomputable def Qgz (y:(List UInt8)):D :=.p (sV y)
noncomputable def Qxu:List (Nat×List Nat):=[(0,[0]),(1,[0,5]),(2,[0]),(3,[0,7]),(4,[2]),(5,[0,13]),(6,[2]),(7,[0,25]),(8,[2]),(9,[2]),(2001005,[])]
noncomputable def Qs0  (o1:Int):St:=⟨[(0,.p (iV o1))],⟨[],[]⟩⟩
noncomputable def Qqx (y:Bool):D :=.p (bV y)
noncomputable def Qxv:List (Nat×List Nat):=[(0,[0]),(1,[0,3]),(2,[0,3,9]),(3,[0,3,4,5]),(4,[0,3,5,21]),(5,[2]),(6,[0,3]),(7,[2]),(1000002,[0,3]),(3000004,[])]
noncomputable def Qz0 (p0:(List UInt8)) (v3:Int) (x4:Int×Int) (o5:Bool):St:=⟨[(0,.p (sV p0)),(3,.p (iV v3)),(5,.p (iV x4.2)),(21,.p (bV o5))],⟨[],[]⟩⟩
noncomputable def Qjh (p0:(List UInt8)) (v3:Int):St:=⟨[(0,.p (sV p0)),(3,.p (iV v3))],⟨[],[]⟩⟩
noncomputable def Qlz (p0:(List UInt8)) (y2:Unit):St:=⟨[],⟨[],[]⟩⟩
noncomputable def Ql0 (p0:(List UInt8)) (y3:Unit):St:=⟨[(2,.p (bV false))],⟨[],[]⟩⟩
noncomputable def Qrp:Code:=((loopsOf (Tryd.f69.body.getD .skip)).getD 0 .skip)
noncomputable def Qj9 (y:Int×Int):D :=.tup [.p (iV y.1),.p (iV y.2)]
noncomputable def Qn0:List (Nat×List Nat):=[(0,[0,1]),(1,[0,1,17]),(2,[4,5]),(3,[0,1,6]),(4,[0,1,6,7]),(5,[0,1,6,7,28]),(6,[0,1,6,7]),(7,[0,1,6,7,8]),(8,[0,1,6,7,8,9]),(9,[0,1,6,7,8,9,42]),(10,[0,1,6,7,8,9]),(11,[0,1,6,7,8,9]),(12,[0,1,6,7,8,71]),(13,[4,5]),(14,[4,5]),(1000005,[0,1,6,7]),(1000009,[0,1,6,7,8,9]),(3000001,[]),(3000005,[]),(3000012,[])]
noncomputable def Qu7 (p0:(List UInt8)) (p1:Int) (o1:Bool):St:=⟨[(0,.p (sV p0)),(1,.p (iV p1)),(17,.p (bV o1))],⟨[],[]⟩⟩
noncomputable def Qu8 (p0:(List UInt8)) (p1:Int) (v6:(List Int)) (v7:Int) (o5:Bool):St:=⟨[(0,.p (sV p0)),(1,.p (iV p1)),(6,.p (.sl true (v6.map cInt))),(7,.p (iV v7)),(28,.p (bV o5))],⟨[],[]⟩⟩
noncomputable def Qhb (p0:(List UInt8)) (p1:Int) (v6:(List Int)) (v7:Int) (v8:Int) (v9:Int):St:=⟨[(0,.p (sV p0)),(1,.p (iV p1)),(6,.p (.sl true (v6.map cInt))),(7,.p (iV v7)),(8,.p (iV v8)),(9,.p (iV v9))],⟨[],[]⟩⟩
noncomputable def Qjs (p0:(List UInt8)) (p1:Int) (v6:(List Int)) (v7:Int) (o8:Int):St:=⟨[(0,.p (sV p0)),(1,.p (iV p1)),(6,.p (.sl true (v6.map cInt))),(7,.p (iV v7)),(8,.p (iV o8))],⟨[],[]⟩⟩
noncomputable def Qoo:Code:=((loopsOf (Tryd.f70.body.getD .skip)).getD 1 .skip)
noncomputable def Qu9 (p0:(List UInt8)) (p1:Int) (v6:(List Int)) (v7:Int) (o8:Int) (o10:Bool):St:=⟨[(0,.p (sV p0)),(1,.p (iV p1)),(6,.p (.sl true (v6.map cInt))),(7,.p (iV v7)),(8,.p (iV o8)),(71,.p (bV o10))],⟨[],[]⟩⟩
noncomputable def Qhc (p0:(List UInt8)) (p1:Int) (v6:(List Int)) (v7:Int):St:=⟨[(0,.p (sV p0)),(1,.p (iV p1)),(6,.p (.sl true (v6.map cInt))),(7,.p (iV v7))],⟨[],[]⟩⟩
noncomputable def Qjt (p0:(List UInt8)) (p1:Int) (y3:Unit):St:=⟨[],⟨[],[]⟩⟩
noncomputable def Qju (p0:(List UInt8)) (p1:Int) (y4:Int×Int):St:=⟨[(4,.p (iV y4.1)),(5,.p (iV y4.2))],⟨[],[]⟩⟩
noncomputable def Qop:Code:=((loopsOf (Tryd.f70.body.getD .skip)).getD 0 .skip)
noncomputable def Qm8 (y:Bool):D :=.p (bV y)
noncomputable def Qz1:List (Nat×List Nat):=[(0,[0]),(1,[2]),(3000001,[])]
noncomputable def Qva  (o1:Bool):St:=⟨[(2,.p (bV o1))],⟨[],[]⟩⟩
noncomputable def Qg0 (y:(List UInt8)×Bool):D :=.tup [.p (sV y.1),.p (bV y.2)]
noncomputable def Qp3:List (Nat×List Nat):=[(0,[0]),(1,[0,9]),(2,[2,3]),(3,[0,4]),(4,[0,4,5]),(5,[0,4,5,13]),(6,[0,4,5]),(7,[0,4,5,6]),(8,[0,4,5,6,22]),(9,[2,3]),(10,[0,4,5,6,24]),(11,[0,4,5,6]),(12,[0,4,5,6,26]),(13,[0,4,5,6]),(14,[0,4,5,6,32]),(15,[0,4,5,6]),(16,[0,4,5]),(17,[2,3]),(1000005,[0,4,5]),(2010013,[]),(3000014,[])]
noncomputable def Qs1 (p0:(List UInt8)) (v4:(List UInt8)) (v5:Int) (o6:(List UInt8)):St:=⟨[(0,.p (sV p0)),(4,.p (sV v4)),(5,.p (iV v5)),(6,.p (sV o6))],⟨[],[]⟩⟩
noncomputable def Qs2 (p0:(List UInt8)) (v4:(List UInt8)) (v5:Int) (x5:(List UInt8)) (o7:Bool):St:=⟨[(0,.p (sV p0)),(4,.p (sV v4)),(5,.p (iV v5)),(6,.p (sV x5)),(32,.p (bV o7))],⟨[],[]⟩⟩
noncomputable def Qf4 (p0:(List UInt8)) (v4:(List UInt8)) (v5:Int):St:=⟨[(0,.p (sV p0)),(4,.p (sV v4)),(5,.p (iV v5))],⟨[],[]⟩⟩
noncomputable def Qiu (p0:(List UInt8)) (y3:(List UInt8)):St:=⟨[(4,.p (sV y3))],⟨[],[]⟩⟩
noncomputable def Qiv (p0:(List UInt8)) (y4:Unit):St:=⟨[(2,.p (sV [])),(3,.p (bV false))],⟨[],[]⟩⟩
noncomputable def Qno:Code:=((loopsOf (Tryd.f104.body.getD .skip)).getD 0 .skip)
noncomputable def Qg1 (y:Bool):D :=.p (bV y)
noncomputable def Qrq:List (Nat×List Nat):=[(0,[0]),(1,[0,17]),(2,[2]),(3,[0,3]),(4,[0,3,21]),(5,[0,3]),(6,[0,3,41]),(7,[2]),(8,[2]),(1000004,[0,3]),(3000001,[]),(3000006,[])]
noncomputable def Qvb (p0:(List UInt8)) (o1:Bool):St:=⟨[(0,.p (sV p0)),(17,.p (bV o1))],⟨[],[]⟩⟩
noncomputable def Qvc (p0:(List UInt8)) (v3:Int) (o7:Bool):St:=⟨[(0,.p (sV p0)),(3,.p (iV v3)),(41,.p (bV o7))],⟨[],[]⟩⟩
noncomputable def Qhd (p0:(List UInt8)) (v3:Int):St:=⟨[(0,.p (sV p0)),(3,.p (iV v3))],⟨[],[]⟩⟩
noncomputable def Qjv (p0:(List UInt8)) (y5:Unit):St:=⟨[],⟨[],[]⟩⟩
noncomputable def Qjw (p0:(List UInt8)) (y6:Unit):St:=⟨[(2,.p (bV false))],⟨[],[]⟩⟩
noncomputable def Qoq:Code:=((loopsOf (Tryd.f153.body.getD .skip)).getD 0 .skip)
noncomputable def Qn1 (y:Bool):D :=.p (bV y)
noncomputable def Qxw:List (Nat×List Nat):=[(0,[0]),(1,[2]),(3000001,[])]
noncomputable def Qs3  (o1:Bool):St:=⟨[(2,.p (bV o1))],⟨[],[]⟩⟩
noncomputable def Qkw (y:Bool):D :=.p (bV y)
noncomputable def Qxx:List (Nat×List Nat):=[(0,[0]),(1,[2]),(3000001,[])]
noncomputable def Qs4  (o1:Bool):St:=⟨[(2,.p (bV o1))],⟨[],[]⟩⟩
noncomputable def Qfh (y:Int):D :=.p (iV y)
noncomputable def Qp4:List (Nat×List Nat):=[(0,[0]),(1,[0,3]),(2,[0,3,4]),(3,[0,3,4,8]),(4,[0,3,4]),(5,[0,3,4]),(6,[2]),(1000003,[0,3,4])]
noncomputable def Qiw (p0:(List Qaa)) (v3:Int) (v4:Int):St:=⟨[(0,.p (.sl false (p0.map Qac))),(3,.p (iV v3)),(4,.p (iV v4))],⟨[],[]⟩⟩
noncomputable def Ql1 (p0:(List Qaa)) (o1:Int):St:=⟨[(3,.p (iV o1))],⟨[],[]⟩⟩
noncomputable def Qs5:Code:=((loopsOf (Tryd.f74.body.getD .skip)).getD 0 .skip)
noncomputable def Qg2 (y:Int):D :=.p (iV y)
noncomputable def Qrr:List (Nat×List Nat):=[(0,[0]),(1,[0,3]),(2,[0,3,4]),(3,[0,3,4,8]),(4,[0,3,4]),(5,[0,3,4]),(6,[2]),(1000003,[0,3,4])]
noncomputable def Qjx (p0:(List Qaa)) (v3:Int) (v4:Int):St:=⟨[(0,.p (.sl false (p0.map Qac))),(3,.p (iV v3)),(4,.p (iV v4))],⟨[],[]⟩⟩
noncomputable def Qnp (p0:(List Qaa)) (o1:Int):St:=⟨[(3,.p (iV o1))],⟨[],[]⟩⟩
noncomputable def Qvd:Code:=((loopsOf (Tryd.f73.body.getD .skip)).getD 0 .skip)
noncomputable def Qbx (y:(List UInt8)):D :=.p (sV y)
noncomputable def Qrs:List (Nat×List Nat):=[(0,[1]),(1,[1,8]),(2,[1,8,9]),(3,[3]),(4,[2]),(5,[1,8,18]),(6,[2]),(7,[1,8,23]),(8,[27]),(9,[2]),(10,[2]),(11,[1,8,28]),(12,[2]),(13,[1,8,32]),(14,[2]),(15,[1,43]),(16,[2]),(17,[1,5]),(18,[1,5,6]),(19,[1,5,6,54]),(20,[1,5,6]),(21,[1,5,6]),(22,[2]),(1000019,[1,5,6])]
noncomputable def Qjy (p0:Qaa) (v5:(List (List UInt8))) (v6:Int):St:=⟨[(1,.ptr 0 0),(5,.own 0 9 1 (v5.map cStr)),(6,.p (iV v6))],⟨[[.p (iV p0.Kind),.p (sV p0.Name),.p (sV p0.Text),.p (iV p0.N),.p (.sl false (p0.L.map Qac)),.p (.sl false (p0.Then.map Qac)),.p (.sl false (p0.Else.map Qac))]],[(v5.map cStr).length]⟩⟩
noncomputable def Qnq (p0:Qaa) (o5:(List (List UInt8))):St:=⟨[(1,.ptr 0 0),(5,.own 0 9 1 (o5.map cStr))],⟨[[.p (iV p0.Kind),.p (sV p0.Name),.p (sV p0.Text),.p (iV p0.N),.p (.sl false (p0.L.map Qac)),.p (.sl false (p0.Then.map Qac)),.p (.sl false (p0.Else.map Qac))]],[(o5.map cStr).length]⟩⟩
noncomputable def Qve:Code:=((loopsOf (Tryd.f75.body.getD .skip)).getD 0 .skip)
noncomputable def Qvf (y:Bool):D :=.p (bV y)
noncomputable def Q37:List (Nat×List Nat):=[(0,[0]),(1,[2]),(3000001,[])]
noncomputable def Qz2  (o1:Bool):St:=⟨[(2,.p (bV o1))],⟨[],[]⟩⟩
noncomputable def Qg3 (y:Bool):D :=.p (bV y)
noncomputable def Qrt:List (Nat×List Nat):=[(0,[0]),(1,[0,3]),(2,[0,3,4]),(3,[0,3,4,9]),(4,[0,3,4]),(5,[0,3,4,17]),(6,[2]),(7,[2]),(1000003,[0,3,4])]
noncomputable def Qhe (p0:(List UInt8)) (x1:(List (List UInt8))) (v4:Int):St:=⟨[(0,.p (sV p0)),(3,.p (.sl false (x1.map cStr))),(4,.p (iV v4))],⟨[],[]⟩⟩
noncomputable def Qjz (p0:(List UInt8)) (x1:(List (List UInt8))) (y3:Unit):St:=⟨[(0,.p (sV p0))],⟨[],[]⟩⟩
noncomputable def Qj0 (p0:(List UInt8)) (x1:(List (List UInt8))) (y4:Unit):St:=⟨[(2,.p (bV false))],⟨[],[]⟩⟩
noncomputable def Qor:Code:=((loopsOf (Tryd.f135.body.getD .skip)).getD 0 .skip)
noncomputable def Qix (y:(List UInt8)×Bool):D :=.tup [.p (sV y.1),.p (bV y.2)]
noncomputable def Qxy:List (Nat×List Nat):=[(0,[0]),(1,[0,7]),(2,[2,3]),(3,[4]),(4,[4,12]),(5,[2,3]),(6,[2,3])]
noncomputable def Qez (y:Bool):D :=.p (bV y)
noncomputable def Qru:List (Nat×List Nat):=[(0,[0,1]),(1,[0,1,12]),(2,[4]),(3,[0,1,5]),(4,[0,1,5,16]),(5,[0,1,5]),(6,[0,1,5,6,7]),(7,[0,1,5,76]),(8,[4]),(9,[4]),(1000004,[0,1,5]),(3000006,[]),(3000007,[]),(6000006,[8,9])]
noncomputable def Qvg (p0:(List Qaa)) (p1:(List Qaa)) (v5:Int) (o4:Int×(List UInt8)×(List UInt8)×Int×(List Qaa)×(List Qaa)×(List Qaa)×Int×(List UInt8)×(List UInt8)×Int×(List Qaa)×(List Qaa)×(List Qaa)):St:=⟨[(0,.p (.sl false (p0.map Qac))),(1,.p (.sl false (p1.map Qac))),(5,.p (iV v5)),(6,.ptr 0 0),(7,.ptr 1 0)],⟨[[.p (iV o4.1),.p (sV o4.2.1),.p (sV o4.2.2.1),.p (iV o4.2.2.2.1),.p (.sl false (o4.2.2.2.2.1.map Qac)),.p (.sl false (o4.2.2.2.2.2.1.map Qac)),.p (.sl false (o4.2.2.2.2.2.2.1.map Qac))],[.p (iV o4.2.2.2.2.2.2.2.1),.p (sV o4.2.2.2.2.2.2.2.2.1),.p (sV o4.2.2.2.2.2.2.2.2.2.1),.p (iV o4.2.2.2.2.2.2.2.2.2.2.1),.p (.sl false (o4.2.2.2.2.2.2.2.2.2.2.2.1.map Qac)),.p (.sl false (o4.2.2.2.2.2.2.2.2.2.2.2.2.1.map Qac)),.p (.sl false (o4.2.2.2.2.2.2.2.2.2.2.2.2.2.map Qac))]],[]⟩⟩
noncomputable def Qvh (p0:(List Qaa)) (p1:(List Qaa)) (v5:Int) (o4:Int×(List UInt8)×(List UInt8)×Int×(List Qaa)×(List Qaa)×(List Qaa)×Int×(List UInt8)×(List UInt8)×Int×(List Qaa)×(List Qaa)×(List Qaa)) (o7:Bool):St:=⟨[(0,.p (.sl false (p0.map Qac))),(1,.p (.sl false (p1.map Qac))),(5,.p (iV v5)),(76,.p (bV o7))],⟨[[.p (iV o4.1),.p (sV o4.2.1),.p (sV o4.2.2.1),.p (iV o4.2.2.2.1),.p (.sl false (o4.2.2.2.2.1.map Qac)),.p (.sl false (o4.2.2.2.2.2.1.map Qac)),.p (.sl false (o4.2.2.2.2.2.2.1.map Qac))],[.p (iV o4.2.2.2.2.2.2.2.1),.p (sV o4.2.2.2.2.2.2.2.2.1),.p (sV o4.2.2.2.2.2.2.2.2.2.1),.p (iV o4.2.2.2.2.2.2.2.2.2.2.1),.p (.sl false (o4.2.2.2.2.2.2.2.2.2.2.2.1.map Qac)),.p (.sl false (o4.2.2.2.2.2.2.2.2.2.2.2.2.1.map Qac)),.p (.sl false (o4.2.2.2.2.2.2.2.2.2.2.2.2.2.map Qac))]],[]⟩⟩
noncomputable def Qj1 (p0:(List Qaa)) (p1:(List Qaa)) (v5:Int):St:=⟨[(0,.p (.sl false (p0.map Qac))),(1,.p (.sl false (p1.map Qac))),(5,.p (iV v5))],⟨[],[]⟩⟩
noncomputable def Qnr (p0:(List Qaa)) (p1:(List Qaa)) (y2:Unit):St:=⟨[],⟨[],[]⟩⟩
noncomputable def Qns (p0:(List Qaa)) (p1:(List Qaa)) (y3:Unit):St:=⟨[(4,.p (bV false))],⟨[],[]⟩⟩
noncomputable def Qvi:Code:=((loopsOf (Tryd.f23.body.getD .skip)).getD 0 .skip)
noncomputable def Qn2 (y:(List (List UInt8))):D :=.p (.sl false (y.map cStr))
noncomputable def Qxz:List (Nat×List Nat):=[(0,[]),(1,[0])]
noncomputable def Qej (y:(List UInt8)):D :=.p (sV y)
noncomputable def Qp5:List (Nat×List Nat):=[(0,[0]),(1,[0,3]),(2,[0,3,4]),(3,[0,3,4,9]),(4,[0,3,4]),(5,[0,3,4,5]),(6,[0,3,4,5,17]),(7,[0,3,4]),(8,[0,3,4,5,17,36]),(9,[0,3,4]),(10,[0,3,4,5,17,42]),(11,[0,3,4]),(12,[0,3,4,5,17,53]),(13,[0,3,4]),(14,[0,3,4,5,17,68]),(15,[0,3,4,5]),(16,[0,3,4,5,86]),(17,[0,3,4]),(18,[0,3,4]),(19,[0,3,4,5,95]),(20,[0,3,4]),(21,[2]),(1000003,[0,3,4])]
noncomputable def Qb0 (p0:(List Qaa)) (v3:(List UInt8)) (v4:Int):St:=⟨[(0,.p (.sl false (p0.map Qac))),(3,.p (sV v3)),(4,.p (iV v4))],⟨[],[]⟩⟩
noncomputable def Ql2 (p0:(List Qaa)) (o1:(List UInt8)):St:=⟨[(3,.p (sV o1))],⟨[],[]⟩⟩
noncomputable def Qs6:Code:=((loopsOf (Tryd.f46.body.getD .skip)).getD 0 .skip)
noncomputable def Qb9 (y:Bool):D :=.p (bV y)
noncomputable def Qz3:List (Nat×List Nat):=[(0,[1,2,3,4,5,6]),(1,[12]),(3000001,[])]
noncomputable def Qvj (p0:Qaa) (o1:Bool):St:=⟨[(12,.p (bV o1))],⟨[[.p (iV p0.Kind),.p (sV p0.Name),.p (sV p0.Text),.p (iV p0.N),.p (.sl false (p0.L.map Qac)),.p (.sl false (p0.Then.map Qac)),.p (.sl false (p0.Else.map Qac))]],[]⟩⟩
noncomputable def Qek (y:Bool):D :=.p (bV y)
noncomputable def Qp6:List (Nat×List Nat):=[(0,[0,1]),(1,[0,1,5]),(2,[0,1,5,11]),(3,[0,1,5]),(4,[0,1,5,19]),(5,[4]),(6,[0,1,5,25]),(7,[0,1,5,6]),(8,[0,1,5,6,7]),(9,[0,1,5,61]),(10,[4]),(11,[4]),(1000002,[0,1,5]),(3000009,[])]
noncomputable def Qs7 (p0:(List Qaa)) (p1:Bool) (v5:Int) (o8:Bool):St:=⟨[(0,.p (.sl false (p0.map Qac))),(1,.p (bV p1)),(5,.p (iV v5)),(61,.p (bV o8))],⟨[],[]⟩⟩
noncomputable def Qf5 (p0:(List Qaa)) (p1:Bool) (v5:Int):St:=⟨[(0,.p (.sl false (p0.map Qac))),(1,.p (bV p1)),(5,.p (iV v5))],⟨[],[]⟩⟩
noncomputable def Ql3 (p0:(List Qaa)) (p1:Bool) (y2:Unit):St:=⟨[],⟨[],[]⟩⟩
noncomputable def Ql4 (p0:(List Qaa)) (p1:Bool) (y3:Unit):St:=⟨[(4,.p (bV false))],⟨[],[]⟩⟩
noncomputable def Qs8:Code:=((loopsOf (Tryd.f72.body.getD .skip)).getD 0 .skip)
noncomputable def Qd4 (y:Bool):D :=.p (bV y)
noncomputable def Qz4:List (Nat×List Nat):=[(0,[1]),(1,[1,6]),(2,[1,6,7]),(3,[1,4]),(4,[2]),(5,[1,6,20]),(6,[2]),(7,[1,6,24]),(8,[2]),(9,[1,6,38]),(10,[2]),(11,[1,6,47]),(12,[2]),(13,[1,6,67]),(14,[2]),(15,[1,87]),(16,[2]),(17,[2]),(3000004,[]),(3000008,[]),(3000010,[]),(3000012,[]),(3000014,[]),(3000016,[])]
noncomputable def Qvk (p0:Qaa) (o2:Bool):St:=⟨[(2,.p (bV o2))],⟨[[.p (iV p0.Kind),.p (sV p0.Name),.p (sV p0.Text),.p (iV p0.N),.p (.sl false (p0.L.map Qac)),.p (.sl false (p0.Then.map Qac)),.p (.sl false (p0.Else.map Qac))]],[]⟩⟩
noncomputable def Qvl (p0:Qaa) (o5:Bool):St:=⟨[(2,.p (bV o5))],⟨[[.p (iV p0.Kind),.p (sV p0.Name),.p (sV p0.Text),.p (iV p0.N),.p (.sl false (p0.L.map Qac)),.p (.sl false (p0.Then.map Qac)),.p (.sl false (p0.Else.map Qac))]],[]⟩⟩
noncomputable def Qvm (p0:Qaa) (o8:Bool):St:=⟨[(2,.p (bV o8))],⟨[[.p (iV p0.Kind),.p (sV p0.Name),.p (sV p0.Text),.p (iV p0.N),.p (.sl false (p0.L.map Qac)),.p (.sl false (p0.Then.map Qac)),.p (.sl false (p0.Else.map Qac))]],[]⟩⟩
noncomputable def Qvn (p0:Qaa) (o11:Bool):St:=⟨[(2,.p (bV o11))],⟨[[.p (iV p0.Kind),.p (sV p0.Name),.p (sV p0.Text),.p (iV p0.N),.p (.sl false (p0.L.map Qac)),.p (.sl false (p0.Then.map Qac)),.p (.sl false (p0.Else.map Qac))]],[]⟩⟩
noncomputable def Qvo (p0:Qaa) (o15:Bool):St:=⟨[(2,.p (bV o15))],⟨[[.p (iV p0.Kind),.p (sV p0.Name),.p (sV p0.Text),.p (iV p0.N),.p (.sl false (p0.L.map Qac)),.p (.sl false (p0.Then.map Qac)),.p (.sl false (p0.Else.map Qac))]],[]⟩⟩
noncomputable def Qvp (p0:Qaa) (o19:Bool):St:=⟨[(2,.p (bV o19))],⟨[[.p (iV p0.Kind),.p (sV p0.Name),.p (sV p0.Text),.p (iV p0.N),.p (.sl false (p0.L.map Qac)),.p (.sl false (p0.Then.map Qac)),.p (.sl false (p0.Else.map Qac))]],[]⟩⟩
noncomputable def Qfi (y:Bool):D :=.p (bV y)
noncomputable def Qp7:List (Nat×List Nat):=[(0,[0]),(1,[0,3]),(2,[0,3,7]),(3,[0,3]),(4,[0,3,15]),(5,[2]),(6,[2]),(1000002,[0,3])]
noncomputable def Qiy (p0:(List Qaa)) (v3:Int):St:=⟨[(0,.p (.sl false (p0.map Qac))),(3,.p (iV v3))],⟨[],[]⟩⟩
noncomputable def Ql5 (p0:(List Qaa)) (y2:Unit):St:=⟨[],⟨[],[]⟩⟩
noncomputable def Ql6 (p0:(List Qaa)) (y3:Unit):St:=⟨[(2,.p (bV false))],⟨[],[]⟩⟩
noncomputable def Qs9:Code:=((loopsOf (Tryd.f132.body.getD .skip)).getD 0 .skip)
noncomputable def Qji (y:Bool):D :=.p (bV y)
noncomputable def Qos:List (Nat×List Nat):=[(0,[0,1]),(1,[0,1,5]),(2,[0,1,5,9]),(3,[0,1,5]),(4,[0,1,5,15]),(5,[4]),(6,[4]),(1000002,[0,1,5])]
noncomputable def Qfa (p0:(List UInt8)) (p1:(List UInt8)) (v5:Int):St:=⟨[(0,.p (sV p0)),(1,.p (sV p1)),(5,.p (iV v5))],⟨[],[]⟩⟩
noncomputable def Qh2 (p0:(List UInt8)) (p1:(List UInt8)) (y2:Unit):St:=⟨[],⟨[],[]⟩⟩
noncomputable def Qh3 (p0:(List UInt8)) (p1:(List UInt8)) (y3:Unit):St:=⟨[(4,.p (bV true))],⟨[],[]⟩⟩
noncomputable def Ql7:Code:=((loopsOf (Tryd.f133.body.getD .skip)).getD 0 .skip)
noncomputable def Qfv (y:Bool):D :=.p (bV y)
noncomputable def Qz5:List (Nat×List Nat):=[(0,[1]),(1,[1,3]),(2,[1,3,14]),(3,[1,3,14,15]),(4,[2]),(5,[1,3,14,30]),(6,[2]),(7,[1,3,14,37]),(8,[2]),(9,[1,3,14,54]),(10,[1,3,14,54]),(11,[2]),(12,[1,3,72]),(13,[2]),(14,[2]),(2009005,[]),(3000001,[]),(3000004,[]),(3000006,[]),(3000008,[]),(3000011,[]),(3000013,[])]
noncomputable def Qvq (p0:Qaa) (o1:Bool):St:=⟨[(1,.ptr 0 0),(3,.p (bV o1))],⟨[[.p (iV p0.Kind),.p (sV p0.Name),.p (sV p0.Text),.p (iV p0.N),.p (.sl false (p0.L.map Qac)),.p (.sl false (p0.Then.map Qac)),.p (.sl false (p0.Else.map Qac))]],[]⟩⟩
noncomputable def Qvr (p0:Qaa) (o3:Bool):St:=⟨[(2,.p (bV o3))],⟨[[.p (iV p0.Kind),.p (sV p0.Name),.p (sV p0.Text),.p (iV p0.N),.p (.sl false (p0.L.map Qac)),.p (.sl false (p0.Then.map Qac)),.p (.sl false (p0.Else.map Qac))]],[]⟩⟩
noncomputable def Qvs (p0:Qaa) (o6:Bool):St:=⟨[(2,.p (bV o6))],⟨[[.p (iV p0.Kind),.p (sV p0.Name),.p (sV p0.Text),.p (iV p0.N),.p (.sl false (p0.L.map Qac)),.p (.sl false (p0.Then.map Qac)),.p (.sl false (p0.Else.map Qac))]],[]⟩⟩
noncomputable def Qvt (p0:Qaa) (o8:Bool):St:=⟨[(2,.p (bV o8))],⟨[[.p (iV p0.Kind),.p (sV p0.Name),.p (sV p0.Text),.p (iV p0.N),.p (.sl false (p0.L.map Qac)),.p (.sl false (p0.Then.map Qac)),.p (.sl false (p0.Else.map Qac))]],[]⟩⟩
noncomputable def Qvu (p0:Qaa) (o1:Bool) (o12:Bool):St:=⟨[(1,.ptr 0 0),(3,.p (bV o1)),(14,.p (iV p0.Kind)),(54,.p (bV o12))],⟨[[.p (iV p0.Kind),.p (sV p0.Name),.p (sV p0.Text),.p (iV p0.N),.p (.sl false (p0.L.map Qac)),.p (.sl false (p0.Then.map Qac)),.p (.sl false (p0.Else.map Qac))]],[]⟩⟩
noncomputable def Qvv (p0:Qaa) (o13:Bool):St:=⟨[(2,.p (bV o13))],⟨[[.p (iV p0.Kind),.p (sV p0.Name),.p (sV p0.Text),.p (iV p0.N),.p (.sl false (p0.L.map Qac)),.p (.sl false (p0.Then.map Qac)),.p (.sl false (p0.Else.map Qac))]],[]⟩⟩
noncomputable def Qvw (p0:Qaa) (o17:Bool):St:=⟨[(2,.p (bV o17))],⟨[[.p (iV p0.Kind),.p (sV p0.Name),.p (sV p0.Text),.p (iV p0.N),.p (.sl false (p0.L.map Qac)),.p (.sl false (p0.Then.map Qac)),.p (.sl false (p0.Else.map Qac))]],[]⟩⟩
noncomputable def Qb3 (y:Bool):D :=.p (bV y)
noncomputable def Qf6:List (Nat×List Nat):=[(0,[0,1]),(1,[4]),(3000001,[])]
noncomputable def Qfj  (o1:Bool):St:=⟨[(4,.p (bV o1))],⟨[],[]⟩⟩
noncomputable def Qec (y:Int):D :=.p (iV y)
noncomputable def Ql8 (y:(List Qab)×Int×Int):D :=.tup [.p (.sl false (y.1.map Qae)),.p (iV y.2.1),.p (iV y.2.2)]
noncomputable def Qa8:List (Nat×List Nat):=[(0,[0]),(1,[0,9]),(2,[2,3,4]),(3,[0,5]),(4,[0,5]),(5,[0,5,6]),(6,[0,5,6,21]),(7,[0,5,6]),(8,[0,5,6,30]),(9,[0,5]),(10,[0,5,52]),(11,[2,3,4]),(12,[0,5]),(13,[0,5]),(14,[0,5,66]),(15,[0,5,6]),(16,[0,5,6,75]),(17,[2,3,4]),(18,[0,5]),(19,[0,5]),(20,[0,5,93]),(21,[0,5]),(22,[0,5,107]),(23,[2,3,4]),(2006005,[]),(2008005,[]),(2014015,[]),(3000022,[]),(5000009,[14])]
noncomputable def Qrv (p0:(List UInt8)) (w0:Int×(List Qab)) (o4:Int):St:=⟨[(0,.p (sV p0)),(5,.ptr 0 0),(6,.p (iV o4))],⟨[[.p (sV p0),.p (iV w0.1),.own 0 106 5 (w0.2.map Qae)]],[(w0.2.map Qae).length]⟩⟩
noncomputable def Qrw (p0:(List UInt8)) (o5:Int×(List Qab)):St:=⟨[(0,.p (sV p0)),(5,.ptr 0 0)],⟨[[.p (sV p0),.p (iV o5.1),.own 0 106 5 (o5.2.map Qae)]],[(o5.2.map Qae).length]⟩⟩
noncomputable def Qrx (p0:(List UInt8)) (x8:Int×(List Qab)) (x9:Int) (y11:Int):St:=⟨[(0,.p (sV p0)),(5,.ptr 0 0)],⟨[[.p (sV p0),.p (iV y11),.own 0 106 5 (x8.2.map Qae)]],[(x8.2.map Qae).length]⟩⟩
noncomputable def Qry (p0:(List UInt8)) (x8:Int×(List Qab)) (x9:Int) (y12:Unit):St:=⟨[(2,.p (.sl true [])),(3,.p (iV (p0.length:Int))),(4,.p (iV 7))],⟨[[.p (sV p0),.p (iV x9),.own 0 106 5 (x8.2.map Qae)]],[(x8.2.map Qae).length]⟩⟩
noncomputable def Qrz (p0:(List UInt8)) (o19:Bool×Int×(List Qab)):St:=⟨[(0,.p (sV p0)),(5,.ptr 0 0),(107,.p (bV o19.1))],⟨[[.p (sV p0),.p (iV o19.2.1),.own 0 106 5 (o19.2.2.map Qae)]],[(o19.2.2.map Qae).length]⟩⟩
noncomputable def Qed (p0:(List UInt8)) (w0:Int×(List Qab)):St:=⟨[(0,.p (sV p0)),(5,.ptr 0 0)],⟨[[.p (sV p0),.p (iV w0.1),.own 0 106 5 (w0.2.map Qae)]],[(w0.2.map Qae).length]⟩⟩
noncomputable def Qf7 (p0:(List UInt8)) (w1:Int×(List Qab)):St:=⟨[(0,.p (sV p0)),(5,.ptr 0 0)],⟨[[.p (sV p0),.p (iV w1.1),.own 0 106 5 (w1.2.map Qae)]],[(w1.2.map Qae).length]⟩⟩
noncomputable def Qfb (p0:(List UInt8)) (o1:(List Qab)×Int×Int):St:=⟨[(2,.p (.sl false (o1.1.map Qae))),(3,.p (iV o1.2.1)),(4,.p (iV o1.2.2))],⟨[],[]⟩⟩
noncomputable def Qdb:Code:=((scopesOf (Tryd.f47.body.getD .skip)).getD 0 .skip)
noncomputable def Qim (y:Bool):D :=.p (bV y)
noncomputable def Qr0:List (Nat×List Nat):=[(0,[0]),(1,[0,5,6]),(2,[0,5,6,7]),(3,[0,3,5,6]),(4,[0,5,6,13]),(5,[2]),(6,[0,5,6]),(7,[2]),(1000002,[0,5,6]),(3000007,[])]
noncomputable def Qhf (p0:(List UInt8)) (v6:Int):St:=⟨[(0,.p (sV p0)),(5,.p (iV (p0.length:Int))),(6,.p (iV v6))],⟨[],[]⟩⟩
noncomputable def Qj2 (p0:(List UInt8)) (y2:Unit):St:=⟨[(0,.p (sV p0))],⟨[],[]⟩⟩
noncomputable def Qj3 (p0:(List UInt8)) (y3:Unit):St:=⟨[(2,.p (bV false))],⟨[],[]⟩⟩
noncomputable def Qot:Code:=((loopsOf (Tryd.f144.body.getD .skip)).getD 0 .skip)
noncomputable def Qvx  (o6:Bool):St:=⟨[(2,.p (bV o6))],⟨[],[]⟩⟩
noncomputable def Qg4 (y:Bool):D :=.p (bV y)
noncomputable def Qx0:List (Nat×List Nat):=[(0,[0]),(1,[2]),(3000001,[])]
noncomputable def Qta  (o1:Bool):St:=⟨[(2,.p (bV o1))],⟨[],[]⟩⟩
noncomputable def Qf8 (y:Int×Bool):D :=.tup [.p (nV .u8 y.1),.p (bV y.2)]
noncomputable def Qtb:List (Nat×List Nat):=[(0,[0]),(1,[0,4]),(2,[0,4,5]),(3,[2,3]),(4,[0,7]),(5,[2,3]),(6,[2,3]),(3000006,[])]
noncomputable def Qqg (p0:Int) (o1:Bool):St:=⟨[(2,.p (nV .u8 p0)),(3,.p (bV o1))],⟨[],[]⟩⟩
noncomputable def Qhr (y:Bool):D :=.p (bV y)
noncomputable def Qvy:List (Nat×List Nat):=[(0,[0]),(1,[2]),(3000001,[])]
noncomputable def Qr1  (o1:Bool):St:=⟨[(2,.p (bV o1))],⟨[],[]⟩⟩
noncomputable def Qgv (_:Int):D :=.tup []
noncomputable def Qkx:List (Nat×List Nat):=[(0,[])]
noncomputable def Qe2 (y:Bool×Int×(List Qab)):D :=.p (bV y.1)
noncomputable def Ql9:List (Nat×List Nat):=[(0,[0]),(1,[0,3]),(2,[0,3,4,5]),(3,[0,3,4,5,18]),(4,[5]),(5,[2])]
noncomputable def Qiz (_:Int×(List Qab)):D :=.tup []
noncomputable def Qnd:List (Nat×List Nat):=[(0,[0,4]),(1,[])]
noncomputable def Qel (y:(List UInt8)):D :=.p (sV y)
noncomputable def Qee:List (Nat×List Nat):=[(0,[0,1,2]),(1,[0,2,7]),(2,[0,2,7,25]),(3,[0,2,7]),(4,[6]),(1000002,[0,2,7]),(3000002,[])]
noncomputable def Qhs (h0_0:(List UInt8)) (h0_1:Int) (h0_2:(List Qab)) (v7:Int) (o2:Bool):St:=⟨[(0,.ptr 0 0),(2,.fn (.func 109) [] []),(7,.p (iV v7)),(25,.p (bV o2))],⟨[[.p (sV h0_0),.p (iV h0_1),.own 0 106 5 (h0_2.map Qae)]],[(h0_2.map Qae).length]⟩⟩
noncomputable def Qbm (h0_0:(List UInt8)) (h0_1:Int) (h0_2:(List Qab)) (v7:Int):St:=⟨[(0,.ptr 0 0),(2,.fn (.func 109) [] []),(7,.p (iV v7))],⟨[[.p (sV h0_0),.p (iV h0_1),.own 0 106 5 (h0_2.map Qae)]],[(h0_2.map Qae).length]⟩⟩
noncomputable def Qca (h0_0:(List UInt8)) (h0_1:Int) (h0_2:(List Qab)) (o1:Int):St:=⟨[(0,.ptr 0 0),(7,.p (iV o1))],⟨[[.p (sV h0_0),.p (iV h0_1),.own 0 106 5 (h0_2.map Qae)]],[(h0_2.map Qae).length]⟩⟩
noncomputable def Qdk:Code:=((loopsOf (Tryd.f142.body.getD .skip)).getD 0 .skip)
noncomputable def Qef (y:(List UInt8)):D :=.p (sV y)
noncomputable def Qdy:List (Nat×List Nat):=[(0,[0,1,2]),(1,[0,2,7]),(2,[0,2,7,25]),(3,[0,2,7]),(4,[6]),(1000002,[0,2,7]),(3000002,[])]
noncomputable def Qg5 (h0_0:(List UInt8)) (h0_1:Int) (h0_2:(List Qab)) (v7:Int) (o2:Bool):St:=⟨[(0,.ptr 0 0),(2,.fn (.func 111) [] []),(7,.p (iV v7)),(25,.p (bV o2))],⟨[[.p (sV h0_0),.p (iV h0_1),.own 0 106 5 (h0_2.map Qae)]],[(h0_2.map Qae).length]⟩⟩
noncomputable def Qbi (h0_0:(List UInt8)) (h0_1:Int) (h0_2:(List Qab)) (v7:Int):St:=⟨[(0,.ptr 0 0),(2,.fn (.func 111) [] []),(7,.p (iV v7))],⟨[[.p (sV h0_0),.p (iV h0_1),.own 0 106 5 (h0_2.map Qae)]],[(h0_2.map Qae).length]⟩⟩
noncomputable def Qb4 (h0_0:(List UInt8)) (h0_1:Int) (h0_2:(List Qab)) (o1:Int):St:=⟨[(0,.ptr 0 0),(7,.p (iV o1))],⟨[[.p (sV h0_0),.p (iV h0_1),.own 0 106 5 (h0_2.map Qae)]],[(h0_2.map Qae).length]⟩⟩
noncomputable def Qdc:Code:=((loopsOf (Tryd.f142.body.getD .skip)).getD 0 .skip)
noncomputable def Qf9 (y:Bool×Int×(List Qab)):D :=.p (bV y.1)
noncomputable def Qi0:List (Nat×List Nat):=[(0,[0]),(1,[0,3]),(2,[0,12,13]),(3,[0,12,13,14]),(4,[0,5,12,13]),(5,[0,5,12,13,27]),(6,[]),(7,[2]),(8,[0,12,13]),(9,[2]),(1000003,[0,12,13])]
noncomputable def Qcs (h0_0:(List UInt8)) (h0_1:Int) (h0_2:(List Qab)) (v13:Int):St:=⟨[(0,.ptr 0 0),(12,.p (.agg [nV .u8 46,iV 7,nV .u8 40,iV 8,nV .u8 41,iV 9,nV .u8 44,iV 10,nV .u8 61,iV 11])),(13,.p (iV v13))],⟨[[.p (sV h0_0),.p (iV h0_1),.own 0 106 5 (h0_2.map Qae)],[.p (nV .u8 46),.p (iV 7),.p (nV .u8 40),.p (iV 8),.p (nV .u8 41),.p (iV 9),.p (nV .u8 44),.p (iV 10),.p (nV .u8 61),.p (iV 11)]],[(h0_2.map Qae).length]⟩⟩
noncomputable def Qd8 (h0_0:(List UInt8)) (h0_1:Int) (h0_2:(List Qab)) (y2:Unit):St:=⟨[],⟨[[.p (sV h0_0),.p (iV h0_1),.own 0 106 5 (h0_2.map Qae)],[.p (nV .u8 46),.p (iV 7),.p (nV .u8 40),.p (iV 8),.p (nV .u8 41),.p (iV 9),.p (nV .u8 44),.p (iV 10),.p (nV .u8 61),.p (iV 11)]],[(h0_2.map Qae).length]⟩⟩
noncomputable def Qd9 (h0_0:(List UInt8)) (h0_1:Int) (h0_2:(List Qab)) (y3:Int×(List Qab)):St:=⟨[(2,.p (bV true))],⟨[[.p (sV h0_0),.p (iV y3.1),.own 0 106 5 (y3.2.map Qae)],[.p (nV .u8 46),.p (iV 7),.p (nV .u8 40),.p (iV 8),.p (nV .u8 41),.p (iV 9),.p (nV .u8 44),.p (iV 10),.p (nV .u8 61),.p (iV 11)]],[(y3.2.map Qae).length]⟩⟩
noncomputable def Qht:Code:=((loopsOf (Tryd.f113.body.getD .skip)).getD 0 .skip)
noncomputable def Qeg (y:Bool×Int×(List Qab)):D :=.p (bV y.1)
noncomputable def Qi1:List (Nat×List Nat):=[(0,[0]),(1,[0,3]),(2,[0,3,4]),(3,[0,3,4,29]),(4,[0,3,4,5,6]),(5,[0,3,4,5,6,39]),(6,[0,3,4,49]),(7,[2]),(8,[0,3,4,7,8]),(9,[0,3,4,7,62]),(10,[2]),(11,[0,3,4]),(12,[0,3,4]),(13,[0,3,4,6,67]),(14,[2]),(15,[0,3,4,6]),(16,[0,3,4]),(17,[0,3,4,101]),(18,[2]),(19,[]),(20,[2]),(1000003,[0,3,4]),(3000003,[]),(3000013,[]),(5000019,[1,9,1001]),(8000019,[1])]
noncomputable def Qma (h0_0:(List UInt8)) (h0_1:Int) (h0_2:(List Qab)) (v4:Int) (h1_0:Bool) (h1_1:(List Int)) (o4:Bool):St:=⟨[(0,.ptr 0 0),(3,.ptr 1 0),(4,.p (iV v4)),(29,.p (bV o4))],⟨[[.p (sV h0_0),.p (iV h0_1),.own 0 106 5 (h0_2.map Qae)],[.sp Tryd.prog 44 h1_0 1 0,.own 1 5 1 (h1_1.map (cNum .u8))]],[(h0_2.map Qae).length,(h1_1.map (cNum .u8)).length]⟩⟩
noncomputable def Qmb (h0_0:(List UInt8)) (h0_1:Int) (h0_2:(List Qab)) (v4:Int) (h1_0:Bool) (h1_1:(List Int)) (x6:Int×Int) (o10:Bool):St:=⟨[(0,.ptr 0 0),(3,.ptr 1 0),(4,.p (iV v4)),(6,.p (iV x6.2)),(67,.p (bV o10))],⟨[[.p (sV h0_0),.p (iV h0_1),.own 0 106 5 (h0_2.map Qae)],[.sp Tryd.prog 44 h1_0 1 0,.own 1 5 1 (h1_1.map (cNum .u8))]],[(h0_2.map Qae).length,(h1_1.map (cNum .u8)).length]⟩⟩
noncomputable def Qb7 (h0_0:(List UInt8)) (h0_1:Int) (h0_2:(List Qab)) (v4:Int) (h1_0:Bool) (h1_1:(List Int)):St:=⟨[(0,.ptr 0 0),(3,.ptr 1 0),(4,.p (iV v4))],⟨[[.p (sV h0_0),.p (iV h0_1),.own 0 106 5 (h0_2.map Qae)],[.sp Tryd.prog 44 h1_0 1 0,.own 1 5 1 (h1_1.map (cNum .u8))]],[(h0_2.map Qae).length,(h1_1.map (cNum .u8)).length]⟩⟩
noncomputable def Qea (h0_0:(List UInt8)) (h0_1:Int) (h0_2:(List Qab)) (y2:Int×Bool×(List Int)):St:=⟨[(0,.ptr 0 0),(3,.ptr 1 0),(4,.p (iV y2.1))],⟨[[.p (sV h0_0),.p (iV h0_1),.own 0 106 5 (h0_2.map Qae)],[.sp Tryd.prog 44 y2.2.1 1 0,.own 1 5 1 (y2.2.2.map (cNum .u8))]],[(h0_2.map Qae).length,(y2.2.2.map (cNum .u8)).length]⟩⟩
noncomputable def Qeb (h0_0:(List UInt8)) (h0_1:Int) (h0_2:(List Qab)) (y3:Bool×(List Int)):St:=⟨[(2,.p (bV false))],⟨[[.p (sV h0_0),.p (iV h0_1),.own 0 106 5 (h0_2.map Qae)],[.sp Tryd.prog 44 y3.1 1 0,.own 1 5 1 (y3.2.map (cNum .u8))]],[(h0_2.map Qae).length,(y3.2.map (cNum .u8)).length]⟩⟩
noncomputable def Qhu:Code:=((loopsOf (Tryd.f108.body.getD .skip)).getD 0 .skip)
noncomputable def Qcf (y:Bool×Int×(List Qab)):D :=.p (bV y.1)
noncomputable def Qlg:List (Nat×List Nat):=[(0,[0]),(1,[0,3]),(2,[0,3,13]),(3,[2]),(4,[0,3,18]),(5,[2]),(6,[0,27]),(7,[2]),(8,[2]),(3000004,[])]
noncomputable def Qka (h0_0:(List UInt8)) (h0_1:Int) (h0_2:(List Qab)) (x1:UInt8) (o3:Bool):St:=⟨[(0,.ptr 0 0),(3,.p (nV .u8 (x1.toNat:Int))),(18,.p (bV o3))],⟨[[.p (sV h0_0),.p (iV h0_1),.own 0 106 5 (h0_2.map Qae)]],[(h0_2.map Qae).length]⟩⟩
noncomputable def Qga (y:Bool×Int×(List Qab)):D :=.p (bV y.1)
noncomputable def Qn3:List (Nat×List Nat):=[(0,[0]),(1,[0,3]),(2,[0,3,12]),(3,[2]),(4,[]),(5,[2])]
noncomputable def Qbv (y:(List Qaa)×Int):D :=.tup [.p (.sl false (y.1.map Qac)),.p (iV y.2)]
noncomputable def Qib:List (Nat×List Nat):=[(0,[0,1,2]),(1,[0,1,2,8]),(2,[0,1,2,8,9]),(3,[0,1,2,8,9,24]),(4,[0,1,2,8,9]),(5,[0,1,2,8,9,10]),(6,[0,1,2,8,9,10]),(7,[0,1,2,8,9,10,11]),(8,[0,1,2,8,9,10,11]),(9,[0,1,2,8,9,10,11]),(10,[0,1,2,8,9,11]),(11,[0,1,2,8,9]),(12,[6,7]),(1000003,[0,1,2,8,9]),(3000003,[])]
noncomputable def Qlh (p0:(List Qaa)) (p1:Int) (v2:Int) (v8:(List Qaa)) (v9:Int) (o2:Bool):St:=⟨[(0,.p (.sl false (p0.map Qac))),(1,.p (iV p1)),(2,.p (iV v2)),(8,.own 0 71 7 (v8.map Qac)),(9,.p (iV v9)),(24,.p (bV o2))],⟨[],[(v8.map Qac).length]⟩⟩
noncomputable def Qdo (p0:(List Qaa)) (p1:Int) (v2:Int) (v8:(List Qaa)) (v9:Int):St:=⟨[(0,.p (.sl false (p0.map Qac))),(1,.p (iV p1)),(2,.p (iV v2)),(8,.own 0 71 7 (v8.map Qac)),(9,.p (iV v9))],⟨[],[(v8.map Qac).length]⟩⟩
noncomputable def Qgb (p0:(List Qaa)) (p1:Int) (o1:Int×(List Qaa)):St:=⟨[(2,.p (iV o1.1)),(8,.own 0 71 7 (o1.2.map Qac))],⟨[],[(o1.2.map Qac).length]⟩⟩
noncomputable def Qli:Code:=((loopsOf (Tryd.f19.body.getD .skip)).getD 0 .skip)
noncomputable def Qdp (y:Bool):D :=.p (bV y)
noncomputable def Qkb:List (Nat×List Nat):=[(0,[0]),(1,[0]),(2,[0,3,4]),(3,[0,3,19]),(4,[2]),(5,[0,5,6,7]),(6,[2]),(3000006,[])]
noncomputable def Qjc  (o5:Bool):St:=⟨[(2,.p (bV o5))],⟨[],[]⟩⟩
noncomputable def Qdq (y:Bool):D :=.p (bV y)
noncomputable def Qne:List (Nat×List Nat):=[(0,[]),(1,[1,3]),(2,[1,3,5,6]),(3,[1,3,5,6,8,9]),(4,[0]),(3000004,[])]
noncomputable def Qlj  (o4:Bool):St:=⟨[(0,.p (bV o4))],⟨[],[]⟩⟩
noncomputable def Qhg (y:Bool):D :=.p (bV y)
noncomputable def Qr2:List (Nat×List Nat):=[(0,[0,1,2]),(1,[6]),(3000001,[])]
noncomputable def Qpp  (o1:Bool):St:=⟨[(6,.p (bV o1))],⟨[],[]⟩⟩
noncomputable def Qnt (y:Int×Bool):D :=.tup [.p (iV y.1),.p (bV y.2)]
noncomputable def Qcd (y:(List Qaa)×Int×Int):D :=.tup [.p (.sl false (y.1.map Qac)),.p (iV y.2.1),.p (iV y.2.2)]
noncomputable def Qtc:List (Nat×List Nat):=[(0,[1,2,3,4]),(1,[1,2,3,4,5]),(2,[1,2,3,4,5,14]),(3,[2,3,4]),(4,[1,2,3,4,6]),(5,[2,3,4,6]),(6,[2,3,4]),(7,[2,3,4,26]),(8,[2,3,4]),(9,[2,3,4,30]),(10,[2,3,4]),(11,[2,3,4]),(9400003,[]),(9600006,[1]),(9700006,[2,3,4])]
noncomputable def Qfk (y:(List Qaa)×Int):D :=.p (.sl false (y.1.map Qac))
noncomputable def Qic:List (Nat×List Nat):=[(0,[0]),(1,[0,5]),(2,[2]),(3,[0,3]),(4,[0,3,15]),(5,[0,3]),(6,[3]),(7,[2]),(1000004,[0,3]),(3000004,[]),(9600003,[1]),(9600005,[2]),(9600006,[1])]
noncomputable def Qlk (h0_0:(List Qab)) (v3:(List Qaa)) (o8:Bool×Int):St:=⟨[(0,.ptr 0 0),(3,.own 0 1000071 7 (v3.map Qac)),(15,.p (bV o8.1))],⟨[[.p (.sl false (h0_0.map Qae)),.p (iV o8.2)]],[(v3.map Qac).length]⟩⟩
noncomputable def Qdr (h0_0:(List Qab)) (v3:(List Qaa)) (h0_1_:Int):St:=⟨[(0,.ptr 0 0),(3,.own 0 1000071 7 (v3.map Qac))],⟨[[.p (.sl false (h0_0.map Qae)),.p (iV h0_1_)]],[(v3.map Qac).length]⟩⟩
noncomputable def Qgc (h0_0:(List Qab)) (y6:(List Qaa)×Int):St:=⟨[(0,.ptr 0 0),(3,.own 0 1000071 7 (y6.1.map Qac))],⟨[[.p (.sl false (h0_0.map Qae)),.p (iV y6.2)]],[(y6.1.map Qac).length]⟩⟩
noncomputable def Qgd (h0_0:(List Qab)) (y7:Int):St:=⟨[],⟨[[.p (.sl false (h0_0.map Qae)),.p (iV y7)]],[]⟩⟩
noncomputable def Qll:Code:=((loopsOf (Tryd.f160.body.getD .skip)).getD 0 .skip)
noncomputable def Qe3 (y:(List Qaa)×Int×Int):D :=.tup [.p (.sl false (y.1.map Qac)),.p (iV y.2.1)]
noncomputable def Qbj:List (Nat×List Nat):=[(0,[0,1,2]),(1,[0,1,2,8]),(2,[0,1,2,8,20]),(3,[0,1,2,8,9]),(4,[0,1,2,8,9,10]),(5,[0,1,2,8,9,10,27]),(6,[0,1,2,8,9,10,37]),(7,[0,1,2,8]),(8,[0,1,2,8]),(9,[0,1,2,8]),(10,[0,1,2,8,56]),(11,[0,1,2,8,59]),(12,[8]),(13,[6,7]),(14,[0,1,2,8,68]),(15,[8]),(16,[6,7]),(17,[0,1,2,8]),(18,[8]),(19,[6,7]),(1000002,[0,1,2,8]),(3000006,[]),(3000011,[]),(3000014,[]),(5000007,[2002,2003,2004]),(9000003,[1,0,0,0]),(9000006,[5,0,0,0,6,0,0,0,7,0,0,0]),(9000007,[8,0,0,0,9,0,0,0,10,1,8,0]),(9000008,[5,0,0,0]),(9000017,[4,0,0,0]),(9500013,[]),(9500016,[]),(9500019,[]),(9600009,[1]),(9600012,[1]),(9600015,[1]),(9600017,[2]),(9600018,[3]),(9800007,[8]),(7000007,[0,1,2,8,38,39,45])]
noncomputable def Qky (p1:Bool) (p2:Bool) (h0_0:(List Qab)) (v8:(List Qaa)) (x8:Qab) (x9:Bool×Int) (o10:Bool):St:=⟨[(0,.ptr 0 0),(1,.p (bV p1)),(2,.p (bV p2)),(8,.x 0 1 (.sl 71 7 (v8.map Qac))),(9,.p (iV (wr ((v8.length:Int)-1)))),(10,.ptr 1 0),(37,.p (bV o10))],⟨[[.p (.sl false (h0_0.map Qae)),.p (iV x9.2)],[.p (iV x8.Kind),.p (sV x8.Text),.p (iV x8.N),.p (iV x8.From),.p (iV x8.To)]],[1]⟩⟩
noncomputable def Qkz (p1:Bool) (p2:Bool) (h0_0:(List Qab)) (v8:(List Qaa)) (x8:Qab) (o19:Bool×Int):St:=⟨[(0,.ptr 0 0),(1,.p (bV p1)),(2,.p (bV p2)),(8,.x 0 1 (.sl 71 7 (v8.map Qac))),(59,.p (bV o19.1))],⟨[[.p (.sl false (h0_0.map Qae)),.p (iV o19.2)],[.p (iV x8.Kind),.p (sV x8.Text),.p (iV x8.N),.p (iV x8.From),.p (iV x8.To)]],[1]⟩⟩
noncomputable def Qk0 (p1:Bool) (p2:Bool) (h0_0:(List Qab)) (v8:(List Qaa)) (x8:Qab) (o24:Bool×Int):St:=⟨[(0,.ptr 0 0),(1,.p (bV p1)),(2,.p (bV p2)),(8,.x 0 1 (.sl 71 7 (v8.map Qac))),(68,.p (bV o24.1))],⟨[[.p (.sl false (h0_0.map Qae)),.p (iV o24.2)],[.p (iV x8.Kind),.p (sV x8.Text),.p (iV x8.N),.p (iV x8.From),.p (iV x8.To)]],[1]⟩⟩
noncomputable def Qbh (p1:Bool) (p2:Bool) (h0_0:(List Qab)) (v8:(List Qaa)) (h0_1_:Int):St:=⟨[(0,.ptr 0 0),(1,.p (bV p1)),(2,.p (bV p2)),(8,.x 0 1 (.sl 71 7 (v8.map Qac)))],⟨[[.p (.sl false (h0_0.map Qae)),.p (iV h0_1_)]],[1]⟩⟩
noncomputable def Qfw (p1:Bool) (p2:Bool) (h0_0:(List Qab)) (y5:(List Qaa)×Int):St:=⟨[(0,.ptr 0 0),(1,.p (bV p1)),(8,.x 0 1 (.sl 71 7 (y5.1.map Qac)))],⟨[[.p (.sl false (h0_0.map Qae)),.p (iV y5.2)]],[1]⟩⟩
noncomputable def Qfx (p1:Bool) (p2:Bool) (h0_0:(List Qab)) (y6:(List Qaa)×Int×Int):St:=⟨[(6,.p (.sl false (y6.1.map Qac))),(7,.p (iV y6.2.1))],⟨[[.p (.sl false (h0_0.map Qae)),.p (iV y6.2.2)]],[1]⟩⟩
noncomputable def Qfy (p1:Bool) (p2:Bool) (h0_0:(List Qab)) (y7:Int):St:=⟨[],⟨[[.p (.sl false (h0_0.map Qae)),.p (iV y7)]],[1]⟩⟩
noncomputable def Qk1:Code:=((loopsOf (Tryd.f50.body.getD .skip)).getD 0 .skip)
noncomputable def Qe1 (p1:Bool) (p2:Bool) (h0_0:(List Qab)) (h0_1:Int) (w0:Unit):St:=⟨[(0,.ptr 0 0),(1,.p (bV p1)),(2,.p (bV p2)),(8,.p (.sl true []))],⟨[[.p (.sl false (h0_0.map Qae)),.p (iV h0_1)]],[]⟩⟩
noncomputable def Qfz (p1:Bool) (p2:Bool) (h0_0:(List Qab)) (h0_1:Int) (y2:(List Qaa)×Int×Int):St:=⟨[(6,.p (.sl false (y2.1.map Qac))),(7,.p (iV y2.2.1))],⟨[[.p (.sl false (h0_0.map Qae)),.p (iV y2.2.2)]],[1]⟩⟩
noncomputable def Qf0 (p1:Bool) (p2:Bool) (h0_0:(List Qab)) (h0_1:Int) (y3:Int):St:=⟨[],⟨[[.p (.sl false (h0_0.map Qae)),.p (iV y3)]],[1]⟩⟩
noncomputable def Qge:Code:=((scopesOf (Tryd.f50.body.getD .skip)).getD 0 .skip)
noncomputable def Qhv (y:(List Qaa)×Int):D :=.p (.sl false (y.1.map Qac))
noncomputable def Qlm:List (Nat×List Nat):=[(0,[0]),(1,[0,3]),(2,[3]),(3,[2]),(9600001,[1]),(9600002,[1])]
noncomputable def Qfl (y:Qaa×Int):D :=.p (.agg [iV y.1.Kind,sV y.1.Name,sV y.1.Text,iV y.1.N,.sl false (y.1.L.map Qac),.sl false (y.1.Then.map Qac),.sl false (y.1.Else.map Qac)])
noncomputable def Qid:List (Nat×List Nat):=[(0,[0,2]),(1,[0,2,3]),(2,[0,2,3,7]),(3,[0,2,3]),(4,[2]),(1000002,[0,2,3]),(5000003,[1,1003,1006]),(8000003,[2]),(9600001,[1]),(9600003,[1])]
noncomputable def Qck (h0_0:(List Qab)) (h0_1_:Int) (h2_0:Int) (h2_1:(List UInt8)) (h2_2:(List UInt8)) (h2_3:Int) (h2_4:(List Qaa)) (h2_5:(List Qaa)) (h2_6:(List Qaa)):St:=⟨[(0,.ptr 0 0),(2,.ptr 1 0),(3,.ptr 2 0)],⟨[[.p (.sl false (h0_0.map Qae)),.p (iV h0_1_)],[.p (iV 0),.p (sV []),.p (sV []),.p (iV 0),.p (.sl true []),.p (.sl true []),.p (.sl true [])],[.p (iV h2_0),.p (sV h2_1),.p (sV h2_2),.p (iV h2_3),.p (.sl false (h2_4.map Qac)),.p (.sl false (h2_5.map Qac)),.p (.sl false (h2_6.map Qac))]],[]⟩⟩
noncomputable def Qds (h0_0:(List Qab)) (y5:Int×Int×(List UInt8)×(List UInt8)×Int×(List Qaa)×(List Qaa)×(List Qaa)):St:=⟨[(2,.ptr 1 0),(3,.ptr 2 0)],⟨[[.p (.sl false (h0_0.map Qae)),.p (iV y5.1)],[.p (iV 0),.p (sV []),.p (sV []),.p (iV 0),.p (.sl true []),.p (.sl true []),.p (.sl true [])],[.p (iV y5.2.1),.p (sV y5.2.2.1),.p (sV y5.2.2.2.1),.p (iV y5.2.2.2.2.1),.p (.sl false (y5.2.2.2.2.2.1.map Qac)),.p (.sl false (y5.2.2.2.2.2.2.1.map Qac)),.p (.sl false (y5.2.2.2.2.2.2.2.map Qac))]],[]⟩⟩
noncomputable def Qdt (h0_0:(List Qab)) (y6:Int×Int×(List UInt8)×(List UInt8)×Int×(List Qaa)×(List Qaa)×(List Qaa)):St:=⟨[],⟨[[.p (.sl false (h0_0.map Qae)),.p (iV y6.1)],[.p (iV 0),.p (sV []),.p (sV []),.p (iV 0),.p (.sl true []),.p (.sl true []),.p (.sl true [])],[.p (iV y6.2.1),.p (sV y6.2.2.1),.p (sV y6.2.2.2.1),.p (iV y6.2.2.2.2.1),.p (.sl false (y6.2.2.2.2.2.1.map Qac)),.p (.sl false (y6.2.2.2.2.2.2.1.map Qac)),.p (.sl false (y6.2.2.2.2.2.2.2.map Qac))]],[]⟩⟩
noncomputable def Qgw:Code:=((loopsOf (Tryd.f145.body.getD .skip)).getD 0 .skip)
noncomputable def Qbc (y:Qaa×Int):D :=.p (.agg [iV y.1.Kind,sV y.1.Name,sV y.1.Text,iV y.1.N,.sl false (y.1.L.map Qac),.sl false (y.1.Then.map Qac),.sl false (y.1.Else.map Qac)])
noncomputable def Qmc:List (Nat×List Nat):=[(0,[0,2]),(1,[0,2,3]),(2,[0,2,3,8]),(3,[2,3]),(4,[2]),(5,[0,2,3,22]),(6,[2,3]),(7,[2]),(8,[0,2,36]),(9,[2]),(10,[0,2,40]),(11,[2]),(12,[0,2,44]),(13,[0,2]),(14,[0,2]),(15,[0,2,4]),(16,[2,4]),(17,[2]),(18,[0,2,5]),(19,[0,2,5,66]),(20,[2,5]),(21,[2]),(9600013,[1]),(9600014,[5]),(9600015,[1]),(9600016,[1]),(9600018,[1]),(9600020,[1])]
noncomputable def Qn4 (_:Unit):D :=.tup []
noncomputable def Qi2 (y:(List UInt8)×Int):D :=.p (sV y.1)
noncomputable def Qnf:List (Nat×List Nat):=[(0,[0]),(1,[0]),(2,[2]),(9600001,[5]),(9600002,[1])]
noncomputable def Qfm (y:Qab):D :=.p (.agg [iV y.Kind,sV y.Text,iV y.N,iV y.From,iV y.To])
noncomputable def Qng:List (Nat×List Nat):=[(0,[0,2]),(1,[0,2,12]),(2,[2]),(3,[2])]
noncomputable def Qe4 (y:Int):D :=.p (iV y)
noncomputable def Qmd:List (Nat×List Nat):=[(0,[0,1]),(1,[0,1,14]),(2,[4]),(3,[4])]
noncomputable def Qfn (y:Bool×Int):D :=.p (bV y.1)
noncomputable def Qnh:List (Nat×List Nat):=[(0,[0,1]),(1,[0,9]),(2,[4]),(3,[]),(4,[4])]
noncomputable def Qbw (y:Qaa×Int):D :=.p (.agg [iV y.1.Kind,sV y.1.Name,sV y.1.Text,iV y.1.N,.sl false (y.1.L.map Qac),.sl false (y.1.Then.map Qac),.sl false (y.1.Else.map Qac)])
noncomputable def Qni:List (Nat×List Nat):=[(0,[0,2]),(1,[0,2,3]),(2,[2,3]),(3,[0,2,3,8]),(4,[0,2,3]),(5,[0,2,3]),(6,[0,2,3,4]),(7,[0,2,3,21]),(8,[2,3]),(9,[0,2,3,28]),(10,[0,2,3]),(11,[0,2,3]),(12,[0,2,3]),(13,[2,3]),(14,[0,2,3,47]),(15,[0,2,3]),(16,[0,2,3]),(17,[0,2,3]),(18,[2,3]),(19,[0,2,3,64]),(20,[0,2,3]),(21,[2,3]),(22,[2]),(9600002,[1]),(9600004,[1]),(9600006,[1]),(9600008,[1]),(9600010,[1]),(9600011,[3]),(9600012,[1]),(9600013,[1]),(9600015,[1]),(9600016,[1]),(9600017,[1]),(9600018,[1]),(9600020,[1]),(9600021,[1])]
noncomputable def Qi3 (y:Qab×Int):D :=.p (.agg [iV y.1.Kind,sV y.1.Text,iV y.1.N,iV y.1.From,iV y.1.To])
noncomputable def Qnj:List (Nat×List Nat):=[(0,[0,1,4]),(1,[0,1,4,5]),(2,[0,4,5]),(3,[4,5]),(4,[4]),(9600002,[5])]
noncomputable def Qfo (y:Bool×Int):D :=.p (bV y.1)
noncomputable def Qnk:List (Nat×List Nat):=[(0,[0,1]),(1,[0,1,5]),(2,[0,16]),(3,[4]),(4,[]),(5,[4]),(3000002,[])]
noncomputable def Qln (h0_0:(List Qab)) (h0_1:Int) (x1:Qab) (o2:Bool):St:=⟨[(0,.ptr 0 0),(16,.p (bV o2))],⟨[[.p (.sl false (h0_0.map Qae)),.p (iV h0_1)],[.p (iV x1.Kind),.p (sV x1.Text),.p (iV x1.N),.p (iV x1.From),.p (iV x1.To)]],[]⟩⟩
noncomputable def Qjd (y:(List UInt8)):D :=.p (sV y)
noncomputable def Qdz (y:Unit×Bool×(List Int)):D :=.p (.v .nilIface)
noncomputable def Qhw:List (Nat×List Nat):=[(0,[0,1]),(1,[0,1]),(2,[]),(3,[4])]
noncomputable def Qdd (y:Int×Unit×Bool×(List Int)):D :=.tup [.p (iV y.1),.p (.v .nilIface)]
noncomputable def Qgr:List (Nat×List Nat):=[(0,[0,1]),(1,[0,1]),(2,[1]),(3,[4,5])]
noncomputable def Qh4 (_:Bool):D :=.tup []
noncomputable def Qfp (y:Bool):D :=.p (bV y)
noncomputable def Qnl:List (Nat×List Nat):=[(0,[0,1]),(1,[4])]
noncomputable def Qgf (y:Int):D :=.p (iV y)
noncomputable def Qqh:List (Nat×List Nat):=[(0,[0,1]),(1,[4])]
noncomputable def Qjj (y:(List UInt8)):D :=.p (sV y)
noncomputable def Qme (y:Int):D :=.p (iV y)
noncomputable def Qk2:List (Nat×List Nat):=[(0,[0]),(1,[0,3]),(2,[3,5]),(3,[3,5]),(4,[2]),(4000003,[3,5])]
noncomputable def Qcv (x1:(List Qaa)×Int) (h0_0:Int):St:=⟨[(3,.ptr 0 0),(5,.fn (.func 116) [] [.p (.ep [.sl false (x1.1.map Qac)]),.p (.ep [iV x1.2])])],⟨[[.p (iV h0_0)]],[]⟩⟩
noncomputable def Qh5 (x1:(List Qaa)×Int) (o6:Int):St:=⟨[(3,.ptr 0 0),(5,.fn (.func 116) [] [.p (.ep [.sl false (x1.1.map Qac)]),.p (.ep [iV x1.2])])],⟨[[.p (iV o6)]],[]⟩⟩
noncomputable def Qde:Code:=((loopsOf (Tryd.f51.body.getD .skip)).getD 0 .skip)
noncomputable def Qn5 (y:Int):D :=.p (iV y)
noncomputable def Qmf:List (Nat×List Nat):=[(0,[0,5]),(1,[0,3,5]),(2,[3,5,7]),(3,[3,5,7]),(4,[3,5,7]),(5,[2]),(4000003,[3,5,7])]
noncomputable def Qdf (x1:(List Qaa)×Int) (h0_0:Int):St:=⟨[(3,.ptr 0 0),(7,.fn (.func 116) [] [.p (.ep [.sl false (x1.1.map Qac)]),.p (.ep [iV x1.2])])],⟨[[.p (iV h0_0)]],[]⟩⟩
noncomputable def Qi4 (x1:(List Qaa)×Int) (o6:Int):St:=⟨[(3,.ptr 0 0),(7,.fn (.func 116) [] [.p (.ep [.sl false (x1.1.map Qac)]),.p (.ep [iV x1.2])])],⟨[[.p (iV o6)]],[]⟩⟩
noncomputable def Qd5:Code:=((loopsOf (Tryd.f52.body.getD .skip)).getD 0 .skip)
noncomputable def Qk3 (y:Bool):D :=.p (bV y)
noncomputable def Qx1:List (Nat×List Nat):=[(0,[0]),(1,[0,3]),(2,[0,3,4]),(3,[0,3,4]),(4,[0,3,4]),(5,[0,3,4]),(6,[0,3,4]),(7,[0,3,4]),(8,[0,3,4]),(9,[0,3,4]),(10,[0,3,4]),(11,[0,4]),(12,[2]),(13,[2]),(2002037,[])]
noncomputable def Qtd (p0:(List UInt8)) (o1:Bool):St:=⟨[(0,.p (sV p0)),(4,.p (bV o1))],⟨[],[]⟩⟩
noncomputable def Qkc (y:(List Qaa)×Int):D :=.fn (.func 116) [] [.p (.ep [.sl false (y.1.map Qac)]),.p (.ep [iV y.2])]
noncomputable def Qz6:List (Nat×List Nat):=[(0,[2,3]),(1,[4])]
noncomputable def Qa7 (y:(Qaa×Int)):List V:=[.agg [iV y.1.Kind,sV y.1.Name,sV y.1.Text,iV y.1.N,.sl false (y.1.L.map Qac),.sl false (y.1.Then.map Qac),.sl false (y.1.Else.map Qac)],iV y.2]
noncomputable def Qgg:List (Nat×List Nat):=[(0,[1,2,3,8,9]),(1,[2,3,8,9,10,11,12]),(2,[2,3,8,9,10,11,12,13]),(3,[2,3,5,8,9,10,11,12]),(4,[2,3,5,8,9,10,11,12,20]),(5,[2,3,8,9,10,11,12,27,28]),(6,[2,3,8,9,10,11,12,27,28,29]),(7,[2,3,7,8,9,10,11,12,27,28]),(8,[2,3,8,9,10,11,12,27,28,34]),(9,[2,3,8,10,11,12,27,28,34,36]),(10,[2,3,8,9,10,11,12,27,28,34]),(11,[2,3,8,9,10,11,12,27,28,34,41]),(12,[2,3,8,9,10,11,12,27,28]),(13,[2,3,8,9,10,11,12]),(1000002,[2,3,8,9,10,11,12]),(1000006,[2,3,8,9,10,11,12,27,28]),(4000009,[2,3,8,9,10,11,12,27,28,34])]
noncomputable def Qcw (p0:(List Qaa)) (p1:Int) (v12:Int) (x3:Qaa) (v28:Int) (x7:(List Qaa)×Int) (gxs gp:List (List V)):St:=⟨[(2,.p (.ep [iV p1])),(3,.ptr 0 0),(10,.p (.sl false (p0.map Qac))),(11,.p (iV (p0.length:Int))),(12,.p (iV v12)),(27,.p (.agg [.sl false (x3.L.map Qac),.sl false (x3.Then.map Qac),.sl false (x3.Else.map Qac)])),(28,.p (iV v28)),(34,.fn (.func 116) [] [.p (.ep [.sl false (x7.1.map Qac)]),.p (.ep [iV x7.2])])],⟨[[.yld Tryd.prog 0 gxs],[.p (iV x3.Kind),.p (sV x3.Name),.p (sV x3.Text),.p (iV x3.N),.p (.sl false (x3.L.map Qac)),.p (.sl false (x3.Then.map Qac)),.p (.sl false (x3.Else.map Qac))]],[gp.length]⟩⟩
noncomputable def Qh6 (p0:(List Qaa)) (p1:Int) (v12:Int) (x3:Qaa) (v28:Int) (x7:(List Qaa)×Int) (gxs:List (List V)) (gq12:List (List V)) (oy:Unit):St:=⟨[(2,.p (.ep [iV p1])),(3,.ptr 0 0),(10,.p (.sl false (p0.map Qac))),(11,.p (iV (p0.length:Int))),(12,.p (iV v12)),(27,.p (.agg [.sl false (x3.L.map Qac),.sl false (x3.Then.map Qac),.sl false (x3.Else.map Qac)])),(28,.p (iV v28)),(34,.fn (.func 116) [] [.p (.ep [.sl false (x7.1.map Qac)]),.p (.ep [iV x7.2])])],⟨[[.yld Tryd.prog 0 gxs],[.p (iV x3.Kind),.p (sV x3.Name),.p (sV x3.Text),.p (iV x3.N),.p (.sl false (x3.L.map Qac)),.p (.sl false (x3.Then.map Qac)),.p (.sl false (x3.Else.map Qac))]],[gq12.length]⟩⟩
noncomputable def Qdg:Code:=((loopsOf (Tryd.f116.body.getD .skip)).getD 2 .skip)
noncomputable def Qh7 (p0:(List Qaa)) (p1:Int) (v12:Int) (x3:Qaa) (v28:Int) (gxs gp:List (List V)):St:=⟨[(2,.p (.ep [iV p1])),(3,.ptr 0 0),(10,.p (.sl false (p0.map Qac))),(11,.p (iV (p0.length:Int))),(12,.p (iV v12)),(27,.p (.agg [.sl false (x3.L.map Qac),.sl false (x3.Then.map Qac),.sl false (x3.Else.map Qac)])),(28,.p (iV v28))],⟨[[.yld Tryd.prog 0 gxs],[.p (iV x3.Kind),.p (sV x3.Name),.p (sV x3.Text),.p (iV x3.N),.p (.sl false (x3.L.map Qac)),.p (.sl false (x3.Then.map Qac)),.p (.sl false (x3.Else.map Qac))]],[gp.length]⟩⟩
noncomputable def Qld (p0:(List Qaa)) (p1:Int) (v12:Int) (x3:Qaa) (gxs:List (List V)) (gq4:List (List V)) (oy:Unit):St:=⟨[(2,.p (.ep [iV p1])),(3,.ptr 0 0),(10,.p (.sl false (p0.map Qac))),(11,.p (iV (p0.length:Int))),(12,.p (iV v12))],⟨[[.yld Tryd.prog 0 gxs],[.p (iV x3.Kind),.p (sV x3.Name),.p (sV x3.Text),.p (iV x3.N),.p (.sl false (x3.L.map Qac)),.p (.sl false (x3.Then.map Qac)),.p (.sl false (x3.Else.map Qac))]],[gq4.length]⟩⟩
noncomputable def Qr3:Code:=((loopsOf (Tryd.f116.body.getD .skip)).getD 1 .skip)
noncomputable def Qh8 (p0:(List Qaa)) (p1:Int) (v12:Int) (gxs gp:List (List V)):St:=⟨[(2,.p (.ep [iV p1])),(3,.ptr 0 0),(10,.p (.sl false (p0.map Qac))),(11,.p (iV (p0.length:Int))),(12,.p (iV v12))],⟨[[.yld Tryd.prog 0 gxs]],[gp.length]⟩⟩
noncomputable def Qle (p0:(List Qaa)) (p1:Int) (gxs:List (List V)) (gq1:List (List V)) (oy:Unit):St:=⟨[],⟨[[.yld Tryd.prog 0 gxs]],[gq1.length]⟩⟩
noncomputable def Qr4:Code:=((loopsOf (Tryd.f116.body.getD .skip)).getD 0 .skip)
noncomputable def Qin (y:Int×Int):D :=.tup [.p (nV .i32 y.1),.p (iV y.2)]
noncomputable def Qz7:List (Nat×List Nat):=[(0,[0,1]),(1,[0,1,17]),(2,[4,5]),(3,[0,1,6]),(4,[4,5]),(5,[0,1,6,21]),(6,[4,5]),(7,[0,1,6,26]),(8,[0,1,4,7,8]),(9,[0,1,6,36]),(10,[0,1,4,7,8]),(11,[0,1,6,46]),(12,[0,1,4,7,8]),(13,[4,7,8,9]),(14,[4,8,77]),(15,[4,5]),(16,[4,5]),(2004022,[]),(3000001,[]),(3000007,[]),(3000009,[]),(3000011,[]),(3000014,[])]
noncomputable def Qvz (p0:(List UInt8)) (p1:Int) (o1:Bool):St:=⟨[(0,.p (sV p0)),(1,.p (iV p1)),(17,.p (bV o1))],⟨[],[]⟩⟩
noncomputable def Qv0 (p0:(List UInt8)) (p1:Int) (y4:Int×Int×Int):St:=⟨[(0,.p (sV p0)),(1,.p (iV p1)),(4,.p (nV .i32 y4.1)),(7,.p (nV .i32 y4.2.1)),(8,.p (iV y4.2.2))],⟨[],[]⟩⟩
noncomputable def Qv1 (p0:(List UInt8)) (p1:Int) (y5:Int):St:=⟨[(4,.p (nV .i32 y5)),(5,.p (iV 1))],⟨[],[]⟩⟩
noncomputable def Qv2 (p0:(List UInt8)) (p1:Int) (x2:UInt8) (o6:Bool):St:=⟨[(0,.p (sV p0)),(1,.p (iV p1)),(6,.p (nV .u8 (x2.toNat:Int))),(26,.p (bV o6))],⟨[],[]⟩⟩
noncomputable def Qv3 (p0:(List UInt8)) (p1:Int) (x2:UInt8) (o7:Bool):St:=⟨[(0,.p (sV p0)),(1,.p (iV p1)),(6,.p (nV .u8 (x2.toNat:Int))),(36,.p (bV o7))],⟨[],[]⟩⟩
noncomputable def Qv4 (p0:(List UInt8)) (p1:Int) (x2:UInt8) (o8:Bool):St:=⟨[(0,.p (sV p0)),(1,.p (iV p1)),(6,.p (nV .u8 (x2.toNat:Int))),(46,.p (bV o8))],⟨[],[]⟩⟩
noncomputable def Qv5 (y4:Int×Int×Int) (x10:Int×Bool) (o11:Bool):St:=⟨[(4,.p (nV .i32 x10.1)),(8,.p (iV y4.2.2)),(77,.p (bV o11))],⟨[],[]⟩⟩
noncomputable def Qv6 (y:Bool):D :=.p (bV y)
noncomputable def Q38:List (Nat×List Nat):=[(0,[0]),(1,[2]),(3000001,[])]
noncomputable def Qz8  (o1:Bool):St:=⟨[(2,.p (bV o1))],⟨[],[]⟩⟩
noncomputable def Qkd (y:Int×Bool):D :=.tup [.p (nV .i32 y.1),.p (bV y.2)]
noncomputable def Qr5:List (Nat×List Nat):=[(0,[0,1,2]),(1,[0,1,2,12]),(2,[6,7]),(3,[0,1,13,14]),(4,[0,1,13,14,15]),(5,[0,1,8,13,14]),(6,[0,1,8,13,14,21]),(7,[6,7]),(8,[0,1,13,14]),(9,[0,1,13,14]),(10,[6,7]),(1000004,[0,1,13,14])]
noncomputable def Qhh (p0:(List UInt8)) (p2:Int) (v1:Int) (v14:Int):St:=⟨[(0,.p (sV p0)),(1,.p (nV .i32 v1)),(13,.p (iV p2)),(14,.p (iV v14))],⟨[],[]⟩⟩
noncomputable def Qj4 (p0:(List UInt8)) (p2:Int) (y2:Int):St:=⟨[(1,.p (nV .i32 y2))],⟨[],[]⟩⟩
noncomputable def Qj5 (p0:(List UInt8)) (p2:Int) (y3:Unit):St:=⟨[(6,.p (nV .i32 0)),(7,.p (bV false))],⟨[],[]⟩⟩
noncomputable def Qou:Code:=((loopsOf (Tryd.f147.body.getD .skip)).getD 0 .skip)
noncomputable def Qke (p0:(List UInt8)) (p1:(List UInt8)) (p2:Int):Option (Bool) :=
 ( if(decide (p2 ≥ 0)) then
   if(decide (p2≤(p0.length:Int))) then
    if(decide ((p1.length:Int)≤(wr ((p0.length:Int)-p2)))) then
     cutL p0 p2 (wr (p2+(p1.length:Int)))>>=fun x2 =>
     some (x2==p1)
    else
     some false
   else
    some false
  else
   some false:Option (Bool))>>=fun o1 =>
 some o1
theorem Qv7:∀ (p0:(List UInt8)) (p1:(List UInt8)) (p2:Int) (o:Bool),Qke p0 p1 p2=some o→PCall Tryd.prog 33 [sV p0,sV p1,iV p2] (Qly o):=by
 intro p0 p1 p2 o h
 unfold Qke at h
 refine PCall.ofB mixed tbOk Qu6 Tryd.func33 rfl (by kernel_rfl) (Nat.le_of_ble_eq_true rfl) ?_
 refine Qag h (fun o1 ho hk=>?_)
 refine Exists.intro (JP1 _ _ o1 .normal (Qrn )) (And.intro ?_ (join1 ?_))
 ·have h:=ho
  refine Qaf h (fun hb h=>?_) (fun hb h=>?_)
  ·refine vrfl ?_
   refine Qaf h (fun hb h=>?_) (fun hb h=>?_)
   ·refine vrfl ?_
    refine vrfl ?_
    refine Qaf h (fun hb h=>?_) (fun hb h=>?_)
    ·refine vrfl ?_
     refine Qfg (some p2) (some (wr (p2+(p1.length:Int)))) h (fun x2 hi h=>?_)
     refine JP1.a h ?_
     exact Le.tz 0 0 rfl rfl rfl
    ·refine JP1.a h ?_
     exact Le.tz 0 0 rfl rfl rfl
   ·refine bF ?_
    refine JP1.a h ?_
    exact Le.tz 0 0 rfl rfl rfl
  ·refine bF ?_
   refine bF ?_
   refine JP1.a h ?_
   exact Le.tz 0 0 rfl rfl rfl
 ·have h:=hk
  refine Qal (t:=Qly) h ?_
  exact .refl _
noncomputable def Qdu (p0:(List (List UInt8))) (p1:(List UInt8)) (v5:(List UInt8)) (v6:Int):Option ((List UInt8)) :=
 if(decide (v6<(p0.length:Int))) then
  if(decide (v6>0)) then
   need (v5.length+p1.length≤9223372036854775807)>>=fun _ =>
   idx p0 v6>>=fun x2 =>
   need ((v5++p1).length+x2.length≤9223372036854775807)>>=fun _ =>
   Qdu p0 p1 ((v5++p1)++x2) (wr (v6+1))
  else
   idx p0 v6>>=fun x3 =>
   need (v5.length+x3.length≤9223372036854775807)>>=fun _ =>
   Qdu p0 p1 (v5++x3) (wr (v6+1))
 else
  some v5
 partial_fixpoint
theorem Qr6:∀ (p0:(List (List UInt8))) (p1:(List UInt8)),(∀ (v5:(List UInt8)) (v6:Int) (o1:(List UInt8)),Qdu p0 p1 v5 v6=some o1→TL (0,0) Tryd.prog 25 Qon (JP1 (0,0) 25 o1 (.exit 0) (Qjr p0 p1)) (Qe7 p0 p1 v5 v6)):=by
 intro p0 p1
 refine Qdu.partial_correctness p0 p1 _ ?_
 intro Qdu' iQdu v5 v6 o1 h
 refine TL.round (Qak mixed tbOk (lv:=Qro) _ _ _ ?_)
 refine view (lenMap _ _) rfl ?_
 refine Qaf h (fun hb h=>?_) (fun hb h=>?_)
 ·refine Qaf h (fun hb h=>?_) (fun hb h=>?_)
  ·refine Qa1 h (fun h=>?_)
   refine Qcl (l:=p0) (c:=cStr) (c' := cStr) h (fun _=>rfl) (fun _=>rfl) (by decide) (fun x2 hi h=>?_)
   refine Qa1 h (fun h=>?_)
   refine TL.le (τ := Qe7 p0 p1 ((v5++p1)++x2) (wr (v6+1))) ?_ ((iQdu ((v5++p1)++x2) (wr (v6+1)) _ h))
   exact Le.tz 0 0 rfl rfl rfl
  ·refine Qcl (l:=p0) (c:=cStr) (c' := cStr) h (fun _=>rfl) (fun _=>rfl) (by decide) (fun x3 hi h=>?_)
   refine Qa1 h (fun h=>?_)
   refine TL.le (τ := Qe7 p0 p1 (v5++x3) (wr (v6+1))) ?_ ((iQdu (v5++x3) (wr (v6+1)) _ h))
   exact Le.tz 0 0 rfl rfl rfl
 ·exact JP1.a h (Le.tz 0 0 rfl rfl rfl)
theorem Qte:∀ (p0:(List (List UInt8))) (p1:(List UInt8)) (v5:(List UInt8)) (v6:Int) (o1:(List UInt8)),Qdu p0 p1 v5 v6=some o1→TL (0,0) Tryd.prog 25 Qon (JP1 (0,0) 25 o1 (.exit 0) (Qjr p0 p1)) (Qe7 p0 p1 v5 v6):=fun p0 p1 v5 v6=>(Qr6 p0 p1) v5 v6
noncomputable def Qov (p0:(List (List UInt8))) (p1:(List UInt8)):Option ((List UInt8)) :=
 (Qdu p0 p1 [] 0)>>=fun o1 =>
 some o1
theorem Qz9:∀ (p0:(List (List UInt8))) (p1:(List UInt8)) (o:(List UInt8)),Qov p0 p1=some o→PCall Tryd.prog 106 [.sl false (p0.map cStr),sV p1] (Qpo o):=by
 intro p0 p1 o h
 unfold Qov at h
 refine PCall.ofB mixed tbOk Qro Tryd.func106 rfl (by kernel_rfl) (Nat.le_of_ble_eq_true rfl) ?_
 refine Qag h (fun o1 ho hk=>?_)
 refine Exists.intro (JP1 _ _ o1 (.exit 0) (Qjr p0 p1)) (And.intro (T_le (τ := Qe7 p0 p1 [] 0) ?_ (TL.loop (Qte p0 p1 [] 0 o1 ho))) (join1 ?_))
 ·exact Le.tz 0 0 rfl rfl rfl
 have h:=hk
 refine Qal (t:=Qpo) h ?_
 exact .refl _
noncomputable def Qqy (p0:Int):Option ((List UInt8)) :=
 need (-9223372036854775808≤p0)>>=fun _ =>
 need (p0≤9223372036854775807)>>=fun _ =>
 some (textL p0)
theorem Q0a:∀ (p0:Int) (o:(List UInt8)),Qqy p0=some o→PCall Tryd.prog 105 [iV p0] (Qt9 o):=by
 intro p0 o h
 unfold Qqy at h
 obtain⟨h1,h⟩:=Qj8 h
 obtain⟨h2,h⟩:=Qj8 h
 cases h
 exact Q5z _ h1 h2
noncomputable def Qk4 (p0:Int):Option (Bool) :=
 ( if(decide (p0 ≥ 0)) then
   if(decide (p0≤1114111)) then
    if(decide (p0 ≥ 55296)) then
     some (!(decide (p0≤57343)))
    else
     some true
   else
    some false
  else
   some false:Option (Bool))>>=fun o1 =>
 some o1
theorem Qr7:∀ (p0:Int) (o:Bool),Qk4 p0=some o→PCall Tryd.prog 71 [iV p0] (Qm8 o):=by
 intro p0 o h
 unfold Qk4 at h
 refine PCall.ofB mixed tbOk Qz1 Tryd.func71 rfl (by kernel_rfl) (Nat.le_of_ble_eq_true rfl) ?_
 refine Qag h (fun o1 ho hk=>?_)
 refine Exists.intro (JP1 _ _ o1 .normal (Qva )) (And.intro ?_ (join1 ?_))
 ·have h:=ho
  refine Qaf h (fun hb h=>?_) (fun hb h=>?_)
  ·refine Qaf h (fun hb h=>?_) (fun hb h=>?_)
   ·refine Qaf h (fun hb h=>?_) (fun hb h=>?_)
    ·refine JP1.a h ?_
     exact Le.tz 0 0 rfl rfl rfl
    ·refine JP1.a h ?_
     exact Le.tz 0 0 rfl rfl rfl
   ·refine JP1.a h ?_
    exact Le.tz 0 0 rfl rfl rfl
  ·refine bF ?_
   refine JP1.a h ?_
   exact Le.tz 0 0 rfl rfl rfl
 ·have h:=hk
  refine Qal (t:=Qm8) h ?_
  exact .refl _
noncomputable def Qkf (p0:Int):Option ((List UInt8)) :=
 ( Qk4 p0>>=fun x2 =>
  if(!x2) then
   some 65533
  else
   some p0:Option (Int))>>=fun o1 =>
 if(decide (o1<128)) then
  b2s [(IntKind.u8.wrap o1)]>>=fun x3 =>
  some x3
 else
  if(decide (o1<2048)) then
   b2s [(IntKind.u8.wrap (wr (192+(wr (o1.tdiv 64))))),(IntKind.u8.wrap (wr (128+(o1.tmod 64))))]>>=fun x4 =>
   some x4
  else
   if(decide (o1<65536)) then
    b2s [(IntKind.u8.wrap (wr (224+(wr (o1.tdiv 4096))))),(IntKind.u8.wrap (wr (128+((wr (o1.tdiv 64)).tmod 64)))),(IntKind.u8.wrap (wr (128+(o1.tmod 64))))]>>=fun x5 =>
    some x5
   else
    b2s [(IntKind.u8.wrap (wr (240+(wr (o1.tdiv 262144))))),(IntKind.u8.wrap (wr (128+((wr (o1.tdiv 4096)).tmod 64)))),(IntKind.u8.wrap (wr (128+((wr (o1.tdiv 64)).tmod 64)))),(IntKind.u8.wrap (wr (128+(o1.tmod 64))))]>>=fun x6 =>
    some x6
theorem Qx2:∀ (p0:Int) (o:(List UInt8)),Qkf p0=some o→PCall Tryd.prog 44 [iV p0] (Qgz o):=by
 intro p0 o h
 unfold Qkf at h
 refine PCall.ofB mixed tbOk Qxu Tryd.func44 rfl (by kernel_rfl) (Nat.le_of_ble_eq_true rfl) ?_
 refine Qag h (fun o1 ho hk=>?_)
 refine Exists.intro (JP1 _ _ o1 .normal (Qs0 )) (And.intro ?_ (join1 ?_))
 ·have h:=ho
  refine Qaj [iV p0] Qm8 h (fun x2 hy=>(Qr7 p0 x2 hy)) (fun x2 hy h=>?_)
  refine Qaf h (fun hb h=>?_) (fun hb h=>?_)
  ·refine JP1.a h ?_
   exact Le.tz 0 0 rfl rfl rfl
  ·refine JP1.a h ?_
   exact Le.tz 0 0 rfl rfl rfl
 ·have h:=hk
  refine Qaf h (fun hb h=>?_) (fun hb h=>?_)
  ·refine vrfl ?_
   refine Q1f (l:=[(IntKind.u8.wrap o1)]) h (fun x3 hi h=>?_)
   refine Qal (t:=Qgz) h ?_
   exact .refl _
  ·refine Qaf h (fun hb h=>?_) (fun hb h=>?_)
   ·refine And.intro (by decide) ?_
    refine vrfl ?_
    refine And.intro (by decide) ?_
    refine vrfl ?_
    refine Q1f (l:=[(IntKind.u8.wrap (wr (192+(wr (o1.tdiv 64))))),(IntKind.u8.wrap (wr (128+(o1.tmod 64))))]) h (fun x4 hi h=>?_)
    refine Qal (t:=Qgz) h ?_
    exact .refl _
   ·refine Qaf h (fun hb h=>?_) (fun hb h=>?_)
    ·refine And.intro (by decide) ?_
     refine vrfl ?_
     refine And.intro (by decide) ?_
     refine And.intro (by decide) ?_
     refine vrfl ?_
     refine And.intro (by decide) ?_
     refine vrfl ?_
     refine Q1f (l:=[(IntKind.u8.wrap (wr (224+(wr (o1.tdiv 4096))))),(IntKind.u8.wrap (wr (128+((wr (o1.tdiv 64)).tmod 64)))),(IntKind.u8.wrap (wr (128+(o1.tmod 64))))]) h (fun x5 hi h=>?_)
     refine Qal (t:=Qgz) h ?_
     exact .refl _
    ·refine And.intro (by decide) ?_
     refine vrfl ?_
     refine And.intro (by decide) ?_
     refine And.intro (by decide) ?_
     refine vrfl ?_
     refine And.intro (by decide) ?_
     refine And.intro (by decide) ?_
     refine vrfl ?_
     refine And.intro (by decide) ?_
     refine vrfl ?_
     refine Q1f (l:=[(IntKind.u8.wrap (wr (240+(wr (o1.tdiv 262144))))),(IntKind.u8.wrap (wr (128+((wr (o1.tdiv 4096)).tmod 64)))),(IntKind.u8.wrap (wr (128+((wr (o1.tdiv 64)).tmod 64)))),(IntKind.u8.wrap (wr (128+(o1.tmod 64))))]) h (fun x6 hi h=>?_)
     refine Qal (t:=Qgz) h ?_
     exact .refl _
noncomputable def Qem (p0:(List UInt8)) (p1:Int) (v6:(List Int)) (v7:Int) (v8:Int) (v9:Int):Option (Int) :=
 if(decide (v9<v7)) then
  idx p0 (wr (p1+v9))>>=fun x9 =>
  Qem p0 p1 v6 v7 (wr ((wr ((wr (64*v8))+(wr (x9.toNat:Int))))-128)) (wr (v9+1))
 else
  some v8
 partial_fixpoint
theorem Qr8:∀ (p0:(List UInt8)) (p1:Int) (v6:(List Int)) (v7:Int),(∀ (v8:Int) (v9:Int) (o8:Int),Qem p0 p1 v6 v7 v8 v9=some o8→TL (0,0) Tryd.prog 74 Qoo (JP1 (0,0) 74 o8 (.exit 2) (Qjs p0 p1 v6 v7)) (Qhb p0 p1 v6 v7 v8 v9)):=by
 intro p0 p1 v6 v7
 refine Qem.partial_correctness p0 p1 v6 v7 _ ?_
 intro Qem' iQem v8 v9 o8 h
 refine TL.round (Qak mixed tbOk (lv:=Qn0) _ _ _ ?_)
 refine Qaf h (fun hb h=>?_) (fun hb h=>?_)
 ·refine Qc7 h (fun x9 hi h=>?_)
  refine vrfl ?_
  refine TL.le (τ := Qhb p0 p1 v6 v7 (wr ((wr ((wr (64*v8))+(wr (x9.toNat:Int))))-128)) (wr (v9+1))) ?_ ((iQem (wr ((wr ((wr (64*v8))+(wr (x9.toNat:Int))))-128)) (wr (v9+1)) _ h))
  exact Le.tz 0 0 rfl rfl rfl
 ·exact JP1.a h (Le.tz 0 0 rfl rfl rfl)
theorem Qtf:∀ (p0:(List UInt8)) (p1:Int) (v6:(List Int)) (v7:Int) (v8:Int) (v9:Int) (o8:Int),Qem p0 p1 v6 v7 v8 v9=some o8→TL (0,0) Tryd.prog 74 Qoo (JP1 (0,0) 74 o8 (.exit 2) (Qjs p0 p1 v6 v7)) (Qhb p0 p1 v6 v7 v8 v9):=fun p0 p1 v6 v7 v8 v9=>(Qr8 p0 p1 v6 v7) v8 v9
noncomputable def Qcm (p0:(List UInt8)) (p1:Int) (v6:(List Int)) (v7:Int):Option (Unit⊕(Int×Int)) :=
 ( if(decide (v7≤4)) then
   some (decide (v7≤(wr ((p0.length:Int)-p1))))
  else
   some false:Option (Bool))>>=fun o5 =>
 if o5 then
  idx p0 p1>>=fun x6 =>
  idx v6 v7>>=fun x7 =>
  (Qem p0 p1 v6 v7 (wr ((wr (x6.toNat:Int))-x7)) 1)>>=fun o8 =>
  ( if(decide (o8 ≥ 0)) then
    Qk4 o8>>=fun x11 =>
    if x11 then
     Qkf o8>>=fun x12 =>
     cutL p0 p1 (wr (p1+v7))>>=fun x13 =>
     some (x12==x13)
    else
     some false
   else
    some false:Option (Bool))>>=fun o10 =>
  if o10 then
   some (.inr (o8,v7))
  else
   Qcm p0 p1 v6 (wr (v7+1))
 else
  some (.inl ())
 partial_fixpoint
theorem Qr9:∀ (p0:(List UInt8)) (p1:Int) (v6:(List Int)),(∀ (v7:Int) (o2:Unit⊕(Int×Int)),Qcm p0 p1 v6 v7=some o2→TL (0,0) Tryd.prog 74 Qop (JP2 (0,0) 74 o2 (.exit 0) (Qjt p0 p1) .ret (Qju p0 p1)) (Qhc p0 p1 v6 v7)):=by
 intro p0 p1 v6
 refine Qcm.partial_correctness p0 p1 v6 _ ?_
 intro Qcm' iQcm v7 o2 h
 refine TL.round (Qak mixed tbOk (lv:=Qn0) _ _ _ ?_)
 refine Qag h (fun o5 ho hk=>?_)
 refine Exists.intro (JP1 _ _ o5 .normal (Qu8 p0 p1 v6 v7)) (And.intro ?_ (join1 ?_))
 ·have h:=ho
  refine Qaf h (fun hb h=>?_) (fun hb h=>?_)
  ·refine vrfl ?_
   refine JP1.a h ?_
   exact Le.tz 0 0 rfl rfl rfl
  ·refine JP1.a h ?_
   exact Le.tz 0 0 rfl rfl rfl
 ·have h:=hk
  refine Qaf h (fun hb h=>?_) (fun hb h=>?_)
  ·refine And.intro (by decide +kernel) (And.intro rfl ?_)
   refine Qc7 h (fun x6 hi h=>?_)
   refine vrfl ?_
   refine Qcl (l:=v6) (c:=cInt) (c' := cInt) h (fun _=>rfl) (fun _=>rfl) (by decide) (fun x7 hi h=>?_)
   refine Qag h (fun o8 ho hk=>?_)
   refine Exists.intro (JP1 _ _ o8 (.exit 2) (Qjs p0 p1 v6 v7)) (And.intro (T_le (τ := Qhb p0 p1 v6 v7 (wr ((wr (x6.toNat:Int))-x7)) 1) ?_ (TL.loop (Qtf p0 p1 v6 v7 (wr ((wr (x6.toNat:Int))-x7)) 1 o8 ho))) (join1 ?_))
   ·exact Le.tz 0 0 rfl rfl rfl
   have h:=hk
   refine Qag h (fun o10 ho hk=>?_)
   refine Exists.intro (JP1 _ _ o10 .normal (Qu9 p0 p1 v6 v7 o8)) (And.intro ?_ (join1 ?_))
   ·have h:=ho
    refine And.intro (by decide +kernel) (And.intro rfl ?_)
    refine Qaf h (fun hb h=>?_) (fun hb h=>?_)
    ·refine Qcr [iV o8] Qm8 h (fun x11 hy=>(Qr7 o8 x11 hy)) (fun x11 hy h=>?_)
     refine Qaf h (fun hb h=>?_) (fun hb h=>?_)
     ·refine Qcr [iV o8] Qgz h (fun x12 hy=>(Qx2 o8 x12 hy)) (fun x12 hy h=>?_)
      refine Qfg (some p1) (some (wr (p1+v7))) h (fun x13 hi h=>?_)
      refine JP1.a h ?_
      exact Le.tz 0 0 rfl rfl rfl
     ·refine JP1.a h ?_
      exact Le.tz 0 0 rfl rfl rfl
    ·refine bF ?_
     refine JP1.a h ?_
     exact Le.tz 0 0 rfl rfl rfl
   ·have h:=hk
    refine Qaf h (fun hb h=>?_) (fun hb h=>?_)
    ·exact JP2.b h (Le.tz 0 0 rfl rfl rfl)
    ·refine TL.le (τ := Qhc p0 p1 v6 (wr (v7+1))) ?_ ((iQcm (wr (v7+1)) _ h))
     exact Le.tz 0 0 rfl rfl rfl
  ·exact JP2.a h (Le.tz 0 0 rfl rfl rfl)
theorem Qtg:∀ (p0:(List UInt8)) (p1:Int) (v6:(List Int)) (v7:Int) (o2:Unit⊕(Int×Int)),Qcm p0 p1 v6 v7=some o2→TL (0,0) Tryd.prog 74 Qop (JP2 (0,0) 74 o2 (.exit 0) (Qjt p0 p1) .ret (Qju p0 p1)) (Qhc p0 p1 v6 v7):=fun p0 p1 v6 v7=>(Qr9 p0 p1 v6) v7
noncomputable def Qow (p0:(List UInt8)) (p1:Int):Option (Int×Int) :=
 ( if(decide (p1<0)) then
   some true
  else
   some (decide (p1 ≥ (p0.length:Int))):Option (Bool))>>=fun o1 =>
 if o1 then
  some (0,0)
 else
  (Qcm p0 p1 [0,0,192,224,240] 1)>>=fun o2 =>
  match o2 with
  | .inl y3 =>
   some (65533,1)
  | .inr y4 =>
   some (y4.1,y4.2)
theorem Q0b:∀ (p0:(List UInt8)) (p1:Int) (o:Int×Int),Qow p0 p1=some o→PCall Tryd.prog 70 [sV p0,iV p1] (Qj9 o):=by
 intro p0 p1 o h
 unfold Qow at h
 refine PCall.ofB mixed tbOk Qn0 Tryd.func70 rfl (by kernel_rfl) (Nat.le_of_ble_eq_true rfl) ?_
 refine Qag h (fun o1 ho hk=>?_)
 refine Exists.intro (JP1 _ _ o1 .normal (Qu7 p0 p1)) (And.intro ?_ (join1 ?_))
 ·have h:=ho
  refine Qaf h (fun hb h=>?_) (fun hb h=>?_)
  ·refine JP1.a h ?_
   exact Le.tz 0 0 rfl rfl rfl
  ·refine vrfl ?_
   refine JP1.a h ?_
   exact Le.tz 0 0 rfl rfl rfl
 ·have h:=hk
  refine Qaf h (fun hb h=>?_) (fun hb h=>?_)
  ·refine Qal (t:=Qj9) h ?_
   exact .refl _
  ·refine Qag h (fun o2 ho hk=>?_)
   refine Exists.intro (JP2 _ _ o2 (.exit 0) (Qjt p0 p1) .ret (Qju p0 p1)) (And.intro (T_le (τ := Qhc p0 p1 [0,0,192,224,240] 1) ?_ (TL.loop (Qtg p0 p1 [0,0,192,224,240] 1 o2 ho))) (join2 (fun y3 hy=>?_) (fun y4 hy=>?_)))
   ·exact Le.tz 0 0 rfl rfl rfl
   ·have h:=(by rw[hy] at hk; exact hk)
    refine Qal (t:=Qj9) h ?_
    exact .refl _
   ·have h:=(by rw[hy] at hk; exact hk)
    refine Qal (t:=Qj9) h ?_
    exact .refl _
noncomputable def Qgh (p0:(List UInt8)) (v3:Int):Option (Unit⊕Unit) :=
 if(decide (v3<(p0.length:Int))) then
  Qow p0 v3>>=fun x4 =>
  ( if(x4.1==65533) then
    some (x4.2==1)
   else
    some false:Option (Bool))>>=fun o5 =>
  if o5 then
   some (.inr ())
  else
   Qgh p0 (wr (v3+x4.2))
 else
  some (.inl ())
 partial_fixpoint
theorem Qv8:∀ (p0:(List UInt8)),(∀ (v3:Int) (o1:Unit⊕Unit),Qgh p0 v3=some o1→TL (0,0) Tryd.prog 25 Qrp (JP2 (0,0) 25 o1 (.exit 0) (Qlz p0) .ret (Ql0 p0)) (Qjh p0 v3)):=by
 intro p0
 refine Qgh.partial_correctness p0 _ ?_
 intro Qgh' iQgh v3 o1 h
 refine TL.round (Qak mixed tbOk (lv:=Qxv) _ _ _ ?_)
 refine vrfl ?_
 refine Qaf h (fun hb h=>?_) (fun hb h=>?_)
 ·refine Qaj [sV p0,iV v3] Qj9 h (fun x4 hy=>(Q0b p0 v3 x4 hy)) (fun x4 hy h=>?_)
  refine Qag h (fun o5 ho hk=>?_)
  refine Exists.intro (JP1 _ _ o5 .normal (Qz0 p0 v3 x4)) (And.intro ?_ (join1 ?_))
  ·have h:=ho
   refine Qaf h (fun hb h=>?_) (fun hb h=>?_)
   ·refine JP1.a h ?_
    exact Le.tz 0 0 rfl rfl rfl
   ·refine JP1.a h ?_
    exact Le.tz 0 0 rfl rfl rfl
  ·have h:=hk
   refine Qaf h (fun hb h=>?_) (fun hb h=>?_)
   ·exact JP2.b h (Le.tz 0 0 rfl rfl rfl)
   ·refine TL.le (τ := Qjh p0 (wr (v3+x4.2))) ?_ ((iQgh (wr (v3+x4.2)) _ h))
    exact Le.tz 0 0 rfl rfl rfl
 ·exact JP2.a h (Le.tz 0 0 rfl rfl rfl)
theorem Qx3:∀ (p0:(List UInt8)) (v3:Int) (o1:Unit⊕Unit),Qgh p0 v3=some o1→TL (0,0) Tryd.prog 25 Qrp (JP2 (0,0) 25 o1 (.exit 0) (Qlz p0) .ret (Ql0 p0)) (Qjh p0 v3):=fun p0 v3=>(Qv8 p0) v3
noncomputable def Qx4 (p0:(List UInt8)):Option (Bool) :=
 (Qgh p0 0)>>=fun o1 =>
 match o1 with
 | .inl y2 =>
  some true
 | .inr y3 =>
  some false
theorem Q39:∀ (p0:(List UInt8)) (o:Bool),Qx4 p0=some o→PCall Tryd.prog 69 [sV p0] (Qqx o):=by
 intro p0 o h
 unfold Qx4 at h
 refine PCall.ofB mixed tbOk Qxv Tryd.func69 rfl (by kernel_rfl) (Nat.le_of_ble_eq_true rfl) ?_
 refine Qag h (fun o1 ho hk=>?_)
 refine Exists.intro (JP2 _ _ o1 (.exit 0) (Qlz p0) .ret (Ql0 p0)) (And.intro (T_le (τ := Qjh p0 0) ?_ (TL.loop (Qx3 p0 0 o1 ho))) (join2 (fun y2 hy=>?_) (fun y3 hy=>?_)))
 ·exact Le.tz 0 0 rfl rfl rfl
 ·have h:=(by rw[hy] at hk; exact hk)
  refine Qal (t:=Qqx) h ?_
  exact .refl _
 ·have h:=(by rw[hy] at hk; exact hk)
  refine Qal (t:=Qqx) h ?_
  exact .refl _
noncomputable def Qcx (p0:(List UInt8)) (v4:(List UInt8)) (v5:Int):Option ((List UInt8)⊕Unit) :=
 if(decide (v5<(p0.length:Int))) then
  cutL p0 v5 (wr (v5+1))>>=fun x5 =>
  if(x5==[13]) then
   some (.inr ())
  else
   ( if(x5==[10]) then
     some [92,110]
    else
     if(x5==[9]) then
      some [92,116]
     else
      ( if(x5==[34]) then
        some true
       else
        some (x5==[92]):Option (Bool))>>=fun o7 =>
      if o7 then
       need ([92].length+x5.length≤9223372036854775807)>>=fun _ =>
       some ([92]++x5)
      else
       some x5:Option ((List UInt8)))>>=fun o6 =>
   need (v4.length+o6.length≤9223372036854775807)>>=fun _ =>
   Qcx p0 (v4++o6) (wr (v5+1))
 else
  some (.inl v4)
 partial_fixpoint
theorem Qqi:∀ (p0:(List UInt8)),(∀ (v4:(List UInt8)) (v5:Int) (o2:(List UInt8)⊕Unit),Qcx p0 v4 v5=some o2→TL (0,0) Tryd.prog 40 Qno (JP2 (0,0) 40 o2 (.exit 0) (Qiu p0) .ret (Qiv p0)) (Qf4 p0 v4 v5)):=by
 intro p0
 refine Qcx.partial_correctness p0 _ ?_
 intro Qcx' iQcx v4 v5 o2 h
 refine TL.round (Qak mixed tbOk (lv:=Qp3) _ _ _ ?_)
 refine vrfl ?_
 refine Qaf h (fun hb h=>?_) (fun hb h=>?_)
 ·refine Qfg (some v5) (some (wr (v5+1))) h (fun x5 hi h=>?_)
  refine Qaf h (fun hb h=>?_) (fun hb h=>?_)
  ·exact JP2.b h (Le.tz 0 0 rfl rfl rfl)
  ·refine Qag h (fun o6 ho hk=>?_)
   refine Exists.intro (JP1 _ _ o6 .normal (Qs1 p0 v4 v5)) (And.intro ?_ (join1 ?_))
   ·have h:=ho
    refine Qaf h (fun hb h=>?_) (fun hb h=>?_)
    ·refine JP1.a h ?_
     exact Le.tz 0 0 rfl rfl rfl
    ·refine Qaf h (fun hb h=>?_) (fun hb h=>?_)
     ·refine JP1.a h ?_
      exact Le.tz 0 0 rfl rfl rfl
     ·refine Qag h (fun o7 ho hk=>?_)
      refine Exists.intro (JP1 _ _ o7 .normal (Qs2 p0 v4 v5 x5)) (And.intro ?_ (join1 ?_))
      ·have h:=ho
       refine Qaf h (fun hb h=>?_) (fun hb h=>?_)
       ·refine JP1.a h ?_
        exact Le.tz 0 0 rfl rfl rfl
       ·refine JP1.a h ?_
        exact Le.tz 0 0 rfl rfl rfl
      ·have h:=hk
       refine Qaf h (fun hb h=>?_) (fun hb h=>?_)
       ·refine Qa1 h (fun h=>?_)
        refine JP1.a h ?_
        exact Le.tz 0 0 rfl rfl rfl
       ·refine JP1.a h ?_
        exact Le.tz 0 0 rfl rfl rfl
   ·have h:=hk
    refine Qa1 h (fun h=>?_)
    refine TL.le (τ := Qf4 p0 (v4++o6) (wr (v5+1))) ?_ ((iQcx (v4++o6) (wr (v5+1)) _ h))
    exact Le.tz 0 0 rfl rfl rfl
 ·exact JP2.a h (Le.tz 0 0 rfl rfl rfl)
theorem Qsa:∀ (p0:(List UInt8)) (v4:(List UInt8)) (v5:Int) (o2:(List UInt8)⊕Unit),Qcx p0 v4 v5=some o2→TL (0,0) Tryd.prog 40 Qno (JP2 (0,0) 40 o2 (.exit 0) (Qiu p0) .ret (Qiv p0)) (Qf4 p0 v4 v5):=fun p0 v4 v5=>(Qqi p0) v4 v5
noncomputable def Qgi (p0:(List UInt8)):Option ((List UInt8)×Bool) :=
 Qx4 p0>>=fun x1 =>
 if(!x1) then
  some ([],false)
 else
  (Qcx p0 [34] 0)>>=fun o2 =>
  match o2 with
  | .inl y3 =>
   need (y3.length+[34].length≤9223372036854775807)>>=fun _ =>
   some ((y3++[34]),true)
  | .inr y4 =>
   some ([],false)
theorem Qp8:∀ (p0:(List UInt8)) (o:(List UInt8)×Bool),Qgi p0=some o→PCall Tryd.prog 104 [sV p0] (Qg0 o):=by
 intro p0 o h
 unfold Qgi at h
 refine PCall.ofB mixed tbOk Qp3 Tryd.func104 rfl (by kernel_rfl) (Nat.le_of_ble_eq_true rfl) ?_
 refine Qaj [sV p0] Qqx h (fun x1 hy=>(Q39 p0 x1 hy)) (fun x1 hy h=>?_)
 refine Qaf h (fun hb h=>?_) (fun hb h=>?_)
 ·refine Qal (t:=Qg0) h ?_
  exact .refl _
 ·refine Qag h (fun o2 ho hk=>?_)
  refine Exists.intro (JP2 _ _ o2 (.exit 0) (Qiu p0) .ret (Qiv p0)) (And.intro (T_le (τ := Qf4 p0 [34] 0) ?_ (TL.loop (Qsa p0 [34] 0 o2 ho))) (join2 (fun y3 hy=>?_) (fun y4 hy=>?_)))
  ·exact Le.tz 0 0 rfl rfl rfl
  ·have h:=(by rw[hy] at hk; exact hk)
   refine Qa1 h (fun h=>?_)
   refine Qal (t:=Qg0) h ?_
   exact .refl _
  ·have h:=(by rw[hy] at hk; exact hk)
   refine Qal (t:=Qg0) h ?_
   exact .refl _
noncomputable def Qmg (p0:Int):Option (Bool) :=
 ( if(decide (p0 ≥ 48)) then
   some (decide (p0≤57))
  else
   some false:Option (Bool))>>=fun o1 =>
 some o1
theorem Qx5:∀ (p0:Int) (o:Bool),Qmg p0=some o→PCall Tryd.prog 158 [nV .u8 p0] (Qn1 o):=by
 intro p0 o h
 unfold Qmg at h
 refine PCall.ofB mixed tbOk Qxw Tryd.func158 rfl (by kernel_rfl) (Nat.le_of_ble_eq_true rfl) ?_
 refine Qag h (fun o1 ho hk=>?_)
 refine Exists.intro (JP1 _ _ o1 .normal (Qs3 )) (And.intro ?_ (join1 ?_))
 ·have h:=ho
  refine Qaf h (fun hb h=>?_) (fun hb h=>?_)
  ·refine JP1.a h ?_
   exact Le.tz 0 0 rfl rfl rfl
  ·refine JP1.a h ?_
   exact Le.tz 0 0 rfl rfl rfl
 ·have h:=hk
  refine Qal (t:=Qn1) h ?_
  exact .refl _
noncomputable def Qkg (p0:Int):Option (Bool) :=
 ( if(decide (p0 ≥ 97)) then
   some (decide (p0≤122))
  else
   some false:Option (Bool))>>=fun o1 =>
 some o1
theorem Qp9:∀ (p0:Int) (o:Bool),Qkg p0=some o→PCall Tryd.prog 157 [nV .u8 p0] (Qkw o):=by
 intro p0 o h
 unfold Qkg at h
 refine PCall.ofB mixed tbOk Qxx Tryd.func157 rfl (by kernel_rfl) (Nat.le_of_ble_eq_true rfl) ?_
 refine Qag h (fun o1 ho hk=>?_)
 refine Exists.intro (JP1 _ _ o1 .normal (Qs4 )) (And.intro ?_ (join1 ?_))
 ·have h:=ho
  refine Qaf h (fun hb h=>?_) (fun hb h=>?_)
  ·refine JP1.a h ?_
   exact Le.tz 0 0 rfl rfl rfl
  ·refine JP1.a h ?_
   exact Le.tz 0 0 rfl rfl rfl
 ·have h:=hk
  refine Qal (t:=Qkw) h ?_
  exact .refl _
noncomputable def Qen (p0:(List UInt8)) (v3:Int):Option (Unit⊕Unit) :=
 if(decide (v3<(p0.length:Int))) then
  ( idx p0 v3>>=fun x8 =>
   Qkg (x8.toNat:Int)>>=fun x9 =>
   if(!x9) then
    idx p0 v3>>=fun x10 =>
    Qmg (x10.toNat:Int)>>=fun x11 =>
    if(!x11) then
     idx p0 v3>>=fun x12 =>
     some ((x12.toNat:Int) != 95)
    else
     some false
   else
    some false:Option (Bool))>>=fun o7 =>
  if o7 then
   some (.inr ())
  else
   Qen p0 (wr (v3+1))
 else
  some (.inl ())
 partial_fixpoint
theorem Qsb:∀ (p0:(List UInt8)),(∀ (v3:Int) (o4:Unit⊕Unit),Qen p0 v3=some o4→TL (0,0) Tryd.prog 42 Qoq (JP2 (0,0) 42 o4 (.exit 0) (Qjv p0) .ret (Qjw p0)) (Qhd p0 v3)):=by
 intro p0
 refine Qen.partial_correctness p0 _ ?_
 intro Qen' iQen v3 o4 h
 refine TL.round (Qak mixed tbOk (lv:=Qrq) _ _ _ ?_)
 refine vrfl ?_
 refine Qaf h (fun hb h=>?_) (fun hb h=>?_)
 ·refine Qag h (fun o7 ho hk=>?_)
  refine Exists.intro (JP1 _ _ o7 .normal (Qvc p0 v3)) (And.intro ?_ (join1 ?_))
  ·have h:=ho
   refine Qc7 h (fun x8 hi h=>?_)
   refine Qaj [nV .u8 (x8.toNat:Int)] Qkw h (fun x9 hy=>(Qp9 (x8.toNat:Int) x9 hy)) (fun x9 hy h=>?_)
   refine Qaf h (fun hb h=>?_) (fun hb h=>?_)
   ·refine Qc7 h (fun x10 hi h=>?_)
    refine Qaj [nV .u8 (x10.toNat:Int)] Qn1 h (fun x11 hy=>(Qx5 (x10.toNat:Int) x11 hy)) (fun x11 hy h=>?_)
    refine Qaf h (fun hb h=>?_) (fun hb h=>?_)
    ·refine Qc7 h (fun x12 hi h=>?_)
     refine JP1.a h ?_
     exact Le.tz 0 0 rfl rfl rfl
    ·refine JP1.a h ?_
     exact Le.tz 0 0 rfl rfl rfl
   ·refine bF ?_
    refine JP1.a h ?_
    exact Le.tz 0 0 rfl rfl rfl
  ·have h:=hk
   refine Qaf h (fun hb h=>?_) (fun hb h=>?_)
   ·exact JP2.b h (Le.tz 0 0 rfl rfl rfl)
   ·refine TL.le (τ := Qhd p0 (wr (v3+1))) ?_ ((iQen (wr (v3+1)) _ h))
    exact Le.tz 0 0 rfl rfl rfl
 ·exact JP2.a h (Le.tz 0 0 rfl rfl rfl)
theorem Qth:∀ (p0:(List UInt8)) (v3:Int) (o4:Unit⊕Unit),Qen p0 v3=some o4→TL (0,0) Tryd.prog 42 Qoq (JP2 (0,0) 42 o4 (.exit 0) (Qjv p0) .ret (Qjw p0)) (Qhd p0 v3):=fun p0 v3=>(Qsb p0) v3
noncomputable def Qk5 (p0:(List UInt8)):Option (Bool) :=
 ( if(decide ((p0.length:Int)<1)) then
   some true
  else
   if(decide ((p0.length:Int)>32)) then
    some true
   else
    idx p0 0>>=fun x2 =>
    Qkg (x2.toNat:Int)>>=fun x3 =>
    some (!x3):Option (Bool))>>=fun o1 =>
 if o1 then
  some false
 else
  (Qen p0 0)>>=fun o4 =>
  match o4 with
  | .inl y5 =>
   some true
  | .inr y6 =>
   some false
theorem Qn6:∀ (p0:(List UInt8)) (o:Bool),Qk5 p0=some o→PCall Tryd.prog 153 [sV p0] (Qg1 o):=by
 intro p0 o h
 unfold Qk5 at h
 refine PCall.ofB mixed tbOk Qrq Tryd.func153 rfl (by kernel_rfl) (Nat.le_of_ble_eq_true rfl) ?_
 refine Qag h (fun o1 ho hk=>?_)
 refine Exists.intro (JP1 _ _ o1 .normal (Qvb p0)) (And.intro ?_ (join1 ?_))
 ·have h:=ho
  refine vrfl ?_
  refine Qaf h (fun hb h=>?_) (fun hb h=>?_)
  ·refine bT ?_
   refine JP1.a h ?_
   exact Le.tz 0 0 rfl rfl rfl
  ·refine vrfl ?_
   refine Qaf h (fun hb h=>?_) (fun hb h=>?_)
   ·refine JP1.a h ?_
    exact Le.tz 0 0 rfl rfl rfl
   ·refine Qc7 h (fun x2 hi h=>?_)
    refine Qaj [nV .u8 (x2.toNat:Int)] Qkw h (fun x3 hy=>(Qp9 (x2.toNat:Int) x3 hy)) (fun x3 hy h=>?_)
    refine JP1.a h ?_
    exact Le.tz 0 0 rfl rfl rfl
 ·have h:=hk
  refine Qaf h (fun hb h=>?_) (fun hb h=>?_)
  ·refine Qal (t:=Qg1) h ?_
   exact .refl _
  ·refine Qag h (fun o4 ho hk=>?_)
   refine Exists.intro (JP2 _ _ o4 (.exit 0) (Qjv p0) .ret (Qjw p0)) (And.intro (T_le (τ := Qhd p0 0) ?_ (TL.loop (Qth p0 0 o4 ho))) (join2 (fun y5 hy=>?_) (fun y6 hy=>?_)))
   ·exact Le.tz 0 0 rfl rfl rfl
   ·have h:=(by rw[hy] at hk; exact hk)
    refine Qal (t:=Qg1) h ?_
    exact .refl _
   ·have h:=(by rw[hy] at hk; exact hk)
    refine Qal (t:=Qg1) h ?_
    exact .refl _
mutual
noncomputable def Qeo (p0:(List Qaa)):Option (Int) :=
 (Qep p0 0 0)>>=fun o1 =>
 some o1
 partial_fixpoint
noncomputable def Qep (p0:(List Qaa)) (v3:Int) (v4:Int):Option (Int) :=
 if(decide (v4<(p0.length:Int))) then
  idx p0 v4>>=fun x2 =>
  Qeo x2.L>>=fun x3 =>
  idx p0 v4>>=fun x4 =>
  Qeo x4.Then>>=fun x5 =>
  idx p0 v4>>=fun x6 =>
  Qeo x6.Else>>=fun x7 =>
  Qep p0 (wr ((wr ((wr ((wr (v3+1))+x3))+x5))+x7)) (wr (v4+1))
 else
  some v3
 partial_fixpoint
end
theorem Qv9:(∀ (p0:(List Qaa)) (o:Int),Qeo p0=some o→PCall Tryd.prog 74 [.sl false (p0.map Qac)] (Qfh o))∧(∀ (p0:(List Qaa)) (v3:Int) (v4:Int) (o1:Int),Qep p0 v3 v4=some o1→TL (0,0) Tryd.prog 35 Qs5 (JP1 (0,0) 35 o1 (.exit 0) (Ql1 p0)) (Qiw p0 v3 v4)):=by
 refine Qeo.mutual_partial_correctness _ _ ?_ ?_
 ·intro Qep' iQep p0 o h
  refine PCall.ofB mixed tbOk Qp4 Tryd.func74 rfl (by kernel_rfl) (Nat.le_of_ble_eq_true rfl) ?_
  refine Qag h (fun o1 ho hk=>?_)
  refine Exists.intro (JP1 _ _ o1 (.exit 0) (Ql1 p0)) (And.intro (T_le (τ := Qiw p0 0 0) ?_ (TL.loop (iQep p0 0 0 o1 ho))) (join1 ?_))
  ·exact Le.tz 0 0 rfl rfl rfl
  have h:=hk
  refine Qal (t:=Qfh) h ?_
  exact .refl _
 ·intro Qeo' Qep' iQeo iQep p0 v3 v4 o1 h
  refine TL.round (Qak mixed tbOk (lv:=Qp4) _ _ _ ?_)
  refine view (lenMap _ _) rfl ?_
  refine Qaf h (fun hb h=>?_) (fun hb h=>?_)
  ·refine And.intro (by decide +kernel) (And.intro rfl ?_)
   refine Qcl (l:=p0) (c:=Qac) (c' := Qat) h Qah (fun _=>rfl) (by decide) (fun x2 hi h=>?_)
   refine Qcr [.sl false (x2.L.map Qac)] Qfh h (fun x3 hy=>(iQeo x2.L x3 hy)) (fun x3 hy h=>?_)
   refine Qcl (l:=p0) (c:=Qac) (c' := Qat) h Qah (fun _=>rfl) (by decide) (fun x4 hi h=>?_)
   refine Qcr [.sl false (x4.Then.map Qac)] Qfh h (fun x5 hy=>(iQeo x4.Then x5 hy)) (fun x5 hy h=>?_)
   refine Qcl (l:=p0) (c:=Qac) (c' := Qat) h Qah (fun _=>rfl) (by decide) (fun x6 hi h=>?_)
   refine Qcr [.sl false (x6.Else.map Qac)] Qfh h (fun x7 hy=>(iQeo x6.Else x7 hy)) (fun x7 hy h=>?_)
   refine TL.le (τ := Qiw p0 (wr ((wr ((wr ((wr (v3+1))+x3))+x5))+x7)) (wr (v4+1))) ?_ ((iQep p0 (wr ((wr ((wr ((wr (v3+1))+x3))+x5))+x7)) (wr (v4+1)) _ h))
   exact Le.tz 0 0 rfl rfl rfl
  ·exact JP1.a h (Le.tz 0 0 rfl rfl rfl)
theorem Qx6:∀ (p0:(List Qaa)) (o:Int),Qeo p0=some o→PCall Tryd.prog 74 [.sl false (p0.map Qac)] (Qfh o):=fun p0=>Qv9.1 p0
mutual
noncomputable def Qgj (p0:(List Qaa)):Option (Int) :=
 (Qfq p0 0 0)>>=fun o1 =>
 some o1
 partial_fixpoint
noncomputable def Qfq (p0:(List Qaa)) (v3:Int) (v4:Int):Option (Int) :=
 if(decide (v4<(p0.length:Int))) then
  idx p0 v4>>=fun x2 =>
  Qgj x2.L>>=fun x3 =>
  idx p0 v4>>=fun x4 =>
  Qgj x4.Then>>=fun x5 =>
  idx p0 v4>>=fun x6 =>
  Qgj x6.Else>>=fun x7 =>
  Qfq p0 (if(wr (1+(if x7>(if x5>x3 then x5 else x3) then x7 else(if x5>x3 then x5 else x3))))>v3 then(wr (1+(if x7>(if x5>x3 then x5 else x3) then x7 else(if x5>x3 then x5 else x3)))) else v3) (wr (v4+1))
 else
  some v3
 partial_fixpoint
end
theorem Qx7:(∀ (p0:(List Qaa)) (o:Int),Qgj p0=some o→PCall Tryd.prog 73 [.sl false (p0.map Qac)] (Qg2 o))∧(∀ (p0:(List Qaa)) (v3:Int) (v4:Int) (o1:Int),Qfq p0 v3 v4=some o1→TL (0,0) Tryd.prog 34 Qvd (JP1 (0,0) 34 o1 (.exit 0) (Qnp p0)) (Qjx p0 v3 v4)):=by
 refine Qgj.mutual_partial_correctness _ _ ?_ ?_
 ·intro Qfq' iQfq p0 o h
  refine PCall.ofB mixed tbOk Qrr Tryd.func73 rfl (by kernel_rfl) (Nat.le_of_ble_eq_true rfl) ?_
  refine Qag h (fun o1 ho hk=>?_)
  refine Exists.intro (JP1 _ _ o1 (.exit 0) (Qnp p0)) (And.intro (T_le (τ := Qjx p0 0 0) ?_ (TL.loop (iQfq p0 0 0 o1 ho))) (join1 ?_))
  ·exact Le.tz 0 0 rfl rfl rfl
  have h:=hk
  refine Qal (t:=Qg2) h ?_
  exact .refl _
 ·intro Qgj' Qfq' iQgj iQfq p0 v3 v4 o1 h
  refine TL.round (Qak mixed tbOk (lv:=Qrr) _ _ _ ?_)
  refine view (lenMap _ _) rfl ?_
  refine Qaf h (fun hb h=>?_) (fun hb h=>?_)
  ·refine And.intro (by decide +kernel) (And.intro rfl ?_)
   refine Qcl (l:=p0) (c:=Qac) (c' := Qat) h Qah (fun _=>rfl) (by decide) (fun x2 hi h=>?_)
   refine Qcr [.sl false (x2.L.map Qac)] Qg2 h (fun x3 hy=>(iQgj x2.L x3 hy)) (fun x3 hy h=>?_)
   refine Qcl (l:=p0) (c:=Qac) (c' := Qat) h Qah (fun _=>rfl) (by decide) (fun x4 hi h=>?_)
   refine Qcr [.sl false (x4.Then.map Qac)] Qg2 h (fun x5 hy=>(iQgj x4.Then x5 hy)) (fun x5 hy h=>?_)
   refine Qcl (l:=p0) (c:=Qac) (c' := Qat) h Qah (fun _=>rfl) (by decide) (fun x6 hi h=>?_)
   refine Qcr [.sl false (x6.Else.map Qac)] Qg2 h (fun x7 hy=>(iQgj x6.Else x7 hy)) (fun x7 hy h=>?_)
   refine TL.le (τ := Qjx p0 (if(wr (1+(if x7>(if x5>x3 then x5 else x3) then x7 else(if x5>x3 then x5 else x3))))>v3 then(wr (1+(if x7>(if x5>x3 then x5 else x3) then x7 else(if x5>x3 then x5 else x3)))) else v3) (wr (v4+1))) ?_ ((iQfq p0 (if(wr (1+(if x7>(if x5>x3 then x5 else x3) then x7 else(if x5>x3 then x5 else x3))))>v3 then(wr (1+(if x7>(if x5>x3 then x5 else x3) then x7 else(if x5>x3 then x5 else x3)))) else v3) (wr (v4+1)) _ h))
   exact Le.tz 0 0 rfl rfl rfl
  ·exact JP1.a h (Le.tz 0 0 rfl rfl rfl)
theorem Q0c:∀ (p0:(List Qaa)) (o:Int),Qgj p0=some o→PCall Tryd.prog 73 [.sl false (p0.map Qac)] (Qg2 o):=fun p0=>Qx7.1 p0
mutual
noncomputable def Qeh (p0:Qaa):Option ((List UInt8)) :=
 if(p0.Kind==1) then
  Qgi p0.Text>>=fun x1 =>
  some x1.1
 else
  if(p0.Kind==2) then
   Qqy p0.N>>=fun x2 =>
   some x2
  else
   if(p0.Kind==3) then
    if(p0.N==1) then
     some [116,114,117,101]
    else
     some [102,97,108,115,101]
   else
    if(p0.Kind==4) then
     some p0.Name
    else
     if(p0.Kind==5) then
      idx p0.L 0>>=fun x3 =>
      Qeh x3>>=fun x4 =>
      need (x4.length+[46].length≤9223372036854775807)>>=fun _ =>
      need ((x4++[46]).length+p0.Name.length≤9223372036854775807)>>=fun _ =>
      some ((x4++[46])++p0.Name)
     else
      if(p0.Kind==7) then
       need ([115,101,99,114,101,116,40,34].length+p0.Name.length≤9223372036854775807)>>=fun _ =>
       need (([115,101,99,114,101,116,40,34]++p0.Name).length+[34,41].length≤9223372036854775807)>>=fun _ =>
       some (([115,101,99,114,101,116,40,34]++p0.Name)++[34,41])
      else
       (Qg6 p0 [] 0)>>=fun o5 =>
       need (p0.Name.length+[40].length≤9223372036854775807)>>=fun _ =>
       Qov o5 [44,32]>>=fun x9 =>
       need ((p0.Name++[40]).length+x9.length≤9223372036854775807)>>=fun _ =>
       need (((p0.Name++[40])++x9).length+[41].length≤9223372036854775807)>>=fun _ =>
       some (((p0.Name++[40])++x9)++[41])
 partial_fixpoint
noncomputable def Qg6 (p0:Qaa) (v5:(List (List UInt8))) (v6:Int):Option ((List (List UInt8))) :=
 if(decide (v6<(p0.L.length:Int))) then
  idx p0.L v6>>=fun x6 =>
  Qeh x6>>=fun x7 =>
  appL 16 v5 [x7]>>=fun x8 =>
  Qg6 p0 x8 (wr (v6+1))
 else
  some v5
 partial_fixpoint
end
theorem Qx8:(∀ (p0:Qaa) (o:(List UInt8)),Qeh p0=some o→PCall Tryd.prog 75 [.agg [iV p0.Kind,sV p0.Name,sV p0.Text,iV p0.N,.sl false (p0.L.map Qac),.sl false (p0.Then.map Qac),.sl false (p0.Else.map Qac)]] (Qbx o))∧(∀ (p0:Qaa) (v5:(List (List UInt8))) (v6:Int) (o5:(List (List UInt8))),Qg6 p0 v5 v6=some o5→TL (0,0) Tryd.prog 73 Qve (JP1 (0,0) 73 o5 (.exit 1) (Qnq p0)) (Qjy p0 v5 v6)):=by
 refine Qeh.mutual_partial_correctness _ _ ?_ ?_
 ·intro Qeh' Qg6' iQeh iQg6 p0 o h
  refine PCall.ofB mixed tbOk Qrs Tryd.func75 rfl (by kernel_rfl) (Nat.le_of_ble_eq_true rfl) ?_
  refine Qaf h (fun hb h=>?_) (fun hb h=>?_)
  ·refine Qaj [sV p0.Text] Qg0 h (fun x1 hy=>(Qp8 p0.Text x1 hy)) (fun x1 hy h=>?_)
   refine Qal (t:=Qbx) h ?_
   exact .refl _
  ·refine Qaf h (fun hb h=>?_) (fun hb h=>?_)
   ·refine Qaj [iV p0.N] Qt9 h (fun x2 hy=>(Q0a p0.N x2 hy)) (fun x2 hy h=>?_)
    refine Qal (t:=Qbx) h ?_
    exact .refl _
   ·refine Qaf h (fun hb h=>?_) (fun hb h=>?_)
    ·refine Qaf h (fun hb h=>?_) (fun hb h=>?_)
     ·refine Qal (t:=Qbx) h ?_
      exact .refl _
     ·refine Qal (t:=Qbx) h ?_
      exact .refl _
    ·refine Qaf h (fun hb h=>?_) (fun hb h=>?_)
     ·refine Qal (t:=Qbx) h ?_
      exact .refl _
     ·refine Qaf h (fun hb h=>?_) (fun hb h=>?_)
      ·refine And.intro (by decide +kernel) (And.intro rfl ?_)
       refine Qcl (l:=p0.L) (c:=Qac) (c' := Qat) h Qah (fun _=>rfl) (by decide) (fun x3 hi h=>?_)
       refine Qcr [.agg [iV x3.Kind,sV x3.Name,sV x3.Text,iV x3.N,.sl false (x3.L.map Qac),.sl false (x3.Then.map Qac),.sl false (x3.Else.map Qac)]] Qbx h (fun x4 hy=>(iQeh x3 x4 hy)) (fun x4 hy h=>?_)
       refine Qa1 h (fun h=>?_)
       refine Qa1 h (fun h=>?_)
       refine Qal (t:=Qbx) h ?_
       exact .refl _
      ·refine Qaf h (fun hb h=>?_) (fun hb h=>?_)
       ·refine Qa1 h (fun h=>?_)
        refine Qa1 h (fun h=>?_)
        refine Qal (t:=Qbx) h ?_
        exact .refl _
       ·refine Qag h (fun o5 ho hk=>?_)
        refine Exists.intro (JP1 _ _ o5 (.exit 1) (Qnq p0)) (And.intro (T_le (τ := Qjy p0 [] 0) ?_ (TL.loop (iQg6 p0 [] 0 o5 ho))) (join1 ?_))
        ·exact Le.trans (τ := ⟨[(1,.ptr 0 0),(5,.p (.sl true [])),(6,.p (iV 0))],⟨[[.p (iV p0.Kind),.p (sV p0.Name),.p (sV p0.Text),.p (iV p0.N),.p (.sl false (p0.L.map Qac)),.p (.sl false (p0.Then.map Qac)),.p (.sl false (p0.Else.map Qac))]],[]⟩⟩) (Le.tz 1 0 rfl rfl rfl) ((Le.own 5 9 1 rfl sizeNil).trans (Le.tz 1 1 rfl rfl rfl))
        have h:=hk
        refine And.intro (by decide +kernel) (And.intro rfl ?_)
        refine Qa1 h (fun h=>?_)
        refine Qcr [.sl false (o5.map cStr),sV [44,32]] Qpo h (fun x9 hy=>(Qz9 o5 [44,32] x9 hy)) (fun x9 hy h=>?_)
        refine Qa1 h (fun h=>?_)
        refine Qa1 h (fun h=>?_)
        refine Qal (t:=Qbx) h ?_
        exact .refl _
 ·intro Qeh' Qg6' iQeh iQg6 p0 v5 v6 o5 h
  refine TL.round (Qak mixed tbOk (lv:=Qrs) _ _ _ ?_)
  refine view (lenMap _ _) rfl ?_
  refine Qaf h (fun hb h=>?_) (fun hb h=>?_)
  ·refine Qcl (l:=p0.L) (c:=Qac) (c' := Qat) h Qah (fun _=>rfl) (by decide) (fun x6 hi h=>?_)
   refine Qaj [.agg [iV x6.Kind,sV x6.Name,sV x6.Text,iV x6.N,.sl false (x6.L.map Qac),.sl false (x6.Then.map Qac),.sl false (x6.Else.map Qac)]] Qbx h (fun x7 hy=>(iQeh x6 x7 hy)) (fun x7 hy h=>?_)
   refine Qrj (a:=v5) (b:=[x7]) (c:=cStr) h (.refl _) (fun _=>rfl) rfl (fun x8 hi h=>?_)
   refine TL.le (τ := Qjy p0 x8 (wr (v6+1))) ?_ ((iQg6 p0 x8 (wr (v6+1)) _ h))
   exact Le.tz 1 1 rfl rfl rfl
  ·exact JP1.a h (Le.tz 1 1 rfl rfl rfl)
theorem Qi5:∀ (p0:Qaa) (o:(List UInt8)),Qeh p0=some o→PCall Tryd.prog 75 [.agg [iV p0.Kind,sV p0.Name,sV p0.Text,iV p0.N,.sl false (p0.L.map Qac),.sl false (p0.Then.map Qac),.sl false (p0.Else.map Qac)]] (Qbx o):=fun p0=>Qx8.1 p0
noncomputable def Qdv (p0:(List UInt8)) (x1:(List (List UInt8))) (v4:Int):Option (Unit⊕Unit) :=
 if(decide (v4<(x1.length:Int))) then
  idx x1 v4>>=fun x5 =>
  if(x5==p0) then
   some (.inr ())
  else
   Qdv p0 x1 (wr (v4+1))
 else
  some (.inl ())
 partial_fixpoint
theorem Qsc:∀ (p0:(List UInt8)) (x1:(List (List UInt8))),(∀ (v4:Int) (o2:Unit⊕Unit),Qdv p0 x1 v4=some o2→TL (0,0) Tryd.prog 20 Qor (JP2 (0,0) 20 o2 (.exit 0) (Qjz p0 x1) .ret (Qj0 p0 x1)) (Qhe p0 x1 v4)):=by
 intro p0 x1
 refine Qdv.partial_correctness p0 x1 _ ?_
 intro Qdv' iQdv v4 o2 h
 refine TL.round (Qak mixed tbOk (lv:=Qrt) _ _ _ ?_)
 refine view (lenMap _ _) rfl ?_
 refine Qaf h (fun hb h=>?_) (fun hb h=>?_)
 ·refine Qcl (l:=x1) (c:=cStr) (c' := cStr) h (fun _=>rfl) (fun _=>rfl) (by decide) (fun x5 hi h=>?_)
  refine Qaf h (fun hb h=>?_) (fun hb h=>?_)
  ·exact JP2.b h (Le.tz 0 0 rfl rfl rfl)
  ·refine TL.le (τ := Qhe p0 x1 (wr (v4+1))) ?_ ((iQdv (wr (v4+1)) _ h))
   exact Le.tz 0 0 rfl rfl rfl
 ·exact JP2.a h (Le.tz 0 0 rfl rfl rfl)
theorem Qti:∀ (p0:(List UInt8)) (x1:(List (List UInt8))) (v4:Int) (o2:Unit⊕Unit),Qdv p0 x1 v4=some o2→TL (0,0) Tryd.prog 20 Qor (JP2 (0,0) 20 o2 (.exit 0) (Qjz p0 x1) .ret (Qj0 p0 x1)) (Qhe p0 x1 v4):=fun p0 x1 v4=>(Qsc p0 x1) v4
noncomputable def Qox:Option ((List (List UInt8))) :=
 some ([[105,102],[101,108,115,101],[101,110,100],[101,97,99,104],[105,110],[108,101,116],[117,115,101],[116,114,117,101],[102,97,108,115,101],[115,101,99,114,101,116]])
theorem Qx9:∀ (o:(List (List UInt8))),Qox  = some o→PCall Tryd.prog 152 [] (Qn2 o):=by
 intro o h
 unfold Qox at h
 refine PCall.ofB mixed tbOk Qxz Tryd.func152 rfl (by kernel_rfl) (Nat.le_of_ble_eq_true rfl) ?_
 refine Qal (t:=Qn2) h ?_
 exact .p (.not)
noncomputable def Qjk (p0:(List UInt8)):Option (Bool) :=
 Qox>>=fun x1 =>
 (Qdv p0 x1 0)>>=fun o2 =>
 match o2 with
 | .inl y3 =>
  Qk5 p0>>=fun x6 =>
  some x6
 | .inr y4 =>
  some false
theorem Qk6:∀ (p0:(List UInt8)) (o:Bool),Qjk p0=some o→PCall Tryd.prog 135 [sV p0] (Qg3 o):=by
 intro p0 o h
 unfold Qjk at h
 refine PCall.ofB mixed tbOk Qrt Tryd.func135 rfl (by kernel_rfl) (Nat.le_of_ble_eq_true rfl) ?_
 refine Qaj [] Qn2 h (fun x1 hy=>(Qx9 x1 hy)) (fun x1 hy h=>?_)
 refine Qag h (fun o2 ho hk=>?_)
 refine Exists.intro (JP2 _ _ o2 (.exit 0) (Qjz p0 x1) .ret (Qj0 p0 x1)) (And.intro (T_le (τ := Qhe p0 x1 0) ?_ (TL.loop (Qti p0 x1 0 o2 ho))) (join2 (fun y3 hy=>?_) (fun y4 hy=>?_)))
 ·exact Le.tz 0 0 rfl rfl rfl
 ·have h:=(by rw[hy] at hk; exact hk)
  refine Qaj [sV p0] Qg1 h (fun x6 hy=>(Qn6 p0 x6 hy)) (fun x6 hy h=>?_)
  refine Qal (t:=Qg3) h ?_
  exact .refl _
 ·have h:=(by rw[hy] at hk; exact hk)
  refine Qal (t:=Qg3) h ?_
  exact .refl _
noncomputable def Qcy (p0:Qaa) (p1:Bool) (p2:Bool) (p3:Bool) (p4:Bool) (p5:Bool):Option (Bool) :=
 ( if p1 then
   if p2 then
    if p3 then
     if p4 then
      if p5 then
       if(p0.Kind==10) then
        some true
       else
        some ((p0.Else.length:Int)==0)
      else
       if((p0.Then.length:Int)==0) then
        if(p0.Kind==10) then
         some true
        else
         some ((p0.Else.length:Int)==0)
       else
        some false
     else
      if((p0.L.length:Int)==0) then
       if p5 then
        if(p0.Kind==10) then
         some true
        else
         some ((p0.Else.length:Int)==0)
       else
        if((p0.Then.length:Int)==0) then
         if(p0.Kind==10) then
          some true
         else
          some ((p0.Else.length:Int)==0)
        else
         some false
      else
       some false
    else
     if(p0.N==0) then
      if p4 then
       if p5 then
        if(p0.Kind==10) then
         some true
        else
         some ((p0.Else.length:Int)==0)
       else
        if((p0.Then.length:Int)==0) then
         if(p0.Kind==10) then
          some true
         else
          some ((p0.Else.length:Int)==0)
        else
         some false
      else
       if((p0.L.length:Int)==0) then
        if p5 then
         if(p0.Kind==10) then
          some true
         else
          some ((p0.Else.length:Int)==0)
        else
         if((p0.Then.length:Int)==0) then
          if(p0.Kind==10) then
           some true
          else
           some ((p0.Else.length:Int)==0)
         else
          some false
       else
        some false
     else
      some false
   else
    if(p0.Text==[]) then
     if p3 then
      if p4 then
       if p5 then
        if(p0.Kind==10) then
         some true
        else
         some ((p0.Else.length:Int)==0)
       else
        if((p0.Then.length:Int)==0) then
         if(p0.Kind==10) then
          some true
         else
          some ((p0.Else.length:Int)==0)
        else
         some false
      else
       if((p0.L.length:Int)==0) then
        if p5 then
         if(p0.Kind==10) then
          some true
         else
          some ((p0.Else.length:Int)==0)
        else
         if((p0.Then.length:Int)==0) then
          if(p0.Kind==10) then
           some true
          else
           some ((p0.Else.length:Int)==0)
         else
          some false
       else
        some false
     else
      if(p0.N==0) then
       if p4 then
        if p5 then
         if(p0.Kind==10) then
          some true
         else
          some ((p0.Else.length:Int)==0)
        else
         if((p0.Then.length:Int)==0) then
          if(p0.Kind==10) then
           some true
          else
           some ((p0.Else.length:Int)==0)
         else
          some false
       else
        if((p0.L.length:Int)==0) then
         if p5 then
          if(p0.Kind==10) then
           some true
          else
           some ((p0.Else.length:Int)==0)
         else
          if((p0.Then.length:Int)==0) then
           if(p0.Kind==10) then
            some true
           else
            some ((p0.Else.length:Int)==0)
          else
           some false
        else
         some false
      else
       some false
    else
     some false
  else
   if(p0.Name==[]) then
    if p2 then
     if p3 then
      if p4 then
       if p5 then
        if(p0.Kind==10) then
         some true
        else
         some ((p0.Else.length:Int)==0)
       else
        if((p0.Then.length:Int)==0) then
         if(p0.Kind==10) then
          some true
         else
          some ((p0.Else.length:Int)==0)
        else
         some false
      else
       if((p0.L.length:Int)==0) then
        if p5 then
         if(p0.Kind==10) then
          some true
         else
          some ((p0.Else.length:Int)==0)
        else
         if((p0.Then.length:Int)==0) then
          if(p0.Kind==10) then
           some true
          else
           some ((p0.Else.length:Int)==0)
         else
          some false
       else
        some false
     else
      if(p0.N==0) then
       if p4 then
        if p5 then
         if(p0.Kind==10) then
          some true
         else
          some ((p0.Else.length:Int)==0)
        else
         if((p0.Then.length:Int)==0) then
          if(p0.Kind==10) then
           some true
          else
           some ((p0.Else.length:Int)==0)
         else
          some false
       else
        if((p0.L.length:Int)==0) then
         if p5 then
          if(p0.Kind==10) then
           some true
          else
           some ((p0.Else.length:Int)==0)
         else
          if((p0.Then.length:Int)==0) then
           if(p0.Kind==10) then
            some true
           else
            some ((p0.Else.length:Int)==0)
          else
           some false
        else
         some false
      else
       some false
    else
     if(p0.Text==[]) then
      if p3 then
       if p4 then
        if p5 then
         if(p0.Kind==10) then
          some true
         else
          some ((p0.Else.length:Int)==0)
        else
         if((p0.Then.length:Int)==0) then
          if(p0.Kind==10) then
           some true
          else
           some ((p0.Else.length:Int)==0)
         else
          some false
       else
        if((p0.L.length:Int)==0) then
         if p5 then
          if(p0.Kind==10) then
           some true
          else
           some ((p0.Else.length:Int)==0)
         else
          if((p0.Then.length:Int)==0) then
           if(p0.Kind==10) then
            some true
           else
            some ((p0.Else.length:Int)==0)
          else
           some false
        else
         some false
      else
       if(p0.N==0) then
        if p4 then
         if p5 then
          if(p0.Kind==10) then
           some true
          else
           some ((p0.Else.length:Int)==0)
         else
          if((p0.Then.length:Int)==0) then
           if(p0.Kind==10) then
            some true
           else
            some ((p0.Else.length:Int)==0)
          else
           some false
        else
         if((p0.L.length:Int)==0) then
          if p5 then
           if(p0.Kind==10) then
            some true
           else
            some ((p0.Else.length:Int)==0)
          else
           if((p0.Then.length:Int)==0) then
            if(p0.Kind==10) then
             some true
            else
             some ((p0.Else.length:Int)==0)
           else
            some false
         else
          some false
       else
        some false
     else
      some false
   else
    some false:Option (Bool))>>=fun o1 =>
 some o1
theorem Qcb:∀ (p0:Qaa) (p1:Bool) (p2:Bool) (p3:Bool) (p4:Bool) (p5:Bool) (o:Bool),Qcy p0 p1 p2 p3 p4 p5=some o→PCall Tryd.prog 134 [.agg [iV p0.Kind,sV p0.Name,sV p0.Text,iV p0.N,.sl false (p0.L.map Qac),.sl false (p0.Then.map Qac),.sl false (p0.Else.map Qac)],bV p1,bV p2,bV p3,bV p4,bV p5] (Qb9 o):=by
 intro p0 p1 p2 p3 p4 p5 o h
 unfold Qcy at h
 refine PCall.ofB mixed tbOk Qz3 Tryd.func134 rfl (by kernel_rfl) (Nat.le_of_ble_eq_true rfl) ?_
 refine Qag h (fun o1 ho hk=>?_)
 refine Exists.intro (JP1 _ _ o1 .normal (Qvj p0)) (And.intro ?_ (join1 ?_))
 ·have h:=ho
  refine Qaf h (fun hb h=>?_) (fun hb h=>?_)
  ·refine bT ?_
   refine Qaf h (fun hb h=>?_) (fun hb h=>?_)
   ·refine bT ?_
    refine Qaf h (fun hb h=>?_) (fun hb h=>?_)
    ·refine bT ?_
     refine Qaf h (fun hb h=>?_) (fun hb h=>?_)
     ·refine bT ?_
      refine Qaf h (fun hb h=>?_) (fun hb h=>?_)
      ·refine bT ?_
       refine Qaf h (fun hb h=>?_) (fun hb h=>?_)
       ·refine JP1.a h ?_
        exact Le.tz 1 0 rfl rfl rfl
       ·refine view (lenMap _ _) rfl ?_
        refine JP1.a h ?_
        exact Le.tz 1 0 rfl rfl rfl
      ·refine view (lenMap _ _) rfl ?_
       refine Qaf h (fun hb h=>?_) (fun hb h=>?_)
       ·refine Qaf h (fun hb h=>?_) (fun hb h=>?_)
        ·refine JP1.a h ?_
         exact Le.tz 1 0 rfl rfl rfl
        ·refine view (lenMap _ _) rfl ?_
         refine JP1.a h ?_
         exact Le.tz 1 0 rfl rfl rfl
       ·refine JP1.a h ?_
        exact Le.tz 1 0 rfl rfl rfl
     ·refine view (lenMap _ _) rfl ?_
      refine Qaf h (fun hb h=>?_) (fun hb h=>?_)
      ·refine Qaf h (fun hb h=>?_) (fun hb h=>?_)
       ·refine bT ?_
        refine Qaf h (fun hb h=>?_) (fun hb h=>?_)
        ·refine JP1.a h ?_
         exact Le.tz 1 0 rfl rfl rfl
        ·refine view (lenMap _ _) rfl ?_
         refine JP1.a h ?_
         exact Le.tz 1 0 rfl rfl rfl
       ·refine view (lenMap _ _) rfl ?_
        refine Qaf h (fun hb h=>?_) (fun hb h=>?_)
        ·refine Qaf h (fun hb h=>?_) (fun hb h=>?_)
         ·refine JP1.a h ?_
          exact Le.tz 1 0 rfl rfl rfl
         ·refine view (lenMap _ _) rfl ?_
          refine JP1.a h ?_
          exact Le.tz 1 0 rfl rfl rfl
        ·refine JP1.a h ?_
         exact Le.tz 1 0 rfl rfl rfl
      ·refine bF ?_
       refine JP1.a h ?_
       exact Le.tz 1 0 rfl rfl rfl
    ·refine Qaf h (fun hb h=>?_) (fun hb h=>?_)
     ·refine Qaf h (fun hb h=>?_) (fun hb h=>?_)
      ·refine bT ?_
       refine Qaf h (fun hb h=>?_) (fun hb h=>?_)
       ·refine bT ?_
        refine Qaf h (fun hb h=>?_) (fun hb h=>?_)
        ·refine JP1.a h ?_
         exact Le.tz 1 0 rfl rfl rfl
        ·refine view (lenMap _ _) rfl ?_
         refine JP1.a h ?_
         exact Le.tz 1 0 rfl rfl rfl
       ·refine view (lenMap _ _) rfl ?_
        refine Qaf h (fun hb h=>?_) (fun hb h=>?_)
        ·refine Qaf h (fun hb h=>?_) (fun hb h=>?_)
         ·refine JP1.a h ?_
          exact Le.tz 1 0 rfl rfl rfl
         ·refine view (lenMap _ _) rfl ?_
          refine JP1.a h ?_
          exact Le.tz 1 0 rfl rfl rfl
        ·refine JP1.a h ?_
         exact Le.tz 1 0 rfl rfl rfl
      ·refine view (lenMap _ _) rfl ?_
       refine Qaf h (fun hb h=>?_) (fun hb h=>?_)
       ·refine Qaf h (fun hb h=>?_) (fun hb h=>?_)
        ·refine bT ?_
         refine Qaf h (fun hb h=>?_) (fun hb h=>?_)
         ·refine JP1.a h ?_
          exact Le.tz 1 0 rfl rfl rfl
         ·refine view (lenMap _ _) rfl ?_
          refine JP1.a h ?_
          exact Le.tz 1 0 rfl rfl rfl
        ·refine view (lenMap _ _) rfl ?_
         refine Qaf h (fun hb h=>?_) (fun hb h=>?_)
         ·refine Qaf h (fun hb h=>?_) (fun hb h=>?_)
          ·refine JP1.a h ?_
           exact Le.tz 1 0 rfl rfl rfl
          ·refine view (lenMap _ _) rfl ?_
           refine JP1.a h ?_
           exact Le.tz 1 0 rfl rfl rfl
         ·refine JP1.a h ?_
          exact Le.tz 1 0 rfl rfl rfl
       ·refine bF ?_
        refine JP1.a h ?_
        exact Le.tz 1 0 rfl rfl rfl
     ·refine bF ?_
      refine bF ?_
      refine JP1.a h ?_
      exact Le.tz 1 0 rfl rfl rfl
   ·refine Qaf h (fun hb h=>?_) (fun hb h=>?_)
    ·refine Qaf h (fun hb h=>?_) (fun hb h=>?_)
     ·refine bT ?_
      refine Qaf h (fun hb h=>?_) (fun hb h=>?_)
      ·refine bT ?_
       refine Qaf h (fun hb h=>?_) (fun hb h=>?_)
       ·refine bT ?_
        refine Qaf h (fun hb h=>?_) (fun hb h=>?_)
        ·refine JP1.a h ?_
         exact Le.tz 1 0 rfl rfl rfl
        ·refine view (lenMap _ _) rfl ?_
         refine JP1.a h ?_
         exact Le.tz 1 0 rfl rfl rfl
       ·refine view (lenMap _ _) rfl ?_
        refine Qaf h (fun hb h=>?_) (fun hb h=>?_)
        ·refine Qaf h (fun hb h=>?_) (fun hb h=>?_)
         ·refine JP1.a h ?_
          exact Le.tz 1 0 rfl rfl rfl
         ·refine view (lenMap _ _) rfl ?_
          refine JP1.a h ?_
          exact Le.tz 1 0 rfl rfl rfl
        ·refine JP1.a h ?_
         exact Le.tz 1 0 rfl rfl rfl
      ·refine view (lenMap _ _) rfl ?_
       refine Qaf h (fun hb h=>?_) (fun hb h=>?_)
       ·refine Qaf h (fun hb h=>?_) (fun hb h=>?_)
        ·refine bT ?_
         refine Qaf h (fun hb h=>?_) (fun hb h=>?_)
         ·refine JP1.a h ?_
          exact Le.tz 1 0 rfl rfl rfl
         ·refine view (lenMap _ _) rfl ?_
          refine JP1.a h ?_
          exact Le.tz 1 0 rfl rfl rfl
        ·refine view (lenMap _ _) rfl ?_
         refine Qaf h (fun hb h=>?_) (fun hb h=>?_)
         ·refine Qaf h (fun hb h=>?_) (fun hb h=>?_)
          ·refine JP1.a h ?_
           exact Le.tz 1 0 rfl rfl rfl
          ·refine view (lenMap _ _) rfl ?_
           refine JP1.a h ?_
           exact Le.tz 1 0 rfl rfl rfl
         ·refine JP1.a h ?_
          exact Le.tz 1 0 rfl rfl rfl
       ·refine bF ?_
        refine JP1.a h ?_
        exact Le.tz 1 0 rfl rfl rfl
     ·refine Qaf h (fun hb h=>?_) (fun hb h=>?_)
      ·refine Qaf h (fun hb h=>?_) (fun hb h=>?_)
       ·refine bT ?_
        refine Qaf h (fun hb h=>?_) (fun hb h=>?_)
        ·refine bT ?_
         refine Qaf h (fun hb h=>?_) (fun hb h=>?_)
         ·refine JP1.a h ?_
          exact Le.tz 1 0 rfl rfl rfl
         ·refine view (lenMap _ _) rfl ?_
          refine JP1.a h ?_
          exact Le.tz 1 0 rfl rfl rfl
        ·refine view (lenMap _ _) rfl ?_
         refine Qaf h (fun hb h=>?_) (fun hb h=>?_)
         ·refine Qaf h (fun hb h=>?_) (fun hb h=>?_)
          ·refine JP1.a h ?_
           exact Le.tz 1 0 rfl rfl rfl
          ·refine view (lenMap _ _) rfl ?_
           refine JP1.a h ?_
           exact Le.tz 1 0 rfl rfl rfl
         ·refine JP1.a h ?_
          exact Le.tz 1 0 rfl rfl rfl
       ·refine view (lenMap _ _) rfl ?_
        refine Qaf h (fun hb h=>?_) (fun hb h=>?_)
        ·refine Qaf h (fun hb h=>?_) (fun hb h=>?_)
         ·refine bT ?_
          refine Qaf h (fun hb h=>?_) (fun hb h=>?_)
          ·refine JP1.a h ?_
           exact Le.tz 1 0 rfl rfl rfl
          ·refine view (lenMap _ _) rfl ?_
           refine JP1.a h ?_
           exact Le.tz 1 0 rfl rfl rfl
         ·refine view (lenMap _ _) rfl ?_
          refine Qaf h (fun hb h=>?_) (fun hb h=>?_)
          ·refine Qaf h (fun hb h=>?_) (fun hb h=>?_)
           ·refine JP1.a h ?_
            exact Le.tz 1 0 rfl rfl rfl
           ·refine view (lenMap _ _) rfl ?_
            refine JP1.a h ?_
            exact Le.tz 1 0 rfl rfl rfl
          ·refine JP1.a h ?_
           exact Le.tz 1 0 rfl rfl rfl
        ·refine bF ?_
         refine JP1.a h ?_
         exact Le.tz 1 0 rfl rfl rfl
      ·refine bF ?_
       refine bF ?_
       refine JP1.a h ?_
       exact Le.tz 1 0 rfl rfl rfl
    ·refine bF ?_
     refine bF ?_
     refine bF ?_
     refine JP1.a h ?_
     exact Le.tz 1 0 rfl rfl rfl
  ·refine Qaf h (fun hb h=>?_) (fun hb h=>?_)
   ·refine Qaf h (fun hb h=>?_) (fun hb h=>?_)
    ·refine bT ?_
     refine Qaf h (fun hb h=>?_) (fun hb h=>?_)
     ·refine bT ?_
      refine Qaf h (fun hb h=>?_) (fun hb h=>?_)
      ·refine bT ?_
       refine Qaf h (fun hb h=>?_) (fun hb h=>?_)
       ·refine bT ?_
        refine Qaf h (fun hb h=>?_) (fun hb h=>?_)
        ·refine JP1.a h ?_
         exact Le.tz 1 0 rfl rfl rfl
        ·refine view (lenMap _ _) rfl ?_
         refine JP1.a h ?_
         exact Le.tz 1 0 rfl rfl rfl
       ·refine view (lenMap _ _) rfl ?_
        refine Qaf h (fun hb h=>?_) (fun hb h=>?_)
        ·refine Qaf h (fun hb h=>?_) (fun hb h=>?_)
         ·refine JP1.a h ?_
          exact Le.tz 1 0 rfl rfl rfl
         ·refine view (lenMap _ _) rfl ?_
          refine JP1.a h ?_
          exact Le.tz 1 0 rfl rfl rfl
        ·refine JP1.a h ?_
         exact Le.tz 1 0 rfl rfl rfl
      ·refine view (lenMap _ _) rfl ?_
       refine Qaf h (fun hb h=>?_) (fun hb h=>?_)
       ·refine Qaf h (fun hb h=>?_) (fun hb h=>?_)
        ·refine bT ?_
         refine Qaf h (fun hb h=>?_) (fun hb h=>?_)
         ·refine JP1.a h ?_
          exact Le.tz 1 0 rfl rfl rfl
         ·refine view (lenMap _ _) rfl ?_
          refine JP1.a h ?_
          exact Le.tz 1 0 rfl rfl rfl
        ·refine view (lenMap _ _) rfl ?_
         refine Qaf h (fun hb h=>?_) (fun hb h=>?_)
         ·refine Qaf h (fun hb h=>?_) (fun hb h=>?_)
          ·refine JP1.a h ?_
           exact Le.tz 1 0 rfl rfl rfl
          ·refine view (lenMap _ _) rfl ?_
           refine JP1.a h ?_
           exact Le.tz 1 0 rfl rfl rfl
         ·refine JP1.a h ?_
          exact Le.tz 1 0 rfl rfl rfl
       ·refine bF ?_
        refine JP1.a h ?_
        exact Le.tz 1 0 rfl rfl rfl
     ·refine Qaf h (fun hb h=>?_) (fun hb h=>?_)
      ·refine Qaf h (fun hb h=>?_) (fun hb h=>?_)
       ·refine bT ?_
        refine Qaf h (fun hb h=>?_) (fun hb h=>?_)
        ·refine bT ?_
         refine Qaf h (fun hb h=>?_) (fun hb h=>?_)
         ·refine JP1.a h ?_
          exact Le.tz 1 0 rfl rfl rfl
         ·refine view (lenMap _ _) rfl ?_
          refine JP1.a h ?_
          exact Le.tz 1 0 rfl rfl rfl
        ·refine view (lenMap _ _) rfl ?_
         refine Qaf h (fun hb h=>?_) (fun hb h=>?_)
         ·refine Qaf h (fun hb h=>?_) (fun hb h=>?_)
          ·refine JP1.a h ?_
           exact Le.tz 1 0 rfl rfl rfl
          ·refine view (lenMap _ _) rfl ?_
           refine JP1.a h ?_
           exact Le.tz 1 0 rfl rfl rfl
         ·refine JP1.a h ?_
          exact Le.tz 1 0 rfl rfl rfl
       ·refine view (lenMap _ _) rfl ?_
        refine Qaf h (fun hb h=>?_) (fun hb h=>?_)
        ·refine Qaf h (fun hb h=>?_) (fun hb h=>?_)
         ·refine bT ?_
          refine Qaf h (fun hb h=>?_) (fun hb h=>?_)
          ·refine JP1.a h ?_
           exact Le.tz 1 0 rfl rfl rfl
          ·refine view (lenMap _ _) rfl ?_
           refine JP1.a h ?_
           exact Le.tz 1 0 rfl rfl rfl
         ·refine view (lenMap _ _) rfl ?_
          refine Qaf h (fun hb h=>?_) (fun hb h=>?_)
          ·refine Qaf h (fun hb h=>?_) (fun hb h=>?_)
           ·refine JP1.a h ?_
            exact Le.tz 1 0 rfl rfl rfl
           ·refine view (lenMap _ _) rfl ?_
            refine JP1.a h ?_
            exact Le.tz 1 0 rfl rfl rfl
          ·refine JP1.a h ?_
           exact Le.tz 1 0 rfl rfl rfl
        ·refine bF ?_
         refine JP1.a h ?_
         exact Le.tz 1 0 rfl rfl rfl
      ·refine bF ?_
       refine bF ?_
       refine JP1.a h ?_
       exact Le.tz 1 0 rfl rfl rfl
    ·refine Qaf h (fun hb h=>?_) (fun hb h=>?_)
     ·refine Qaf h (fun hb h=>?_) (fun hb h=>?_)
      ·refine bT ?_
       refine Qaf h (fun hb h=>?_) (fun hb h=>?_)
       ·refine bT ?_
        refine Qaf h (fun hb h=>?_) (fun hb h=>?_)
        ·refine bT ?_
         refine Qaf h (fun hb h=>?_) (fun hb h=>?_)
         ·refine JP1.a h ?_
          exact Le.tz 1 0 rfl rfl rfl
         ·refine view (lenMap _ _) rfl ?_
          refine JP1.a h ?_
          exact Le.tz 1 0 rfl rfl rfl
        ·refine view (lenMap _ _) rfl ?_
         refine Qaf h (fun hb h=>?_) (fun hb h=>?_)
         ·refine Qaf h (fun hb h=>?_) (fun hb h=>?_)
          ·refine JP1.a h ?_
           exact Le.tz 1 0 rfl rfl rfl
          ·refine view (lenMap _ _) rfl ?_
           refine JP1.a h ?_
           exact Le.tz 1 0 rfl rfl rfl
         ·refine JP1.a h ?_
          exact Le.tz 1 0 rfl rfl rfl
       ·refine view (lenMap _ _) rfl ?_
        refine Qaf h (fun hb h=>?_) (fun hb h=>?_)
        ·refine Qaf h (fun hb h=>?_) (fun hb h=>?_)
         ·refine bT ?_
          refine Qaf h (fun hb h=>?_) (fun hb h=>?_)
          ·refine JP1.a h ?_
           exact Le.tz 1 0 rfl rfl rfl
          ·refine view (lenMap _ _) rfl ?_
           refine JP1.a h ?_
           exact Le.tz 1 0 rfl rfl rfl
         ·refine view (lenMap _ _) rfl ?_
          refine Qaf h (fun hb h=>?_) (fun hb h=>?_)
          ·refine Qaf h (fun hb h=>?_) (fun hb h=>?_)
           ·refine JP1.a h ?_
            exact Le.tz 1 0 rfl rfl rfl
           ·refine view (lenMap _ _) rfl ?_
            refine JP1.a h ?_
            exact Le.tz 1 0 rfl rfl rfl
          ·refine JP1.a h ?_
           exact Le.tz 1 0 rfl rfl rfl
        ·refine bF ?_
         refine JP1.a h ?_
         exact Le.tz 1 0 rfl rfl rfl
      ·refine Qaf h (fun hb h=>?_) (fun hb h=>?_)
       ·refine Qaf h (fun hb h=>?_) (fun hb h=>?_)
        ·refine bT ?_
         refine Qaf h (fun hb h=>?_) (fun hb h=>?_)
         ·refine bT ?_
          refine Qaf h (fun hb h=>?_) (fun hb h=>?_)
          ·refine JP1.a h ?_
           exact Le.tz 1 0 rfl rfl rfl
          ·refine view (lenMap _ _) rfl ?_
           refine JP1.a h ?_
           exact Le.tz 1 0 rfl rfl rfl
         ·refine view (lenMap _ _) rfl ?_
          refine Qaf h (fun hb h=>?_) (fun hb h=>?_)
          ·refine Qaf h (fun hb h=>?_) (fun hb h=>?_)
           ·refine JP1.a h ?_
            exact Le.tz 1 0 rfl rfl rfl
           ·refine view (lenMap _ _) rfl ?_
            refine JP1.a h ?_
            exact Le.tz 1 0 rfl rfl rfl
          ·refine JP1.a h ?_
           exact Le.tz 1 0 rfl rfl rfl
        ·refine view (lenMap _ _) rfl ?_
         refine Qaf h (fun hb h=>?_) (fun hb h=>?_)
         ·refine Qaf h (fun hb h=>?_) (fun hb h=>?_)
          ·refine bT ?_
           refine Qaf h (fun hb h=>?_) (fun hb h=>?_)
           ·refine JP1.a h ?_
            exact Le.tz 1 0 rfl rfl rfl
           ·refine view (lenMap _ _) rfl ?_
            refine JP1.a h ?_
            exact Le.tz 1 0 rfl rfl rfl
          ·refine view (lenMap _ _) rfl ?_
           refine Qaf h (fun hb h=>?_) (fun hb h=>?_)
           ·refine Qaf h (fun hb h=>?_) (fun hb h=>?_)
            ·refine JP1.a h ?_
             exact Le.tz 1 0 rfl rfl rfl
            ·refine view (lenMap _ _) rfl ?_
             refine JP1.a h ?_
             exact Le.tz 1 0 rfl rfl rfl
           ·refine JP1.a h ?_
            exact Le.tz 1 0 rfl rfl rfl
         ·refine bF ?_
          refine JP1.a h ?_
          exact Le.tz 1 0 rfl rfl rfl
       ·refine bF ?_
        refine bF ?_
        refine JP1.a h ?_
        exact Le.tz 1 0 rfl rfl rfl
     ·refine bF ?_
      refine bF ?_
      refine bF ?_
      refine JP1.a h ?_
      exact Le.tz 1 0 rfl rfl rfl
   ·refine bF ?_
    refine bF ?_
    refine bF ?_
    refine bF ?_
    refine JP1.a h ?_
    exact Le.tz 1 0 rfl rfl rfl
 ·have h:=hk
  refine Qal (t:=Qb9) h ?_
  exact .refl _
mutual
noncomputable def Qm9 (p0:Qaa):Option (Bool) :=
 if(p0.Kind==1) then
  Qgi p0.Text>>=fun x1 =>
  ( if x1.2 then
    Qcy p0 false true false false false>>=fun x3 =>
    some x3
   else
    some false:Option (Bool))>>=fun o2 =>
  some o2
 else
  if(p0.Kind==2) then
   Qcy p0 false false true false false>>=fun x4 =>
   some x4
  else
   if(p0.Kind==3) then
    ( if(p0.N==0) then
      Qcy p0 false false true false false>>=fun x6 =>
      some x6
     else
      if(p0.N==1) then
       Qcy p0 false false true false false>>=fun x7 =>
       some x7
      else
       some false:Option (Bool))>>=fun o5 =>
    some o5
   else
    if(p0.Kind==4) then
     ( Qjk p0.Name>>=fun x9 =>
      if x9 then
       Qcy p0 true false false false false>>=fun x10 =>
       some x10
      else
       some false:Option (Bool))>>=fun o8 =>
     some o8
    else
     if(p0.Kind==5) then
      ( Qk5 p0.Name>>=fun x12 =>
       if x12 then
        if((p0.L.length:Int)==1) then
         Qi6 p0.L>>=fun x13 =>
         if x13 then
          Qcy p0 true false false true false>>=fun x14 =>
          some x14
         else
          some false
        else
         some false
       else
        some false:Option (Bool))>>=fun o11 =>
      some o11
     else
      if(p0.Kind==6) then
       ( Qjk p0.Name>>=fun x16 =>
        if x16 then
         if(decide ((p0.L.length:Int)≤3)) then
          Qi6 p0.L>>=fun x17 =>
          if x17 then
           Qcy p0 true false false true false>>=fun x18 =>
           some x18
          else
           some false
         else
          some false
        else
         some false:Option (Bool))>>=fun o15 =>
       some o15
      else
       if(p0.Kind==7) then
        ( Qk5 p0.Name>>=fun x20 =>
         if x20 then
          Qcy p0 true false false false false>>=fun x21 =>
          some x21
         else
          some false:Option (Bool))>>=fun o19 =>
        some o19
       else
        some false
 partial_fixpoint
noncomputable def Qi6 (p0:(List Qaa)):Option (Bool) :=
 (Qf1 p0 0)>>=fun o1 =>
 match o1 with
 | .inl y2 =>
  some true
 | .inr y3 =>
  some false
 partial_fixpoint
noncomputable def Qf1 (p0:(List Qaa)) (v3:Int):Option (Unit⊕Unit) :=
 if(decide (v3<(p0.length:Int))) then
  idx p0 v3>>=fun x4 =>
  Qm9 x4>>=fun x5 =>
  if(!x5) then
   some (.inr ())
  else
   Qf1 p0 (wr (v3+1))
 else
  some (.inl ())
 partial_fixpoint
end
theorem Qya:(∀ (p0:Qaa) (o:Bool),Qm9 p0=some o→PCall Tryd.prog 151 [.agg [iV p0.Kind,sV p0.Name,sV p0.Text,iV p0.N,.sl false (p0.L.map Qac),.sl false (p0.Then.map Qac),.sl false (p0.Else.map Qac)]] (Qd4 o))∧(∀ (p0:(List Qaa)) (o:Bool),Qi6 p0=some o→PCall Tryd.prog 132 [.sl false (p0.map Qac)] (Qfi o))∧(∀ (p0:(List Qaa)) (v3:Int) (o1:Unit⊕Unit),Qf1 p0 v3=some o1→TL (0,0) Tryd.prog 16 Qs9 (JP2 (0,0) 16 o1 (.exit 0) (Ql5 p0) .ret (Ql6 p0)) (Qiy p0 v3)):=by
 refine Qm9.mutual_partial_correctness _ _ _ ?_ ?_ ?_
 ·intro Qi6' iQi6 p0 o h
  refine PCall.ofB mixed tbOk Qz4 Tryd.func151 rfl (by kernel_rfl) (Nat.le_of_ble_eq_true rfl) ?_
  refine Qaf h (fun hb h=>?_) (fun hb h=>?_)
  ·refine Qaj [sV p0.Text] Qg0 h (fun x1 hy=>(Qp8 p0.Text x1 hy)) (fun x1 hy h=>?_)
   refine Qag h (fun o2 ho hk=>?_)
   refine Exists.intro (JP1 _ _ o2 .normal (Qvk p0)) (And.intro ?_ (join1 ?_))
   ·have h:=ho
    refine Qaf h (fun hb h=>?_) (fun hb h=>?_)
    ·refine Qaj [.agg [iV p0.Kind,sV p0.Name,sV p0.Text,iV p0.N,.sl false (p0.L.map Qac),.sl false (p0.Then.map Qac),.sl false (p0.Else.map Qac)],bV false,bV true,bV false,bV false,bV false] Qb9 h (fun x3 hy=>(Qcb p0 false true false false false x3 hy)) (fun x3 hy h=>?_)
     refine JP1.a h ?_
     exact Le.tz 1 0 rfl rfl rfl
    ·refine JP1.a h ?_
     exact Le.tz 1 0 rfl rfl rfl
   ·have h:=hk
    refine Qal (t:=Qd4) h ?_
    exact .refl _
  ·refine Qaf h (fun hb h=>?_) (fun hb h=>?_)
   ·refine Qaj [.agg [iV p0.Kind,sV p0.Name,sV p0.Text,iV p0.N,.sl false (p0.L.map Qac),.sl false (p0.Then.map Qac),.sl false (p0.Else.map Qac)],bV false,bV false,bV true,bV false,bV false] Qb9 h (fun x4 hy=>(Qcb p0 false false true false false x4 hy)) (fun x4 hy h=>?_)
    refine Qal (t:=Qd4) h ?_
    exact .refl _
   ·refine Qaf h (fun hb h=>?_) (fun hb h=>?_)
    ·refine Qag h (fun o5 ho hk=>?_)
     refine Exists.intro (JP1 _ _ o5 .normal (Qvl p0)) (And.intro ?_ (join1 ?_))
     ·have h:=ho
      refine Qaf h (fun hb h=>?_) (fun hb h=>?_)
      ·refine bT ?_
       refine Qaj [.agg [iV p0.Kind,sV p0.Name,sV p0.Text,iV p0.N,.sl false (p0.L.map Qac),.sl false (p0.Then.map Qac),.sl false (p0.Else.map Qac)],bV false,bV false,bV true,bV false,bV false] Qb9 h (fun x6 hy=>(Qcb p0 false false true false false x6 hy)) (fun x6 hy h=>?_)
       refine JP1.a h ?_
       exact Le.tz 1 0 rfl rfl rfl
      ·refine Qaf h (fun hb h=>?_) (fun hb h=>?_)
       ·refine Qaj [.agg [iV p0.Kind,sV p0.Name,sV p0.Text,iV p0.N,.sl false (p0.L.map Qac),.sl false (p0.Then.map Qac),.sl false (p0.Else.map Qac)],bV false,bV false,bV true,bV false,bV false] Qb9 h (fun x7 hy=>(Qcb p0 false false true false false x7 hy)) (fun x7 hy h=>?_)
        refine JP1.a h ?_
        exact Le.tz 1 0 rfl rfl rfl
       ·refine JP1.a h ?_
        exact Le.tz 1 0 rfl rfl rfl
     ·have h:=hk
      refine Qal (t:=Qd4) h ?_
      exact .refl _
    ·refine Qaf h (fun hb h=>?_) (fun hb h=>?_)
     ·refine Qag h (fun o8 ho hk=>?_)
      refine Exists.intro (JP1 _ _ o8 .normal (Qvm p0)) (And.intro ?_ (join1 ?_))
      ·have h:=ho
       refine Qaj [sV p0.Name] Qg3 h (fun x9 hy=>(Qk6 p0.Name x9 hy)) (fun x9 hy h=>?_)
       refine Qaf h (fun hb h=>?_) (fun hb h=>?_)
       ·refine Qaj [.agg [iV p0.Kind,sV p0.Name,sV p0.Text,iV p0.N,.sl false (p0.L.map Qac),.sl false (p0.Then.map Qac),.sl false (p0.Else.map Qac)],bV true,bV false,bV false,bV false,bV false] Qb9 h (fun x10 hy=>(Qcb p0 true false false false false x10 hy)) (fun x10 hy h=>?_)
        refine JP1.a h ?_
        exact Le.tz 1 0 rfl rfl rfl
       ·refine JP1.a h ?_
        exact Le.tz 1 0 rfl rfl rfl
      ·have h:=hk
       refine Qal (t:=Qd4) h ?_
       exact .refl _
     ·refine Qaf h (fun hb h=>?_) (fun hb h=>?_)
      ·refine Qag h (fun o11 ho hk=>?_)
       refine Exists.intro (JP1 _ _ o11 .normal (Qvn p0)) (And.intro ?_ (join1 ?_))
       ·have h:=ho
        refine Qaj [sV p0.Name] Qg1 h (fun x12 hy=>(Qn6 p0.Name x12 hy)) (fun x12 hy h=>?_)
        refine Qaf h (fun hb h=>?_) (fun hb h=>?_)
        ·refine view (lenMap _ _) rfl ?_
         refine Qaf h (fun hb h=>?_) (fun hb h=>?_)
         ·refine Qaj [.sl false (p0.L.map Qac)] Qfi h (fun x13 hy=>(iQi6 p0.L x13 hy)) (fun x13 hy h=>?_)
          refine Qaf h (fun hb h=>?_) (fun hb h=>?_)
          ·refine Qaj [.agg [iV p0.Kind,sV p0.Name,sV p0.Text,iV p0.N,.sl false (p0.L.map Qac),.sl false (p0.Then.map Qac),.sl false (p0.Else.map Qac)],bV true,bV false,bV false,bV true,bV false] Qb9 h (fun x14 hy=>(Qcb p0 true false false true false x14 hy)) (fun x14 hy h=>?_)
           refine JP1.a h ?_
           exact Le.tz 1 0 rfl rfl rfl
          ·refine JP1.a h ?_
           exact Le.tz 1 0 rfl rfl rfl
         ·refine bF ?_
          refine JP1.a h ?_
          exact Le.tz 1 0 rfl rfl rfl
        ·refine bF ?_
         refine bF ?_
         refine JP1.a h ?_
         exact Le.tz 1 0 rfl rfl rfl
       ·have h:=hk
        refine Qal (t:=Qd4) h ?_
        exact .refl _
      ·refine Qaf h (fun hb h=>?_) (fun hb h=>?_)
       ·refine Qag h (fun o15 ho hk=>?_)
        refine Exists.intro (JP1 _ _ o15 .normal (Qvo p0)) (And.intro ?_ (join1 ?_))
        ·have h:=ho
         refine Qaj [sV p0.Name] Qg3 h (fun x16 hy=>(Qk6 p0.Name x16 hy)) (fun x16 hy h=>?_)
         refine Qaf h (fun hb h=>?_) (fun hb h=>?_)
         ·refine view (lenMap _ _) rfl ?_
          refine Qaf h (fun hb h=>?_) (fun hb h=>?_)
          ·refine Qaj [.sl false (p0.L.map Qac)] Qfi h (fun x17 hy=>(iQi6 p0.L x17 hy)) (fun x17 hy h=>?_)
           refine Qaf h (fun hb h=>?_) (fun hb h=>?_)
           ·refine Qaj [.agg [iV p0.Kind,sV p0.Name,sV p0.Text,iV p0.N,.sl false (p0.L.map Qac),.sl false (p0.Then.map Qac),.sl false (p0.Else.map Qac)],bV true,bV false,bV false,bV true,bV false] Qb9 h (fun x18 hy=>(Qcb p0 true false false true false x18 hy)) (fun x18 hy h=>?_)
            refine JP1.a h ?_
            exact Le.tz 1 0 rfl rfl rfl
           ·refine JP1.a h ?_
            exact Le.tz 1 0 rfl rfl rfl
          ·refine bF ?_
           refine JP1.a h ?_
           exact Le.tz 1 0 rfl rfl rfl
         ·refine bF ?_
          refine bF ?_
          refine JP1.a h ?_
          exact Le.tz 1 0 rfl rfl rfl
        ·have h:=hk
         refine Qal (t:=Qd4) h ?_
         exact .refl _
       ·refine Qaf h (fun hb h=>?_) (fun hb h=>?_)
        ·refine Qag h (fun o19 ho hk=>?_)
         refine Exists.intro (JP1 _ _ o19 .normal (Qvp p0)) (And.intro ?_ (join1 ?_))
         ·have h:=ho
          refine Qaj [sV p0.Name] Qg1 h (fun x20 hy=>(Qn6 p0.Name x20 hy)) (fun x20 hy h=>?_)
          refine Qaf h (fun hb h=>?_) (fun hb h=>?_)
          ·refine Qaj [.agg [iV p0.Kind,sV p0.Name,sV p0.Text,iV p0.N,.sl false (p0.L.map Qac),.sl false (p0.Then.map Qac),.sl false (p0.Else.map Qac)],bV true,bV false,bV false,bV false,bV false] Qb9 h (fun x21 hy=>(Qcb p0 true false false false false x21 hy)) (fun x21 hy h=>?_)
           refine JP1.a h ?_
           exact Le.tz 1 0 rfl rfl rfl
          ·refine JP1.a h ?_
           exact Le.tz 1 0 rfl rfl rfl
         ·have h:=hk
          refine Qal (t:=Qd4) h ?_
          exact .refl _
        ·refine Qal (t:=Qd4) h ?_
         exact .refl _
 ·intro Qf1' iQf1 p0 o h
  refine PCall.ofB mixed tbOk Qp7 Tryd.func132 rfl (by kernel_rfl) (Nat.le_of_ble_eq_true rfl) ?_
  refine Qag h (fun o1 ho hk=>?_)
  refine Exists.intro (JP2 _ _ o1 (.exit 0) (Ql5 p0) .ret (Ql6 p0)) (And.intro (T_le (τ := Qiy p0 0) ?_ (TL.loop (iQf1 p0 0 o1 ho))) (join2 (fun y2 hy=>?_) (fun y3 hy=>?_)))
  ·exact Le.tz 0 0 rfl rfl rfl
  ·have h:=(by rw[hy] at hk; exact hk)
   refine Qal (t:=Qfi) h ?_
   exact .refl _
  ·have h:=(by rw[hy] at hk; exact hk)
   refine Qal (t:=Qfi) h ?_
   exact .refl _
 ·intro Qm9' Qf1' iQm9 iQf1 p0 v3 o1 h
  refine TL.round (Qak mixed tbOk (lv:=Qp7) _ _ _ ?_)
  refine view (lenMap _ _) rfl ?_
  refine Qaf h (fun hb h=>?_) (fun hb h=>?_)
  ·refine Qcl (l:=p0) (c:=Qac) (c' := Qat) h Qah (fun _=>rfl) (by decide) (fun x4 hi h=>?_)
   refine Qaj [.agg [iV x4.Kind,sV x4.Name,sV x4.Text,iV x4.N,.sl false (x4.L.map Qac),.sl false (x4.Then.map Qac),.sl false (x4.Else.map Qac)]] Qd4 h (fun x5 hy=>(iQm9 x4 x5 hy)) (fun x5 hy h=>?_)
   refine Qaf h (fun hb h=>?_) (fun hb h=>?_)
   ·exact JP2.b h (Le.tz 0 0 rfl rfl rfl)
   ·refine TL.le (τ := Qiy p0 (wr (v3+1))) ?_ ((iQf1 p0 (wr (v3+1)) _ h))
    exact Le.tz 0 0 rfl rfl rfl
  ·exact JP2.a h (Le.tz 0 0 rfl rfl rfl)
theorem Qyb:∀ (p0:(List Qaa)) (o:Bool),Qi6 p0=some o→PCall Tryd.prog 132 [.sl false (p0.map Qac)] (Qfi o):=fun p0=>Qya.2.1 p0
noncomputable def Qcz (p0:(List UInt8)) (p1:(List UInt8)) (v5:Int):Option (Unit⊕Unit) :=
 if(decide (v5<(p0.length:Int))) then
  Qke p0 p1 v5>>=fun x4 =>
  if x4 then
   some (.inr ())
  else
   Qcz p0 p1 (wr (v5+1))
 else
  some (.inl ())
 partial_fixpoint
theorem Qpq:∀ (p0:(List UInt8)) (p1:(List UInt8)),(∀ (v5:Int) (o1:Unit⊕Unit),Qcz p0 p1 v5=some o1→TL (0,0) Tryd.prog 16 Ql7 (JP2 (0,0) 16 o1 (.exit 0) (Qh2 p0 p1) .ret (Qh3 p0 p1)) (Qfa p0 p1 v5)):=by
 intro p0 p1
 refine Qcz.partial_correctness p0 p1 _ ?_
 intro Qcz' iQcz v5 o1 h
 refine TL.round (Qak mixed tbOk (lv:=Qos) _ _ _ ?_)
 refine vrfl ?_
 refine Qaf h (fun hb h=>?_) (fun hb h=>?_)
 ·refine Qaj [sV p0,sV p1,iV v5] Qly h (fun x4 hy=>(Qv7 p0 p1 v5 x4 hy)) (fun x4 hy h=>?_)
  refine Qaf h (fun hb h=>?_) (fun hb h=>?_)
  ·exact JP2.b h (Le.tz 0 0 rfl rfl rfl)
  ·refine TL.le (τ := Qfa p0 p1 (wr (v5+1))) ?_ ((iQcz (wr (v5+1)) _ h))
   exact Le.tz 0 0 rfl rfl rfl
 ·exact JP2.a h (Le.tz 0 0 rfl rfl rfl)
theorem Qqj:∀ (p0:(List UInt8)) (p1:(List UInt8)) (v5:Int) (o1:Unit⊕Unit),Qcz p0 p1 v5=some o1→TL (0,0) Tryd.prog 16 Ql7 (JP2 (0,0) 16 o1 (.exit 0) (Qh2 p0 p1) .ret (Qh3 p0 p1)) (Qfa p0 p1 v5):=fun p0 p1 v5=>(Qpq p0 p1) v5
noncomputable def Qkh (p0:(List UInt8)) (p1:(List UInt8)):Option (Bool) :=
 (Qcz p0 p1 0)>>=fun o1 =>
 match o1 with
 | .inl y2 =>
  some false
 | .inr y3 =>
  some true
theorem Qwa:∀ (p0:(List UInt8)) (p1:(List UInt8)) (o:Bool),Qkh p0 p1=some o→PCall Tryd.prog 133 [sV p0,sV p1] (Qji o):=by
 intro p0 p1 o h
 unfold Qkh at h
 refine PCall.ofB mixed tbOk Qos Tryd.func133 rfl (by kernel_rfl) (Nat.le_of_ble_eq_true rfl) ?_
 refine Qag h (fun o1 ho hk=>?_)
 refine Exists.intro (JP2 _ _ o1 (.exit 0) (Qh2 p0 p1) .ret (Qh3 p0 p1)) (And.intro (T_le (τ := Qfa p0 p1 0) ?_ (TL.loop (Qqj p0 p1 0 o1 ho))) (join2 (fun y2 hy=>?_) (fun y3 hy=>?_)))
 ·exact Le.tz 0 0 rfl rfl rfl
 ·have h:=(by rw[hy] at hk; exact hk)
  refine Qal (t:=Qji) h ?_
  exact .refl _
 ·have h:=(by rw[hy] at hk; exact hk)
  refine Qal (t:=Qji) h ?_
  exact .refl _
mutual
noncomputable def Qgk (p0:(List Qaa)) (p1:Bool):Option (Bool) :=
 (Qeq p0 p1 0)>>=fun o1 =>
 match o1 with
 | .inl y2 =>
  some true
 | .inr y3 =>
  some false
 partial_fixpoint
noncomputable def Qeq (p0:(List Qaa)) (p1:Bool) (v5:Int):Option (Unit⊕Unit) :=
 if(decide (v5<(p0.length:Int))) then
  idx p0 v5>>=fun x4 =>
  Qoy x4>>=fun x5 =>
  if(!x5) then
   some (.inr ())
  else
   idx p0 v5>>=fun x6 =>
   if(x6.Kind != 8) then
    Qeq p0 p1 (wr (v5+1))
   else
    idx p0 v5>>=fun x7 =>
    ( if(!(v5==(wr ((p0.length:Int)-1)))) then
      idx p0 (wr (v5+1))>>=fun x9 =>
      if(x9.Kind==8) then
       some true
      else
       if(!(v5==(wr ((p0.length:Int)-1)))) then
        idx x7.Text (wr ((x7.Text.length:Int)-1))>>=fun x10 =>
        some ((x10.toNat:Int)==123)
       else
        if p1 then
         idx x7.Text (wr ((x7.Text.length:Int)-1))>>=fun x11 =>
         some ((x11.toNat:Int)==123)
        else
         some false
     else
      if(!(v5==(wr ((p0.length:Int)-1)))) then
       idx x7.Text (wr ((x7.Text.length:Int)-1))>>=fun x12 =>
       some ((x12.toNat:Int)==123)
      else
       if p1 then
        idx x7.Text (wr ((x7.Text.length:Int)-1))>>=fun x13 =>
        some ((x13.toNat:Int)==123)
       else
        some false:Option (Bool))>>=fun o8 =>
    if o8 then
     some (.inr ())
    else
     Qeq p0 p1 (wr (v5+1))
 else
  some (.inl ())
 partial_fixpoint
noncomputable def Qoy (p0:Qaa):Option (Bool) :=
 ( if((p0.L.length:Int)==1) then
   Qi6 p0.L>>=fun x2 =>
   some x2
  else
   some false:Option (Bool))>>=fun o1 =>
 if(p0.Kind==8) then
  ( if(!(p0.Text==[])) then
    Qkh p0.Text [123,123]>>=fun x4 =>
    if(!x4) then
     Qcy p0 false true false false false>>=fun x5 =>
     some x5
    else
     some false
   else
    some false:Option (Bool))>>=fun o3 =>
  some o3
 else
  if(p0.Kind==9) then
   ( if o1 then
     Qcy p0 false false false true false>>=fun x7 =>
     some x7
    else
     some false:Option (Bool))>>=fun o6 =>
   some o6
  else
   if(p0.Kind==10) then
    ( if o1 then
      Qgk p0.Then true>>=fun x9 =>
      if x9 then
       Qgk p0.Else true>>=fun x10 =>
       if x10 then
        Qcy p0 false false false true true>>=fun x11 =>
        some x11
       else
        some false
      else
       some false
     else
      some false:Option (Bool))>>=fun o8 =>
    some o8
   else
    ( if(p0.Kind==11) then
      some (p0.Kind==11)
     else
      some (p0.Kind==12):Option (Bool))>>=fun o12 =>
    if o12 then
     ( Qjk p0.Name>>=fun x14 =>
      if x14 then
       if o1 then
        Qgk p0.Then true>>=fun x15 =>
        if x15 then
         Qcy p0 true false false true true>>=fun x16 =>
         some x16
        else
         some false
       else
        some false
      else
       some false:Option (Bool))>>=fun o13 =>
     some o13
    else
     if(p0.Kind==13) then
      ( Qjk p0.Name>>=fun x18 =>
       if x18 then
        if o1 then
         Qcy p0 true false false true false>>=fun x19 =>
         some x19
        else
         some false
       else
        some false:Option (Bool))>>=fun o17 =>
      some o17
     else
      some false
 partial_fixpoint
end
theorem Qwb:(∀ (p0:(List Qaa)) (p1:Bool) (o:Bool),Qgk p0 p1=some o→PCall Tryd.prog 72 [.sl false (p0.map Qac),bV p1] (Qek o))∧(∀ (p0:(List Qaa)) (p1:Bool) (v5:Int) (o1:Unit⊕Unit),Qeq p0 p1 v5=some o1→TL (0,0) Tryd.prog 62 Qs8 (JP2 (0,0) 62 o1 (.exit 0) (Ql3 p0 p1) .ret (Ql4 p0 p1)) (Qf5 p0 p1 v5))∧(∀ (p0:Qaa) (o:Bool),Qoy p0=some o→PCall Tryd.prog 103 [.agg [iV p0.Kind,sV p0.Name,sV p0.Text,iV p0.N,.sl false (p0.L.map Qac),.sl false (p0.Then.map Qac),.sl false (p0.Else.map Qac)]] (Qfv o)):=by
 refine Qgk.mutual_partial_correctness _ _ _ ?_ ?_ ?_
 ·intro Qeq' iQeq p0 p1 o h
  refine PCall.ofB mixed tbOk Qp6 Tryd.func72 rfl (by kernel_rfl) (Nat.le_of_ble_eq_true rfl) ?_
  refine Qag h (fun o1 ho hk=>?_)
  refine Exists.intro (JP2 _ _ o1 (.exit 0) (Ql3 p0 p1) .ret (Ql4 p0 p1)) (And.intro (T_le (τ := Qf5 p0 p1 0) ?_ (TL.loop (iQeq p0 p1 0 o1 ho))) (join2 (fun y2 hy=>?_) (fun y3 hy=>?_)))
  ·exact Le.tz 0 0 rfl rfl rfl
  ·have h:=(by rw[hy] at hk; exact hk)
   refine Qal (t:=Qek) h ?_
   exact .refl _
  ·have h:=(by rw[hy] at hk; exact hk)
   refine Qal (t:=Qek) h ?_
   exact .refl _
 ·intro Qeq' Qoy' iQeq iQoy p0 p1 v5 o1 h
  refine TL.round (Qak mixed tbOk (lv:=Qp6) _ _ _ ?_)
  refine view (lenMap _ _) rfl ?_
  refine Qaf h (fun hb h=>?_) (fun hb h=>?_)
  ·refine Qcl (l:=p0) (c:=Qac) (c' := Qat) h Qah (fun _=>rfl) (by decide) (fun x4 hi h=>?_)
   refine Qaj [.agg [iV x4.Kind,sV x4.Name,sV x4.Text,iV x4.N,.sl false (x4.L.map Qac),.sl false (x4.Then.map Qac),.sl false (x4.Else.map Qac)]] Qfv h (fun x5 hy=>(iQoy x4 x5 hy)) (fun x5 hy h=>?_)
   refine Qaf h (fun hb h=>?_) (fun hb h=>?_)
   ·exact JP2.b h (Le.tz 0 0 rfl rfl rfl)
   ·refine Qcl (l:=p0) (c:=Qac) (c' := Qat) h Qah (fun _=>rfl) (by decide) (fun x6 hi h=>?_)
    refine Qaf h (fun hb h=>?_) (fun hb h=>?_)
    ·refine TL.le (τ := Qf5 p0 p1 (wr (v5+1))) ?_ ((iQeq p0 p1 (wr (v5+1)) _ h))
     exact Le.tz 0 0 rfl rfl rfl
    ·refine Qcl (l:=p0) (c:=Qac) (c' := Qat) h Qah (fun _=>rfl) (by decide) (fun x7 hi h=>?_)
     refine view (lenMap _ _) rfl ?_
     refine Qag h (fun o8 ho hk=>?_)
     refine Exists.intro (JP1 _ _ o8 .normal (Qs7 p0 p1 v5)) (And.intro ?_ (join1 ?_))
     ·have h:=ho
      refine Qaf h (fun hb h=>?_) (fun hb h=>?_)
      ·refine Qcl (l:=p0) (c:=Qac) (c' := Qat) h Qah (fun _=>rfl) (by decide) (fun x9 hi h=>?_)
       refine Qaf h (fun hb h=>?_) (fun hb h=>?_)
       ·refine JP1.a h ?_
        exact Le.tz 0 0 rfl rfl rfl
       ·refine Qaf h (fun hb h=>?_) (fun hb h=>?_)
        ·refine bT ?_
         refine vrfl ?_
         refine Qc7 h (fun x10 hi h=>?_)
         refine JP1.a h ?_
         exact Le.tz 0 0 rfl rfl rfl
        ·refine Qaf h (fun hb h=>?_) (fun hb h=>?_)
         ·refine vrfl ?_
          refine Qc7 h (fun x11 hi h=>?_)
          refine JP1.a h ?_
          exact Le.tz 0 0 rfl rfl rfl
         ·refine JP1.a h ?_
          exact Le.tz 0 0 rfl rfl rfl
      ·refine bF ?_
       refine Qaf h (fun hb h=>?_) (fun hb h=>?_)
       ·refine bT ?_
        refine vrfl ?_
        refine Qc7 h (fun x12 hi h=>?_)
        refine JP1.a h ?_
        exact Le.tz 0 0 rfl rfl rfl
       ·refine Qaf h (fun hb h=>?_) (fun hb h=>?_)
        ·refine vrfl ?_
         refine Qc7 h (fun x13 hi h=>?_)
         refine JP1.a h ?_
         exact Le.tz 0 0 rfl rfl rfl
        ·refine JP1.a h ?_
         exact Le.tz 0 0 rfl rfl rfl
     ·have h:=hk
      refine Qaf h (fun hb h=>?_) (fun hb h=>?_)
      ·exact JP2.b h (Le.tz 0 0 rfl rfl rfl)
      ·refine TL.le (τ := Qf5 p0 p1 (wr (v5+1))) ?_ ((iQeq p0 p1 (wr (v5+1)) _ h))
       exact Le.tz 0 0 rfl rfl rfl
  ·exact JP2.a h (Le.tz 0 0 rfl rfl rfl)
 ·intro Qgk' iQgk p0 o h
  refine PCall.ofB mixed tbOk Qz5 Tryd.func103 rfl (by kernel_rfl) (Nat.le_of_ble_eq_true rfl) ?_
  refine Qag h (fun o1 ho hk=>?_)
  refine Exists.intro (JP1 _ _ o1 .normal (Qvq p0)) (And.intro ?_ (join1 ?_))
  ·have h:=ho
   refine view (lenMap _ _) rfl ?_
   refine Qaf h (fun hb h=>?_) (fun hb h=>?_)
   ·refine Qaj [.sl false (p0.L.map Qac)] Qfi h (fun x2 hy=>(Qyb p0.L x2 hy)) (fun x2 hy h=>?_)
    refine JP1.a h ?_
    exact Le.tz 1 0 rfl rfl rfl
   ·refine JP1.a h ?_
    exact Le.tz 1 0 rfl rfl rfl
  ·have h:=hk
   refine Qaf h (fun hb h=>?_) (fun hb h=>?_)
   ·refine Qag h (fun o3 ho hk=>?_)
    refine Exists.intro (JP1 _ _ o3 .normal (Qvr p0)) (And.intro ?_ (join1 ?_))
    ·have h:=ho
     refine Qaf h (fun hb h=>?_) (fun hb h=>?_)
     ·refine Qaj [sV p0.Text,sV [123,123]] Qji h (fun x4 hy=>(Qwa p0.Text [123,123] x4 hy)) (fun x4 hy h=>?_)
      refine Qaf h (fun hb h=>?_) (fun hb h=>?_)
      ·refine Qaj [.agg [iV p0.Kind,sV p0.Name,sV p0.Text,iV p0.N,.sl false (p0.L.map Qac),.sl false (p0.Then.map Qac),.sl false (p0.Else.map Qac)],bV false,bV true,bV false,bV false,bV false] Qb9 h (fun x5 hy=>(Qcb p0 false true false false false x5 hy)) (fun x5 hy h=>?_)
       refine JP1.a h ?_
       exact Le.tz 1 0 rfl rfl rfl
      ·refine JP1.a h ?_
       exact Le.tz 1 0 rfl rfl rfl
     ·refine bF ?_
      refine JP1.a h ?_
      exact Le.tz 1 0 rfl rfl rfl
    ·have h:=hk
     refine Qal (t:=Qfv) h ?_
     exact .refl _
   ·refine Qaf h (fun hb h=>?_) (fun hb h=>?_)
    ·refine Qag h (fun o6 ho hk=>?_)
     refine Exists.intro (JP1 _ _ o6 .normal (Qvs p0)) (And.intro ?_ (join1 ?_))
     ·have h:=ho
      refine Qaf h (fun hb h=>?_) (fun hb h=>?_)
      ·refine Qaj [.agg [iV p0.Kind,sV p0.Name,sV p0.Text,iV p0.N,.sl false (p0.L.map Qac),.sl false (p0.Then.map Qac),.sl false (p0.Else.map Qac)],bV false,bV false,bV false,bV true,bV false] Qb9 h (fun x7 hy=>(Qcb p0 false false false true false x7 hy)) (fun x7 hy h=>?_)
       refine JP1.a h ?_
       exact Le.tz 1 0 rfl rfl rfl
      ·refine JP1.a h ?_
       exact Le.tz 1 0 rfl rfl rfl
     ·have h:=hk
      refine Qal (t:=Qfv) h ?_
      exact .refl _
    ·refine Qaf h (fun hb h=>?_) (fun hb h=>?_)
     ·refine Qag h (fun o8 ho hk=>?_)
      refine Exists.intro (JP1 _ _ o8 .normal (Qvt p0)) (And.intro ?_ (join1 ?_))
      ·have h:=ho
       refine Qaf h (fun hb h=>?_) (fun hb h=>?_)
       ·refine Qaj [.sl false (p0.Then.map Qac),bV true] Qek h (fun x9 hy=>(iQgk p0.Then true x9 hy)) (fun x9 hy h=>?_)
        refine Qaf h (fun hb h=>?_) (fun hb h=>?_)
        ·refine Qaj [.sl false (p0.Else.map Qac),bV true] Qek h (fun x10 hy=>(iQgk p0.Else true x10 hy)) (fun x10 hy h=>?_)
         refine Qaf h (fun hb h=>?_) (fun hb h=>?_)
         ·refine Qaj [.agg [iV p0.Kind,sV p0.Name,sV p0.Text,iV p0.N,.sl false (p0.L.map Qac),.sl false (p0.Then.map Qac),.sl false (p0.Else.map Qac)],bV false,bV false,bV false,bV true,bV true] Qb9 h (fun x11 hy=>(Qcb p0 false false false true true x11 hy)) (fun x11 hy h=>?_)
          refine JP1.a h ?_
          exact Le.tz 1 0 rfl rfl rfl
         ·refine JP1.a h ?_
          exact Le.tz 1 0 rfl rfl rfl
        ·refine bF ?_
         refine JP1.a h ?_
         exact Le.tz 1 0 rfl rfl rfl
       ·refine bF ?_
        refine bF ?_
        refine JP1.a h ?_
        exact Le.tz 1 0 rfl rfl rfl
      ·have h:=hk
       refine Qal (t:=Qfv) h ?_
       exact .refl _
     ·refine Qag h (fun o12 ho hk=>?_)
      refine Exists.intro (JP1 _ _ o12 .normal (Qvu p0 o1)) (And.intro ?_ (join1 ?_))
      ·have h:=ho
       refine Qaf h (fun hb h=>?_) (fun hb h=>?_)
       ·refine JP1.a h ?_
        exact Le.tz 1 0 rfl rfl rfl
       ·refine JP1.a h ?_
        exact Le.tz 1 0 rfl rfl rfl
      ·have h:=hk
       refine Qaf h (fun hb h=>?_) (fun hb h=>?_)
       ·refine Qag h (fun o13 ho hk=>?_)
        refine Exists.intro (JP1 _ _ o13 .normal (Qvv p0)) (And.intro ?_ (join1 ?_))
        ·have h:=ho
         refine Qaj [sV p0.Name] Qg3 h (fun x14 hy=>(Qk6 p0.Name x14 hy)) (fun x14 hy h=>?_)
         refine Qaf h (fun hb h=>?_) (fun hb h=>?_)
         ·refine Qaf h (fun hb h=>?_) (fun hb h=>?_)
          ·refine Qaj [.sl false (p0.Then.map Qac),bV true] Qek h (fun x15 hy=>(iQgk p0.Then true x15 hy)) (fun x15 hy h=>?_)
           refine Qaf h (fun hb h=>?_) (fun hb h=>?_)
           ·refine Qaj [.agg [iV p0.Kind,sV p0.Name,sV p0.Text,iV p0.N,.sl false (p0.L.map Qac),.sl false (p0.Then.map Qac),.sl false (p0.Else.map Qac)],bV true,bV false,bV false,bV true,bV true] Qb9 h (fun x16 hy=>(Qcb p0 true false false true true x16 hy)) (fun x16 hy h=>?_)
            refine JP1.a h ?_
            exact Le.tz 1 0 rfl rfl rfl
           ·refine JP1.a h ?_
            exact Le.tz 1 0 rfl rfl rfl
          ·refine bF ?_
           refine JP1.a h ?_
           exact Le.tz 1 0 rfl rfl rfl
         ·refine bF ?_
          refine bF ?_
          refine JP1.a h ?_
          exact Le.tz 1 0 rfl rfl rfl
        ·have h:=hk
         refine Qal (t:=Qfv) h ?_
         exact .refl _
       ·refine Qaf h (fun hb h=>?_) (fun hb h=>?_)
        ·refine Qag h (fun o17 ho hk=>?_)
         refine Exists.intro (JP1 _ _ o17 .normal (Qvw p0)) (And.intro ?_ (join1 ?_))
         ·have h:=ho
          refine Qaj [sV p0.Name] Qg3 h (fun x18 hy=>(Qk6 p0.Name x18 hy)) (fun x18 hy h=>?_)
          refine Qaf h (fun hb h=>?_) (fun hb h=>?_)
          ·refine Qaf h (fun hb h=>?_) (fun hb h=>?_)
           ·refine Qaj [.agg [iV p0.Kind,sV p0.Name,sV p0.Text,iV p0.N,.sl false (p0.L.map Qac),.sl false (p0.Then.map Qac),.sl false (p0.Else.map Qac)],bV true,bV false,bV false,bV true,bV false] Qb9 h (fun x19 hy=>(Qcb p0 true false false true false x19 hy)) (fun x19 hy h=>?_)
            refine JP1.a h ?_
            exact Le.tz 1 0 rfl rfl rfl
           ·refine JP1.a h ?_
            exact Le.tz 1 0 rfl rfl rfl
          ·refine bF ?_
           refine JP1.a h ?_
           exact Le.tz 1 0 rfl rfl rfl
         ·have h:=hk
          refine Qal (t:=Qfv) h ?_
          exact .refl _
        ·refine Qal (t:=Qfv) h ?_
         exact .refl _
theorem Qyc:∀ (p0:(List Qaa)) (p1:Bool) (o:Bool),Qgk p0 p1=some o→PCall Tryd.prog 72 [.sl false (p0.map Qac),bV p1] (Qek o):=fun p0 p1=>Qwb.1 p0 p1
noncomputable def Qyd (p0:(List Qaa)):Option (Bool) :=
 ( Qgk p0 false>>=fun x2 =>
  if x2 then
   Qgj p0>>=fun x3 =>
   if(decide (x3≤12)) then
    Qeo p0>>=fun x4 =>
    some (decide (x4≤1024))
   else
    some false
  else
   some false:Option (Bool))>>=fun o1 =>
 some o1
theorem Q4a:∀ (p0:(List Qaa)) (o:Bool),Qyd p0=some o→PCall Tryd.prog 45 [.sl false (p0.map Qac)] (Qvf o):=by
 intro p0 o h
 unfold Qyd at h
 refine PCall.ofB mixed tbOk Q37 Tryd.func45 rfl (by kernel_rfl) (Nat.le_of_ble_eq_true rfl) ?_
 refine Qag h (fun o1 ho hk=>?_)
 refine Exists.intro (JP1 _ _ o1 .normal (Qz2 )) (And.intro ?_ (join1 ?_))
 ·have h:=ho
  refine Qaj [.sl false (p0.map Qac),bV false] Qek h (fun x2 hy=>(Qyc p0 false x2 hy)) (fun x2 hy h=>?_)
  refine Qaf h (fun hb h=>?_) (fun hb h=>?_)
  ·refine Qaj [.sl false (p0.map Qac)] Qg2 h (fun x3 hy=>(Q0c p0 x3 hy)) (fun x3 hy h=>?_)
   refine Qaf h (fun hb h=>?_) (fun hb h=>?_)
   ·refine Qaj [.sl false (p0.map Qac)] Qfh h (fun x4 hy=>(Qx6 p0 x4 hy)) (fun x4 hy h=>?_)
    refine JP1.a h ?_
    exact Le.tz 0 0 rfl rfl rfl
   ·refine JP1.a h ?_
    exact Le.tz 0 0 rfl rfl rfl
  ·refine bF ?_
   refine JP1.a h ?_
   exact Le.tz 0 0 rfl rfl rfl
 ·have h:=hk
  refine Qal (t:=Qvf) h ?_
  exact .refl _
end Go.Proofs.YtagokkpnfceidaaDoor
end
