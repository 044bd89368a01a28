/- Part 12 of 13. -/
import Derived.Test.YtfgegilhjlnohaaGreatMgInferChecks11

noncomputable section
set_option linter.unusedVariables false
set_option linter.unusedSimpArgs false
set_option maxRecDepth 100000
set_option maxHeartbeats 4000000
namespace Go.Proofs.YtfgegilhjlnohaaGreat
open Go.RowKit
structure Qap where
 name_:(List UInt8)
 it_:Int
def Qa5 (x:Qap):List V:=[sV x.name_,iV x.it_]
structure Qa8 where
 of_:Int
 name_:(List UInt8)
 is_:Int
def Qli (x:Qa8):List V:=[iV x.of_,sV x.name_,iV x.is_]
structure Qba where
 Name:(List UInt8)
 In:(List Int)
 Gives:Int
def Qd9 (x:Qba):List V:=[sV x.Name,.sl false (x.In.map cInt),iV x.Gives]
def Qug (y:Int×Bool):D :=.tup [.p (iV y.1),.p (bV y.2)]
def Qwu:List (Nat×List Nat):=[(0,[0,1]),(1,[0,1,6]),(2,[0,1,6,7]),(3,[0,1,6,7,14]),(4,[0,1,6,7]),(5,[0,1,6,7,8]),(6,[0,1,6,7,8,9]),(7,[0,1,6,7,8,9,41]),(8,[0,1,6,7,8,9]),(9,[0,1,6,7,8,9]),(10,[0,1,6,7,57]),(11,[4,5]),(12,[4,5]),(1000003,[0,1,6,7]),(1000007,[0,1,6,7,8,9]),(3000005,[]),(3000007,[])]
def Qaad (p0:(List UInt8)) (p1:(List Int)) (x1:(List Qba)) (v7:Int) (o5:Bool):St:=⟨[(0,.p (sV p0)),(1,.p (.sl false (p1.map cInt))),(6,.p (.sl false (x1.map Qd9))),(7,.p (iV v7)),(8,.p (bV o5))],⟨[],[]⟩⟩
def Qaae (p0:(List UInt8)) (p1:(List Int)) (x1:(List Qba)) (v7:Int) (v8:Bool) (v9:Int) (o9:Bool):St:=⟨[(0,.p (sV p0)),(1,.p (.sl false (p1.map cInt))),(6,.p (.sl false (x1.map Qd9))),(7,.p (iV v7)),(8,.p (bV v8)),(9,.p (iV v9)),(41,.p (bV o9))],⟨[],[]⟩⟩
def Qo0 (p0:(List UInt8)) (p1:(List Int)) (x1:(List Qba)) (v7:Int) (v8:Bool) (v9:Int):St:=⟨[(0,.p (sV p0)),(1,.p (.sl false (p1.map cInt))),(6,.p (.sl false (x1.map Qd9))),(7,.p (iV v7)),(8,.p (bV v8)),(9,.p (iV v9))],⟨[],[]⟩⟩
def Qvx (p0:(List UInt8)) (p1:(List Int)) (x1:(List Qba)) (v7:Int) (o8:Bool):St:=⟨[(0,.p (sV p0)),(1,.p (.sl false (p1.map cInt))),(6,.p (.sl false (x1.map Qd9))),(7,.p (iV v7)),(8,.p (bV o8))],⟨[],[]⟩⟩
def Qaaf:Code:=((Qav (Tryz.f122.body.getD .skip)).getD 1 .skip)
def Qo1 (p0:(List UInt8)) (p1:(List Int)) (x1:(List Qba)) (v7:Int):St:=⟨[(0,.p (sV p0)),(1,.p (.sl false (p1.map cInt))),(6,.p (.sl false (x1.map Qd9))),(7,.p (iV v7))],⟨[],[]⟩⟩
def Qvy (p0:(List UInt8)) (p1:(List Int)) (x1:(List Qba)) (y3:Unit):St:=⟨[],⟨[],[]⟩⟩
def Qvz (p0:(List UInt8)) (p1:(List Int)) (x1:(List Qba)) (y4:Int):St:=⟨[(4,.p (iV y4)),(5,.p (bV true))],⟨[],[]⟩⟩
def Qaag:Code:=((Qav (Tryz.f122.body.getD .skip)).getD 0 .skip)
def Qmn (y:Int×Bool):D :=.tup [.p (iV y.1),.p (bV y.2)]
def Qagn:List (Nat×List Nat):=[(0,[0]),(1,[0,5]),(2,[2,3]),(3,[0,7]),(4,[2,3]),(5,[9]),(6,[2,3]),(7,[2,3])]
def Qqt (y:Int×Bool):D :=.tup [.p (iV y.1),.p (bV y.2)]
def Qzx:List (Nat×List Nat):=[(0,[0,1]),(1,[1,6,7]),(2,[1,6,7,8]),(3,[1,6,7,8,17]),(4,[1,6,7,8]),(5,[1,6,7,8,25]),(6,[4,5]),(7,[4,5]),(1000003,[1,6,7,8])]
def Qnm (p1:(List UInt8)) (x1:(List (List UInt8))×(List Int)) (v8:Int):St:=⟨[(1,.p (sV p1)),(6,.p (.sl false (x1.1.map cStr))),(7,.p (.sl false (x1.2.map cInt))),(8,.p (iV v8))],⟨[],[]⟩⟩
def Qtm (p1:(List UInt8)) (x1:(List (List UInt8))×(List Int)) (y3:Unit):St:=⟨[],⟨[],[]⟩⟩
def Qtn (p1:(List UInt8)) (x1:(List (List UInt8))×(List Int)) (y4:Int):St:=⟨[(4,.p (iV y4)),(5,.p (bV true))],⟨[],[]⟩⟩
def Q5o:Code:=((Qav (Tryz.f123.body.getD .skip)).getD 0 .skip)
def Quh (y:(List UInt8)):D :=.p (sV y)
def Qago:List (Nat×List Nat):=[(0,[0]),(1,[0,8]),(2,[2]),(3,[2]),(3000001,[])]
def Qaah (p0:Int) (o1:Bool):St:=⟨[(0,.p (iV p0)),(8,.p (bV o1))],⟨[],[]⟩⟩
def Qwv (y:Bool):D :=.p (bV y)
def Qaea:List (Nat×List Nat):=[(0,[0]),(1,[2]),(3000001,[])]
def Q5p  (o1:Bool):St:=⟨[(2,.p (bV o1))],⟨[],[]⟩⟩
def Qy3 (y:(List Qba)):D :=.p (.sl false (y.map Qd9))
def Qagp:List (Nat×List Nat):=[(0,[]),(1,[1,2,3]),(2,[0])]
def Qiz (y:(List (List UInt8))×(List Int)):D :=.tup [.p (.sl false (y.1.map cStr)),.p (.sl false (y.2.map cInt))]
def Qaai:List (Nat×List Nat):=[(0,[0]),(1,[0,5]),(2,[2,3]),(3,[0,9]),(4,[2,3]),(5,[13]),(6,[2,3]),(7,[2,3])]
def Qww (y:(List (List UInt8))):D :=.p (.sl false (y.map cStr))
def Qaeb:List (Nat×List Nat):=[(0,[]),(1,[0])]
def Qgx (y:(List UInt8)×Bool):D :=.tup [.p (sV y.1),.p (bV y.2)]
def Qzy:List (Nat×List Nat):=[(0,[0,1,2,3,4]),(1,[0,1,2,3,4,12]),(2,[0,1,2,3,4,12,30]),(3,[0,1,2,3,4,12]),(4,[0,1,2,3,4,12,13]),(5,[0,1,2,3,4,12,13,39]),(6,[0,1,2,3,4,12,13,14,15]),(7,[0,1,2,3,4,12,13,14,15,16,17]),(8,[0,1,2,3,4,12,13,14,16,84]),(9,[10,11]),(10,[0,1,2,3,4,12,13,14,16,18]),(11,[0,1,2,3,4,12,13,14,16,18,91]),(12,[0,1,2,3,4,12,13,14,18]),(13,[0,1,2,3,4,12,13,14,18,101]),(14,[0,1,2,3,4,12,13,14,18]),(15,[0,1,2,3,4,12,13,14,19,20]),(16,[0,1,2,3,4,12,13,14,19,120]),(17,[10,11]),(18,[0,1,2,3,4,12,13,14,21,22]),(19,[0,1,2,3,4,12,13,14,21,133]),(20,[10,11]),(21,[0,1,2,3,4,12,13,14,137]),(22,[0,1,2,3,4,12,13,14,23]),(23,[0,1,2,3,4,12,25,26]),(24,[0,1,2,3,4,12,25,159]),(25,[10,11]),(26,[10,11]),(1000002,[0,1,2,3,4,12]),(2011005,[]),(2013005,[]),(3000008,[])]
def Q5q (p0:(List Qae)) (p1:(List UInt8)) (p2:(List Qab)) (p3:(List Qaj)) (p4:(List (List UInt8))) (v12:Int) (x4:Qab) (x6:Int×Bool) (x7:Int×Bool) (o8:Bool):St:=⟨[(0,.p (.sl false (p0.map Qaf))),(1,.p (sV p1)),(2,.p (.sl false (p2.map Qaa))),(3,.p (.sl false (p3.map Qat))),(4,.p (.sl false (p4.map cStr))),(12,.p (iV v12)),(13,.ptr 0 0),(14,.p (iV x6.1)),(16,.p (iV x7.1)),(84,.p (bV o8))],⟨[[.p (iV x4.Kind),.p (sV x4.Name),.p (sV x4.Text),.p (iV x4.N),.p (.sl false (x4.L.map Qaa)),.p (.sl false (x4.Then.map Qaa)),.p (.sl false (x4.Else.map Qaa))]],[]⟩⟩
def Q5r (p0:(List Qae)) (p1:(List UInt8)) (p2:(List Qab)) (p3:(List Qaj)) (p4:(List (List UInt8))) (v12:Int) (x4:Qab) (x6:Int×Bool) (o11:(List Qaj)):St:=⟨[(0,.p (.sl false (p0.map Qaf))),(1,.p (sV p1)),(2,.p (.sl false (p2.map Qaa))),(3,.p (.sl false (p3.map Qat))),(4,.p (.sl false (p4.map cStr))),(12,.p (iV v12)),(13,.ptr 0 0),(14,.p (iV x6.1)),(18,.own 0 46 3 (o11.map Qat))],⟨[[.p (iV x4.Kind),.p (sV x4.Name),.p (sV x4.Text),.p (iV x4.N),.p (.sl false (x4.L.map Qaa)),.p (.sl false (x4.Then.map Qaa)),.p (.sl false (x4.Else.map Qaa))]],[(o11.map Qat).length]⟩⟩
def Q5s (p0:(List Qae)) (p1:(List UInt8)) (p2:(List Qab)) (p3:(List Qaj)) (p4:(List (List UInt8))) (v12:Int) (x4:Qab) (x6:Int×Bool) (o13:(List Qaj)):St:=⟨[(0,.p (.sl false (p0.map Qaf))),(1,.p (sV p1)),(2,.p (.sl false (p2.map Qaa))),(3,.p (.sl false (p3.map Qat))),(4,.p (.sl false (p4.map cStr))),(12,.p (iV v12)),(13,.ptr 0 0),(14,.p (iV x6.1)),(18,.own 0 46 3 (o13.map Qat))],⟨[[.p (iV x4.Kind),.p (sV x4.Name),.p (sV x4.Text),.p (iV x4.N),.p (.sl false (x4.L.map Qaa)),.p (.sl false (x4.Then.map Qaa)),.p (.sl false (x4.Else.map Qaa))]],[(o13.map Qat).length]⟩⟩
def Qgy (p0:(List Qae)) (p1:(List UInt8)) (p2:(List Qab)) (p3:(List Qaj)) (p4:(List (List UInt8))) (v12:Int):St:=⟨[(0,.p (.sl false (p0.map Qaf))),(1,.p (sV p1)),(2,.p (.sl false (p2.map Qaa))),(3,.p (.sl false (p3.map Qat))),(4,.p (.sl false (p4.map cStr))),(12,.p (iV v12))],⟨[],[]⟩⟩
def Qto (p0:(List Qae)) (p1:(List UInt8)) (p2:(List Qab)) (p3:(List Qaj)) (p4:(List (List UInt8))) (y2:Unit):St:=⟨[],⟨[],[]⟩⟩
def Qtp (p0:(List Qae)) (p1:(List UInt8)) (p2:(List Qab)) (p3:(List Qaj)) (p4:(List (List UInt8))) (y3:(List UInt8)):St:=⟨[(10,.p (sV y3)),(11,.p (bV false))],⟨[],[]⟩⟩
def Q5t:Code:=((Qav (Tryz.f68.body.getD .skip)).getD 0 .skip)
def Qkv (y:(List UInt8)×Int):D :=.tup [.p (sV y.1),.p (iV y.2)]
def Qaec:List (Nat×List Nat):=[(0,[0,1,2]),(1,[0,1,2,8,9]),(2,[0,1,2,8,9,18]),(3,[6,7]),(4,[0,1,2,10,11]),(5,[0,1,2,10,28]),(6,[6,7]),(7,[8,11]),(8,[8,40]),(9,[6,7]),(10,[6,7])]
def Qc7 (y:Int×Bool):D :=.tup [.p (iV y.1),.p (bV y.2)]
def Q3q:List (Nat×List Nat):=[(0,[1,2,3]),(1,[1,2,3,13]),(2,[1,2,3,13,14]),(3,[6,7]),(4,[1,2,3,13,16]),(5,[6,7]),(6,[1,2,3,13,18]),(7,[6,7]),(8,[1,2,3,13,20]),(9,[6,7]),(10,[1,2,3,13,28]),(11,[33]),(12,[6,7]),(13,[6,7]),(14,[1,2,3,13,34]),(15,[1,2,3,34]),(16,[1,2,3,8]),(17,[1,2,3,8,9]),(18,[1,2,3,8,9,42]),(19,[1,2,3,8,9]),(20,[1,2,3,8,9,10,11]),(21,[1,2,3,8,9,10,57]),(22,[6,7]),(23,[1,2,3,8,9]),(24,[3,8,64]),(25,[6,7]),(26,[3,8,73]),(27,[6,7]),(28,[6,7]),(1000018,[1,2,3,8,9]),(2014005,[])]
def Qaaj (p0:Qab) (p1:(List Qaj)) (p2:(List (List UInt8))) (o3:Bool):St:=⟨[(1,.p (.sl false (p1.map Qat))),(2,.p (.sl false (p2.map cStr))),(3,.ptr 0 0),(34,.p (bV o3))],⟨[[.p (iV p0.Kind),.p (sV p0.Name),.p (sV p0.Text),.p (iV p0.N),.p (.sl false (p0.L.map Qaa)),.p (.sl false (p0.Then.map Qaa)),.p (.sl false (p0.Else.map Qaa))]],[]⟩⟩
def Qo2 (p0:Qab) (p1:(List Qaj)) (p2:(List (List UInt8))) (v8:(List Int)) (v9:Int):St:=⟨[(1,.p (.sl false (p1.map Qat))),(2,.p (.sl false (p2.map cStr))),(3,.ptr 0 0),(8,.own 0 44 1 (v8.map cInt)),(9,.p (iV v9))],⟨[[.p (iV p0.Kind),.p (sV p0.Name),.p (sV p0.Text),.p (iV p0.N),.p (.sl false (p0.L.map Qaa)),.p (.sl false (p0.Then.map Qaa)),.p (.sl false (p0.Else.map Qaa))]],[(v8.map cInt).length]⟩⟩
def Qv0 (p0:Qab) (p1:(List Qaj)) (p2:(List (List UInt8))) (y5:(List Int)):St:=⟨[(3,.ptr 0 0),(8,.own 0 44 1 (y5.map cInt))],⟨[[.p (iV p0.Kind),.p (sV p0.Name),.p (sV p0.Text),.p (iV p0.N),.p (.sl false (p0.L.map Qaa)),.p (.sl false (p0.Then.map Qaa)),.p (.sl false (p0.Else.map Qaa))]],[(y5.map cInt).length]⟩⟩
def Qv1 (p0:Qab) (p1:(List Qaj)) (p2:(List (List UInt8))) (y6:Unit):St:=⟨[(6,.p (iV 0)),(7,.p (bV false))],⟨[[.p (iV p0.Kind),.p (sV p0.Name),.p (sV p0.Text),.p (iV p0.N),.p (.sl false (p0.L.map Qaa)),.p (.sl false (p0.Then.map Qaa)),.p (.sl false (p0.Else.map Qaa))]],[]⟩⟩
def Qaak:Code:=((Qav (Tryz.f92.body.getD .skip)).getD 0 .skip)
def Qqu (y:Int×Bool):D :=.tup [.p (iV y.1),.p (bV y.2)]
def Qzz:List (Nat×List Nat):=[(0,[0,1]),(1,[0,1,6]),(2,[0,1,6,11]),(3,[0,1,6]),(4,[0,1,6,20]),(5,[4,5]),(6,[4,5]),(1000002,[0,1,6])]
def Qnn (p0:(List Qaj)) (p1:(List UInt8)) (v6:Int):St:=⟨[(0,.p (.sl false (p0.map Qat))),(1,.p (sV p1)),(6,.p (iV v6))],⟨[],[]⟩⟩
def Qtq (p0:(List Qaj)) (p1:(List UInt8)) (y2:Unit):St:=⟨[],⟨[],[]⟩⟩
def Qtr (p0:(List Qaj)) (p1:(List UInt8)) (y3:Int×Bool):St:=⟨[(4,.p (iV y3.1)),(5,.p (bV y3.2))],⟨[],[]⟩⟩
def Q5u:Code:=((Qav (Tryz.f121.body.getD .skip)).getD 0 .skip)
def Qcp (y:(List UInt8)×Int):D :=.tup [.p (sV y.1),.p (iV y.2)]
def Q5v:List (Nat×List Nat):=[(0,[0,1,2,6,7]),(1,[0,1,2,6,7,8,9]),(2,[0,1,2,6,7,8,9,19]),(3,[6,7]),(4,[0,1,2,6,7,10,11]),(5,[0,1,2,6,7,10,29]),(6,[6,7]),(7,[0,1,2,6,7,10]),(8,[1,6,7,10,12]),(9,[6,7]),(10,[6,7]),(9000008,[2,1,0,0]),(9600009,[5]),(9700009,[6,7])]
def Qbr (y:Int×Bool):D :=.tup [.p (iV y.1),.p (bV y.2)]
def Qqv:List (Nat×List Nat):=[(0,[1,2,3]),(1,[1,2,3,16]),(2,[1,2,3,16,17]),(3,[6,7]),(4,[1,2,3,16,19]),(5,[6,7]),(6,[1,2,3,16,21]),(7,[6,7]),(8,[1,2,3,16,23]),(9,[1,3,8]),(10,[1,3,8,29]),(11,[1,3,8]),(12,[1,3,8,9]),(13,[1,3,8,9,40]),(14,[6,7]),(15,[1,2,3,16,47]),(16,[52]),(17,[6,7]),(18,[1,2,3,16,53]),(19,[1,2,3,53]),(20,[1,2,3,10]),(21,[1,2,3,10,57,58,59]),(22,[1,2,3,10,57,58,59,60]),(23,[1,2,3,10,12,57,58,59]),(24,[1,2,3,10,13,14,57,58,59]),(25,[1,2,3,10,13,57,58,59,71]),(26,[6,7]),(27,[1,2,3,10,57,58,59]),(28,[1,2,3,10,57,58,59]),(29,[3,10,79]),(30,[6,7]),(31,[3,10,88]),(32,[6,7]),(33,[6,7]),(1000010,[1,3,8]),(1000022,[1,2,3,10,57,58,59]),(2018005,[])]
def Ql1 (p0:Qab) (p1:(List Qaj)) (v8:Int):St:=⟨[(1,.p (.sl false (p1.map Qat))),(3,.ptr 0 0),(8,.p (iV v8))],⟨[[.p (iV p0.Kind),.p (sV p0.Name),.p (sV p0.Text),.p (iV p0.N),.p (.sl false (p0.L.map Qaa)),.p (.sl false (p0.Then.map Qaa)),.p (.sl false (p0.Else.map Qaa))]],[]⟩⟩
def Qrk (p0:Qab) (p1:(List Qaj)) (y2:Unit):St:=⟨[],⟨[[.p (iV p0.Kind),.p (sV p0.Name),.p (sV p0.Text),.p (iV p0.N),.p (.sl false (p0.L.map Qaa)),.p (.sl false (p0.Then.map Qaa)),.p (.sl false (p0.Else.map Qaa))]],[]⟩⟩
def Qrl (p0:Qab) (p1:(List Qaj)) (y3:Int×Bool):St:=⟨[(6,.p (iV y3.1)),(7,.p (bV y3.2))],⟨[[.p (iV p0.Kind),.p (sV p0.Name),.p (sV p0.Text),.p (iV p0.N),.p (.sl false (p0.L.map Qaa)),.p (.sl false (p0.Then.map Qaa)),.p (.sl false (p0.Else.map Qaa))]],[]⟩⟩
def Q3r:Code:=((Qav (Tryz.f87.body.getD .skip)).getD 0 .skip)
def Q3s (p0:Qab) (p1:(List Qaj)) (p2:(List (List UInt8))) (o7:Bool):St:=⟨[(1,.p (.sl false (p1.map Qat))),(2,.p (.sl false (p2.map cStr))),(3,.ptr 0 0),(53,.p (bV o7))],⟨[[.p (iV p0.Kind),.p (sV p0.Name),.p (sV p0.Text),.p (iV p0.N),.p (.sl false (p0.L.map Qaa)),.p (.sl false (p0.Then.map Qaa)),.p (.sl false (p0.Else.map Qaa))]],[]⟩⟩
def Ql2 (p0:Qab) (p1:(List Qaj)) (p2:(List (List UInt8))) (v10:(List Int)) (v59:Int):St:=⟨[(1,.p (.sl false (p1.map Qat))),(2,.p (.sl false (p2.map cStr))),(3,.ptr 0 0),(10,.own 0 44 1 (v10.map cInt)),(57,.p (.sl false (p0.L.map Qaa))),(58,.p (iV (p0.L.length:Int))),(59,.p (iV v59))],⟨[[.p (iV p0.Kind),.p (sV p0.Name),.p (sV p0.Text),.p (iV p0.N),.p (.sl false (p0.L.map Qaa)),.p (.sl false (p0.Then.map Qaa)),.p (.sl false (p0.Else.map Qaa))]],[(v10.map cInt).length]⟩⟩
def Qrm (p0:Qab) (p1:(List Qaj)) (p2:(List (List UInt8))) (y9:(List Int)):St:=⟨[(3,.ptr 0 0),(10,.own 0 44 1 (y9.map cInt))],⟨[[.p (iV p0.Kind),.p (sV p0.Name),.p (sV p0.Text),.p (iV p0.N),.p (.sl false (p0.L.map Qaa)),.p (.sl false (p0.Then.map Qaa)),.p (.sl false (p0.Else.map Qaa))]],[(y9.map cInt).length]⟩⟩
def Qrn (p0:Qab) (p1:(List Qaj)) (p2:(List (List UInt8))) (y10:Unit):St:=⟨[(6,.p (iV 0)),(7,.p (bV false))],⟨[[.p (iV p0.Kind),.p (sV p0.Name),.p (sV p0.Text),.p (iV p0.N),.p (.sl false (p0.L.map Qaa)),.p (.sl false (p0.Then.map Qaa)),.p (.sl false (p0.Else.map Qaa))]],[]⟩⟩
def Q3t:Code:=((Qav (Tryz.f87.body.getD .skip)).getD 1 .skip)
def Qgz (_:(List (Qap×Int))):D :=.tup []
def Qj4:List (Nat×List Nat):=[(0,[0,1,3,15,16,17]),(1,[0,1,3,15,16,17,18]),(2,[0,1,3,9,15,16,17]),(3,[0,1,3,9,15,16,17,23]),(4,[0,1,3,9,10,11,15,16,17]),(5,[0,1,3,9,10,11,12,15,16,17]),(6,[0,1,3,9,10,11,12,15,16,17,40]),(7,[0,1,3,9,10,11,12,15,16,17,40,41]),(8,[0,1,3,9,10,11,12,15,16,17]),(9,[0,1,3,9,10,11,12,15,16,17,40,48]),(10,[0,1,3,9,10,11,12,15,16,17]),(11,[0,1,3,9,10,11,12,15,16,17,40,55]),(12,[0,1,3,9,10,11,12,13,14,15,16,17]),(13,[0,1,3,9,10,11,12,13,15,16,17]),(14,[0,1,3,9,10,11,12,15,16,17]),(15,[0,1,3,9,10,11,12,15,16,17,73]),(16,[0,1,3,9,10,11,12,15,16,17]),(17,[0,1,3,9,10,12,15,16,17,83]),(18,[0,1,3,9,10,12,15,16,17]),(19,[0,1,3,9,10,12,15,16,17,89]),(20,[0,1,3,15,16,17]),(21,[0,1,3,9,15,16,17]),(22,[0,1,3,15,16,17]),(23,[0,1,3,15,16,17]),(1000001,[0,1,3,15,16,17]),(2006024,[]),(3000013,[]),(9000014,[6,0,0,0]),(9000016,[6,0,0,0]),(9500021,[]),(9600018,[2]),(9600020,[5]),(9600021,[5]),(9600022,[5])]
def Qpv (p1:(List UInt8)) (p2:(List Qab)) (p3:(List Qaj)) (h0_0:(List Qae)) (h0_1:(List (List UInt8))) (v17:Int) (h1_0_:(List (Qap×Int))) (x4:Qab) (x6:Int×Bool) (o8:Bool×(List Qaj)):St:=⟨[(0,.ptr 0 0),(1,.p (sV p1)),(3,.p (.sl false (p3.map Qat))),(9,.ptr 2 0),(10,.p (iV x6.1)),(11,.p (bV o8.1)),(12,.x 0 1 (.sl 46 3 (o8.2.map Qat))),(15,.p (.sl false (p2.map Qaa))),(16,.p (iV (p2.length:Int))),(17,.p (iV v17))],⟨[[.p (.sl false (h0_0.map Qaf)),.p (.sl false (h0_1.map cStr)),.mh 1],[mpD (λx =>.agg (Qa5 x)) iV h1_0_],[.p (iV x4.Kind),.p (sV x4.Name),.p (sV x4.Text),.p (iV x4.N),.p (.sl false (x4.L.map Qaa)),.p (.sl false (x4.Then.map Qaa)),.p (.sl false (x4.Else.map Qaa))]],[1]⟩⟩
def Qpw (p1:(List UInt8)) (p2:(List Qab)) (p3:(List Qaj)) (h0_0:(List Qae)) (h0_1:(List (List UInt8))) (v17:Int) (h1_0_:(List (Qap×Int))) (x4:Qab) (x6:Int×Bool) (x7:(List Qaj)) (x10:Int×Bool) (o11:Bool):St:=⟨[(0,.ptr 0 0),(1,.p (sV p1)),(3,.p (.sl false (p3.map Qat))),(9,.ptr 2 0),(10,.p (iV x6.1)),(11,.p (bV o11)),(12,.x 0 1 (.sl 46 3 (x7.map Qat))),(13,.p (iV x10.1)),(15,.p (.sl false (p2.map Qaa))),(16,.p (iV (p2.length:Int))),(17,.p (iV v17))],⟨[[.p (.sl false (h0_0.map Qaf)),.p (.sl false (h0_1.map cStr)),.mh 1],[mpD (λx =>.agg (Qa5 x)) iV h1_0_],[.p (iV x4.Kind),.p (sV x4.Name),.p (sV x4.Text),.p (iV x4.N),.p (.sl false (x4.L.map Qaa)),.p (.sl false (x4.Then.map Qaa)),.p (.sl false (x4.Else.map Qaa))]],[1]⟩⟩
def Qcd (p1:(List UInt8)) (p2:(List Qab)) (p3:(List Qaj)) (h0_0:(List Qae)) (h0_1:(List (List UInt8))) (v17:Int) (h1_0_:(List (Qap×Int))):St:=⟨[(0,.ptr 0 0),(1,.p (sV p1)),(3,.p (.sl false (p3.map Qat))),(15,.p (.sl false (p2.map Qaa))),(16,.p (iV (p2.length:Int))),(17,.p (iV v17))],⟨[[.p (.sl false (h0_0.map Qaf)),.p (.sl false (h0_1.map cStr)),.mh 1],[mpD (λx =>.agg (Qa5 x)) iV h1_0_]],[]⟩⟩
def Qhv (p1:(List UInt8)) (p2:(List Qab)) (p3:(List Qaj)) (h0_0:(List Qae)) (h0_1:(List (List UInt8))) (y2:(List (Qap×Int))):St:=⟨[],⟨[[.p (.sl false (h0_0.map Qaf)),.p (.sl false (h0_1.map cStr)),.mh 1],[mpD (λx =>.agg (Qa5 x)) iV y2]],[]⟩⟩
def Qhw (p1:(List UInt8)) (p2:(List Qab)) (p3:(List Qaj)) (h0_0:(List Qae)) (h0_1:(List (List UInt8))) (y3:(List UInt8)×(List (Qap×Int))):St:=⟨[],⟨[[.p (.sl false (h0_0.map Qaf)),.p (.sl false (h0_1.map cStr)),.mh 1],[mpD (λx =>.agg (Qa5 x)) iV y3.2]],[]⟩⟩
def Qpx:Code:=((Qav (Tryz.f67.body.getD .skip)).getD 0 .skip)
def Qii (_:(List (Qap×Int))):D :=.tup []
def Qu6:List (Nat×List Nat):=[(0,[0,3]),(1,[0,3,12]),(2,[0,3,4]),(3,[0,3]),(4,[]),(5000001,[2005]),(9000004,[5,0,0,0]),(9600003,[9]),(9800004,[5]),(7000004,[36,37])]
def Qbb (y:Int×Bool):D :=.tup [.p (iV y.1),.p (bV y.2)]
def Qaed:List (Nat×List Nat):=[(0,[0,3]),(1,[0,3,6]),(2,[3,6,10]),(3,[3,6,10,11]),(4,[3,6,10,11]),(5,[3,6,10,11]),(6,[3,6,10,15]),(7,[3,6,10,17]),(8,[3,6,10,17]),(9,[3,6,10,20]),(10,[3,6,10,20]),(11,[3,6,10,23]),(12,[3,6,10,25]),(13,[3,6,10,27]),(14,[3,6,10,29]),(15,[3,6,10,31]),(16,[3,6,10,33]),(17,[3,6,10,35]),(18,[3,6,10,37]),(19,[6,10,39]),(20,[6,10,41]),(21,[6,10,43]),(22,[6,10,45]),(23,[6,10,45]),(24,[6,48]),(25,[4,5]),(26,[4,5]),(27,[4,5]),(28,[4,5]),(29,[4,5]),(30,[4,5]),(31,[4,5]),(32,[4,5]),(33,[4,5]),(34,[3,97]),(35,[8]),(36,[105]),(37,[4,5]),(38,[6,114]),(39,[4,5]),(40,[4,5]),(41,[137]),(42,[4,5]),(43,[4,5]),(44,[4,5]),(45,[4,5]),(46,[4,5]),(47,[4,5]),(2003009,[]),(2007005,[]),(2009005,[]),(2022005,[]),(3000038,[]),(3000041,[])]
def Q5w (p0:(List UInt8)) (p1:(List Int)) (o1:Bool):St:=⟨[(3,.ptr 0 0),(6,.fn (.func 147) [] [.ptr 0 0]),(10,.p (sV p0)),(11,.p (bV o1))],⟨[[.p (.sl false (p1.map cInt))]],[]⟩⟩
def Q5x (p0:(List UInt8)) (p1:(List Int)) (o4:Bool):St:=⟨[(3,.ptr 0 0),(6,.fn (.func 147) [] [.ptr 0 0]),(10,.p (sV p0)),(17,.p (bV o4))],⟨[[.p (.sl false (p1.map cInt))]],[]⟩⟩
def Q5y (p0:(List UInt8)) (p1:(List Int)) (o6:Bool):St:=⟨[(3,.ptr 0 0),(6,.fn (.func 147) [] [.ptr 0 0]),(10,.p (sV p0)),(20,.p (bV o6))],⟨[[.p (.sl false (p1.map cInt))]],[]⟩⟩
def Q5z (p1:(List Int)) (o15:Bool):St:=⟨[(6,.fn (.func 147) [] [.ptr 0 0]),(114,.p (bV o15))],⟨[[.p (.sl false (p1.map cInt))]],[]⟩⟩
def Q50 (p1:(List Int)) (o18:Bool):St:=⟨[(137,.p (bV o18))],⟨[[.p (.sl false (p1.map cInt))]],[]⟩⟩
def Q51 (p0:(List UInt8)) (p1:(List Int)) (o26:Bool):St:=⟨[(6,.fn (.func 147) [] [.ptr 0 0]),(10,.p (sV p0)),(45,.p (bV o26))],⟨[[.p (.sl false (p1.map cInt))]],[]⟩⟩
def Qqw (y:Int×Bool):D :=.tup [.p (iV y.1),.p (bV y.2)]
def Q52:List (Nat×List Nat):=[(0,[0,1,2]),(1,[0,10]),(2,[5,6]),(3,[5,6])]
def Qij (y:Int×Bool):D :=.tup [.p (iV y.1),.p (bV y.2)]
def Qaee:List (Nat×List Nat):=[(0,[0]),(1,[4]),(2,[4,5]),(3,[2,3]),(4,[4,7]),(5,[2,3]),(6,[9]),(7,[2,3]),(8,[2,3])]
def Qod (y:Int×Bool):D :=.tup [.p (iV y.1),.p (bV y.2)]
def Qx7:List (Nat×List Nat):=[(0,[0,1]),(1,[0,1,8,9,10]),(2,[0,1,8,9,10,11]),(3,[0,1,7,8,9,10]),(4,[0,1,7,8,9,10,23]),(5,[4,5]),(6,[0,1,8,9,10]),(7,[4,5]),(1000002,[0,1,8,9,10]),(3000004,[])]
def Q3u (p0:Int) (p1:(List UInt8)) (x1:(List Qa8)) (v10:Int) (x5:Qa8) (o6:Bool):St:=⟨[(0,.p (iV p0)),(1,.p (sV p1)),(7,.ptr 0 0),(8,.p (.sl false (x1.map Qli))),(9,.p (iV (x1.length:Int))),(10,.p (iV v10)),(23,.p (bV o6))],⟨[[.p (iV x5.of_),.p (sV x5.name_),.p (iV x5.is_)]],[]⟩⟩
def Ql3 (p0:Int) (p1:(List UInt8)) (x1:(List Qa8)) (v10:Int):St:=⟨[(0,.p (iV p0)),(1,.p (sV p1)),(8,.p (.sl false (x1.map Qli))),(9,.p (iV (x1.length:Int))),(10,.p (iV v10))],⟨[],[]⟩⟩
def Qro (p0:Int) (p1:(List UInt8)) (x1:(List Qa8)) (y3:Unit):St:=⟨[],⟨[],[]⟩⟩
def Qrp (p0:Int) (p1:(List UInt8)) (x1:(List Qa8)) (y4:Int):St:=⟨[(4,.p (iV y4)),(5,.p (bV true))],⟨[],[]⟩⟩
def Q3v:Code:=((Qav (Tryz.f120.body.getD .skip)).getD 0 .skip)
def Q3w (y:(List UInt8)):D :=.p (sV y)
def Qoe (y:Bool):D :=.p (bV y)
def Qaal:List (Nat×List Nat):=[(0,[0]),(1,[2]),(3000001,[])]
def Q3x  (o1:Bool):St:=⟨[(2,.p (bV o1))],⟨[],[]⟩⟩
def Qts (y:(List Qa8)):D :=.p (.sl false (y.map Qli))
def Qaam:List (Nat×List Nat):=[(0,[]),(1,[0])]
def Qek (y:Bool):D :=.p (bV y)
def Qnq:List (Nat×List Nat):=[(0,[0,1,2]),(1,[0,1,2,7]),(2,[0,1,2,19]),(3,[6]),(4,[0,1,2]),(5,[0,1,2,8,9]),(6,[8,9,10,11]),(7,[6]),(3000007,[])]
def Qme  (o6:Bool):St:=⟨[(6,.p (bV o6))],⟨[],[]⟩⟩
def Qfl (y:Bool):D :=.p (bV y)
def Qu7:List (Nat×List Nat):=[(0,[]),(1,[2]),(2,[2,3,4]),(3,[2,3,4,6]),(4,[0]),(3000004,[])]
def Qrx  (o7:Bool):St:=⟨[(0,.p (bV o7))],⟨[],[]⟩⟩
def Qik (y:(List (List UInt8))):D :=.p (.sl false (y.map cStr))
def Qu8:List (Nat×List Nat):=[(0,[0]),(1,[2])]
def Qex (y:(List Qae)):D :=.p (.sl false (y.map Qaf))
def Qx8:List (Nat×List Nat):=[(0,[0]),(1,[3]),(2,[2])]
def Qbl (y:Bool):D :=.p (bV y)
def Qea:List (Nat×List Nat):=[(0,[0,1]),(1,[0,1,10]),(2,[4]),(3,[0,1,12,13]),(4,[0,1,12,13,14]),(5,[0,1,5,12,13]),(6,[0,1,12,13,24]),(7,[4]),(8,[0,1,12,13]),(9,[4]),(1000004,[0,1,12,13])]
def Qce (p0:(List Int)) (p1:(List Int)) (v13:Int):St:=⟨[(0,.p (.sl false (p0.map cInt))),(1,.p (.sl false (p1.map cInt))),(12,.p (iV (p0.length:Int))),(13,.p (iV v13))],⟨[],[]⟩⟩
def Qdn (p0:(List Int)) (p1:(List Int)) (y2:Unit):St:=⟨[],⟨[],[]⟩⟩
def Qdo (p0:(List Int)) (p1:(List Int)) (y3:Unit):St:=⟨[(4,.p (bV false))],⟨[],[]⟩⟩
def Qil:Code:=((Qav (Tryz.f148.body.getD .skip)).getD 0 .skip)
def Qfm (p0:(List UInt8)) (p1:(List Int)) (x1:(List Qba)) (v7:Int) (v8:Bool) (v9:Int):Option (Bool) :=
 ( if v8 then
   some (decide (v9<(p1.length:Int)))
  else
   some false:Option (Bool))>>=λo9 =>
 if o9 then
  idx x1 v7>>=λx10 =>
  idx x10.In v9>>=λx11 =>
  idx p1 v9>>=λx12 =>
  Qfm p0 p1 x1 v7 (x11==x12) (wr (v9+1))
 else
  some v8
 partial_fixpoint
theorem Qanj:∀ (p0:(List UInt8)) (p1:(List Int)) (x1:(List Qba)) (v7:Int),(∀ (v8:Bool) (v9:Int) (o8:Bool),Qfm p0 p1 x1 v7 v8 v9=some o8->TL (0,0) Tryz.prog 63 Qaaf (JP1 (0,0) 63 o8 (.exit 2) (Qvx p0 p1 x1 v7)) (Qo0 p0 p1 x1 v7 v8 v9)):=by
 intro p0 p1 x1 v7;refine Qfm.partial_correctness p0 p1 x1 v7 _ ?_;intro Qfm' iQfm v8 v9 o8 h;refine TL.round (Qan mixed tbOk (lv:=Qwu) _ _ _ ?_);refine Qah h (λo9 ho hk=>?_);refine Exists.intro (JP1 _ _ o9 .normal (Qaae p0 p1 x1 v7 v8 v9)) (And.intro ?_ (Qaz ?_))
 .have h:=ho;refine Qac h (λhb h=>?_) (λhb h=>?_)
  .refine view (Qau _ _) rfl ?_;exact JP1.a h (Le.ty 0 0)
  .exact JP1.a h (Le.ty 0 0)
 .have h:=hk;refine Qac h (λhb h=>?_) (λhb h=>?_)
  .refine And.intro (by decide +kernel) (And.intro rfl ?_);refine Qay (l:=x1) (c:=Qd9) (c' := Qd9) h (λ_=>rfl) (λ_=>rfl) (by decide) (λx10 hi h=>?_);refine Qay (l:=x10.In) (c:=cInt) (c' := cInt) h (λ_=>rfl) (λ_=>rfl) (by decide) (λx11 hi h=>?_);refine Qay (l:=p1) (c:=cInt) (c' := cInt) h (λ_=>rfl) (λ_=>rfl) (by decide) (λx12 hi h=>?_);refine TL.le (τ := Qo0 p0 p1 x1 v7 (x11==x12) (wr (v9+1))) ?_ ((iQfm (x11==x12) (wr (v9+1)) _ h));exact Le.ty 0 0
  .exact JP1.a h (Le.ty 0 0)
def Qim (p0:(List UInt8)) (p1:(List Int)) (x1:(List Qba)) (v7:Int):Option (Unit⊕Int) :=
 if(decide (v7<(x1.length:Int))) then
  ( idx x1 v7>>=λx6 =>
   if(x6.Name==p0) then
    idx x1 v7>>=λx7 =>
    some ((x7.In.length:Int)==(p1.length:Int))
   else
    some false:Option (Bool))>>=λo5 =>
  (Qfm p0 p1 x1 v7 o5 0)>>=λo8 =>
  if o8 then
   idx x1 v7>>=λx13 =>
   some (.inr x13.Gives)
  else
   Qim p0 p1 x1 (wr (v7+1))
 else
  some (.inl ())
 partial_fixpoint
theorem Qank:∀ (p0:(List UInt8)) (p1:(List Int)) (x1:(List Qba)),(∀ (v7:Int) (o2:Unit⊕Int),Qim p0 p1 x1 v7=some o2->TL (0,0) Tryz.prog 63 Qaag (JP2 (0,0) 63 o2 (.exit 0) (Qvy p0 p1 x1) .ret (Qvz p0 p1 x1)) (Qo1 p0 p1 x1 v7)):=by
 intro p0 p1 x1;refine Qim.partial_correctness p0 p1 x1 _ ?_;intro Qim' iQim v7 o2 h;refine TL.round (Qan mixed tbOk (lv:=Qwu) _ _ _ ?_);refine view (Qau _ _) rfl ?_;refine Qac h (λhb h=>?_) (λhb h=>?_)
 .refine Qah h (λo5 ho hk=>?_);refine Exists.intro (JP1 _ _ o5 .normal (Qaad p0 p1 x1 v7)) (And.intro ?_ (Qaz ?_))
  .have h:=ho;refine Qay (l:=x1) (c:=Qd9) (c' := Qd9) h (λ_=>rfl) (λ_=>rfl) (by decide) (λx6 hi h=>?_);refine Qac h (λhb h=>?_) (λhb h=>?_)
   .refine Qay (l:=x1) (c:=Qd9) (c' := Qd9) h (λ_=>rfl) (λ_=>rfl) (by decide) (λx7 hi h=>?_);refine view (Qau _ _) rfl ?_;refine view (Qau _ _) rfl ?_;exact JP1.a h (Le.ty 0 0)
   .exact JP1.a h (Le.ty 0 0)
  .have h:=hk;refine Qah h (λo8 ho hk=>?_);refine Exists.intro (JP1 _ _ o8 (.exit 2) (Qvx p0 p1 x1 v7)) (And.intro (Qf5 (τ := Qo0 p0 p1 x1 v7 o5 0) ?_ (TL.loop (Qanj p0 p1 x1 v7 o5 0 o8 ho))) (Qaz ?_))
   .exact Le.ty 0 0
   have h:=hk;refine Qac h (λhb h=>?_) (λhb h=>?_)
   .refine Qay (l:=x1) (c:=Qd9) (c' := Qd9) h (λ_=>rfl) (λ_=>rfl) (by decide) (λx13 hi h=>?_);exact JP2.b h (Le.ty 0 0)
   .refine TL.le (τ := Qo1 p0 p1 x1 (wr (v7+1))) ?_ ((iQim (wr (v7+1)) _ h));exact Le.ty 0 0
 .exact JP2.a h (Le.ty 0 0)
def Q1a:Option ((List Qba)) :=
 some ([(Qba.mk [117,112,112,101,114] [1] 1),(Qba.mk [108,111,119,101,114] [1] 1),(Qba.mk [116,114,105,109] [1] 1),(Qba.mk [115,105,122,101] [1] 2),(Qba.mk [102,105,114,115,116] [1,2] 1),(Qba.mk [108,97,115,116] [1,2] 1),(Qba.mk [100,101,102,97,117,108,116] [1,1] 1),(Qba.mk [99,97,116] [1,1] 1),(Qba.mk [114,101,112,108,97,99,101] [1,1,1] 1),(Qba.mk [106,111,105,110] [7,1] 1),(Qba.mk [107,101,121,115] [8] 7),(Qba.mk [103,101,116] [8,1] 1),(Qba.mk [104,97,115] [8,1] 3),(Qba.mk [99,111,117,110,116] [7] 2),(Qba.mk [99,111,117,110,116] [8] 2),(Qba.mk [99,111,117,110,116] [9] 2),(Qba.mk [119,114,105,116,101] [2] 1),(Qba.mk [119,114,105,116,101] [3] 1),(Qba.mk [97,100,100] [2,2] 2),(Qba.mk [115,117,98] [2,2] 2),(Qba.mk [108,101,115,115] [2,2] 3),(Qba.mk [115,97,109,101] [1,1] 3),(Qba.mk [115,97,109,101] [2,2] 3),(Qba.mk [115,97,109,101] [3,3] 3),(Qba.mk [98,111,116,104] [3,3] 3),(Qba.mk [101,105,116,104,101,114] [3,3] 3),(Qba.mk [110,111,116] [3] 3)])
theorem Qagq:∀ (o:(List Qba)),Q1a  = some o->PCall Tryz.prog 151 [] (Qy3 o):=by
 intro o h;unfold Q1a at h;refine PCall.ofY Qagp Tryz.func151 ?_;refine Qak (t:=Qy3) h ?_
 exact .p (.no (.cons (.cons (.refl _) (.cons (.not) (.cons (.refl _) (.nil)))) (.cons (.cons (.refl _) (.cons (.not) (.cons (.refl _) (.nil)))) (.cons (.cons (.refl _) (.cons (.not) (.cons (.refl _) (.nil)))) (.cons (.cons (.refl _) (.cons (.not) (.cons (.refl _) (.nil)))) (.cons (.cons (.refl _) (.cons (.not) (.cons (.refl _) (.nil)))) (.cons (.cons (.refl _) (.cons (.not) (.cons (.refl _) (.nil)))) (.cons (.cons (.refl _) (.cons (.not) (.cons (.refl _) (.nil)))) (.cons (.cons (.refl _) (.cons (.not) (.cons (.refl _) (.nil)))) (.cons (.cons (.refl _) (.cons (.not) (.cons (.refl _) (.nil)))) (.cons (.cons (.refl _) (.cons (.not) (.cons (.refl _) (.nil)))) (.cons (.cons (.refl _) (.cons (.not) (.cons (.refl _) (.nil)))) (.cons (.cons (.refl _) (.cons (.not) (.cons (.refl _) (.nil)))) (.cons (.cons (.refl _) (.cons (.not) (.cons (.refl _) (.nil)))) (.cons (.cons (.refl _) (.cons (.not) (.cons (.refl _) (.nil)))) (.cons (.cons (.refl _) (.cons (.not) (.cons (.refl _) (.nil)))) (.cons (.cons (.refl _) (.cons (.not) (.cons (.refl _) (.nil)))) (.cons (.cons (.refl _) (.cons (.not) (.cons (.refl _) (.nil)))) (.cons (.cons (.refl _) (.cons (.not) (.cons (.refl _) (.nil)))) (.cons (.cons (.refl _) (.cons (.not) (.cons (.refl _) (.nil)))) (.cons (.cons (.refl _) (.cons (.not) (.cons (.refl _) (.nil)))) (.cons (.cons (.refl _) (.cons (.not) (.cons (.refl _) (.nil)))) (.cons (.cons (.refl _) (.cons (.not) (.cons (.refl _) (.nil)))) (.cons (.cons (.refl _) (.cons (.not) (.cons (.refl _) (.nil)))) (.cons (.cons (.refl _) (.cons (.not) (.cons (.refl _) (.nil)))) (.cons (.cons (.refl _) (.cons (.not) (.cons (.refl _) (.nil)))) (.cons (.cons (.refl _) (.cons (.not) (.cons (.refl _) (.nil)))) (.cons (.cons (.refl _) (.cons (.not) (.cons (.refl _) (.nil)))) (.nil)))))))))))))))))))))))))))))
def Qui (p0:(List UInt8)) (p1:(List Int)):Option (Int×Bool) :=
 Q1a>>=λx1 =>
 (Qim p0 p1 x1 0)>>=λo2 =>
 match o2 with
 | .inl y3 =>
  some (0,false)
 | .inr y4 =>
  some (y4,true)
theorem Qagr:∀ (p0:(List UInt8)) (p1:(List Int)) (o:Int×Bool),Qui p0 p1=some o->PCall Tryz.prog 122 [sV p0,.sl false (p1.map cInt)] (Qug o):=by
 intro p0 p1 o h;unfold Qui at h;refine PCall.ofY Qwu Tryz.func122 ?_;refine Qam [] Qy3 h (λx1 hy=>(Qagq x1 hy)) (λx1 hy h=>?_);refine Qah h (λo2 ho hk=>?_);refine Exists.intro (JP2 _ _ o2 (.exit 0) (Qvy p0 p1 x1) .ret (Qvz p0 p1 x1)) (And.intro (Qf5 (τ := Qo1 p0 p1 x1 0) ?_ (TL.loop (Qank p0 p1 x1 0 o2 ho))) (Qer (λy3 hy=>?_) (λy4 hy=>?_)))
 .exact Le.ty 0 0
 .have h:=(by rw[hy] at hk; exact hk);refine Qak (t:=Qug) h ?_;exact .refl _
 .have h:=(by rw[hy] at hk; exact hk);refine Qak (t:=Qug) h ?_;exact .refl _
def Quj (p0:Int):Option (Int×Bool) :=
 if(p0==7) then
  some (1,true)
 else
  if(p0==8) then
   some (4,true)
  else
   if(p0==9) then
    some (5,true)
   else
    some (0,false)
theorem Qags:∀ (p0:Int) (o:Int×Bool),Quj p0=some o->PCall Tryz.prog 93 [iV p0] (Qmn o):=by
 intro p0 o h;unfold Quj at h;refine PCall.ofY Qagn Tryz.func93 ?_;refine Qac h (λhb h=>?_) (λhb h=>?_)
 .refine Qak (t:=Qmn) h ?_;exact .refl _
 .refine Qac h (λhb h=>?_) (λhb h=>?_)
  .refine Qak (t:=Qmn) h ?_;exact .refl _
  .refine Qac h (λhb h=>?_) (λhb h=>?_)
   .refine Qak (t:=Qmn) h ?_;exact .refl _
   .refine Qak (t:=Qmn) h ?_;exact .refl _
def Qg0 (p1:(List UInt8)) (x1:(List (List UInt8))×(List Int)) (v8:Int):Option (Unit⊕Int) :=
 if(decide (v8<(x1.1.length:Int))) then
  idx x1.1 v8>>=λx5 =>
  if(x5==p1) then
   idx x1.2 v8>>=λx6 =>
   some (.inr x6)
  else
   Qg0 p1 x1 (wr (v8+1))
 else
  some (.inl ())
 partial_fixpoint
theorem Qako:∀ (p1:(List UInt8)) (x1:(List (List UInt8))×(List Int)),(∀ (v8:Int) (o2:Unit⊕Int),Qg0 p1 x1 v8=some o2->TL (0,0) Tryz.prog 30 Q5o (JP2 (0,0) 30 o2 (.exit 0) (Qtm p1 x1) .ret (Qtn p1 x1)) (Qnm p1 x1 v8)):=by
 intro p1 x1;refine Qg0.partial_correctness p1 x1 _ ?_;intro Qg0' iQg0 v8 o2 h;refine TL.round (Qan mixed tbOk (lv:=Qzx) _ _ _ ?_);refine view (Qau _ _) rfl ?_;refine Qac h (λhb h=>?_) (λhb h=>?_)
 .refine Qay (l:=x1.1) (c:=cStr) (c' := cStr) h (λ_=>rfl) (λ_=>rfl) (by decide) (λx5 hi h=>?_);refine Qac h (λhb h=>?_) (λhb h=>?_)
  .refine Qay (l:=x1.2) (c:=cInt) (c' := cInt) h (λ_=>rfl) (λ_=>rfl) (by decide) (λx6 hi h=>?_);exact JP2.b h (Le.ty 0 0)
  .refine TL.le (τ := Qnm p1 x1 (wr (v8+1))) ?_ ((iQg0 (wr (v8+1)) _ h));exact Le.ty 0 0
 .exact JP2.a h (Le.ty 0 0)
def Qpy (p0:Int):Option ((List (List UInt8))×(List Int)) :=
 if(p0==4) then
  some ([[107,101,121],[118,97,108]],[1,1])
 else
  if(p0==5) then
   some ([[102,105,114,105,110,103],[115,116,97,114,116,115],[118,97,108,117,101],[108,97,98,101,108,115],[110,111,116,101,115],[108,105,110,107]],[3,2,2,8,8,1])
  else
   if(p0==6) then
    some ([[114,101,99,101,105,118,101,114],[102,105,114,105,110,103],[99,111,109,109,111,110],[108,105,110,107],[97,108,101,114,116,115]],[1,3,8,1,9])
   else
    some ([],[])
theorem Qaan:∀ (p0:Int) (o:(List (List UInt8))×(List Int)),Qpy p0=some o->PCall Tryz.prog 152 [iV p0] (Qiz o):=by
 intro p0 o h;unfold Qpy at h;refine PCall.ofY Qaai Tryz.func152 ?_;refine Qac h (λhb h=>?_) (λhb h=>?_)
 .refine Qak (t:=Qiz) h ?_;exact .tup (xs:=[.sl true [[sV [107,101,121]],[sV [118,97,108]]],.sl true [[iV 1],[iV 1]]]) (ys:=[.sl false (([[107,101,121],[118,97,108]]).map cStr),.sl false ([1,1].map cInt)]) (.cons (.not) (.cons (.not) (.nil)))
 .refine Qac h (λhb h=>?_) (λhb h=>?_)
  .refine Qak (t:=Qiz) h ?_;exact .tup (xs:=[.sl true [[sV [102,105,114,105,110,103]],[sV [115,116,97,114,116,115]],[sV [118,97,108,117,101]],[sV [108,97,98,101,108,115]],[sV [110,111,116,101,115]],[sV [108,105,110,107]]],.sl true [[iV 3],[iV 2],[iV 2],[iV 8],[iV 8],[iV 1]]]) (ys:=[.sl false (([[102,105,114,105,110,103],[115,116,97,114,116,115],[118,97,108,117,101],[108,97,98,101,108,115],[110,111,116,101,115],[108,105,110,107]]).map cStr),.sl false ([3,2,2,8,8,1].map cInt)]) (.cons (.not) (.cons (.not) (.nil)))
  .refine Qac h (λhb h=>?_) (λhb h=>?_)
   .refine Qak (t:=Qiz) h ?_;exact .tup (xs:=[.sl true [[sV [114,101,99,101,105,118,101,114]],[sV [102,105,114,105,110,103]],[sV [99,111,109,109,111,110]],[sV [108,105,110,107]],[sV [97,108,101,114,116,115]]],.sl true [[iV 1],[iV 3],[iV 8],[iV 1],[iV 9]]]) (ys:=[.sl false (([[114,101,99,101,105,118,101,114],[102,105,114,105,110,103],[99,111,109,109,111,110],[108,105,110,107],[97,108,101,114,116,115]]).map cStr),.sl false ([1,3,8,1,9].map cInt)]) (.cons (.not) (.cons (.not) (.nil)))
   .refine Qak (t:=Qiz) h ?_;exact .tup (xs:=[.sl true [],.sl true []]) (ys:=[.sl false [],.sl false []]) (.cons (.not) (.cons (.not) (.nil)))
def Qno (p0:Int) (p1:(List UInt8)):Option (Int×Bool) :=
 Qpy p0>>=λx1 =>
 (Qg0 p1 x1 0)>>=λo2 =>
 match o2 with
 | .inl y3 =>
  some (0,false)
 | .inr y4 =>
  some (y4,true)
theorem Qaef:∀ (p0:Int) (p1:(List UInt8)) (o:Int×Bool),Qno p0 p1=some o->PCall Tryz.prog 123 [iV p0,sV p1] (Qqt o):=by
 intro p0 p1 o h;unfold Qno at h;refine PCall.ofY Qzx Tryz.func123 ?_;refine Qam [iV p0] Qiz h (λx1 hy=>(Qaan p0 x1 hy)) (λx1 hy h=>?_);refine Qah h (λo2 ho hk=>?_);refine Exists.intro (JP2 _ _ o2 (.exit 0) (Qtm p1 x1) .ret (Qtn p1 x1)) (And.intro (Qf5 (τ := Qnm p1 x1 0) ?_ (TL.loop (Qako p1 x1 0 o2 ho))) (Qer (λy3 hy=>?_) (λy4 hy=>?_)))
 .exact Le.ty 0 0
 .have h:=(by rw[hy] at hk; exact hk);refine Qak (t:=Qqt) h ?_;exact .refl _
 .have h:=(by rw[hy] at hk; exact hk);refine Qak (t:=Qqt) h ?_;exact .refl _
def Q3y:Option ((List (List UInt8))) :=
 some ([[116,101,120,116],[110,117,109,98,101,114],[116,114,117,116,104],[112,97,105,114],[97,108,101,114,116],[103,114,111,117,112],[116,101,120,116,115],[112,97,105,114,115],[97,108,101,114,116,115]])
theorem Qaeg:∀ (o:(List (List UInt8))),Q3y  = some o->PCall Tryz.prog 166 [] (Qww o):=by
 intro o h;unfold Q3y at h;refine PCall.ofY Qaeb Tryz.func166 ?_;refine Qak (t:=Qww) h ?_;exact .p (.not)
def Qx9 (p0:Int):Option ((List UInt8)) :=
 ( if(decide (p0<1)) then
   some true
  else
   some (decide (p0>9)):Option (Bool))>>=λo1 =>
 if o1 then
  some []
 else
  Q3y>>=λx2 =>
  idx x2 (wr (p0-1))>>=λx3 =>
  some x3
theorem Qagt:∀ (p0:Int) (o:(List UInt8)),Qx9 p0=some o->PCall Tryz.prog 150 [iV p0] (Quh o):=by
 intro p0 o h;unfold Qx9 at h;refine PCall.ofY Qago Tryz.func150 ?_;refine Qah h (λo1 ho hk=>?_);refine Exists.intro (JP1 _ _ o1 .normal (Qaah p0)) (And.intro ?_ (Qaz ?_))
 .have h:=ho;refine Qac h (λhb h=>?_) (λhb h=>?_)
  .exact JP1.a h (Le.ty 0 0)
  .exact JP1.a h (Le.ty 0 0)
 .have h:=hk;refine Qac h (λhb h=>?_) (λhb h=>?_)
  .refine Qak (t:=Quh) h ?_;exact .refl _
  .refine Qam [] Qww h (λx2 hy=>(Qaeg x2 hy)) (λx2 hy h=>?_);refine Qay (l:=x2) (c:=cStr) (c' := cStr) h (λ_=>rfl) (λ_=>rfl) (by decide) (λx3 hi h=>?_);refine Qak (t:=Quh) h ?_;exact .refl _
def Qpz (p0:Int):Option (Bool) :=
 ( if(p0==1) then
   some true
  else
   if(p0==2) then
    some true
   else
    some (p0==3):Option (Bool))>>=λo1 =>
 some o1
theorem Qaeh:∀ (p0:Int) (o:Bool),Qpz p0=some o->PCall Tryz.prog 94 [iV p0] (Qwv o):=by
 intro p0 o h;unfold Qpz at h;refine PCall.ofY Qaea Tryz.func94 ?_;refine Qah h (λo1 ho hk=>?_);refine Exists.intro (JP1 _ _ o1 .normal (Q5p )) (And.intro ?_ (Qaz ?_))
 .have h:=ho;refine Qac h (λhb h=>?_) (λhb h=>?_)
  .refine bT ?_;exact JP1.a h (Le.ty 0 0)
  .refine Qac h (λhb h=>?_) (λhb h=>?_)
   .exact JP1.a h (Le.ty 0 0)
   .exact JP1.a h (Le.ty 0 0)
 .have h:=hk;refine Qak (t:=Qwv) h ?_;exact .refl _
def Qg1 (p0:(List Qaj)) (p1:(List UInt8)) (v6:Int):Option (Unit⊕(Int×Bool)) :=
 if(decide (v6 >= 0)) then
  idx p0 v6>>=λx4 =>
  if(x4.Name==p1) then
   idx p0 v6>>=λx5 =>
   idx p0 v6>>=λx6 =>
   Qx9 x6.K>>=λx7 =>
   some (.inr (x5.K,(!(x7==[]))))
  else
   Qg1 p0 p1 (wr (v6-1))
 else
  some (.inl ())
 partial_fixpoint
theorem Qakp:∀ (p0:(List Qaj)) (p1:(List UInt8)),(∀ (v6:Int) (o1:Unit⊕(Int×Bool)),Qg1 p0 p1 v6=some o1->TL (0,0) Tryz.prog 33 Q5u (JP2 (0,0) 33 o1 (.exit 0) (Qtq p0 p1) .ret (Qtr p0 p1)) (Qnn p0 p1 v6)):=by
 intro p0 p1;refine Qg1.partial_correctness p0 p1 _ ?_;intro Qg1' iQg1 v6 o1 h;refine TL.round (Qan mixed tbOk (lv:=Qzz) _ _ _ ?_);refine Qac h (λhb h=>?_) (λhb h=>?_)
 .refine Qay (l:=p0) (c:=Qat) (c' := Qat) h (λ_=>rfl) (λ_=>rfl) (by decide) (λx4 hi h=>?_);refine Qac h (λhb h=>?_) (λhb h=>?_)
  .refine And.intro (by decide +kernel) (And.intro rfl ?_);refine Qay (l:=p0) (c:=Qat) (c' := Qat) h (λ_=>rfl) (λ_=>rfl) (by decide) (λx5 hi h=>?_);refine Qay (l:=p0) (c:=Qat) (c' := Qat) h (λ_=>rfl) (λ_=>rfl) (by decide) (λx6 hi h=>?_);refine Qcf [iV x6.K] Quh h (λx7 hy=>(Qagt x6.K x7 hy)) (λx7 hy h=>?_);exact JP2.b h (Le.ty 0 0)
  .refine TL.le (τ := Qnn p0 p1 (wr (v6-1))) ?_ ((iQg1 (wr (v6-1)) _ h));exact Le.ty 0 0
 .exact JP2.a h (Le.ty 0 0)
def Qtt (p0:(List Qaj)) (p1:(List UInt8)):Option (Int×Bool) :=
 (Qg1 p0 p1 (wr ((p0.length:Int)-1)))>>=λo1 =>
 match o1 with
 | .inl y2 =>
  some (0,false)
 | .inr y3 =>
  some (y3.1,y3.2)
theorem Qaei:∀ (p0:(List Qaj)) (p1:(List UInt8)) (o:Int×Bool),Qtt p0 p1=some o->PCall Tryz.prog 121 [.sl false (p0.map Qat),sV p1] (Qqu o):=by
 intro p0 p1 o h;unfold Qtt at h;refine PCall.ofY Qzz Tryz.func121 ?_;refine view (Qau _ _) rfl ?_;refine Qah h (λo1 ho hk=>?_);refine Exists.intro (JP2 _ _ o1 (.exit 0) (Qtq p0 p1) .ret (Qtr p0 p1)) (And.intro (Qf5 (τ := Qnn p0 p1 (wr ((p0.length:Int)-1))) ?_ (TL.loop (Qakp p0 p1 (wr ((p0.length:Int)-1)) o1 ho))) (Qer (λy2 hy=>?_) (λy3 hy=>?_)))
 .exact Le.ty 0 0
 .have h:=(by rw[hy] at hk; exact hk);refine Qak (t:=Qqu) h ?_;exact .refl _
 .have h:=(by rw[hy] at hk; exact hk);refine Qak (t:=Qqu) h ?_;exact .refl _
mutual
def Qof (p0:Qab) (p1:(List Qaj)) (p2:(List (List UInt8))):Option (Int×Bool) :=
 if(p0.Kind==1) then
  some (1,true)
 else
  if(p0.Kind==2) then
   some (2,true)
  else
   if(p0.Kind==3) then
    some (3,true)
   else
    if(p0.Kind==4) then
     Qtt p1 p0.Name>>=λx1 =>
     some (x1.1,x1.2)
    else
     if(p0.Kind==7) then
      Q2z p2 p0.Name>>=λx2 =>
      if x2 then
       some (1,true)
      else
       some (0,false)
     else
      ( if(p0.Kind==5) then
        some (p0.Kind==5)
       else
        some (p0.Kind==6):Option (Bool))>>=λo3 =>
      if o3 then
       (Qkw p0 p1 p2 [] 0)>>=λo4 =>
       match o4 with
       | .inl y5 =>
        if(p0.Kind==6) then
         Qui p0.Name y5>>=λx10 =>
         some (x10.1,x10.2)
        else
         if((y5.length:Int)==1) then
          idx y5 0>>=λx11 =>
          Qno x11 p0.Name>>=λx12 =>
          some (x12.1,x12.2)
         else
          some (0,false)
       | .inr y6 =>
        some (0,false)
      else
       some (0,false)
 partial_fixpoint
def Qkw (p0:Qab) (p1:(List Qaj)) (p2:(List (List UInt8))) (v8:(List Int)) (v9:Int):Option ((List Int)⊕Unit) :=
 if(decide (v9<(p0.L.length:Int))) then
  idx p0.L v9>>=λx7 =>
  Qof x7 p1 p2>>=λx8 =>
  if(!x8.2) then
   some (.inr ())
  else
   appL 8 v8 [x8.1]>>=λx9 =>
   Qkw p0 p1 p2 x9 (wr (v9+1))
 else
  some (.inl v8)
 partial_fixpoint
end
theorem Qaej:∀ (p1:(List Qaj)) (p2:(List (List UInt8))),(∀ (p0:Qab) (o:Int×Bool),Qof p0 p1 p2=some o->PCall Tryz.prog 92 [.agg [iV p0.Kind,sV p0.Name,sV p0.Text,iV p0.N,.sl false (p0.L.map Qaa),.sl false (p0.Then.map Qaa),.sl false (p0.Else.map Qaa)],.sl false (p1.map Qat),.sl false (p2.map cStr)] (Qc7 o))/\(∀ (p0:Qab) (v8:(List Int)) (v9:Int) (o4:(List Int)⊕Unit),Qkw p0 p1 p2 v8 v9=some o4->TL (0,0) Tryz.prog 82 Qaak (JP2 (0,0) 82 o4 (.exit 1) (Qv0 p0 p1 p2) .ret (Qv1 p0 p1 p2)) (Qo2 p0 p1 p2 v8 v9)):=by
 intro p1 p2;refine Qof.mutual_partial_correctness p1 p2 _ _ ?_ ?_
 .intro Qkw' iQkw p0 o h;refine PCall.ofY Q3q Tryz.func92 ?_;refine Qac h (λhb h=>?_) (λhb h=>?_)
  .refine Qak (t:=Qc7) h ?_;exact .refl _
  .refine Qac h (λhb h=>?_) (λhb h=>?_)
   .refine Qak (t:=Qc7) h ?_;exact .refl _
   .refine Qac h (λhb h=>?_) (λhb h=>?_)
    .refine Qak (t:=Qc7) h ?_;exact .refl _
    .refine Qac h (λhb h=>?_) (λhb h=>?_)
     .refine Qam [.sl false (p1.map Qat),sV p0.Name] Qqu h (λx1 hy=>(Qaei p1 p0.Name x1 hy)) (λx1 hy h=>?_);refine Qak (t:=Qc7) h ?_;exact .refl _
     .refine Qac h (λhb h=>?_) (λhb h=>?_)
      .refine Qam [.sl false (p2.map cStr),sV p0.Name] Qua h (λx2 hy=>(Q20 p2 p0.Name x2 hy)) (λx2 hy h=>?_);refine Qac h (λhb h=>?_) (λhb h=>?_)
       .refine Qak (t:=Qc7) h ?_;exact .refl _
       .refine Qak (t:=Qc7) h ?_;exact .refl _
      .refine Qah h (λo3 ho hk=>?_);refine Exists.intro (JP1 _ _ o3 .normal (Qaaj p0 p1 p2)) (And.intro ?_ (Qaz ?_))
       .have h:=ho;refine Qac h (λhb h=>?_) (λhb h=>?_)
        .exact JP1.a h (Le.ty 1 0)
        .exact JP1.a h (Le.ty 1 0)
       .have h:=hk;refine Qac h (λhb h=>?_) (λhb h=>?_)
        .refine Qah h (λo4 ho hk=>?_);refine Exists.intro (JP2 _ _ o4 (.exit 1) (Qv0 p0 p1 p2) .ret (Qv1 p0 p1 p2)) (And.intro (Qf5 (τ := Qo2 p0 p1 p2 [] 0) ?_ (TL.loop (iQkw p0 [] 0 o4 ho))) (Qer (λy5 hy=>?_) (λy6 hy=>?_)))
         .exact Le.trans (τ := ⟨[(1,.p (.sl false (p1.map Qat))),(2,.p (.sl false (p2.map cStr))),(3,.ptr 0 0),(8,.p (.sl true [])),(9,.p (iV 0))],⟨[[.p (iV p0.Kind),.p (sV p0.Name),.p (sV p0.Text),.p (iV p0.N),.p (.sl false (p0.L.map Qaa)),.p (.sl false (p0.Then.map Qaa)),.p (.sl false (p0.Else.map Qaa))]],[]⟩⟩) (Le.ty 1 0) ((Le.own 8 44 1 rfl Qv8).trans (Le.ty 1 1))
         .have h:=(by rw[hy] at hk; exact hk);refine Qac h (λhb h=>?_) (λhb h=>?_)
          .refine Qam [sV p0.Name,.sl false (y5.map cInt)] Qug h (λx10 hy=>(Qagr p0.Name y5 x10 hy)) (λx10 hy h=>?_);refine Qak (t:=Qc7) h ?_;exact .refl _
          .refine view (Qau _ _) rfl ?_;refine Qac h (λhb h=>?_) (λhb h=>?_)
           .refine And.intro (by decide +kernel) (And.intro rfl ?_);refine Qay (l:=y5) (c:=cInt) (c' := cInt) h (λ_=>rfl) (λ_=>rfl) (by decide) (λx11 hi h=>?_);refine Qcf [iV x11,sV p0.Name] Qqt h (λx12 hy=>(Qaef x11 p0.Name x12 hy)) (λx12 hy h=>?_);refine Qak (t:=Qc7) h ?_;exact .refl _
           .refine Qak (t:=Qc7) h ?_;exact .refl _
         .have h:=(by rw[hy] at hk; exact hk);refine Qak (t:=Qc7) h ?_;exact .refl _
        .refine Qak (t:=Qc7) h ?_;exact .refl _
 .intro Qof' Qkw' iQof iQkw p0 v8 v9 o4 h;refine TL.round (Qan mixed tbOk (lv:=Q3q) _ _ _ ?_);refine view (Qau _ _) rfl ?_;refine Qac h (λhb h=>?_) (λhb h=>?_)
  .refine Qay (l:=p0.L) (c:=Qaa) (c' := Qa1) h Qao (λ_=>rfl) (by decide) (λx7 hi h=>?_);refine Qam [.agg [iV x7.Kind,sV x7.Name,sV x7.Text,iV x7.N,.sl false (x7.L.map Qaa),.sl false (x7.Then.map Qaa),.sl false (x7.Else.map Qaa)],.sl false (p1.map Qat),.sl false (p2.map cStr)] Qc7 h (λx8 hy=>(iQof x7 x8 hy)) (λx8 hy h=>?_);refine Qac h (λhb h=>?_) (λhb h=>?_)
   .exact JP2.b h (Le.ty 1 0)
   .refine Qhp (a:=v8) (b:=[x8.1]) (c:=cInt) h (.refl _) (λ_=>rfl) rfl (λx9 hi h=>?_);refine TL.le (τ := Qo2 p0 p1 p2 x9 (wr (v9+1))) ?_ ((iQkw p0 x9 (wr (v9+1)) _ h));exact Le.ty 1 1
  .exact JP2.a h (Le.ty 1 1)
theorem Qagu:∀ (p0:Qab) (p1:(List Qaj)) (p2:(List (List UInt8))) (o:Int×Bool),Qof p0 p1 p2=some o->PCall Tryz.prog 92 [.agg [iV p0.Kind,sV p0.Name,sV p0.Text,iV p0.N,.sl false (p0.L.map Qaa),.sl false (p0.Then.map Qaa),.sl false (p0.Else.map Qaa)],.sl false (p1.map Qat),.sl false (p2.map cStr)] (Qc7 o):=λp0 p1 p2=>(Qaej p1 p2).1 p0
mutual
def Qg2 (p0:(List Qae)) (p1:(List UInt8)) (p2:(List Qab)) (p3:(List Qaj)) (p4:(List (List UInt8))):Option ((List UInt8)×Bool) :=
 (Qeb p0 p1 p2 p3 p4 0)>>=λo1 =>
 match o1 with
 | .inl y2 =>
  some ([],true)
 | .inr y3 =>
  some (y3,false)
 partial_fixpoint
def Qeb (p0:(List Qae)) (p1:(List UInt8)) (p2:(List Qab)) (p3:(List Qaj)) (p4:(List (List UInt8))) (v12:Int):Option (Unit⊕(List UInt8)) :=
 if(decide (v12<(p2.length:Int))) then
  idx p2 v12>>=λx4 =>
  if(x4.Kind==8) then
   Qeb p0 p1 p2 p3 p4 (wr (v12+1))
  else
   idx x4.L 0>>=λx5 =>
   Qof x5 p3 p4>>=λx6 =>
   Quj x6.1>>=λx7 =>
   ( if(!x6.2) then
     some true
    else
     if(x4.Kind==9) then
      Qpz x6.1>>=λx9 =>
      if(!x9) then
       some true
      else
       if(x4.Kind==10) then
        if(x6.1 != 3) then
         some true
        else
         if(x4.Kind==11) then
          some (!x7.2)
         else
          some false
       else
        if(x4.Kind==11) then
         some (!x7.2)
        else
         some false
     else
      if(x4.Kind==10) then
       if(x6.1 != 3) then
        some true
       else
        if(x4.Kind==11) then
         some (!x7.2)
        else
         some false
      else
       if(x4.Kind==11) then
        some (!x7.2)
       else
        some false:Option (Bool))>>=λo8 =>
   if o8 then
    some (.inr p1)
   else
    appL 32 [] p3>>=λx10 =>
    ( if(x4.Kind==11) then
      appL 32 x10 [(Qaj.mk x4.Name x7.1 false)]>>=λx12 =>
      some x12
     else
      some x10:Option ((List Qaj)))>>=λo11 =>
    ( if(x4.Kind==12) then
      appL 32 o11 [(Qaj.mk x4.Name x6.1 false)]>>=λx14 =>
      some x14
     else
      some o11:Option ((List Qaj)))>>=λo13 =>
    Qg2 p0 p1 x4.Then o13 p4>>=λx15 =>
    if(!x15.2) then
     some (.inr x15.1)
    else
     Qg2 p0 p1 x4.Else p3 p4>>=λx16 =>
     if(!x16.2) then
      some (.inr x16.1)
     else
      if(x4.Kind==13) then
       Qh3 p0 x4.Name>>=λx17 =>
       Qg2 p0 x4.Name x17.1 ([(Qaj.mk [103,114,111,117,112] 6 false),(Qaj.mk [105,116] x6.1 false)]) p4>>=λx18 =>
       if(!x18.2) then
        some (.inr x18.1)
       else
        Qeb p0 p1 p2 p3 p4 (wr (v12+1))
      else
       Qeb p0 p1 p2 p3 p4 (wr (v12+1))
 else
  some (.inl ())
 partial_fixpoint
end
theorem Qaao:∀ (p0:(List Qae)) (p4:(List (List UInt8))),(∀ (p1:(List UInt8)) (p2:(List Qab)) (p3:(List Qaj)) (o:(List UInt8)×Bool),Qg2 p0 p1 p2 p3 p4=some o->PCall Tryz.prog 68 [.sl false (p0.map Qaf),sV p1,.sl false (p2.map Qaa),.sl false (p3.map Qat),.sl false (p4.map cStr)] (Qgx o))/\(∀ (p1:(List UInt8)) (p2:(List Qab)) (p3:(List Qaj)) (v12:Int) (o1:Unit⊕(List UInt8)),Qeb p0 p1 p2 p3 p4 v12=some o1->TL (0,0) Tryz.prog 161 Q5t (JP2 (0,0) 161 o1 (.exit 0) (Qto p0 p1 p2 p3 p4) .ret (Qtp p0 p1 p2 p3 p4)) (Qgy p0 p1 p2 p3 p4 v12)):=by
 intro p0 p4;refine Qg2.mutual_partial_correctness p0 p4 _ _ ?_ ?_
 .intro Qeb' iQeb p1 p2 p3 o h;refine PCall.ofY Qzy Tryz.func68 ?_;refine Qah h (λo1 ho hk=>?_);refine Exists.intro (JP2 _ _ o1 (.exit 0) (Qto p0 p1 p2 p3 p4) .ret (Qtp p0 p1 p2 p3 p4)) (And.intro (Qf5 (τ := Qgy p0 p1 p2 p3 p4 0) ?_ (TL.loop (iQeb p1 p2 p3 0 o1 ho))) (Qer (λy2 hy=>?_) (λy3 hy=>?_)))
  .exact Le.ty 0 0
  .have h:=(by rw[hy] at hk; exact hk);refine Qak (t:=Qgx) h ?_;exact .refl _
  .have h:=(by rw[hy] at hk; exact hk);refine Qak (t:=Qgx) h ?_;exact .refl _
 .intro Qg2' Qeb' iQg2 iQeb p1 p2 p3 v12 o1 h;refine TL.round (Qan mixed tbOk (lv:=Qzy) _ _ _ ?_);refine view (Qau _ _) rfl ?_;refine Qac h (λhb h=>?_) (λhb h=>?_)
  .refine Qay (l:=p2) (c:=Qaa) (c' := Qa1) h Qao (λ_=>rfl) (by decide) (λx4 hi h=>?_);refine Qac h (λhb h=>?_) (λhb h=>?_)
   .refine TL.le (τ := Qgy p0 p1 p2 p3 p4 (wr (v12+1))) ?_ ((iQeb p1 p2 p3 (wr (v12+1)) _ h));exact Le.ty 0 0
   .refine Qay (l:=x4.L) (c:=Qaa) (c' := Qa1) h Qao (λ_=>rfl) (by decide) (λx5 hi h=>?_);refine Qam [.agg [iV x5.Kind,sV x5.Name,sV x5.Text,iV x5.N,.sl false (x5.L.map Qaa),.sl false (x5.Then.map Qaa),.sl false (x5.Else.map Qaa)],.sl false (p3.map Qat),.sl false (p4.map cStr)] Qc7 h (λx6 hy=>(Qagu x5 p3 p4 x6 hy)) (λx6 hy h=>?_);refine Qam [iV x6.1] Qmn h (λx7 hy=>(Qags x6.1 x7 hy)) (λx7 hy h=>?_);refine Qah h (λo8 ho hk=>?_);refine Exists.intro (JP1 _ _ o8 .normal (Q5q p0 p1 p2 p3 p4 v12 x4 x6 x7)) (And.intro ?_ (Qaz ?_))
    .have h:=ho;refine Qac h (λhb h=>?_) (λhb h=>?_)
     .refine bT ?_;refine bT ?_;exact JP1.a h (Le.ty 1 0)
     .refine Qac h (λhb h=>?_) (λhb h=>?_)
      .refine Qam [iV x6.1] Qwv h (λx9 hy=>(Qaeh x6.1 x9 hy)) (λx9 hy h=>?_);refine Qac h (λhb h=>?_) (λhb h=>?_)
       .refine bT ?_;exact JP1.a h (Le.ty 1 0)
       .refine Qac h (λhb h=>?_) (λhb h=>?_)
        .refine Qac h (λhb h=>?_) (λhb h=>?_)
         .exact JP1.a h (Le.ty 1 0)
         .refine Qac h (λhb h=>?_) (λhb h=>?_)
          .exact JP1.a h (Le.ty 1 0)
          .exact JP1.a h (Le.ty 1 0)
        .refine bF ?_;refine Qac h (λhb h=>?_) (λhb h=>?_)
         .exact JP1.a h (Le.ty 1 0)
         .exact JP1.a h (Le.ty 1 0)
      .refine bF ?_;refine Qac h (λhb h=>?_) (λhb h=>?_)
       .refine Qac h (λhb h=>?_) (λhb h=>?_)
        .exact JP1.a h (Le.ty 1 0)
        .refine Qac h (λhb h=>?_) (λhb h=>?_)
         .exact JP1.a h (Le.ty 1 0)
         .exact JP1.a h (Le.ty 1 0)
       .refine bF ?_;refine Qac h (λhb h=>?_) (λhb h=>?_)
        .exact JP1.a h (Le.ty 1 0)
        .exact JP1.a h (Le.ty 1 0)
    .have h:=hk;refine Qac h (λhb h=>?_) (λhb h=>?_)
     .exact JP2.b h (Le.ty 0 0)
     .refine Qafw (a:=([]:List Qaj)) (b:=p3) (c:=Qat) h (.refl _) (.refl _) (λ_=>rfl) (.inl rfl) (λx10 hi h=>?_);refine Qah h (λo11 ho hk=>?_);refine Exists.intro (JP1 _ _ o11 .normal (Q5r p0 p1 p2 p3 p4 v12 x4 x6)) (And.intro ?_ (Qaz ?_))
      .have h:=ho;refine Qac h (λhb h=>?_) (λhb h=>?_)
       .refine Qhp (a:=x10) (b:=[(Qaj.mk x4.Name x7.1 false)]) (c:=Qat) h (.refl _) (λ_=>rfl) rfl (λx12 hi h=>?_);exact JP1.a h (Le.ty 1 1)
       .exact JP1.a h (Le.ty 1 1)
      .have h:=hk;refine Qah h (λo13 ho hk=>?_);refine Exists.intro (JP1 _ _ o13 .normal (Q5s p0 p1 p2 p3 p4 v12 x4 x6)) (And.intro ?_ (Qaz ?_))
       .have h:=ho;refine Qac h (λhb h=>?_) (λhb h=>?_)
        .refine Qhp (a:=o11) (b:=[(Qaj.mk x4.Name x6.1 false)]) (c:=Qat) h (.refl _) (λ_=>rfl) rfl (λx14 hi h=>?_);exact JP1.a h (Le.ty 1 1)
        .exact JP1.a h (Le.ty 1 1)
       .have h:=hk;refine Qam [.sl false (p0.map Qaf),sV p1,.sl false (x4.Then.map Qaa),.sl false (o13.map Qat),.sl false (p4.map cStr)] Qgx h (λx15 hy=>(iQg2 p1 x4.Then o13 x15 hy)) (λx15 hy h=>?_);refine Qac h (λhb h=>?_) (λhb h=>?_)
        .exact JP2.b h (Le.ty 0 0)
        .refine Qam [.sl false (p0.map Qaf),sV p1,.sl false (x4.Else.map Qaa),.sl false (p3.map Qat),.sl false (p4.map cStr)] Qgx h (λx16 hy=>(iQg2 p1 x4.Else p3 x16 hy)) (λx16 hy h=>?_);refine Qac h (λhb h=>?_) (λhb h=>?_)
         .exact JP2.b h (Le.ty 0 0)
         .refine Qac h (λhb h=>?_) (λhb h=>?_)
          .refine Qam [.sl false (p0.map Qaf),sV x4.Name] Qes h (λx17 hy=>(Qgh p0 x4.Name x17 hy)) (λx17 hy h=>?_);refine Qam [.sl false (p0.map Qaf),sV x4.Name,.sl false (x17.1.map Qaa),.sl true [[sV [103,114,111,117,112],iV 6,bV false],[sV [105,116],iV x6.1,bV false]],.sl false (p4.map cStr)] Qgx h (λx18 hy=>(iQg2 x4.Name x17.1 ([(Qaj.mk [103,114,111,117,112] 6 false),(Qaj.mk [105,116] x6.1 false)]) x18 hy).weak (.cons (.refl _) (.cons (.refl _) (.cons (.refl _) (.cons (.not) (.cons (.refl _) (.nil))))))) (λx18 hy h=>?_);refine Qac h (λhb h=>?_) (λhb h=>?_)
           .exact JP2.b h (Le.ty 0 0)
           .refine TL.le (τ := Qgy p0 p1 p2 p3 p4 (wr (v12+1))) ?_ ((iQeb p1 p2 p3 (wr (v12+1)) _ h));exact Le.ty 0 0
          .refine TL.le (τ := Qgy p0 p1 p2 p3 p4 (wr (v12+1))) ?_ ((iQeb p1 p2 p3 (wr (v12+1)) _ h));exact Le.ty 0 0
  .exact JP2.a h (Le.ty 0 0)
theorem Qaek:∀ (p0:(List Qae)) (p1:(List UInt8)) (p2:(List Qab)) (p3:(List Qaj)) (p4:(List (List UInt8))) (o:(List UInt8)×Bool),Qg2 p0 p1 p2 p3 p4=some o->PCall Tryz.prog 68 [.sl false (p0.map Qaf),sV p1,.sl false (p2.map Qaa),.sl false (p3.map Qat),.sl false (p4.map cStr)] (Qgx o):=λp0 p1 p2 p3 p4=>(Qaao p0 p4).1 p1 p2 p3
def Qtu (p0:(List Qae)) (p1:(List UInt8)) (p2:(List (List UInt8))):Option ((List UInt8)×Int) :=
 Qpl p0>>=λx1 =>
 if(x1.2 != 0) then
  some (x1.1,x1.2)
 else
  Qh3 p0 p1>>=λx2 =>
  if(!x2.2) then
   some ([],4)
  else
   Qg2 p0 p1 x2.1 ([(Qaj.mk [103,114,111,117,112] 6 false)]) p2>>=λx3 =>
   if(!x3.2) then
    some (x3.1,201)
   else
    some ([],0)
theorem Qael:∀ (p0:(List Qae)) (p1:(List UInt8)) (p2:(List (List UInt8))) (o:(List UInt8)×Int),Qtu p0 p1 p2=some o->PCall Tryz.prog 36 [.sl false (p0.map Qaf),sV p1,.sl false (p2.map cStr)] (Qkv o):=by
 intro p0 p1 p2 o h;unfold Qtu at h;refine PCall.ofY Qaec Tryz.func36 ?_;refine Qam [.sl false (p0.map Qaf)] Qgc h (λx1 hy=>(Qzq p0 x1 hy)) (λx1 hy h=>?_);refine Qac h (λhb h=>?_) (λhb h=>?_)
 .refine Qak (t:=Qkv) h ?_;exact .refl _
 .refine Qam [.sl false (p0.map Qaf),sV p1] Qes h (λx2 hy=>(Qgh p0 p1 x2 hy)) (λx2 hy h=>?_);refine Qac h (λhb h=>?_) (λhb h=>?_)
  .refine Qak (t:=Qkv) h ?_;exact .refl _
  .refine Qam [.sl false (p0.map Qaf),sV p1,.sl false (x2.1.map Qaa),.sl true [[sV [103,114,111,117,112],iV 6,bV false]],.sl false (p2.map cStr)] Qgx h (λx3 hy=>(Qaek p0 p1 x2.1 ([(Qaj.mk [103,114,111,117,112] 6 false)]) p2 x3 hy).weak (.cons (.refl _) (.cons (.refl _) (.cons (.refl _) (.cons (.not) (.cons (.refl _) (.nil))))))) (λx3 hy h=>?_);refine Qac h (λhb h=>?_) (λhb h=>?_)
   .refine Qak (t:=Qkv) h ?_;exact .refl _
   .refine Qak (t:=Qkv) h ?_;exact .refl _
def Qya (p0:Int):Option ((List UInt8)) :=
 some (Q0l p0)
theorem Qaem:∀ (p0:Int) (o:(List UInt8)),Qya p0=some o->PCall Tryz.prog 118 [iV p0] (Q3w o):=by
 intro p0 o h;unfold Qya at h;cases h;exact Qapd _
def Qfn (p0:Qab) (p1:(List Qaj)) (v8:Int):Option (Unit⊕(Int×Bool)) :=
 if(decide (v8 >= 0)) then
  idx p1 v8>>=λx4 =>
  if(x4.Name==p0.Name) then
   Qya x4.K>>=λx5 =>
   some (.inr (x4.K,(!(x5==[]))))
  else
   Qfn p0 p1 (wr (v8-1))
 else
  some (.inl ())
 partial_fixpoint
theorem Qaj8:∀ (p0:Qab) (p1:(List Qaj)),(∀ (v8:Int) (o1:Unit⊕(Int×Bool)),Qfn p0 p1 v8=some o1->TL (0,0) Tryz.prog 97 Q3r (JP2 (0,0) 97 o1 (.exit 1) (Qrk p0 p1) .ret (Qrl p0 p1)) (Ql1 p0 p1 v8)):=by
 intro p0 p1;refine Qfn.partial_correctness p0 p1 _ ?_;intro Qfn' iQfn v8 o1 h;refine TL.round (Qan mixed tbOk (lv:=Qqv) _ _ _ ?_);refine Qac h (λhb h=>?_) (λhb h=>?_)
 .refine Qay (l:=p1) (c:=Qat) (c' := Qat) h (λ_=>rfl) (λ_=>rfl) (by decide) (λx4 hi h=>?_);refine Qac h (λhb h=>?_) (λhb h=>?_)
  .refine And.intro (by decide +kernel) (And.intro rfl ?_);refine Qcf [iV x4.K] Q3w h (λx5 hy=>(Qaem x4.K x5 hy)) (λx5 hy h=>?_);exact JP2.b h (Le.ty 1 0)
  .refine TL.le (τ := Ql1 p0 p1 (wr (v8-1))) ?_ ((iQfn (wr (v8-1)) _ h));exact Le.ty 1 0
 .exact JP2.a h (Le.ty 1 0)
def Qa6 (p0:(List Int)) (p1:(List Int)) (v13:Int):Option (Unit⊕Unit) :=
 if(decide (v13<(p0.length:Int))) then
  idx p0 v13>>=λx4 =>
  idx p1 v13>>=λx5 =>
  if(x4 != x5) then
   some (.inr ())
  else
   Qa6 p0 p1 (wr (v13+1))
 else
  some (.inl ())
 partial_fixpoint
theorem Qu9:∀ (p0:(List Int)) (p1:(List Int)),(∀ (v13:Int) (o1:Unit⊕Unit),Qa6 p0 p1 v13=some o1->TL (0,0) Tryz.prog 26 Qil (JP2 (0,0) 26 o1 (.exit 0) (Qdn p0 p1) .ret (Qdo p0 p1)) (Qce p0 p1 v13)):=by
 intro p0 p1;refine Qa6.partial_correctness p0 p1 _ ?_;intro Qa6' iQa6 v13 o1 h;refine TL.round (Qan mixed tbOk (lv:=Qea) _ _ _ ?_);refine Qac h (λhb h=>?_) (λhb h=>?_)
 .refine And.intro (by decide +kernel) (And.intro rfl ?_);refine Qay (l:=p0) (c:=cInt) (c' := cInt) h (λ_=>rfl) (λ_=>rfl) (by decide) (λx4 hi h=>?_);refine Qay (l:=p1) (c:=cInt) (c' := cInt) h (λ_=>rfl) (λ_=>rfl) (by decide) (λx5 hi h=>?_);refine Qac h (λhb h=>?_) (λhb h=>?_)
  .exact JP2.b h (Le.ty 0 0)
  .refine TL.le (τ := Qce p0 p1 (wr (v13+1))) ?_ ((iQa6 (wr (v13+1)) _ h));exact Le.ty 0 0
 .exact JP2.a h (Le.ty 0 0)
def Qbp (p0:(List Int)) (p1:(List Int)):Option (Bool) :=
 if((p0.length:Int) != (p1.length:Int)) then
  some false
 else
  (Qa6 p0 p1 0)>>=λo1 =>
  match o1 with
  | .inl y2 =>
   some true
  | .inr y3 =>
   some false
theorem Qjo:∀ (p0:(List Int)) (p1:(List Int)) (o:Bool),Qbp p0 p1=some o->PCall Tryz.prog 148 [.sl false (p0.map cInt),.sl false (p1.map cInt)] (Qbl o):=by
 intro p0 p1 o h;unfold Qbp at h;refine PCall.ofY Qea Tryz.func148 ?_;refine view (Qau _ _) rfl ?_;refine view (Qau _ _) rfl ?_;refine Qac h (λhb h=>?_) (λhb h=>?_)
 .refine Qak (t:=Qbl) h ?_;exact .refl _
 .refine view (Qau _ _) rfl ?_;refine Qah h (λo1 ho hk=>?_);refine Exists.intro (JP2 _ _ o1 (.exit 0) (Qdn p0 p1) .ret (Qdo p0 p1)) (And.intro (Qf5 (τ := Qce p0 p1 0) ?_ (TL.loop (Qu9 p0 p1 0 o1 ho))) (Qer (λy2 hy=>?_) (λy3 hy=>?_)))
  .exact Le.ty 0 0
  .have h:=(by rw[hy] at hk; exact hk);refine Qak (t:=Qbl) h ?_;exact .refl _
  .have h:=(by rw[hy] at hk; exact hk);refine Qak (t:=Qbl) h ?_;exact .refl _
def Qbj (p0:Int) (p1:(List Int)) (h0_0:(List Int)):Option (Int×Bool) :=
 Qbp h0_0 p1>>=λx1 =>
 if(!x1) then
  some (0,false)
 else
  some (p0,true)
theorem Qbk:∀ (p0:Int) (p1:(List Int)) (h0_0:(List Int)) (o:Int×Bool),Qbj p0 p1 h0_0=some o->CallOK Tryz.prog 147 [.p (iV p0),.p (.sl false (p1.map cInt)),.ptr 0 0] ⟨[[.p (.sl false (h0_0.map cInt))]],[]⟩ (Qqw o) ⟨[[.p (.sl false (h0_0.map cInt))]],[]⟩:=by
 intro p0 p1 h0_0 o h;unfold Qbj at h;refine CallOK.ofB mixed tbOk Q52 Tryz.func147 rfl (by kernel_rfl) (Nat.le_of_ble_eq_true rfl) rfl rfl rfl ?_;refine Qam [.sl false (h0_0.map cInt),.sl false (p1.map cInt)] Qbl h (λx1 hy=>(Qjo h0_0 p1 x1 hy)) (λx1 hy h=>?_);refine Qac h (λhb h=>?_) (λhb h=>?_)
 .refine Exists.intro _ (And.intro (Le.refl _ _ _) ?_);exact Qb3 (t:=Qqw) (ss:=λo=>⟨[[.p (.sl false (h0_0.map cInt))]],[]⟩) h ⟨[],rfl,.refl _,.refl _,rfl⟩
 .refine Exists.intro _ (And.intro (Le.refl _ _ _) ?_);exact Qb3 (t:=Qqw) (ss:=λo=>⟨[[.p (.sl false (h0_0.map cInt))]],[]⟩) h ⟨[],rfl,.refl _,.refl _,rfl⟩
def Qlj (p0:Int):Option (Int×Bool) :=
 if(p0==7) then
  some (1,true)
 else
  if(p0==8) then
   some (4,true)
  else
   if(p0==9) then
    some (5,true)
   else
    some (0,false)
theorem Qz0:∀ (p0:Int) (o:Int×Bool),Qlj p0=some o->PCall Tryz.prog 90 [iV p0] (Qij o):=by
 intro p0 o h;unfold Qlj at h;refine PCall.ofY Qaee Tryz.func90 ?_;refine Qac h (λhb h=>?_) (λhb h=>?_)
 .refine Qak (t:=Qij) h ?_;exact .refl _
 .refine Qac h (λhb h=>?_) (λhb h=>?_)
  .refine Qak (t:=Qij) h ?_;exact .refl _
  .refine Qac h (λhb h=>?_) (λhb h=>?_)
   .refine Qak (t:=Qij) h ?_;exact .refl _
   .refine Qak (t:=Qij) h ?_;exact .refl _
def Qi0 (p0:Int):Option (Bool) :=
 ( if(decide (p0 >= 1)) then
   some (decide (p0<=3))
  else
   some false:Option (Bool))>>=λo1 =>
 some o1
theorem Qyb:∀ (p0:Int) (o:Bool),Qi0 p0=some o->PCall Tryz.prog 89 [iV p0] (Qoe o):=by
 intro p0 o h;unfold Qi0 at h;refine PCall.ofY Qaal Tryz.func89 ?_;refine Qah h (λo1 ho hk=>?_);refine Exists.intro (JP1 _ _ o1 .normal (Q3x )) (And.intro ?_ (Qaz ?_))
 .have h:=ho;refine Qac h (λhb h=>?_) (λhb h=>?_)
  .exact JP1.a h (Le.ty 0 0)
  .exact JP1.a h (Le.ty 0 0)
 .have h:=hk;refine Qak (t:=Qoe) h ?_;exact .refl _
def Qec (p0:(List UInt8)) (p1:(List Int)):Option (Int×Bool) :=
 ( if(p0==[117,112,112,101,114]) then
   some (p0==[117,112,112,101,114])
  else
   if(p0==[108,111,119,101,114]) then
    some (p0==[108,111,119,101,114])
   else
    some (p0==[116,114,105,109]):Option (Bool))>>=λo1 =>
 if o1 then
  Qbj 1 [1] p1>>=λx2 =>
  some (x2.1,x2.2)
 else
  if(p0==[115,105,122,101]) then
   Qbj 2 [1] p1>>=λx3 =>
   some (x3.1,x3.2)
  else
   ( if(p0==[102,105,114,115,116]) then
     some (p0==[102,105,114,115,116])
    else
     some (p0==[108,97,115,116]):Option (Bool))>>=λo4 =>
   if o4 then
    Qbj 1 [1,2] p1>>=λx5 =>
    some (x5.1,x5.2)
   else
    ( if(p0==[100,101,102,97,117,108,116]) then
      some (p0==[100,101,102,97,117,108,116])
     else
      some (p0==[99,97,116]):Option (Bool))>>=λo6 =>
    if o6 then
     Qbj 1 [1,1] p1>>=λx7 =>
     some (x7.1,x7.2)
    else
     if(p0==[114,101,112,108,97,99,101]) then
      Qbj 1 [1,1,1] p1>>=λx8 =>
      some (x8.1,x8.2)
     else
      if(p0==[106,111,105,110]) then
       Qbj 1 [7,1] p1>>=λx9 =>
       some (x9.1,x9.2)
      else
       if(p0==[107,101,121,115]) then
        Qbj 7 [8] p1>>=λx10 =>
        some (x10.1,x10.2)
       else
        if(p0==[103,101,116]) then
         Qbj 1 [8,1] p1>>=λx11 =>
         some (x11.1,x11.2)
        else
         if(p0==[104,97,115]) then
          Qbj 3 [8,1] p1>>=λx12 =>
          some (x12.1,x12.2)
         else
          if(p0==[99,111,117,110,116]) then
           if((p1.length:Int)==1) then
            idx p1 0>>=λx13 =>
            Qlj x13>>=λx14 =>
            if x14.2 then
             some (2,true)
            else
             some (0,false)
           else
            some (0,false)
          else
           if(p0==[119,114,105,116,101]) then
            ( if((p1.length:Int)==1) then
              idx p1 0>>=λx16 =>
              some (x16==3)
             else
              some false:Option (Bool))>>=λo15 =>
            if o15 then
             some (1,true)
            else
             Qbj 1 [2] p1>>=λx17 =>
             some (x17.1,x17.2)
           else
            if(p0==[115,97,109,101]) then
             ( if((p1.length:Int)==2) then
               idx p1 0>>=λx19 =>
               idx p1 1>>=λx20 =>
               if(x19==x20) then
                idx p1 0>>=λx21 =>
                Qi0 x21>>=λx22 =>
                some x22
               else
                some false
              else
               some false:Option (Bool))>>=λo18 =>
             if o18 then
              some (3,true)
             else
              some (0,false)
            else
             if(p0==[108,101,115,115]) then
              Qbj 3 [2,2] p1>>=λx23 =>
              some (x23.1,x23.2)
             else
              if(p0==[97,100,100]) then
               Qbj 2 [2,2] p1>>=λx24 =>
               some (x24.1,x24.2)
              else
               if(p0==[115,117,98]) then
                Qbj 2 [2,2] p1>>=λx25 =>
                some (x25.1,x25.2)
               else
                ( if(p0==[98,111,116,104]) then
                  some (p0==[98,111,116,104])
                 else
                  some (p0==[101,105,116,104,101,114]):Option (Bool))>>=λo26 =>
                if o26 then
                 Qbj 3 [3,3] p1>>=λx27 =>
                 some (x27.1,x27.2)
                else
                 if(p0==[110,111,116]) then
                  Qbj 3 [3] p1>>=λx28 =>
                  some (x28.1,x28.2)
                 else
                  some (0,false)
theorem Qaen:∀ (p0:(List UInt8)) (p1:(List Int)) (o:Int×Bool),Qec p0 p1=some o->PCall Tryz.prog 119 [sV p0,.sl false (p1.map cInt)] (Qbb o):=by
 intro p0 p1 o h;unfold Qec at h;refine PCall.ofY Qaed Tryz.func119 ?_;refine Qah h (λo1 ho hk=>?_);refine Exists.intro (JP1 _ _ o1 .normal (Q5w p0 p1)) (And.intro ?_ (Qaz ?_))
 .have h:=ho;refine Qac h (λhb h=>?_) (λhb h=>?_)
  .exact JP1.a h (Le.ty 1 0)
  .refine Qac h (λhb h=>?_) (λhb h=>?_)
   .exact JP1.a h (Le.ty 1 0)
   .exact JP1.a h (Le.ty 1 0)
 .have h:=hk;refine Qac h (λhb h=>?_) (λhb h=>?_)
  .refine Qaq _ _ h (λx2 hy=>((Qbk 1 [1] p1 x2 hy).fr [0] [] rfl rfl rfl).weakC (.cons (.refl _) (.cons (.p (.not)) (.cons (.refl _) (.nil))))) (λx2 hy h=>?_);refine Qak (t:=Qbb) h ?_;exact .refl _
  .refine Qac h (λhb h=>?_) (λhb h=>?_)
   .refine Qaq _ _ h (λx3 hy=>((Qbk 2 [1] p1 x3 hy).fr [0] [] rfl rfl rfl).weakC (.cons (.refl _) (.cons (.p (.not)) (.cons (.refl _) (.nil))))) (λx3 hy h=>?_);refine Qak (t:=Qbb) h ?_;exact .refl _
   .refine Qah h (λo4 ho hk=>?_);refine Exists.intro (JP1 _ _ o4 .normal (Q5x p0 p1)) (And.intro ?_ (Qaz ?_))
    .have h:=ho;refine Qac h (λhb h=>?_) (λhb h=>?_)
     .exact JP1.a h (Le.ty 1 0)
     .exact JP1.a h (Le.ty 1 0)
    .have h:=hk;refine Qac h (λhb h=>?_) (λhb h=>?_)
     .refine Qaq _ _ h (λx5 hy=>((Qbk 1 [1,2] p1 x5 hy).fr [0] [] rfl rfl rfl).weakC (.cons (.refl _) (.cons (.p (.not)) (.cons (.refl _) (.nil))))) (λx5 hy h=>?_);refine Qak (t:=Qbb) h ?_;exact .refl _
     .refine Qah h (λo6 ho hk=>?_);refine Exists.intro (JP1 _ _ o6 .normal (Q5y p0 p1)) (And.intro ?_ (Qaz ?_))
      .have h:=ho;refine Qac h (λhb h=>?_) (λhb h=>?_)
       .exact JP1.a h (Le.ty 1 0)
       .exact JP1.a h (Le.ty 1 0)
      .have h:=hk;refine Qac h (λhb h=>?_) (λhb h=>?_)
       .refine Qaq _ _ h (λx7 hy=>((Qbk 1 [1,1] p1 x7 hy).fr [0] [] rfl rfl rfl).weakC (.cons (.refl _) (.cons (.p (.not)) (.cons (.refl _) (.nil))))) (λx7 hy h=>?_);refine Qak (t:=Qbb) h ?_;exact .refl _
       .refine Qac h (λhb h=>?_) (λhb h=>?_)
        .refine Qaq _ _ h (λx8 hy=>((Qbk 1 [1,1,1] p1 x8 hy).fr [0] [] rfl rfl rfl).weakC (.cons (.refl _) (.cons (.p (.not)) (.cons (.refl _) (.nil))))) (λx8 hy h=>?_);refine Qak (t:=Qbb) h ?_;exact .refl _
        .refine Qac h (λhb h=>?_) (λhb h=>?_)
         .refine Qaq _ _ h (λx9 hy=>((Qbk 1 [7,1] p1 x9 hy).fr [0] [] rfl rfl rfl).weakC (.cons (.refl _) (.cons (.p (.not)) (.cons (.refl _) (.nil))))) (λx9 hy h=>?_);refine Qak (t:=Qbb) h ?_;exact .refl _
         .refine Qac h (λhb h=>?_) (λhb h=>?_)
          .refine Qaq _ _ h (λx10 hy=>((Qbk 7 [8] p1 x10 hy).fr [0] [] rfl rfl rfl).weakC (.cons (.refl _) (.cons (.p (.not)) (.cons (.refl _) (.nil))))) (λx10 hy h=>?_);refine Qak (t:=Qbb) h ?_;exact .refl _
          .refine Qac h (λhb h=>?_) (λhb h=>?_)
           .refine Qaq _ _ h (λx11 hy=>((Qbk 1 [8,1] p1 x11 hy).fr [0] [] rfl rfl rfl).weakC (.cons (.refl _) (.cons (.p (.not)) (.cons (.refl _) (.nil))))) (λx11 hy h=>?_);refine Qak (t:=Qbb) h ?_;exact .refl _
           .refine Qac h (λhb h=>?_) (λhb h=>?_)
            .refine Qaq _ _ h (λx12 hy=>((Qbk 3 [8,1] p1 x12 hy).fr [0] [] rfl rfl rfl).weakC (.cons (.refl _) (.cons (.p (.not)) (.cons (.refl _) (.nil))))) (λx12 hy h=>?_);refine Qak (t:=Qbb) h ?_;exact .refl _
            .refine Qac h (λhb h=>?_) (λhb h=>?_)
             .refine view (Qau _ _) rfl ?_;refine Qac h (λhb h=>?_) (λhb h=>?_)
              .refine Qay (l:=p1) (c:=cInt) (c' := cInt) h (λ_=>rfl) (λ_=>rfl) (by decide) (λx13 hi h=>?_);refine Qam [iV x13] Qij h (λx14 hy=>(Qz0 x13 x14 hy)) (λx14 hy h=>?_);refine Qac h (λhb h=>?_) (λhb h=>?_)
               .refine Qak (t:=Qbb) h ?_;exact .refl _
               .refine Qak (t:=Qbb) h ?_;exact .refl _
              .refine Qak (t:=Qbb) h ?_;exact .refl _
             .refine Qac h (λhb h=>?_) (λhb h=>?_)
              .refine Qah h (λo15 ho hk=>?_);refine Exists.intro (JP1 _ _ o15 .normal (Q5z p1)) (And.intro ?_ (Qaz ?_))
               .have h:=ho;refine view (Qau _ _) rfl ?_;refine Qac h (λhb h=>?_) (λhb h=>?_)
                .refine Qay (l:=p1) (c:=cInt) (c' := cInt) h (λ_=>rfl) (λ_=>rfl) (by decide) (λx16 hi h=>?_);exact JP1.a h (Le.ty 1 0)
                .exact JP1.a h (Le.ty 1 0)
               .have h:=hk;refine Qac h (λhb h=>?_) (λhb h=>?_)
                .refine Qak (t:=Qbb) h ?_;exact .refl _
                .refine Qaq _ _ h (λx17 hy=>((Qbk 1 [2] p1 x17 hy).fr [0] [] rfl rfl rfl).weakC (.cons (.refl _) (.cons (.p (.not)) (.cons (.refl _) (.nil))))) (λx17 hy h=>?_);refine Qak (t:=Qbb) h ?_;exact .refl _
              .refine Qac h (λhb h=>?_) (λhb h=>?_)
               .refine Qah h (λo18 ho hk=>?_);refine Exists.intro (JP1 _ _ o18 .normal (Q50 p1)) (And.intro ?_ (Qaz ?_))
                .have h:=ho;refine And.intro (by decide +kernel) (And.intro rfl ?_);refine view (Qau _ _) rfl ?_;refine Qac h (λhb h=>?_) (λhb h=>?_)
                 .refine Qay (l:=p1) (c:=cInt) (c' := cInt) h (λ_=>rfl) (λ_=>rfl) (by decide) (λx19 hi h=>?_);refine Qay (l:=p1) (c:=cInt) (c' := cInt) h (λ_=>rfl) (λ_=>rfl) (by decide) (λx20 hi h=>?_);refine Qac h (λhb h=>?_) (λhb h=>?_)
                  .refine Qay (l:=p1) (c:=cInt) (c' := cInt) h (λ_=>rfl) (λ_=>rfl) (by decide) (λx21 hi h=>?_);refine Qcf [iV x21] Qoe h (λx22 hy=>(Qyb x21 x22 hy)) (λx22 hy h=>?_);exact JP1.a h (Le.ty 1 0)
                  .exact JP1.a h (Le.ty 1 0)
                 .refine bF ?_;exact JP1.a h (Le.ty 1 0)
                .have h:=hk;refine Qac h (λhb h=>?_) (λhb h=>?_)
                 .refine Qak (t:=Qbb) h ?_;exact .refl _
                 .refine Qak (t:=Qbb) h ?_;exact .refl _
               .refine Qac h (λhb h=>?_) (λhb h=>?_)
                .refine Qaq _ _ h (λx23 hy=>((Qbk 3 [2,2] p1 x23 hy).fr [0] [] rfl rfl rfl).weakC (.cons (.refl _) (.cons (.p (.not)) (.cons (.refl _) (.nil))))) (λx23 hy h=>?_);refine Qak (t:=Qbb) h ?_;exact .refl _
                .refine Qac h (λhb h=>?_) (λhb h=>?_)
                 .refine Qaq _ _ h (λx24 hy=>((Qbk 2 [2,2] p1 x24 hy).fr [0] [] rfl rfl rfl).weakC (.cons (.refl _) (.cons (.p (.not)) (.cons (.refl _) (.nil))))) (λx24 hy h=>?_);refine Qak (t:=Qbb) h ?_;exact .refl _
                 .refine Qac h (λhb h=>?_) (λhb h=>?_)
                  .refine Qaq _ _ h (λx25 hy=>((Qbk 2 [2,2] p1 x25 hy).fr [0] [] rfl rfl rfl).weakC (.cons (.refl _) (.cons (.p (.not)) (.cons (.refl _) (.nil))))) (λx25 hy h=>?_);refine Qak (t:=Qbb) h ?_;exact .refl _
                  .refine Qah h (λo26 ho hk=>?_);refine Exists.intro (JP1 _ _ o26 .normal (Q51 p0 p1)) (And.intro ?_ (Qaz ?_))
                   .have h:=ho;refine Qac h (λhb h=>?_) (λhb h=>?_)
                    .exact JP1.a h (Le.ty 1 0)
                    .exact JP1.a h (Le.ty 1 0)
                   .have h:=hk;refine Qac h (λhb h=>?_) (λhb h=>?_)
                    .refine Qaq _ _ h (λx27 hy=>((Qbk 3 [3,3] p1 x27 hy).fr [0] [] rfl rfl rfl).weakC (.cons (.refl _) (.cons (.p (.not)) (.cons (.refl _) (.nil))))) (λx27 hy h=>?_);refine Qak (t:=Qbb) h ?_;exact .refl _
                    .refine Qac h (λhb h=>?_) (λhb h=>?_)
                     .refine Qaq _ _ h (λx28 hy=>((Qbk 3 [3] p1 x28 hy).fr [0] [] rfl rfl rfl).weakC (.cons (.refl _) (.cons (.p (.not)) (.cons (.refl _) (.nil))))) (λx28 hy h=>?_);refine Qak (t:=Qbb) h ?_;exact .refl _
                     .refine Qak (t:=Qbb) h ?_;exact .refl _
def Qfo (p0:Int) (p1:(List UInt8)) (x1:(List Qa8)) (v10:Int):Option (Unit⊕Int) :=
 if(decide (v10<(x1.length:Int))) then
  idx x1 v10>>=λx5 =>
  ( if(x5.of_==p0) then
    some (x5.name_==p1)
   else
    some false:Option (Bool))>>=λo6 =>
  if o6 then
   some (.inr x5.is_)
  else
   Qfo p0 p1 x1 (wr (v10+1))
 else
  some (.inl ())
 partial_fixpoint
theorem Qaj9:∀ (p0:Int) (p1:(List UInt8)) (x1:(List Qa8)),(∀ (v10:Int) (o2:Unit⊕Int),Qfo p0 p1 x1 v10=some o2->TL (0,0) Tryz.prog 27 Q3v (JP2 (0,0) 27 o2 (.exit 0) (Qro p0 p1 x1) .ret (Qrp p0 p1 x1)) (Ql3 p0 p1 x1 v10)):=by
 intro p0 p1 x1;refine Qfo.partial_correctness p0 p1 x1 _ ?_;intro Qfo' iQfo v10 o2 h;refine TL.round (Qan mixed tbOk (lv:=Qx7) _ _ _ ?_);refine Qac h (λhb h=>?_) (λhb h=>?_)
 .refine Qay (l:=x1) (c:=Qli) (c' := Qli) h (λ_=>rfl) (λ_=>rfl) (by decide) (λx5 hi h=>?_);refine Qah h (λo6 ho hk=>?_);refine Exists.intro (JP1 _ _ o6 .normal (Q3u p0 p1 x1 v10 x5)) (And.intro ?_ (Qaz ?_))
  .have h:=ho;refine Qac h (λhb h=>?_) (λhb h=>?_)
   .exact JP1.a h (Le.ty 1 0)
   .exact JP1.a h (Le.ty 1 0)
  .have h:=hk;refine Qac h (λhb h=>?_) (λhb h=>?_)
   .exact JP2.b h (Le.ty 0 0)
   .refine TL.le (τ := Ql3 p0 p1 x1 (wr (v10+1))) ?_ ((iQfo (wr (v10+1)) _ h));exact Le.ty 0 0
 .exact JP2.a h (Le.ty 0 0)
def Quk:Option ((List Qa8)) :=
 some ([(Qa8.mk 4 [107,101,121] 1),(Qa8.mk 4 [118,97,108] 1),(Qa8.mk 5 [102,105,114,105,110,103] 3),(Qa8.mk 5 [115,116,97,114,116,115] 2),(Qa8.mk 5 [118,97,108,117,101] 2),(Qa8.mk 5 [108,97,98,101,108,115] 8),(Qa8.mk 5 [110,111,116,101,115] 8),(Qa8.mk 5 [108,105,110,107] 1),(Qa8.mk 6 [114,101,99,101,105,118,101,114] 1),(Qa8.mk 6 [102,105,114,105,110,103] 3),(Qa8.mk 6 [99,111,109,109,111,110] 8),(Qa8.mk 6 [108,105,110,107] 1),(Qa8.mk 6 [97,108,101,114,116,115] 9)])
theorem Qaap:∀ (o:(List Qa8)),Quk  = some o->PCall Tryz.prog 149 [] (Qts o):=by
 intro o h;unfold Quk at h;refine PCall.ofY Qaam Tryz.func149 ?_;refine Qak (t:=Qts) h ?_;exact .p (.not)
def Qmo (p0:Int) (p1:(List UInt8)):Option (Int×Bool) :=
 Quk>>=λx1 =>
 (Qfo p0 p1 x1 0)>>=λo2 =>
 match o2 with
 | .inl y3 =>
  some (0,false)
 | .inr y4 =>
  some (y4,true)
theorem Qaaq:∀ (p0:Int) (p1:(List UInt8)) (o:Int×Bool),Qmo p0 p1=some o->PCall Tryz.prog 120 [iV p0,sV p1] (Qod o):=by
 intro p0 p1 o h;unfold Qmo at h;refine PCall.ofY Qx7 Tryz.func120 ?_;refine Qam [] Qts h (λx1 hy=>(Qaap x1 hy)) (λx1 hy h=>?_);refine view (Qau _ _) rfl ?_;refine Qah h (λo2 ho hk=>?_);refine Exists.intro (JP2 _ _ o2 (.exit 0) (Qro p0 p1 x1) .ret (Qrp p0 p1 x1)) (And.intro (Qf5 (τ := Ql3 p0 p1 x1 0) ?_ (TL.loop (Qaj9 p0 p1 x1 0 o2 ho))) (Qer (λy3 hy=>?_) (λy4 hy=>?_)))
 .exact Le.ty 0 0
 .have h:=(by rw[hy] at hk; exact hk);refine Qak (t:=Qod) h ?_;exact .refl _
 .have h:=(by rw[hy] at hk; exact hk);refine Qak (t:=Qod) h ?_;exact .refl _
mutual
def Qi1 (p0:Qab) (p1:(List Qaj)) (p2:(List (List UInt8))):Option (Int×Bool) :=
 if(p0.Kind==1) then
  some (1,true)
 else
  if(p0.Kind==2) then
   some (2,true)
  else
   if(p0.Kind==3) then
    some (3,true)
   else
    if(p0.Kind==4) then
     (Qfn p0 p1 (wr ((p1.length:Int)-1)))>>=λo1 =>
     match o1 with
     | .inl y2 =>
      some (0,false)
     | .inr y3 =>
      some (y3.1,y3.2)
    else
     if(p0.Kind==7) then
      Qbh p2 p0.Name>>=λx6 =>
      if x6 then
       some (1,true)
      else
       some (0,false)
     else
      ( if(p0.Kind==5) then
        some (p0.Kind==5)
       else
        some (p0.Kind==6):Option (Bool))>>=λo7 =>
      if o7 then
       (Qhk p0 p1 p2 [] 0)>>=λo8 =>
       match o8 with
       | .inl y9 =>
        if(p0.Kind==6) then
         Qec p0.Name y9>>=λx14 =>
         some (x14.1,x14.2)
        else
         if((y9.length:Int)==1) then
          idx y9 0>>=λx15 =>
          Qmo x15 p0.Name>>=λx16 =>
          some (x16.1,x16.2)
         else
          some (0,false)
       | .inr y10 =>
        some (0,false)
      else
       some (0,false)
 partial_fixpoint
def Qhk (p0:Qab) (p1:(List Qaj)) (p2:(List (List UInt8))) (v10:(List Int)) (v59:Int):Option ((List Int)⊕Unit) :=
 if(decide (v59<(p0.L.length:Int))) then
  idx p0.L v59>>=λx11 =>
  Qi1 x11 p1 p2>>=λx12 =>
  if(!x12.2) then
   some (.inr ())
  else
   appL 8 v10 [x12.1]>>=λx13 =>
   Qhk p0 p1 p2 x13 (wr (v59+1))
 else
  some (.inl v10)
 partial_fixpoint
end
theorem Q53:∀ (p1:(List Qaj)) (p2:(List (List UInt8))),(∀ (p0:Qab) (o:Int×Bool),Qi1 p0 p1 p2=some o->PCall Tryz.prog 87 [.agg [iV p0.Kind,sV p0.Name,sV p0.Text,iV p0.N,.sl false (p0.L.map Qaa),.sl false (p0.Then.map Qaa),.sl false (p0.Else.map Qaa)],.sl false (p1.map Qat),.sl false (p2.map cStr)] (Qbr o))/\(∀ (p0:Qab) (v10:(List Int)) (v59:Int) (o8:(List Int)⊕Unit),Qhk p0 p1 p2 v10 v59=some o8->TL (0,0) Tryz.prog 97 Q3t (JP2 (0,0) 97 o8 (.exit 3) (Qrm p0 p1 p2) .ret (Qrn p0 p1 p2)) (Ql2 p0 p1 p2 v10 v59)):=by
 intro p1 p2;refine Qi1.mutual_partial_correctness p1 p2 _ _ ?_ ?_
 .intro Qhk' iQhk p0 o h;refine PCall.ofY Qqv Tryz.func87 ?_;refine Qac h (λhb h=>?_) (λhb h=>?_)
  .refine Qak (t:=Qbr) h ?_;exact .refl _
  .refine Qac h (λhb h=>?_) (λhb h=>?_)
   .refine Qak (t:=Qbr) h ?_;exact .refl _
   .refine Qac h (λhb h=>?_) (λhb h=>?_)
    .refine Qak (t:=Qbr) h ?_;exact .refl _
    .refine Qac h (λhb h=>?_) (λhb h=>?_)
     .refine view (Qau _ _) rfl ?_;refine Qah h (λo1 ho hk=>?_);refine Exists.intro (JP2 _ _ o1 (.exit 1) (Qrk p0 p1) .ret (Qrl p0 p1)) (And.intro (Qf5 (τ := Ql1 p0 p1 (wr ((p1.length:Int)-1))) ?_ (TL.loop (Qaj8 p0 p1 (wr ((p1.length:Int)-1)) o1 ho))) (Qer (λy2 hy=>?_) (λy3 hy=>?_)))
      .exact Le.ty 1 0
      .have h:=(by rw[hy] at hk; exact hk);refine Qak (t:=Qbr) h ?_;exact .refl _
      .have h:=(by rw[hy] at hk; exact hk);refine Qak (t:=Qbr) h ?_;exact .refl _
     .refine Qac h (λhb h=>?_) (λhb h=>?_)
      .refine Qam [.sl false (p2.map cStr),sV p0.Name] Qb4 h (λx6 hy=>(Qeo p2 p0.Name x6 hy)) (λx6 hy h=>?_);refine Qac h (λhb h=>?_) (λhb h=>?_)
       .refine Qak (t:=Qbr) h ?_;exact .refl _
       .refine Qak (t:=Qbr) h ?_;exact .refl _
      .refine Qah h (λo7 ho hk=>?_);refine Exists.intro (JP1 _ _ o7 .normal (Q3s p0 p1 p2)) (And.intro ?_ (Qaz ?_))
       .have h:=ho;refine Qac h (λhb h=>?_) (λhb h=>?_)
        .exact JP1.a h (Le.ty 1 0)
        .exact JP1.a h (Le.ty 1 0)
       .have h:=hk;refine Qac h (λhb h=>?_) (λhb h=>?_)
        .refine view (Qau _ _) rfl ?_;refine Qah h (λo8 ho hk=>?_);refine Exists.intro (JP2 _ _ o8 (.exit 3) (Qrm p0 p1 p2) .ret (Qrn p0 p1 p2)) (And.intro (Qf5 (τ := Ql2 p0 p1 p2 [] 0) ?_ (TL.loop (iQhk p0 [] 0 o8 ho))) (Qer (λy9 hy=>?_) (λy10 hy=>?_)))
         .exact(Le.own 10 44 1 rfl Qv8).trans (Le.ty 1 1)
         .have h:=(by rw[hy] at hk; exact hk);refine Qac h (λhb h=>?_) (λhb h=>?_)
          .refine Qam [sV p0.Name,.sl false (y9.map cInt)] Qbb h (λx14 hy=>(Qaen p0.Name y9 x14 hy)) (λx14 hy h=>?_);refine Qak (t:=Qbr) h ?_;exact .refl _
          .refine view (Qau _ _) rfl ?_;refine Qac h (λhb h=>?_) (λhb h=>?_)
           .refine And.intro (by decide +kernel) (And.intro rfl ?_);refine Qay (l:=y9) (c:=cInt) (c' := cInt) h (λ_=>rfl) (λ_=>rfl) (by decide) (λx15 hi h=>?_);refine Qcf [iV x15,sV p0.Name] Qod h (λx16 hy=>(Qaaq x15 p0.Name x16 hy)) (λx16 hy h=>?_);refine Qak (t:=Qbr) h ?_;exact .refl _
           .refine Qak (t:=Qbr) h ?_;exact .refl _
         .have h:=(by rw[hy] at hk; exact hk);refine Qak (t:=Qbr) h ?_;exact .refl _
        .refine Qak (t:=Qbr) h ?_;exact .refl _
 .intro Qi1' Qhk' iQi1 iQhk p0 v10 v59 o8 h;refine TL.round (Qan mixed tbOk (lv:=Qqv) _ _ _ ?_);refine Qac h (λhb h=>?_) (λhb h=>?_)
  .refine Qay (l:=p0.L) (c:=Qaa) (c' := Qa1) h Qao (λ_=>rfl) (by decide) (λx11 hi h=>?_);refine Qam [.agg [iV x11.Kind,sV x11.Name,sV x11.Text,iV x11.N,.sl false (x11.L.map Qaa),.sl false (x11.Then.map Qaa),.sl false (x11.Else.map Qaa)],.sl false (p1.map Qat),.sl false (p2.map cStr)] Qbr h (λx12 hy=>(iQi1 x11 x12 hy)) (λx12 hy h=>?_);refine Qac h (λhb h=>?_) (λhb h=>?_)
   .exact JP2.b h (Le.ty 1 0)
   .refine Qhp (a:=v10) (b:=[x12.1]) (c:=cInt) h (.refl _) (λ_=>rfl) rfl (λx13 hi h=>?_);refine TL.le (τ := Ql2 p0 p1 p2 x13 (wr (v59+1))) ?_ ((iQhk p0 x13 (wr (v59+1)) _ h));exact Le.ty 1 1
  .exact JP2.a h (Le.ty 1 1)
theorem Qaar:∀ (p0:Qab) (p1:(List Qaj)) (p2:(List (List UInt8))) (o:Int×Bool),Qi1 p0 p1 p2=some o->PCall Tryz.prog 87 [.agg [iV p0.Kind,sV p0.Name,sV p0.Text,iV p0.N,.sl false (p0.L.map Qaa),.sl false (p0.Then.map Qaa),.sl false (p0.Else.map Qaa)],.sl false (p1.map Qat),.sl false (p2.map cStr)] (Qbr o):=λp0 p1 p2=>(Q53 p1 p2).1 p0
mutual
def Qbe (p1:(List UInt8)) (p2:(List Qab)) (p3:(List Qaj)) (h0_0:(List Qae)) (h0_1:(List (List UInt8))) (h1_0:(List (Qap×Int))):Option (((List (Qap×Int)))⊕((List UInt8)×(List (Qap×Int)))) :=
 (Qbg p1 p2 p3 h0_0 h0_1 0 h1_0)>>=λo1 =>
 match o1 with
 | .inl y2 =>
  some (.inl y2)
 | .inr y3 =>
  some (.inr (y3.1,y3.2))
 partial_fixpoint
def Qbg (p1:(List UInt8)) (p2:(List Qab)) (p3:(List Qaj)) (h0_0:(List Qae)) (h0_1:(List (List UInt8))) (v17:Int) (h1_0_:(List (Qap×Int))):Option (((List (Qap×Int)))⊕((List UInt8)×(List (Qap×Int)))) :=
 if(decide (v17<(p2.length:Int))) then
  idx p2 v17>>=λx4 =>
  if(x4.Kind==8) then
   Qbg p1 p2 p3 h0_0 h0_1 (wr (v17+1)) h1_0_
  else
   idx x4.L 0>>=λx5 =>
   Qi1 x5 p3 h0_1>>=λx6 =>
   Qb9 p3>>=λx7 =>
   ( if(x4.Kind==9) then
     if x6.2 then
      Qi0 x6.1>>=λx9 =>
      some (x9,x7)
     else
      some (false,x7)
    else
     if(x4.Kind==10) then
      if x6.2 then
       some ((x6.1==3),x7)
      else
       some (false,x7)
     else
      if(x4.Kind==11) then
       Qlj x6.1>>=λx10 =>
       ( if x6.2 then
         some x10.2
        else
         some false:Option (Bool))>>=λo11 =>
       appL 32 x7 [(Qaj.mk x4.Name x10.1 false)]>>=λx12 =>
       some (o11,x12)
      else
       if(x4.Kind==12) then
        appL 32 x7 [(Qaj.mk x4.Name x6.1 false)]>>=λx13 =>
        some (x6.2,x13)
       else
        some (x6.2,x7):Option ((Bool×(List Qaj))))>>=λo8 =>
   if(!o8.1) then
    some (.inr (p1,h1_0_))
   else
    if(x4.Kind==13) then
     Qhl (Qap.mk x4.Name x6.1) h0_0 h0_1 h1_0_>>=λo15 =>
     match o15 with
     | .inl x14 =>
      Qbg p1 p2 p3 h0_0 h0_1 (wr (v17+1)) x14
     | .inr z16 =>
      some (.inr (z16.1,z16.2))
    else
     Qbe p1 x4.Then o8.2 h0_0 h0_1 h1_0_>>=λo18 =>
     match o18 with
     | .inl x17 =>
      Qbe p1 x4.Else p3 h0_0 h0_1 x17>>=λo21 =>
      match o21 with
      | .inl x20 =>
       Qbg p1 p2 p3 h0_0 h0_1 (wr (v17+1)) x20
      | .inr z22 =>
       some (.inr (z22.1,z22.2))
     | .inr z19 =>
      some (.inr (z19.1,z19.2))
 else
  some (.inl h1_0_)
 partial_fixpoint
def Qhl (p1:Qap) (h0_0:(List Qae)) (h0_1:(List (List UInt8))) (h1_0:(List (Qap×Int))):Option (((List (Qap×Int)))⊕((List UInt8)×(List (Qap×Int)))) :=
 if(decide (((mget (λ(a b:Qap)=>(a.name_==b.name_&&(a.it_==b.it_&&true))) p1 h1_0).getD 0)>0)) then
  some (.inl h1_0)
 else
  Qkm h0_0 p1.name_>>=λx1 =>
  Qbe p1.name_ x1.1 ([(Qaj.mk [103,114,111,117,112] 6 false),(Qaj.mk [105,116] p1.it_ false)]) h0_0 h0_1 h1_0>>=λo3 =>
  match o3 with
  | .inl x2 =>
   some (.inl (mset (λ(a b:Qap)=>(a.name_==b.name_&&(a.it_==b.it_&&true))) p1 1 x2))
  | .inr z4 =>
   some (.inr (z4.1,z4.2))
 partial_fixpoint
end
theorem Qqx:∀ (h0_0:(List Qae)) (h0_1:(List (List UInt8))),(∀ (p1:(List UInt8)) (p2:(List Qab)) (p3:(List Qaj)) (h1_0:(List (Qap×Int))) (o:((List (Qap×Int)))⊕((List UInt8)×(List (Qap×Int)))),Qbe p1 p2 p3 h0_0 h0_1 h1_0=some o->CallS Tryz.prog 67 [.ptr 0 0,.p (sV p1),.p (.sl false (p2.map Qaa)),.p (.sl false (p3.map Qat))] ⟨[[.p (.sl false (h0_0.map Qaf)),.p (.sl false (h0_1.map cStr)),.mh 1],[mpD (λx =>.agg (Qa5 x)) iV h1_0]],[]⟩ Qgz (λ(o:(List (Qap×Int)))=>⟨[[.p (.sl false (h0_0.map Qaf)),.p (.sl false (h0_1.map cStr)),.mh 1],[mpD (λx =>.agg (Qa5 x)) iV o]],[]⟩) (λ(o:(List UInt8)×(List (Qap×Int)))=>o.1) (λ(o:(List UInt8)×(List (Qap×Int)))=>⟨[[.p (.sl false (h0_0.map Qaf)),.p (.sl false (h0_1.map cStr)),.mh 1],[mpD (λx =>.agg (Qa5 x)) iV o.2]],[]⟩) o)/\(∀ (p1:(List UInt8)) (p2:(List Qab)) (p3:(List Qaj)) (v17:Int) (h1_0_:(List (Qap×Int))) (o1:((List (Qap×Int)))⊕((List UInt8)×(List (Qap×Int)))),Qbg p1 p2 p3 h0_0 h0_1 v17 h1_0_=some o1->TL (2,0) Tryz.prog 109 Qpx (JP2p (2,0) 109 o1 (.exit 0) (Qhv p1 p2 p3 h0_0 h0_1) (λy3 =>.panic (Qms y3.1)) (Qhw p1 p2 p3 h0_0 h0_1)) (Qcd p1 p2 p3 h0_0 h0_1 v17 h1_0_))/\(∀ (p1:Qap) (h1_0:(List (Qap×Int))) (o:((List (Qap×Int)))⊕((List UInt8)×(List (Qap×Int)))),Qhl p1 h0_0 h0_1 h1_0=some o->CallS Tryz.prog 91 [.ptr 0 0,.p (.agg [sV p1.name_,iV p1.it_])] ⟨[[.p (.sl false (h0_0.map Qaf)),.p (.sl false (h0_1.map cStr)),.mh 1],[mpD (λx =>.agg (Qa5 x)) iV h1_0]],[]⟩ Qii (λ(o:(List (Qap×Int)))=>⟨[[.p (.sl false (h0_0.map Qaf)),.p (.sl false (h0_1.map cStr)),.mh 1],[mpD (λx =>.agg (Qa5 x)) iV o]],[]⟩) (λ(o:(List UInt8)×(List (Qap×Int)))=>o.1) (λ(o:(List UInt8)×(List (Qap×Int)))=>⟨[[.p (.sl false (h0_0.map Qaf)),.p (.sl false (h0_1.map cStr)),.mh 1],[mpD (λx =>.agg (Qa5 x)) iV o.2]],[]⟩) o):=by
 intro h0_0 h0_1;refine Qbe.mutual_partial_correctness h0_0 h0_1 _ _ _ ?_ ?_ ?_
 .intro Qbg' iQbg p1 p2 p3 h1_0 o h;refine CallS.ofB mixed tbOk Qj4 Tryz.func67 rfl (by kernel_rfl) (Nat.le_of_ble_eq_true rfl) (λ_=>rfl) (λ_=>rfl) (λ_=>rfl) (λ_=>rfl) (λ_=>rfl) ?_;refine view (Qau _ _) rfl ?_;refine Qah h (λo1 ho hk=>?_);refine Exists.intro (JP2p _ _ o1 (.exit 0) (Qhv p1 p2 p3 h0_0 h0_1) (λy3 =>.panic (Qms y3.1)) (Qhw p1 p2 p3 h0_0 h0_1)) (And.intro (Qf5 (τ := Qcd p1 p2 p3 h0_0 h0_1 0 h1_0) ?_ (TL.loop (iQbg p1 p2 p3 0 h1_0 o1 ho))) (Qasr (λy2 hy=>?_) (λy3 hy=>?_)))
  .exact Le.ty 2 0
  .have h:=(by rw[hy] at hk; exact hk);refine Exists.intro _ (And.intro (Le.refl _ _ _) ?_);exact Qagi (t:=Qgz) (ss:=λ(o:(List (Qap×Int)))=>⟨[[.p (.sl false (h0_0.map Qaf)),.p (.sl false (h0_1.map cStr)),.mh 1],[mpD (λx =>.agg (Qa5 x)) iV o]],[]⟩) h ⟨[],rfl,.refl _,.refl _,rfl⟩
  .have h:=(by rw[hy] at hk; exact hk);refine xle ?_;refine Qanh (zp:=λ(o:(List UInt8)×(List (Qap×Int)))=>o.1) (sp:=λ(o:(List UInt8)×(List (Qap×Int)))=>⟨[[.p (.sl false (h0_0.map Qaf)),.p (.sl false (h0_1.map cStr)),.mh 1],[mpD (λx =>.agg (Qa5 x)) iV o.2]],[]⟩) h rfl ?_;exact⟨[],rfl,.refl _,.refl _,rfl⟩
 .intro Qbe' Qbg' Qhl' iQbe iQbg iQhl p1 p2 p3 v17 h1_0_ o1 h;refine TL.round (Qan mixed tbOk (lv:=Qj4) _ _ _ ?_);refine Qac h (λhb h=>?_) (λhb h=>?_)
  .refine Qay (l:=p2) (c:=Qaa) (c' := Qa1) h Qao (λ_=>rfl) (by decide) (λx4 hi h=>?_);refine Qac h (λhb h=>?_) (λhb h=>?_)
   .refine TL.le (τ := Qcd p1 p2 p3 h0_0 h0_1 (wr (v17+1)) h1_0_) ?_ ((iQbg p1 p2 p3 (wr (v17+1)) h1_0_ _ h));exact Le.ty 2 0
   .refine And.intro (by decide +kernel) (And.intro rfl ?_);refine Qay (l:=x4.L) (c:=Qaa) (c' := Qa1) h Qao (λ_=>rfl) (by decide) (λx5 hi h=>?_);refine Qcf [.agg [iV x5.Kind,sV x5.Name,sV x5.Text,iV x5.N,.sl false (x5.L.map Qaa),.sl false (x5.Then.map Qaa),.sl false (x5.Else.map Qaa)],.sl false (p3.map Qat),.sl false (h0_1.map cStr)] Qbr h (λx6 hy=>(Qaar x5 p3 h0_1 x6 hy)) (λx6 hy h=>?_);refine Qaq _ _ h (λx7 hy=>((Qjn p3 x7 hy).fr [] [] rfl rfl rfl)) (λx7 hy h=>?_);refine Qah h (λo8 ho hk=>?_);refine Exists.intro (JP1 _ _ o8 .normal (Qpv p1 p2 p3 h0_0 h0_1 v17 h1_0_ x4 x6)) (And.intro ?_ (Qaz ?_))
    .have h:=ho;refine Qac h (λhb h=>?_) (λhb h=>?_)
     .refine Qac h (λhb h=>?_) (λhb h=>?_)
      .refine Qam [iV x6.1] Qoe h (λx9 hy=>(Qyb x6.1 x9 hy)) (λx9 hy h=>?_);exact JP1.a h (Le.ty 3 1)
      .exact JP1.a h (Le.ty 3 1)
     .refine Qac h (λhb h=>?_) (λhb h=>?_)
      .refine Qac h (λhb h=>?_) (λhb h=>?_)
       .exact JP1.a h (Le.ty 3 1)
       .exact JP1.a h (Le.ty 3 1)
      .refine Qac h (λhb h=>?_) (λhb h=>?_)
       .refine Qam [iV x6.1] Qij h (λx10 hy=>(Qz0 x6.1 x10 hy)) (λx10 hy h=>?_);refine Qah h (λo11 ho hk=>?_);refine Exists.intro (JP1 _ _ o11 .normal (Qpw p1 p2 p3 h0_0 h0_1 v17 h1_0_ x4 x6 x7 x10)) (And.intro ?_ (Qaz ?_))
        .have h:=ho;refine Qac h (λhb h=>?_) (λhb h=>?_)
         .exact JP1.a h (Le.ty 3 1)
         .exact JP1.a h (Le.ty 3 1)
        .have h:=hk;refine Q17 (a:=x7) (b:=[(Qaj.mk x4.Name x10.1 false)]) (c:=Qat) h (.refl _) (λ_=>rfl) rfl (λx12 hi h=>?_);refine JP1.a h ?_;exact Le.trans (τ := ⟨[(0,.ptr 0 0),(1,.p (sV p1)),(3,.p (.sl false (p3.map Qat))),(9,.ptr 2 0),(10,.p (iV x6.1)),(11,.p (bV o11)),(12,.x 0 2 (.sl 46 3 (x12.map Qat))),(15,.p (.sl false (p2.map Qaa))),(16,.p (iV (p2.length:Int))),(17,.p (iV v17))],⟨[[.p (.sl false (h0_0.map Qaf)),.p (.sl false (h0_1.map cStr)),.mh 1],[mpD (λx =>.agg (Qa5 x)) iV h1_0_],[.p (iV x4.Kind),.p (sV x4.Name),.p (sV x4.Text),.p (iV x4.N),.p (.sl false (x4.L.map Qaa)),.p (.sl false (x4.Then.map Qaa)),.p (.sl false (x4.Else.map Qaa))]],[2]⟩⟩) (Le.ty 3 1) ((Le.ver (.s 12) 0 2 1 rfl rfl rfl rfl).trans (Le.ty 3 1))
       .refine Qac h (λhb h=>?_) (λhb h=>?_)
        .refine Q17 (a:=x7) (b:=[(Qaj.mk x4.Name x6.1 false)]) (c:=Qat) h (.refl _) (λ_=>rfl) rfl (λx13 hi h=>?_);refine JP1.a h ?_;exact Le.trans (τ := ⟨[(0,.ptr 0 0),(1,.p (sV p1)),(3,.p (.sl false (p3.map Qat))),(9,.ptr 2 0),(10,.p (iV x6.1)),(11,.p (bV x6.2)),(12,.x 0 2 (.sl 46 3 (x13.map Qat))),(15,.p (.sl false (p2.map Qaa))),(16,.p (iV (p2.length:Int))),(17,.p (iV v17))],⟨[[.p (.sl false (h0_0.map Qaf)),.p (.sl false (h0_1.map cStr)),.mh 1],[mpD (λx =>.agg (Qa5 x)) iV h1_0_],[.p (iV x4.Kind),.p (sV x4.Name),.p (sV x4.Text),.p (iV x4.N),.p (.sl false (x4.L.map Qaa)),.p (.sl false (x4.Then.map Qaa)),.p (.sl false (x4.Else.map Qaa))]],[2]⟩⟩) (Le.ty 3 1) ((Le.ver (.s 12) 0 2 1 rfl rfl rfl rfl).trans (Le.ty 3 1))
        .exact JP1.a h (Le.ty 3 1)
    .have h:=hk;refine Qac h (λhb h=>?_) (λhb h=>?_)
     .refine xle ?_;refine And.intro rfl (And.intro rfl (And.intro (λd h=>by cases h; exact Nat.le_of_ble_eq_true rfl) (Exists.intro p1 (And.intro rfl (And.intro rfl ?_)))));exact JP2p.b h (Le.ty 2 0)
     .refine Qac h (λhb h=>?_) (λhb h=>?_)
      .refine xle ?_;refine Qx5 _ _ _ _ h (λx14 hy=>((iQhl (Qap.mk x4.Name x6.1) h1_0_ (.inl x14) hy).a.fr [0,1] [] rfl rfl rfl)) (λz16 hy=>((iQhl (Qap.mk x4.Name x6.1) h1_0_ (.inr z16) hy).b.fr [0,1] [] rfl rfl rfl)) (λx14 hy h=>?_) (λz16 hy h=>?_)
       .refine TL.le (τ := Qcd p1 p2 p3 h0_0 h0_1 (wr (v17+1)) x14) ?_ ((iQbg p1 p2 p3 (wr (v17+1)) x14 _ h));exact Le.ty 2 0
       .exact JP2p.b h (Le.ty 2 0)
      .refine Exists.intro _ (And.intro (Le.frzv (.s 12) 0 1 rfl rfl rfl rfl) ?_);refine Qx5 _ _ _ _ h (λx17 hy=>((iQbe p1 x4.Then o8.2 h1_0_ (.inl x17) hy).a.fr [0,1] [] rfl rfl rfl)) (λz19 hy=>((iQbe p1 x4.Then o8.2 h1_0_ (.inr z19) hy).b.fr [0,1] [] rfl rfl rfl)) (λx17 hy h=>?_) (λz19 hy h=>?_)
       .refine xle ?_;refine Qx5 _ _ _ _ h (λx20 hy=>((iQbe p1 x4.Else p3 x17 (.inl x20) hy).a.fr [0,1] [] rfl rfl rfl)) (λz22 hy=>((iQbe p1 x4.Else p3 x17 (.inr z22) hy).b.fr [0,1] [] rfl rfl rfl)) (λx20 hy h=>?_) (λz22 hy h=>?_)
        .refine TL.le (τ := Qcd p1 p2 p3 h0_0 h0_1 (wr (v17+1)) x20) ?_ ((iQbg p1 p2 p3 (wr (v17+1)) x20 _ h));exact Le.ty 2 0
        .exact JP2p.b h (Le.ty 2 0)
       .exact JP2p.b h (Le.ty 2 0)
  .exact JP2p.a h (Le.ty 2 0)
 .intro Qbe' iQbe p1 h1_0 o h;refine CallS.ofB mixed tbOk Qu6 Tryz.func91 rfl (by kernel_rfl) (Nat.le_of_ble_eq_true rfl) (λ_=>rfl) (λ_=>rfl) (λ_=>rfl) (λ_=>rfl) (λ_=>rfl) ?_;refine And.intro (by decide +kernel) (And.intro rfl ?_);refine And.intro rfl ?_;refine Qv9 (l:=h1_0) (k:=p1) (λ(a b:Qap)=>(a.name_==b.name_&&(a.it_==b.it_&&true))) (ck:=(λx =>.agg (Qa5 x))) (ca:=iV) (z0:=0) (by exact rfl) (by exact rfl) (by exact rfl) (by exact λ_ _=>rfl) (by exact rfl) (by exact .refl _) ?_;refine Qac h (λhb h=>?_) (λhb h=>?_)
  .refine Exists.intro _ (And.intro (Le.refl _ _ _) ?_);exact Qagi (t:=Qii) (ss:=λ(o:(List (Qap×Int)))=>⟨[[.p (.sl false (h0_0.map Qaf)),.p (.sl false (h0_1.map cStr)),.mh 1],[mpD (λx =>.agg (Qa5 x)) iV o]],[]⟩) h ⟨[],rfl,.refl _,.refl _,rfl⟩
  .refine And.intro (by decide +kernel) (And.intro rfl ?_);refine Qcf [.sl false (h0_0.map Qaf),sV p1.name_] Qiu h (λx1 hy=>(Qqi h0_0 p1.name_ x1 hy)) (λx1 hy h=>?_);refine xle ?_;refine Qx5 _ _ _ _ h (λx2 hy=>((iQbe p1.name_ x1.1 ([(Qaj.mk [103,114,111,117,112] 6 false),(Qaj.mk [105,116] p1.it_ false)]) h1_0 (.inl x2) hy).a.fr [0,1] [] rfl rfl rfl).weakC (.cons (.refl _) (.cons (.refl _) (.cons (.refl _) (.cons (.p (.not)) (.nil)))))) (λz4 hy=>((iQbe p1.name_ x1.1 ([(Qaj.mk [103,114,111,117,112] 6 false),(Qaj.mk [105,116] p1.it_ false)]) h1_0 (.inr z4) hy).b.fr [0,1] [] rfl rfl rfl).weakC (.cons (.refl _) (.cons (.refl _) (.cons (.refl _) (.cons (.p (.not)) (.nil)))))) (λx2 hy h=>?_) (λz4 hy h=>?_)
   .refine And.intro (by decide +kernel) (And.intro (by decide +kernel) (And.intro rfl ?_));refine Qah8 (l:=x2) (k:=p1) (x:=1) (λ(a b:Qap)=>(a.name_==b.name_&&(a.it_==b.it_&&true))) (ck:=(λx =>.agg (Qa5 x))) (ca:=iV) (by exact rfl) (by exact rfl) (by exact rfl) (by exact .refl _) (by exact λ_ _=>rfl) ?_;refine Exists.intro _ (And.intro (Le.refl _ _ _) ?_);exact Qagi (t:=Qii) (ss:=λ(o:(List (Qap×Int)))=>⟨[[.p (.sl false (h0_0.map Qaf)),.p (.sl false (h0_1.map cStr)),.mh 1],[mpD (λx =>.agg (Qa5 x)) iV o]],[]⟩) h ⟨[],rfl,.refl _,.refl _,rfl⟩
   .refine xle ?_;refine Qanh (zp:=λ(o:(List UInt8)×(List (Qap×Int)))=>o.1) (sp:=λ(o:(List UInt8)×(List (Qap×Int)))=>⟨[[.p (.sl false (h0_0.map Qaf)),.p (.sl false (h0_1.map cStr)),.mh 1],[mpD (λx =>.agg (Qa5 x)) iV o.2]],[]⟩) h rfl ?_;exact⟨[],rfl,.refl _,.refl _,rfl⟩
theorem Qj5:∀ (p1:(List UInt8)) (p2:(List Qab)) (p3:(List Qaj)) (h0_0:(List Qae)) (h0_1:(List (List UInt8))) (h1_0:(List (Qap×Int))) (o:((List (Qap×Int)))⊕((List UInt8)×(List (Qap×Int)))),Qbe p1 p2 p3 h0_0 h0_1 h1_0=some o->CallS Tryz.prog 67 [.ptr 0 0,.p (sV p1),.p (.sl false (p2.map Qaa)),.p (.sl false (p3.map Qat))] ⟨[[.p (.sl false (h0_0.map Qaf)),.p (.sl false (h0_1.map cStr)),.mh 1],[mpD (λx =>.agg (Qa5 x)) iV h1_0]],[]⟩ Qgz (λ(o:(List (Qap×Int)))=>⟨[[.p (.sl false (h0_0.map Qaf)),.p (.sl false (h0_1.map cStr)),.mh 1],[mpD (λx =>.agg (Qa5 x)) iV o]],[]⟩) (λ(o:(List UInt8)×(List (Qap×Int)))=>o.1) (λ(o:(List UInt8)×(List (Qap×Int)))=>⟨[[.p (.sl false (h0_0.map Qaf)),.p (.sl false (h0_1.map cStr)),.mh 1],[mpD (λx =>.agg (Qa5 x)) iV o.2]],[]⟩) o:=λp1 p2 p3 h0_0 h0_1 h1_0=>(Qqx h0_0 h0_1).1 p1 p2 p3 h1_0
def Qg3 (p0:(List Qae)) (p1:(List UInt8)) (p2:(List (List UInt8))):Option ((List UInt8)×Int) :=
 Qnj p0>>=λx1 =>
 if(x1.2 != 0) then
  some (x1.1,x1.2)
 else
  Qkm p0 p1>>=λx2 =>
  if(!x2.2) then
   some ([],4)
  else
   Qbe p1 x2.1 [(Qaj.mk [103,114,111,117,112] 6 false)] p0 p2 []>>=λo3 =>
   match o3 with
   | .inl x3 =>
    some ([],0)
   | .inr z4 =>
    some (z4.1,201)
theorem Qk4:∀ (p0:(List Qae)) (p1:(List UInt8)) (p2:(List (List UInt8))) (o:(List UInt8)×Int),Qg3 p0 p1 p2=some o->PCall Tryz.prog 35 [.sl false (p0.map Qaf),sV p1,.sl false (p2.map cStr)] (Qcp o):=by
 intro p0 p1 p2 o h;unfold Qg3 at h;refine Qani (lv:=Q5v) rfl ?_;refine Qam [.sl false (p0.map Qaf)] Qe3 h (λx1 hy=>(Q5h p0 x1 hy)) (λx1 hy h=>?_);refine Qac h (λhb h=>?_) (λhb h=>?_)
 .exact Qak (t:=Qcp) h (.refl _)
 .refine Qam [.sl false (p0.map Qaf),sV p1] Qiu h (λx2 hy=>(Qqi p0 p1 x2 hy)) (λx2 hy h=>?_);refine Qac h (λhb h=>?_) (λhb h=>?_)
  .exact Qak (t:=Qcp) h (.refl _)
  .refine And.intro rfl (And.intro rfl (And.intro rfl (And.intro rfl (And.intro rfl ?_))));refine And.intro rfl (Exists.intro false ?_);refine xle ?_;refine Qx5 _ _ _ _ h (λx3 hy=>((Qj5 p1 x2.1 [(Qaj.mk [103,114,111,117,112] 6 false)] p0 p2 [] (.inl x3) hy).a.fr [3,2] [] rfl rfl rfl).weakC (.cons (.refl _) (.cons (.refl _) (.cons (.refl _) (.cons (.p (.not)) .nil))))) (λz4 hy=>((Qj5 p1 x2.1 [(Qaj.mk [103,114,111,117,112] 6 false)] p0 p2 [] (.inr z4) hy).b.fr [3,2] [] rfl rfl rfl).weakC (.cons (.refl _) (.cons (.refl _) (.cons (.refl _) (.cons (.p (.not)) .nil))))) (λx3 hy h=>?_) (λz4 hy h=>?_)
   .exact Qak (t:=Qcp) h (.refl _)
   .refine Exists.intro z4.1 (And.intro rfl (And.intro rfl (And.intro rfl (And.intro rfl (And.intro rfl ?_)))));refine And.intro rfl (And.intro rfl ?_)
    first | (refine And.intro rfl ?_; exact Qak (t:=Qcp) h (.refl _)) | (refine And.intro rfl (And.intro rfl ?_); exact Qak (t:=Qcp) h (.refl _)) | (refine And.intro rfl (And.intro rfl (And.intro rfl ?_)); exact Qak (t:=Qcp) h (.refl _))
def Qdz (p0:(List UInt8)):Option ((List Qae)) :=
 Qpu p0>>=λx1 =>
 some ([(Qae.mk [109] x1.1)])
theorem Qjp:∀ (p0:(List UInt8)) (o:(List Qae)),Qdz p0=some o->PCall Tryz.prog 65 [sV p0] (Qex o):=by
 intro p0 o h;unfold Qdz at h;refine PCall.ofY Qx8 Tryz.func65 ?_;refine Qam [sV p0] Qgv h (λx1 hy=>(Qad7 p0 x1 hy)) (λx1 hy h=>?_);refine Qak (t:=Qex) h ?_;exact .p (.not)
def Qdq:Option (Bool) :=
 Qdz [123,123,32,101,97,99,104,32,97,32,105,110,32,103,114,111,117,112,46,97,108,101,114,116,115,32,125,125,123,123,32,103,101,116,40,97,46,108,97,98,101,108,115,44,32,34,120,34,41,32,125,125,123,123,32,101,110,100,32,125,125]>>=λx1 =>
 Qg3 x1 [109] []>>=λx2 =>
 Qdz [123,123,32,103,114,111,117,112,46,97,108,101,114,116,115,32,125,125]>>=λx3 =>
 Qg3 x3 [109] []>>=λx4 =>
 Qdz [123,123,32,105,102,32,103,114,111,117,112,46,108,105,110,107,32,125,125,123,123,32,101,110,100,32,125,125]>>=λx5 =>
 Qg3 x5 [109] []>>=λx6 =>
 ( if(x2.2==0) then
   if(x4.1==[109]) then
    if(x4.2==201) then
     some (x6.2==201)
    else
     some false
   else
    some false
  else
   some false:Option (Bool))>>=λo7 =>
 some o7
theorem Ql7:∀ (o:Bool),Qdq  = some o->PCall Tryz.prog 33 [] (Qfl o):=by
 intro o h;unfold Qdq at h;refine PCall.ofY Qu7 Tryz.func33 ?_;refine Qam [sV [123,123,32,101,97,99,104,32,97,32,105,110,32,103,114,111,117,112,46,97,108,101,114,116,115,32,125,125,123,123,32,103,101,116,40,97,46,108,97,98,101,108,115,44,32,34,120,34,41,32,125,125,123,123,32,101,110,100,32,125,125]] Qex h (λx1 hy=>(Qjp [123,123,32,101,97,99,104,32,97,32,105,110,32,103,114,111,117,112,46,97,108,101,114,116,115,32,125,125,123,123,32,103,101,116,40,97,46,108,97,98,101,108,115,44,32,34,120,34,41,32,125,125,123,123,32,101,110,100,32,125,125] x1 hy)) (λx1 hy h=>?_);refine Qam [.sl false (x1.map Qaf),sV [109],.sl true []] Qcp h (λx2 hy=>(Qk4 x1 [109] [] x2 hy).weak (.cons (.refl _) (.cons (.refl _) (.cons (.not) (.nil))))) (λx2 hy h=>?_);refine Qam [sV [123,123,32,103,114,111,117,112,46,97,108,101,114,116,115,32,125,125]] Qex h (λx3 hy=>(Qjp [123,123,32,103,114,111,117,112,46,97,108,101,114,116,115,32,125,125] x3 hy)) (λx3 hy h=>?_);refine Qam [.sl false (x3.map Qaf),sV [109],.sl true []] Qcp h (λx4 hy=>(Qk4 x3 [109] [] x4 hy).weak (.cons (.refl _) (.cons (.refl _) (.cons (.not) (.nil))))) (λx4 hy h=>?_);refine Qam [sV [123,123,32,105,102,32,103,114,111,117,112,46,108,105,110,107,32,125,125,123,123,32,101,110,100,32,125,125]] Qex h (λx5 hy=>(Qjp [123,123,32,105,102,32,103,114,111,117,112,46,108,105,110,107,32,125,125,123,123,32,101,110,100,32,125,125] x5 hy)) (λx5 hy h=>?_)
 refine Qam [.sl false (x5.map Qaf),sV [109],.sl true []] Qcp h (λx6 hy=>(Qk4 x5 [109] [] x6 hy).weak (.cons (.refl _) (.cons (.refl _) (.cons (.not) (.nil))))) (λx6 hy h=>?_);refine Qah h (λo7 ho hk=>?_);refine Exists.intro (JP1 _ _ o7 .normal (Qrx )) (And.intro ?_ (Qaz ?_))
 .have h:=ho;refine Qac h (λhb h=>?_) (λhb h=>?_)
  .refine Qac h (λhb h=>?_) (λhb h=>?_)
   .refine Qac h (λhb h=>?_) (λhb h=>?_)
    .exact JP1.a h (Le.ty 0 0)
    .exact JP1.a h (Le.ty 0 0)
   .refine bF ?_;exact JP1.a h (Le.ty 0 0)
  .refine bF ?_;refine bF ?_;exact JP1.a h (Le.ty 0 0)
 .have h:=hk;refine Qak (t:=Qfl) h ?_;exact .refl _
def Qey (p0:(List (List UInt8))):Option ((List (List UInt8))) :=
 cutL p0 0 (if 8<(p0.length:Int) then 8 else(p0.length:Int))>>=λx1 =>
 some x1
theorem Qva:∀ (p0:(List (List UInt8))) (o:(List (List UInt8))),Qey p0=some o->PCall Tryz.prog 34 [.sl false (p0.map cStr)] (Qik o):=by
 intro p0 o h;unfold Qey at h;refine PCall.ofY Qu8 Tryz.func34 ?_;refine view (Qau _ _) rfl ?_;refine Qacr (c:=cStr) none (some (if 8<(p0.length:Int) then 8 else(p0.length:Int))) h (λ_=>rfl) (λx1 hi h=>?_);refine Qak (t:=Qik) h ?_;exact .refl _
def Qcq (p0:(List Qae)) (p1:(List UInt8)) (p2:(List (List UInt8))):Option (Bool) :=
 Qew p0 p1>>=λx1 =>
 if(!x1.2) then
  Qdq>>=λx2 =>
  some x2
 else
  Qey p2>>=λx3 =>
  Qg3 x1.1 p1 x3>>=λx4 =>
  Qtu x1.1 p1 x3>>=λx5 =>
  ( if(x4.1==x5.1) then
    if(x4.2==x5.2) then
     Qdq>>=λx7 =>
     some x7
    else
     some false
   else
    some false:Option (Bool))>>=λo6 =>
  some o6
theorem Qnr:∀ (p0:(List Qae)) (p1:(List UInt8)) (p2:(List (List UInt8))) (o:Bool),Qcq p0 p1 p2=some o->PCall Tryz.prog 9 [.sl false (p0.map Qaf),sV p1,.sl false (p2.map cStr)] (Qek o):=by
 intro p0 p1 p2 o h;unfold Qcq at h;refine PCall.ofY Qnq Tryz.func9 ?_;refine Qam [.sl false (p0.map Qaf),sV p1] Qff h (λx1 hy=>(Qu4 p0 p1 x1 hy)) (λx1 hy h=>?_);refine Qac h (λhb h=>?_) (λhb h=>?_)
 .refine Qam [] Qfl h (λx2 hy=>(Ql7 x2 hy)) (λx2 hy h=>?_);refine Qak (t:=Qek) h ?_;exact .refl _
 .refine Qam [.sl false (p2.map cStr)] Qik h (λx3 hy=>(Qva p2 x3 hy)) (λx3 hy h=>?_);refine Qam [.sl false (x1.1.map Qaf),sV p1,.sl false (x3.map cStr)] Qcp h (λx4 hy=>(Qk4 x1.1 p1 x3 x4 hy)) (λx4 hy h=>?_);refine Qam [.sl false (x1.1.map Qaf),sV p1,.sl false (x3.map cStr)] Qkv h (λx5 hy=>(Qael x1.1 p1 x3 x5 hy)) (λx5 hy h=>?_);refine Qah h (λo6 ho hk=>?_);refine Exists.intro (JP1 _ _ o6 .normal (Qme )) (And.intro ?_ (Qaz ?_))
  .have h:=ho;refine Qac h (λhb h=>?_) (λhb h=>?_)
   .refine Qac h (λhb h=>?_) (λhb h=>?_)
    .refine Qam [] Qfl h (λx7 hy=>(Ql7 x7 hy)) (λx7 hy h=>?_);exact JP1.a h (Le.ty 0 0)
    .exact JP1.a h (Le.ty 0 0)
   .refine bF ?_;exact JP1.a h (Le.ty 0 0)
  .have h:=hk;refine Qak (t:=Qek) h ?_;exact .refl _
end Go.Proofs.YtfgegilhjlnohaaGreat
end

noncomputable section
namespace Go.Proofs.YtfgegilhjlnohaaGreat
open Go.RowKit
set_option linter.unusedSimpArgs false
set_option linter.unusedVariables false
abbrev Qz1:List Qba:=[⟨[117,112,112,101,114],[1],1⟩,⟨[108,111,119,101,114],[1],1⟩,⟨[116,114,105,109],[1],1⟩,⟨[115,105,122,101],[1],2⟩,⟨[102,105,114,115,116],[1,2],1⟩,⟨[108,97,115,116],[1,2],1⟩,⟨[100,101,102,97,117,108,116],[1,1],1⟩,⟨[99,97,116],[1,1],1⟩,⟨[114,101,112,108,97,99,101],[1,1,1],1⟩,⟨[106,111,105,110],[7,1],1⟩,⟨[107,101,121,115],[8],7⟩,⟨[103,101,116],[8,1],1⟩,⟨[104,97,115],[8,1],3⟩,⟨[99,111,117,110,116],[7],2⟩,⟨[99,111,117,110,116],[8],2⟩,⟨[99,111,117,110,116],[9],2⟩,⟨[119,114,105,116,101],[2],1⟩,⟨[119,114,105,116,101],[3],1⟩,⟨[97,100,100],[2,2],2⟩,⟨[115,117,98],[2,2],2⟩,⟨[108,101,115,115],[2,2],3⟩,⟨[115,97,109,101],[1,1],3⟩,⟨[115,97,109,101],[2,2],3⟩,⟨[115,97,109,101],[3,3],3⟩,⟨[98,111,116,104],[3,3],3⟩,⟨[101,105,116,104,101,114],[3,3],3⟩,⟨[110,111,116],[3],3⟩]
def Q0m(s:Nm)(L:List Int):Int×Bool:=match Qz1.find? (λr=>r.Name==s&&r.In==L) with | none=>(0,false) | some r=>(r.Gives,true)
theorem Qagv(s:Nm)(L:List Int)(x1:List Qba)(v:Int)(i:Int):Qfm s L x1 v false i=some false:=by
 rw[Qfm,if_neg (by simp),Qad,if_neg (by simp)]
theorem Qatw(s:Nm)(L:List Int)(x1:List Qba)(v:Nat)(r:Qba)(hr:x1[v]? = some r)(hl:r.In.length=L.length)(hL:L.length<=1000):∀ k,k<=L.length->Qfm s L x1 v true k=some (r.In.drop k==L.drop k):=by
 refine upto ?_ λk hk ih=>?_
 .have:decide (((L.length:Nat):Int)<(L.length:Int))=false:=decide_eq_false (by omega);rw[Qfm,if_pos rfl,this,Qad,if_neg (by simp),List.drop_length,<-hl,List.drop_length]; rfl
 .have hk' : k<r.In.length:=by omega
  rw[Qfm,if_pos rfl,ltI,decide_eq_true hk,Qad,if_pos rfl,Qa3,hr,Qad,Qa3,getE hk', Qad,Qa3,getE hk,Qad,Qcb hk,Qcb hk', List.cons_beq_cons,Qa4 (show k<9223372036854775807 by omega)];rcases Bool.eq_false_or_eq_true (r.In[k]==L[k]) with hb | hb
  .rw[hb,ih,Bool.true_and]
  .rw[hb,Qagv,Bool.false_and]
theorem Qatx(s:Nm)(L:List Int)(x1:List Qba)(hx:x1.length<=1000)(hL:L.length<=1000):∀ k,k<=x1.length->Qim s L x1 k=some (match (x1.drop k).find? (λr=>r.Name==s&&r.In==L) with | none =>.inl () | some r =>.inr r.Gives):=by
 refine upto ?_ λk hk ih=>?_
 .have:decide (((x1.length:Nat):Int)<(x1.length:Int))=false:=decide_eq_false (by omega);rw[Qim,this,if_neg (by simp),List.drop_length]; rfl
 .rw[Qim,ltI,decide_eq_true hk,if_pos rfl,Qcb hk,List.find?_cons,Qa3,getE hk,Qad,Qa4 (show k<9223372036854775807 by omega),ih];rcases Bool.eq_false_or_eq_true (x1[k].Name==s) with hb | hb
  .rw[hb,if_pos rfl,Qad,Qad,Bool.true_and];by_cases hl:x1[k].In.length=L.length
   .have e:(((x1[k].In.length:Nat):Int)==(L.length:Int))=true:=by rw[hl]; simp
    have h2:=Qatw s L x1 k x1[k] (getE hk) hl hL 0 (by omega);rw[show((0:Nat):Int)=0 from rfl,List.drop_zero,List.drop_zero] at h2;rw[e,h2,Qad];rcases Bool.eq_false_or_eq_true (x1[k].In==L) with hc | hc
    .rw[hc,if_pos rfl,Qad]
    .rw[hc,if_neg (by simp)]
   .have e:(((x1[k].In.length:Nat):Int)==(L.length:Int))=false:=by rw[beq_eq_false_iff_ne]; omega
    have hc:(x1[k].In==L)=false:=by rw[beq_eq_false_iff_ne]; exact λh=>hl (by rw[h])
    rw[e,Qagv,Qad,if_neg (by simp),hc]
  .rw[hb,if_neg (by simp),Qad,Qagv,Qad,if_neg (by simp),Bool.false_and]
theorem Qarv(s:Nm)(L:List Int)(hL:L.length<=1000):Qui s L=some (Q0m s L):=by
 have h:=Qatx s L Qz1 (by decide) hL 0 (by omega);rw[show((0:Nat):Int)=0 from rfl,List.drop_zero] at h;have e:Q1a=some Qz1:=rfl;rw[Qui,e,Qad,h,Qad,Q0m];cases Qz1.find? (λr=>r.Name==s&&r.In==L)<;>rfl
theorem Qaty(a b:List Int)(hl:a.length=b.length)(hb:b.length<=1000):∀ k,k<=a.length->Qa6 a b k=some (if(a.drop k==b.drop k)=true then .inl () else .inr ()):=by
 refine upto ?_ λk hk ih=>?_
 .have:decide (((a.length:Nat):Int)<(a.length:Int))=false:=decide_eq_false (by omega);rw[Qa6,this,if_neg (by simp),List.drop_length,hl,List.drop_length]; rfl
 .have hk' : k<b.length:=by omega
  rw[Qa6,ltI,decide_eq_true hk,if_pos rfl,Qa3,getE hk,Qad,Qa3,getE hk', Qad,Qa4 (show k<9223372036854775807 by omega),ih,Qcb hk,Qcb hk', List.cons_beq_cons];by_cases hb:a[k]=b[k]
  .have h1:(a[k] != b[k])=false:=by rw[hb]; simp
   have h2:(a[k]==b[k])=true:=by rw[hb]; simp
   rw[h1,h2,if_neg (by simp),Bool.true_and]
  .have h1:(a[k] != b[k])=true:=by simpa using hb
   have h2:(a[k]==b[k])=false:=by simpa using hb
   rw[h1,h2,if_pos rfl,Bool.false_and,if_neg (by simp)]
theorem Qavd(a b:List Int)(hb:b.length<=1000):Qbp a b=some (a==b):=by
 rw[Qbp];by_cases hl:a.length=b.length
 .have e:(((a.length:Nat):Int) != (b.length:Int))=false:=by rw[hl]; simp
  have h:=Qaty a b hl hb 0 (by omega);rw[show((0:Nat):Int)=0 from rfl,List.drop_zero,List.drop_zero] at h;rw[e,if_neg (by simp),h,Qad];rcases Bool.eq_false_or_eq_true (a==b) with hc | hc
  .rw[hc,if_pos rfl]
  .rw[hc,if_neg (by simp)]
 .have e:(((a.length:Nat):Int) != (b.length:Int))=true:=by simpa using λh=>hl (by omega)
  have hc:(a==b)=false:=by rw[beq_eq_false_iff_ne]; exact λh=>hl (by rw[h])
  rw[e,if_pos rfl,hc]
theorem Qatz(g:Int)(w L:List Int)(hw:w.length<=1000):Qbj g w L=some (if(L==w)=true then(g,true) else(0,false)):=by
 rw[Qbj,Qavd L w hw,Qad];rcases Bool.eq_false_or_eq_true (L==w) with hc | hc
 .rw[hc,if_neg (by simp),if_pos rfl]
 .rw[hc,if_pos (by simp),if_neg (by simp)]
theorem Qyc(s:Nm)(L:List Int)(rs:List Qba)(h:Qz1.filter (·.Name==s)=rs):Q0m s L=match rs.find? (·.In==L) with | none=>(0,false) | some r=>(r.Gives,true):=by
 rw[Q0m,<-h,List.find?_filter];have e:(λr:Qba=>r.Name==s&&r.In==L)=λr=>decide ((r.Name==s)=true/\(r.In==L)=true):=by funext r; rw[Bool.decide_and,Bool.decide_coe,Bool.decide_coe]
 rw[e]
theorem kOne(s:Nm)(g:Int)(w L:List Int)(hw:w.length<=1000)(h1:Qec s L=(Qbj g w L>>=λx=>some (x.1,x.2)))(h2:Qz1.filter (·.Name==s)=[⟨s,w,g⟩]):Qec s L=some (Q0m s L):=by
 rw[h1,Qatz g w L hw,Qyc s L _ h2,Qad];have e:(w==L)=(L==w):=Bool.beq_comm;rcases Bool.eq_false_or_eq_true (L==w) with hc | hc
 .simp only[List.find?_cons,e,hc,if_true]
 .simp only[List.find?_cons,e,hc,List.find?_nil,Bool.false_eq_true,if_false]
def Qagw:List Nm:=[[117,112,112,101,114],[108,111,119,101,114],[116,114,105,109],[115,105,122,101],[102,105,114,115,116],[108,97,115,116],[100,101,102,97,117,108,116],[99,97,116],[114,101,112,108,97,99,101],[106,111,105,110],[107,101,121,115],[103,101,116],[104,97,115],[97,100,100],[115,117,98],[108,101,115,115],[98,111,116,104],[101,105,116,104,101,114],[110,111,116]]
theorem Qat0(L:List Int):Qec [99,111,117,110,116] L=some (Q0m [99,111,117,110,116] L):=by
 have h1:Qec [99,111,117,110,116] L=(if((L.length:Int)==1) then idx L 0>>=λx=>Qlj x>>=λy=>if y.2 then some (2,true) else some (0,false) else some (0,false)):=rfl;rw[h1,Qyc _ L [⟨[99,111,117,110,116],[7],2⟩,⟨[99,111,117,110,116],[8],2⟩,⟨[99,111,117,110,116],[9],2⟩] rfl]
 match L with
 | []=>rfl
 | [a] =>
  have hi:idx [a] 0=some a:=rfl;have h0:((([a]:List Int).length:Int)==1)=true:=rfl;rw[if_pos h0,hi,Qad,Qlj];by_cases h7:a=7
  .subst h7; rfl
  .by_cases h8:a=8
   .subst h8; rfl
   .by_cases h9:a=9
    .subst h9; rfl
    .have e7:(a==7)=false:=by simpa using h7
     have e8:(a==8)=false:=by simpa using h8
     have e9:(a==9)=false:=by simpa using h9
     have f7:(([7]:List Int)==[a])=false:=by simpa using λh:(7:Int)=a=>h7 h.symm
     have f8:(([8]:List Int)==[a])=false:=by simpa using λh:(8:Int)=a=>h8 h.symm
     have f9:(([9]:List Int)==[a])=false:=by simpa using λh:(9:Int)=a=>h9 h.symm
     simp only[e7,e8,e9,List.find?_cons,f7,f8,f9,List.find?_nil];rfl
 | a::b::r =>
  have e:((((a::b::r).length:Nat):Int)==1)=false:=by rw[beq_eq_false_iff_ne]; simp; omega
  have f:∀ c:Int,([c]==a::b::r)=false:=λc=>by rw[beq_eq_false_iff_ne]; simp
  rw[e,if_neg (by simp)];simp only[List.find?_cons,f,List.find?_nil]
theorem Qat1(L:List Int):Qec [119,114,105,116,101] L=some (Q0m [119,114,105,116,101] L):=by
 have h1:Qec [119,114,105,116,101] L=((if((L.length:Int)==1) then idx L 0>>=λx=>some (x==3) else some false:Option Bool)>>=λo=>if o then some (1,true) else Qbj 1 [2] L>>=λx=>some (x.1,x.2)):=rfl;rw[h1,Qatz 1 [2] L (by decide),Qyc _ L [⟨[119,114,105,116,101],[2],1⟩,⟨[119,114,105,116,101],[3],1⟩] rfl]
 match L with
 | []=>rfl
 | [a] =>
  have hi:idx [a] 0=some a:=rfl;have h0:((([a]:List Int).length:Int)==1)=true:=rfl;rw[if_pos h0,hi,Qad,Qad];by_cases h7:a=3
  .subst h7; rfl
  .by_cases h8:a=2
   .subst h8; rfl
   .have e7:(a==3)=false:=by simpa using h7
    have f8:(([a]:List Int)==[2])=false:=by simpa using h8
    have g7:(([3]:List Int)==[a])=false:=by simpa using λh:(3:Int)=a=>h7 h.symm
    have g8:(([2]:List Int)==[a])=false:=by simpa using λh:(2:Int)=a=>h8 h.symm
    simp only[e7,f8,List.find?_cons,g7,g8,List.find?_nil];rfl
 | a::b::r =>
  have e:((((a::b::r).length:Nat):Int)==1)=false:=by rw[beq_eq_false_iff_ne]; simp; omega
  have f:∀ c:Int,([c]==a::b::r)=false:=λc=>by rw[beq_eq_false_iff_ne]; simp
  have g:(a::b::r==[2])=false:=by rw[beq_eq_false_iff_ne]; simp
  rw[e,if_neg (by simp),Qad,if_neg (by simp),g];simp only[List.find?_cons,f,List.find?_nil];rfl
theorem Qap4(k:Int):Qi0 k=some (decide (1<=k/\k<=3)):=by
 rw[Qi0,Bool.decide_and];by_cases h:1<=k
 .rw[decide_eq_true (show k >= 1 from h),if_pos rfl,Qad,Bool.true_and]
 .rw[decide_eq_false (show ¬ k >= 1 from h),if_neg (by simp),Qad,Bool.false_and]
theorem Qat2(k:Int):Qpz k=some (decide (1<=k/\k<=3)):=by
 rw[Qpz];by_cases h1:k=1
 .subst h1; rfl
 .by_cases h2:k=2
  .subst h2; rfl
  .by_cases h3:k=3
   .subst h3; rfl
   .have e1:(k==1)=false:=by simpa using h1
    have e2:(k==2)=false:=by simpa using h2
    have e3:(k==3)=false:=by simpa using h3
    rw[e1,e2,e3,if_neg (by simp),if_neg (by simp),Qad,decide_eq_false (by omega)]
theorem Qave(L:List Int):Qec [115,97,109,101] L=some (Q0m [115,97,109,101] L):=by
 have h1:Qec [115,97,109,101] L=((if((L.length:Int)==2) then idx L 0>>=λx=>idx L 1>>=λy=>if(x==y) then idx L 0>>=λz=>Qi0 z>>=λu=>some u else some false else some false:Option Bool)>>=λo=>if o then some (3,true) else some (0,false)):=rfl;rw[h1,Qyc _ L [⟨[115,97,109,101],[1,1],3⟩,⟨[115,97,109,101],[2,2],3⟩,⟨[115,97,109,101],[3,3],3⟩] rfl]
 match L with
 | []=>rfl
 | [a] =>
  have f:∀ c:Int,([c,c]==[a])=false:=λc=>by rw[beq_eq_false_iff_ne]; simp
  simp only[List.find?_cons,f,List.find?_nil];rfl
 | [a,b] =>
  have hi:idx [a,b] 0=some a:=rfl;have hj:idx [a,b] 1=some b:=rfl;have h0:((([a,b]:List Int).length:Int)==2)=true:=rfl;rw[if_pos h0,hi,Qad,hj,Qad,Qad,Qap4,Qad];by_cases hab:a=b
  .subst hab;rw[if_pos (by simp),Qad];by_cases h7:a=1
   .subst h7; rfl
   .by_cases h8:a=2
    .subst h8; rfl
    .by_cases h9:a=3
     .subst h9; rfl
     .have f:∀ c:Int,c≠a->([c,c]==[a,a])=false:=λc hc=>by rw[beq_eq_false_iff_ne]; simpa using hc
      rw[decide_eq_false (by omega)];simp only[List.find?_cons,f 1 (Ne.symm h7),f 2 (Ne.symm h8),f 3 (Ne.symm h9),List.find?_nil];rfl
  .have f:∀ c:Int,([c,c]==[a,b])=false:=λc=>by
    rw[beq_eq_false_iff_ne];intro h;have h1:c=a:=by simpa using congrArg (λl=>l.head?) h
    have h2:c=b:=by
     have:=congrArg (λl:List Int=>l[1]?) h;simpa using this
    exact hab (h1.symm.trans h2)
   rw[if_neg (by simpa using hab),Qad,if_neg (by simp)];simp only[List.find?_cons,f,List.find?_nil]
 | a::b::d::r =>
  have e:((((a::b::d::r).length:Nat):Int)==2)=false:=by rw[beq_eq_false_iff_ne]; simp; omega
  have f:∀ c:Int,([c,c]==a::b::d::r)=false:=λc=>by rw[beq_eq_false_iff_ne]; simp
  rw[e,if_neg (by simp),Qad,if_neg (by simp)];simp only[List.find?_cons,f,List.find?_nil]
theorem Qarw(s:Nm)(L:List Int):Qec s L=some (Q0m s L):=by
 by_cases h:s ∈ Qagw
 .simp only[Qagw,List.mem_cons,List.not_mem_nil,or_false] at h;rcases h with rfl | rfl | rfl | rfl | rfl | rfl | rfl | rfl | rfl | rfl | rfl | rfl | rfl | rfl | rfl | rfl | rfl | rfl | rfl
  .exact kOne _ 1 [1] L (by decide) rfl rfl
  .exact kOne _ 1 [1] L (by decide) rfl rfl
  .exact kOne _ 1 [1] L (by decide) rfl rfl
  .exact kOne _ 2 [1] L (by decide) rfl rfl
  .exact kOne _ 1 [1,2] L (by decide) rfl rfl
  .exact kOne _ 1 [1,2] L (by decide) rfl rfl
  .exact kOne _ 1 [1,1] L (by decide) rfl rfl
  .exact kOne _ 1 [1,1] L (by decide) rfl rfl
  .exact kOne _ 1 [1,1,1] L (by decide) rfl rfl
  .exact kOne _ 1 [7,1] L (by decide) rfl rfl
  .exact kOne _ 7 [8] L (by decide) rfl rfl
  .exact kOne _ 1 [8,1] L (by decide) rfl rfl
  .exact kOne _ 3 [8,1] L (by decide) rfl rfl
  .exact kOne _ 2 [2,2] L (by decide) rfl rfl
  .exact kOne _ 2 [2,2] L (by decide) rfl rfl
  .exact kOne _ 3 [2,2] L (by decide) rfl rfl
  .exact kOne _ 3 [3,3] L (by decide) rfl rfl
  .exact kOne _ 3 [3,3] L (by decide) rfl rfl
  .exact kOne _ 3 [3] L (by decide) rfl rfl
 .by_cases hc:s=[99,111,117,110,116]
  .rw[hc]; exact Qat0 L
  .by_cases hw:s=[119,114,105,116,101]
   .rw[hw]; exact Qat1 L
   .by_cases hs:s=[115,97,109,101]
    .rw[hs]; exact Qave L
    .simp only[Qagw,List.mem_cons,List.not_mem_nil,or_false,not_or] at h;have b:∀ t:Nm,s≠t->(s==t)=false:=λt ht=>by simpa using ht
     have c:∀ t:Nm,s≠t->(t==s)=false:=λt ht=>by simpa using λe=>ht (Eq.symm e)
     obtain⟨a1,a2,a3,a4,a5,a6,a7,a8,a9,a10,a11,a12,a13,a14,a15,a16,a17,a18,a19⟩:=h;have h0:Qz1.filter (·.Name==s)=[]:=by
      simp only[Qz1,List.filter_cons,c _ a1,c _ a2,c _ a3,c _ a4,c _ a5,c _ a6,c _ a7,c _ a8,c _ a9,c _ a10,c _ a11,c _ a12,c _ a13,c _ a14,c _ a15,c _ a16,c _ a17,c _ a18,c _ a19,c _ hc,c _ hw,c _ hs,Bool.false_eq_true,if_false,List.filter_nil]
     rw[Qyc s L [] h0,Qec];simp only[b _ a1,b _ a2,b _ a3,b _ a4,b _ a5,b _ a6,b _ a7,b _ a8,b _ a9,b _ a10,b _ a11,b _ a12,b _ a13,b _ a14,b _ a15,b _ a16,b _ a17,b _ a18,b _ a19,b _ hc,b _ hw,b _ hs,Bool.false_eq_true,if_false,Qad,List.find?_nil]
abbrev Qagx:List Qa8:=[⟨4,[107,101,121],1⟩,⟨4,[118,97,108],1⟩,⟨5,[102,105,114,105,110,103],3⟩,⟨5,[115,116,97,114,116,115],2⟩,⟨5,[118,97,108,117,101],2⟩,⟨5,[108,97,98,101,108,115],8⟩,⟨5,[110,111,116,101,115],8⟩,⟨5,[108,105,110,107],1⟩,⟨6,[114,101,99,101,105,118,101,114],1⟩,⟨6,[102,105,114,105,110,103],3⟩,⟨6,[99,111,109,109,111,110],8⟩,⟨6,[108,105,110,107],1⟩,⟨6,[97,108,101,114,116,115],9⟩]
def fldR(k:Int)(s:Nm):Int×Bool:=match Qagx.find? (λf=>f.of_==k&&f.name_==s) with | none=>(0,false) | some f=>(f.is_,true)
theorem Qarx(k:Int)(s:Nm)(rs:List Qa8)(h:Qagx.filter (·.of_==k)=rs):fldR k s=match rs.find? (·.name_==s) with | none=>(0,false) | some r=>(r.is_,true):=by
 rw[fldR,<-h,List.find?_filter];have e:(λf:Qa8=>f.of_==k&&f.name_==s)=λr=>decide ((r.of_==k)=true/\(r.name_==s)=true):=by funext r; rw[Bool.decide_and,Bool.decide_coe,Bool.decide_coe]
 rw[e]
theorem Qavf(k:Int)(s:Nm)(x1:List Qa8)(hx:x1.length<=1000):∀ i,i<=x1.length->Qfo k s x1 i=some (match (x1.drop i).find? (λf=>f.of_==k&&f.name_==s) with | none =>.inl () | some f =>.inr f.is_):=by
 refine upto ?_ λi hi ih=>?_
 .have:decide (((x1.length:Nat):Int)<(x1.length:Int))=false:=decide_eq_false (by omega);rw[Qfo,this,if_neg (by simp),List.drop_length]; rfl
 .rw[Qfo,ltI,decide_eq_true hi,if_pos rfl,Qcb hi,List.find?_cons,Qa3,getE hi,Qad,Qa4 (show i<9223372036854775807 by omega),ih];rcases Bool.eq_false_or_eq_true (x1[i].of_==k) with hb | hb
  .rw[hb,if_pos rfl,Qad,Bool.true_and];rcases Bool.eq_false_or_eq_true (x1[i].name_==s) with hc | hc
   .rw[hc,if_pos rfl]
   .rw[hc,if_neg (by simp)]
  .rw[hb,if_neg (by simp),Qad,if_neg (by simp),Bool.false_and]
theorem Qat3(k:Int)(s:Nm):Qmo k s=some (fldR k s):=by
 have h:=Qavf k s Qagx (by decide) 0 (by omega);rw[show((0:Nat):Int)=0 from rfl,List.drop_zero] at h;have e:Quk=some Qagx:=rfl;rw[Qmo,e,Qad,h,Qad,fldR];cases Qagx.find? (λf=>f.of_==k&&f.name_==s)<;>rfl
theorem Qavg(s:Nm)(ns:List Nm)(ks:List Int)(hl:ns.length=ks.length)(hx:ns.length<=1000):∀ i,i<=ns.length->Qg0 s (ns,ks) i=some (match ((ns.zip ks).drop i).find? (·.1==s) with | none =>.inl () | some q =>.inr q.2):=by
 refine upto ?_ λi hi ih=>?_
 .have:decide (((ns.length:Nat):Int)<(ns.length:Int))=false:=decide_eq_false (by omega);rw[Qg0,this,if_neg (by simp),List.drop_eq_nil_of_le (by simp; omega)]; rfl
 .have hi' : i<ks.length:=by omega
  have hz:i<(ns.zip ks).length:=by simp; omega
  rw[Qg0,ltI,decide_eq_true hi,if_pos rfl,Qcb hz,List.find?_cons,Qa3,getE hi,Qad,Qa4 (show i<9223372036854775807 by omega),ih,List.getElem_zip];rcases Bool.eq_false_or_eq_true (ns[i]==s) with hb | hb
  .rw[if_pos hb,Qa3,getE hi', Qad,hb]
  .rw[if_neg (by simp[hb]),hb]
theorem Qape(k:Int)(s:Nm)(ns:List Nm)(ks:List Int)(hl:ns.length=ks.length)(hx:ns.length<=1000)(h1:Qpy k=some (ns,ks))(h2:Qagx.filter (·.of_==k)=(ns.zip ks).map λq=>⟨k,q.1,q.2⟩):Qno k s=some (fldR k s):=by
 have h:=Qavg s ns ks hl hx 0 (by omega);rw[show((0:Nat):Int)=0 from rfl,List.drop_zero] at h;rw[Qno,h1,Qad,h,Qad,Qarx k s _ h2,List.find?_map];have e:((λr:Qa8=>r.name_==s) ∘ λq:Nm×Int=>(⟨k,q.1,q.2⟩:Qa8))=λq=>q.1==s:=rfl
 rw[e];cases (ns.zip ks).find? (λq=>q.1==s)<;>rfl
theorem Qat4(k:Int)(s:Nm):Qno k s=some (fldR k s):=by
 by_cases h4:k=4
 .subst h4; exact Qape 4 s _ _ rfl (by decide) rfl rfl
 .by_cases h5:k=5
  .subst h5; exact Qape 5 s _ _ rfl (by decide) rfl rfl
  .by_cases h6:k=6
   .subst h6; exact Qape 6 s _ _ rfl (by decide) rfl rfl
   .have e4:(k==4)=false:=by simpa using h4
    have e5:(k==5)=false:=by simpa using h5
    have e6:(k==6)=false:=by simpa using h6
    have f4:((4:Int)==k)=false:=by simpa using λe=>h4 (Eq.symm e)
    have f5:((5:Int)==k)=false:=by simpa using λe=>h5 (Eq.symm e)
    have f6:((6:Int)==k)=false:=by simpa using λe=>h6 (Eq.symm e)
    refine Qape k s [] [] rfl (by decide) ?_ ?_
    .rw[Qpy,e4,e5,e6]; rfl
    .simp only[Qagx,List.filter_cons,f4,f5,f6,Bool.false_eq_true,if_false,List.filter_nil]; rfl
theorem Qavh(k:Int):Qlj k=Quj k:=rfl
def Q54(k:Int):Int×Bool:=if k==7 then(1,true) else if k==8 then(4,true) else if k==9 then(5,true) else(0,false)
theorem Qat5(k:Int):Quj k=some (Q54 k):=by
 rw[Quj,Q54];split
 .rfl
 .split
  .rfl
  .split<;>rfl
theorem Qary(k:Int):Qx9 k=some (Q0l k):=by
 rw[Qx9];by_cases h1:k<1
 .rw[decide_eq_true h1,if_pos rfl,Qad,if_pos rfl];unfold Q0l;by_cases h0:k<0
  .rw[if_pos (.inl h0)]
  .have:k=0:=by omega
   subst this; rfl
 .by_cases h9:k>9
  .rw[decide_eq_false h1,if_neg (by simp),decide_eq_true h9,Qad,if_pos rfl,Q0l,if_pos (.inr (by omega))]
  .rw[decide_eq_false h1,if_neg (by simp),decide_eq_false h9,Qad,if_neg (by simp)];have:k=1\/k=2\/k=3\/k=4\/k=5\/k=6\/k=7\/k=8\/k=9:=by omega
   rcases this with rfl | rfl | rfl | rfl | rfl | rfl | rfl | rfl | rfl<;>(rw[Qhc (by omega) (by omega)]; rfl)
def bndK(l:List Qaj)(s:Nm):Int×Bool:=match l.reverse.find? (·.Name==s) with | none=>(0,false) | some b=>(b.K,!(Q0l b.K==[]))
theorem Qat6(l:List Qaj)(s:Nm)(hl:l.length<=1000):∀ k,k<=l.length->Qg1 l s ((k:Int)-1)=some (match (l.take k).reverse.find? (·.Name==s) with | none =>.inl () | some b =>.inr (b.K,!(Q0l b.K==[])))
 | 0,_=>by rw[Qg1]; simp
 | k+1,hk=>by
  have e:(((k+1:Nat):Int)-1)=(k:Int):=by omega
  have hp:decide ((k:Int) >= 0)=true:=decide_eq_true (by omega);have e2:wr ((k:Int)-1)=(k:Int)-1:=Qhc (by omega) (by omega);rw[Qg1,e,hp,if_pos rfl,Qa3,getE (show k<l.length by omega),Qad,Qain l k (by omega),List.find?_cons];rcases Bool.eq_false_or_eq_true (l[k].Name==s) with hb | hb
  .simp only[hb,if_true,Qad,Qary]
  .simp only[hb,Bool.false_eq_true,if_false];rw[e2];exact Qat6 l s hl k (by omega)
theorem Qat7(l:List Qaj)(s:Nm)(hl:l.length<=1000):Qtt l s=some (bndK l s):=by
 have:=Qat6 l s hl l.length (Nat.le_refl _);rw[List.take_length] at this;rw[Qtt,Qhc (by omega) (by omega),this,bndK,Qad];cases l.reverse.find? (·.Name==s)<;>rfl
theorem Qat8(x:Qab)(l:List Qaj)(hl:l.length<=1000):∀ k,k<=l.length->Qfn x l ((k:Int)-1)=some (match (l.take k).reverse.find? (·.Name==x.Name) with | none =>.inl () | some b =>.inr (b.K,!(Q0l b.K==[])))
 | 0,_=>by rw[Qfn]; simp
 | k+1,hk=>by
  have e:(((k+1:Nat):Int)-1)=(k:Int):=by omega
  have hp:decide ((k:Int) >= 0)=true:=decide_eq_true (by omega);have e2:wr ((k:Int)-1)=(k:Int)-1:=Qhc (by omega) (by omega);rw[Qfn,e,hp,if_pos rfl,Qa3,getE (show k<l.length by omega),Qad,Qain l k (by omega),List.find?_cons];rcases Bool.eq_false_or_eq_true (l[k].Name==x.Name) with hb | hb
  .simp only[hb,if_true,Qya,Qad]
  .simp only[hb,Bool.false_eq_true,if_false];rw[e2];exact Qat8 x l hl k (by omega)
mutual
def kdN:Qab->List Qaj->List Nm->Int×Bool
 | ⟨k,s,_,_,a,_,_⟩,l,z=>if k==1 then(1,true) else if k==2 then(2,true) else if k==3 then(3,true) else if k==4 then bndK l s else if k==7 then(if decide (s ∈ z)=true then(1,true) else(0,false)) else
  if k==5||k==6 then(match kdL a l z with | none=>(0,false) | some ks=>if k==6 then Q0m s ks else match ks with | [y]=>fldR y s | _=>(0,false)) else(0,false)
def kdL:List Qab->List Qaj->List Nm->Option (List Int)
 | [],_,_=>some []
 | x::r,l,z=>if(kdN x l z).2 then(kdL r l z).map ((kdN x l z).1 :: ·) else none
end
def Qapf(x:Qab)(ks:List Int):Int×Bool:=if x.Kind==6 then Q0m x.Name ks else match ks with | [y]=>fldR y x.Name | _=>(0,false)
theorem Qap5(x:Qab)(l:List Qaj)(z:List Nm):kdN x l z=if x.Kind==1 then(1,true) else if x.Kind==2 then(2,true) else if x.Kind==3 then(3,true) else if x.Kind==4 then bndK l x.Name else if x.Kind==7 then(if decide (x.Name ∈ z)=true then(1,true) else(0,false)) else
  if x.Kind==5||x.Kind==6 then(match kdL x.L l z with | none=>(0,false) | some ks=>Qapf x ks) else(0,false):=by cases x; rw[kdN]; rfl
theorem Qagy:∀ {a:List Qab} {l:List Qaj} {z:List Nm} {ks:List Int},kdL a l z=some ks->ks.length=a.length
 | [],_,_,_,h=>by rw[kdL] at h; cases h; rfl
 | x::r,l,z,ks,h=>by
  rw[kdL] at h;split at h
  .obtain⟨k,hk,rfl⟩:=Option.map_eq_some_iff.1 h;rw[List.length_cons,List.length_cons,Qagy hk]
  .cases h
theorem rKdL(x:Qab)(l:List Qaj)(z:List Nm)(hx:x.L.length<=1000)(ih:∀ y ∈ x.L,Qof y l z=some (kdN y l z)):∀ k,k<=x.L.length->∀ v:List Int,v.length<=k->Qkw x l z v k=some (match kdL (x.L.drop k) l z with | none =>.inr () | some ks =>.inl (v++ks)):=by
 refine upto ?_ λk hk ih2=>?_
 .intro v _;have:decide (((x.L.length:Nat):Int)<(x.L.length:Int))=false:=decide_eq_false (by omega);rw[Qkw,this,if_neg (by simp),List.drop_length,kdL];simp
 .intro v hv;rw[Qkw,ltI,decide_eq_true hk,if_pos rfl,Qcb hk,kdL,Qa3,getE hk,Qad,ih _ (List.getElem_mem hk),Qad];rcases Bool.eq_false_or_eq_true (kdN x.L[k] l z).2 with hb | hb
  .rw[hb,if_neg (by simp),Qf0 (by simp; omega) (by simp; omega),Qad,Qa4 (show k<9223372036854775807 by omega),ih2 _ (by simp; omega),if_pos rfl];cases kdL (x.L.drop (k+1)) l z with
   | none=>rfl
   | some ks=>simp
  .rw[hb,if_pos (by simp),if_neg (by simp)]
theorem cKdL(x:Qab)(l:List Qaj)(z:List Nm)(hx:x.L.length<=1000)(ih:∀ y ∈ x.L,Qi1 y l z=some (kdN y l z)):∀ k,k<=x.L.length->∀ v:List Int,v.length<=k->Qhk x l z v k=some (match kdL (x.L.drop k) l z with | none =>.inr () | some ks =>.inl (v++ks)):=by
 refine upto ?_ λk hk ih2=>?_
 .intro v _;have:decide (((x.L.length:Nat):Int)<(x.L.length:Int))=false:=decide_eq_false (by omega);rw[Qhk,this,if_neg (by simp),List.drop_length,kdL];simp
 .intro v hv;rw[Qhk,ltI,decide_eq_true hk,if_pos rfl,Qcb hk,kdL,Qa3,getE hk,Qad,ih _ (List.getElem_mem hk),Qad];rcases Bool.eq_false_or_eq_true (kdN x.L[k] l z).2 with hb | hb
  .rw[hb,if_neg (by simp),Qf0 (by simp; omega) (by simp; omega),Qad,Qa4 (show k<9223372036854775807 by omega),ih2 _ (by simp; omega),if_pos rfl];cases kdL (x.L.drop (k+1)) l z with
   | none=>rfl
   | some ks=>simp
  .rw[hb,if_pos (by simp),if_neg (by simp)]
theorem Qap6(x:Qab)(o:Option (List Int))(hl:∀ ks,o=some ks->ks.length<=1000){f:Nm->List Int->Option (Int×Bool)}{g:Int->Nm->Option (Int×Bool)}(hf:∀ s L,L.length<=1000->f s L=some (Q0m s L))(hg:∀ k s,g k s=some (fldR k s)) :
  ((some (match o with | none =>.inr () | some ks =>.inl ([]++ks)):Option ((List Int)⊕Unit))>>=λo4=>match o4 with
   | .inl y5=>if(x.Kind==6) then f x.Name y5>>=λx10=>some (x10.1,x10.2) else if((y5.length:Int)==1) then idx y5 0>>=λx11=>g x11 x.Name>>=λx12=>some (x12.1,x12.2) else some (0,false)
   | .inr _=>some (0,false))=some (match o with | none=>(0,false) | some ks=>Qapf x ks):=by
 cases o with
 | none=>rfl
 | some ks =>
  have hk:=hl ks rfl;clear hl;show(if(x.Kind==6) then f x.Name ks>>=λx10=>some (x10.1,x10.2) else if((ks.length:Int)==1) then idx ks 0>>=λx11=>g x11 x.Name>>=λx12=>some (x12.1,x12.2) else some (0,false))=some (Qapf x ks);unfold Qapf;by_cases h6:(x.Kind==6)=true
  .rw[if_pos h6,if_pos h6,hf _ _ hk]; rfl
  .rw[if_neg h6,if_neg h6]
   match ks with
   | []=>rfl
   | [y] =>
    have hi:idx [y] 0=some y:=rfl;have h0:((([y]:List Int).length:Int)==1)=true:=rfl;rw[if_pos h0,hi,Qad,hg]; rfl
   | a::b::r =>
    rw[if_neg (by simp; omega)]
theorem rKd(l:List Qaj)(z:List Nm)(hl:l.length<=1000)(hz:z.length<=1000):∀ n (x:Qab),n<=1000->nn x<=n->Qof x l z=some (kdN x l z)
 | 0,x,_,h=>by have:=Qjh x; omega
 | n+1,x,hn,h=>by
  have e:=Qie x;have hlen:=Qfd x.L;have hL:=rKdL x l z (by omega) (λy hy=>rKd l z hl hz n y (by omega) (by have:=Qev hy; omega)) 0 (by omega) [] (by simp);rw[show((0:Nat):Int)=0 from rfl,List.drop_zero] at hL;have hT:=Qap6 x (kdL x.L l z) (λks hk=>by rw[Qagy hk]; omega) (f:=Qui) (g:=Qno) (λs L hL=>Qarv s L hL) (λk s=>Qat4 k s);rw[Qof,Qap5,Qat7 l _ hl,rIn z _ (by omega),hL];by_cases h1:(x.Kind==1)=true
  .rw[if_pos h1,if_pos h1]
  .rw[if_neg h1,if_neg h1];by_cases h2:(x.Kind==2)=true
   .rw[if_pos h2,if_pos h2]
   .rw[if_neg h2,if_neg h2];by_cases h3:(x.Kind==3)=true
    .rw[if_pos h3,if_pos h3]
    .rw[if_neg h3,if_neg h3];by_cases h4:(x.Kind==4)=true
     .rw[if_pos h4,if_pos h4]; rfl
     .rw[if_neg h4,if_neg h4];by_cases h7:(x.Kind==7)=true
      .rw[if_pos h7,if_pos h7,Qad];split<;>rfl
      .rw[if_neg h7,if_neg h7];rcases Bool.eq_false_or_eq_true (x.Kind==5) with h5 | h5
       .rw[h5,if_pos rfl,Qad,if_pos rfl,Bool.true_or,if_pos rfl]; exact hT
       .rw[h5,if_neg (by simp),Qad,Bool.false_or];by_cases h6:(x.Kind==6)=true
        .rw[if_pos h6,if_pos h6]; exact hT
        .rw[if_neg h6,if_neg h6]
theorem cKd(l:List Qaj)(z:List Nm)(hl:l.length<=1000)(hz:z.length<=1000):∀ n (x:Qab),n<=1000->nn x<=n->Qi1 x l z=some (kdN x l z)
 | 0,x,_,h=>by have:=Qjh x; omega
 | n+1,x,hn,h=>by
  have e:=Qie x;have hlen:=Qfd x.L;have hL:=cKdL x l z (by omega) (λy hy=>cKd l z hl hz n y (by omega) (by have:=Qev hy; omega)) 0 (by omega) [] (by simp);rw[show((0:Nat):Int)=0 from rfl,List.drop_zero] at hL;have hT:=Qap6 x (kdL x.L l z) (λks hk=>by rw[Qagy hk]; omega) (f:=Qec) (g:=Qmo) (λs L _=>Qarw s L) (λk s=>Qat3 k s);have hB:=Qat8 x l hl l.length (Nat.le_refl _);rw[List.take_length] at hB;rw[Qi1,Qap5,Qhc (by omega) (by omega),hB,Qadw z _ (by omega),hL];by_cases h1:(x.Kind==1)=true
  .rw[if_pos h1,if_pos h1]
  .rw[if_neg h1,if_neg h1];by_cases h2:(x.Kind==2)=true
   .rw[if_pos h2,if_pos h2]
   .rw[if_neg h2,if_neg h2];by_cases h3:(x.Kind==3)=true
    .rw[if_pos h3,if_pos h3]
    .rw[if_neg h3,if_neg h3];by_cases h4:(x.Kind==4)=true
     .rw[if_pos h4,if_pos h4,bndK,Qad];cases l.reverse.find? (·.Name==x.Name)<;>rfl
     .rw[if_neg h4,if_neg h4];by_cases h7:(x.Kind==7)=true
      .rw[if_pos h7,if_pos h7,Qad];split<;>rfl
      .rw[if_neg h7,if_neg h7];rcases Bool.eq_false_or_eq_true (x.Kind==5) with h5 | h5
       .rw[h5,if_pos rfl,Qad,if_pos rfl,Bool.true_or,if_pos rfl]; exact hT
       .rw[h5,if_neg (by simp),Qad,Bool.false_or];by_cases h6:(x.Kind==6)=true
        .rw[if_pos h6,if_pos h6]; exact hT
        .rw[if_neg h6,if_neg h6]
end Go.Proofs.YtfgegilhjlnohaaGreat
end
