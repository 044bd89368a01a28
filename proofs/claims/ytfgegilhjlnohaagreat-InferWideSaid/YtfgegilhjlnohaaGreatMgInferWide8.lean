/- Part 8 of 12. -/
import Derived.Test.YtfgegilhjlnohaaGreatMgInferWide7

noncomputable section
set_option linter.unusedVariables false
set_option linter.unusedSimpArgs false
set_option maxRecDepth 100000
set_option maxHeartbeats 4000000
namespace Go.Proofs.YtfgegilhjlnohaaGreat
open Go.RowKit
structure Qaa where
 Kind:Int
 Name:(List UInt8)
 Text:(List UInt8)
 N:Int
 L:(List Qaa)
 Then:(List Qaa)
 Else:(List Qaa)
mutual
def Qab:Qaa->List V
 | ⟨x0,x1,x2,x3,x4,x5,x6⟩=>[iV x0,sV x1,sV x2,iV x3,.sl false (Qip x4),.sl false (Qip x5),.sl false (Qip x6)]
def Qip:List Qaa->List (List V)
 | []=>[]
 | x::r=>Qab x::Qip r
end
theorem Qp3:∀ l:List Qaa,Qip l=l.map Qab
 | []=>rfl
 | x::r=>by rw[Qip,Qp3 r]; rfl
def Qbn (x:Qaa):List V:=[iV x.Kind,sV x.Name,sV x.Text,iV x.N,.sl false (x.L.map Qab),.sl false (x.Then.map Qab),.sl false (x.Else.map Qab)]
theorem Qar(x:Qaa):Qab x=Qbn x:=by cases x; simp[Qab,Qbn,Qp3]
structure Qad where
 Name:(List UInt8)
 L:(List Qaa)
def Qai (x:Qad):List V:=[sV x.Name,.sl false (x.L.map Qab)]
structure Qc8 where
 name_:Bool
 text_:Bool
 num_:Bool
 then_:Bool
 other_:Bool
 l_:Int
def Qjn (y:Bool):D :=.p (bV y)
def Q3i:List (Nat×List Nat):=[(0,[0,1,2]),(1,[6]),(3000001,[])]
def Qyc  (o1:Bool):St:=⟨[(6,.p (bV o1))],⟨[],[]⟩⟩
def Qiq (y:(List UInt8)):D :=.p (sV y)
def Q60:List (Nat×List Nat):=[(0,[0]),(1,[0,5]),(2,[0]),(3,[0,7]),(4,[2]),(5,[0,13]),(6,[2]),(7,[0,25]),(8,[2]),(9,[2]),(2001005,[])]
def Qz3  (o1:Int):St:=⟨[(0,.p (iV o1))],⟨[],[]⟩⟩
def Qna (y:Int×Int):D :=.tup [.p (iV y.1),.p (iV y.2)]
def Qsm:List (Nat×List Nat):=[(0,[0,1]),(1,[0,1,17]),(2,[4,5]),(3,[0,1,6]),(4,[0,1,6,7]),(5,[0,1,6,7,28]),(6,[0,1,6,7]),(7,[0,1,6,7,8]),(8,[0,1,6,7,8,9]),(9,[0,1,6,7,8,9,42]),(10,[0,1,6,7,8,9]),(11,[0,1,6,7,8,9]),(12,[0,1,6,7,8,71]),(13,[4,5]),(14,[4,5]),(1000005,[0,1,6,7]),(1000009,[0,1,6,7,8,9]),(3000001,[]),(3000005,[]),(3000012,[])]
def Q3j (p0:(List UInt8)) (p1:Int) (o1:Bool):St:=⟨[(0,.p (sV p0)),(1,.p (iV p1)),(17,.p (bV o1))],⟨[],[]⟩⟩
def Q3k (p0:(List UInt8)) (p1:Int) (v6:(List Int)) (v7:Int) (o5:Bool):St:=⟨[(0,.p (sV p0)),(1,.p (iV p1)),(6,.p (.sl true (v6.map cInt))),(7,.p (iV v7)),(28,.p (bV o5))],⟨[],[]⟩⟩
def Qmt (p0:(List UInt8)) (p1:Int) (v6:(List Int)) (v7:Int) (v8:Int) (v9:Int):St:=⟨[(0,.p (sV p0)),(1,.p (iV p1)),(6,.p (.sl true (v6.map cInt))),(7,.p (iV v7)),(8,.p (iV v8)),(9,.p (iV v9))],⟨[],[]⟩⟩
def Qr1 (p0:(List UInt8)) (p1:Int) (v6:(List Int)) (v7:Int) (o8:Int):St:=⟨[(0,.p (sV p0)),(1,.p (iV p1)),(6,.p (.sl true (v6.map cInt))),(7,.p (iV v7)),(8,.p (iV o8))],⟨[],[]⟩⟩
def Q3l:Code:=((Qa2 (Tryz.f171.body.getD .skip)).getD 1 .skip)
def Q3m (p0:(List UInt8)) (p1:Int) (v6:(List Int)) (v7:Int) (o8:Int) (o10:Bool):St:=⟨[(0,.p (sV p0)),(1,.p (iV p1)),(6,.p (.sl true (v6.map cInt))),(7,.p (iV v7)),(8,.p (iV o8)),(71,.p (bV o10))],⟨[],[]⟩⟩
def Qmu (p0:(List UInt8)) (p1:Int) (v6:(List Int)) (v7:Int):St:=⟨[(0,.p (sV p0)),(1,.p (iV p1)),(6,.p (.sl true (v6.map cInt))),(7,.p (iV v7))],⟨[],[]⟩⟩
def Qr2 (p0:(List UInt8)) (p1:Int) (y3:Unit):St:=⟨[],⟨[],[]⟩⟩
def Qr3 (p0:(List UInt8)) (p1:Int) (y4:Int×Int):St:=⟨[(4,.p (iV y4.1)),(5,.p (iV y4.2))],⟨[],[]⟩⟩
def Q3n:Code:=((Qa2 (Tryz.f171.body.getD .skip)).getD 0 .skip)
def Qq9 (y:Bool):D :=.p (bV y)
def Q9j:List (Nat×List Nat):=[(0,[0]),(1,[2]),(3000001,[])]
def Q3o  (o1:Bool):St:=⟨[(2,.p (bV o1))],⟨[],[]⟩⟩
def Qir (y:Bool):D :=.p (bV y)
def Qyd:List (Nat×List Nat):=[(0,[0]),(1,[0,17]),(2,[2]),(3,[0,3]),(4,[0,3,21]),(5,[0,3]),(6,[0,3,41]),(7,[2]),(8,[2]),(1000004,[0,3]),(3000001,[]),(3000006,[])]
def Q3p (p0:(List UInt8)) (o1:Bool):St:=⟨[(0,.p (sV p0)),(17,.p (bV o1))],⟨[],[]⟩⟩
def Q3q (p0:(List UInt8)) (v3:Int) (o7:Bool):St:=⟨[(0,.p (sV p0)),(3,.p (iV v3)),(41,.p (bV o7))],⟨[],[]⟩⟩
def Qmv (p0:(List UInt8)) (v3:Int):St:=⟨[(0,.p (sV p0)),(3,.p (iV v3))],⟨[],[]⟩⟩
def Qr4 (p0:(List UInt8)) (y5:Unit):St:=⟨[],⟨[],[]⟩⟩
def Qr5 (p0:(List UInt8)) (y6:Unit):St:=⟨[(2,.p (bV false))],⟨[],[]⟩⟩
def Q3r:Code:=((Qa2 (Tryz.f77.body.getD .skip)).getD 0 .skip)
def Qis (y:Bool):D :=.p (bV y)
def Q61:List (Nat×List Nat):=[(0,[0]),(1,[2]),(3000001,[])]
def Qz4  (o1:Bool):St:=⟨[(2,.p (bV o1))],⟨[],[]⟩⟩
def Qit (y:Bool):D :=.p (bV y)
def Q62:List (Nat×List Nat):=[(0,[0]),(1,[2]),(3000001,[])]
def Qz5  (o1:Bool):St:=⟨[(2,.p (bV o1))],⟨[],[]⟩⟩
def Qgy (y:Int):D :=.p (iV y)
def Qvq:List (Nat×List Nat):=[(0,[0]),(1,[0,3]),(2,[0,3,4]),(3,[0,3,4,8]),(4,[0,3,4]),(5,[0,3,4]),(6,[2]),(1000003,[0,3,4])]
def Qlj (p0:(List Qaa)) (v3:Int) (v4:Int):St:=⟨[(0,.p (.sl false (p0.map Qab))),(3,.p (iV v3)),(4,.p (iV v4))],⟨[],[]⟩⟩
def Qp4 (p0:(List Qaa)) (o1:Int):St:=⟨[(3,.p (iV o1))],⟨[],[]⟩⟩
def Qz6:Code:=((Qa2 (Tryz.f80.body.getD .skip)).getD 0 .skip)
def Qiu (y:Int):D :=.p (iV y)
def Qye:List (Nat×List Nat):=[(0,[0]),(1,[0,3]),(2,[0,3,4]),(3,[0,3,4,8]),(4,[0,3,4]),(5,[0,3,4]),(6,[2]),(1000003,[0,3,4])]
def Qmw (p0:(List Qaa)) (v3:Int) (v4:Int):St:=⟨[(0,.p (.sl false (p0.map Qab))),(3,.p (iV v3)),(4,.p (iV v4))],⟨[],[]⟩⟩
def Qr6 (p0:(List Qaa)) (o1:Int):St:=⟨[(3,.p (iV o1))],⟨[],[]⟩⟩
def Q3s:Code:=((Qa2 (Tryz.f79.body.getD .skip)).getD 0 .skip)
def Qra (y:Bool):D :=.p (bV y)
def Qyf:List (Nat×List Nat):=[(0,[0]),(1,[0,3]),(2,[0,3,4]),(3,[0,3,4,9]),(4,[0,3,4]),(5,[0,3,4,17]),(6,[2]),(7,[2]),(1000003,[0,3,4])]
def Qmx (p0:(List UInt8)) (x1:(List (List UInt8))) (v4:Int):St:=⟨[(0,.p (sV p0)),(3,.p (.sl false (x1.map cStr))),(4,.p (iV v4))],⟨[],[]⟩⟩
def Qr7 (p0:(List UInt8)) (x1:(List (List UInt8))) (y3:Unit):St:=⟨[(0,.p (sV p0))],⟨[],[]⟩⟩
def Qr8 (p0:(List UInt8)) (x1:(List (List UInt8))) (y4:Unit):St:=⟨[(2,.p (bV false))],⟨[],[]⟩⟩
def Q3t:Code:=((Qa2 (Tryz.f43.body.getD .skip)).getD 0 .skip)
def Qsn (y:(List (List UInt8))):D :=.p (.sl false (y.map cStr))
def Q63:List (Nat×List Nat):=[(0,[]),(1,[0])]
def Qen (y:(List UInt8)×Int):D :=.tup [.p (sV y.1),.p (iV y.2)]
def Qgm:List (Nat×List Nat):=[(0,[0]),(1,[0,19]),(2,[2,3]),(3,[0,20,21,22]),(4,[0,20,21,22,23]),(5,[0,4,5,20,21,22]),(6,[0,4,5,20,21,22,36]),(7,[2,3]),(8,[0,5,7,20,21,22]),(9,[0,5,20,21,22,48]),(10,[2,3]),(11,[0,20,21,22]),(12,[0,8]),(13,[0,8,54,55,56]),(14,[0,8,54,55,56,57]),(15,[0,8,10,54,55,56]),(16,[0,8,10,54,55,56,64,65,66]),(17,[0,8,10,54,55,56,64,65,66,67]),(18,[0,8,10,12,54,55,56,64,65,66]),(19,[0,8,10,14,54,55,56,64,65,66]),(20,[0,8,10,54,55,56,64,65,66,78]),(21,[2,3]),(22,[0,8,10,54,55,56,64,65,66]),(23,[0,8,54,55,56]),(24,[8,83,84,85]),(25,[8,83,84,85,86]),(26,[8,16,83,84,85]),(27,[8,16,83,84,85,98]),(28,[2,3]),(29,[8,83,84,85]),(30,[2,3]),(1000004,[0,20,21,22]),(1000014,[0,8,54,55,56]),(1000017,[0,8,10,54,55,56,64,65,66]),(1000025,[8,83,84,85]),(3000006,[]),(5000027,[2005]),(9000016,[4,0,0,0]),(9000019,[3,0,0,0])]
def Qv9 (p0:(List Qad)) (v22:Int) (x4:Qad) (o5:Bool):St:=⟨[(0,.p (.sl false (p0.map Qai))),(4,.p (iV v22)),(5,.ptr 0 0),(20,.p (.sl false (p0.map Qai))),(21,.p (iV (p0.length:Int))),(22,.p (iV v22)),(36,.p (bV o5))],⟨[[.p (sV x4.Name),.p (.sl false (x4.L.map Qab))]],[]⟩⟩
def Qiv (p0:(List Qad)) (v22:Int):St:=⟨[(0,.p (.sl false (p0.map Qai))),(20,.p (.sl false (p0.map Qai))),(21,.p (iV (p0.length:Int))),(22,.p (iV v22))],⟨[],[]⟩⟩
def Qnb (p0:(List Qad)) (y2:Unit):St:=⟨[(0,.p (.sl false (p0.map Qai)))],⟨[],[]⟩⟩
def Qnc (p0:(List Qad)) (y3:(List UInt8)×Int):St:=⟨[(2,.p (sV y3.1)),(3,.p (iV y3.2))],⟨[],[]⟩⟩
def Qwa:Code:=((Qa2 (Tryz.f13.body.getD .skip)).getD 0 .skip)
def Qiw (p0:(List Qad)) (x10:(List ((List UInt8)×(List (List UInt8))))) (v56:Int) (x14:Qad) (v66:Int):St:=⟨[(0,.p (.sl false (p0.map Qai))),(8,.ptr 1 0),(10,.ptr 2 0),(54,.p (.sl false (p0.map Qai))),(55,.p (iV (p0.length:Int))),(56,.p (iV v56)),(64,.p (.sl false (((mget (λa b=>a==b) x14.Name x10).getD []).map cStr))),(65,.p (iV (((mget (λa b=>a==b) x14.Name x10).getD []).length:Int))),(66,.p (iV v66))],⟨[[mpD sV (λx =>.sl false (x.map cStr)) x10],[.mh 0],[.p (sV x14.Name),.p (.sl false (x14.L.map Qab))]],[]⟩⟩
def Qnd (p0:(List Qad)) (x10:(List ((List UInt8)×(List (List UInt8))))) (v56:Int) (x14:Qad) (y16:Unit):St:=⟨[(0,.p (.sl false (p0.map Qai))),(8,.ptr 1 0),(54,.p (.sl false (p0.map Qai))),(55,.p (iV (p0.length:Int))),(56,.p (iV v56))],⟨[[mpD sV (λx =>.sl false (x.map cStr)) x10],[.mh 0],[.p (sV x14.Name),.p (.sl false (x14.L.map Qab))]],[]⟩⟩
def Qne (p0:(List Qad)) (x10:(List ((List UInt8)×(List (List UInt8))))) (v56:Int) (x14:Qad) (y17:Unit):St:=⟨[(2,.p (sV x14.Name)),(3,.p (iV 4))],⟨[[mpD sV (λx =>.sl false (x.map cStr)) x10],[.mh 0],[.p (sV x14.Name),.p (.sl false (x14.L.map Qab))]],[]⟩⟩
def Qwb:Code:=((Qa2 (Tryz.f13.body.getD .skip)).getD 2 .skip)
def Qix (p0:(List Qad)) (x10:(List ((List UInt8)×(List (List UInt8))))) (v56:Int):St:=⟨[(0,.p (.sl false (p0.map Qai))),(8,.ptr 1 0),(54,.p (.sl false (p0.map Qai))),(55,.p (iV (p0.length:Int))),(56,.p (iV v56))],⟨[[mpD sV (λx =>.sl false (x.map cStr)) x10],[.mh 0]],[]⟩⟩
def Qnf (p0:(List Qad)) (x10:(List ((List UInt8)×(List (List UInt8))))) (y12:Unit):St:=⟨[(0,.p (.sl false (p0.map Qai))),(8,.ptr 1 0)],⟨[[mpD sV (λx =>.sl false (x.map cStr)) x10],[.mh 0]],[]⟩⟩
def Qng (p0:(List Qad)) (x10:(List ((List UInt8)×(List (List UInt8))))) (y13:(List UInt8)):St:=⟨[(2,.p (sV y13)),(3,.p (iV 4))],⟨[[mpD sV (λx =>.sl false (x.map cStr)) x10],[.mh 0]],[]⟩⟩
def Qwc:Code:=((Qa2 (Tryz.f13.body.getD .skip)).getD 1 .skip)
def Qiy (p0:(List Qad)) (x10:(List ((List UInt8)×(List (List UInt8))))) (v85:Int):St:=⟨[(8,.ptr 1 0),(83,.p (.sl false (p0.map Qai))),(84,.p (iV (p0.length:Int))),(85,.p (iV v85))],⟨[[mpD sV (λx =>.sl false (x.map cStr)) x10],[.mh 0]],[]⟩⟩
def Qnh (p0:(List Qad)) (x10:(List ((List UInt8)×(List (List UInt8))))) (y20:Unit):St:=⟨[],⟨[[mpD sV (λx =>.sl false (x.map cStr)) x10],[.mh 0]],[]⟩⟩
def Qni (p0:(List Qad)) (x10:(List ((List UInt8)×(List (List UInt8))))) (y21:(List UInt8)):St:=⟨[(2,.p (sV y21)),(3,.p (iV 10))],⟨[[mpD sV (λx =>.sl false (x.map cStr)) x10],[.mh 0]],[]⟩⟩
def Qwd:Code:=((Qa2 (Tryz.f13.body.getD .skip)).getD 3 .skip)
def Qhd (y:(List Qaa)×Bool):D :=.tup [.p (.sl false (y.1.map Qab)),.p (bV y.2)]
def Qtq:List (Nat×List Nat):=[(0,[0,1]),(1,[1,8,9,10]),(2,[1,8,9,10,11]),(3,[1,7,8,9,10]),(4,[1,7,8,9,10,17]),(5,[4,5]),(6,[1,8,9,10]),(7,[4,5]),(1000002,[1,8,9,10])]
def Qkf (p0:(List Qad)) (p1:(List UInt8)) (v10:Int):St:=⟨[(1,.p (sV p1)),(8,.p (.sl false (p0.map Qai))),(9,.p (iV (p0.length:Int))),(10,.p (iV v10))],⟨[],[]⟩⟩
def Qoz (p0:(List Qad)) (p1:(List UInt8)) (y2:Unit):St:=⟨[],⟨[],[]⟩⟩
def Qo0 (p0:(List Qad)) (p1:(List UInt8)) (y3:(List Qaa)):St:=⟨[(4,.p (.sl false (y3.map Qab))),(5,.p (bV true))],⟨[],[]⟩⟩
def Qyg:Code:=((Qa2 (Tryz.f39.body.getD .skip)).getD 0 .skip)
def Qp5 (y:(List (List UInt8))):D :=.p (.sl false (y.map cStr))
def Q3u:List (Nat×List Nat):=[(0,[0]),(1,[0,3]),(2,[0,3,4]),(3,[0,3,4]),(4,[3]),(5,[3]),(6,[2]),(9000005,[1,3,0,0]),(9000006,[1,0,0,0]),(9500004,[])]
def Qmy (_:(List (List UInt8))):D :=.tup []
def Qp6:List (Nat×List Nat):=[(0,[1,2,6,7,8]),(1,[1,2,6,7,8,9]),(2,[1,2,5,6,7,8]),(3,[1,2,5,6,7,8,14]),(4,[1,2,5,6,7,8]),(5,[1,2,5,6,7,8]),(6,[1,2,6,7,8]),(7,[1,2,6,7,8]),(1000001,[1,2,6,7,8]),(2003005,[]),(9000004,[4,0,0,0])]
def Qu7 (p0:(List Qaa)) (v8:Int) (x2:Qaa) (o3:(List (List UInt8))):St:=⟨[(1,.ptr 0 0),(2,.ptr 1 0),(5,.ptr 2 0),(6,.p (.sl false (p0.map Qab))),(7,.p (iV (p0.length:Int))),(8,.p (iV v8))],⟨[[.x 0 (o3.length+1) (.sl 9 1 (o3.map cStr))],[.fn (.func 99) [] [.ptr 0 0,.ptr 1 0]],[.p (iV x2.Kind),.p (sV x2.Name),.p (sV x2.Text),.p (iV x2.N),.p (.sl false (x2.L.map Qab)),.p (.sl false (x2.Then.map Qab)),.p (.sl false (x2.Else.map Qab))]],[(o3.length+1)]⟩⟩
def Qho (p0:(List Qaa)) (v8:Int) (h0_0_:(List (List UInt8))):St:=⟨[(1,.ptr 0 0),(2,.ptr 1 0),(6,.p (.sl false (p0.map Qab))),(7,.p (iV (p0.length:Int))),(8,.p (iV v8))],⟨[[.x 0 (h0_0_.length+1) (.sl 9 1 (h0_0_.map cStr))],[.fn (.func 99) [] [.ptr 0 0,.ptr 1 0]]],[(h0_0_.length+1)]⟩⟩
def Ql9 (p0:(List Qaa)) (o1:(List (List UInt8))):St:=⟨[],⟨[[.x 0 (o1.length+1) (.sl 9 1 (o1.map cStr))],[.fn (.func 99) [] [.ptr 0 0,.ptr 1 0]]],[(o1.length+1)]⟩⟩
def Qu8:Code:=((Qa2 (Tryz.f99.body.getD .skip)).getD 0 .skip)
def Qtr (_:(List ((List UInt8)×(List (List UInt8))))):D :=.agg [.mh 0]
def Qr9:List (Nat×List Nat):=[(0,[0,2]),(1,[0,2,3]),(2,[2,3,10,11,12]),(3,[2,3,10,11,12,13]),(4,[2,3,5,10,11,12]),(5,[2,3,5,7,10,11,12]),(6,[2,3,5,10,11,12,25]),(7,[2,3,10,11,12]),(8,[2,3,10,11,12]),(9,[2]),(1000003,[2,3,10,11,12]),(9000001,[0,0,0,0]),(9000005,[4,0,0,0]),(9000007,[7,0,0,0]),(9800007,[7]),(7000007,[2,3,10,11,12,27,29,32])]
def Qf9 (p0:(List Qad)) (v12:Int) (h1_0:(List ((List UInt8)×(List (List UInt8))))):St:=⟨[(2,.ptr 0 0),(3,.ptr 2 0),(10,.p (.sl false (p0.map Qai))),(11,.p (iV (p0.length:Int))),(12,.p (iV v12))],⟨[[.p (.v (.map none))],[mpD sV (λx =>.sl false (x.map cStr)) h1_0],[.mh 1]],[]⟩⟩
def Qnj (p0:(List Qad)) (o1:(List ((List UInt8)×(List (List UInt8))))):St:=⟨[(2,.ptr 0 0),(3,.ptr 2 0)],⟨[[.p (.v (.map none))],[mpD sV (λx =>.sl false (x.map cStr)) o1],[.mh 1]],[]⟩⟩
def Qwe:Code:=((Qa2 (Tryz.f40.body.getD .skip)).getD 0 .skip)
def Qhp (y:(List (List UInt8))):D :=.p (.sl false (y.map cStr))
def Qeo:List (Nat×List Nat):=[(0,[1,2]),(1,[1,2,5]),(2,[2,5,6]),(3,[2,5,6,15,16,17]),(4,[2,5,6,15,16,17,18]),(5,[2,5,6,8,15,16,17]),(6,[2,5,6,15,16,17]),(7,[2,5,6,15,16,17]),(8,[2,5,6,9]),(9,[2,5,6,9,27]),(10,[2,5,6,9]),(11,[2,5,6,9,36,37,38]),(12,[2,5,6,9,36,37,38,39]),(13,[2,5,6,9,11,36,37,38]),(14,[2,5,6,9,11,36,37,38,45]),(15,[2,5,6,9,11,36,37,38]),(16,[2,5,6,9,36,37,38]),(17,[2,5,6,9,36,37,38]),(18,[6]),(19,[4]),(1000004,[2,5,6,15,16,17]),(1000009,[2,5,6,9]),(1000012,[2,5,6,9,36,37,38]),(5000011,[2004,2005,2006]),(9000001,[0,0,0,0]),(9000003,[1,0,0,0]),(9000005,[0,0,0,0,1,0,0,0]),(9000006,[2,0,0,0]),(9000009,[2,0,0,0]),(9000014,[2,0,0,0]),(9000015,[2,0,0,0]),(9000016,[3,0,0,0]),(9000018,[1,1,6,0])]
def Qfh (h0_0:(List ((List UInt8)×(List (List UInt8))))) (x1:(List (List UInt8))) (v17:Int) (h2_0:(List ((List UInt8)×Int))):St:=⟨[(2,.ptr 1 0),(5,.mh 2),(6,.x 0 1 (.sl 9 1 (x1.map cStr))),(15,.x 0 1 (.sl 9 1 (x1.map cStr))),(16,.p (iV (x1.length:Int))),(17,.p (iV v17))],⟨[[mpD sV (λx =>.sl false (x.map cStr)) h0_0],[.mh 0],[mpD sV iV h2_0]],[1]⟩⟩
def Qie (h0_0:(List ((List UInt8)×(List (List UInt8))))) (x1:(List (List UInt8))) (o2:(List ((List UInt8)×Int))):St:=⟨[(2,.ptr 1 0),(5,.mh 2),(6,.x 0 1 (.sl 9 1 (x1.map cStr)))],⟨[[mpD sV (λx =>.sl false (x.map cStr)) h0_0],[.mh 0],[mpD sV iV o2]],[1]⟩⟩
def Qp7:Code:=((Qa2 (Tryz.f42.body.getD .skip)).getD 0 .skip)
def Qdw (h0_0:(List ((List UInt8)×(List (List UInt8))))) (v9:Int) (x5:(List UInt8)) (v6_:(List (List UInt8))) (v38:Int) (h2_0_:(List ((List UInt8)×Int))):St:=⟨[(2,.ptr 1 0),(5,.mh 2),(6,.x 0 1 (.sl 9 1 (v6_.map cStr))),(9,.p (iV v9)),(36,.p (.sl false (((mget (λa b=>a==b) x5 h0_0).getD []).map cStr))),(37,.p (iV (((mget (λa b=>a==b) x5 h0_0).getD []).length:Int))),(38,.p (iV v38))],⟨[[mpD sV (λx =>.sl false (x.map cStr)) h0_0],[.mh 0],[mpD sV iV h2_0_]],[1]⟩⟩
def Qif (h0_0:(List ((List UInt8)×(List (List UInt8))))) (v9:Int) (x5:(List UInt8)) (o6:(List (List UInt8))×(List ((List UInt8)×Int))):St:=⟨[(2,.ptr 1 0),(5,.mh 2),(6,.x 0 1 (.sl 9 1 (o6.1.map cStr))),(9,.p (iV v9))],⟨[[mpD sV (λx =>.sl false (x.map cStr)) h0_0],[.mh 0],[mpD sV iV o6.2]],[1]⟩⟩
def Qp8:Code:=((Qa2 (Tryz.f42.body.getD .skip)).getD 2 .skip)
def Qfi (h0_0:(List ((List UInt8)×(List (List UInt8))))) (v6:(List (List UInt8))) (v9:Int) (h2_0:(List ((List UInt8)×Int))):St:=⟨[(2,.ptr 1 0),(5,.mh 2),(6,.x 0 1 (.sl 9 1 (v6.map cStr))),(9,.p (iV v9))],⟨[[mpD sV (λx =>.sl false (x.map cStr)) h0_0],[.mh 0],[mpD sV iV h2_0]],[1]⟩⟩
def Qig (h0_0:(List ((List UInt8)×(List (List UInt8))))) (o4:(List (List UInt8))×(List ((List UInt8)×Int))):St:=⟨[(6,.x 0 1 (.sl 9 1 (o4.1.map cStr)))],⟨[[mpD sV (λx =>.sl false (x.map cStr)) h0_0],[.mh 0],[mpD sV iV o4.2]],[1]⟩⟩
def Qp9:Code:=((Qa2 (Tryz.f42.body.getD .skip)).getD 1 .skip)
def Qcn (y:Bool):D :=.p (bV y)
def Qhq:List (Nat×List Nat):=[(0,[0,1]),(1,[4]),(3000001,[])]
def Qgz  (o1:Bool):St:=⟨[(4,.p (bV o1))],⟨[],[]⟩⟩
def Qfl (y:Int):D :=.p (iV y)
def Qec (y:Int):D :=.p (iV y)
def Qod (y:(List UInt8)×Bool):D :=.tup [.p (sV y.1),.p (bV y.2)]
def Qvr:List (Nat×List Nat):=[(0,[0]),(1,[0,14]),(2,[2,3]),(3,[0,4]),(4,[0,4,17,18]),(5,[0,4,17,18,19]),(6,[0,4,5,17,18]),(7,[0,4,6,17,18]),(8,[0,4,6,17,18,24]),(9,[0,4,17,18]),(10,[0,4,6,17,18,24,29]),(11,[0,4,17,18]),(12,[0,4,6,17,18,24,33]),(13,[0,4,17,18]),(14,[0,4,6,17,18,24,37]),(15,[0,4,6,17,18,37]),(16,[0,4,17,18]),(17,[0,4,17,18]),(18,[2,3]),(1000005,[0,4,17,18]),(2014005,[]),(3000001,[])]
def Qz7 (p0:(List UInt8)) (o1:Bool):St:=⟨[(0,.p (sV p0)),(14,.p (bV o1))],⟨[],[]⟩⟩
def Qz8 (p0:(List UInt8)) (v4:(List Int)) (v18:Int) (x5:UInt8) (o8:Bool):St:=⟨[(0,.p (sV p0)),(4,.own 0 1000005 1 (v4.map (cNum .u8))),(6,.p (nV .u8 (x5.toNat:Int))),(17,.p (iV (p0.length:Int))),(18,.p (iV v18)),(37,.p (bV o8))],⟨[],[(v4.map (cNum .u8)).length]⟩⟩
def Qeh (p0:(List UInt8)) (v4:(List Int)) (v18:Int):St:=⟨[(0,.p (sV p0)),(4,.own 0 1000005 1 (v4.map (cNum .u8))),(17,.p (iV (p0.length:Int))),(18,.p (iV v18))],⟨[],[(v4.map (cNum .u8)).length]⟩⟩
def Qqa (p0:(List UInt8)) (o4:(List Int)):St:=⟨[(4,.own 0 1000005 1 (o4.map (cNum .u8)))],⟨[],[(o4.map (cNum .u8)).length]⟩⟩
def Qz9:Code:=((Qa2 (Tryz.f154.body.getD .skip)).getD 0 .skip)
def Qk6 (y:Bool):D :=.p (bV y)
def Qyh:List (Nat×List Nat):=[(0,[0]),(1,[0,5,6]),(2,[0,5,6,7]),(3,[0,3,5,6]),(4,[0,5,6,13]),(5,[2]),(6,[0,5,6]),(7,[2]),(1000002,[0,5,6]),(3000007,[])]
def Qmz (p0:(List UInt8)) (v6:Int):St:=⟨[(0,.p (sV p0)),(5,.p (iV (p0.length:Int))),(6,.p (iV v6))],⟨[],[]⟩⟩
def Qsa (p0:(List UInt8)) (y2:Unit):St:=⟨[(0,.p (sV p0))],⟨[],[]⟩⟩
def Qsb (p0:(List UInt8)) (y3:Unit):St:=⟨[(2,.p (bV false))],⟨[],[]⟩⟩
def Q3v:Code:=((Qa2 (Tryz.f69.body.getD .skip)).getD 0 .skip)
def Q3w  (o6:Bool):St:=⟨[(2,.p (bV o6))],⟨[],[]⟩⟩
def Qoe (y:Bool):D :=.p (bV y)
def Q64:List (Nat×List Nat):=[(0,[0]),(1,[2]),(3000001,[])]
def Q0a  (o1:Bool):St:=⟨[(2,.p (bV o1))],⟨[],[]⟩⟩
def Qqb (y:Bool):D :=.p (bV y)
def Q3x:List (Nat×List Nat):=[(0,[0]),(1,[2]),(3000001,[])]
def Qyi  (o1:Bool):St:=⟨[(2,.p (bV o1))],⟨[],[]⟩⟩
def Qdb (y:(List (List UInt8))):D :=.x 0 1 (.sl 9 1 (y.map cStr))
def Qkg:List (Nat×List Nat):=[(0,[0]),(1,[0,4]),(2,[2]),(3,[2]),(9000001,[1,0,0,0]),(9000003,[2,0,0,0])]
def Qbv (y:Bool):D :=.p (bV y)
def Qdi:List (Nat×List Nat):=[(0,[0,1]),(1,[4])]
def Qb3 (y:Bool):D :=.p (bV y)
def Qic:List (Nat×List Nat):=[(0,[0,1]),(1,[4])]
def Qbd (y:Int):D :=.p (iV y)
def Qb4:List (Nat×List Nat):=[(0,[0,1]),(1,[0,1,7,8]),(2,[0,1,7,8,9]),(3,[0,1,5,7,8]),(4,[0,1,5,7,8,16]),(5,[4]),(6,[0,1,7,8]),(7,[4]),(1000002,[0,1,7,8])]
def Qa7 (p0:(List Qaa)) (v8:Int):St:=⟨[(0,.p (.sl false (p0.map Qab))),(1,.fn (.func 155) [] []),(7,.p (iV (p0.length:Int))),(8,.p (iV v8))],⟨[],[]⟩⟩
def Qbr (p0:(List Qaa)) (y2:Unit):St:=⟨[],⟨[],[]⟩⟩
def Qbs (p0:(List Qaa)) (y3:Int):St:=⟨[(4,.p (iV y3))],⟨[],[]⟩⟩
def Qdn:Code:=((Qa2 (Tryz.f83.body.getD .skip)).getD 0 .skip)
def Qci (y:Int):D :=.p (iV y)
def Qe7:List (Nat×List Nat):=[(0,[0,1]),(1,[0,1,7,8]),(2,[0,1,7,8,9]),(3,[0,1,5,7,8]),(4,[0,1,5,7,8,16]),(5,[4]),(6,[0,1,7,8]),(7,[4]),(1000002,[0,1,7,8])]
def Qco (p0:(List (List UInt8))) (p1:(List UInt8)) (v8:Int):St:=⟨[(0,.p (.sl false (p0.map cStr))),(1,.p (sV p1)),(7,.p (iV (p0.length:Int))),(8,.p (iV v8))],⟨[],[]⟩⟩
def Qed (p0:(List (List UInt8))) (p1:(List UInt8)) (y2:Unit):St:=⟨[],⟨[],[]⟩⟩
def Qee (p0:(List (List UInt8))) (p1:(List UInt8)) (y3:Int):St:=⟨[(4,.p (iV y3))],⟨[],[]⟩⟩
def Qiz:Code:=((Qa2 (Tryz.f74.body.getD .skip)).getD 0 .skip)
def Qhr (y:Bool):D :=.p (bV y)
def Qso:List (Nat×List Nat):=[(0,[0,1]),(1,[4])]
def Qcu (y:Bool):D :=.p (bV y)
def Qrn:List (Nat×List Nat):=[(0,[0,1]),(1,[4])]
def Qlk (y:Int):D :=.p (iV y)
def Qwf:List (Nat×List Nat):=[(0,[0,1]),(1,[4])]
def Qg0 (y:Int):D :=.p (iV y)
def Qro:List (Nat×List Nat):=[(0,[0,1]),(1,[4])]
def Qqc (y:Int):D :=.p (iV y)
def Qof:List (Nat×List Nat):=[(0,[0]),(1,[0,3]),(2,[3,5]),(3,[3,5]),(4,[2]),(4000003,[3,5])]
def Qgs (x1:(List Qaa)×Int) (h0_0:Int):St:=⟨[(3,.ptr 0 0),(5,.fn (.func 125) [] [.p (.ep [.sl false (x1.1.map Qab)]),.p (.ep [iV x1.2])])],⟨[[.p (iV h0_0)]],[]⟩⟩
def Qo1 (x1:(List Qaa)×Int) (o6:Int):St:=⟨[(3,.ptr 0 0),(5,.fn (.func 125) [] [.p (.ep [.sl false (x1.1.map Qab)]),.p (.ep [iV x1.2])])],⟨[[.p (iV o6)]],[]⟩⟩
def Qll:Code:=((Qa2 (Tryz.f71.body.getD .skip)).getD 0 .skip)
def Qsp (y:Int):D :=.p (iV y)
def Qqd:List (Nat×List Nat):=[(0,[0,5]),(1,[0,3,5]),(2,[3,5,7]),(3,[3,5,7]),(4,[3,5,7]),(5,[2]),(4000003,[3,5,7])]
def Qhs (x1:(List Qaa)×Int) (h0_0:Int):St:=⟨[(3,.ptr 0 0),(7,.fn (.func 125) [] [.p (.ep [.sl false (x1.1.map Qab)]),.p (.ep [iV x1.2])])],⟨[[.p (iV h0_0)]],[]⟩⟩
def Qqe (x1:(List Qaa)×Int) (o6:Int):St:=⟨[(3,.ptr 0 0),(7,.fn (.func 125) [] [.p (.ep [.sl false (x1.1.map Qab)]),.p (.ep [iV x1.2])])],⟨[[.p (iV o6)]],[]⟩⟩
def Qm0:Code:=((Qa2 (Tryz.f70.body.getD .skip)).getD 0 .skip)
def Qyj (y:Bool):D :=.p (bV y)
def Qacr:List (Nat×List Nat):=[(0,[0]),(1,[2]),(3000001,[])]
def Q65  (o1:Bool):St:=⟨[(2,.p (bV o1))],⟨[],[]⟩⟩
def Qfs (y:Bool):D :=.p (bV y)
def Q66:List (Nat×List Nat):=[(0,[0]),(1,[0,3]),(2,[0,3,4]),(3,[0,3,4]),(4,[0,3,4]),(5,[0,3,4]),(6,[0,3,4]),(7,[0,3,4]),(8,[0,3,4]),(9,[0,3,4]),(10,[0,3,4]),(11,[0,4]),(12,[2]),(13,[2]),(2002037,[])]
def Q0b (p0:(List UInt8)) (o1:Bool):St:=⟨[(0,.p (sV p0)),(4,.p (bV o1))],⟨[],[]⟩⟩
def Qnk (y:(List Qaa)×Int):D :=.fn (.func 125) [] [.p (.ep [.sl false (y.1.map Qab)]),.p (.ep [iV y.2])]
def Q9k:List (Nat×List Nat):=[(0,[2,3]),(1,[4])]
def Qcg (y:(Qaa×Int)):List V:=[.agg [iV y.1.Kind,sV y.1.Name,sV y.1.Text,iV y.1.N,.sl false (y.1.L.map Qab),.sl false (y.1.Then.map Qab),.sl false (y.1.Else.map Qab)],iV y.2]
def Qht:List (Nat×List Nat):=[(0,[1,2,3,8,9]),(1,[2,3,8,9,10,11,12]),(2,[2,3,8,9,10,11,12,13]),(3,[2,3,5,8,9,10,11,12]),(4,[2,3,5,8,9,10,11,12,20]),(5,[2,3,8,9,10,11,12,27,28]),(6,[2,3,8,9,10,11,12,27,28,29]),(7,[2,3,7,8,9,10,11,12,27,28]),(8,[2,3,8,9,10,11,12,27,28,34]),(9,[2,3,8,10,11,12,27,28,34,36]),(10,[2,3,8,9,10,11,12,27,28,34]),(11,[2,3,8,9,10,11,12,27,28,34,41]),(12,[2,3,8,9,10,11,12,27,28]),(13,[2,3,8,9,10,11,12]),(1000002,[2,3,8,9,10,11,12]),(1000006,[2,3,8,9,10,11,12,27,28]),(4000009,[2,3,8,9,10,11,12,27,28,34])]
def Qgt (p0:(List Qaa)) (p1:Int) (v12:Int) (x3:Qaa) (v28:Int) (x7:(List Qaa)×Int) (gxs gp:List (List V)):St:=⟨[(2,.p (.ep [iV p1])),(3,.ptr 0 0),(10,.p (.sl false (p0.map Qab))),(11,.p (iV (p0.length:Int))),(12,.p (iV v12)),(27,.p (.agg [.sl false (x3.L.map Qab),.sl false (x3.Then.map Qab),.sl false (x3.Else.map Qab)])),(28,.p (iV v28)),(34,.fn (.func 125) [] [.p (.ep [.sl false (x7.1.map Qab)]),.p (.ep [iV x7.2])])],⟨[[.yld Tryz.prog 0 gxs],[.p (iV x3.Kind),.p (sV x3.Name),.p (sV x3.Text),.p (iV x3.N),.p (.sl false (x3.L.map Qab)),.p (.sl false (x3.Then.map Qab)),.p (.sl false (x3.Else.map Qab))]],[gp.length]⟩⟩
def Qo2 (p0:(List Qaa)) (p1:Int) (v12:Int) (x3:Qaa) (v28:Int) (x7:(List Qaa)×Int) (gxs:List (List V)) (gq12:List (List V)) (oy:Unit):St:=⟨[(2,.p (.ep [iV p1])),(3,.ptr 0 0),(10,.p (.sl false (p0.map Qab))),(11,.p (iV (p0.length:Int))),(12,.p (iV v12)),(27,.p (.agg [.sl false (x3.L.map Qab),.sl false (x3.Then.map Qab),.sl false (x3.Else.map Qab)])),(28,.p (iV v28)),(34,.fn (.func 125) [] [.p (.ep [.sl false (x7.1.map Qab)]),.p (.ep [iV x7.2])])],⟨[[.yld Tryz.prog 0 gxs],[.p (iV x3.Kind),.p (sV x3.Name),.p (sV x3.Text),.p (iV x3.N),.p (.sl false (x3.L.map Qab)),.p (.sl false (x3.Then.map Qab)),.p (.sl false (x3.Else.map Qab))]],[gq12.length]⟩⟩
def Qlm:Code:=((Qa2 (Tryz.f125.body.getD .skip)).getD 2 .skip)
def Qkh (p0:(List Qaa)) (p1:Int) (v12:Int) (x3:Qaa) (v28:Int) (gxs gp:List (List V)):St:=⟨[(2,.p (.ep [iV p1])),(3,.ptr 0 0),(10,.p (.sl false (p0.map Qab))),(11,.p (iV (p0.length:Int))),(12,.p (iV v12)),(27,.p (.agg [.sl false (x3.L.map Qab),.sl false (x3.Then.map Qab),.sl false (x3.Else.map Qab)])),(28,.p (iV v28))],⟨[[.yld Tryz.prog 0 gxs],[.p (iV x3.Kind),.p (sV x3.Name),.p (sV x3.Text),.p (iV x3.N),.p (.sl false (x3.L.map Qab)),.p (.sl false (x3.Then.map Qab)),.p (.sl false (x3.Else.map Qab))]],[gp.length]⟩⟩
def Qo3 (p0:(List Qaa)) (p1:Int) (v12:Int) (x3:Qaa) (gxs:List (List V)) (gq4:List (List V)) (oy:Unit):St:=⟨[(2,.p (.ep [iV p1])),(3,.ptr 0 0),(10,.p (.sl false (p0.map Qab))),(11,.p (iV (p0.length:Int))),(12,.p (iV v12))],⟨[[.yld Tryz.prog 0 gxs],[.p (iV x3.Kind),.p (sV x3.Name),.p (sV x3.Text),.p (iV x3.N),.p (.sl false (x3.L.map Qab)),.p (.sl false (x3.Then.map Qab)),.p (.sl false (x3.Else.map Qab))]],[gq4.length]⟩⟩
def Qyk:Code:=((Qa2 (Tryz.f125.body.getD .skip)).getD 1 .skip)
def Qki (p0:(List Qaa)) (p1:Int) (v12:Int) (gxs gp:List (List V)):St:=⟨[(2,.p (.ep [iV p1])),(3,.ptr 0 0),(10,.p (.sl false (p0.map Qab))),(11,.p (iV (p0.length:Int))),(12,.p (iV v12))],⟨[[.yld Tryz.prog 0 gxs]],[gp.length]⟩⟩
def Qo4 (p0:(List Qaa)) (p1:Int) (gxs:List (List V)) (gq1:List (List V)) (oy:Unit):St:=⟨[],⟨[[.yld Tryz.prog 0 gxs]],[gq1.length]⟩⟩
def Qyl:Code:=((Qa2 (Tryz.f125.body.getD .skip)).getD 0 .skip)
def Qft (y:Bool):D :=.p (bV y)
def Qts:List (Nat×List Nat):=[(0,[0,1]),(1,[0,1,8,9,10]),(2,[0,1,8,9,10,11]),(3,[0,1,5,6,8,9,10]),(4,[0,1,5,6,8,9,10,17]),(5,[4]),(6,[0,1,5,6,7,8,9,10]),(7,[0,1,8,9,10,50]),(8,[4]),(9,[0,1,8,9,10]),(10,[4]),(1000002,[0,1,8,9,10]),(3000007,[])]
def Qym (p0:(List Qaa)) (p1:Bool) (v10:Int) (x4:Qaa) (o6:Bool):St:=⟨[(0,.p (.sl false (p0.map Qab))),(1,.p (bV p1)),(8,.p (.sl false (p0.map Qab))),(9,.p (iV (p0.length:Int))),(10,.p (iV v10)),(50,.p (bV o6))],⟨[[.p (iV x4.Kind),.p (sV x4.Name),.p (sV x4.Text),.p (iV x4.N),.p (.sl false (x4.L.map Qab)),.p (.sl false (x4.Then.map Qab)),.p (.sl false (x4.Else.map Qab))]],[]⟩⟩
def Qkj (p0:(List Qaa)) (p1:Bool) (v10:Int):St:=⟨[(0,.p (.sl false (p0.map Qab))),(1,.p (bV p1)),(8,.p (.sl false (p0.map Qab))),(9,.p (iV (p0.length:Int))),(10,.p (iV v10))],⟨[],[]⟩⟩
def Qo5 (p0:(List Qaa)) (p1:Bool) (y2:Unit):St:=⟨[],⟨[],[]⟩⟩
def Qo6 (p0:(List Qaa)) (p1:Bool) (y3:Unit):St:=⟨[(4,.p (bV false))],⟨[],[]⟩⟩
def Qyn:Code:=((Qa2 (Tryz.f72.body.getD .skip)).getD 0 .skip)
def Qcv (y:Bool):D :=.p (bV y)
def Q67:List (Nat×List Nat):=[(0,[1]),(1,[1,3]),(2,[1,3,4]),(3,[1,3,4,11]),(4,[1,3,4,11,12]),(5,[3,6]),(6,[2]),(7,[1,3,4,11,28]),(8,[2]),(9,[1,3,4,11,35]),(10,[2]),(11,[1,3,4,11,48]),(12,[2]),(13,[1,3,4,11,58]),(14,[2]),(15,[1,3,4,11,68]),(16,[1,3,4]),(17,[2]),(18,[1,3,4,86]),(19,[1,3,4]),(20,[2]),(21,[2]),(3000006,[]),(3000010,[]),(3000012,[]),(3000014,[]),(3000017,[]),(3000020,[])]
def Q0c (p0:Qaa) (x1:Qc8) (o3:Bool):St:=⟨[(2,.p (bV o3))],⟨[[.p (iV p0.Kind),.p (sV p0.Name),.p (sV p0.Text),.p (iV p0.N),.p (.sl false (p0.L.map Qab)),.p (.sl false (p0.Then.map Qab)),.p (.sl false (p0.Else.map Qab))],[.p (bV x1.name_),.p (bV x1.text_),.p (bV x1.num_),.p (bV x1.then_),.p (bV x1.other_),.p (iV x1.l_)],[.p (bV true),.p (bV false),.p (bV false),.p (bV false),.p (bV false),.p (iV 0)]],[]⟩⟩
def Q0d (p0:Qaa) (x1:Qc8) (o4:Bool):St:=⟨[(2,.p (bV o4))],⟨[[.p (iV p0.Kind),.p (sV p0.Name),.p (sV p0.Text),.p (iV p0.N),.p (.sl false (p0.L.map Qab)),.p (.sl false (p0.Then.map Qab)),.p (.sl false (p0.Else.map Qab))],[.p (bV x1.name_),.p (bV x1.text_),.p (bV x1.num_),.p (bV x1.then_),.p (bV x1.other_),.p (iV x1.l_)],[.p (bV true),.p (bV false),.p (bV false),.p (bV false),.p (bV false),.p (iV 0)]],[]⟩⟩
def Q0e (p0:Qaa) (x1:Qc8) (o5:Bool):St:=⟨[(2,.p (bV o5))],⟨[[.p (iV p0.Kind),.p (sV p0.Name),.p (sV p0.Text),.p (iV p0.N),.p (.sl false (p0.L.map Qab)),.p (.sl false (p0.Then.map Qab)),.p (.sl false (p0.Else.map Qab))],[.p (bV x1.name_),.p (bV x1.text_),.p (bV x1.num_),.p (bV x1.then_),.p (bV x1.other_),.p (iV x1.l_)],[.p (bV true),.p (bV false),.p (bV false),.p (bV false),.p (bV false),.p (iV 0)]],[]⟩⟩
def Q0f (p0:Qaa) (x1:Qc8) (o7:Bool):St:=⟨[(2,.p (bV o7))],⟨[[.p (iV p0.Kind),.p (sV p0.Name),.p (sV p0.Text),.p (iV p0.N),.p (.sl false (p0.L.map Qab)),.p (.sl false (p0.Then.map Qab)),.p (.sl false (p0.Else.map Qab))],[.p (bV x1.name_),.p (bV x1.text_),.p (bV x1.num_),.p (bV x1.then_),.p (bV x1.other_),.p (iV x1.l_)],[.p (bV true),.p (bV false),.p (bV false),.p (bV false),.p (bV false),.p (iV 0)]],[]⟩⟩
def Q0g (p0:Qaa) (x1:Qc8) (o9:Bool):St:=⟨[(2,.p (bV o9))],⟨[[.p (iV p0.Kind),.p (sV p0.Name),.p (sV p0.Text),.p (iV p0.N),.p (.sl false (p0.L.map Qab)),.p (.sl false (p0.Then.map Qab)),.p (.sl false (p0.Else.map Qab))],[.p (bV x1.name_),.p (bV x1.text_),.p (bV x1.num_),.p (bV x1.then_),.p (bV x1.other_),.p (iV x1.l_)],[.p (bV true),.p (bV false),.p (bV false),.p (bV false),.p (bV false),.p (iV 1)]],[]⟩⟩
def Q0h (p0:Qaa) (x1:Qc8) (o13:Bool):St:=⟨[(2,.p (bV o13))],⟨[[.p (iV p0.Kind),.p (sV p0.Name),.p (sV p0.Text),.p (iV p0.N),.p (.sl false (p0.L.map Qab)),.p (.sl false (p0.Then.map Qab)),.p (.sl false (p0.Else.map Qab))],[.p (bV x1.name_),.p (bV x1.text_),.p (bV x1.num_),.p (bV x1.then_),.p (bV x1.other_),.p (iV x1.l_)],[.p (bV true),.p (bV false),.p (bV false),.p (bV false),.p (bV false),.p (iV (if 3<x1.l_ then 3 else x1.l_))]],[]⟩⟩
def Qog (y:Bool):D :=.p (bV y)
def Q0i:List (Nat×List Nat):=[(0,[1]),(1,[2])]
def Qjf (y:Qc8):D :=.p (.agg [bV y.name_,bV y.text_,bV y.num_,bV y.then_,bV y.other_,iV y.l_])
def Qyo:List (Nat×List Nat):=[(0,[1,2]),(1,[2])]
def Qoh (y:Bool):D :=.p (bV y)
def Q68:List (Nat×List Nat):=[(0,[1]),(1,[1,3]),(2,[1,3,4]),(3,[1,3,4,10]),(4,[2]),(5,[1,3,4,10,11]),(6,[2]),(7,[1,3,4,10,22]),(8,[1,3,4,10,24]),(9,[1,3,4]),(10,[1,3,4,10,32]),(11,[1,3,4,10,32]),(12,[1,3,4]),(13,[1,3,4,42]),(14,[1,3,4]),(15,[1,3,4,5]),(16,[2]),(2003032,[]),(2010005,[]),(3000006,[]),(3000015,[]),(3000016,[]),(5000009,[1005,1007]),(5000012,[1006,1008]),(8000009,[2]),(8000012,[2])]
def Q0j (p0:Qaa) (x1:Qc8) (y3:Bool×Bool×Bool):St:=⟨[(1,.ptr 0 0),(3,.ptr 1 0),(4,.ptr 2 0)],⟨[[.p (iV p0.Kind),.p (sV p0.Name),.p (sV p0.Text),.p (iV p0.N),.p (.sl false (p0.L.map Qab)),.p (.sl false (p0.Then.map Qab)),.p (.sl false (p0.Else.map Qab))],[.p (bV x1.name_),.p (bV x1.text_),.p (bV x1.num_),.p (bV x1.then_),.p (bV x1.other_),.p (iV x1.l_)],[.p (bV y3.1),.p (bV false),.p (bV false),.p (bV y3.2.1),.p (bV y3.2.2),.p (iV 1)]],[]⟩⟩
def Q0k (p0:Qaa) (x1:Qc8) (y4:Bool):St:=⟨[(2,.p (bV y4))],⟨[[.p (iV p0.Kind),.p (sV p0.Name),.p (sV p0.Text),.p (iV p0.N),.p (.sl false (p0.L.map Qab)),.p (.sl false (p0.Then.map Qab)),.p (.sl false (p0.Else.map Qab))],[.p (bV x1.name_),.p (bV x1.text_),.p (bV x1.num_),.p (bV x1.then_),.p (bV x1.other_),.p (iV x1.l_)],[.p (bV false),.p (bV false),.p (bV false),.p (bV false),.p (bV false),.p (iV 1)]],[]⟩⟩
def Q0l (p0:Qaa) (x1:Qc8) (o5:Bool):St:=⟨[(2,.p (bV o5))],⟨[[.p (iV p0.Kind),.p (sV p0.Name),.p (sV p0.Text),.p (iV p0.N),.p (.sl false (p0.L.map Qab)),.p (.sl false (p0.Then.map Qab)),.p (.sl false (p0.Else.map Qab))],[.p (bV x1.name_),.p (bV x1.text_),.p (bV x1.num_),.p (bV x1.then_),.p (bV x1.other_),.p (iV x1.l_)],[.p (bV false),.p (bV false),.p (bV false),.p (bV false),.p (bV false),.p (iV 1)]],[]⟩⟩
def Q0m (p0:Qaa) (x1:Qc8) (o7:Bool):St:=⟨[(1,.ptr 0 0),(3,.ptr 1 0),(4,.ptr 2 0),(10,.p (iV p0.Kind)),(32,.p (bV o7))],⟨[[.p (iV p0.Kind),.p (sV p0.Name),.p (sV p0.Text),.p (iV p0.N),.p (.sl false (p0.L.map Qab)),.p (.sl false (p0.Then.map Qab)),.p (.sl false (p0.Else.map Qab))],[.p (bV x1.name_),.p (bV x1.text_),.p (bV x1.num_),.p (bV x1.then_),.p (bV x1.other_),.p (iV x1.l_)],[.p (bV false),.p (bV false),.p (bV false),.p (bV false),.p (bV false),.p (iV 1)]],[]⟩⟩
def Q0n (p0:Qaa) (x1:Qc8) (y3:Bool×Bool×Bool) (o10:Bool):St:=⟨[(1,.ptr 0 0),(3,.ptr 1 0),(4,.ptr 2 0),(5,.p (bV o10))],⟨[[.p (iV p0.Kind),.p (sV p0.Name),.p (sV p0.Text),.p (iV p0.N),.p (.sl false (p0.L.map Qab)),.p (.sl false (p0.Then.map Qab)),.p (.sl false (p0.Else.map Qab))],[.p (bV x1.name_),.p (bV x1.text_),.p (bV x1.num_),.p (bV x1.then_),.p (bV x1.other_),.p (iV x1.l_)],[.p (bV y3.1),.p (bV false),.p (bV false),.p (bV y3.2.1),.p (bV y3.2.2),.p (iV 1)]],[]⟩⟩
def Q0o (p0:Qaa) (x1:Qc8) (y3:Bool×Bool×Bool) (o11:Bool):St:=⟨[(2,.p (bV o11))],⟨[[.p (iV p0.Kind),.p (sV p0.Name),.p (sV p0.Text),.p (iV p0.N),.p (.sl false (p0.L.map Qab)),.p (.sl false (p0.Then.map Qab)),.p (.sl false (p0.Else.map Qab))],[.p (bV x1.name_),.p (bV x1.text_),.p (bV x1.num_),.p (bV x1.then_),.p (bV x1.other_),.p (iV x1.l_)],[.p (bV y3.1),.p (bV false),.p (bV false),.p (bV y3.2.1),.p (bV y3.2.2),.p (iV 1)]],[]⟩⟩
def Qw7 (y:Bool):D :=.p (bV y)
def Qyp:List (Nat×List Nat):=[(0,[0,2,3,4]),(1,[2,3,4,6]),(2,[2,3,6,8]),(3,[2,3,4,6]),(4,[2,3,4,6,14]),(5,[2]),(6,[2]),(4000002,[2,3,4,6]),(3000004,[])]
def Q9l (x1:(List UInt8)) (x2:(Int×Int)) (o9:Bool):St:=⟨[(2,.ptr 0 0),(3,.p (nV .i32 x2.1)),(4,.p (iV x2.2)),(6,.fn (.func 185) [] [.p (.ep [sV x1])]),(14,.p (bV o9))],⟨[[.p (bV false)]],[]⟩⟩
def Qma (x1:(List UInt8)):St:=⟨[(2,.ptr 0 0),(6,.fn (.func 185) [] [.p (.ep [sV x1])])],⟨[[.p (bV false)]],[]⟩⟩
def Qvs (x1:(List UInt8)) (y7:Unit):St:=⟨[(2,.ptr 0 0),(6,.fn (.func 185) [] [.p (.ep [sV x1])])],⟨[[.p (bV false)]],[]⟩⟩
def Qvt (x1:(List UInt8)) (y8:Unit):St:=⟨[(2,.ptr 0 0)],⟨[[.p (bV false)]],[]⟩⟩
def Qsq:Code:=((Qa2 (Tryz.f168.body.getD .skip)).getD 0 .skip)
def Qk7 (y:Int×Int):D :=.tup [.p (nV .i32 y.1),.p (iV y.2)]
def Q9m:List (Nat×List Nat):=[(0,[0,1]),(1,[0,1,17]),(2,[4,5]),(3,[0,1,6]),(4,[4,5]),(5,[0,1,6,21]),(6,[4,5]),(7,[0,1,6,26]),(8,[0,1,4,7,8]),(9,[0,1,6,36]),(10,[0,1,4,7,8]),(11,[0,1,6,46]),(12,[0,1,4,7,8]),(13,[4,7,8,9]),(14,[4,8,77]),(15,[4,5]),(16,[4,5]),(2004022,[]),(3000001,[]),(3000007,[]),(3000009,[]),(3000011,[]),(3000014,[])]
def Q3y (p0:(List UInt8)) (p1:Int) (o1:Bool):St:=⟨[(0,.p (sV p0)),(1,.p (iV p1)),(17,.p (bV o1))],⟨[],[]⟩⟩
def Q3z (p0:(List UInt8)) (p1:Int) (y4:Int×Int×Int):St:=⟨[(0,.p (sV p0)),(1,.p (iV p1)),(4,.p (nV .i32 y4.1)),(7,.p (nV .i32 y4.2.1)),(8,.p (iV y4.2.2))],⟨[],[]⟩⟩
def Q30 (p0:(List UInt8)) (p1:Int) (y5:Int):St:=⟨[(4,.p (nV .i32 y5)),(5,.p (iV 1))],⟨[],[]⟩⟩
def Q31 (p0:(List UInt8)) (p1:Int) (x2:UInt8) (o6:Bool):St:=⟨[(0,.p (sV p0)),(1,.p (iV p1)),(6,.p (nV .u8 (x2.toNat:Int))),(26,.p (bV o6))],⟨[],[]⟩⟩
def Q32 (p0:(List UInt8)) (p1:Int) (x2:UInt8) (o7:Bool):St:=⟨[(0,.p (sV p0)),(1,.p (iV p1)),(6,.p (nV .u8 (x2.toNat:Int))),(36,.p (bV o7))],⟨[],[]⟩⟩
def Q33 (p0:(List UInt8)) (p1:Int) (x2:UInt8) (o8:Bool):St:=⟨[(0,.p (sV p0)),(1,.p (iV p1)),(6,.p (nV .u8 (x2.toNat:Int))),(46,.p (bV o8))],⟨[],[]⟩⟩
def Q34 (y4:Int×Int×Int) (x10:Int×Bool) (o11:Bool):St:=⟨[(4,.p (nV .i32 x10.1)),(8,.p (iV y4.2.2)),(77,.p (bV o11))],⟨[],[]⟩⟩
def Qyq (y:(List UInt8)):D :=.fn (.func 185) [] [.p (.ep [sV y])]
def Qacs:List (Nat×List Nat):=[(0,[1]),(1,[2])]
def Qi0 (y:(Int×Int)):List V:=[nV .i32 y.1,iV y.2]
def Qvu:List (Nat×List Nat):=[(0,[0,1,3]),(1,[0,1,3,9]),(2,[0,1,3,4,5]),(3,[0,1,3,5,20]),(4,[0,1,3]),(1000001,[0,1,3])]
def Qln (p0:(List UInt8)) (v3:Int) (gxs gp:List (List V)):St:=⟨[(0,.yld Tryz.prog 0 gxs),(1,.p (.ep [sV p0])),(3,.p (iV v3))],⟨[],[gp.length]⟩⟩
def Qqf (p0:(List UInt8)) (gxs:List (List V)) (gq1:List (List V)) (oy:Unit):St:=⟨[],⟨[],[gq1.length]⟩⟩
def Q0p:Code:=((Qa2 (Tryz.f185.body.getD .skip)).getD 0 .skip)
def Q35 (y:Bool):D :=.p (bV y)
def Qae2:List (Nat×List Nat):=[(0,[0]),(1,[2]),(3000001,[])]
def Q9n  (o1:Bool):St:=⟨[(2,.p (bV o1))],⟨[],[]⟩⟩
def Qnl (y:Int×Bool):D :=.tup [.p (nV .i32 y.1),.p (bV y.2)]
def Qyr:List (Nat×List Nat):=[(0,[0,1,2]),(1,[0,1,2,12]),(2,[6,7]),(3,[0,1,13,14]),(4,[0,1,13,14,15]),(5,[0,1,8,13,14]),(6,[0,1,8,13,14,21]),(7,[6,7]),(8,[0,1,13,14]),(9,[0,1,13,14]),(10,[6,7]),(1000004,[0,1,13,14])]
def Qm1 (p0:(List UInt8)) (p2:Int) (v1:Int) (v14:Int):St:=⟨[(0,.p (sV p0)),(1,.p (nV .i32 v1)),(13,.p (iV p2)),(14,.p (iV v14))],⟨[],[]⟩⟩
def Qsc (p0:(List UInt8)) (p2:Int) (y2:Int):St:=⟨[(1,.p (nV .i32 y2))],⟨[],[]⟩⟩
def Qsd (p0:(List UInt8)) (p2:Int) (y3:Unit):St:=⟨[(6,.p (nV .i32 0)),(7,.p (bV false))],⟨[],[]⟩⟩
def Q36:Code:=((Qa2 (Tryz.f187.body.getD .skip)).getD 0 .skip)
def Qei (p0:(List UInt8)) (p1:(List UInt8)) (p2:Int):Option (Bool) :=
 ( if(decide (p2 >= 0)) then
   if(decide (p2<=(p0.length:Int))) then
    if(decide ((p1.length:Int)<=(wr ((p0.length:Int)-p2)))) then
     cutL p0 p2 (wr (p2+(p1.length:Int)))>>=λx2 =>
     some (x2==p1)
    else
     some false
   else
    some false
  else
   some false:Option (Bool))>>=λo1 =>
 some o1
theorem Qoi:∀ (p0:(List UInt8)) (p1:(List UInt8)) (p2:Int) (o:Bool),Qei p0 p1 p2=some o->PCall Tryz.prog 141 [sV p0,sV p1,iV p2] (Qjn o):=by
 intro p0 p1 p2 o h;unfold Qei at h;refine PCall.ofY Q3i Tryz.func141 ?_;refine Qaj h (λo1 ho hk=>?_);refine Exists.intro (JP1 _ _ o1 .normal (Qyc )) (And.intro ?_ (Qa5 ?_))
 .have h:=ho;refine Qae h (λhb h=>?_) (λhb h=>?_)
  .refine vrfl ?_;refine Qae h (λhb h=>?_) (λhb h=>?_)
   .refine vrfl ?_;refine vrfl ?_;refine Qae h (λhb h=>?_) (λhb h=>?_)
    .refine vrfl ?_;refine Qmr (some p2) (some (wr (p2+(p1.length:Int)))) h (λx2 hi h=>?_);exact JP1.a h (Le.ty 0 0)
    .exact JP1.a h (Le.ty 0 0)
   .refine bF ?_;exact JP1.a h (Le.ty 0 0)
  .refine bF ?_;refine bF ?_;exact JP1.a h (Le.ty 0 0)
 .have h:=hk;refine Qan (t:=Qjn) h ?_;exact .refl _
def Qys (p0:(List (List UInt8))) (p1:(List (List UInt8))) (v5:Int):Option (Unit⊕Unit) :=
 if(decide (v5<(p0.length:Int))) then
  idx p0 v5>>=λx4 =>
  idx p1 v5>>=λx5 =>
  if(!(x4==x5)) then
   some (.inr ())
  else
   Qys p0 p1 (wr (v5+1))
 else
  some (.inl ())
 partial_fixpoint
def Qamw (p0:(List (List UInt8))) (p1:(List (List UInt8))):Option (Bool) :=
 if((p0.length:Int) != (p1.length:Int)) then
  some false
 else
  (Qys p0 p1 0)>>=λo1 =>
  match o1 with
  | .inl y2 =>
   some true
  | .inr y3 =>
   some false
def Qmb (p0:Int):Option (Bool) :=
 ( if(decide (p0 >= 0)) then
   if(decide (p0<=1114111)) then
    if(decide (p0 >= 55296)) then
     some (!(decide (p0<=57343)))
    else
     some true
   else
    some false
  else
   some false:Option (Bool))>>=λo1 =>
 some o1
theorem Qyt:∀ (p0:Int) (o:Bool),Qmb p0=some o->PCall Tryz.prog 180 [iV p0] (Qq9 o):=by
 intro p0 o h;unfold Qmb at h;refine PCall.ofY Q9j Tryz.func180 ?_;refine Qaj h (λo1 ho hk=>?_);refine Exists.intro (JP1 _ _ o1 .normal (Q3o )) (And.intro ?_ (Qa5 ?_))
 .have h:=ho;refine Qae h (λhb h=>?_) (λhb h=>?_)
  .refine Qae h (λhb h=>?_) (λhb h=>?_)
   .refine Qae h (λhb h=>?_) (λhb h=>?_)
    .exact JP1.a h (Le.ty 0 0)
    .exact JP1.a h (Le.ty 0 0)
   .exact JP1.a h (Le.ty 0 0)
  .refine bF ?_;exact JP1.a h (Le.ty 0 0)
 .have h:=hk;refine Qan (t:=Qq9) h ?_;exact .refl _
def Qlo (p0:Int):Option ((List UInt8)) :=
 ( Qmb p0>>=λx2 =>
  if(!x2) then
   some 65533
  else
   some p0:Option (Int))>>=λo1 =>
 if(decide (o1<128)) then
  b2s [(IntKind.u8.wrap o1)]>>=λx3 =>
  some x3
 else
  if(decide (o1<2048)) then
   b2s [(IntKind.u8.wrap (wr (192+(wr (o1.tdiv 64))))),(IntKind.u8.wrap (wr (128+(o1.tmod 64))))]>>=λx4 =>
   some x4
  else
   if(decide (o1<65536)) then
    b2s [(IntKind.u8.wrap (wr (224+(wr (o1.tdiv 4096))))),(IntKind.u8.wrap (wr (128+((wr (o1.tdiv 64)).tmod 64)))),(IntKind.u8.wrap (wr (128+(o1.tmod 64))))]>>=λx5 =>
    some x5
   else
    b2s [(IntKind.u8.wrap (wr (240+(wr (o1.tdiv 262144))))),(IntKind.u8.wrap (wr (128+((wr (o1.tdiv 4096)).tmod 64)))),(IntKind.u8.wrap (wr (128+((wr (o1.tdiv 64)).tmod 64)))),(IntKind.u8.wrap (wr (128+(o1.tmod 64))))]>>=λx6 =>
    some x6
theorem Q69:∀ (p0:Int) (o:(List UInt8)),Qlo p0=some o->PCall Tryz.prog 181 [iV p0] (Qiq o):=by
 intro p0 o h;unfold Qlo at h;refine PCall.ofY Q60 Tryz.func181 ?_;refine Qaj h (λo1 ho hk=>?_);refine Exists.intro (JP1 _ _ o1 .normal (Qz3 )) (And.intro ?_ (Qa5 ?_))
 .have h:=ho;refine Qas [iV p0] Qq9 h (λx2 hy=>(Qyt p0 x2 hy)) (λx2 hy h=>?_);refine Qae h (λhb h=>?_) (λhb h=>?_)
  .exact JP1.a h (Le.ty 0 0)
  .exact JP1.a h (Le.ty 0 0)
 .have h:=hk;refine Qae h (λhb h=>?_) (λhb h=>?_)
  .refine vrfl ?_;refine Qx7 (l:=[(IntKind.u8.wrap o1)]) h (λx3 hi h=>?_);refine Qan (t:=Qiq) h ?_;exact .refl _
  .refine Qae h (λhb h=>?_) (λhb h=>?_)
   .refine And.intro (by decide) ?_;refine vrfl ?_;refine And.intro (by decide) ?_;refine vrfl ?_;refine Qx7 (l:=[(IntKind.u8.wrap (wr (192+(wr (o1.tdiv 64))))),(IntKind.u8.wrap (wr (128+(o1.tmod 64))))]) h (λx4 hi h=>?_);refine Qan (t:=Qiq) h ?_;exact .refl _
   .refine Qae h (λhb h=>?_) (λhb h=>?_)
    .refine And.intro (by decide) ?_;refine vrfl ?_;refine And.intro (by decide) ?_;refine And.intro (by decide) ?_;refine vrfl ?_;refine And.intro (by decide) ?_;refine vrfl ?_;refine Qx7 (l:=[(IntKind.u8.wrap (wr (224+(wr (o1.tdiv 4096))))),(IntKind.u8.wrap (wr (128+((wr (o1.tdiv 64)).tmod 64)))),(IntKind.u8.wrap (wr (128+(o1.tmod 64))))]) h (λx5 hi h=>?_);refine Qan (t:=Qiq) h ?_;exact .refl _
    .refine And.intro (by decide) ?_;refine vrfl ?_;refine And.intro (by decide) ?_;refine And.intro (by decide) ?_;refine vrfl ?_;refine And.intro (by decide) ?_;refine And.intro (by decide) ?_;refine vrfl ?_;refine And.intro (by decide) ?_;refine vrfl ?_;refine Qx7 (l:=[(IntKind.u8.wrap (wr (240+(wr (o1.tdiv 262144))))),(IntKind.u8.wrap (wr (128+((wr (o1.tdiv 4096)).tmod 64)))),(IntKind.u8.wrap (wr (128+((wr (o1.tdiv 64)).tmod 64)))),(IntKind.u8.wrap (wr (128+(o1.tmod 64))))]) h (λx6 hi h=>?_);refine Qan (t:=Qiq) h ?_;exact .refl _
def Qd6 (p0:(List UInt8)) (p1:Int) (v6:(List Int)) (v7:Int) (v8:Int) (v9:Int):Option (Int) :=
 if(decide (v9<v7)) then
  idx p0 (wr (p1+v9))>>=λx9 =>
  Qd6 p0 p1 v6 v7 (wr ((wr ((wr (64*v8))+(wr (x9.toNat:Int))))-128)) (wr (v9+1))
 else
  some v8
 partial_fixpoint
theorem Qae3:∀ (p0:(List UInt8)) (p1:Int) (v6:(List Int)) (v7:Int),(∀ (v8:Int) (v9:Int) (o8:Int),Qd6 p0 p1 v6 v7 v8 v9=some o8->TL (0,0) Tryz.prog 74 Q3l (JP1 (0,0) 74 o8 (.exit 2) (Qr1 p0 p1 v6 v7)) (Qmt p0 p1 v6 v7 v8 v9)):=by
 intro p0 p1 v6 v7;refine Qd6.partial_correctness p0 p1 v6 v7 _ ?_;intro Qd6' iQd6 v8 v9 o8 h;refine TL.round (Qaq mixed tbOk (lv:=Qsm) _ _ _ ?_);refine Qae h (λhb h=>?_) (λhb h=>?_)
 .refine Qdy h (λx9 hi h=>?_);refine vrfl ?_;refine TL.le (τ := Qmt p0 p1 v6 v7 (wr ((wr ((wr (64*v8))+(wr (x9.toNat:Int))))-128)) (wr (v9+1))) ?_ ((iQd6 (wr ((wr ((wr (64*v8))+(wr (x9.toNat:Int))))-128)) (wr (v9+1)) _ h));exact Le.ty 0 0
 .exact JP1.a h (Le.ty 0 0)
def Qcw (p0:(List UInt8)) (p1:Int) (v6:(List Int)) (v7:Int):Option (Unit⊕(Int×Int)) :=
 ( if(decide (v7<=4)) then
   some (decide (v7<=(wr ((p0.length:Int)-p1))))
  else
   some false:Option (Bool))>>=λo5 =>
 if o5 then
  idx p0 p1>>=λx6 =>
  idx v6 v7>>=λx7 =>
  (Qd6 p0 p1 v6 v7 (wr ((wr (x6.toNat:Int))-x7)) 1)>>=λo8 =>
  ( if(decide (o8 >= 0)) then
    Qmb o8>>=λx11 =>
    if x11 then
     Qlo o8>>=λx12 =>
     cutL p0 p1 (wr (p1+v7))>>=λx13 =>
     some (x12==x13)
    else
     some false
   else
    some false:Option (Bool))>>=λo10 =>
  if o10 then
   some (.inr (o8,v7))
  else
   Qcw p0 p1 v6 (wr (v7+1))
 else
  some (.inl ())
 partial_fixpoint
theorem Qae4:∀ (p0:(List UInt8)) (p1:Int) (v6:(List Int)),(∀ (v7:Int) (o2:Unit⊕(Int×Int)),Qcw p0 p1 v6 v7=some o2->TL (0,0) Tryz.prog 74 Q3n (JP2 (0,0) 74 o2 (.exit 0) (Qr2 p0 p1) .ret (Qr3 p0 p1)) (Qmu p0 p1 v6 v7)):=by
 intro p0 p1 v6;refine Qcw.partial_correctness p0 p1 v6 _ ?_;intro Qcw' iQcw v7 o2 h;refine TL.round (Qaq mixed tbOk (lv:=Qsm) _ _ _ ?_);refine Qaj h (λo5 ho hk=>?_);refine Exists.intro (JP1 _ _ o5 .normal (Q3k p0 p1 v6 v7)) (And.intro ?_ (Qa5 ?_))
 .have h:=ho;refine Qae h (λhb h=>?_) (λhb h=>?_)
  .refine vrfl ?_;exact JP1.a h (Le.ty 0 0)
  .exact JP1.a h (Le.ty 0 0)
 .have h:=hk;refine Qae h (λhb h=>?_) (λhb h=>?_)
  .refine And.intro (by decide +kernel) (And.intro rfl ?_);refine Qdy h (λx6 hi h=>?_);refine vrfl ?_;refine Qbu (l:=v6) (c:=cInt) (c' := cInt) h (λ_=>rfl) (λ_=>rfl) (by decide) (λx7 hi h=>?_);refine Qaj h (λo8 ho hk=>?_);refine Exists.intro (JP1 _ _ o8 (.exit 2) (Qr1 p0 p1 v6 v7)) (And.intro (Qk4 (τ := Qmt p0 p1 v6 v7 (wr ((wr (x6.toNat:Int))-x7)) 1) ?_ (TL.loop (Qae3 p0 p1 v6 v7 (wr ((wr (x6.toNat:Int))-x7)) 1 o8 ho))) (Qa5 ?_))
   .exact Le.ty 0 0
   have h:=hk;refine Qaj h (λo10 ho hk=>?_);refine Exists.intro (JP1 _ _ o10 .normal (Q3m p0 p1 v6 v7 o8)) (And.intro ?_ (Qa5 ?_))
   .have h:=ho;refine And.intro (by decide +kernel) (And.intro rfl ?_);refine Qae h (λhb h=>?_) (λhb h=>?_)
    .refine Qda [iV o8] Qq9 h (λx11 hy=>(Qyt o8 x11 hy)) (λx11 hy h=>?_);refine Qae h (λhb h=>?_) (λhb h=>?_)
     .refine Qda [iV o8] Qiq h (λx12 hy=>(Q69 o8 x12 hy)) (λx12 hy h=>?_);refine Qmr (some p1) (some (wr (p1+v7))) h (λx13 hi h=>?_);exact JP1.a h (Le.ty 0 0)
     .exact JP1.a h (Le.ty 0 0)
    .refine bF ?_;exact JP1.a h (Le.ty 0 0)
   .have h:=hk;refine Qae h (λhb h=>?_) (λhb h=>?_)
    .exact JP2.b h (Le.ty 0 0)
    .refine TL.le (τ := Qmu p0 p1 v6 (wr (v7+1))) ?_ ((iQcw (wr (v7+1)) _ h));exact Le.ty 0 0
  .exact JP2.a h (Le.ty 0 0)
def Qk0 (p0:(List UInt8)) (p1:Int):Option (Int×Int) :=
 ( if(decide (p1<0)) then
   some true
  else
   some (decide (p1 >= (p0.length:Int))):Option (Bool))>>=λo1 =>
 if o1 then
  some (0,0)
 else
  (Qcw p0 p1 [0,0,192,224,240] 1)>>=λo2 =>
  match o2 with
  | .inl y3 =>
   some (65533,1)
  | .inr y4 =>
   some (y4.1,y4.2)
theorem Q9o:∀ (p0:(List UInt8)) (p1:Int) (o:Int×Int),Qk0 p0 p1=some o->PCall Tryz.prog 171 [sV p0,iV p1] (Qna o):=by
 intro p0 p1 o h;unfold Qk0 at h;refine PCall.ofY Qsm Tryz.func171 ?_;refine Qaj h (λo1 ho hk=>?_);refine Exists.intro (JP1 _ _ o1 .normal (Q3j p0 p1)) (And.intro ?_ (Qa5 ?_))
 .have h:=ho;refine Qae h (λhb h=>?_) (λhb h=>?_)
  .exact JP1.a h (Le.ty 0 0)
  .refine vrfl ?_;exact JP1.a h (Le.ty 0 0)
 .have h:=hk;refine Qae h (λhb h=>?_) (λhb h=>?_)
  .refine Qan (t:=Qna) h ?_;exact .refl _
  .refine Qaj h (λo2 ho hk=>?_);refine Exists.intro (JP2 _ _ o2 (.exit 0) (Qr2 p0 p1) .ret (Qr3 p0 p1)) (And.intro (Qk4 (τ := Qmu p0 p1 [0,0,192,224,240] 1) ?_ (TL.loop (Qae4 p0 p1 [0,0,192,224,240] 1 o2 ho))) (Qke (λy3 hy=>?_) (λy4 hy=>?_)))
   .exact Le.ty 0 0
   .have h:=(by rw[hy] at hk; exact hk);refine Qan (t:=Qna) h ?_;exact .refl _
   .have h:=(by rw[hy] at hk; exact hk);refine Qan (t:=Qna) h ?_;exact .refl _
def Qnm (p0:(List UInt8)) (v3:Int):Option (Unit⊕Unit) :=
 if(decide (v3<(p0.length:Int))) then
  Qk0 p0 v3>>=λx4 =>
  ( if(x4.1==65533) then
    some (x4.2==1)
   else
    some false:Option (Bool))>>=λo5 =>
  if o5 then
   some (.inr ())
  else
   Qnm p0 (wr (v3+x4.2))
 else
  some (.inl ())
 partial_fixpoint
def Qae5 (p0:(List UInt8)):Option (Bool) :=
 (Qnm p0 0)>>=λo1 =>
 match o1 with
 | .inl y2 =>
  some true
 | .inr y3 =>
  some false
def Qhe (p0:(List UInt8)) (v4:(List UInt8)) (v5:Int):Option ((List UInt8)⊕Unit) :=
 if(decide (v5<(p0.length:Int))) then
  cutL p0 v5 (wr (v5+1))>>=λx5 =>
  if(x5==[13]) then
   some (.inr ())
  else
   ( if(x5==[10]) then
     some [92,110]
    else
     if(x5==[9]) then
      some [92,116]
     else
      ( if(x5==[34]) then
        some true
       else
        some (x5==[92]):Option (Bool))>>=λo7 =>
      if o7 then
       need ([92].length+x5.length<=9223372036854775807)>>=λ_ =>
       some ([92]++x5)
      else
       some x5:Option ((List UInt8)))>>=λo6 =>
   need (v4.length+o6.length<=9223372036854775807)>>=λ_ =>
   Qhe p0 (v4++o6) (wr (v5+1))
 else
  some (.inl v4)
 partial_fixpoint
def Qqg (p0:(List UInt8)):Option ((List UInt8)×Bool) :=
 Qae5 p0>>=λx1 =>
 if(!x1) then
  some ([],false)
 else
  (Qhe p0 [34] 0)>>=λo2 =>
  match o2 with
  | .inl y3 =>
   need (y3.length+[34].length<=9223372036854775807)>>=λ_ =>
   some ((y3++[34]),true)
  | .inr y4 =>
   some ([],false)
def Qe8 (p0:Int):Option (Bool) :=
 ( if(decide (p0 >= 48)) then
   some (decide (p0<=57))
  else
   some false:Option (Bool))>>=λo1 =>
 some o1
theorem Qmc:∀ (p0:Int) (o:Bool),Qe8 p0=some o->PCall Tryz.prog 102 [nV .u8 p0] (Qis o):=by
 intro p0 o h;unfold Qe8 at h;refine PCall.ofY Q61 Tryz.func102 ?_;refine Qaj h (λo1 ho hk=>?_);refine Exists.intro (JP1 _ _ o1 .normal (Qz4 )) (And.intro ?_ (Qa5 ?_))
 .have h:=ho;refine Qae h (λhb h=>?_) (λhb h=>?_)
  .exact JP1.a h (Le.ty 0 0)
  .exact JP1.a h (Le.ty 0 0)
 .have h:=hk;refine Qan (t:=Qis) h ?_;exact .refl _
def Qe9 (p0:Int):Option (Bool) :=
 ( if(decide (p0 >= 97)) then
   some (decide (p0<=122))
  else
   some false:Option (Bool))>>=λo1 =>
 some o1
theorem Qmd:∀ (p0:Int) (o:Bool),Qe9 p0=some o->PCall Tryz.prog 101 [nV .u8 p0] (Qit o):=by
 intro p0 o h;unfold Qe9 at h;refine PCall.ofY Q62 Tryz.func101 ?_;refine Qaj h (λo1 ho hk=>?_);refine Exists.intro (JP1 _ _ o1 .normal (Qz5 )) (And.intro ?_ (Qa5 ?_))
 .have h:=ho;refine Qae h (λhb h=>?_) (λhb h=>?_)
  .exact JP1.a h (Le.ty 0 0)
  .exact JP1.a h (Le.ty 0 0)
 .have h:=hk;refine Qan (t:=Qit) h ?_;exact .refl _
def Qd7 (p0:(List UInt8)) (v3:Int):Option (Unit⊕Unit) :=
 if(decide (v3<(p0.length:Int))) then
  ( idx p0 v3>>=λx8 =>
   Qe9 (x8.toNat:Int)>>=λx9 =>
   if(!x9) then
    idx p0 v3>>=λx10 =>
    Qe8 (x10.toNat:Int)>>=λx11 =>
    if(!x11) then
     idx p0 v3>>=λx12 =>
     some ((x12.toNat:Int) != 95)
    else
     some false
   else
    some false:Option (Bool))>>=λo7 =>
  if o7 then
   some (.inr ())
  else
   Qd7 p0 (wr (v3+1))
 else
  some (.inl ())
 partial_fixpoint
theorem Qae6:∀ (p0:(List UInt8)),(∀ (v3:Int) (o4:Unit⊕Unit),Qd7 p0 v3=some o4->TL (0,0) Tryz.prog 42 Q3r (JP2 (0,0) 42 o4 (.exit 0) (Qr4 p0) .ret (Qr5 p0)) (Qmv p0 v3)):=by
 intro p0;refine Qd7.partial_correctness p0 _ ?_;intro Qd7' iQd7 v3 o4 h;refine TL.round (Qaq mixed tbOk (lv:=Qyd) _ _ _ ?_);refine vrfl ?_;refine Qae h (λhb h=>?_) (λhb h=>?_)
 .refine Qaj h (λo7 ho hk=>?_);refine Exists.intro (JP1 _ _ o7 .normal (Q3q p0 v3)) (And.intro ?_ (Qa5 ?_))
  .have h:=ho;refine Qdy h (λx8 hi h=>?_);refine Qas [nV .u8 (x8.toNat:Int)] Qit h (λx9 hy=>(Qmd (x8.toNat:Int) x9 hy)) (λx9 hy h=>?_);refine Qae h (λhb h=>?_) (λhb h=>?_)
   .refine Qdy h (λx10 hi h=>?_);refine Qas [nV .u8 (x10.toNat:Int)] Qis h (λx11 hy=>(Qmc (x10.toNat:Int) x11 hy)) (λx11 hy h=>?_);refine Qae h (λhb h=>?_) (λhb h=>?_)
    .refine Qdy h (λx12 hi h=>?_);exact JP1.a h (Le.ty 0 0)
    .exact JP1.a h (Le.ty 0 0)
   .refine bF ?_;exact JP1.a h (Le.ty 0 0)
  .have h:=hk;refine Qae h (λhb h=>?_) (λhb h=>?_)
   .exact JP2.b h (Le.ty 0 0)
   .refine TL.le (τ := Qmv p0 (wr (v3+1))) ?_ ((iQd7 (wr (v3+1)) _ h));exact Le.ty 0 0
 .exact JP2.a h (Le.ty 0 0)
def Qgu (p0:(List UInt8)):Option (Bool) :=
 ( if(decide ((p0.length:Int)<1)) then
   some true
  else
   if(decide ((p0.length:Int)>32)) then
    some true
   else
    idx p0 0>>=λx2 =>
    Qe9 (x2.toNat:Int)>>=λx3 =>
    some (!x3):Option (Bool))>>=λo1 =>
 if o1 then
  some false
 else
  (Qd7 p0 0)>>=λo4 =>
  match o4 with
  | .inl y5 =>
   some true
  | .inr y6 =>
   some false
theorem Qsr:∀ (p0:(List UInt8)) (o:Bool),Qgu p0=some o->PCall Tryz.prog 77 [sV p0] (Qir o):=by
 intro p0 o h;unfold Qgu at h;refine PCall.ofY Qyd Tryz.func77 ?_;refine Qaj h (λo1 ho hk=>?_);refine Exists.intro (JP1 _ _ o1 .normal (Q3p p0)) (And.intro ?_ (Qa5 ?_))
 .have h:=ho;refine vrfl ?_;refine Qae h (λhb h=>?_) (λhb h=>?_)
  .refine bT ?_;exact JP1.a h (Le.ty 0 0)
  .refine vrfl ?_;refine Qae h (λhb h=>?_) (λhb h=>?_)
   .exact JP1.a h (Le.ty 0 0)
   .refine Qdy h (λx2 hi h=>?_);refine Qas [nV .u8 (x2.toNat:Int)] Qit h (λx3 hy=>(Qmd (x2.toNat:Int) x3 hy)) (λx3 hy h=>?_);exact JP1.a h (Le.ty 0 0)
 .have h:=hk;refine Qae h (λhb h=>?_) (λhb h=>?_)
  .refine Qan (t:=Qir) h ?_;exact .refl _
  .refine Qaj h (λo4 ho hk=>?_);refine Exists.intro (JP2 _ _ o4 (.exit 0) (Qr4 p0) .ret (Qr5 p0)) (And.intro (Qk4 (τ := Qmv p0 0) ?_ (TL.loop (Qae6 p0 0 o4 ho))) (Qke (λy5 hy=>?_) (λy6 hy=>?_)))
   .exact Le.ty 0 0
   .have h:=(by rw[hy] at hk; exact hk);refine Qan (t:=Qir) h ?_;exact .refl _
   .have h:=(by rw[hy] at hk; exact hk);refine Qan (t:=Qir) h ?_;exact .refl _
mutual
def Qdo (p0:(List Qaa)):Option (Int) :=
 (Qd2 p0 0 0)>>=λo1 =>
 some o1
 partial_fixpoint
def Qd2 (p0:(List Qaa)) (v3:Int) (v4:Int):Option (Int) :=
 if(decide (v4<(p0.length:Int))) then
  idx p0 v4>>=λx2 =>
  Qdo x2.L>>=λx3 =>
  idx p0 v4>>=λx4 =>
  Qdo x4.Then>>=λx5 =>
  idx p0 v4>>=λx6 =>
  Qdo x6.Else>>=λx7 =>
  Qd2 p0 (wr ((wr ((wr ((wr (v3+1))+x3))+x5))+x7)) (wr (v4+1))
 else
  some v3
 partial_fixpoint
end
theorem Q37:(∀ (p0:(List Qaa)) (o:Int),Qdo p0=some o->PCall Tryz.prog 80 [.sl false (p0.map Qab)] (Qgy o))/\(∀ (p0:(List Qaa)) (v3:Int) (v4:Int) (o1:Int),Qd2 p0 v3 v4=some o1->TL (0,0) Tryz.prog 35 Qz6 (JP1 (0,0) 35 o1 (.exit 0) (Qp4 p0)) (Qlj p0 v3 v4)):=by
 refine Qdo.mutual_partial_correctness _ _ ?_ ?_
 .intro Qd2' iQd2 p0 o h;refine PCall.ofY Qvq Tryz.func80 ?_;refine Qaj h (λo1 ho hk=>?_);refine Exists.intro (JP1 _ _ o1 (.exit 0) (Qp4 p0)) (And.intro (Qk4 (τ := Qlj p0 0 0) ?_ (TL.loop (iQd2 p0 0 0 o1 ho))) (Qa5 ?_))
  .exact Le.ty 0 0
  have h:=hk;refine Qan (t:=Qgy) h ?_;exact .refl _
 .intro Qdo' Qd2' iQdo iQd2 p0 v3 v4 o1 h;refine TL.round (Qaq mixed tbOk (lv:=Qvq) _ _ _ ?_);refine view (Qcz _ _) rfl ?_;refine Qae h (λhb h=>?_) (λhb h=>?_)
  .refine And.intro (by decide +kernel) (And.intro rfl ?_);refine Qbu (l:=p0) (c:=Qab) (c' := Qbn) h Qar (λ_=>rfl) (by decide) (λx2 hi h=>?_);refine Qda [.sl false (x2.L.map Qab)] Qgy h (λx3 hy=>(iQdo x2.L x3 hy)) (λx3 hy h=>?_);refine Qbu (l:=p0) (c:=Qab) (c' := Qbn) h Qar (λ_=>rfl) (by decide) (λx4 hi h=>?_);refine Qda [.sl false (x4.Then.map Qab)] Qgy h (λx5 hy=>(iQdo x4.Then x5 hy)) (λx5 hy h=>?_);refine Qbu (l:=p0) (c:=Qab) (c' := Qbn) h Qar (λ_=>rfl) (by decide) (λx6 hi h=>?_);refine Qda [.sl false (x6.Else.map Qab)] Qgy h (λx7 hy=>(iQdo x6.Else x7 hy)) (λx7 hy h=>?_);refine TL.le (τ := Qlj p0 (wr ((wr ((wr ((wr (v3+1))+x3))+x5))+x7)) (wr (v4+1))) ?_ ((iQd2 p0 (wr ((wr ((wr ((wr (v3+1))+x3))+x5))+x7)) (wr (v4+1)) _ h));exact Le.ty 0 0
  .exact JP1.a h (Le.ty 0 0)
theorem Q7a:∀ (p0:(List Qaa)) (o:Int),Qdo p0=some o->PCall Tryz.prog 80 [.sl false (p0.map Qab)] (Qgy o):=λp0=>Q37.1 p0
mutual
def Qep (p0:(List Qaa)):Option (Int) :=
 (Qeq p0 0 0)>>=λo1 =>
 some o1
 partial_fixpoint
def Qeq (p0:(List Qaa)) (v3:Int) (v4:Int):Option (Int) :=
 if(decide (v4<(p0.length:Int))) then
  idx p0 v4>>=λx2 =>
  Qep x2.L>>=λx3 =>
  idx p0 v4>>=λx4 =>
  Qep x4.Then>>=λx5 =>
  idx p0 v4>>=λx6 =>
  Qep x6.Else>>=λx7 =>
  Qeq p0 (if(wr (1+(if x7>(if x5>x3 then x5 else x3) then x7 else(if x5>x3 then x5 else x3))))>v3 then(wr (1+(if x7>(if x5>x3 then x5 else x3) then x7 else(if x5>x3 then x5 else x3)))) else v3) (wr (v4+1))
 else
  some v3
 partial_fixpoint
end
theorem Q7b:(∀ (p0:(List Qaa)) (o:Int),Qep p0=some o->PCall Tryz.prog 79 [.sl false (p0.map Qab)] (Qiu o))/\(∀ (p0:(List Qaa)) (v3:Int) (v4:Int) (o1:Int),Qeq p0 v3 v4=some o1->TL (0,0) Tryz.prog 34 Q3s (JP1 (0,0) 34 o1 (.exit 0) (Qr6 p0)) (Qmw p0 v3 v4)):=by
 refine Qep.mutual_partial_correctness _ _ ?_ ?_
 .intro Qeq' iQeq p0 o h;refine PCall.ofY Qye Tryz.func79 ?_;refine Qaj h (λo1 ho hk=>?_);refine Exists.intro (JP1 _ _ o1 (.exit 0) (Qr6 p0)) (And.intro (Qk4 (τ := Qmw p0 0 0) ?_ (TL.loop (iQeq p0 0 0 o1 ho))) (Qa5 ?_))
  .exact Le.ty 0 0
  have h:=hk;refine Qan (t:=Qiu) h ?_;exact .refl _
 .intro Qep' Qeq' iQep iQeq p0 v3 v4 o1 h;refine TL.round (Qaq mixed tbOk (lv:=Qye) _ _ _ ?_);refine view (Qcz _ _) rfl ?_;refine Qae h (λhb h=>?_) (λhb h=>?_)
  .refine And.intro (by decide +kernel) (And.intro rfl ?_);refine Qbu (l:=p0) (c:=Qab) (c' := Qbn) h Qar (λ_=>rfl) (by decide) (λx2 hi h=>?_);refine Qda [.sl false (x2.L.map Qab)] Qiu h (λx3 hy=>(iQep x2.L x3 hy)) (λx3 hy h=>?_);refine Qbu (l:=p0) (c:=Qab) (c' := Qbn) h Qar (λ_=>rfl) (by decide) (λx4 hi h=>?_);refine Qda [.sl false (x4.Then.map Qab)] Qiu h (λx5 hy=>(iQep x4.Then x5 hy)) (λx5 hy h=>?_);refine Qbu (l:=p0) (c:=Qab) (c' := Qbn) h Qar (λ_=>rfl) (by decide) (λx6 hi h=>?_);refine Qda [.sl false (x6.Else.map Qab)] Qiu h (λx7 hy=>(iQep x6.Else x7 hy)) (λx7 hy h=>?_);refine TL.le (τ := Qmw p0 (if(wr (1+(if x7>(if x5>x3 then x5 else x3) then x7 else(if x5>x3 then x5 else x3))))>v3 then(wr (1+(if x7>(if x5>x3 then x5 else x3) then x7 else(if x5>x3 then x5 else x3)))) else v3) (wr (v4+1))) ?_ ((iQeq p0 (if(wr (1+(if x7>(if x5>x3 then x5 else x3) then x7 else(if x5>x3 then x5 else x3))))>v3 then(wr (1+(if x7>(if x5>x3 then x5 else x3) then x7 else(if x5>x3 then x5 else x3)))) else v3) (wr (v4+1)) _ h));exact Le.ty 0 0
  .exact JP1.a h (Le.ty 0 0)
theorem Q9p:∀ (p0:(List Qaa)) (o:Int),Qep p0=some o->PCall Tryz.prog 79 [.sl false (p0.map Qab)] (Qiu o):=λp0=>Q7b.1 p0
def Qdp (p0:(List UInt8)) (x1:(List (List UInt8))) (v4:Int):Option (Unit⊕Unit) :=
 if(decide (v4<(x1.length:Int))) then
  idx x1 v4>>=λx5 =>
  if(x5==p0) then
   some (.inr ())
  else
   Qdp p0 x1 (wr (v4+1))
 else
  some (.inl ())
 partial_fixpoint
theorem Qae7:∀ (p0:(List UInt8)) (x1:(List (List UInt8))),(∀ (v4:Int) (o2:Unit⊕Unit),Qdp p0 x1 v4=some o2->TL (0,0) Tryz.prog 20 Q3t (JP2 (0,0) 20 o2 (.exit 0) (Qr7 p0 x1) .ret (Qr8 p0 x1)) (Qmx p0 x1 v4)):=by
 intro p0 x1;refine Qdp.partial_correctness p0 x1 _ ?_;intro Qdp' iQdp v4 o2 h;refine TL.round (Qaq mixed tbOk (lv:=Qyf) _ _ _ ?_);refine view (Qcz _ _) rfl ?_;refine Qae h (λhb h=>?_) (λhb h=>?_)
 .refine Qbu (l:=x1) (c:=cStr) (c' := cStr) h (λ_=>rfl) (λ_=>rfl) (by decide) (λx5 hi h=>?_);refine Qae h (λhb h=>?_) (λhb h=>?_)
  .exact JP2.b h (Le.ty 0 0)
  .refine TL.le (τ := Qmx p0 x1 (wr (v4+1))) ?_ ((iQdp (wr (v4+1)) _ h));exact Le.ty 0 0
 .exact JP2.a h (Le.ty 0 0)
def Qqh:Option ((List (List UInt8))) :=
 some ([[105,102],[101,108,115,101],[101,110,100],[101,97,99,104],[105,110],[108,101,116],[117,115,101],[116,114,117,101],[102,97,108,115,101],[115,101,99,114,101,116]])
theorem Q7c:∀ (o:(List (List UInt8))),Qqh  = some o->PCall Tryz.prog 76 [] (Qsn o):=by
 intro o h;unfold Qqh at h;refine PCall.ofY Q63 Tryz.func76 ?_;refine Qan (t:=Qsn) h ?_;exact .p (.not)
def Qga (p0:(List UInt8)):Option (Bool) :=
 Qqh>>=λx1 =>
 (Qdp p0 x1 0)>>=λo2 =>
 match o2 with
 | .inl y3 =>
  Qgu p0>>=λx6 =>
  some x6
 | .inr y4 =>
  some false
theorem Q9q:∀ (p0:(List UInt8)) (o:Bool),Qga p0=some o->PCall Tryz.prog 43 [sV p0] (Qra o):=by
 intro p0 o h;unfold Qga at h;refine PCall.ofY Qyf Tryz.func43 ?_;refine Qas [] Qsn h (λx1 hy=>(Q7c x1 hy)) (λx1 hy h=>?_);refine Qaj h (λo2 ho hk=>?_);refine Exists.intro (JP2 _ _ o2 (.exit 0) (Qr7 p0 x1) .ret (Qr8 p0 x1)) (And.intro (Qk4 (τ := Qmx p0 x1 0) ?_ (TL.loop (Qae7 p0 x1 0 o2 ho))) (Qke (λy3 hy=>?_) (λy4 hy=>?_)))
 .exact Le.ty 0 0
 .have h:=(by rw[hy] at hk; exact hk);refine Qas [sV p0] Qir h (λx6 hy=>(Qsr p0 x6 hy)) (λx6 hy h=>?_);refine Qan (t:=Qra) h ?_;exact .refl _
 .have h:=(by rw[hy] at hk; exact hk);refine Qan (t:=Qra) h ?_;exact .refl _
def Qer (p0:Qaa) (p1:Bool) (p2:Bool) (p3:Bool) (p4:Bool) (p5:Bool):Option (Bool) :=
 ( if p1 then
   if p2 then
    if p3 then
     if p4 then
      if p5 then
       if(p0.Kind==10) then
        some true
       else
        some ((p0.Else.length:Int)==0)
      else
       if((p0.Then.length:Int)==0) then
        if(p0.Kind==10) then
         some true
        else
         some ((p0.Else.length:Int)==0)
       else
        some false
     else
      if((p0.L.length:Int)==0) then
       if p5 then
        if(p0.Kind==10) then
         some true
        else
         some ((p0.Else.length:Int)==0)
       else
        if((p0.Then.length:Int)==0) then
         if(p0.Kind==10) then
          some true
         else
          some ((p0.Else.length:Int)==0)
        else
         some false
      else
       some false
    else
     if(p0.N==0) then
      if p4 then
       if p5 then
        if(p0.Kind==10) then
         some true
        else
         some ((p0.Else.length:Int)==0)
       else
        if((p0.Then.length:Int)==0) then
         if(p0.Kind==10) then
          some true
         else
          some ((p0.Else.length:Int)==0)
        else
         some false
      else
       if((p0.L.length:Int)==0) then
        if p5 then
         if(p0.Kind==10) then
          some true
         else
          some ((p0.Else.length:Int)==0)
        else
         if((p0.Then.length:Int)==0) then
          if(p0.Kind==10) then
           some true
          else
           some ((p0.Else.length:Int)==0)
         else
          some false
       else
        some false
     else
      some false
   else
    if(p0.Text==[]) then
     if p3 then
      if p4 then
       if p5 then
        if(p0.Kind==10) then
         some true
        else
         some ((p0.Else.length:Int)==0)
       else
        if((p0.Then.length:Int)==0) then
         if(p0.Kind==10) then
          some true
         else
          some ((p0.Else.length:Int)==0)
        else
         some false
      else
       if((p0.L.length:Int)==0) then
        if p5 then
         if(p0.Kind==10) then
          some true
         else
          some ((p0.Else.length:Int)==0)
        else
         if((p0.Then.length:Int)==0) then
          if(p0.Kind==10) then
           some true
          else
           some ((p0.Else.length:Int)==0)
         else
          some false
       else
        some false
     else
      if(p0.N==0) then
       if p4 then
        if p5 then
         if(p0.Kind==10) then
          some true
         else
          some ((p0.Else.length:Int)==0)
        else
         if((p0.Then.length:Int)==0) then
          if(p0.Kind==10) then
           some true
          else
           some ((p0.Else.length:Int)==0)
         else
          some false
       else
        if((p0.L.length:Int)==0) then
         if p5 then
          if(p0.Kind==10) then
           some true
          else
           some ((p0.Else.length:Int)==0)
         else
          if((p0.Then.length:Int)==0) then
           if(p0.Kind==10) then
            some true
           else
            some ((p0.Else.length:Int)==0)
          else
           some false
        else
         some false
      else
       some false
    else
     some false
  else
   if(p0.Name==[]) then
    if p2 then
     if p3 then
      if p4 then
       if p5 then
        if(p0.Kind==10) then
         some true
        else
         some ((p0.Else.length:Int)==0)
       else
        if((p0.Then.length:Int)==0) then
         if(p0.Kind==10) then
          some true
         else
          some ((p0.Else.length:Int)==0)
        else
         some false
      else
       if((p0.L.length:Int)==0) then
        if p5 then
         if(p0.Kind==10) then
          some true
         else
          some ((p0.Else.length:Int)==0)
        else
         if((p0.Then.length:Int)==0) then
          if(p0.Kind==10) then
           some true
          else
           some ((p0.Else.length:Int)==0)
         else
          some false
       else
        some false
     else
      if(p0.N==0) then
       if p4 then
        if p5 then
         if(p0.Kind==10) then
          some true
         else
          some ((p0.Else.length:Int)==0)
        else
         if((p0.Then.length:Int)==0) then
          if(p0.Kind==10) then
           some true
          else
           some ((p0.Else.length:Int)==0)
         else
          some false
       else
        if((p0.L.length:Int)==0) then
         if p5 then
          if(p0.Kind==10) then
           some true
          else
           some ((p0.Else.length:Int)==0)
         else
          if((p0.Then.length:Int)==0) then
           if(p0.Kind==10) then
            some true
           else
            some ((p0.Else.length:Int)==0)
          else
           some false
        else
         some false
      else
       some false
    else
     if(p0.Text==[]) then
      if p3 then
       if p4 then
        if p5 then
         if(p0.Kind==10) then
          some true
         else
          some ((p0.Else.length:Int)==0)
        else
         if((p0.Then.length:Int)==0) then
          if(p0.Kind==10) then
           some true
          else
           some ((p0.Else.length:Int)==0)
         else
          some false
       else
        if((p0.L.length:Int)==0) then
         if p5 then
          if(p0.Kind==10) then
           some true
          else
           some ((p0.Else.length:Int)==0)
         else
          if((p0.Then.length:Int)==0) then
           if(p0.Kind==10) then
            some true
           else
            some ((p0.Else.length:Int)==0)
          else
           some false
        else
         some false
      else
       if(p0.N==0) then
        if p4 then
         if p5 then
          if(p0.Kind==10) then
           some true
          else
           some ((p0.Else.length:Int)==0)
         else
          if((p0.Then.length:Int)==0) then
           if(p0.Kind==10) then
            some true
           else
            some ((p0.Else.length:Int)==0)
          else
           some false
        else
         if((p0.L.length:Int)==0) then
          if p5 then
           if(p0.Kind==10) then
            some true
           else
            some ((p0.Else.length:Int)==0)
          else
           if((p0.Then.length:Int)==0) then
            if(p0.Kind==10) then
             some true
            else
             some ((p0.Else.length:Int)==0)
           else
            some false
         else
          some false
       else
        some false
     else
      some false
   else
    some false:Option (Bool))>>=λo1 =>
 some o1
mutual
def Qw8 (p0:Qaa):Option (Bool) :=
 if(p0.Kind==1) then
  Qqg p0.Text>>=λx1 =>
  ( if x1.2 then
    Qer p0 false true false false false>>=λx3 =>
    some x3
   else
    some false:Option (Bool))>>=λo2 =>
  some o2
 else
  if(p0.Kind==2) then
   Qer p0 false false true false false>>=λx4 =>
   some x4
  else
   if(p0.Kind==3) then
    ( if(p0.N==0) then
      Qer p0 false false true false false>>=λx6 =>
      some x6
     else
      if(p0.N==1) then
       Qer p0 false false true false false>>=λx7 =>
       some x7
      else
       some false:Option (Bool))>>=λo5 =>
    some o5
   else
    if(p0.Kind==4) then
     ( Qga p0.Name>>=λx9 =>
      if x9 then
       Qer p0 true false false false false>>=λx10 =>
       some x10
      else
       some false:Option (Bool))>>=λo8 =>
     some o8
    else
     if(p0.Kind==5) then
      ( Qgu p0.Name>>=λx12 =>
       if x12 then
        if((p0.L.length:Int)==1) then
         Qqi p0.L>>=λx13 =>
         if x13 then
          Qer p0 true false false true false>>=λx14 =>
          some x14
         else
          some false
        else
         some false
       else
        some false:Option (Bool))>>=λo11 =>
      some o11
     else
      if(p0.Kind==6) then
       ( Qga p0.Name>>=λx16 =>
        if x16 then
         if(decide ((p0.L.length:Int)<=3)) then
          Qqi p0.L>>=λx17 =>
          if x17 then
           Qer p0 true false false true false>>=λx18 =>
           some x18
          else
           some false
         else
          some false
        else
         some false:Option (Bool))>>=λo15 =>
       some o15
      else
       if(p0.Kind==7) then
        ( Qgu p0.Name>>=λx20 =>
         if x20 then
          Qer p0 true false false false false>>=λx21 =>
          some x21
         else
          some false:Option (Bool))>>=λo19 =>
        some o19
       else
        some false
 partial_fixpoint
def Qqi (p0:(List Qaa)):Option (Bool) :=
 (Qjo p0 0)>>=λo1 =>
 match o1 with
 | .inl y2 =>
  some true
 | .inr y3 =>
  some false
 partial_fixpoint
def Qjo (p0:(List Qaa)) (v3:Int):Option (Unit⊕Unit) :=
 if(decide (v3<(p0.length:Int))) then
  idx p0 v3>>=λx4 =>
  Qw8 x4>>=λx5 =>
  if(!x5) then
   some (.inr ())
  else
   Qjo p0 (wr (v3+1))
 else
  some (.inl ())
 partial_fixpoint
end
def Qhu (p0:(List UInt8)) (p1:(List UInt8)) (v5:Int):Option (Unit⊕Unit) :=
 if(decide (v5<(p0.length:Int))) then
  Qei p0 p1 v5>>=λx4 =>
  if x4 then
   some (.inr ())
  else
   Qhu p0 p1 (wr (v5+1))
 else
  some (.inl ())
 partial_fixpoint
def Qu9 (p0:(List UInt8)) (p1:(List UInt8)):Option (Bool) :=
 (Qhu p0 p1 0)>>=λo1 =>
 match o1 with
 | .inl y2 =>
  some false
 | .inr y3 =>
  some true
mutual
def Qnn (p0:(List Qaa)) (p1:Bool):Option (Bool) :=
 (Qhf p0 p1 0)>>=λo1 =>
 match o1 with
 | .inl y2 =>
  some true
 | .inr y3 =>
  some false
 partial_fixpoint
def Qhf (p0:(List Qaa)) (p1:Bool) (v5:Int):Option (Unit⊕Unit) :=
 if(decide (v5<(p0.length:Int))) then
  idx p0 v5>>=λx4 =>
  Qw9 x4>>=λx5 =>
  if(!x5) then
   some (.inr ())
  else
   idx p0 v5>>=λx6 =>
   if(x6.Kind != 8) then
    Qhf p0 p1 (wr (v5+1))
   else
    idx p0 v5>>=λx7 =>
    ( if(!(v5==(wr ((p0.length:Int)-1)))) then
      idx p0 (wr (v5+1))>>=λx9 =>
      if(x9.Kind==8) then
       some true
      else
       if(!(v5==(wr ((p0.length:Int)-1)))) then
        idx x7.Text (wr ((x7.Text.length:Int)-1))>>=λx10 =>
        some ((x10.toNat:Int)==123)
       else
        if p1 then
         idx x7.Text (wr ((x7.Text.length:Int)-1))>>=λx11 =>
         some ((x11.toNat:Int)==123)
        else
         some false
     else
      if(!(v5==(wr ((p0.length:Int)-1)))) then
       idx x7.Text (wr ((x7.Text.length:Int)-1))>>=λx12 =>
       some ((x12.toNat:Int)==123)
      else
       if p1 then
        idx x7.Text (wr ((x7.Text.length:Int)-1))>>=λx13 =>
        some ((x13.toNat:Int)==123)
       else
        some false:Option (Bool))>>=λo8 =>
    if o8 then
     some (.inr ())
    else
     Qhf p0 p1 (wr (v5+1))
 else
  some (.inl ())
 partial_fixpoint
def Qw9 (p0:Qaa):Option (Bool) :=
 ( if((p0.L.length:Int)==1) then
   Qqi p0.L>>=λx2 =>
   some x2
  else
   some false:Option (Bool))>>=λo1 =>
 if(p0.Kind==8) then
  ( if(!(p0.Text==[])) then
    Qu9 p0.Text [123,123]>>=λx4 =>
    if(!x4) then
     Qer p0 false true false false false>>=λx5 =>
     some x5
    else
     some false
   else
    some false:Option (Bool))>>=λo3 =>
  some o3
 else
  if(p0.Kind==9) then
   ( if o1 then
     Qer p0 false false false true false>>=λx7 =>
     some x7
    else
     some false:Option (Bool))>>=λo6 =>
   some o6
  else
   if(p0.Kind==10) then
    ( if o1 then
      Qnn p0.Then true>>=λx9 =>
      if x9 then
       Qnn p0.Else true>>=λx10 =>
       if x10 then
        Qer p0 false false false true true>>=λx11 =>
        some x11
       else
        some false
      else
       some false
     else
      some false:Option (Bool))>>=λo8 =>
    some o8
   else
    ( if(p0.Kind==11) then
      some (p0.Kind==11)
     else
      some (p0.Kind==12):Option (Bool))>>=λo12 =>
    if o12 then
     ( Qga p0.Name>>=λx14 =>
      if x14 then
       if o1 then
        Qnn p0.Then true>>=λx15 =>
        if x15 then
         Qer p0 true false false true true>>=λx16 =>
         some x16
        else
         some false
       else
        some false
      else
       some false:Option (Bool))>>=λo13 =>
     some o13
    else
     if(p0.Kind==13) then
      ( Qga p0.Name>>=λx18 =>
       if x18 then
        if o1 then
         Qer p0 true false false true false>>=λx19 =>
         some x19
        else
         some false
       else
        some false:Option (Bool))>>=λo17 =>
      some o17
     else
      some false
 partial_fixpoint
end
def Qae8 (p0:(List Qaa)):Option (Bool) :=
 ( Qnn p0 false>>=λx2 =>
  if x2 then
   Qep p0>>=λx3 =>
   if(decide (x3<=12)) then
    Qdo p0>>=λx4 =>
    some (decide (x4<=1024))
   else
    some false
  else
   some false:Option (Bool))>>=λo1 =>
 some o1
def Qlp (p0:(List Qad)) (p1:(List UInt8)) (v6:Int):Option (Unit⊕(List Qaa)) :=
 if(decide (v6<(p0.length:Int))) then
  idx p0 v6>>=λx4 =>
  if(x4.Name==p1) then
   idx p0 v6>>=λx5 =>
   some (.inr x5.L)
  else
   Qlp p0 p1 (wr (v6+1))
 else
  some (.inl ())
 partial_fixpoint
def Qme (p0:(List Qad)) (p1:(List UInt8)):Option ((List Qaa)×Bool) :=
 (Qlp p0 p1 0)>>=λo1 =>
 match o1 with
 | .inl y2 =>
  some ([],false)
 | .inr y3 =>
  some (y3,true)
def Qjp (p0:(List Qad)) (v4:Int):Option (Unit⊕((List UInt8)×Int)) :=
 if(decide (v4<(p0.length:Int))) then
  ( idx p0 v4>>=λx5 =>
   Qga x5.Name>>=λx6 =>
   if(!x6) then
    some true
   else
    idx p0 v4>>=λx7 =>
    Qae8 x7.L>>=λx8 =>
    some (!x8):Option (Bool))>>=λo4 =>
  if o4 then
   idx p0 v4>>=λx9 =>
   some (.inr (x9.Name,7))
  else
   cutL p0 0 v4>>=λx10 =>
   idx p0 v4>>=λx11 =>
   Qme x10 x11.Name>>=λx12 =>
   if x12.2 then
    idx p0 v4>>=λx13 =>
    some (.inr (x13.Name,9))
   else
    Qjp p0 (wr (v4+1))
 else
  some (.inl ())
 partial_fixpoint
def Qjq (p0:(List Qad)) (v7:Int) (x18:(List (List UInt8))) (v9:Int):Option (Unit⊕(List UInt8)) :=
 if(decide (v9<(x18.length:Int))) then
  idx x18 v9>>=λx22 =>
  Qme p0 x22>>=λx23 =>
  if(!x23.2) then
   idx p0 v7>>=λx24 =>
   some (.inr x24.Name)
  else
   Qjq p0 v7 x18 (wr (v9+1))
 else
  some (.inl ())
 partial_fixpoint
def Qqj (p0:(List (List UInt8))) (p1:(List UInt8)) (v5:Int):Option (Unit⊕Unit) :=
 if(decide (v5<(p0.length:Int))) then
  idx p0 v5>>=λx4 =>
  if(x4==p1) then
   some (.inr ())
  else
   Qqj p0 p1 (wr (v5+1))
 else
  some (.inl ())
 partial_fixpoint
def Q7d (p0:(List (List UInt8))) (p1:(List UInt8)):Option (Bool) :=
 (Qqj p0 p1 0)>>=λo1 =>
 match o1 with
 | .inl y2 =>
  some false
 | .inr y3 =>
  some true
def Qlq (p0:(List (List UInt8))) (p1:(List UInt8)) (v5:Int):Option (Int) :=
 ( if(decide (v5<(p0.length:Int))) then
   idx p0 v5>>=λx4 =>
   some (Op.bytesLess x4 p1)
  else
   some false:Option (Bool))>>=λo3 =>
 if o3 then
  Qlq p0 p1 (wr (v5+1))
 else
  some v5
 partial_fixpoint
def Qtt (p0:(List (List UInt8))) (p1:(List UInt8)):Option ((List (List UInt8))) :=
 Q7d p0 p1>>=λx1 =>
 if x1 then
  some p0
 else
  (Qlq p0 p1 0)>>=λo2 =>
  cutL p0 0 o2>>=λx5 =>
  appL 16 [] x5>>=λx6 =>
  appL 16 x6 [p1]>>=λx7 =>
  cutL p0 o2 (p0.length:Int)>>=λx8 =>
  appL 16 x7 x8>>=λx9 =>
  need (((p0.map cStr).length)<((x9.map cStr).length))>>=λ_ =>
  some x9
def Qi1 (p0:(List Qaa)) (v4:Int) (x9:(List (List UInt8))) (x10:(List (List UInt8))) (v3_:(List (List UInt8))) (v6:Int):Option ((List (List UInt8))) :=
 if(decide (v6<(x10.length:Int))) then
  idx x10 v6>>=λx12 =>
  Qtt v3_ x12>>=λx13 =>
  Qi1 p0 v4 x9 x10 x13 (wr (v6+1))
 else
  some v3_
 partial_fixpoint
mutual
def Qgb (p0:(List Qaa)):Option ((List (List UInt8))) :=
 (Qg1 p0 [] 0)>>=λo1 =>
 some o1
 partial_fixpoint
def Qg1 (p0:(List Qaa)) (v3:(List (List UInt8))) (v4:Int):Option ((List (List UInt8))) :=
 if(decide (v4<(p0.length:Int))) then
  ( idx p0 v4>>=λx3 =>
   if(x3.Kind==13) then
    idx p0 v4>>=λx4 =>
    Qtt v3 x4.Name>>=λx5 =>
    some x5
   else
    some v3:Option ((List (List UInt8))))>>=λo2 =>
  idx p0 v4>>=λx6 =>
  Qgb x6.Then>>=λx7 =>
  idx p0 v4>>=λx8 =>
  Qgb x8.Else>>=λx9 =>
  appL 16 x7 x9>>=λx10 =>
  (Qi1 p0 v4 x9 x10 o2 0)>>=λo11 =>
  Qg1 p0 o11 (wr (v4+1))
 else
  some v3
 partial_fixpoint
end
def Qjr (p0:(List Qad)) (v7:Int):Option (Unit⊕(List UInt8)) :=
 if(decide (v7<(p0.length:Int))) then
  idx p0 v7>>=λx17 =>
  Qgb x17.L>>=λx18 =>
  (Qjq p0 v7 x18 0)>>=λo19 =>
  match o19 with
  | .inl y20 =>
   Qjr p0 (wr (v7+1))
  | .inr y21 =>
   some (.inr y21)
 else
  some (.inl ())
 partial_fixpoint
def Qjs (p0:(List Qad)) (v7:(List (List UInt8))) (v8:Int) (v10:Int) (x7:(List (List UInt8))) (v7__:(List (List UInt8))) (v14:Int):Option ((List (List UInt8))) :=
 if(decide (v14<(x7.length:Int))) then
  idx x7 v14>>=λx9 =>
  Qtt v7__ x9>>=λx10 =>
  Qjs p0 v7 v8 v10 x7 x10 (wr (v14+1))
 else
  some v7__
 partial_fixpoint
def Qjt (p0:(List Qad)) (v7:(List (List UInt8))) (v8:Int) (v7_:(List (List UInt8))) (v10:Int):Option ((List (List UInt8))) :=
 if(decide (v10<(v7.length:Int))) then
  idx v7 v10>>=λx5 =>
  Qme p0 x5>>=λx6 =>
  Qgb x6.1>>=λx7 =>
  (Qjs p0 v7 v8 v10 x7 v7_ 0)>>=λo8 =>
  Qjt p0 v7 v8 o8 (wr (v10+1))
 else
  some v7_
 partial_fixpoint
def Qju (p0:(List Qad)) (v7:(List (List UInt8))) (v8:Int):Option ((List (List UInt8))) :=
 if(decide (v8<(p0.length:Int))) then
  (Qjt p0 v7 v8 v7 0)>>=λo4 =>
  Qju p0 o4 (wr (v8+1))
 else
  some v7
 partial_fixpoint
def Qyu (p0:(List Qad)) (p1:(List UInt8)):Option ((List (List UInt8))) :=
 Qme p0 p1>>=λx1 =>
 Qgb x1.1>>=λx2 =>
 (Qju p0 x2 0)>>=λo3 =>
 some o3
def Qjv (p0:(List Qad)) (v12:Int):Option (Unit⊕(List UInt8)) :=
 if(decide (v12<(p0.length:Int))) then
  idx p0 v12>>=λx28 =>
  Qyu p0 x28.Name>>=λx29 =>
  idx p0 v12>>=λx30 =>
  Q7d x29 x30.Name>>=λx31 =>
  if x31 then
   idx p0 v12>>=λx32 =>
   some (.inr x32.Name)
  else
   Qjv p0 (wr (v12+1))
 else
  some (.inl ())
 partial_fixpoint
def Qyv (p0:(List Qad)):Option ((List UInt8)×Int) :=
 if(decide ((p0.length:Int)>16)) then
  some ([],5)
 else
  (Qjp p0 0)>>=λo1 =>
  match o1 with
  | .inl y2 =>
   (Qjr p0 0)>>=λo14 =>
   match o14 with
   | .inl y15 =>
    (Qjv p0 0)>>=λo25 =>
    match o25 with
    | .inl y26 =>
     some ([],0)
    | .inr y27 =>
     some (y27,10)
   | .inr y16 =>
    some (y16,4)
  | .inr y3 =>
   some (y3.1,y3.2)
def Qes (p0:(List Qad)) (p1:(List UInt8)) (v10:Int):Option (Unit⊕(List Qaa)) :=
 if(decide (v10<(p0.length:Int))) then
  idx p0 v10>>=λx4 =>
  if(x4.Name==p1) then
   some (.inr x4.L)
  else
   Qes p0 p1 (wr (v10+1))
 else
  some (.inl ())
 partial_fixpoint
theorem Qact:∀ (p0:(List Qad)) (p1:(List UInt8)),(∀ (v10:Int) (o1:Unit⊕(List Qaa)),Qes p0 p1 v10=some o1->TL (0,0) Tryz.prog 21 Qyg (JP2 (0,0) 21 o1 (.exit 0) (Qoz p0 p1) .ret (Qo0 p0 p1)) (Qkf p0 p1 v10)):=by
 intro p0 p1;refine Qes.partial_correctness p0 p1 _ ?_;intro Qes' iQes v10 o1 h;refine TL.round (Qaq mixed tbOk (lv:=Qtq) _ _ _ ?_);refine Qae h (λhb h=>?_) (λhb h=>?_)
 .refine Qbu (l:=p0) (c:=Qai) (c' := Qai) h (λ_=>rfl) (λ_=>rfl) (by decide) (λx4 hi h=>?_);refine Qae h (λhb h=>?_) (λhb h=>?_)
  .exact JP2.b h (Le.ty 0 0)
  .refine TL.le (τ := Qkf p0 p1 (wr (v10+1))) ?_ ((iQes (wr (v10+1)) _ h));exact Le.ty 0 0
 .exact JP2.a h (Le.ty 0 0)
def Qi2 (p0:(List Qad)) (p1:(List UInt8)):Option ((List Qaa)×Bool) :=
 (Qes p0 p1 0)>>=λo1 =>
 match o1 with
 | .inl y2 =>
  some ([],false)
 | .inr y3 =>
  some (y3,true)
theorem Qoj:∀ (p0:(List Qad)) (p1:(List UInt8)) (o:(List Qaa)×Bool),Qi2 p0 p1=some o->PCall Tryz.prog 39 [.sl false (p0.map Qai),sV p1] (Qhd o):=by
 intro p0 p1 o h;unfold Qi2 at h;refine PCall.ofY Qtq Tryz.func39 ?_;refine view (Qcz _ _) rfl ?_;refine Qaj h (λo1 ho hk=>?_);refine Exists.intro (JP2 _ _ o1 (.exit 0) (Qoz p0 p1) .ret (Qo0 p0 p1)) (And.intro (Qk4 (τ := Qkf p0 p1 0) ?_ (TL.loop (Qact p0 p1 0 o1 ho))) (Qke (λy2 hy=>?_) (λy3 hy=>?_)))
 .exact Le.ty 0 0
 .have h:=(by rw[hy] at hk; exact hk);refine Qan (t:=Qhd) h ?_;exact .tup (xs:=[.sl true [],bV false]) (ys:=[.sl false [],bV false]) (.cons (.not) (.cons (.refl _) (.nil)))
 .have h:=(by rw[hy] at hk; exact hk);refine Qan (t:=Qhd) h ?_;exact .refl _
def Qet (x1:(List Qaa)×Int) (l4:(List (Qaa×Int))) (h0_0:Int):Option (Int) :=
 match l4 with
 | [] =>
  some h0_0
 | x2::r3 =>
  Qet x1 r3 (wr (h0_0+1))
 partial_fixpoint
theorem Qacu:∀ (x1:(List Qaa)×Int),(∀ (l4:(List (Qaa×Int))) (h0_0:Int) (o6:Int),Qet x1 l4 h0_0=some o6->RL 1 0 Tryz.prog 11 (rgP Qll) (rgA Qll) (rgB Qll) (Qgs x1 h0_0).env (JP1 (0,0) 11 o6 .normal (Qo1 x1)) (l4.map Qcg) (Qgs x1 h0_0).s):=by
 intro x1;refine Qet.partial_correctness x1 _ ?_;intro Qet' iQet l4 h0_0 o6 h;cases l4 with
 | nil =>
  refine Qaa8 ?_;exact JP1.a h (Le.ty 1 0)
 | cons x2 r3 =>
  refine Q3f (Qaq mixed tbOk (lv:=Qof) _ _ _ ?_);refine And.intro rfl (Qaq mixed tbOk (lv:=Qof) _ _ _ ?_);exact Exists.intro (Qgs x1 (wr (h0_0+1))).s (And.intro (Le.ty 1 0) (And.intro rfl (And.intro rfl ((iQet r3 (wr (h0_0+1)) _ h)))))
def Qjg (p0:(List Qaa)) (p1:Int):Option ((List Qaa)×Int) :=
 some (p0,p1)
theorem Qss:∀ (p0:(List Qaa)) (p1:Int) (o:(List Qaa)×Int),Qjg p0 p1=some o->PCall Tryz.prog 96 [.sl false (p0.map Qab),iV p1] (Qnk o):=by
 intro p0 p1 o h;unfold Qjg at h;refine PCall.ofM mixed tbOk Q9k Tryz.func96 rfl (by kernel_rfl) (Nat.le_of_ble_eq_true rfl) ?_;refine Qan (t:=Qnk) h ?_;exact .refl _
def Qeu (p0:(List Qaa)) (p1:Int) (v12:Int) (x3:Qaa) (v28:Int) (x7:(List Qaa)×Int) (l10:(List (Qaa×Int))):Option ((List (Qaa×Int))×(Unit)) :=
 match l10 with
 | [] =>
  some ([],())
 | x8::r9 =>
  ( Qeu p0 p1 v12 x3 v28 x7 r9 )>>=λq=>some (((Qaa.mk x8.1.Kind x8.1.Name x8.1.Text x8.1.N x8.1.L x8.1.Then x8.1.Else),x8.2)::q.1,q.2)
 partial_fixpoint
theorem Qacv:∀ (p0:(List Qaa)) (p1:Int) (v12:Int) (x3:Qaa) (v28:Int) (x7:(List Qaa)×Int),(∀ (l10:(List (Qaa×Int))) (o13:(List (Qaa×Int))×(Unit)),Qeu p0 p1 v12 x3 v28 x7 l10=some o13->∀ (gxs gp gpost gq12:List (List V)),gxs=gp++(o13.1.map Qcg++gpost)->gxs=gq12++gpost->RL 2 1 Tryz.prog 44 (rgP Qlm) (rgA Qlm) (rgB Qlm) (Qgt p0 p1 v12 x3 v28 x7 gxs gp).env (Qs (0,1) 44 gxs (JP1 (0,1) 44 o13.2 .normal (Qo2 p0 p1 v12 x3 v28 x7 gxs gq12))) (l10.map Qcg) (Qgt p0 p1 v12 x3 v28 x7 gxs gp).s):=by
 intro p0 p1 v12 x3 v28 x7;refine Qeu.partial_correctness p0 p1 v12 x3 v28 x7 _ ?_;intro Qeu' iQeu l10 o13 h;intro gxs gp gpost gq12 hx hq;cases l10 with
 | nil =>
  refine Qaa8 ?_;exact .inl (JP1.a (sndI h) (Le.tz 2 1 rfl rfl (Qag8 h hx hq rfl)))
 | cons x8 r9 =>
  refine Q3f (Qaq mixed tbOk (lv:=Qht) _ _ _ ?_);refine And.intro rfl (Qaq mixed tbOk (lv:=Qht) _ _ _ ?_);refine Qaes (c:=Qcg) h hx (.refl _) (by exact rfl) (by exact rfl) (λ_ h hx=>?_) ?_
  .refine bF ?_;exact Exists.intro (Qgt p0 p1 v12 x3 v28 x7  gxs (gp++[Qcg ((Qaa.mk x8.1.Kind x8.1.Name x8.1.Text x8.1.N x8.1.L x8.1.Then x8.1.Else),x8.2)])).s (And.intro (Le.ty 2 1) (And.intro rfl (And.intro rfl ((iQeu r9 _ h) _ _ _ _ hx hq))))
  .refine bT ?_;exact⟨_,(Le.env0 _).trans (Le.tow 2 1 rfl .nil (.refl _) rfl),rfl,rfl,.inr ⟨rfl,Qag7 rfl⟩⟩
mutual
def Qfd (p0 : (List Qaa)) (p1 : Int) : Option ((List (Qaa × Int)) × Unit) :=
  ( Qev p0 p1 0) >>= fun o2 => (
    some ([], ())) >>= fun q => some (o2.1 ++ q.1, q.2)
  partial_fixpoint
def Qev (p0 : (List Qaa)) (p1 : Int) (v12 : Int) : Option ((List (Qaa × Int)) × (Unit)) :=
  if (decide (v12 < (p0.length : Int))) then
    idx p0 v12 >>= fun x3 =>
    ( ( Qcc p0 p1 v12 x3 0) >>= fun o5 => (
        Qev p0 p1 (wr (v12 + 1))) >>= fun q => some (o5.1 ++ q.1, q.2)) >>= fun q => some ((x3, p1) :: q.1, q.2)
  else
    some ([], ())
  partial_fixpoint
def Qcc (p0 : (List Qaa)) (p1 : Int) (v12 : Int) (x3 : Qaa) (v28 : Int) : Option ((List (Qaa × Int)) × (Unit)) :=
  if (decide (v28 < 3)) then
    idx ([x3.L, x3.Then, x3.Else] : List (List Qaa)) v28 >>= fun x6 =>
    Qjg x6 (wr (p1 + 1)) >>= fun x7 =>
    Qfd x7.1 x7.2 >>= fun y11 =>
    ( Qeu p0 p1 v12 x3 v28 x7 y11.1) >>= fun o13 => (
      Qcc p0 p1 v12 x3 (wr (v28 + 1))) >>= fun q => some (o13.1 ++ q.1, q.2)
  else
    some ([], ())
  partial_fixpoint
end
theorem Q0q:(∀ (p0:(List Qaa)) (p1:Int) (o:(List (Qaa×Int))×Unit),Qfd p0 p1=some o->∀ gxs:List (List V),gxs=o.1.map Qcg->IterOK Tryz.prog 125 [.ep [.sl false (p0.map Qab)],.ep [iV p1]] gxs)/\(∀ (p0:(List Qaa)) (p1:Int) (v12:Int) (o2:(List (Qaa×Int))×(Unit)),Qev p0 p1 v12=some o2->∀ (gxs gp gpost gq1:List (List V)),gxs=gp++(o2.1.map Qcg++gpost)->gxs=gq1++gpost->TL (0,1) Tryz.prog 44 Qyl (Qs (0,1) 44 gxs (JP1 (0,1) 44 o2.2 (.exit 0) (Qo4 p0 p1 gxs gq1))) (Qki p0 p1 v12 gxs gp))/\(∀ (p0:(List Qaa)) (p1:Int) (v12:Int) (x3:Qaa) (v28:Int) (o5:(List (Qaa×Int))×(Unit)),Qcc p0 p1 v12 x3 v28=some o5->∀ (gxs gp gpost gq4:List (List V)),gxs=gp++(o5.1.map Qcg++gpost)->gxs=gq4++gpost->TL (0,1) Tryz.prog 44 Qyk (Qs (0,1) 44 gxs (JP1 (0,1) 44 o5.2 (.exit 2) (Qo3 p0 p1 v12 x3 gxs gq4))) (Qkh p0 p1 v12 x3 v28 gxs gp)):=by
 refine Qfd.mutual_partial_correctness _ _ _ ?_ ?_ ?_
 .intro Qev' iQev p0 p1 o h;intro gxs hg;have hx:gxs=[]++(o.1.map Qcg++[]):=by simp[hg]
  refine IterOK.ofB mixed tbOk Qht Tryz.func125 rfl (by kernel_rfl) (Nat.le_of_ble_eq_true rfl) rfl ?_;refine view (Qcz _ _) rfl ?_;refine Qw6 h hx (λo2 lgq1 gq1 ho hk hxa hjgq1=>?_);refine Exists.intro (Qs _ _ gxs (JP1 _ _ o2.2 (.exit 0) (Qo4 p0 p1 gxs gq1))) (And.intro (Qk4 (τ := Qki p0 p1 0 gxs ([]:List (List V))) ?_ (TL.loop ((iQev p0 p1 0 o2 ho) _ _ _ _ hxa hjgq1))) (Qag9 (Qa5 ?_) ?_))
  .exact Le.ty 1 1
  .have h:=hk;have hx:=hjgq1;exact Qaer h hx (.inl rfl) rfl
  .exact λs1 h1 h2 hs=>Qaa9 (.inr rfl) hs
 .intro Qev' Qcc' iQev iQcc p0 p1 v12 o2 h;intro gxs gp gpost gq1 hx hq;refine TL.round (Qaq mixed tbOk (lv:=Qht) _ _ _ ?_);refine Qae h (λhb h=>?_) (λhb h=>?_)
  .refine Qbu (l:=p0) (c:=Qab) (c' := Qbn) h Qar (λ_=>rfl) (by decide) (λx3 hi h=>?_);refine Qaes (c:=Qcg) h hx (.refl _) (by exact rfl) (by exact rfl) (λ_ h hx=>?_) ?_
   .refine bF ?_;refine Qw6 h hx (λo5 lgq4 gq4 ho hk hxa hjgq4=>?_);refine Exists.intro (Qs _ _ gxs (JP1 _ _ o5.2 (.exit 2) (Qo3 p0 p1 v12 x3 gxs gq4))) (And.intro (Qk4 (τ := Qkh p0 p1 v12 x3 0 gxs (gp++[Qcg (x3,p1)])) ?_ (TL.loop ((iQcc p0 p1 v12 x3 0 o5 ho) _ _ _ _ hxa hjgq4))) (Qag9 (Qa5 ?_) ?_))
    .exact Le.ty 2 1
    .have h:=hk;have hx:=hjgq4;refine TL.le (τ := Qki p0 p1 (wr (v12+1)) gxs gq4) ?_ ((iQev p0 p1 (wr (v12+1)) _ h) _ _ _ _ hx hq);exact Le.ty 1 1
    .exact λs1 h1 h2 hs =>.inr ⟨rfl,s1,.refl _ _ _,h1,h2,hs⟩
   .refine bT ?_;exact .inr ⟨rfl,_,(Le.env0 _).trans (Le.tow 0 1 rfl .nil (.refl _) rfl),rfl,rfl,rfl⟩
  .exact .inl (JP1.a (sndI h) (Le.tz 1 1 rfl rfl (Qag8 h hx hq rfl)))
 .intro Qfd' Qcc' iQfd iQcc p0 p1 v12 x3 v28 o5 h;intro gxs gp gpost gq4 hx hq;refine TL.round (Qaq mixed tbOk (lv:=Qht) _ _ _ ?_);refine Qae h (λhb h=>?_) (λhb h=>?_)
  .refine Qai4 (l:=([x3.L,x3.Then,x3.Else]:List (List Qaa))) (c:=λx6 =>.sl false (x6.map Qab)) h rfl rfl rfl rfl (λx6 hi h=>?_);refine Qas [.sl false (x6.map Qab),iV (wr (p1+1))] Qnk h (λx7 hy=>(Qss x6 (wr (p1+1)) x7 hy)) (λx7 hy h=>?_);refine Qaj h (λy11 hy11 h=>?_);refine Qw6 h hx (λo13 lgq12 gq12 ho hk hxa hjgq12=>?_);refine Exists.intro (Qs _ _ gxs (JP1 _ _ o13.2 .normal (Qo2 p0 p1 v12 x3 v28 x7 gxs gq12))) (And.intro (Qk4 (τ := Qgt p0 p1 v12 x3 v28 x7 gxs gp) ?_ (Q3a (g:=125) (cap:=[.ep [.sl false (x7.1.map Qab)],.ep [iV x7.2]]) rfl ((iQfd x7.1 x7.2 y11 hy11) _ rfl) (Qu4 λ_=>rfl) rfl (Nat.le_of_ble_eq_true rfl) (Nat.le_of_ble_eq_true rfl) ((Qacv p0 p1 v12 x3 v28 x7 y11.1 o13 ho) _ _ _ _ hxa hjgq12))) (Qag9 (Qa5 ?_) ?_))
   .exact Le.ty 2 1
   .have h:=hk;have hx:=hjgq12;refine TL.le (τ := Qkh p0 p1 v12 x3 (wr (v28+1)) gxs gq12) ?_ ((iQcc p0 p1 v12 x3 (wr (v28+1)) _ h) _ _ _ _ hx hq);exact Le.ty 2 1
   .exact λs1 h1 h2 hs =>.inr ⟨rfl,s1,.refl _ _ _,h1,h2,hs⟩
  .exact .inl (JP1.a (sndI h) (Le.tz 2 1 rfl rfl (Qag8 h hx hq rfl)))
theorem Qtu:∀ (p0:(List Qaa)) (p1:Int) (o:(List (Qaa×Int))×Unit),Qfd p0 p1=some o->∀ gxs:List (List V),gxs=o.1.map Qcg->IterOK Tryz.prog 125 [.ep [.sl false (p0.map Qab)],.ep [iV p1]] gxs:=λp0 p1=>Q0q.1 p0 p1
def Qno (p0:(List Qaa)):Option (Int) :=
 Qjg p0 1>>=λx1 =>
 Qfd x1.1 x1.2>>=λy5 =>
 (Qet x1 y5.1 0)>>=λo6 =>
 some o6
theorem Q38:∀ (p0:(List Qaa)) (o:Int),Qno p0=some o->PCall Tryz.prog 71 [.sl false (p0.map Qab)] (Qqc o):=by
 intro p0 o h;unfold Qno at h;refine PCall.ofY Qof Tryz.func71 ?_;refine Qas [.sl false (p0.map Qab),iV 1] Qnk h (λx1 hy=>(Qss p0 1 x1 hy)) (λx1 hy h=>?_);refine Qaj h (λy5 hy5 h=>?_);refine Qaj h (λo6 ho hk=>?_);refine Exists.intro (JP1 _ _ o6 .normal (Qo1 x1)) (And.intro (Qk4 (τ := Qgs x1 0) ?_ (Q3a (g:=125) (cap:=[.ep [.sl false (x1.1.map Qab)],.ep [iV x1.2]]) rfl ((Qtu x1.1 x1.2 y5 hy5) _ rfl) (Qu4 λ_=>rfl) rfl (Nat.le_of_ble_eq_true rfl) (Nat.le_of_ble_eq_true rfl) (Qacu x1 y5.1 0 o6 ho))) (Qa5 ?_))
 .exact Le.ty 1 0
 have h:=hk;refine Qan (t:=Qqc) h ?_;exact .refl _
def Qfu (x1:(List Qaa)×Int) (l4:(List (Qaa×Int))) (h0_0:Int):Option (Int) :=
 match l4 with
 | [] =>
  some h0_0
 | x2::r3 =>
  Qfu x1 r3 (if x2.2>h0_0 then x2.2 else h0_0)
 partial_fixpoint
theorem Qade:∀ (x1:(List Qaa)×Int),(∀ (l4:(List (Qaa×Int))) (h0_0:Int) (o6:Int),Qfu x1 l4 h0_0=some o6->RL 1 0 Tryz.prog 14 (rgP Qm0) (rgA Qm0) (rgB Qm0) (Qhs x1 h0_0).env (JP1 (0,0) 14 o6 .normal (Qqe x1)) (l4.map Qcg) (Qhs x1 h0_0).s):=by
 intro x1;refine Qfu.partial_correctness x1 _ ?_;intro Qfu' iQfu l4 h0_0 o6 h;cases l4 with
 | nil =>
  refine Qaa8 ?_;exact JP1.a h (Le.ty 1 0)
 | cons x2 r3 =>
  refine Q3f (Qaq mixed tbOk (lv:=Qqd) _ _ _ ?_);refine And.intro rfl (Qaq mixed tbOk (lv:=Qqd) _ _ _ ?_);exact Exists.intro (Qhs x1 (if x2.2>h0_0 then x2.2 else h0_0)).s (And.intro (Le.ty 1 0) (And.intro rfl (And.intro rfl ((iQfu r3 (if x2.2>h0_0 then x2.2 else h0_0) _ h)))))
def Qqk (p0:(List Qaa)):Option (Int) :=
 Qjg p0 1>>=λx1 =>
 Qfd x1.1 x1.2>>=λy5 =>
 (Qfu x1 y5.1 0)>>=λo6 =>
 some o6
theorem Q7e:∀ (p0:(List Qaa)) (o:Int),Qqk p0=some o->PCall Tryz.prog 70 [.sl false (p0.map Qab)] (Qsp o):=by
 intro p0 o h;unfold Qqk at h;refine PCall.ofY Qqd Tryz.func70 ?_;refine Qas [.sl false (p0.map Qab),iV 1] Qnk h (λx1 hy=>(Qss p0 1 x1 hy)) (λx1 hy h=>?_);refine Qaj h (λy5 hy5 h=>?_);refine Qaj h (λo6 ho hk=>?_);refine Exists.intro (JP1 _ _ o6 .normal (Qqe x1)) (And.intro (Qk4 (τ := Qhs x1 0) ?_ (Q3a (g:=125) (cap:=[.ep [.sl false (x1.1.map Qab)],.ep [iV x1.2]]) rfl ((Qtu x1.1 x1.2 y5 hy5) _ rfl) (Qu4 λ_=>rfl) rfl (Nat.le_of_ble_eq_true rfl) (Nat.le_of_ble_eq_true rfl) (Qade x1 y5.1 0 o6 ho))) (Qa5 ?_))
 .exact Le.ty 1 0
 have h:=hk;refine Qan (t:=Qsp) h ?_;exact .refl _
def Qb5 (p0:(List UInt8)) (p1:(List UInt8)):Option (Bool) :=
 ( if(decide ((p0.length:Int) >= (p1.length:Int))) then
   cutL p0 (wr ((p0.length:Int)-(p1.length:Int))) (p0.length:Int)>>=λx2 =>
   some (x2==p1)
  else
   some false:Option (Bool))>>=λo1 =>
 some o1
theorem Qhv:∀ (p0:(List UInt8)) (p1:(List UInt8)) (o:Bool),Qb5 p0 p1=some o->PCall Tryz.prog 129 [sV p0,sV p1] (Qcn o):=by
 intro p0 p1 o h;unfold Qb5 at h;refine PCall.ofY Qhq Tryz.func129 ?_;refine Qaj h (λo1 ho hk=>?_);refine Exists.intro (JP1 _ _ o1 .normal (Qgz )) (And.intro ?_ (Qa5 ?_))
 .have h:=ho;refine vrfl ?_;refine vrfl ?_;refine Qae h (λhb h=>?_) (λhb h=>?_)
  .refine vrfl ?_;refine vrfl ?_;refine Qmr (some (wr ((p0.length:Int)-(p1.length:Int)))) none h (λx2 hi h=>?_);exact JP1.a h (Le.ty 0 0)
  .exact JP1.a h (Le.ty 0 0)
 .have h:=hk;refine Qan (t:=Qcn) h ?_;exact .refl _
def Qch (p0:(List UInt8)) (p1:(List UInt8)):Option (Bool) :=
 Qb5 p0 p1>>=λx1 =>
 some x1
theorem Qeg:∀ (p0:(List UInt8)) (p1:(List UInt8)) (o:Bool),Qch p0 p1=some o->PCall Tryz.prog 98 [sV p0,sV p1] (Qcu o):=by
 intro p0 p1 o h;unfold Qch at h;refine PCall.ofY Qrn Tryz.func98 ?_;refine Qas [sV p0,sV p1] Qcn h (λx1 hy=>(Qhv p0 p1 x1 hy)) (λx1 hy h=>?_);refine Qan (t:=Qcu) h ?_;exact .refl _
def Qcq (p0:(List UInt8)) (p1:(List UInt8)):Option (Int) :=
 need (p0.length<4294967281)>>=λ_ =>
 some (Lib.index p0 p1)
theorem Qkk:∀ (p0:(List UInt8)) (p1:(List UInt8)) (o:Int),Qcq p0 p1=some o->PCall Tryz.prog 167 [sV p0,sV p1] (Qfl o):=by
 intro p0 p1 o h;unfold Qcq at h;obtain⟨h1,h⟩:=Q6w h;cases h;exact Qahb _ _ h1
def Qk1 (p0:(List UInt8)) (p1:(List UInt8)):Option (Int) :=
 Qcq p0 p1>>=λx1 =>
 some x1
theorem Qwg:∀ (p0:(List UInt8)) (p1:(List UInt8)) (o:Int),Qk1 p0 p1=some o->PCall Tryz.prog 153 [sV p0,sV p1] (Qlk o):=by
 intro p0 p1 o h;unfold Qk1 at h;refine PCall.ofY Qwf Tryz.func153 ?_;refine Qas [sV p0,sV p1] Qfl h (λx1 hy=>(Qkk p0 p1 x1 hy)) (λx1 hy h=>?_);refine Qan (t:=Qlk) h ?_;exact .refl _
def Qfa (p0:(List UInt8)) (p1:(List UInt8)):Option (Bool) :=
 Qk1 p0 p1>>=λx1 =>
 some (decide (x1 >= 0))
theorem Qst:∀ (p0:(List UInt8)) (p1:(List UInt8)) (o:Bool),Qfa p0 p1=some o->PCall Tryz.prog 127 [sV p0,sV p1] (Qhr o):=by
 intro p0 p1 o h;unfold Qfa at h;refine PCall.ofY Qso Tryz.func127 ?_;refine Qas [sV p0,sV p1] Qlk h (λx1 hy=>(Qwg p0 p1 x1 hy)) (λx1 hy h=>?_);refine Qan (t:=Qhr) h ?_;exact .refl _
def Qnp (p0:Int):Option (Bool) :=
 ( if(decide (p0 >= 48)) then
   some (decide (p0<=57))
  else
   some false:Option (Bool))>>=λo1 =>
 some o1
theorem Qvv:∀ (p0:Int) (o:Bool),Qnp p0=some o->PCall Tryz.prog 124 [nV .u8 p0] (Qoe o):=by
 intro p0 o h;unfold Qnp at h;refine PCall.ofY Q64 Tryz.func124 ?_;refine Qaj h (λo1 ho hk=>?_);refine Exists.intro (JP1 _ _ o1 .normal (Q0a )) (And.intro ?_ (Qa5 ?_))
 .have h:=ho;refine Qae h (λhb h=>?_) (λhb h=>?_)
  .exact JP1.a h (Le.ty 0 0)
  .exact JP1.a h (Le.ty 0 0)
 .have h:=hk;refine Qan (t:=Qoe) h ?_;exact .refl _
def Qnq (p0:Int):Option (Bool) :=
 ( if(decide (p0 >= 97)) then
   if(decide (p0<=122)) then
    some true
   else
    Qnp p0>>=λx2 =>
    if x2 then
     some true
    else
     some (p0==95)
  else
   Qnp p0>>=λx3 =>
   if x3 then
    some true
   else
    some (p0==95):Option (Bool))>>=λo1 =>
 some o1
theorem Q39:∀ (p0:Int) (o:Bool),Qnq p0=some o->PCall Tryz.prog 95 [nV .u8 p0] (Qqb o):=by
 intro p0 o h;unfold Qnq at h;refine PCall.ofY Q3x Tryz.func95 ?_;refine Qaj h (λo1 ho hk=>?_);refine Exists.intro (JP1 _ _ o1 .normal (Qyi )) (And.intro ?_ (Qa5 ?_))
 .have h:=ho;refine Qae h (λhb h=>?_) (λhb h=>?_)
  .refine Qae h (λhb h=>?_) (λhb h=>?_)
   .refine bT ?_;exact JP1.a h (Le.ty 0 0)
   .refine Qas [nV .u8 p0] Qoe h (λx2 hy=>(Qvv p0 x2 hy)) (λx2 hy h=>?_);refine Qae h (λhb h=>?_) (λhb h=>?_)
    .exact JP1.a h (Le.ty 0 0)
    .exact JP1.a h (Le.ty 0 0)
  .refine bF ?_;refine Qas [nV .u8 p0] Qoe h (λx3 hy=>(Qvv p0 x3 hy)) (λx3 hy h=>?_);refine Qae h (λhb h=>?_) (λhb h=>?_)
   .exact JP1.a h (Le.ty 0 0)
   .exact JP1.a h (Le.ty 0 0)
 .have h:=hk;refine Qan (t:=Qqb) h ?_;exact .refl _
def Qg2 (p0:(List UInt8)) (v6:Int):Option (Unit⊕Unit) :=
 if(decide (v6<(p0.length:Int))) then
  idx p0 v6>>=λx4 =>
  Qnq (x4.toNat:Int)>>=λx5 =>
  if(!x5) then
   some (.inr ())
  else
   Qg2 p0 (wr (v6+1))
 else
  some (.inl ())
 partial_fixpoint
theorem Qae9:∀ (p0:(List UInt8)),(∀ (v6:Int) (o1:Unit⊕Unit),Qg2 p0 v6=some o1->TL (0,0) Tryz.prog 27 Q3v (JP2 (0,0) 27 o1 (.exit 0) (Qsa p0) .ret (Qsb p0)) (Qmz p0 v6)):=by
 intro p0;refine Qg2.partial_correctness p0 _ ?_;intro Qg2' iQg2 v6 o1 h;refine TL.round (Qaq mixed tbOk (lv:=Qyh) _ _ _ ?_);refine Qae h (λhb h=>?_) (λhb h=>?_)
 .refine Qdy h (λx4 hi h=>?_);refine Qas [nV .u8 (x4.toNat:Int)] Qqb h (λx5 hy=>(Q39 (x4.toNat:Int) x5 hy)) (λx5 hy h=>?_);refine Qae h (λhb h=>?_) (λhb h=>?_)
  .exact JP2.b h (Le.ty 0 0)
  .refine TL.le (τ := Qmz p0 (wr (v6+1))) ?_ ((iQg2 (wr (v6+1)) _ h));exact Le.ty 0 0
 .exact JP2.a h (Le.ty 0 0)
def Qok (p0:(List UInt8)):Option (Bool) :=
 (Qg2 p0 0)>>=λo1 =>
 match o1 with
 | .inl y2 =>
  ( if(!(p0==[])) then
    if(decide ((p0.length:Int)<=32)) then
     idx p0 0>>=λx7 =>
     some (decide ((x7.toNat:Int) >= 97))
    else
     some false
   else
    some false:Option (Bool))>>=λo6 =>
  some o6
 | .inr y3 =>
  some false
theorem Qsu:∀ (p0:(List UInt8)) (o:Bool),Qok p0=some o->PCall Tryz.prog 69 [sV p0] (Qk6 o):=by
 intro p0 o h;unfold Qok at h;refine PCall.ofY Qyh Tryz.func69 ?_;refine vrfl ?_;refine Qaj h (λo1 ho hk=>?_);refine Exists.intro (JP2 _ _ o1 (.exit 0) (Qsa p0) .ret (Qsb p0)) (And.intro (Qk4 (τ := Qmz p0 0) ?_ (TL.loop (Qae9 p0 0 o1 ho))) (Qke (λy2 hy=>?_) (λy3 hy=>?_)))
 .exact Le.ty 0 0
 .have h:=(by rw[hy] at hk; exact hk);refine Qaj h (λo6 ho hk=>?_);refine Exists.intro (JP1 _ _ o6 .normal (Q3w )) (And.intro ?_ (Qa5 ?_))
  .have h:=ho;refine Qae h (λhb h=>?_) (λhb h=>?_)
   .refine vrfl ?_;refine Qae h (λhb h=>?_) (λhb h=>?_)
    .refine Qdy h (λx7 hi h=>?_);exact JP1.a h (Le.ty 0 0)
    .exact JP1.a h (Le.ty 0 0)
   .refine bF ?_;exact JP1.a h (Le.ty 0 0)
  .have h:=hk;refine Qan (t:=Qk6) h ?_;exact .refl _
 .have h:=(by rw[hy] at hk; exact hk);refine Qan (t:=Qk6) h ?_;exact .refl _
def Qhw (p0:(List UInt8)):Option (Bool) :=
 ( if(p0==[105,102]) then
   some (p0==[105,102])
  else
   if(p0==[101,108,115,101]) then
    some (p0==[101,108,115,101])
   else
    if(p0==[101,110,100]) then
     some (p0==[101,110,100])
    else
     if(p0==[101,97,99,104]) then
      some (p0==[101,97,99,104])
     else
      if(p0==[105,110]) then
       some (p0==[105,110])
      else
       if(p0==[108,101,116]) then
        some (p0==[108,101,116])
       else
        if(p0==[117,115,101]) then
         some (p0==[117,115,101])
        else
         if(p0==[116,114,117,101]) then
          some (p0==[116,114,117,101])
         else
          if(p0==[102,97,108,115,101]) then
           some (p0==[102,97,108,115,101])
          else
           some (p0==[115,101,99,114,101,116]):Option (Bool))>>=λo1 =>
 if o1 then
  some false
 else
  Qok p0>>=λx2 =>
  some x2
theorem Qjw:∀ (p0:(List UInt8)) (o:Bool),Qhw p0=some o->PCall Tryz.prog 37 [sV p0] (Qfs o):=by
 intro p0 o h;unfold Qhw at h;refine PCall.ofY Q66 Tryz.func37 ?_;refine Qaj h (λo1 ho hk=>?_);refine Exists.intro (JP1 _ _ o1 .normal (Q0b p0)) (And.intro ?_ (Qa5 ?_))
 .have h:=ho;refine Qae h (λhb h=>?_) (λhb h=>?_)
  .exact JP1.a h (Le.ty 0 0)
  .refine Qae h (λhb h=>?_) (λhb h=>?_)
   .exact JP1.a h (Le.ty 0 0)
   .refine Qae h (λhb h=>?_) (λhb h=>?_)
    .exact JP1.a h (Le.ty 0 0)
    .refine Qae h (λhb h=>?_) (λhb h=>?_)
     .exact JP1.a h (Le.ty 0 0)
     .refine Qae h (λhb h=>?_) (λhb h=>?_)
      .exact JP1.a h (Le.ty 0 0)
      .refine Qae h (λhb h=>?_) (λhb h=>?_)
       .exact JP1.a h (Le.ty 0 0)
       .refine Qae h (λhb h=>?_) (λhb h=>?_)
        .exact JP1.a h (Le.ty 0 0)
        .refine Qae h (λhb h=>?_) (λhb h=>?_)
         .exact JP1.a h (Le.ty 0 0)
         .refine Qae h (λhb h=>?_) (λhb h=>?_)
          .exact JP1.a h (Le.ty 0 0)
          .exact JP1.a h (Le.ty 0 0)
 .have h:=hk;refine Qae h (λhb h=>?_) (λhb h=>?_)
  .refine Qan (t:=Qfs) h ?_;exact .refl _
  .refine Qas [sV p0] Qk6 h (λx2 hy=>(Qsu p0 x2 hy)) (λx2 hy h=>?_);refine Qan (t:=Qfs) h ?_;exact .refl _
def Qc1 (p0:(List UInt8)) (v4:(List Int)) (v18:Int):Option ((List Int)) :=
 if(decide (v18<(p0.length:Int))) then
  idx p0 v18>>=λx5 =>
  if((x5.toNat:Int)==10) then
   appL 1 v4 (s2b [92,110])>>=λx6 =>
   Qc1 p0 x6 (wr (v18+1))
  else
   if((x5.toNat:Int)==9) then
    appL 1 v4 (s2b [92,116])>>=λx7 =>
    Qc1 p0 x7 (wr (v18+1))
   else
    ( if((x5.toNat:Int)==34) then
      some ((x5.toNat:Int)==34)
     else
      some ((x5.toNat:Int)==92):Option (Bool))>>=λo8 =>
    if o8 then
     appL 1 v4 [92,(x5.toNat:Int)]>>=λx9 =>
     Qc1 p0 x9 (wr (v18+1))
    else
     appL 1 v4 [(x5.toNat:Int)]>>=λx10 =>
     Qc1 p0 x10 (wr (v18+1))
 else
  some v4
 partial_fixpoint
theorem Qadf:∀ (p0:(List UInt8)),(∀ (v4:(List Int)) (v18:Int) (o4:(List Int)),Qc1 p0 v4 v18=some o4->TL (0,0) Tryz.prog 49 Qz9 (JP1 (0,0) 49 o4 (.exit 0) (Qqa p0)) (Qeh p0 v4 v18)):=by
 intro p0;refine Qc1.partial_correctness p0 _ ?_;intro Qc1' iQc1 v4 v18 o4 h;refine TL.round (Qaq mixed tbOk (lv:=Qvr) _ _ _ ?_);refine Qae h (λhb h=>?_) (λhb h=>?_)
 .refine Qdy h (λx5 hi h=>?_);refine Qae h (λhb h=>?_) (λhb h=>?_)
  .refine Qaa7 (a:=v4) (b:=[92,110]) h rfl (λx6 hi h=>?_);refine TL.le (τ := Qeh p0 x6 (wr (v18+1))) ?_ ((iQc1 x6 (wr (v18+1)) _ h));exact Le.ty 0 1
  .refine Qae h (λhb h=>?_) (λhb h=>?_)
   .refine Qaa7 (a:=v4) (b:=[92,116]) h rfl (λx7 hi h=>?_);refine TL.le (τ := Qeh p0 x7 (wr (v18+1))) ?_ ((iQc1 x7 (wr (v18+1)) _ h));exact Le.ty 0 1
   .refine Qaj h (λo8 ho hk=>?_);refine Exists.intro (JP1 _ _ o8 .normal (Qz8 p0 v4 v18 x5)) (And.intro ?_ (Qa5 ?_))
    .have h:=ho;refine Qae h (λhb h=>?_) (λhb h=>?_)
     .exact JP1.a h (Le.ty 0 1)
     .exact JP1.a h (Le.ty 0 1)
    .have h:=hk;refine Qae h (λhb h=>?_) (λhb h=>?_)
     .refine Qms (a:=v4) (b:=[92,(x5.toNat:Int)]) (c:=(cNum .u8)) h (.refl _) (λ_=>rfl) rfl (λx9 hi h=>?_);refine TL.le (τ := Qeh p0 x9 (wr (v18+1))) ?_ ((iQc1 x9 (wr (v18+1)) _ h));exact Le.ty 0 1
     .refine Qms (a:=v4) (b:=[(x5.toNat:Int)]) (c:=(cNum .u8)) h (.refl _) (λ_=>rfl) rfl (λx10 hi h=>?_);refine TL.le (τ := Qeh p0 x10 (wr (v18+1))) ?_ ((iQc1 x10 (wr (v18+1)) _ h));exact Le.ty 0 1
 .exact JP1.a h (Le.ty 0 1)
def Qb6 (p0:(List UInt8)) (p1:Int):Option (Int) :=
 some (Lib.indexByte p0 p1.toNat.toUInt8)
theorem Qhx:∀ (p0:(List UInt8)) (p1:Int) (o:Int),Qb6 p0 p1=some o->PCall Tryz.prog 174 [sV p0,nV .u8 p1] (Qec o):=by
 intro p0 p1 o h;unfold Qb6 at h;cases h;exact Q6x _ _
def Qgc (p0:(List UInt8)) (p1:Int):Option (Int) :=
 Qb6 p0 p1>>=λx1 =>
 some x1
theorem Qrp:∀ (p0:(List UInt8)) (p1:Int) (o:Int),Qgc p0 p1=some o->PCall Tryz.prog 169 [sV p0,nV .u8 p1] (Qg0 o):=by
 intro p0 p1 o h;unfold Qgc at h;refine PCall.ofY Qro Tryz.func169 ?_;refine Qas [sV p0,nV .u8 p1] Qec h (λx1 hy=>(Qhx p0 p1 x1 hy)) (λx1 hy h=>?_);refine Qan (t:=Qg0) h ?_;exact .refl _
def Qjx (x1:(List UInt8)) (l4:(List (Int×Int))):Option (Unit⊕Unit) :=
 match l4 with
 | [] =>
  some (.inl ())
 | x2::r3 =>
  ( if(x2.1==65533) then
    some (x2.2==1)
   else
    some false:Option (Bool))>>=λo9 =>
  if o9 then
   some (.inr ())
  else
   Qjx x1 r3
 partial_fixpoint
theorem Qahf:∀ (x1:(List UInt8)),(∀ (l4:(List (Int×Int))) (o6:Unit⊕Unit),Qjx x1 l4=some o6->RL 1 0 Tryz.prog 15 (rgP Qsq) (rgA Qsq) (rgB Qsq) (Qma x1).env (JP2 (0,0) 15 o6 .normal (Qvs x1) .ret (Qvt x1)) (l4.map Qi0) (Qma x1).s):=by
 intro x1;refine Qjx.partial_correctness x1 _ ?_;intro Qjx' iQjx l4 o6 h;cases l4 with
 | nil =>
  refine Qaa8 ?_;exact JP2.a h (Le.ty 1 0)
 | cons x2 r3 =>
  refine Q3f (Qaq mixed tbOk (lv:=Qyp) _ _ _ ?_);refine And.intro rfl (Qaq mixed tbOk (lv:=Qyp) _ _ _ ?_);refine Qaj h (λo9 ho hk=>?_);refine Exists.intro (JP1 _ _ o9 .normal (Q9l x1 x2)) (And.intro ?_ (Qa5 ?_))
  .have h:=ho;refine Qae h (λhb h=>?_) (λhb h=>?_)
   .exact JP1.a h (Le.ty 1 0)
   .exact JP1.a h (Le.ty 1 0)
  .have h:=hk;refine Qae h (λhb h=>?_) (λhb h=>?_)
   .exact Exists.intro (⟨[[.p (bV false)]],[]⟩:S) (And.intro (Le.tow 1 0 rfl .nil (.refl _) rfl) (And.intro rfl (And.intro rfl (JP2.b h (Le.ty 1 0)))))
   .exact Exists.intro (Qma x1 ).s (And.intro (Le.ty 1 0) (And.intro rfl (And.intro rfl ((iQjx r3 _ h)))))
def Q4a (p0:(List UInt8)):Option ((List UInt8)) :=
 some p0
theorem Qacw:∀ (p0:(List UInt8)) (o:(List UInt8)),Q4a p0=some o->PCall Tryz.prog 178 [sV p0] (Qyq o):=by
 intro p0 o h;unfold Q4a at h;refine PCall.ofM mixed tbOk Qacs Tryz.func178 rfl (by kernel_rfl) (Nat.le_of_ble_eq_true rfl) ?_;refine Qan (t:=Qyq) h ?_;exact .refl _
def Q16 (p0:Int):Option (Bool) :=
 ( if(decide (p0 >= 0)) then
   if(decide (p0<=1114111)) then
    if(decide (p0<55296)) then
     some true
    else
     some (decide (p0>57343))
   else
    some false
  else
   some false:Option (Bool))>>=λo1 =>
 some o1
theorem Qafa:∀ (p0:Int) (o:Bool),Q16 p0=some o->PCall Tryz.prog 188 [nV .i32 p0] (Q35 o):=by
 intro p0 o h;unfold Q16 at h;refine PCall.ofY Qae2 Tryz.func188 ?_;refine Qaj h (λo1 ho hk=>?_);refine Exists.intro (JP1 _ _ o1 .normal (Q9n )) (And.intro ?_ (Qa5 ?_))
 .have h:=ho;refine Qae h (λhb h=>?_) (λhb h=>?_)
  .refine Qae h (λhb h=>?_) (λhb h=>?_)
   .refine Qae h (λhb h=>?_) (λhb h=>?_)
    .exact JP1.a h (Le.ty 0 0)
    .exact JP1.a h (Le.ty 0 0)
   .exact JP1.a h (Le.ty 0 0)
  .refine bF ?_;exact JP1.a h (Le.ty 0 0)
 .have h:=hk;refine Qan (t:=Q35) h ?_;exact .refl _
def Qg3 (p0:(List UInt8)) (p2:Int) (v1:Int) (v14:Int):Option (Int⊕Unit) :=
 if(decide (v14<p2)) then
  idx p0 v14>>=λx4 =>
  if((bits .and .u8 (x4.toNat:Int) 192) != 128) then
   some (.inr ())
  else
   idx p0 v14>>=λx5 =>
   Qg3 p0 p2 (bits .or .i32 (IntKind.i32.wrap (v1*2 ^ (min (6:Int).toNat (IntKind.i32.bits)))) (IntKind.i32.wrap (bits .and .u8 (x5.toNat:Int) 63))) (wr (v14+1))
 else
  some (.inl v1)
 partial_fixpoint
theorem Qafb:∀ (p0:(List UInt8)) (p2:Int),(∀ (v1:Int) (v14:Int) (o1:Int⊕Unit),Qg3 p0 p2 v1 v14=some o1->TL (0,0) Tryz.prog 32 Q36 (JP2 (0,0) 32 o1 (.exit 0) (Qsc p0 p2) .ret (Qsd p0 p2)) (Qm1 p0 p2 v1 v14)):=by
 intro p0 p2;refine Qg3.partial_correctness p0 p2 _ ?_;intro Qg3' iQg3 v1 v14 o1 h;refine TL.round (Qaq mixed tbOk (lv:=Qyr) _ _ _ ?_);refine Qae h (λhb h=>?_) (λhb h=>?_)
 .refine Qdy h (λx4 hi h=>?_);refine Qae h (λhb h=>?_) (λhb h=>?_)
  .exact JP2.b h (Le.ty 0 0)
  .refine And.intro (by decide) ?_;refine Qdy h (λx5 hi h=>?_);refine vrfl ?_;refine TL.le (τ := Qm1 p0 p2 (bits .or .i32 (IntKind.i32.wrap (v1*2 ^ (min (6:Int).toNat (IntKind.i32.bits)))) (IntKind.i32.wrap (bits .and .u8 (x5.toNat:Int) 63))) (wr (v14+1))) ?_ ((iQg3 (bits .or .i32 (IntKind.i32.wrap (v1*2 ^ (min (6:Int).toNat (IntKind.i32.bits)))) (IntKind.i32.wrap (bits .and .u8 (x5.toNat:Int) 63))) (wr (v14+1)) _ h));exact Le.ty 0 0
 .exact JP2.a h (Le.ty 0 0)
def Qrb (p0:(List UInt8)) (p1:Int) (p2:Int):Option (Int×Bool) :=
 if(decide ((p0.length:Int)<p2)) then
  some (0,false)
 else
  (Qg3 p0 p2 p1 0)>>=λo1 =>
  match o1 with
  | .inl y2 =>
   some (y2,true)
  | .inr y3 =>
   some (0,false)
theorem Q9r:∀ (p0:(List UInt8)) (p1:Int) (p2:Int) (o:Int×Bool),Qrb p0 p1 p2=some o->PCall Tryz.prog 187 [sV p0,nV .i32 p1,iV p2] (Qnl o):=by
 intro p0 p1 p2 o h;unfold Qrb at h;refine PCall.ofY Qyr Tryz.func187 ?_;refine vrfl ?_;refine Qae h (λhb h=>?_) (λhb h=>?_)
 .refine Qan (t:=Qnl) h ?_;exact .refl _
 .refine Qaj h (λo1 ho hk=>?_);refine Exists.intro (JP2 _ _ o1 (.exit 0) (Qsc p0 p2) .ret (Qsd p0 p2)) (And.intro (Qk4 (τ := Qm1 p0 p2 p1 0) ?_ (TL.loop (Qafb p0 p2 p1 0 o1 ho))) (Qke (λy2 hy=>?_) (λy3 hy=>?_)))
  .exact Le.ty 0 0
  .have h:=(by rw[hy] at hk; exact hk);refine Qan (t:=Qnl) h ?_;exact .refl _
  .have h:=(by rw[hy] at hk; exact hk);refine Qan (t:=Qnl) h ?_;exact .refl _
def Qtv (p0:(List UInt8)) (p1:Int):Option (Int×Int) :=
 ( if(decide (p1<0)) then
   some true
  else
   some (decide (p1 >= (p0.length:Int))):Option (Bool))>>=λo1 =>
 if o1 then
  some (0,0)
 else
  idx p0 p1>>=λx2 =>
  ( if(decide ((x2.toNat:Int)<128)) then
    some (.inr (IntKind.i32.wrap (x2.toNat:Int)))
   else
    ( if(decide ((x2.toNat:Int) >= 192)) then
      some (decide ((x2.toNat:Int)<224))
     else
      some false:Option (Bool))>>=λo6 =>
    if o6 then
     some (.inl ((IntKind.i32.wrap (bits .and .u8 (x2.toNat:Int) 31)),128,1))
    else
     ( if(decide ((x2.toNat:Int) >= 224)) then
       some (decide ((x2.toNat:Int)<240))
      else
       some false:Option (Bool))>>=λo7 =>
     if o7 then
      some (.inl ((IntKind.i32.wrap (bits .and .u8 (x2.toNat:Int) 15)),2048,2))
     else
      ( if(decide ((x2.toNat:Int) >= 240)) then
        some (decide ((x2.toNat:Int)<248))
       else
        some false:Option (Bool))>>=λo8 =>
      if o8 then
       some (.inl ((IntKind.i32.wrap (bits .and .u8 (x2.toNat:Int) 7)),65536,3))
      else
       some (.inr 65533):Option ((Int×Int×Int)⊕Int))>>=λo3 =>
  match o3 with
  | .inl y4 =>
   cutL p0 (wr (p1+1)) (p0.length:Int)>>=λx9 =>
   Qrb x9 y4.1 y4.2.2>>=λx10 =>
   ( if(!x10.2) then
     some true
    else
     if(decide (x10.1<y4.2.1)) then
      some true
     else
      Q16 x10.1>>=λx12 =>
      some (!x12):Option (Bool))>>=λo11 =>
   if o11 then
    some (65533,1)
   else
    some (x10.1,(wr (y4.2.2+1)))
  | .inr y5 =>
   some (y5,1)
theorem Q9s:∀ (p0:(List UInt8)) (p1:Int) (o:Int×Int),Qtv p0 p1=some o->PCall Tryz.prog 186 [sV p0,iV p1] (Qk7 o):=by
 intro p0 p1 o h;unfold Qtv at h;refine PCall.ofY Q9m Tryz.func186 ?_;refine Qaj h (λo1 ho hk=>?_);refine Exists.intro (JP1 _ _ o1 .normal (Q3y p0 p1)) (And.intro ?_ (Qa5 ?_))
 .have h:=ho;refine Qae h (λhb h=>?_) (λhb h=>?_)
  .exact JP1.a h (Le.ty 0 0)
  .refine vrfl ?_;exact JP1.a h (Le.ty 0 0)
 .have h:=hk;refine Qae h (λhb h=>?_) (λhb h=>?_)
  .refine Qan (t:=Qk7) h ?_;exact .refl _
  .refine Qdy h (λx2 hi h=>?_);refine Qaj h (λo3 ho hk=>?_);refine Exists.intro (JP2 _ _ o3 .normal (Q3z p0 p1) .ret (Q30 p0 p1)) (And.intro ?_ (Qke (λy4 hy=>?_) (λy5 hy=>?_)))
   .have h:=ho;refine Qae h (λhb h=>?_) (λhb h=>?_)
    .refine vrfl ?_;exact JP2.b h (Le.ty 0 0)
    .refine Qaj h (λo6 ho hk=>?_);refine Exists.intro (JP1 _ _ o6 .normal (Q31 p0 p1 x2)) (And.intro ?_ (Qa5 ?_))
     .have h:=ho;refine Qae h (λhb h=>?_) (λhb h=>?_)
      .exact JP1.a h (Le.ty 0 0)
      .exact JP1.a h (Le.ty 0 0)
     .have h:=hk;refine Qae h (λhb h=>?_) (λhb h=>?_)
      .refine vrfl ?_;exact JP2.a h (Le.ty 0 0)
      .refine Qaj h (λo7 ho hk=>?_);refine Exists.intro (JP1 _ _ o7 .normal (Q32 p0 p1 x2)) (And.intro ?_ (Qa5 ?_))
       .have h:=ho;refine Qae h (λhb h=>?_) (λhb h=>?_)
        .exact JP1.a h (Le.ty 0 0)
        .exact JP1.a h (Le.ty 0 0)
       .have h:=hk;refine Qae h (λhb h=>?_) (λhb h=>?_)
        .refine vrfl ?_;exact JP2.a h (Le.ty 0 0)
        .refine Qaj h (λo8 ho hk=>?_);refine Exists.intro (JP1 _ _ o8 .normal (Q33 p0 p1 x2)) (And.intro ?_ (Qa5 ?_))
         .have h:=ho;refine Qae h (λhb h=>?_) (λhb h=>?_)
          .exact JP1.a h (Le.ty 0 0)
          .exact JP1.a h (Le.ty 0 0)
         .have h:=hk;refine Qae h (λhb h=>?_) (λhb h=>?_)
          .refine vrfl ?_;exact JP2.a h (Le.ty 0 0)
          .exact JP2.b h (Le.ty 0 0)
   .have h:=(by rw[hy] at hk; exact hk);refine Qmr (some (wr (p1+1))) none h (λx9 hi h=>?_);refine Qas [sV x9,nV .i32 y4.1,iV y4.2.2] Qnl h (λx10 hy=>(Q9r x9 y4.1 y4.2.2 x10 hy)) (λx10 hy h=>?_);refine Qaj h (λo11 ho hk=>?_);refine Exists.intro (JP1 _ _ o11 .normal (Q34 y4 x10)) (And.intro ?_ (Qa5 ?_))
    .have h:=ho;refine Qae h (λhb h=>?_) (λhb h=>?_)
     .refine bT ?_;exact JP1.a h (Le.ty 0 0)
     .refine Qae h (λhb h=>?_) (λhb h=>?_)
      .exact JP1.a h (Le.ty 0 0)
      .refine Qas [nV .i32 x10.1] Q35 h (λx12 hy=>(Qafa x10.1 x12 hy)) (λx12 hy h=>?_);exact JP1.a h (Le.ty 0 0)
    .have h:=hk;refine Qae h (λhb h=>?_) (λhb h=>?_)
     .refine Qan (t:=Qk7) h ?_;exact .refl _
     .refine Qan (t:=Qk7) h ?_;exact .refl _
   .have h:=(by rw[hy] at hk; exact hk);refine Qan (t:=Qk7) h ?_;exact .refl _
def Qel (p0:(List UInt8)) (v3:Int):Option ((List (Int×Int))×(Unit)) :=
 if(decide (v3<(p0.length:Int))) then
  Qtv p0 v3>>=λx3 =>
  ( Qel p0 (wr (v3+x3.2)))>>=λq=>some ((x3.1,x3.2)::q.1,q.2)
 else
  some ([],())
 partial_fixpoint
theorem Qadg:∀ (p0:(List UInt8)),(∀ (v3:Int) (o2:(List (Int×Int))×(Unit)),Qel p0 v3=some o2->∀ (gxs gp gpost gq1:List (List V)),gxs=gp++(o2.1.map Qi0++gpost)->gxs=gq1++gpost->TL (0,1) Tryz.prog 24 Q0p (Qs (0,1) 24 gxs (JP1 (0,1) 24 o2.2 (.exit 0) (Qqf p0 gxs gq1))) (Qln p0 v3 gxs gp)):=by
 intro p0;refine Qel.partial_correctness p0 _ ?_;intro Qel' iQel v3 o2 h;intro gxs gp gpost gq1 hx hq;refine TL.round (Qaq mixed tbOk (lv:=Qvu) _ _ _ ?_);refine vrfl ?_;refine Qae h (λhb h=>?_) (λhb h=>?_)
 .refine Qas [sV p0,iV v3] Qk7 h (λx3 hy=>(Q9s p0 v3 x3 hy)) (λx3 hy h=>?_);refine Qaes (c:=Qi0) h hx (.refl _) (by exact rfl) (by exact rfl) (λ_ h hx=>?_) ?_
  .refine bF ?_;refine TL.le (τ := Qln p0 (wr (v3+x3.2)) gxs (gp++[Qi0 (x3.1,x3.2)])) ?_ ((iQel (wr (v3+x3.2)) _ h) _ _ _ _ hx hq);exact Le.ty 0 1
  .refine bT ?_;exact .inr ⟨rfl,_,(Le.env0 _).trans (Le.tow 0 1 rfl .nil (.refl _) rfl),rfl,rfl,rfl⟩
 .exact .inl (JP1.a (sndI h) (Le.tz 0 1 rfl rfl (Qag8 h hx hq rfl)))
def Qtw (p0:(List UInt8)):Option ((List (Int×Int))×Unit) :=
 ( Qel p0 0)>>=λo2=>(
  some ([],()))>>=λq=>some (o2.1++q.1,q.2)
theorem Q7f:∀ (p0:(List UInt8)) (o:(List (Int×Int))×Unit),Qtw p0=some o->∀ gxs:List (List V),gxs=o.1.map Qi0->IterOK Tryz.prog 185 [.ep [sV p0]] gxs:=by
 intro p0 o h;unfold Qtw at h;intro gxs hg;have hx:gxs=[]++(o.1.map Qi0++[]):=by simp[hg]
 refine IterOK.ofB mixed tbOk Qvu Tryz.func185 rfl (by kernel_rfl) (Nat.le_of_ble_eq_true rfl) rfl ?_;refine Qw6 h hx (λo2 lgq1 gq1 ho hk hxa hjgq1=>?_);refine Exists.intro (Qs _ _ gxs (JP1 _ _ o2.2 (.exit 0) (Qqf p0 gxs gq1))) (And.intro (Qk4 (τ := Qln p0 0 gxs ([]:List (List V))) ?_ (TL.loop ((Qadg p0 0 o2 ho) _ _ _ _ hxa hjgq1))) (Qag9 (Qa5 ?_) ?_))
 .exact Le.ty 0 1
 .have h:=hk;have hx:=hjgq1;exact Qaer h hx (.inl rfl) rfl
 .exact λs1 h1 h2 hs=>Qaa9 (.inr rfl) hs
def Q7g (p0:(List UInt8)):Option (Bool) :=
 Q4a p0>>=λx1 =>
 Qtw x1>>=λy5 =>
 (Qjx x1 y5.1)>>=λo6 =>
 match o6 with
 | .inl y7 =>
  some true
 | .inr y8 =>
  some false
theorem Qafc:∀ (p0:(List UInt8)) (o:Bool),Q7g p0=some o->PCall Tryz.prog 168 [sV p0] (Qw7 o):=by
 intro p0 o h;unfold Q7g at h;refine PCall.ofY Qyp Tryz.func168 ?_;refine Qas [sV p0] Qyq h (λx1 hy=>(Qacw p0 x1 hy)) (λx1 hy h=>?_);refine Qaj h (λy5 hy5 h=>?_);refine Qaj h (λo6 ho hk=>?_);refine Exists.intro (JP2 _ _ o6 .normal (Qvs x1) .ret (Qvt x1)) (And.intro (Qk4 (τ := Qma x1) ?_ (Q3a (g:=185) (cap:=[.ep [sV x1]]) rfl ((Q7f x1 y5 hy5) _ rfl) (Qu4 λ_=>rfl) rfl (Nat.le_of_ble_eq_true rfl) (Nat.le_of_ble_eq_true rfl) (Qahf x1 y5.1 o6 ho))) (Qke (λy7 hy=>?_) (λy8 hy=>?_)))
 .exact Le.ty 1 0
 .have h:=(by rw[hy] at hk; exact hk);refine Qan (t:=Qw7) h ?_;exact .refl _
 .have h:=(by rw[hy] at hk; exact hk);refine Qan (t:=Qw7) h ?_;exact .refl _
def Qjy (p0:(List UInt8)):Option ((List UInt8)×Bool) :=
 ( Q7g p0>>=λx2 =>
  if(!x2) then
   some true
  else
   Qgc p0 13>>=λx3 =>
   some (decide (x3 >= 0)):Option (Bool))>>=λo1 =>
 if o1 then
  some ([],false)
 else
  (Qc1 p0 [34] 0)>>=λo4 =>
  appL 1 o4 [34]>>=λx11 =>
  b2s x11>>=λx12 =>
  some (x12,true)
theorem Q7h:∀ (p0:(List UInt8)) (o:(List UInt8)×Bool),Qjy p0=some o->PCall Tryz.prog 154 [sV p0] (Qod o):=by
 intro p0 o h;unfold Qjy at h;refine PCall.ofY Qvr Tryz.func154 ?_;refine Qaj h (λo1 ho hk=>?_);refine Exists.intro (JP1 _ _ o1 .normal (Qz7 p0)) (And.intro ?_ (Qa5 ?_))
 .have h:=ho;refine Qas [sV p0] Qw7 h (λx2 hy=>(Qafc p0 x2 hy)) (λx2 hy h=>?_);refine Qae h (λhb h=>?_) (λhb h=>?_)
  .exact JP1.a h (Le.ty 0 0)
  .refine Qas [sV p0,nV .u8 13] Qg0 h (λx3 hy=>(Qrp p0 13 x3 hy)) (λx3 hy h=>?_);exact JP1.a h (Le.ty 0 0)
 .have h:=hk;refine Qae h (λhb h=>?_) (λhb h=>?_)
  .refine Qan (t:=Qod) h ?_;exact .refl _
  .refine vrfl ?_;refine Qaj h (λo4 ho hk=>?_);refine Exists.intro (JP1 _ _ o4 (.exit 0) (Qqa p0)) (And.intro (Qk4 (τ := Qeh p0 [34] 0) ?_ (TL.loop (Qadf p0 [34] 0 o4 ho))) (Qa5 ?_))
   .exact Le.trans (τ := ⟨[(0,.p (sV p0)),(4,.p (.sl true ([34].map (cNum .u8)))),(17,.p (iV (p0.length:Int))),(18,.p (iV 0))],⟨[],[]⟩⟩) (Le.ty 0 0) ((Le.ownW 4 5 1 rfl (Qu4 λ_=>rfl)).trans (Le.ty 0 1))
   have h:=hk;refine Qms (a:=o4) (b:=[34]) (c:=(cNum .u8)) h (.refl _) (λ_=>rfl) rfl (λx11 hi h=>?_);refine Qx7 (l:=x11) h (λx12 hi h=>?_);refine Qan (t:=Qod) h ?_;exact .refl _
def Qhg (p0:Qaa):Option (Qc8) :=
 some (Qc8.mk (!(p0.Name==[])) (!(p0.Text==[])) (p0.N != 0) (decide ((p0.Then.length:Int)>0)) (decide ((p0.Else.length:Int)>0)) (p0.L.length:Int))
theorem Qql:∀ (p0:Qaa) (o:Qc8),Qhg p0=some o->PCall Tryz.prog 126 [.agg [iV p0.Kind,sV p0.Name,sV p0.Text,iV p0.N,.sl false (p0.L.map Qab),.sl false (p0.Then.map Qab),.sl false (p0.Else.map Qab)]] (Qjf o):=by
 intro p0 o h;unfold Qhg at h;refine PCall.ofY Qyo Tryz.func126 ?_;refine view (Qcz _ _) rfl ?_;refine view (Qcz _ _) rfl ?_;refine view (Qcz _ _) rfl ?_;refine Qan (t:=Qjf) h ?_;exact .refl _
mutual
def Qa1 (p0:(List Qaa)):Option (Bool) :=
 Qbh p0>>=λx1 =>
 some (decide (x1 >= 0))
 partial_fixpoint
def Qbh (p0:(List Qaa)):Option (Int) :=
 (Qat p0 0)>>=λo1 =>
 match o1 with
 | .inl y2 =>
  some (-1)
 | .inr y3 =>
  some y3
 partial_fixpoint
def Qat (p0:(List Qaa)) (v8:Int):Option (Unit⊕Int) :=
 if(decide (v8<(p0.length:Int))) then
  idx p0 v8>>=λx4 =>
  Qsv x4>>=λx5 =>
  if x5 then
   some (.inr v8)
  else
   Qat p0 (wr (v8+1))
 else
  some (.inl ())
 partial_fixpoint
def Qsv (p0:Qaa):Option (Bool) :=
 Qfb p0>>=λx1 =>
 some (!x1)
 partial_fixpoint
def Qfb (p0:Qaa):Option (Bool) :=
 Qhg p0>>=λx1 =>
 if(p0.Kind==1) then
  Qjy p0.Text>>=λx2 =>
  ( if x2.2 then
    some ((x1.name_==false)&&((x1.text_==x1.text_)&&((x1.num_==false)&&((x1.then_==false)&&((x1.other_==false)&&((x1.l_==0)&&true))))))
   else
    some false:Option (Bool))>>=λo3 =>
  some o3
 else
  if(p0.Kind==2) then
   some ((x1.name_==false)&&((x1.text_==false)&&((x1.num_==x1.num_)&&((x1.then_==false)&&((x1.other_==false)&&((x1.l_==0)&&true))))))
  else
   if(p0.Kind==3) then
    ( if((bits .andNot .i64 p0.N 1)==0) then
      some ((x1.name_==false)&&((x1.text_==false)&&((x1.num_==x1.num_)&&((x1.then_==false)&&((x1.other_==false)&&((x1.l_==0)&&true))))))
     else
      some false:Option (Bool))>>=λo4 =>
    some o4
   else
    if(p0.Kind==4) then
     ( Qhw p0.Name>>=λx6 =>
      if x6 then
       some ((x1.name_==true)&&((x1.text_==false)&&((x1.num_==false)&&((x1.then_==false)&&((x1.other_==false)&&((x1.l_==0)&&true))))))
      else
       some false:Option (Bool))>>=λo5 =>
     some o5
    else
     if(p0.Kind==7) then
      ( Qok p0.Name>>=λx8 =>
       if x8 then
        some ((x1.name_==true)&&((x1.text_==false)&&((x1.num_==false)&&((x1.then_==false)&&((x1.other_==false)&&((x1.l_==0)&&true))))))
       else
        some false:Option (Bool))>>=λo7 =>
      some o7
     else
      if(p0.Kind==5) then
       ( Qok p0.Name>>=λx10 =>
        if x10 then
         if((x1.name_==true)&&((x1.text_==false)&&((x1.num_==false)&&((x1.then_==false)&&((x1.other_==false)&&((x1.l_==1)&&true)))))) then
          idx p0.L 0>>=λx11 =>
          Qfb x11>>=λx12 =>
          some x12
         else
          some false
        else
         some false:Option (Bool))>>=λo9 =>
       some o9
      else
       if(p0.Kind==6) then
        ( Qhw p0.Name>>=λx14 =>
         if x14 then
          if((x1.name_==true)&&((x1.text_==false)&&((x1.num_==false)&&((x1.then_==false)&&((x1.other_==false)&&((x1.l_==(if 3<x1.l_ then 3 else x1.l_))&&true)))))) then
           Qa1 p0.L>>=λx15 =>
           some (!x15)
          else
           some false
         else
          some false:Option (Bool))>>=λo13 =>
        some o13
       else
        some false
 partial_fixpoint
end
theorem Qdc:(∀ (p0:(List Qaa)) (o:Bool),Qa1 p0=some o->CallOK Tryz.prog 56 [.p (.sl false (p0.map Qab)),.fn (.func 155) [] []] ⟨[],[]⟩ (Qbv o) ⟨[],[]⟩)/\(∀ (p0:(List Qaa)) (o:Int),Qbh p0=some o->CallOK Tryz.prog 83 [.p (.sl false (p0.map Qab)),.fn (.func 155) [] []] ⟨[],[]⟩ (Qbd o) ⟨[],[]⟩)/\(∀ (p0:(List Qaa)) (v8:Int) (o1:Unit⊕Int),Qat p0 v8=some o1->TL (0,0) Tryz.prog 19 Qdn (JP2 (0,0) 19 o1 (.exit 0) (Qbr p0) .ret (Qbs p0)) (Qa7 p0 v8))/\(∀ (p0:Qaa) (o:Bool),Qsv p0=some o->PCall Tryz.prog 155 [.agg [iV p0.Kind,sV p0.Name,sV p0.Text,iV p0.N,.sl false (p0.L.map Qab),.sl false (p0.Then.map Qab),.sl false (p0.Else.map Qab)]] (Qog o))/\(∀ (p0:Qaa) (o:Bool),Qfb p0=some o->PCall Tryz.prog 128 [.agg [iV p0.Kind,sV p0.Name,sV p0.Text,iV p0.N,.sl false (p0.L.map Qab),.sl false (p0.Then.map Qab),.sl false (p0.Else.map Qab)]] (Qcv o)):=by
 refine Qa1.mutual_partial_correctness _ _ _ _ _ ?_ ?_ ?_ ?_ ?_
 .intro Qbh' iQbh p0 o h;refine CallOK.ofB mixed tbOk Qdi Tryz.func56 rfl (by kernel_rfl) (Nat.le_of_ble_eq_true rfl) rfl rfl rfl ?_;refine Qam _ _ h (λx1 hy=>((iQbh p0 x1 hy).fr [] [] rfl rfl rfl)) (λx1 hy h=>?_);refine Exists.intro _ (And.intro (Le.refl _ _ _) ?_);exact Qb2 (t:=Qbv) (ss:=λo=>⟨[],[]⟩) h ⟨[],rfl,.refl _,.refl _,rfl⟩
 .intro Qat' iQat p0 o h;refine CallOK.ofB mixed tbOk Qb4 Tryz.func83 rfl (by kernel_rfl) (Nat.le_of_ble_eq_true rfl) rfl rfl rfl ?_;refine view (Qcz _ _) rfl ?_;refine Qaj h (λo1 ho hk=>?_);refine Exists.intro (JP2 _ _ o1 (.exit 0) (Qbr p0) .ret (Qbs p0)) (And.intro (Qk4 (τ := Qa7 p0 0) ?_ (TL.loop (iQat p0 0 o1 ho))) (Qke (λy2 hy=>?_) (λy3 hy=>?_)))
  .exact Le.ty 0 0
  .have h:=(by rw[hy] at hk; exact hk);refine Exists.intro _ (And.intro (Le.refl _ _ _) ?_);exact Qb2 (t:=Qbd) (ss:=λo=>⟨[],[]⟩) h ⟨[],rfl,.refl _,.refl _,rfl⟩
  .have h:=(by rw[hy] at hk; exact hk);refine Exists.intro _ (And.intro (Le.refl _ _ _) ?_);exact Qb2 (t:=Qbd) (ss:=λo=>⟨[],[]⟩) h ⟨[],rfl,.refl _,.refl _,rfl⟩
 .intro Qat' Qsv' iQat iQsv p0 v8 o1 h;refine TL.round (Qaq mixed tbOk (lv:=Qb4) _ _ _ ?_);refine Qae h (λhb h=>?_) (λhb h=>?_)
  .refine Qbu (l:=p0) (c:=Qab) (c' := Qbn) h Qar (λ_=>rfl) (by decide) (λx4 hi h=>?_);refine Qas [.agg [iV x4.Kind,sV x4.Name,sV x4.Text,iV x4.N,.sl false (x4.L.map Qab),.sl false (x4.Then.map Qab),.sl false (x4.Else.map Qab)]] Qog h (λx5 hy=>(iQsv x4 x5 hy)) (λx5 hy h=>?_);refine Qae h (λhb h=>?_) (λhb h=>?_)
   .exact JP2.b h (Le.ty 0 0)
   .refine TL.le (τ := Qa7 p0 (wr (v8+1))) ?_ ((iQat p0 (wr (v8+1)) _ h));exact Le.ty 0 0
  .exact JP2.a h (Le.ty 0 0)
 .intro Qfb' iQfb p0 o h;refine PCall.ofY Q0i Tryz.func155 ?_;refine Qas [.agg [iV p0.Kind,sV p0.Name,sV p0.Text,iV p0.N,.sl false (p0.L.map Qab),.sl false (p0.Then.map Qab),.sl false (p0.Else.map Qab)]] Qcv h (λx1 hy=>(iQfb p0 x1 hy)) (λx1 hy h=>?_);refine Qan (t:=Qog) h ?_;exact .refl _
 .intro Qa1' Qfb' iQa1 iQfb p0 o h;refine PCall.ofY Q67 Tryz.func128 ?_;refine Qas [.agg [iV p0.Kind,sV p0.Name,sV p0.Text,iV p0.N,.sl false (p0.L.map Qab),.sl false (p0.Then.map Qab),.sl false (p0.Else.map Qab)]] Qjf h (λx1 hy=>(Qql p0 x1 hy)) (λx1 hy h=>?_);refine Qae h (λhb h=>?_) (λhb h=>?_)
  .refine Qas [sV p0.Text] Qod h (λx2 hy=>(Q7h p0.Text x2 hy)) (λx2 hy h=>?_);refine Qaj h (λo3 ho hk=>?_);refine Exists.intro (JP1 _ _ o3 .normal (Q0c p0 x1)) (And.intro ?_ (Qa5 ?_))
   .have h:=ho;refine Qae h (λhb h=>?_) (λhb h=>?_)
    .refine And.intro rfl ?_;exact JP1.a h (Le.ty 3 0)
    .exact JP1.a h (Le.ty 3 0)
   .have h:=hk;refine Qan (t:=Qcv) h ?_;exact .refl _
  .refine Qae h (λhb h=>?_) (λhb h=>?_)
   .refine And.intro rfl ?_;refine Qan (t:=Qcv) h ?_;exact .refl _
   .refine Qae h (λhb h=>?_) (λhb h=>?_)
    .refine Qaj h (λo4 ho hk=>?_);refine Exists.intro (JP1 _ _ o4 .normal (Q0d p0 x1)) (And.intro ?_ (Qa5 ?_))
     .have h:=ho;refine Qae h (λhb h=>?_) (λhb h=>?_)
      .refine And.intro rfl ?_;exact JP1.a h (Le.ty 3 0)
      .exact JP1.a h (Le.ty 3 0)
     .have h:=hk;refine Qan (t:=Qcv) h ?_;exact .refl _
    .refine Qae h (λhb h=>?_) (λhb h=>?_)
     .refine Qaj h (λo5 ho hk=>?_);refine Exists.intro (JP1 _ _ o5 .normal (Q0e p0 x1)) (And.intro ?_ (Qa5 ?_))
      .have h:=ho;refine Qas [sV p0.Name] Qfs h (λx6 hy=>(Qjw p0.Name x6 hy)) (λx6 hy h=>?_);refine Qae h (λhb h=>?_) (λhb h=>?_)
       .refine And.intro rfl ?_;exact JP1.a h (Le.ty 3 0)
       .exact JP1.a h (Le.ty 3 0)
      .have h:=hk;refine Qan (t:=Qcv) h ?_;exact .refl _
     .refine Qae h (λhb h=>?_) (λhb h=>?_)
      .refine Qaj h (λo7 ho hk=>?_);refine Exists.intro (JP1 _ _ o7 .normal (Q0f p0 x1)) (And.intro ?_ (Qa5 ?_))
       .have h:=ho;refine Qas [sV p0.Name] Qk6 h (λx8 hy=>(Qsu p0.Name x8 hy)) (λx8 hy h=>?_);refine Qae h (λhb h=>?_) (λhb h=>?_)
        .refine And.intro rfl ?_;exact JP1.a h (Le.ty 3 0)
        .exact JP1.a h (Le.ty 3 0)
       .have h:=hk;refine Qan (t:=Qcv) h ?_;exact .refl _
      .refine Qae h (λhb h=>?_) (λhb h=>?_)
       .refine Qaj h (λo9 ho hk=>?_);refine Exists.intro (JP1 _ _ o9 .normal (Q0g p0 x1)) (And.intro ?_ (Qa5 ?_))
        .have h:=ho;refine Qas [sV p0.Name] Qk6 h (λx10 hy=>(Qsu p0.Name x10 hy)) (λx10 hy h=>?_);refine Qae h (λhb h=>?_) (λhb h=>?_)
         .refine And.intro rfl ?_;refine Qae h (λhb h=>?_) (λhb h=>?_)
          .refine Qbu (l:=p0.L) (c:=Qab) (c' := Qbn) h Qar (λ_=>rfl) (by decide) (λx11 hi h=>?_);refine Qas [.agg [iV x11.Kind,sV x11.Name,sV x11.Text,iV x11.N,.sl false (x11.L.map Qab),.sl false (x11.Then.map Qab),.sl false (x11.Else.map Qab)]] Qcv h (λx12 hy=>(iQfb x11 x12 hy)) (λx12 hy h=>?_);exact JP1.a h (Le.ty 3 0)
          .exact JP1.a h (Le.ty 3 0)
         .refine bF ?_;exact JP1.a h (Le.ty 3 0)
        .have h:=hk;refine Qan (t:=Qcv) h ?_;exact .refl _
       .refine Qae h (λhb h=>?_) (λhb h=>?_)
        .refine Qaj h (λo13 ho hk=>?_);refine Exists.intro (JP1 _ _ o13 .normal (Q0h p0 x1)) (And.intro ?_ (Qa5 ?_))
         .have h:=ho;refine Qas [sV p0.Name] Qfs h (λx14 hy=>(Qjw p0.Name x14 hy)) (λx14 hy h=>?_);refine Qae h (λhb h=>?_) (λhb h=>?_)
          .refine And.intro rfl ?_;refine Qae h (λhb h=>?_) (λhb h=>?_)
           .refine Qam _ _ h (λx15 hy=>((iQa1 p0.L x15 hy).fr [] [] rfl rfl rfl)) (λx15 hy h=>?_);exact JP1.a h (Le.ty 3 0)
           .exact JP1.a h (Le.ty 3 0)
          .refine bF ?_;exact JP1.a h (Le.ty 3 0)
         .have h:=hk;refine Qan (t:=Qcv) h ?_;exact .refl _
        .refine Qan (t:=Qcv) h ?_;exact .refl _
theorem Q7i:∀ (p0:Qaa) (o:Bool),Qfb p0=some o->PCall Tryz.prog 128 [.agg [iV p0.Kind,sV p0.Name,sV p0.Text,iV p0.N,.sl false (p0.L.map Qab),.sl false (p0.Then.map Qab),.sl false (p0.Else.map Qab)]] (Qcv o):=λp0=>Qdc.2.2.2.2 p0
mutual
def Qhh (p0:(List Qaa)) (p1:Bool):Option (Bool) :=
 (Qgd p0 p1 0)>>=λo1 =>
 match o1 with
 | .inl y2 =>
  some true
 | .inr y3 =>
  some false
 partial_fixpoint
def Qgd (p0:(List Qaa)) (p1:Bool) (v10:Int):Option (Unit⊕Unit) :=
 if(decide (v10<(p0.length:Int))) then
  idx p0 v10>>=λx4 =>
  Qqm x4>>=λx5 =>
  if(!x5) then
   some (.inr ())
  else
   ( if(x4.Kind==8) then
     if(!(v10==(wr ((p0.length:Int)-1)))) then
      idx p0 (wr (v10+1))>>=λx7 =>
      if(x7.Kind==8) then
       some true
      else
       if(v10==(wr ((p0.length:Int)-1))) then
        if(!p1) then
         Qch x4.Text [123]>>=λx8 =>
         some x8
        else
         some false
       else
        Qch x4.Text [123]>>=λx9 =>
        some x9
     else
      if(v10==(wr ((p0.length:Int)-1))) then
       if(!p1) then
        Qch x4.Text [123]>>=λx10 =>
        some x10
       else
        some false
      else
       Qch x4.Text [123]>>=λx11 =>
       some x11
    else
     some false:Option (Bool))>>=λo6 =>
   if o6 then
    some (.inr ())
   else
    Qgd p0 p1 (wr (v10+1))
 else
  some (.inl ())
 partial_fixpoint
def Qqm (p0:Qaa):Option (Bool) :=
 Qhg p0>>=λx1 =>
 ( if(p0.Kind==8) then
   ( if((x1.name_==false)&&((x1.text_==true)&&((x1.num_==false)&&((x1.then_==false)&&((x1.other_==false)&&((x1.l_==0)&&true)))))) then
     Qfa p0.Text [123,123]>>=λx6 =>
     some (!x6)
    else
     some false:Option (Bool))>>=λo5 =>
   some (.inr o5)
  else
   if(p0.Kind==9) then
    some (.inl (false,false,false))
   else
    if(p0.Kind==10) then
     some (.inl (false,x1.then_,x1.other_))
    else
     ( if(p0.Kind==11) then
       some (p0.Kind==11)
      else
       some (p0.Kind==12):Option (Bool))>>=λo7 =>
     if o7 then
      Qhw p0.Name>>=λx8 =>
      some (.inl (x8,x1.then_,false))
     else
      if(p0.Kind==13) then
       Qhw p0.Name>>=λx9 =>
       some (.inl (x9,false,false))
      else
       some (.inr false):Option ((Bool×Bool×Bool)⊕Bool))>>=λo2 =>
 match o2 with
 | .inl y3 =>
  ( if(p0.Kind==11) then
    some true
   else
    if(p0.Kind==12) then
     some true
    else
     some (p0.Kind==13):Option (Bool))>>=λo10 =>
  ( if(y3.1==o10) then
    if((x1.name_==y3.1)&&((x1.text_==false)&&((x1.num_==false)&&((x1.then_==y3.2.1)&&((x1.other_==y3.2.2)&&((x1.l_==1)&&true)))))) then
     idx p0.L 0>>=λx12 =>
     Qfb x12>>=λx13 =>
     if x13 then
      Qhh p0.Then false>>=λx14 =>
      if x14 then
       Qhh p0.Else false>>=λx15 =>
       some x15
      else
       some false
     else
      some false
    else
     some false
   else
    some false:Option (Bool))>>=λo11 =>
  some o11
 | .inr y4 =>
  some y4
 partial_fixpoint
end
theorem Q0r:(∀ (p0:(List Qaa)) (p1:Bool) (o:Bool),Qhh p0 p1=some o->PCall Tryz.prog 72 [.sl false (p0.map Qab),bV p1] (Qft o))/\(∀ (p0:(List Qaa)) (p1:Bool) (v10:Int) (o1:Unit⊕Unit),Qgd p0 p1 v10=some o1->TL (0,0) Tryz.prog 52 Qyn (JP2 (0,0) 52 o1 (.exit 0) (Qo5 p0 p1) .ret (Qo6 p0 p1)) (Qkj p0 p1 v10))/\(∀ (p0:Qaa) (o:Bool),Qqm p0=some o->PCall Tryz.prog 97 [.agg [iV p0.Kind,sV p0.Name,sV p0.Text,iV p0.N,.sl false (p0.L.map Qab),.sl false (p0.Then.map Qab),.sl false (p0.Else.map Qab)]] (Qoh o)):=by
 refine Qhh.mutual_partial_correctness _ _ _ ?_ ?_ ?_
 .intro Qgd' iQgd p0 p1 o h;refine PCall.ofY Qts Tryz.func72 ?_;refine view (Qcz _ _) rfl ?_;refine Qaj h (λo1 ho hk=>?_);refine Exists.intro (JP2 _ _ o1 (.exit 0) (Qo5 p0 p1) .ret (Qo6 p0 p1)) (And.intro (Qk4 (τ := Qkj p0 p1 0) ?_ (TL.loop (iQgd p0 p1 0 o1 ho))) (Qke (λy2 hy=>?_) (λy3 hy=>?_)))
  .exact Le.ty 0 0
  .have h:=(by rw[hy] at hk; exact hk);refine Qan (t:=Qft) h ?_;exact .refl _
  .have h:=(by rw[hy] at hk; exact hk);refine Qan (t:=Qft) h ?_;exact .refl _
 .intro Qgd' Qqm' iQgd iQqm p0 p1 v10 o1 h;refine TL.round (Qaq mixed tbOk (lv:=Qts) _ _ _ ?_);refine Qae h (λhb h=>?_) (λhb h=>?_)
  .refine Qbu (l:=p0) (c:=Qab) (c' := Qbn) h Qar (λ_=>rfl) (by decide) (λx4 hi h=>?_);refine Qas [.agg [iV x4.Kind,sV x4.Name,sV x4.Text,iV x4.N,.sl false (x4.L.map Qab),.sl false (x4.Then.map Qab),.sl false (x4.Else.map Qab)]] Qoh h (λx5 hy=>(iQqm x4 x5 hy)) (λx5 hy h=>?_);refine Qae h (λhb h=>?_) (λhb h=>?_)
   .exact JP2.b h (Le.ty 0 0)
   .refine view (Qcz _ _) rfl ?_;refine Qaj h (λo6 ho hk=>?_);refine Exists.intro (JP1 _ _ o6 .normal (Qym p0 p1 v10 x4)) (And.intro ?_ (Qa5 ?_))
    .have h:=ho;refine Qae h (λhb h=>?_) (λhb h=>?_)
     .refine Qae h (λhb h=>?_) (λhb h=>?_)
      .refine Qbu (l:=p0) (c:=Qab) (c' := Qbn) h Qar (λ_=>rfl) (by decide) (λx7 hi h=>?_);refine Qae h (λhb h=>?_) (λhb h=>?_)
       .exact JP1.a h (Le.ty 1 0)
       .refine Qae h (λhb h=>?_) (λhb h=>?_)
        .refine Qae h (λhb h=>?_) (λhb h=>?_)
         .refine Qas [sV x4.Text,sV [123]] Qcu h (λx8 hy=>(Qeg x4.Text [123] x8 hy)) (λx8 hy h=>?_);exact JP1.a h (Le.ty 1 0)
         .exact JP1.a h (Le.ty 1 0)
        .refine bT ?_;refine Qas [sV x4.Text,sV [123]] Qcu h (λx9 hy=>(Qeg x4.Text [123] x9 hy)) (λx9 hy h=>?_);exact JP1.a h (Le.ty 1 0)
      .refine bF ?_;refine Qae h (λhb h=>?_) (λhb h=>?_)
       .refine Qae h (λhb h=>?_) (λhb h=>?_)
        .refine Qas [sV x4.Text,sV [123]] Qcu h (λx10 hy=>(Qeg x4.Text [123] x10 hy)) (λx10 hy h=>?_);exact JP1.a h (Le.ty 1 0)
        .exact JP1.a h (Le.ty 1 0)
       .refine bT ?_;refine Qas [sV x4.Text,sV [123]] Qcu h (λx11 hy=>(Qeg x4.Text [123] x11 hy)) (λx11 hy h=>?_);exact JP1.a h (Le.ty 1 0)
     .exact JP1.a h (Le.ty 1 0)
    .have h:=hk;refine Qae h (λhb h=>?_) (λhb h=>?_)
     .exact JP2.b h (Le.ty 0 0)
     .refine TL.le (τ := Qkj p0 p1 (wr (v10+1))) ?_ ((iQgd p0 p1 (wr (v10+1)) _ h));exact Le.ty 0 0
  .exact JP2.a h (Le.ty 0 0)
 .intro Qhh' iQhh p0 o h;refine PCall.ofY Q68 Tryz.func97 ?_;refine Qas [.agg [iV p0.Kind,sV p0.Name,sV p0.Text,iV p0.N,.sl false (p0.L.map Qab),.sl false (p0.Then.map Qab),.sl false (p0.Else.map Qab)]] Qjf h (λx1 hy=>(Qql p0 x1 hy)) (λx1 hy h=>?_);refine Qaj h (λo2 ho hk=>?_);refine Exists.intro (JP2 _ _ o2 .normal (Q0j p0 x1) .ret (Q0k p0 x1)) (And.intro ?_ (Qke (λy3 hy=>?_) (λy4 hy=>?_)))
  .have h:=ho;refine Qae h (λhb h=>?_) (λhb h=>?_)
   .refine Qaj h (λo5 ho hk=>?_);refine Exists.intro (JP1 _ _ o5 .normal (Q0l p0 x1)) (And.intro ?_ (Qa5 ?_))
    .have h:=ho;refine And.intro rfl ?_;refine Qae h (λhb h=>?_) (λhb h=>?_)
     .refine Qas [sV p0.Text,sV [123,123]] Qhr h (λx6 hy=>(Qst p0.Text [123,123] x6 hy)) (λx6 hy h=>?_);exact JP1.a h (Le.ty 3 0)
     .exact JP1.a h (Le.ty 3 0)
    .have h:=hk;exact JP2.b h (Le.ty 3 0)
   .refine Qae h (λhb h=>?_) (λhb h=>?_)
    .exact JP2.a h (Le.ty 3 0)
    .refine Qae h (λhb h=>?_) (λhb h=>?_)
     .refine And.intro (by decide +kernel) (And.intro rfl ?_);exact JP2.a h (Le.ty 3 0)
     .refine Qaj h (λo7 ho hk=>?_);refine Exists.intro (JP1 _ _ o7 .normal (Q0m p0 x1)) (And.intro ?_ (Qa5 ?_))
      .have h:=ho;refine Qae h (λhb h=>?_) (λhb h=>?_)
       .exact JP1.a h (Le.ty 3 0)
       .exact JP1.a h (Le.ty 3 0)
      .have h:=hk;refine Qae h (λhb h=>?_) (λhb h=>?_)
       .refine And.intro (by decide +kernel) (And.intro rfl ?_);refine Qda [sV p0.Name] Qfs h (λx8 hy=>(Qjw p0.Name x8 hy)) (λx8 hy h=>?_);exact JP2.a h (Le.ty 3 0)
       .refine Qae h (λhb h=>?_) (λhb h=>?_)
        .refine Qas [sV p0.Name] Qfs h (λx9 hy=>(Qjw p0.Name x9 hy)) (λx9 hy h=>?_);exact JP2.a h (Le.ty 3 0)
        .exact JP2.b h (Le.ty 3 0)
  .have h:=(by rw[hy] at hk; exact hk);refine Qaj h (λo10 ho hk=>?_);refine Exists.intro (JP1 _ _ o10 .normal (Q0n p0 x1 y3)) (And.intro ?_ (Qa5 ?_))
   .have h:=ho;refine Qae h (λhb h=>?_) (λhb h=>?_)
    .refine bT ?_;exact JP1.a h (Le.ty 3 0)
    .refine Qae h (λhb h=>?_) (λhb h=>?_)
     .exact JP1.a h (Le.ty 3 0)
     .exact JP1.a h (Le.ty 3 0)
   .have h:=hk;refine Qaj h (λo11 ho hk=>?_);refine Exists.intro (JP1 _ _ o11 .normal (Q0o p0 x1 y3)) (And.intro ?_ (Qa5 ?_))
    .have h:=ho;refine Qae h (λhb h=>?_) (λhb h=>?_)
     .refine And.intro rfl ?_;refine Qae h (λhb h=>?_) (λhb h=>?_)
      .refine Qbu (l:=p0.L) (c:=Qab) (c' := Qbn) h Qar (λ_=>rfl) (by decide) (λx12 hi h=>?_);refine Qas [.agg [iV x12.Kind,sV x12.Name,sV x12.Text,iV x12.N,.sl false (x12.L.map Qab),.sl false (x12.Then.map Qab),.sl false (x12.Else.map Qab)]] Qcv h (λx13 hy=>(Q7i x12 x13 hy)) (λx13 hy h=>?_);refine Qae h (λhb h=>?_) (λhb h=>?_)
       .refine Qas [.sl false (p0.Then.map Qab),bV false] Qft h (λx14 hy=>(iQhh p0.Then false x14 hy)) (λx14 hy h=>?_);refine Qae h (λhb h=>?_) (λhb h=>?_)
        .refine Qas [.sl false (p0.Else.map Qab),bV false] Qft h (λx15 hy=>(iQhh p0.Else false x15 hy)) (λx15 hy h=>?_);exact JP1.a h (Le.ty 3 0)
        .exact JP1.a h (Le.ty 3 0)
       .refine bF ?_;exact JP1.a h (Le.ty 3 0)
      .refine bF ?_;refine bF ?_;exact JP1.a h (Le.ty 3 0)
     .refine bF ?_;refine bF ?_;refine bF ?_;exact JP1.a h (Le.ty 3 0)
    .have h:=hk;refine Qan (t:=Qoh) h ?_;exact .refl _
  .have h:=(by rw[hy] at hk; exact hk);refine Qan (t:=Qoh) h ?_;exact .refl _
theorem Q4b:∀ (p0:(List Qaa)) (p1:Bool) (o:Bool),Qhh p0 p1=some o->PCall Tryz.prog 72 [.sl false (p0.map Qab),bV p1] (Qft o):=λp0 p1=>Q0r.1 p0 p1
def Qyw (p0:(List Qaa)):Option (Bool) :=
 ( Qqk p0>>=λx2 =>
  if(decide (x2<=12)) then
   Qno p0>>=λx3 =>
   if(decide (x3<=1024)) then
    Qhh p0 true>>=λx4 =>
    some x4
   else
    some false
  else
   some false:Option (Bool))>>=λo1 =>
 some o1
theorem Qacx:∀ (p0:(List Qaa)) (o:Bool),Qyw p0=some o->PCall Tryz.prog 38 [.sl false (p0.map Qab)] (Qyj o):=by
 intro p0 o h;unfold Qyw at h;refine PCall.ofY Qacr Tryz.func38 ?_;refine Qaj h (λo1 ho hk=>?_);refine Exists.intro (JP1 _ _ o1 .normal (Q65 )) (And.intro ?_ (Qa5 ?_))
 .have h:=ho;refine Qas [.sl false (p0.map Qab)] Qsp h (λx2 hy=>(Q7e p0 x2 hy)) (λx2 hy h=>?_);refine Qae h (λhb h=>?_) (λhb h=>?_)
  .refine Qas [.sl false (p0.map Qab)] Qqc h (λx3 hy=>(Q38 p0 x3 hy)) (λx3 hy h=>?_);refine Qae h (λhb h=>?_) (λhb h=>?_)
   .refine Qas [.sl false (p0.map Qab),bV true] Qft h (λx4 hy=>(Q4b p0 true x4 hy)) (λx4 hy h=>?_);exact JP1.a h (Le.ty 0 0)
   .exact JP1.a h (Le.ty 0 0)
  .refine bF ?_;exact JP1.a h (Le.ty 0 0)
 .have h:=hk;refine Qan (t:=Qyj) h ?_;exact .refl _
def Qd8 (p0:(List Qad)) (v22:Int):Option (Unit⊕((List UInt8)×Int)) :=
 if(decide (v22<(p0.length:Int))) then
  idx p0 v22>>=λx4 =>
  ( Qhw x4.Name>>=λx6 =>
   if(!x6) then
    some true
   else
    Qyw x4.L>>=λx7 =>
    some (!x7):Option (Bool))>>=λo5 =>
  if o5 then
   some (.inr (x4.Name,7))
  else
   cutL p0 0 v22>>=λx8 =>
   Qi2 x8 x4.Name>>=λx9 =>
   if x9.2 then
    some (.inr (x4.Name,9))
   else
    Qd8 p0 (wr (v22+1))
 else
  some (.inl ())
 partial_fixpoint
end Go.Proofs.YtfgegilhjlnohaaGreat
end
