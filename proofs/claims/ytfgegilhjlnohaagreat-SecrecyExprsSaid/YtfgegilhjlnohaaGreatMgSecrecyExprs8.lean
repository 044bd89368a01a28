/- The proof's texts, part 8 of 12: the walks by a logic in which data are by value, the plain laws, and at the end the law, for every input. -/
import Derived.Test.YtfgegilhjlnohaaGreatMgSecrecyExprs7

noncomputable section
set_option linter.unusedVariables false
set_option linter.unusedSimpArgs false
set_option maxRecDepth 100000
set_option maxHeartbeats 4000000
namespace Go.Proofs.YtfgegilhjlnohaaGreat
open Go.RowKit
structure Qab where
 Kind:Int
 Name:(List UInt8)
 Text:(List UInt8)
 N:Int
 L:(List Qab)
 Then:(List Qab)
 Else:(List Qab)
mutual
def Qaa:Qab→List V
 | ⟨x0,x1,x2,x3,x4,x5,x6⟩=>[iV x0,sV x1,sV x2,iV x3,.sl false (Qio x4),.sl false (Qio x5),.sl false (Qio x6)]
def Qio:List Qab→List (List V)
 | []=>[]
 | x::r=>Qaa x::Qio r
end
theorem Qpy:∀ l:List Qab,Qio l=l.map Qaa
 | []=>rfl
 | x::r=>by rw[Qio,Qpy r]; rfl
def Qa5 (x:Qab):List V:=[iV x.Kind,sV x.Name,sV x.Text,iV x.N,.sl false (x.L.map Qaa),.sl false (x.Then.map Qaa),.sl false (x.Else.map Qaa)]
theorem Qap(x:Qab):Qaa x=Qa5 x:=by cases x; simp[Qaa,Qa5,Qpy]
structure Qae where
 Name:(List UInt8)
 L:(List Qab)
def Qaj (x:Qae):List V:=[sV x.Name,.sl false (x.L.map Qaa)]
structure Qdi where
 name_:Bool
 text_:Bool
 num_:Bool
 then_:Bool
 other_:Bool
 l_:Int
def Qjp (y:Bool):D :=.p (bV y)
def Q2z:List (Nat×List Nat):=[(0,[0,1,2]),(1,[6]),(3000001,[])]
def Qx9  (o1:Bool):St:=⟨[(6,.p (bV o1))],⟨[],[]⟩⟩
def Qip (y:(List UInt8)):D :=.p (sV y)
def Q6i:List (Nat×List Nat):=[(0,[0]),(1,[0,5]),(2,[0]),(3,[0,7]),(4,[2]),(5,[0,13]),(6,[2]),(7,[0,25]),(8,[2]),(9,[2]),(2001005,[])]
def Qz0  (o1:Int):St:=⟨[(0,.p (iV o1))],⟨[],[]⟩⟩
def Qm7 (y:Int×Int):D :=.tup [.p (iV y.1),.p (iV y.2)]
def Qsm:List (Nat×List Nat):=[(0,[0,1]),(1,[0,1,17]),(2,[4,5]),(3,[0,1,6]),(4,[0,1,6,7]),(5,[0,1,6,7,28]),(6,[0,1,6,7]),(7,[0,1,6,7,8]),(8,[0,1,6,7,8,9]),(9,[0,1,6,7,8,9,42]),(10,[0,1,6,7,8,9]),(11,[0,1,6,7,8,9]),(12,[0,1,6,7,8,71]),(13,[4,5]),(14,[4,5]),(1000005,[0,1,6,7]),(1000009,[0,1,6,7,8,9]),(3000001,[]),(3000005,[]),(3000012,[])]
def Q20 (p0:(List UInt8)) (p1:Int) (o1:Bool):St:=⟨[(0,.p (sV p0)),(1,.p (iV p1)),(17,.p (bV o1))],⟨[],[]⟩⟩
def Q21 (p0:(List UInt8)) (p1:Int) (v6:(List Int)) (v7:Int) (o5:Bool):St:=⟨[(0,.p (sV p0)),(1,.p (iV p1)),(6,.p (.sl true (v6.map cInt))),(7,.p (iV v7)),(28,.p (bV o5))],⟨[],[]⟩⟩
def Qmk (p0:(List UInt8)) (p1:Int) (v6:(List Int)) (v7:Int) (v8:Int) (v9:Int):St:=⟨[(0,.p (sV p0)),(1,.p (iV p1)),(6,.p (.sl true (v6.map cInt))),(7,.p (iV v7)),(8,.p (iV v8)),(9,.p (iV v9))],⟨[],[]⟩⟩
def Qry (p0:(List UInt8)) (p1:Int) (v6:(List Int)) (v7:Int) (o8:Int):St:=⟨[(0,.p (sV p0)),(1,.p (iV p1)),(6,.p (.sl true (v6.map cInt))),(7,.p (iV v7)),(8,.p (iV o8))],⟨[],[]⟩⟩
def Q22:Code:=((Qa3 (Tryz.f171.body.getD .skip)).getD 1 .skip)
def Q23 (p0:(List UInt8)) (p1:Int) (v6:(List Int)) (v7:Int) (o8:Int) (o10:Bool):St:=⟨[(0,.p (sV p0)),(1,.p (iV p1)),(6,.p (.sl true (v6.map cInt))),(7,.p (iV v7)),(8,.p (iV o8)),(71,.p (bV o10))],⟨[],[]⟩⟩
def Qml (p0:(List UInt8)) (p1:Int) (v6:(List Int)) (v7:Int):St:=⟨[(0,.p (sV p0)),(1,.p (iV p1)),(6,.p (.sl true (v6.map cInt))),(7,.p (iV v7))],⟨[],[]⟩⟩
def Qrz (p0:(List UInt8)) (p1:Int) (y3:Unit):St:=⟨[],⟨[],[]⟩⟩
def Qr0 (p0:(List UInt8)) (p1:Int) (y4:Int×Int):St:=⟨[(4,.p (iV y4.1)),(5,.p (iV y4.2))],⟨[],[]⟩⟩
def Q24:Code:=((Qa3 (Tryz.f171.body.getD .skip)).getD 0 .skip)
def Qq9 (y:Bool):D :=.p (bV y)
def Q8v:List (Nat×List Nat):=[(0,[0]),(1,[2]),(3000001,[])]
def Q25  (o1:Bool):St:=⟨[(2,.p (bV o1))],⟨[],[]⟩⟩
def Qiq (y:Bool):D :=.p (bV y)
def Qya:List (Nat×List Nat):=[(0,[0]),(1,[0,17]),(2,[2]),(3,[0,3]),(4,[0,3,21]),(5,[0,3]),(6,[0,3,41]),(7,[2]),(8,[2]),(1000004,[0,3]),(3000001,[]),(3000006,[])]
def Q26 (p0:(List UInt8)) (o1:Bool):St:=⟨[(0,.p (sV p0)),(17,.p (bV o1))],⟨[],[]⟩⟩
def Q27 (p0:(List UInt8)) (v3:Int) (o7:Bool):St:=⟨[(0,.p (sV p0)),(3,.p (iV v3)),(41,.p (bV o7))],⟨[],[]⟩⟩
def Qmm (p0:(List UInt8)) (v3:Int):St:=⟨[(0,.p (sV p0)),(3,.p (iV v3))],⟨[],[]⟩⟩
def Qr1 (p0:(List UInt8)) (y5:Unit):St:=⟨[],⟨[],[]⟩⟩
def Qr2 (p0:(List UInt8)) (y6:Unit):St:=⟨[(2,.p (bV false))],⟨[],[]⟩⟩
def Q28:Code:=((Qa3 (Tryz.f77.body.getD .skip)).getD 0 .skip)
def Qir (y:Bool):D :=.p (bV y)
def Q6j:List (Nat×List Nat):=[(0,[0]),(1,[2]),(3000001,[])]
def Qz1  (o1:Bool):St:=⟨[(2,.p (bV o1))],⟨[],[]⟩⟩
def Qis (y:Bool):D :=.p (bV y)
def Q6k:List (Nat×List Nat):=[(0,[0]),(1,[2]),(3000001,[])]
def Qz2  (o1:Bool):St:=⟨[(2,.p (bV o1))],⟨[],[]⟩⟩
def Qg0 (y:Int):D :=.p (iV y)
def Qvp:List (Nat×List Nat):=[(0,[0]),(1,[0,3]),(2,[0,3,4]),(3,[0,3,4,8]),(4,[0,3,4]),(5,[0,3,4]),(6,[2]),(1000003,[0,3,4])]
def Qle (p0:(List Qab)) (v3:Int) (v4:Int):St:=⟨[(0,.p (.sl false (p0.map Qaa))),(3,.p (iV v3)),(4,.p (iV v4))],⟨[],[]⟩⟩
def Qpz (p0:(List Qab)) (o1:Int):St:=⟨[(3,.p (iV o1))],⟨[],[]⟩⟩
def Qz3:Code:=((Qa3 (Tryz.f80.body.getD .skip)).getD 0 .skip)
def Qit (y:Int):D :=.p (iV y)
def Qyb:List (Nat×List Nat):=[(0,[0]),(1,[0,3]),(2,[0,3,4]),(3,[0,3,4,8]),(4,[0,3,4]),(5,[0,3,4]),(6,[2]),(1000003,[0,3,4])]
def Qmn (p0:(List Qab)) (v3:Int) (v4:Int):St:=⟨[(0,.p (.sl false (p0.map Qaa))),(3,.p (iV v3)),(4,.p (iV v4))],⟨[],[]⟩⟩
def Qr3 (p0:(List Qab)) (o1:Int):St:=⟨[(3,.p (iV o1))],⟨[],[]⟩⟩
def Q29:Code:=((Qa3 (Tryz.f79.body.getD .skip)).getD 0 .skip)
def Qra (y:Bool):D :=.p (bV y)
def Qyc:List (Nat×List Nat):=[(0,[0]),(1,[0,3]),(2,[0,3,4]),(3,[0,3,4,9]),(4,[0,3,4]),(5,[0,3,4,17]),(6,[2]),(7,[2]),(1000003,[0,3,4])]
def Qmo (p0:(List UInt8)) (x1:(List (List UInt8))) (v4:Int):St:=⟨[(0,.p (sV p0)),(3,.p (.sl false (x1.map cStr))),(4,.p (iV v4))],⟨[],[]⟩⟩
def Qr4 (p0:(List UInt8)) (x1:(List (List UInt8))) (y3:Unit):St:=⟨[(0,.p (sV p0))],⟨[],[]⟩⟩
def Qr5 (p0:(List UInt8)) (x1:(List (List UInt8))) (y4:Unit):St:=⟨[(2,.p (bV false))],⟨[],[]⟩⟩
def Q3a:Code:=((Qa3 (Tryz.f43.body.getD .skip)).getD 0 .skip)
def Qsn (y:(List (List UInt8))):D :=.p (.sl false (y.map cStr))
def Q6l:List (Nat×List Nat):=[(0,[]),(1,[0])]
def Qeb (y:(List UInt8)×Int):D :=.tup [.p (sV y.1),.p (iV y.2)]
def Qgn:List (Nat×List Nat):=[(0,[0]),(1,[0,19]),(2,[2,3]),(3,[0,20,21,22]),(4,[0,20,21,22,23]),(5,[0,4,5,20,21,22]),(6,[0,4,5,20,21,22,36]),(7,[2,3]),(8,[0,5,7,20,21,22]),(9,[0,5,20,21,22,48]),(10,[2,3]),(11,[0,20,21,22]),(12,[0,8]),(13,[0,8,54,55,56]),(14,[0,8,54,55,56,57]),(15,[0,8,10,54,55,56]),(16,[0,8,10,54,55,56,64,65,66]),(17,[0,8,10,54,55,56,64,65,66,67]),(18,[0,8,10,12,54,55,56,64,65,66]),(19,[0,8,10,14,54,55,56,64,65,66]),(20,[0,8,10,54,55,56,64,65,66,78]),(21,[2,3]),(22,[0,8,10,54,55,56,64,65,66]),(23,[0,8,54,55,56]),(24,[8,83,84,85]),(25,[8,83,84,85,86]),(26,[8,16,83,84,85]),(27,[8,16,83,84,85,98]),(28,[2,3]),(29,[8,83,84,85]),(30,[2,3]),(1000004,[0,20,21,22]),(1000014,[0,8,54,55,56]),(1000017,[0,8,10,54,55,56,64,65,66]),(1000025,[8,83,84,85]),(3000006,[]),(5000027,[2005]),(9000016,[4,0,0,0]),(9000019,[3,0,0,0])]
def Qwc (p0:(List Qae)) (v22:Int) (x4:Qae) (o5:Bool):St:=⟨[(0,.p (.sl false (p0.map Qaj))),(4,.p (iV v22)),(5,.ptr 0 0),(20,.p (.sl false (p0.map Qaj))),(21,.p (iV (p0.length:Int))),(22,.p (iV v22)),(36,.p (bV o5))],⟨[[.p (sV x4.Name),.p (.sl false (x4.L.map Qaa))]],[]⟩⟩
def Qiu (p0:(List Qae)) (v22:Int):St:=⟨[(0,.p (.sl false (p0.map Qaj))),(20,.p (.sl false (p0.map Qaj))),(21,.p (iV (p0.length:Int))),(22,.p (iV v22))],⟨[],[]⟩⟩
def Qm8 (p0:(List Qae)) (y2:Unit):St:=⟨[(0,.p (.sl false (p0.map Qaj)))],⟨[],[]⟩⟩
def Qm9 (p0:(List Qae)) (y3:(List UInt8)×Int):St:=⟨[(2,.p (sV y3.1)),(3,.p (iV y3.2))],⟨[],[]⟩⟩
def Qwd:Code:=((Qa3 (Tryz.f13.body.getD .skip)).getD 0 .skip)
def Qiv (p0:(List Qae)) (x10:(List ((List UInt8)×(List (List UInt8))))) (v56:Int) (x14:Qae) (v66:Int):St:=⟨[(0,.p (.sl false (p0.map Qaj))),(8,.ptr 1 0),(10,.ptr 2 0),(54,.p (.sl false (p0.map Qaj))),(55,.p (iV (p0.length:Int))),(56,.p (iV v56)),(64,.p (.sl false (((mget (fun a b=>a==b) x14.Name x10).getD []).map cStr))),(65,.p (iV (((mget (fun a b=>a==b) x14.Name x10).getD []).length:Int))),(66,.p (iV v66))],⟨[[mpD sV (fun x =>.sl false (x.map cStr)) x10],[.mh 0],[.p (sV x14.Name),.p (.sl false (x14.L.map Qaa))]],[]⟩⟩
def Qna (p0:(List Qae)) (x10:(List ((List UInt8)×(List (List UInt8))))) (v56:Int) (x14:Qae) (y16:Unit):St:=⟨[(0,.p (.sl false (p0.map Qaj))),(8,.ptr 1 0),(54,.p (.sl false (p0.map Qaj))),(55,.p (iV (p0.length:Int))),(56,.p (iV v56))],⟨[[mpD sV (fun x =>.sl false (x.map cStr)) x10],[.mh 0],[.p (sV x14.Name),.p (.sl false (x14.L.map Qaa))]],[]⟩⟩
def Qnb (p0:(List Qae)) (x10:(List ((List UInt8)×(List (List UInt8))))) (v56:Int) (x14:Qae) (y17:Unit):St:=⟨[(2,.p (sV x14.Name)),(3,.p (iV 4))],⟨[[mpD sV (fun x =>.sl false (x.map cStr)) x10],[.mh 0],[.p (sV x14.Name),.p (.sl false (x14.L.map Qaa))]],[]⟩⟩
def Qwe:Code:=((Qa3 (Tryz.f13.body.getD .skip)).getD 2 .skip)
def Qiw (p0:(List Qae)) (x10:(List ((List UInt8)×(List (List UInt8))))) (v56:Int):St:=⟨[(0,.p (.sl false (p0.map Qaj))),(8,.ptr 1 0),(54,.p (.sl false (p0.map Qaj))),(55,.p (iV (p0.length:Int))),(56,.p (iV v56))],⟨[[mpD sV (fun x =>.sl false (x.map cStr)) x10],[.mh 0]],[]⟩⟩
def Qnc (p0:(List Qae)) (x10:(List ((List UInt8)×(List (List UInt8))))) (y12:Unit):St:=⟨[(0,.p (.sl false (p0.map Qaj))),(8,.ptr 1 0)],⟨[[mpD sV (fun x =>.sl false (x.map cStr)) x10],[.mh 0]],[]⟩⟩
def Qnd (p0:(List Qae)) (x10:(List ((List UInt8)×(List (List UInt8))))) (y13:(List UInt8)):St:=⟨[(2,.p (sV y13)),(3,.p (iV 4))],⟨[[mpD sV (fun x =>.sl false (x.map cStr)) x10],[.mh 0]],[]⟩⟩
def Qwf:Code:=((Qa3 (Tryz.f13.body.getD .skip)).getD 1 .skip)
def Qix (p0:(List Qae)) (x10:(List ((List UInt8)×(List (List UInt8))))) (v85:Int):St:=⟨[(8,.ptr 1 0),(83,.p (.sl false (p0.map Qaj))),(84,.p (iV (p0.length:Int))),(85,.p (iV v85))],⟨[[mpD sV (fun x =>.sl false (x.map cStr)) x10],[.mh 0]],[]⟩⟩
def Qne (p0:(List Qae)) (x10:(List ((List UInt8)×(List (List UInt8))))) (y20:Unit):St:=⟨[],⟨[[mpD sV (fun x =>.sl false (x.map cStr)) x10],[.mh 0]],[]⟩⟩
def Qnf (p0:(List Qae)) (x10:(List ((List UInt8)×(List (List UInt8))))) (y21:(List UInt8)):St:=⟨[(2,.p (sV y21)),(3,.p (iV 10))],⟨[[mpD sV (fun x =>.sl false (x.map cStr)) x10],[.mh 0]],[]⟩⟩
def Qwg:Code:=((Qa3 (Tryz.f13.body.getD .skip)).getD 3 .skip)
def Qes (y:(List Qab)×Bool):D :=.tup [.p (.sl false (y.1.map Qaa)),.p (bV y.2)]
def Qtn:List (Nat×List Nat):=[(0,[0,1]),(1,[1,8,9,10]),(2,[1,8,9,10,11]),(3,[1,7,8,9,10]),(4,[1,7,8,9,10,17]),(5,[4,5]),(6,[1,8,9,10]),(7,[4,5]),(1000002,[1,8,9,10])]
def Qj5 (p0:(List Qae)) (p1:(List UInt8)) (v10:Int):St:=⟨[(1,.p (sV p1)),(8,.p (.sl false (p0.map Qaj))),(9,.p (iV (p0.length:Int))),(10,.p (iV v10))],⟨[],[]⟩⟩
def Qos (p0:(List Qae)) (p1:(List UInt8)) (y2:Unit):St:=⟨[],⟨[],[]⟩⟩
def Qot (p0:(List Qae)) (p1:(List UInt8)) (y3:(List Qab)):St:=⟨[(4,.p (.sl false (y3.map Qaa))),(5,.p (bV true))],⟨[],[]⟩⟩
def Qyd:Code:=((Qa3 (Tryz.f39.body.getD .skip)).getD 0 .skip)
def Qp0 (y:(List (List UInt8))):D :=.p (.sl false (y.map cStr))
def Q3b:List (Nat×List Nat):=[(0,[0]),(1,[0,3]),(2,[0,3,4]),(3,[0,3,4]),(4,[3]),(5,[3]),(6,[2]),(9000005,[1,3,0,0]),(9000006,[1,0,0,0]),(9500004,[])]
def Qmp (_:(List (List UInt8))):D :=.tup []
def Qp1:List (Nat×List Nat):=[(0,[1,2,6,7,8]),(1,[1,2,6,7,8,9]),(2,[1,2,5,6,7,8]),(3,[1,2,5,6,7,8,14]),(4,[1,2,5,6,7,8]),(5,[1,2,5,6,7,8]),(6,[1,2,6,7,8]),(7,[1,2,6,7,8]),(1000001,[1,2,6,7,8]),(2003005,[]),(9000004,[4,0,0,0])]
def Qu7 (p0:(List Qab)) (v8:Int) (x2:Qab) (o3:(List (List UInt8))):St:=⟨[(1,.ptr 0 0),(2,.ptr 1 0),(5,.ptr 2 0),(6,.p (.sl false (p0.map Qaa))),(7,.p (iV (p0.length:Int))),(8,.p (iV v8))],⟨[[.x 0 (o3.length+1) (.sl 9 1 (o3.map cStr))],[.fn (.func 99) [] [.ptr 0 0,.ptr 1 0]],[.p (iV x2.Kind),.p (sV x2.Name),.p (sV x2.Text),.p (iV x2.N),.p (.sl false (x2.L.map Qaa)),.p (.sl false (x2.Then.map Qaa)),.p (.sl false (x2.Else.map Qaa))]],[(o3.length+1)]⟩⟩
def Qhk (p0:(List Qab)) (v8:Int) (h0_0_:(List (List UInt8))):St:=⟨[(1,.ptr 0 0),(2,.ptr 1 0),(6,.p (.sl false (p0.map Qaa))),(7,.p (iV (p0.length:Int))),(8,.p (iV v8))],⟨[[.x 0 (h0_0_.length+1) (.sl 9 1 (h0_0_.map cStr))],[.fn (.func 99) [] [.ptr 0 0,.ptr 1 0]]],[(h0_0_.length+1)]⟩⟩
def Ql4 (p0:(List Qab)) (o1:(List (List UInt8))):St:=⟨[],⟨[[.x 0 (o1.length+1) (.sl 9 1 (o1.map cStr))],[.fn (.func 99) [] [.ptr 0 0,.ptr 1 0]]],[(o1.length+1)]⟩⟩
def Qu8:Code:=((Qa3 (Tryz.f99.body.getD .skip)).getD 0 .skip)
def Qto (_:(List ((List UInt8)×(List (List UInt8))))):D :=.agg [.mh 0]
def Qr6:List (Nat×List Nat):=[(0,[0,2]),(1,[0,2,3]),(2,[2,3,10,11,12]),(3,[2,3,10,11,12,13]),(4,[2,3,5,10,11,12]),(5,[2,3,5,7,10,11,12]),(6,[2,3,5,10,11,12,25]),(7,[2,3,10,11,12]),(8,[2,3,10,11,12]),(9,[2]),(1000003,[2,3,10,11,12]),(9000001,[0,0,0,0]),(9000005,[4,0,0,0]),(9000007,[7,0,0,0]),(9800007,[7]),(7000007,[2,3,10,11,12,27,29,32])]
def Qf8 (p0:(List Qae)) (v12:Int) (h1_0:(List ((List UInt8)×(List (List UInt8))))):St:=⟨[(2,.ptr 0 0),(3,.ptr 2 0),(10,.p (.sl false (p0.map Qaj))),(11,.p (iV (p0.length:Int))),(12,.p (iV v12))],⟨[[.p (.v (.map none))],[mpD sV (fun x =>.sl false (x.map cStr)) h1_0],[.mh 1]],[]⟩⟩
def Qng (p0:(List Qae)) (o1:(List ((List UInt8)×(List (List UInt8))))):St:=⟨[(2,.ptr 0 0),(3,.ptr 2 0)],⟨[[.p (.v (.map none))],[mpD sV (fun x =>.sl false (x.map cStr)) o1],[.mh 1]],[]⟩⟩
def Qwh:Code:=((Qa3 (Tryz.f40.body.getD .skip)).getD 0 .skip)
def Qhl (y:(List (List UInt8))):D :=.p (.sl false (y.map cStr))
def Qev:List (Nat×List Nat):=[(0,[1,2]),(1,[1,2,5]),(2,[2,5,6]),(3,[2,5,6,15,16,17]),(4,[2,5,6,15,16,17,18]),(5,[2,5,6,8,15,16,17]),(6,[2,5,6,15,16,17]),(7,[2,5,6,15,16,17]),(8,[2,5,6,9]),(9,[2,5,6,9,27]),(10,[2,5,6,9]),(11,[2,5,6,9,36,37,38]),(12,[2,5,6,9,36,37,38,39]),(13,[2,5,6,9,11,36,37,38]),(14,[2,5,6,9,11,36,37,38,45]),(15,[2,5,6,9,11,36,37,38]),(16,[2,5,6,9,36,37,38]),(17,[2,5,6,9,36,37,38]),(18,[6]),(19,[4]),(1000004,[2,5,6,15,16,17]),(1000009,[2,5,6,9]),(1000012,[2,5,6,9,36,37,38]),(5000011,[2004,2005,2006]),(9000001,[0,0,0,0]),(9000003,[1,0,0,0]),(9000005,[0,0,0,0,1,0,0,0]),(9000006,[2,0,0,0]),(9000009,[2,0,0,0]),(9000014,[2,0,0,0]),(9000015,[2,0,0,0]),(9000016,[3,0,0,0]),(9000018,[1,1,6,0])]
def Qfh (h0_0:(List ((List UInt8)×(List (List UInt8))))) (x1:(List (List UInt8))) (v17:Int) (h2_0:(List ((List UInt8)×Int))):St:=⟨[(2,.ptr 1 0),(5,.mh 2),(6,.x 0 1 (.sl 9 1 (x1.map cStr))),(15,.x 0 1 (.sl 9 1 (x1.map cStr))),(16,.p (iV (x1.length:Int))),(17,.p (iV v17))],⟨[[mpD sV (fun x =>.sl false (x.map cStr)) h0_0],[.mh 0],[mpD sV iV h2_0]],[1]⟩⟩
def Qie (h0_0:(List ((List UInt8)×(List (List UInt8))))) (x1:(List (List UInt8))) (o2:(List ((List UInt8)×Int))):St:=⟨[(2,.ptr 1 0),(5,.mh 2),(6,.x 0 1 (.sl 9 1 (x1.map cStr)))],⟨[[mpD sV (fun x =>.sl false (x.map cStr)) h0_0],[.mh 0],[mpD sV iV o2]],[1]⟩⟩
def Qp2:Code:=((Qa3 (Tryz.f42.body.getD .skip)).getD 0 .skip)
def Qd5 (h0_0:(List ((List UInt8)×(List (List UInt8))))) (v9:Int) (x5:(List UInt8)) (v6_:(List (List UInt8))) (v38:Int) (h2_0_:(List ((List UInt8)×Int))):St:=⟨[(2,.ptr 1 0),(5,.mh 2),(6,.x 0 1 (.sl 9 1 (v6_.map cStr))),(9,.p (iV v9)),(36,.p (.sl false (((mget (fun a b=>a==b) x5 h0_0).getD []).map cStr))),(37,.p (iV (((mget (fun a b=>a==b) x5 h0_0).getD []).length:Int))),(38,.p (iV v38))],⟨[[mpD sV (fun x =>.sl false (x.map cStr)) h0_0],[.mh 0],[mpD sV iV h2_0_]],[1]⟩⟩
def Qif (h0_0:(List ((List UInt8)×(List (List UInt8))))) (v9:Int) (x5:(List UInt8)) (o6:(List (List UInt8))×(List ((List UInt8)×Int))):St:=⟨[(2,.ptr 1 0),(5,.mh 2),(6,.x 0 1 (.sl 9 1 (o6.1.map cStr))),(9,.p (iV v9))],⟨[[mpD sV (fun x =>.sl false (x.map cStr)) h0_0],[.mh 0],[mpD sV iV o6.2]],[1]⟩⟩
def Qp3:Code:=((Qa3 (Tryz.f42.body.getD .skip)).getD 2 .skip)
def Qfi (h0_0:(List ((List UInt8)×(List (List UInt8))))) (v6:(List (List UInt8))) (v9:Int) (h2_0:(List ((List UInt8)×Int))):St:=⟨[(2,.ptr 1 0),(5,.mh 2),(6,.x 0 1 (.sl 9 1 (v6.map cStr))),(9,.p (iV v9))],⟨[[mpD sV (fun x =>.sl false (x.map cStr)) h0_0],[.mh 0],[mpD sV iV h2_0]],[1]⟩⟩
def Qig (h0_0:(List ((List UInt8)×(List (List UInt8))))) (o4:(List (List UInt8))×(List ((List UInt8)×Int))):St:=⟨[(6,.x 0 1 (.sl 9 1 (o4.1.map cStr)))],⟨[[mpD sV (fun x =>.sl false (x.map cStr)) h0_0],[.mh 0],[mpD sV iV o4.2]],[1]⟩⟩
def Qp4:Code:=((Qa3 (Tryz.f42.body.getD .skip)).getD 1 .skip)
def Qcx (y:Bool):D :=.p (bV y)
def Qhm:List (Nat×List Nat):=[(0,[0,1]),(1,[4]),(3000001,[])]
def Qg1  (o1:Bool):St:=⟨[(4,.p (bV o1))],⟨[],[]⟩⟩
def Qfk (y:Int):D :=.p (iV y)
def Qek (y:Int):D :=.p (iV y)
def Qn8 (y:(List UInt8)×Bool):D :=.tup [.p (sV y.1),.p (bV y.2)]
def Qvq:List (Nat×List Nat):=[(0,[0]),(1,[0,14]),(2,[2,3]),(3,[0,4]),(4,[0,4,17,18]),(5,[0,4,17,18,19]),(6,[0,4,5,17,18]),(7,[0,4,6,17,18]),(8,[0,4,6,17,18,24]),(9,[0,4,17,18]),(10,[0,4,6,17,18,24,29]),(11,[0,4,17,18]),(12,[0,4,6,17,18,24,33]),(13,[0,4,17,18]),(14,[0,4,6,17,18,24,37]),(15,[0,4,6,17,18,37]),(16,[0,4,17,18]),(17,[0,4,17,18]),(18,[2,3]),(1000005,[0,4,17,18]),(2014005,[]),(3000001,[])]
def Qz4 (p0:(List UInt8)) (o1:Bool):St:=⟨[(0,.p (sV p0)),(14,.p (bV o1))],⟨[],[]⟩⟩
def Qz5 (p0:(List UInt8)) (v4:(List Int)) (v18:Int) (x5:UInt8) (o8:Bool):St:=⟨[(0,.p (sV p0)),(4,.own 0 1000005 1 (v4.map (cNum .u8))),(6,.p (nV .u8 (x5.toNat:Int))),(17,.p (iV (p0.length:Int))),(18,.p (iV v18)),(37,.p (bV o8))],⟨[],[(v4.map (cNum .u8)).length]⟩⟩
def Qeo (p0:(List UInt8)) (v4:(List Int)) (v18:Int):St:=⟨[(0,.p (sV p0)),(4,.own 0 1000005 1 (v4.map (cNum .u8))),(17,.p (iV (p0.length:Int))),(18,.p (iV v18))],⟨[],[(v4.map (cNum .u8)).length]⟩⟩
def Qp5 (p0:(List UInt8)) (o4:(List Int)):St:=⟨[(4,.own 0 1000005 1 (o4.map (cNum .u8)))],⟨[],[(o4.map (cNum .u8)).length]⟩⟩
def Qz6:Code:=((Qa3 (Tryz.f154.body.getD .skip)).getD 0 .skip)
def Qk1 (y:Bool):D :=.p (bV y)
def Qye:List (Nat×List Nat):=[(0,[0]),(1,[0,5,6]),(2,[0,5,6,7]),(3,[0,3,5,6]),(4,[0,5,6,13]),(5,[2]),(6,[0,5,6]),(7,[2]),(1000002,[0,5,6]),(3000007,[])]
def Qmq (p0:(List UInt8)) (v6:Int):St:=⟨[(0,.p (sV p0)),(5,.p (iV (p0.length:Int))),(6,.p (iV v6))],⟨[],[]⟩⟩
def Qr7 (p0:(List UInt8)) (y2:Unit):St:=⟨[(0,.p (sV p0))],⟨[],[]⟩⟩
def Qr8 (p0:(List UInt8)) (y3:Unit):St:=⟨[(2,.p (bV false))],⟨[],[]⟩⟩
def Q3c:Code:=((Qa3 (Tryz.f69.body.getD .skip)).getD 0 .skip)
def Q3d  (o6:Bool):St:=⟨[(2,.p (bV o6))],⟨[],[]⟩⟩
def Qn9 (y:Bool):D :=.p (bV y)
def Q6m:List (Nat×List Nat):=[(0,[0]),(1,[2]),(3000001,[])]
def Qz7  (o1:Bool):St:=⟨[(2,.p (bV o1))],⟨[],[]⟩⟩
def Qp6 (y:Bool):D :=.p (bV y)
def Q3e:List (Nat×List Nat):=[(0,[0]),(1,[2]),(3000001,[])]
def Qyf  (o1:Bool):St:=⟨[(2,.p (bV o1))],⟨[],[]⟩⟩
def Qck (y:(List Qab)×Int):D :=.tup [.p (.sl false (y.1.map Qaa)),.p (iV y.2)]
def Qko:List (Nat×List Nat):=[(0,[0,1,2]),(1,[0,1,2,8]),(2,[0,1,2,8,9]),(3,[0,1,2,8,9,24]),(4,[0,1,2,8,9]),(5,[0,1,2,8,9,10]),(6,[0,1,2,8,9,10]),(7,[0,1,2,8,9,10,11]),(8,[0,1,2,8,9,10,11]),(9,[0,1,2,8,9,10,11]),(10,[0,1,2,8,9,11]),(11,[0,1,2,8,9]),(12,[6,7]),(1000003,[0,1,2,8,9]),(3000003,[])]
def Qpc (p0:(List Qab)) (p1:Int) (v2:Int) (v8:(List Qab)) (v9:Int) (o2:Bool):St:=⟨[(0,.p (.sl false (p0.map Qaa))),(1,.p (iV p1)),(2,.p (iV v2)),(8,.own 0 38 7 (v8.map Qaa)),(9,.p (iV v9)),(24,.p (bV o2))],⟨[],[(v8.map Qaa).length]⟩⟩
def Qew (p0:(List Qab)) (p1:Int) (v2:Int) (v8:(List Qab)) (v9:Int):St:=⟨[(0,.p (.sl false (p0.map Qaa))),(1,.p (iV p1)),(2,.p (iV v2)),(8,.own 0 38 7 (v8.map Qaa)),(9,.p (iV v9))],⟨[],[(v8.map Qaa).length]⟩⟩
def Qhn (p0:(List Qab)) (p1:Int) (o1:Int×(List Qab)):St:=⟨[(2,.p (iV o1.1)),(8,.own 0 38 7 (o1.2.map Qaa))],⟨[],[(o1.2.map Qaa).length]⟩⟩
def Qpd:Code:=((Qa3 (Tryz.f22.body.getD .skip)).getD 0 .skip)
def Qdl (y:(List (List UInt8))):D :=.x 0 1 (.sl 9 1 (y.map cStr))
def Qj6:List (Nat×List Nat):=[(0,[0]),(1,[0,4]),(2,[2]),(3,[2]),(9000001,[1,0,0,0]),(9000003,[2,0,0,0])]
def Qbz (y:Bool):D :=.p (bV y)
def Qdr:List (Nat×List Nat):=[(0,[0,1]),(1,[4])]
def Qc3 (y:Bool):D :=.p (bV y)
def Qib:List (Nat×List Nat):=[(0,[0,1]),(1,[4])]
def Qbh (y:Int):D :=.p (iV y)
def Qb7:List (Nat×List Nat):=[(0,[0,1]),(1,[0,1,7,8]),(2,[0,1,7,8,9]),(3,[0,1,5,7,8]),(4,[0,1,5,7,8,16]),(5,[4]),(6,[0,1,7,8]),(7,[4]),(1000002,[0,1,7,8])]
def Qbd (p0:(List Qab)) (v8:Int):St:=⟨[(0,.p (.sl false (p0.map Qaa))),(1,.fn (.func 155) [] []),(7,.p (iV (p0.length:Int))),(8,.p (iV v8))],⟨[],[]⟩⟩
def Qbv (p0:(List Qab)) (y2:Unit):St:=⟨[],⟨[],[]⟩⟩
def Qbw (p0:(List Qab)) (y3:Int):St:=⟨[(4,.p (iV y3))],⟨[],[]⟩⟩
def Qdx:Code:=((Qa3 (Tryz.f83.body.getD .skip)).getD 0 .skip)
def Qcq (y:Int):D :=.p (iV y)
def Qe9:List (Nat×List Nat):=[(0,[0,1]),(1,[0,1,7,8]),(2,[0,1,7,8,9]),(3,[0,1,5,7,8]),(4,[0,1,5,7,8,16]),(5,[4]),(6,[0,1,7,8]),(7,[4]),(1000002,[0,1,7,8])]
def Qcy (p0:(List (List UInt8))) (p1:(List UInt8)) (v8:Int):St:=⟨[(0,.p (.sl false (p0.map cStr))),(1,.p (sV p1)),(7,.p (iV (p0.length:Int))),(8,.p (iV v8))],⟨[],[]⟩⟩
def Qel (p0:(List (List UInt8))) (p1:(List UInt8)) (y2:Unit):St:=⟨[],⟨[],[]⟩⟩
def Qem (p0:(List (List UInt8))) (p1:(List UInt8)) (y3:Int):St:=⟨[(4,.p (iV y3))],⟨[],[]⟩⟩
def Qiy:Code:=((Qa3 (Tryz.f74.body.getD .skip)).getD 0 .skip)
def Qho (y:Bool):D :=.p (bV y)
def Qso:List (Nat×List Nat):=[(0,[0,1]),(1,[4])]
def Qc4 (y:Bool):D :=.p (bV y)
def Qrl:List (Nat×List Nat):=[(0,[0,1]),(1,[4])]
def Qlf (y:Int):D :=.p (iV y)
def Qwi:List (Nat×List Nat):=[(0,[0,1]),(1,[4])]
def Qg2 (y:Int):D :=.p (iV y)
def Qrm:List (Nat×List Nat):=[(0,[0,1]),(1,[4])]
def Qp7 (y:Int):D :=.p (iV y)
def Qoa:List (Nat×List Nat):=[(0,[0]),(1,[0,3]),(2,[3,5]),(3,[3,5]),(4,[2]),(4000003,[3,5])]
def Qgv (x1:(List Qab)×Int) (h0_0:Int):St:=⟨[(3,.ptr 0 0),(5,.fn (.func 125) [] [.p (.ep [.sl false (x1.1.map Qaa)]),.p (.ep [iV x1.2])])],⟨[[.p (iV h0_0)]],[]⟩⟩
def Qou (x1:(List Qab)×Int) (o6:Int):St:=⟨[(3,.ptr 0 0),(5,.fn (.func 125) [] [.p (.ep [.sl false (x1.1.map Qaa)]),.p (.ep [iV x1.2])])],⟨[[.p (iV o6)]],[]⟩⟩
def Qlg:Code:=((Qa3 (Tryz.f71.body.getD .skip)).getD 0 .skip)
def Qsp (y:Int):D :=.p (iV y)
def Qp8:List (Nat×List Nat):=[(0,[0,5]),(1,[0,3,5]),(2,[3,5,7]),(3,[3,5,7]),(4,[3,5,7]),(5,[2]),(4000003,[3,5,7])]
def Qhp (x1:(List Qab)×Int) (h0_0:Int):St:=⟨[(3,.ptr 0 0),(7,.fn (.func 125) [] [.p (.ep [.sl false (x1.1.map Qaa)]),.p (.ep [iV x1.2])])],⟨[[.p (iV h0_0)]],[]⟩⟩
def Qp9 (x1:(List Qab)×Int) (o6:Int):St:=⟨[(3,.ptr 0 0),(7,.fn (.func 125) [] [.p (.ep [.sl false (x1.1.map Qaa)]),.p (.ep [iV x1.2])])],⟨[[.p (iV o6)]],[]⟩⟩
def Qmr:Code:=((Qa3 (Tryz.f70.body.getD .skip)).getD 0 .skip)
def Qyg (y:Bool):D :=.p (bV y)
def Qabw:List (Nat×List Nat):=[(0,[0]),(1,[2]),(3000001,[])]
def Q6n  (o1:Bool):St:=⟨[(2,.p (bV o1))],⟨[],[]⟩⟩
def Qfr (y:Bool):D :=.p (bV y)
def Q6o:List (Nat×List Nat):=[(0,[0]),(1,[0,3]),(2,[0,3,4]),(3,[0,3,4]),(4,[0,3,4]),(5,[0,3,4]),(6,[0,3,4]),(7,[0,3,4]),(8,[0,3,4]),(9,[0,3,4]),(10,[0,3,4]),(11,[0,4]),(12,[2]),(13,[2]),(2002037,[])]
def Qz8 (p0:(List UInt8)) (o1:Bool):St:=⟨[(0,.p (sV p0)),(4,.p (bV o1))],⟨[],[]⟩⟩
def Qnh (y:(List Qab)×Int):D :=.fn (.func 125) [] [.p (.ep [.sl false (y.1.map Qaa)]),.p (.ep [iV y.2])]
def Q8w:List (Nat×List Nat):=[(0,[2,3]),(1,[4])]
def Qcm (y:(Qab×Int)):List V:=[.agg [iV y.1.Kind,sV y.1.Name,sV y.1.Text,iV y.1.N,.sl false (y.1.L.map Qaa),.sl false (y.1.Then.map Qaa),.sl false (y.1.Else.map Qaa)],iV y.2]
def Qhq:List (Nat×List Nat):=[(0,[1,2,3,8,9]),(1,[2,3,8,9,10,11,12]),(2,[2,3,8,9,10,11,12,13]),(3,[2,3,5,8,9,10,11,12]),(4,[2,3,5,8,9,10,11,12,20]),(5,[2,3,8,9,10,11,12,27,28]),(6,[2,3,8,9,10,11,12,27,28,29]),(7,[2,3,7,8,9,10,11,12,27,28]),(8,[2,3,8,9,10,11,12,27,28,34]),(9,[2,3,8,10,11,12,27,28,34,36]),(10,[2,3,8,9,10,11,12,27,28,34]),(11,[2,3,8,9,10,11,12,27,28,34,41]),(12,[2,3,8,9,10,11,12,27,28]),(13,[2,3,8,9,10,11,12]),(1000002,[2,3,8,9,10,11,12]),(1000006,[2,3,8,9,10,11,12,27,28]),(4000009,[2,3,8,9,10,11,12,27,28,34])]
def Qgw (p0:(List Qab)) (p1:Int) (v12:Int) (x3:Qab) (v28:Int) (x7:(List Qab)×Int) (gxs gp:List (List V)):St:=⟨[(2,.p (.ep [iV p1])),(3,.ptr 0 0),(10,.p (.sl false (p0.map Qaa))),(11,.p (iV (p0.length:Int))),(12,.p (iV v12)),(27,.p (.agg [.sl false (x3.L.map Qaa),.sl false (x3.Then.map Qaa),.sl false (x3.Else.map Qaa)])),(28,.p (iV v28)),(34,.fn (.func 125) [] [.p (.ep [.sl false (x7.1.map Qaa)]),.p (.ep [iV x7.2])])],⟨[[.yld Tryz.prog 0 gxs],[.p (iV x3.Kind),.p (sV x3.Name),.p (sV x3.Text),.p (iV x3.N),.p (.sl false (x3.L.map Qaa)),.p (.sl false (x3.Then.map Qaa)),.p (.sl false (x3.Else.map Qaa))]],[gp.length]⟩⟩
def Qov (p0:(List Qab)) (p1:Int) (v12:Int) (x3:Qab) (v28:Int) (x7:(List Qab)×Int) (gxs:List (List V)) (gq12:List (List V)) (oy:Unit):St:=⟨[(2,.p (.ep [iV p1])),(3,.ptr 0 0),(10,.p (.sl false (p0.map Qaa))),(11,.p (iV (p0.length:Int))),(12,.p (iV v12)),(27,.p (.agg [.sl false (x3.L.map Qaa),.sl false (x3.Then.map Qaa),.sl false (x3.Else.map Qaa)])),(28,.p (iV v28)),(34,.fn (.func 125) [] [.p (.ep [.sl false (x7.1.map Qaa)]),.p (.ep [iV x7.2])])],⟨[[.yld Tryz.prog 0 gxs],[.p (iV x3.Kind),.p (sV x3.Name),.p (sV x3.Text),.p (iV x3.N),.p (.sl false (x3.L.map Qaa)),.p (.sl false (x3.Then.map Qaa)),.p (.sl false (x3.Else.map Qaa))]],[gq12.length]⟩⟩
def Qlh:Code:=((Qa3 (Tryz.f125.body.getD .skip)).getD 2 .skip)
def Qj7 (p0:(List Qab)) (p1:Int) (v12:Int) (x3:Qab) (v28:Int) (gxs gp:List (List V)):St:=⟨[(2,.p (.ep [iV p1])),(3,.ptr 0 0),(10,.p (.sl false (p0.map Qaa))),(11,.p (iV (p0.length:Int))),(12,.p (iV v12)),(27,.p (.agg [.sl false (x3.L.map Qaa),.sl false (x3.Then.map Qaa),.sl false (x3.Else.map Qaa)])),(28,.p (iV v28))],⟨[[.yld Tryz.prog 0 gxs],[.p (iV x3.Kind),.p (sV x3.Name),.p (sV x3.Text),.p (iV x3.N),.p (.sl false (x3.L.map Qaa)),.p (.sl false (x3.Then.map Qaa)),.p (.sl false (x3.Else.map Qaa))]],[gp.length]⟩⟩
def Qow (p0:(List Qab)) (p1:Int) (v12:Int) (x3:Qab) (gxs:List (List V)) (gq4:List (List V)) (oy:Unit):St:=⟨[(2,.p (.ep [iV p1])),(3,.ptr 0 0),(10,.p (.sl false (p0.map Qaa))),(11,.p (iV (p0.length:Int))),(12,.p (iV v12))],⟨[[.yld Tryz.prog 0 gxs],[.p (iV x3.Kind),.p (sV x3.Name),.p (sV x3.Text),.p (iV x3.N),.p (.sl false (x3.L.map Qaa)),.p (.sl false (x3.Then.map Qaa)),.p (.sl false (x3.Else.map Qaa))]],[gq4.length]⟩⟩
def Qyh:Code:=((Qa3 (Tryz.f125.body.getD .skip)).getD 1 .skip)
def Qj8 (p0:(List Qab)) (p1:Int) (v12:Int) (gxs gp:List (List V)):St:=⟨[(2,.p (.ep [iV p1])),(3,.ptr 0 0),(10,.p (.sl false (p0.map Qaa))),(11,.p (iV (p0.length:Int))),(12,.p (iV v12))],⟨[[.yld Tryz.prog 0 gxs]],[gp.length]⟩⟩
def Qox (p0:(List Qab)) (p1:Int) (gxs:List (List V)) (gq1:List (List V)) (oy:Unit):St:=⟨[],⟨[[.yld Tryz.prog 0 gxs]],[gq1.length]⟩⟩
def Qyi:Code:=((Qa3 (Tryz.f125.body.getD .skip)).getD 0 .skip)
def Qfs (y:Bool):D :=.p (bV y)
def Qtp:List (Nat×List Nat):=[(0,[0,1]),(1,[0,1,8,9,10]),(2,[0,1,8,9,10,11]),(3,[0,1,5,6,8,9,10]),(4,[0,1,5,6,8,9,10,17]),(5,[4]),(6,[0,1,5,6,7,8,9,10]),(7,[0,1,8,9,10,50]),(8,[4]),(9,[0,1,8,9,10]),(10,[4]),(1000002,[0,1,8,9,10]),(3000007,[])]
def Qyj (p0:(List Qab)) (p1:Bool) (v10:Int) (x4:Qab) (o6:Bool):St:=⟨[(0,.p (.sl false (p0.map Qaa))),(1,.p (bV p1)),(8,.p (.sl false (p0.map Qaa))),(9,.p (iV (p0.length:Int))),(10,.p (iV v10)),(50,.p (bV o6))],⟨[[.p (iV x4.Kind),.p (sV x4.Name),.p (sV x4.Text),.p (iV x4.N),.p (.sl false (x4.L.map Qaa)),.p (.sl false (x4.Then.map Qaa)),.p (.sl false (x4.Else.map Qaa))]],[]⟩⟩
def Qj9 (p0:(List Qab)) (p1:Bool) (v10:Int):St:=⟨[(0,.p (.sl false (p0.map Qaa))),(1,.p (bV p1)),(8,.p (.sl false (p0.map Qaa))),(9,.p (iV (p0.length:Int))),(10,.p (iV v10))],⟨[],[]⟩⟩
def Qoy (p0:(List Qab)) (p1:Bool) (y2:Unit):St:=⟨[],⟨[],[]⟩⟩
def Qoz (p0:(List Qab)) (p1:Bool) (y3:Unit):St:=⟨[(4,.p (bV false))],⟨[],[]⟩⟩
def Qyk:Code:=((Qa3 (Tryz.f72.body.getD .skip)).getD 0 .skip)
def Qc5 (y:Bool):D :=.p (bV y)
def Q6p:List (Nat×List Nat):=[(0,[1]),(1,[1,3]),(2,[1,3,4]),(3,[1,3,4,11]),(4,[1,3,4,11,12]),(5,[3,6]),(6,[2]),(7,[1,3,4,11,28]),(8,[2]),(9,[1,3,4,11,35]),(10,[2]),(11,[1,3,4,11,48]),(12,[2]),(13,[1,3,4,11,58]),(14,[2]),(15,[1,3,4,11,68]),(16,[1,3,4]),(17,[2]),(18,[1,3,4,86]),(19,[1,3,4]),(20,[2]),(21,[2]),(3000006,[]),(3000010,[]),(3000012,[]),(3000014,[]),(3000017,[]),(3000020,[])]
def Qz9 (p0:Qab) (x1:Qdi) (o3:Bool):St:=⟨[(2,.p (bV o3))],⟨[[.p (iV p0.Kind),.p (sV p0.Name),.p (sV p0.Text),.p (iV p0.N),.p (.sl false (p0.L.map Qaa)),.p (.sl false (p0.Then.map Qaa)),.p (.sl false (p0.Else.map Qaa))],[.p (bV x1.name_),.p (bV x1.text_),.p (bV x1.num_),.p (bV x1.then_),.p (bV x1.other_),.p (iV x1.l_)],[.p (bV true),.p (bV false),.p (bV false),.p (bV false),.p (bV false),.p (iV 0)]],[]⟩⟩
def Q0a (p0:Qab) (x1:Qdi) (o4:Bool):St:=⟨[(2,.p (bV o4))],⟨[[.p (iV p0.Kind),.p (sV p0.Name),.p (sV p0.Text),.p (iV p0.N),.p (.sl false (p0.L.map Qaa)),.p (.sl false (p0.Then.map Qaa)),.p (.sl false (p0.Else.map Qaa))],[.p (bV x1.name_),.p (bV x1.text_),.p (bV x1.num_),.p (bV x1.then_),.p (bV x1.other_),.p (iV x1.l_)],[.p (bV true),.p (bV false),.p (bV false),.p (bV false),.p (bV false),.p (iV 0)]],[]⟩⟩
def Q0b (p0:Qab) (x1:Qdi) (o5:Bool):St:=⟨[(2,.p (bV o5))],⟨[[.p (iV p0.Kind),.p (sV p0.Name),.p (sV p0.Text),.p (iV p0.N),.p (.sl false (p0.L.map Qaa)),.p (.sl false (p0.Then.map Qaa)),.p (.sl false (p0.Else.map Qaa))],[.p (bV x1.name_),.p (bV x1.text_),.p (bV x1.num_),.p (bV x1.then_),.p (bV x1.other_),.p (iV x1.l_)],[.p (bV true),.p (bV false),.p (bV false),.p (bV false),.p (bV false),.p (iV 0)]],[]⟩⟩
def Q0c (p0:Qab) (x1:Qdi) (o7:Bool):St:=⟨[(2,.p (bV o7))],⟨[[.p (iV p0.Kind),.p (sV p0.Name),.p (sV p0.Text),.p (iV p0.N),.p (.sl false (p0.L.map Qaa)),.p (.sl false (p0.Then.map Qaa)),.p (.sl false (p0.Else.map Qaa))],[.p (bV x1.name_),.p (bV x1.text_),.p (bV x1.num_),.p (bV x1.then_),.p (bV x1.other_),.p (iV x1.l_)],[.p (bV true),.p (bV false),.p (bV false),.p (bV false),.p (bV false),.p (iV 0)]],[]⟩⟩
def Q0d (p0:Qab) (x1:Qdi) (o9:Bool):St:=⟨[(2,.p (bV o9))],⟨[[.p (iV p0.Kind),.p (sV p0.Name),.p (sV p0.Text),.p (iV p0.N),.p (.sl false (p0.L.map Qaa)),.p (.sl false (p0.Then.map Qaa)),.p (.sl false (p0.Else.map Qaa))],[.p (bV x1.name_),.p (bV x1.text_),.p (bV x1.num_),.p (bV x1.then_),.p (bV x1.other_),.p (iV x1.l_)],[.p (bV true),.p (bV false),.p (bV false),.p (bV false),.p (bV false),.p (iV 1)]],[]⟩⟩
def Q0e (p0:Qab) (x1:Qdi) (o13:Bool):St:=⟨[(2,.p (bV o13))],⟨[[.p (iV p0.Kind),.p (sV p0.Name),.p (sV p0.Text),.p (iV p0.N),.p (.sl false (p0.L.map Qaa)),.p (.sl false (p0.Then.map Qaa)),.p (.sl false (p0.Else.map Qaa))],[.p (bV x1.name_),.p (bV x1.text_),.p (bV x1.num_),.p (bV x1.then_),.p (bV x1.other_),.p (iV x1.l_)],[.p (bV true),.p (bV false),.p (bV false),.p (bV false),.p (bV false),.p (iV (if 3<x1.l_ then 3 else x1.l_))]],[]⟩⟩
def Qob (y:Bool):D :=.p (bV y)
def Q0f:List (Nat×List Nat):=[(0,[1]),(1,[2])]
def Qjh (y:Qdi):D :=.p (.agg [bV y.name_,bV y.text_,bV y.num_,bV y.then_,bV y.other_,iV y.l_])
def Qyl:List (Nat×List Nat):=[(0,[1,2]),(1,[2])]
def Qoc (y:Bool):D :=.p (bV y)
def Q6q:List (Nat×List Nat):=[(0,[1]),(1,[1,3]),(2,[1,3,4]),(3,[1,3,4,10]),(4,[2]),(5,[1,3,4,10,11]),(6,[2]),(7,[1,3,4,10,22]),(8,[1,3,4,10,24]),(9,[1,3,4]),(10,[1,3,4,10,32]),(11,[1,3,4,10,32]),(12,[1,3,4]),(13,[1,3,4,42]),(14,[1,3,4]),(15,[1,3,4,5]),(16,[2]),(2003032,[]),(2010005,[]),(3000006,[]),(3000015,[]),(3000016,[]),(5000009,[1005,1007]),(5000012,[1006,1008]),(8000009,[2]),(8000012,[2])]
def Q0g (p0:Qab) (x1:Qdi) (y3:Bool×Bool×Bool):St:=⟨[(1,.ptr 0 0),(3,.ptr 1 0),(4,.ptr 2 0)],⟨[[.p (iV p0.Kind),.p (sV p0.Name),.p (sV p0.Text),.p (iV p0.N),.p (.sl false (p0.L.map Qaa)),.p (.sl false (p0.Then.map Qaa)),.p (.sl false (p0.Else.map Qaa))],[.p (bV x1.name_),.p (bV x1.text_),.p (bV x1.num_),.p (bV x1.then_),.p (bV x1.other_),.p (iV x1.l_)],[.p (bV y3.1),.p (bV false),.p (bV false),.p (bV y3.2.1),.p (bV y3.2.2),.p (iV 1)]],[]⟩⟩
def Q0h (p0:Qab) (x1:Qdi) (y4:Bool):St:=⟨[(2,.p (bV y4))],⟨[[.p (iV p0.Kind),.p (sV p0.Name),.p (sV p0.Text),.p (iV p0.N),.p (.sl false (p0.L.map Qaa)),.p (.sl false (p0.Then.map Qaa)),.p (.sl false (p0.Else.map Qaa))],[.p (bV x1.name_),.p (bV x1.text_),.p (bV x1.num_),.p (bV x1.then_),.p (bV x1.other_),.p (iV x1.l_)],[.p (bV false),.p (bV false),.p (bV false),.p (bV false),.p (bV false),.p (iV 1)]],[]⟩⟩
def Q0i (p0:Qab) (x1:Qdi) (o5:Bool):St:=⟨[(2,.p (bV o5))],⟨[[.p (iV p0.Kind),.p (sV p0.Name),.p (sV p0.Text),.p (iV p0.N),.p (.sl false (p0.L.map Qaa)),.p (.sl false (p0.Then.map Qaa)),.p (.sl false (p0.Else.map Qaa))],[.p (bV x1.name_),.p (bV x1.text_),.p (bV x1.num_),.p (bV x1.then_),.p (bV x1.other_),.p (iV x1.l_)],[.p (bV false),.p (bV false),.p (bV false),.p (bV false),.p (bV false),.p (iV 1)]],[]⟩⟩
def Q0j (p0:Qab) (x1:Qdi) (o7:Bool):St:=⟨[(1,.ptr 0 0),(3,.ptr 1 0),(4,.ptr 2 0),(10,.p (iV p0.Kind)),(32,.p (bV o7))],⟨[[.p (iV p0.Kind),.p (sV p0.Name),.p (sV p0.Text),.p (iV p0.N),.p (.sl false (p0.L.map Qaa)),.p (.sl false (p0.Then.map Qaa)),.p (.sl false (p0.Else.map Qaa))],[.p (bV x1.name_),.p (bV x1.text_),.p (bV x1.num_),.p (bV x1.then_),.p (bV x1.other_),.p (iV x1.l_)],[.p (bV false),.p (bV false),.p (bV false),.p (bV false),.p (bV false),.p (iV 1)]],[]⟩⟩
def Q0k (p0:Qab) (x1:Qdi) (y3:Bool×Bool×Bool) (o10:Bool):St:=⟨[(1,.ptr 0 0),(3,.ptr 1 0),(4,.ptr 2 0),(5,.p (bV o10))],⟨[[.p (iV p0.Kind),.p (sV p0.Name),.p (sV p0.Text),.p (iV p0.N),.p (.sl false (p0.L.map Qaa)),.p (.sl false (p0.Then.map Qaa)),.p (.sl false (p0.Else.map Qaa))],[.p (bV x1.name_),.p (bV x1.text_),.p (bV x1.num_),.p (bV x1.then_),.p (bV x1.other_),.p (iV x1.l_)],[.p (bV y3.1),.p (bV false),.p (bV false),.p (bV y3.2.1),.p (bV y3.2.2),.p (iV 1)]],[]⟩⟩
def Q0l (p0:Qab) (x1:Qdi) (y3:Bool×Bool×Bool) (o11:Bool):St:=⟨[(2,.p (bV o11))],⟨[[.p (iV p0.Kind),.p (sV p0.Name),.p (sV p0.Text),.p (iV p0.N),.p (.sl false (p0.L.map Qaa)),.p (.sl false (p0.Then.map Qaa)),.p (.sl false (p0.Else.map Qaa))],[.p (bV x1.name_),.p (bV x1.text_),.p (bV x1.num_),.p (bV x1.then_),.p (bV x1.other_),.p (iV x1.l_)],[.p (bV y3.1),.p (bV false),.p (bV false),.p (bV y3.2.1),.p (bV y3.2.2),.p (iV 1)]],[]⟩⟩
def Qxb (y:Bool):D :=.p (bV y)
def Qym:List (Nat×List Nat):=[(0,[0,2,3,4]),(1,[2,3,4,6]),(2,[2,3,6,8]),(3,[2,3,4,6]),(4,[2,3,4,6,14]),(5,[2]),(6,[2]),(4000002,[2,3,4,6]),(3000004,[])]
def Q8x (x1:(List UInt8)) (x2:(Int×Int)) (o9:Bool):St:=⟨[(2,.ptr 0 0),(3,.p (nV .i32 x2.1)),(4,.p (iV x2.2)),(6,.fn (.func 185) [] [.p (.ep [sV x1])]),(14,.p (bV o9))],⟨[[.p (bV false)]],[]⟩⟩
def Ql5 (x1:(List UInt8)):St:=⟨[(2,.ptr 0 0),(6,.fn (.func 185) [] [.p (.ep [sV x1])])],⟨[[.p (bV false)]],[]⟩⟩
def Qvr (x1:(List UInt8)) (y7:Unit):St:=⟨[(2,.ptr 0 0),(6,.fn (.func 185) [] [.p (.ep [sV x1])])],⟨[[.p (bV false)]],[]⟩⟩
def Qvs (x1:(List UInt8)) (y8:Unit):St:=⟨[(2,.ptr 0 0)],⟨[[.p (bV false)]],[]⟩⟩
def Qsq:Code:=((Qa3 (Tryz.f168.body.getD .skip)).getD 0 .skip)
def Qk2 (y:Int×Int):D :=.tup [.p (nV .i32 y.1),.p (iV y.2)]
def Q8y:List (Nat×List Nat):=[(0,[0,1]),(1,[0,1,17]),(2,[4,5]),(3,[0,1,6]),(4,[4,5]),(5,[0,1,6,21]),(6,[4,5]),(7,[0,1,6,26]),(8,[0,1,4,7,8]),(9,[0,1,6,36]),(10,[0,1,4,7,8]),(11,[0,1,6,46]),(12,[0,1,4,7,8]),(13,[4,7,8,9]),(14,[4,8,77]),(15,[4,5]),(16,[4,5]),(2004022,[]),(3000001,[]),(3000007,[]),(3000009,[]),(3000011,[]),(3000014,[])]
def Q3f (p0:(List UInt8)) (p1:Int) (o1:Bool):St:=⟨[(0,.p (sV p0)),(1,.p (iV p1)),(17,.p (bV o1))],⟨[],[]⟩⟩
def Q3g (p0:(List UInt8)) (p1:Int) (y4:Int×Int×Int):St:=⟨[(0,.p (sV p0)),(1,.p (iV p1)),(4,.p (nV .i32 y4.1)),(7,.p (nV .i32 y4.2.1)),(8,.p (iV y4.2.2))],⟨[],[]⟩⟩
def Q3h (p0:(List UInt8)) (p1:Int) (y5:Int):St:=⟨[(4,.p (nV .i32 y5)),(5,.p (iV 1))],⟨[],[]⟩⟩
def Q3i (p0:(List UInt8)) (p1:Int) (x2:UInt8) (o6:Bool):St:=⟨[(0,.p (sV p0)),(1,.p (iV p1)),(6,.p (nV .u8 (x2.toNat:Int))),(26,.p (bV o6))],⟨[],[]⟩⟩
def Q3j (p0:(List UInt8)) (p1:Int) (x2:UInt8) (o7:Bool):St:=⟨[(0,.p (sV p0)),(1,.p (iV p1)),(6,.p (nV .u8 (x2.toNat:Int))),(36,.p (bV o7))],⟨[],[]⟩⟩
def Q3k (p0:(List UInt8)) (p1:Int) (x2:UInt8) (o8:Bool):St:=⟨[(0,.p (sV p0)),(1,.p (iV p1)),(6,.p (nV .u8 (x2.toNat:Int))),(46,.p (bV o8))],⟨[],[]⟩⟩
def Q3l (y4:Int×Int×Int) (x10:Int×Bool) (o11:Bool):St:=⟨[(4,.p (nV .i32 x10.1)),(8,.p (iV y4.2.2)),(77,.p (bV o11))],⟨[],[]⟩⟩
def Qyn (y:(List UInt8)):D :=.fn (.func 185) [] [.p (.ep [sV y])]
def Qabx:List (Nat×List Nat):=[(0,[1]),(1,[2])]
def Qiz (y:(Int×Int)):List V:=[nV .i32 y.1,iV y.2]
def Qvt:List (Nat×List Nat):=[(0,[0,1,3]),(1,[0,1,3,9]),(2,[0,1,3,4,5]),(3,[0,1,3,5,20]),(4,[0,1,3]),(1000001,[0,1,3])]
def Qli (p0:(List UInt8)) (v3:Int) (gxs gp:List (List V)):St:=⟨[(0,.yld Tryz.prog 0 gxs),(1,.p (.ep [sV p0])),(3,.p (iV v3))],⟨[],[gp.length]⟩⟩
def Qqa (p0:(List UInt8)) (gxs:List (List V)) (gq1:List (List V)) (oy:Unit):St:=⟨[],⟨[],[gq1.length]⟩⟩
def Q0m:Code:=((Qa3 (Tryz.f185.body.getD .skip)).getD 0 .skip)
def Q3m (y:Bool):D :=.p (bV y)
def Qad6:List (Nat×List Nat):=[(0,[0]),(1,[2]),(3000001,[])]
def Q8z  (o1:Bool):St:=⟨[(2,.p (bV o1))],⟨[],[]⟩⟩
def Qni (y:Int×Bool):D :=.tup [.p (nV .i32 y.1),.p (bV y.2)]
def Qyo:List (Nat×List Nat):=[(0,[0,1,2]),(1,[0,1,2,12]),(2,[6,7]),(3,[0,1,13,14]),(4,[0,1,13,14,15]),(5,[0,1,8,13,14]),(6,[0,1,8,13,14,21]),(7,[6,7]),(8,[0,1,13,14]),(9,[0,1,13,14]),(10,[6,7]),(1000004,[0,1,13,14])]
def Qms (p0:(List UInt8)) (p2:Int) (v1:Int) (v14:Int):St:=⟨[(0,.p (sV p0)),(1,.p (nV .i32 v1)),(13,.p (iV p2)),(14,.p (iV v14))],⟨[],[]⟩⟩
def Qr9 (p0:(List UInt8)) (p2:Int) (y2:Int):St:=⟨[(1,.p (nV .i32 y2))],⟨[],[]⟩⟩
def Qsa (p0:(List UInt8)) (p2:Int) (y3:Unit):St:=⟨[(6,.p (nV .i32 0)),(7,.p (bV false))],⟨[],[]⟩⟩
def Q3n:Code:=((Qa3 (Tryz.f187.body.getD .skip)).getD 0 .skip)
def Qf9 (p0:(List UInt8)) (p1:(List UInt8)) (p2:Int):Option (Bool) :=
 ( if(decide (p2 ≥ 0)) then
   if(decide (p2≤(p0.length:Int))) then
    if(decide ((p1.length:Int)≤(wr ((p0.length:Int)-p2)))) then
     cutL p0 p2 (wr (p2+(p1.length:Int)))>>=fun x2 =>
     some (x2==p1)
    else
     some false
   else
    some false
  else
   some false:Option (Bool))>>=fun o1 =>
 some o1
theorem Qod:∀ (p0:(List UInt8)) (p1:(List UInt8)) (p2:Int) (o:Bool),Qf9 p0 p1 p2=some o→PCall Tryz.prog 141 [sV p0,sV p1,iV p2] (Qjp o):=by
 intro p0 p1 p2 o h;unfold Qf9 at h;refine PCall.ofB mixed tbOk Q2z Tryz.func141 rfl (by kernel_rfl) (Nat.le_of_ble_eq_true rfl) ?_;refine Qam h (fun o1 ho hk=>?_);refine Exists.intro (JP1 _ _ o1 .normal (Qx9 )) (And.intro ?_ (Qbe ?_))
 ·have h:=ho;refine Qad h (fun hb h=>?_) (fun hb h=>?_)
  ·refine vrfl ?_;refine Qad h (fun hb h=>?_) (fun hb h=>?_)
   ·refine vrfl ?_;refine vrfl ?_;refine Qad h (fun hb h=>?_) (fun hb h=>?_)
    ·refine vrfl ?_;refine Qj4 (some p2) (some (wr (p2+(p1.length:Int)))) h (fun x2 hi h=>?_);refine JP1.a h ?_;exact Le.tz 0 0 rfl rfl rfl
    ·refine JP1.a h ?_;exact Le.tz 0 0 rfl rfl rfl
   ·refine bF ?_;refine JP1.a h ?_;exact Le.tz 0 0 rfl rfl rfl
  ·refine bF ?_;refine bF ?_;refine JP1.a h ?_;exact Le.tz 0 0 rfl rfl rfl
 ·have h:=hk;refine Qav (t:=Qjp) h ?_;exact .refl _
def Qyp (p0:(List (List UInt8))) (p1:(List (List UInt8))) (v5:Int):Option (Unit⊕Unit) :=
 if(decide (v5<(p0.length:Int))) then
  idx p0 v5>>=fun x4 =>
  idx p1 v5>>=fun x5 =>
  if(!(x4==x5)) then
   some (.inr ())
  else
   Qyp p0 p1 (wr (v5+1))
 else
  some (.inl ())
 partial_fixpoint
def Qaj3 (p0:(List (List UInt8))) (p1:(List (List UInt8))):Option (Bool) :=
 if((p0.length:Int) != (p1.length:Int)) then
  some false
 else
  (Qyp p0 p1 0)>>=fun o1 =>
  match o1 with
  | .inl y2 =>
   some true
  | .inr y3 =>
   some false
def Ql6 (p0:Int):Option (Bool) :=
 ( if(decide (p0 ≥ 0)) then
   if(decide (p0≤1114111)) then
    if(decide (p0 ≥ 55296)) then
     some (!(decide (p0≤57343)))
    else
     some true
   else
    some false
  else
   some false:Option (Bool))>>=fun o1 =>
 some o1
theorem Qyq:∀ (p0:Int) (o:Bool),Ql6 p0=some o→PCall Tryz.prog 180 [iV p0] (Qq9 o):=by
 intro p0 o h;unfold Ql6 at h;refine PCall.ofB mixed tbOk Q8v Tryz.func180 rfl (by kernel_rfl) (Nat.le_of_ble_eq_true rfl) ?_;refine Qam h (fun o1 ho hk=>?_);refine Exists.intro (JP1 _ _ o1 .normal (Q25 )) (And.intro ?_ (Qbe ?_))
 ·have h:=ho;refine Qad h (fun hb h=>?_) (fun hb h=>?_)
  ·refine Qad h (fun hb h=>?_) (fun hb h=>?_)
   ·refine Qad h (fun hb h=>?_) (fun hb h=>?_)
    ·refine JP1.a h ?_;exact Le.tz 0 0 rfl rfl rfl
    ·refine JP1.a h ?_;exact Le.tz 0 0 rfl rfl rfl
   ·refine JP1.a h ?_;exact Le.tz 0 0 rfl rfl rfl
  ·refine bF ?_;refine JP1.a h ?_;exact Le.tz 0 0 rfl rfl rfl
 ·have h:=hk;refine Qav (t:=Qq9) h ?_;exact .refl _
def Qlj (p0:Int):Option ((List UInt8)) :=
 ( Ql6 p0>>=fun x2 =>
  if(!x2) then
   some 65533
  else
   some p0:Option (Int))>>=fun o1 =>
 if(decide (o1<128)) then
  b2s [(IntKind.u8.wrap o1)]>>=fun x3 =>
  some x3
 else
  if(decide (o1<2048)) then
   b2s [(IntKind.u8.wrap (wr (192+(wr (o1.tdiv 64))))),(IntKind.u8.wrap (wr (128+(o1.tmod 64))))]>>=fun x4 =>
   some x4
  else
   if(decide (o1<65536)) then
    b2s [(IntKind.u8.wrap (wr (224+(wr (o1.tdiv 4096))))),(IntKind.u8.wrap (wr (128+((wr (o1.tdiv 64)).tmod 64)))),(IntKind.u8.wrap (wr (128+(o1.tmod 64))))]>>=fun x5 =>
    some x5
   else
    b2s [(IntKind.u8.wrap (wr (240+(wr (o1.tdiv 262144))))),(IntKind.u8.wrap (wr (128+((wr (o1.tdiv 4096)).tmod 64)))),(IntKind.u8.wrap (wr (128+((wr (o1.tdiv 64)).tmod 64)))),(IntKind.u8.wrap (wr (128+(o1.tmod 64))))]>>=fun x6 =>
    some x6
theorem Q6r:∀ (p0:Int) (o:(List UInt8)),Qlj p0=some o→PCall Tryz.prog 181 [iV p0] (Qip o):=by
 intro p0 o h;unfold Qlj at h;refine PCall.ofB mixed tbOk Q6i Tryz.func181 rfl (by kernel_rfl) (Nat.le_of_ble_eq_true rfl) ?_;refine Qam h (fun o1 ho hk=>?_);refine Exists.intro (JP1 _ _ o1 .normal (Qz0 )) (And.intro ?_ (Qbe ?_))
 ·have h:=ho;refine Qat [iV p0] Qq9 h (fun x2 hy=>(Qyq p0 x2 hy)) (fun x2 hy h=>?_);refine Qad h (fun hb h=>?_) (fun hb h=>?_)
  ·refine JP1.a h ?_;exact Le.tz 0 0 rfl rfl rfl
  ·refine JP1.a h ?_;exact Le.tz 0 0 rfl rfl rfl
 ·have h:=hk;refine Qad h (fun hb h=>?_) (fun hb h=>?_)
  ·refine vrfl ?_;refine Q6c (l:=[(IntKind.u8.wrap o1)]) h (fun x3 hi h=>?_);refine Qav (t:=Qip) h ?_;exact .refl _
  ·refine Qad h (fun hb h=>?_) (fun hb h=>?_)
   ·refine And.intro (by decide) ?_;refine vrfl ?_;refine And.intro (by decide) ?_;refine vrfl ?_;refine Q6c (l:=[(IntKind.u8.wrap (wr (192+(wr (o1.tdiv 64))))),(IntKind.u8.wrap (wr (128+(o1.tmod 64))))]) h (fun x4 hi h=>?_);refine Qav (t:=Qip) h ?_;exact .refl _
   ·refine Qad h (fun hb h=>?_) (fun hb h=>?_)
    ·refine And.intro (by decide) ?_;refine vrfl ?_;refine And.intro (by decide) ?_;refine And.intro (by decide) ?_;refine vrfl ?_;refine And.intro (by decide) ?_;refine vrfl ?_;refine Q6c (l:=[(IntKind.u8.wrap (wr (224+(wr (o1.tdiv 4096))))),(IntKind.u8.wrap (wr (128+((wr (o1.tdiv 64)).tmod 64)))),(IntKind.u8.wrap (wr (128+(o1.tmod 64))))]) h (fun x5 hi h=>?_);refine Qav (t:=Qip) h ?_;exact .refl _
    ·refine And.intro (by decide) ?_;refine vrfl ?_;refine And.intro (by decide) ?_;refine And.intro (by decide) ?_;refine vrfl ?_;refine And.intro (by decide) ?_;refine And.intro (by decide) ?_;refine vrfl ?_;refine And.intro (by decide) ?_;refine vrfl ?_;refine Q6c (l:=[(IntKind.u8.wrap (wr (240+(wr (o1.tdiv 262144))))),(IntKind.u8.wrap (wr (128+((wr (o1.tdiv 4096)).tmod 64)))),(IntKind.u8.wrap (wr (128+((wr (o1.tdiv 64)).tmod 64)))),(IntKind.u8.wrap (wr (128+(o1.tmod 64))))]) h (fun x6 hi h=>?_);refine Qav (t:=Qip) h ?_;exact .refl _
def Qef (p0:(List UInt8)) (p1:Int) (v6:(List Int)) (v7:Int) (v8:Int) (v9:Int):Option (Int) :=
 if(decide (v9<v7)) then
  idx p0 (wr (p1+v9))>>=fun x9 =>
  Qef p0 p1 v6 v7 (wr ((wr ((wr (64*v8))+(wr (x9.toNat:Int))))-128)) (wr (v9+1))
 else
  some v8
 partial_fixpoint
theorem Qad7:∀ (p0:(List UInt8)) (p1:Int) (v6:(List Int)) (v7:Int),(∀ (v8:Int) (v9:Int) (o8:Int),Qef p0 p1 v6 v7 v8 v9=some o8→TL (0,0) Tryz.prog 74 Q22 (JP1 (0,0) 74 o8 (.exit 2) (Qry p0 p1 v6 v7)) (Qmk p0 p1 v6 v7 v8 v9)):=by
 intro p0 p1 v6 v7;refine Qef.partial_correctness p0 p1 v6 v7 _ ?_;intro Qef' iQef v8 v9 o8 h;refine TL.round (Qas mixed tbOk (lv:=Qsm) _ _ _ ?_);refine Qad h (fun hb h=>?_) (fun hb h=>?_)
 ·refine Qd8 h (fun x9 hi h=>?_);refine vrfl ?_;refine TL.le (τ := Qmk p0 p1 v6 v7 (wr ((wr ((wr (64*v8))+(wr (x9.toNat:Int))))-128)) (wr (v9+1))) ?_ ((iQef (wr ((wr ((wr (64*v8))+(wr (x9.toNat:Int))))-128)) (wr (v9+1)) _ h));exact Le.tz 0 0 rfl rfl rfl
 ·exact JP1.a h (Le.tz 0 0 rfl rfl rfl)
def Qc6 (p0:(List UInt8)) (p1:Int) (v6:(List Int)) (v7:Int):Option (Unit⊕(Int×Int)) :=
 ( if(decide (v7≤4)) then
   some (decide (v7≤(wr ((p0.length:Int)-p1))))
  else
   some false:Option (Bool))>>=fun o5 =>
 if o5 then
  idx p0 p1>>=fun x6 =>
  idx v6 v7>>=fun x7 =>
  (Qef p0 p1 v6 v7 (wr ((wr (x6.toNat:Int))-x7)) 1)>>=fun o8 =>
  ( if(decide (o8 ≥ 0)) then
    Ql6 o8>>=fun x11 =>
    if x11 then
     Qlj o8>>=fun x12 =>
     cutL p0 p1 (wr (p1+v7))>>=fun x13 =>
     some (x12==x13)
    else
     some false
   else
    some false:Option (Bool))>>=fun o10 =>
  if o10 then
   some (.inr (o8,v7))
  else
   Qc6 p0 p1 v6 (wr (v7+1))
 else
  some (.inl ())
 partial_fixpoint
theorem Qad8:∀ (p0:(List UInt8)) (p1:Int) (v6:(List Int)),(∀ (v7:Int) (o2:Unit⊕(Int×Int)),Qc6 p0 p1 v6 v7=some o2→TL (0,0) Tryz.prog 74 Q24 (JP2 (0,0) 74 o2 (.exit 0) (Qrz p0 p1) .ret (Qr0 p0 p1)) (Qml p0 p1 v6 v7)):=by
 intro p0 p1 v6;refine Qc6.partial_correctness p0 p1 v6 _ ?_;intro Qc6' iQc6 v7 o2 h;refine TL.round (Qas mixed tbOk (lv:=Qsm) _ _ _ ?_);refine Qam h (fun o5 ho hk=>?_);refine Exists.intro (JP1 _ _ o5 .normal (Q21 p0 p1 v6 v7)) (And.intro ?_ (Qbe ?_))
 ·have h:=ho;refine Qad h (fun hb h=>?_) (fun hb h=>?_)
  ·refine vrfl ?_;refine JP1.a h ?_;exact Le.tz 0 0 rfl rfl rfl
  ·refine JP1.a h ?_;exact Le.tz 0 0 rfl rfl rfl
 ·have h:=hk;refine Qad h (fun hb h=>?_) (fun hb h=>?_)
  ·refine And.intro (by decide +kernel) (And.intro rfl ?_);refine Qd8 h (fun x6 hi h=>?_);refine vrfl ?_;refine Qbu (l:=v6) (c:=cInt) (c' := cInt) h (fun _=>rfl) (fun _=>rfl) (by decide) (fun x7 hi h=>?_);refine Qam h (fun o8 ho hk=>?_);refine Exists.intro (JP1 _ _ o8 (.exit 2) (Qry p0 p1 v6 v7)) (And.intro (Qkn (τ := Qmk p0 p1 v6 v7 (wr ((wr (x6.toNat:Int))-x7)) 1) ?_ (TL.loop (Qad7 p0 p1 v6 v7 (wr ((wr (x6.toNat:Int))-x7)) 1 o8 ho))) (Qbe ?_))
   ·exact Le.tz 0 0 rfl rfl rfl
   have h:=hk;refine Qam h (fun o10 ho hk=>?_);refine Exists.intro (JP1 _ _ o10 .normal (Q23 p0 p1 v6 v7 o8)) (And.intro ?_ (Qbe ?_))
   ·have h:=ho;refine And.intro (by decide +kernel) (And.intro rfl ?_);refine Qad h (fun hb h=>?_) (fun hb h=>?_)
    ·refine Qd4 [iV o8] Qq9 h (fun x11 hy=>(Qyq o8 x11 hy)) (fun x11 hy h=>?_);refine Qad h (fun hb h=>?_) (fun hb h=>?_)
     ·refine Qd4 [iV o8] Qip h (fun x12 hy=>(Q6r o8 x12 hy)) (fun x12 hy h=>?_);refine Qj4 (some p1) (some (wr (p1+v7))) h (fun x13 hi h=>?_);refine JP1.a h ?_;exact Le.tz 0 0 rfl rfl rfl
     ·refine JP1.a h ?_;exact Le.tz 0 0 rfl rfl rfl
    ·refine bF ?_;refine JP1.a h ?_;exact Le.tz 0 0 rfl rfl rfl
   ·have h:=hk;refine Qad h (fun hb h=>?_) (fun hb h=>?_)
    ·exact JP2.b h (Le.tz 0 0 rfl rfl rfl)
    ·refine TL.le (τ := Qml p0 p1 v6 (wr (v7+1))) ?_ ((iQc6 (wr (v7+1)) _ h));exact Le.tz 0 0 rfl rfl rfl
  ·exact JP2.a h (Le.tz 0 0 rfl rfl rfl)
def Qku (p0:(List UInt8)) (p1:Int):Option (Int×Int) :=
 ( if(decide (p1<0)) then
   some true
  else
   some (decide (p1 ≥ (p0.length:Int))):Option (Bool))>>=fun o1 =>
 if o1 then
  some (0,0)
 else
  (Qc6 p0 p1 [0,0,192,224,240] 1)>>=fun o2 =>
  match o2 with
  | .inl y3 =>
   some (65533,1)
  | .inr y4 =>
   some (y4.1,y4.2)
theorem Q80:∀ (p0:(List UInt8)) (p1:Int) (o:Int×Int),Qku p0 p1=some o→PCall Tryz.prog 171 [sV p0,iV p1] (Qm7 o):=by
 intro p0 p1 o h;unfold Qku at h;refine PCall.ofB mixed tbOk Qsm Tryz.func171 rfl (by kernel_rfl) (Nat.le_of_ble_eq_true rfl) ?_;refine Qam h (fun o1 ho hk=>?_);refine Exists.intro (JP1 _ _ o1 .normal (Q20 p0 p1)) (And.intro ?_ (Qbe ?_))
 ·have h:=ho;refine Qad h (fun hb h=>?_) (fun hb h=>?_)
  ·refine JP1.a h ?_;exact Le.tz 0 0 rfl rfl rfl
  ·refine vrfl ?_;refine JP1.a h ?_;exact Le.tz 0 0 rfl rfl rfl
 ·have h:=hk;refine Qad h (fun hb h=>?_) (fun hb h=>?_)
  ·refine Qav (t:=Qm7) h ?_;exact .refl _
  ·refine Qam h (fun o2 ho hk=>?_);refine Exists.intro (JP2 _ _ o2 (.exit 0) (Qrz p0 p1) .ret (Qr0 p0 p1)) (And.intro (Qkn (τ := Qml p0 p1 [0,0,192,224,240] 1) ?_ (TL.loop (Qad8 p0 p1 [0,0,192,224,240] 1 o2 ho))) (Qin (fun y3 hy=>?_) (fun y4 hy=>?_)))
   ·exact Le.tz 0 0 rfl rfl rfl
   ·have h:=(by rw[hy] at hk; exact hk);refine Qav (t:=Qm7) h ?_;exact .refl _
   ·have h:=(by rw[hy] at hk; exact hk);refine Qav (t:=Qm7) h ?_;exact .refl _
def Qnj (p0:(List UInt8)) (v3:Int):Option (Unit⊕Unit) :=
 if(decide (v3<(p0.length:Int))) then
  Qku p0 v3>>=fun x4 =>
  ( if(x4.1==65533) then
    some (x4.2==1)
   else
    some false:Option (Bool))>>=fun o5 =>
  if o5 then
   some (.inr ())
  else
   Qnj p0 (wr (v3+x4.2))
 else
  some (.inl ())
 partial_fixpoint
def Qad9 (p0:(List UInt8)):Option (Bool) :=
 (Qnj p0 0)>>=fun o1 =>
 match o1 with
 | .inl y2 =>
  some true
 | .inr y3 =>
  some false
def Qhe (p0:(List UInt8)) (v4:(List UInt8)) (v5:Int):Option ((List UInt8)⊕Unit) :=
 if(decide (v5<(p0.length:Int))) then
  cutL p0 v5 (wr (v5+1))>>=fun x5 =>
  if(x5==[13]) then
   some (.inr ())
  else
   ( if(x5==[10]) then
     some [92,110]
    else
     if(x5==[9]) then
      some [92,116]
     else
      ( if(x5==[34]) then
        some true
       else
        some (x5==[92]):Option (Bool))>>=fun o7 =>
      if o7 then
       need ([92].length+x5.length≤9223372036854775807)>>=fun _ =>
       some ([92]++x5)
      else
       some x5:Option ((List UInt8)))>>=fun o6 =>
   need (v4.length+o6.length≤9223372036854775807)>>=fun _ =>
   Qhe p0 (v4++o6) (wr (v5+1))
 else
  some (.inl v4)
 partial_fixpoint
def Qqb (p0:(List UInt8)):Option ((List UInt8)×Bool) :=
 Qad9 p0>>=fun x1 =>
 if(!x1) then
  some ([],false)
 else
  (Qhe p0 [34] 0)>>=fun o2 =>
  match o2 with
  | .inl y3 =>
   need (y3.length+[34].length≤9223372036854775807)>>=fun _ =>
   some ((y3++[34]),true)
  | .inr y4 =>
   some ([],false)
def Qgo (p0:Int):Option (Bool) :=
 ( if(decide (p0 ≥ 48)) then
   some (decide (p0≤57))
  else
   some false:Option (Bool))>>=fun o1 =>
 some o1
theorem Ql7:∀ (p0:Int) (o:Bool),Qgo p0=some o→PCall Tryz.prog 102 [nV .u8 p0] (Qir o):=by
 intro p0 o h;unfold Qgo at h;refine PCall.ofB mixed tbOk Q6j Tryz.func102 rfl (by kernel_rfl) (Nat.le_of_ble_eq_true rfl) ?_;refine Qam h (fun o1 ho hk=>?_);refine Exists.intro (JP1 _ _ o1 .normal (Qz1 )) (And.intro ?_ (Qbe ?_))
 ·have h:=ho;refine Qad h (fun hb h=>?_) (fun hb h=>?_)
  ·refine JP1.a h ?_;exact Le.tz 0 0 rfl rfl rfl
  ·refine JP1.a h ?_;exact Le.tz 0 0 rfl rfl rfl
 ·have h:=hk;refine Qav (t:=Qir) h ?_;exact .refl _
def Qgp (p0:Int):Option (Bool) :=
 ( if(decide (p0 ≥ 97)) then
   some (decide (p0≤122))
  else
   some false:Option (Bool))>>=fun o1 =>
 some o1
theorem Ql8:∀ (p0:Int) (o:Bool),Qgp p0=some o→PCall Tryz.prog 101 [nV .u8 p0] (Qis o):=by
 intro p0 o h;unfold Qgp at h;refine PCall.ofB mixed tbOk Q6k Tryz.func101 rfl (by kernel_rfl) (Nat.le_of_ble_eq_true rfl) ?_;refine Qam h (fun o1 ho hk=>?_);refine Exists.intro (JP1 _ _ o1 .normal (Qz2 )) (And.intro ?_ (Qbe ?_))
 ·have h:=ho;refine Qad h (fun hb h=>?_) (fun hb h=>?_)
  ·refine JP1.a h ?_;exact Le.tz 0 0 rfl rfl rfl
  ·refine JP1.a h ?_;exact Le.tz 0 0 rfl rfl rfl
 ·have h:=hk;refine Qav (t:=Qis) h ?_;exact .refl _
def Qg3 (p0:(List UInt8)) (v3:Int):Option (Unit⊕Unit) :=
 if(decide (v3<(p0.length:Int))) then
  ( idx p0 v3>>=fun x8 =>
   Qgp (x8.toNat:Int)>>=fun x9 =>
   if(!x9) then
    idx p0 v3>>=fun x10 =>
    Qgo (x10.toNat:Int)>>=fun x11 =>
    if(!x11) then
     idx p0 v3>>=fun x12 =>
     some ((x12.toNat:Int) != 95)
    else
     some false
   else
    some false:Option (Bool))>>=fun o7 =>
  if o7 then
   some (.inr ())
  else
   Qg3 p0 (wr (v3+1))
 else
  some (.inl ())
 partial_fixpoint
theorem Qaea:∀ (p0:(List UInt8)),(∀ (v3:Int) (o4:Unit⊕Unit),Qg3 p0 v3=some o4→TL (0,0) Tryz.prog 42 Q28 (JP2 (0,0) 42 o4 (.exit 0) (Qr1 p0) .ret (Qr2 p0)) (Qmm p0 v3)):=by
 intro p0;refine Qg3.partial_correctness p0 _ ?_;intro Qg3' iQg3 v3 o4 h;refine TL.round (Qas mixed tbOk (lv:=Qya) _ _ _ ?_);refine vrfl ?_;refine Qad h (fun hb h=>?_) (fun hb h=>?_)
 ·refine Qam h (fun o7 ho hk=>?_);refine Exists.intro (JP1 _ _ o7 .normal (Q27 p0 v3)) (And.intro ?_ (Qbe ?_))
  ·have h:=ho;refine Qd8 h (fun x8 hi h=>?_);refine Qat [nV .u8 (x8.toNat:Int)] Qis h (fun x9 hy=>(Ql8 (x8.toNat:Int) x9 hy)) (fun x9 hy h=>?_);refine Qad h (fun hb h=>?_) (fun hb h=>?_)
   ·refine Qd8 h (fun x10 hi h=>?_);refine Qat [nV .u8 (x10.toNat:Int)] Qir h (fun x11 hy=>(Ql7 (x10.toNat:Int) x11 hy)) (fun x11 hy h=>?_);refine Qad h (fun hb h=>?_) (fun hb h=>?_)
    ·refine Qd8 h (fun x12 hi h=>?_);refine JP1.a h ?_;exact Le.tz 0 0 rfl rfl rfl
    ·refine JP1.a h ?_;exact Le.tz 0 0 rfl rfl rfl
   ·refine bF ?_;refine JP1.a h ?_;exact Le.tz 0 0 rfl rfl rfl
  ·have h:=hk;refine Qad h (fun hb h=>?_) (fun hb h=>?_)
   ·exact JP2.b h (Le.tz 0 0 rfl rfl rfl)
   ·refine TL.le (τ := Qmm p0 (wr (v3+1))) ?_ ((iQg3 (wr (v3+1)) _ h));exact Le.tz 0 0 rfl rfl rfl
 ·exact JP2.a h (Le.tz 0 0 rfl rfl rfl)
def Qji (p0:(List UInt8)):Option (Bool) :=
 ( if(decide ((p0.length:Int)<1)) then
   some true
  else
   if(decide ((p0.length:Int)>32)) then
    some true
   else
    idx p0 0>>=fun x2 =>
    Qgp (x2.toNat:Int)>>=fun x3 =>
    some (!x3):Option (Bool))>>=fun o1 =>
 if o1 then
  some false
 else
  (Qg3 p0 0)>>=fun o4 =>
  match o4 with
  | .inl y5 =>
   some true
  | .inr y6 =>
   some false
theorem Qsr:∀ (p0:(List UInt8)) (o:Bool),Qji p0=some o→PCall Tryz.prog 77 [sV p0] (Qiq o):=by
 intro p0 o h;unfold Qji at h;refine PCall.ofB mixed tbOk Qya Tryz.func77 rfl (by kernel_rfl) (Nat.le_of_ble_eq_true rfl) ?_;refine Qam h (fun o1 ho hk=>?_);refine Exists.intro (JP1 _ _ o1 .normal (Q26 p0)) (And.intro ?_ (Qbe ?_))
 ·have h:=ho;refine vrfl ?_;refine Qad h (fun hb h=>?_) (fun hb h=>?_)
  ·refine bT ?_;refine JP1.a h ?_;exact Le.tz 0 0 rfl rfl rfl
  ·refine vrfl ?_;refine Qad h (fun hb h=>?_) (fun hb h=>?_)
   ·refine JP1.a h ?_;exact Le.tz 0 0 rfl rfl rfl
   ·refine Qd8 h (fun x2 hi h=>?_);refine Qat [nV .u8 (x2.toNat:Int)] Qis h (fun x3 hy=>(Ql8 (x2.toNat:Int) x3 hy)) (fun x3 hy h=>?_);refine JP1.a h ?_;exact Le.tz 0 0 rfl rfl rfl
 ·have h:=hk;refine Qad h (fun hb h=>?_) (fun hb h=>?_)
  ·refine Qav (t:=Qiq) h ?_;exact .refl _
  ·refine Qam h (fun o4 ho hk=>?_);refine Exists.intro (JP2 _ _ o4 (.exit 0) (Qr1 p0) .ret (Qr2 p0)) (And.intro (Qkn (τ := Qmm p0 0) ?_ (TL.loop (Qaea p0 0 o4 ho))) (Qin (fun y5 hy=>?_) (fun y6 hy=>?_)))
   ·exact Le.tz 0 0 rfl rfl rfl
   ·have h:=(by rw[hy] at hk; exact hk);refine Qav (t:=Qiq) h ?_;exact .refl _
   ·have h:=(by rw[hy] at hk; exact hk);refine Qav (t:=Qiq) h ?_;exact .refl _
mutual
def Qfa (p0:(List Qab)):Option (Int) :=
 (Qjq p0 0 0)>>=fun o1 =>
 some o1
 partial_fixpoint
def Qjq (p0:(List Qab)) (v3:Int) (v4:Int):Option (Int) :=
 if(decide (v4<(p0.length:Int))) then
  idx p0 v4>>=fun x2 =>
  Qfa x2.L>>=fun x3 =>
  idx p0 v4>>=fun x4 =>
  Qfa x4.Then>>=fun x5 =>
  idx p0 v4>>=fun x6 =>
  Qfa x6.Else>>=fun x7 =>
  Qjq p0 (wr ((wr ((wr ((wr (v3+1))+x3))+x5))+x7)) (wr (v4+1))
 else
  some v3
 partial_fixpoint
end
theorem Q3o:(∀ (p0:(List Qab)) (o:Int),Qfa p0=some o→PCall Tryz.prog 80 [.sl false (p0.map Qaa)] (Qg0 o))∧(∀ (p0:(List Qab)) (v3:Int) (v4:Int) (o1:Int),Qjq p0 v3 v4=some o1→TL (0,0) Tryz.prog 35 Qz3 (JP1 (0,0) 35 o1 (.exit 0) (Qpz p0)) (Qle p0 v3 v4)):=by
 refine Qfa.mutual_partial_correctness _ _ ?_ ?_
 ·intro Qjq' iQjq p0 o h;refine PCall.ofB mixed tbOk Qvp Tryz.func80 rfl (by kernel_rfl) (Nat.le_of_ble_eq_true rfl) ?_;refine Qam h (fun o1 ho hk=>?_);refine Exists.intro (JP1 _ _ o1 (.exit 0) (Qpz p0)) (And.intro (Qkn (τ := Qle p0 0 0) ?_ (TL.loop (iQjq p0 0 0 o1 ho))) (Qbe ?_))
  ·exact Le.tz 0 0 rfl rfl rfl
  have h:=hk;refine Qav (t:=Qg0) h ?_;exact .refl _
 ·intro Qfa' Qjq' iQfa iQjq p0 v3 v4 o1 h;refine TL.round (Qas mixed tbOk (lv:=Qvp) _ _ _ ?_);refine view (Qdn _ _) rfl ?_;refine Qad h (fun hb h=>?_) (fun hb h=>?_)
  ·refine And.intro (by decide +kernel) (And.intro rfl ?_);refine Qbu (l:=p0) (c:=Qaa) (c' := Qa5) h Qap (fun _=>rfl) (by decide) (fun x2 hi h=>?_);refine Qd4 [.sl false (x2.L.map Qaa)] Qg0 h (fun x3 hy=>(iQfa x2.L x3 hy)) (fun x3 hy h=>?_);refine Qbu (l:=p0) (c:=Qaa) (c' := Qa5) h Qap (fun _=>rfl) (by decide) (fun x4 hi h=>?_);refine Qd4 [.sl false (x4.Then.map Qaa)] Qg0 h (fun x5 hy=>(iQfa x4.Then x5 hy)) (fun x5 hy h=>?_);refine Qbu (l:=p0) (c:=Qaa) (c' := Qa5) h Qap (fun _=>rfl) (by decide) (fun x6 hi h=>?_);refine Qd4 [.sl false (x6.Else.map Qaa)] Qg0 h (fun x7 hy=>(iQfa x6.Else x7 hy)) (fun x7 hy h=>?_);refine TL.le (τ := Qle p0 (wr ((wr ((wr ((wr (v3+1))+x3))+x5))+x7)) (wr (v4+1))) ?_ ((iQjq p0 (wr ((wr ((wr ((wr (v3+1))+x3))+x5))+x7)) (wr (v4+1)) _ h));exact Le.tz 0 0 rfl rfl rfl
  ·exact JP1.a h (Le.tz 0 0 rfl rfl rfl)
theorem Q6s:∀ (p0:(List Qab)) (o:Int),Qfa p0=some o→PCall Tryz.prog 80 [.sl false (p0.map Qaa)] (Qg0 o):=fun p0=>Q3o.1 p0
mutual
def Qgx (p0:(List Qab)):Option (Int) :=
 (Qlk p0 0 0)>>=fun o1 =>
 some o1
 partial_fixpoint
def Qlk (p0:(List Qab)) (v3:Int) (v4:Int):Option (Int) :=
 if(decide (v4<(p0.length:Int))) then
  idx p0 v4>>=fun x2 =>
  Qgx x2.L>>=fun x3 =>
  idx p0 v4>>=fun x4 =>
  Qgx x4.Then>>=fun x5 =>
  idx p0 v4>>=fun x6 =>
  Qgx x6.Else>>=fun x7 =>
  Qlk p0 (if(wr (1+(if x7>(if x5>x3 then x5 else x3) then x7 else(if x5>x3 then x5 else x3))))>v3 then(wr (1+(if x7>(if x5>x3 then x5 else x3) then x7 else(if x5>x3 then x5 else x3)))) else v3) (wr (v4+1))
 else
  some v3
 partial_fixpoint
end
theorem Q6t:(∀ (p0:(List Qab)) (o:Int),Qgx p0=some o→PCall Tryz.prog 79 [.sl false (p0.map Qaa)] (Qit o))∧(∀ (p0:(List Qab)) (v3:Int) (v4:Int) (o1:Int),Qlk p0 v3 v4=some o1→TL (0,0) Tryz.prog 34 Q29 (JP1 (0,0) 34 o1 (.exit 0) (Qr3 p0)) (Qmn p0 v3 v4)):=by
 refine Qgx.mutual_partial_correctness _ _ ?_ ?_
 ·intro Qlk' iQlk p0 o h;refine PCall.ofB mixed tbOk Qyb Tryz.func79 rfl (by kernel_rfl) (Nat.le_of_ble_eq_true rfl) ?_;refine Qam h (fun o1 ho hk=>?_);refine Exists.intro (JP1 _ _ o1 (.exit 0) (Qr3 p0)) (And.intro (Qkn (τ := Qmn p0 0 0) ?_ (TL.loop (iQlk p0 0 0 o1 ho))) (Qbe ?_))
  ·exact Le.tz 0 0 rfl rfl rfl
  have h:=hk;refine Qav (t:=Qit) h ?_;exact .refl _
 ·intro Qgx' Qlk' iQgx iQlk p0 v3 v4 o1 h;refine TL.round (Qas mixed tbOk (lv:=Qyb) _ _ _ ?_);refine view (Qdn _ _) rfl ?_;refine Qad h (fun hb h=>?_) (fun hb h=>?_)
  ·refine And.intro (by decide +kernel) (And.intro rfl ?_);refine Qbu (l:=p0) (c:=Qaa) (c' := Qa5) h Qap (fun _=>rfl) (by decide) (fun x2 hi h=>?_);refine Qd4 [.sl false (x2.L.map Qaa)] Qit h (fun x3 hy=>(iQgx x2.L x3 hy)) (fun x3 hy h=>?_);refine Qbu (l:=p0) (c:=Qaa) (c' := Qa5) h Qap (fun _=>rfl) (by decide) (fun x4 hi h=>?_);refine Qd4 [.sl false (x4.Then.map Qaa)] Qit h (fun x5 hy=>(iQgx x4.Then x5 hy)) (fun x5 hy h=>?_);refine Qbu (l:=p0) (c:=Qaa) (c' := Qa5) h Qap (fun _=>rfl) (by decide) (fun x6 hi h=>?_);refine Qd4 [.sl false (x6.Else.map Qaa)] Qit h (fun x7 hy=>(iQgx x6.Else x7 hy)) (fun x7 hy h=>?_);refine TL.le (τ := Qmn p0 (if(wr (1+(if x7>(if x5>x3 then x5 else x3) then x7 else(if x5>x3 then x5 else x3))))>v3 then(wr (1+(if x7>(if x5>x3 then x5 else x3) then x7 else(if x5>x3 then x5 else x3)))) else v3) (wr (v4+1))) ?_ ((iQlk p0 (if(wr (1+(if x7>(if x5>x3 then x5 else x3) then x7 else(if x5>x3 then x5 else x3))))>v3 then(wr (1+(if x7>(if x5>x3 then x5 else x3) then x7 else(if x5>x3 then x5 else x3)))) else v3) (wr (v4+1)) _ h));exact Le.tz 0 0 rfl rfl rfl
  ·exact JP1.a h (Le.tz 0 0 rfl rfl rfl)
theorem Q81:∀ (p0:(List Qab)) (o:Int),Qgx p0=some o→PCall Tryz.prog 79 [.sl false (p0.map Qaa)] (Qit o):=fun p0=>Q6t.1 p0
def Qg4 (p0:(List UInt8)) (x1:(List (List UInt8))) (v4:Int):Option (Unit⊕Unit) :=
 if(decide (v4<(x1.length:Int))) then
  idx x1 v4>>=fun x5 =>
  if(x5==p0) then
   some (.inr ())
  else
   Qg4 p0 x1 (wr (v4+1))
 else
  some (.inl ())
 partial_fixpoint
theorem Qaeb:∀ (p0:(List UInt8)) (x1:(List (List UInt8))),(∀ (v4:Int) (o2:Unit⊕Unit),Qg4 p0 x1 v4=some o2→TL (0,0) Tryz.prog 20 Q3a (JP2 (0,0) 20 o2 (.exit 0) (Qr4 p0 x1) .ret (Qr5 p0 x1)) (Qmo p0 x1 v4)):=by
 intro p0 x1;refine Qg4.partial_correctness p0 x1 _ ?_;intro Qg4' iQg4 v4 o2 h;refine TL.round (Qas mixed tbOk (lv:=Qyc) _ _ _ ?_);refine view (Qdn _ _) rfl ?_;refine Qad h (fun hb h=>?_) (fun hb h=>?_)
 ·refine Qbu (l:=x1) (c:=cStr) (c' := cStr) h (fun _=>rfl) (fun _=>rfl) (by decide) (fun x5 hi h=>?_);refine Qad h (fun hb h=>?_) (fun hb h=>?_)
  ·exact JP2.b h (Le.tz 0 0 rfl rfl rfl)
  ·refine TL.le (τ := Qmo p0 x1 (wr (v4+1))) ?_ ((iQg4 (wr (v4+1)) _ h));exact Le.tz 0 0 rfl rfl rfl
 ·exact JP2.a h (Le.tz 0 0 rfl rfl rfl)
def Qtq:Option ((List (List UInt8))) :=
 some ([[105,102],[101,108,115,101],[101,110,100],[101,97,99,104],[105,110],[108,101,116],[117,115,101],[116,114,117,101],[102,97,108,115,101],[115,101,99,114,101,116]])
theorem Q6u:∀ (o:(List (List UInt8))),Qtq  = some o→PCall Tryz.prog 76 [] (Qsn o):=by
 intro o h;unfold Qtq at h;refine PCall.ofB mixed tbOk Q6l Tryz.func76 rfl (by kernel_rfl) (Nat.le_of_ble_eq_true rfl) ?_;refine Qav (t:=Qsn) h ?_;exact .p (.not)
def Qhr (p0:(List UInt8)):Option (Bool) :=
 Qtq>>=fun x1 =>
 (Qg4 p0 x1 0)>>=fun o2 =>
 match o2 with
 | .inl y3 =>
  Qji p0>>=fun x6 =>
  some x6
 | .inr y4 =>
  some false
theorem Q82:∀ (p0:(List UInt8)) (o:Bool),Qhr p0=some o→PCall Tryz.prog 43 [sV p0] (Qra o):=by
 intro p0 o h;unfold Qhr at h;refine PCall.ofB mixed tbOk Qyc Tryz.func43 rfl (by kernel_rfl) (Nat.le_of_ble_eq_true rfl) ?_;refine Qat [] Qsn h (fun x1 hy=>(Q6u x1 hy)) (fun x1 hy h=>?_);refine Qam h (fun o2 ho hk=>?_);refine Exists.intro (JP2 _ _ o2 (.exit 0) (Qr4 p0 x1) .ret (Qr5 p0 x1)) (And.intro (Qkn (τ := Qmo p0 x1 0) ?_ (TL.loop (Qaeb p0 x1 0 o2 ho))) (Qin (fun y3 hy=>?_) (fun y4 hy=>?_)))
 ·exact Le.tz 0 0 rfl rfl rfl
 ·have h:=(by rw[hy] at hk; exact hk);refine Qat [sV p0] Qiq h (fun x6 hy=>(Qsr p0 x6 hy)) (fun x6 hy h=>?_);refine Qav (t:=Qra) h ?_;exact .refl _
 ·have h:=(by rw[hy] at hk; exact hk);refine Qav (t:=Qra) h ?_;exact .refl _
def Qga (p0:Qab) (p1:Bool) (p2:Bool) (p3:Bool) (p4:Bool) (p5:Bool):Option (Bool) :=
 ( if p1 then
   if p2 then
    if p3 then
     if p4 then
      if p5 then
       if(p0.Kind==10) then
        some true
       else
        some ((p0.Else.length:Int)==0)
      else
       if((p0.Then.length:Int)==0) then
        if(p0.Kind==10) then
         some true
        else
         some ((p0.Else.length:Int)==0)
       else
        some false
     else
      if((p0.L.length:Int)==0) then
       if p5 then
        if(p0.Kind==10) then
         some true
        else
         some ((p0.Else.length:Int)==0)
       else
        if((p0.Then.length:Int)==0) then
         if(p0.Kind==10) then
          some true
         else
          some ((p0.Else.length:Int)==0)
        else
         some false
      else
       some false
    else
     if(p0.N==0) then
      if p4 then
       if p5 then
        if(p0.Kind==10) then
         some true
        else
         some ((p0.Else.length:Int)==0)
       else
        if((p0.Then.length:Int)==0) then
         if(p0.Kind==10) then
          some true
         else
          some ((p0.Else.length:Int)==0)
        else
         some false
      else
       if((p0.L.length:Int)==0) then
        if p5 then
         if(p0.Kind==10) then
          some true
         else
          some ((p0.Else.length:Int)==0)
        else
         if((p0.Then.length:Int)==0) then
          if(p0.Kind==10) then
           some true
          else
           some ((p0.Else.length:Int)==0)
         else
          some false
       else
        some false
     else
      some false
   else
    if(p0.Text==[]) then
     if p3 then
      if p4 then
       if p5 then
        if(p0.Kind==10) then
         some true
        else
         some ((p0.Else.length:Int)==0)
       else
        if((p0.Then.length:Int)==0) then
         if(p0.Kind==10) then
          some true
         else
          some ((p0.Else.length:Int)==0)
        else
         some false
      else
       if((p0.L.length:Int)==0) then
        if p5 then
         if(p0.Kind==10) then
          some true
         else
          some ((p0.Else.length:Int)==0)
        else
         if((p0.Then.length:Int)==0) then
          if(p0.Kind==10) then
           some true
          else
           some ((p0.Else.length:Int)==0)
         else
          some false
       else
        some false
     else
      if(p0.N==0) then
       if p4 then
        if p5 then
         if(p0.Kind==10) then
          some true
         else
          some ((p0.Else.length:Int)==0)
        else
         if((p0.Then.length:Int)==0) then
          if(p0.Kind==10) then
           some true
          else
           some ((p0.Else.length:Int)==0)
         else
          some false
       else
        if((p0.L.length:Int)==0) then
         if p5 then
          if(p0.Kind==10) then
           some true
          else
           some ((p0.Else.length:Int)==0)
         else
          if((p0.Then.length:Int)==0) then
           if(p0.Kind==10) then
            some true
           else
            some ((p0.Else.length:Int)==0)
          else
           some false
        else
         some false
      else
       some false
    else
     some false
  else
   if(p0.Name==[]) then
    if p2 then
     if p3 then
      if p4 then
       if p5 then
        if(p0.Kind==10) then
         some true
        else
         some ((p0.Else.length:Int)==0)
       else
        if((p0.Then.length:Int)==0) then
         if(p0.Kind==10) then
          some true
         else
          some ((p0.Else.length:Int)==0)
        else
         some false
      else
       if((p0.L.length:Int)==0) then
        if p5 then
         if(p0.Kind==10) then
          some true
         else
          some ((p0.Else.length:Int)==0)
        else
         if((p0.Then.length:Int)==0) then
          if(p0.Kind==10) then
           some true
          else
           some ((p0.Else.length:Int)==0)
         else
          some false
       else
        some false
     else
      if(p0.N==0) then
       if p4 then
        if p5 then
         if(p0.Kind==10) then
          some true
         else
          some ((p0.Else.length:Int)==0)
        else
         if((p0.Then.length:Int)==0) then
          if(p0.Kind==10) then
           some true
          else
           some ((p0.Else.length:Int)==0)
         else
          some false
       else
        if((p0.L.length:Int)==0) then
         if p5 then
          if(p0.Kind==10) then
           some true
          else
           some ((p0.Else.length:Int)==0)
         else
          if((p0.Then.length:Int)==0) then
           if(p0.Kind==10) then
            some true
           else
            some ((p0.Else.length:Int)==0)
          else
           some false
        else
         some false
      else
       some false
    else
     if(p0.Text==[]) then
      if p3 then
       if p4 then
        if p5 then
         if(p0.Kind==10) then
          some true
         else
          some ((p0.Else.length:Int)==0)
        else
         if((p0.Then.length:Int)==0) then
          if(p0.Kind==10) then
           some true
          else
           some ((p0.Else.length:Int)==0)
         else
          some false
       else
        if((p0.L.length:Int)==0) then
         if p5 then
          if(p0.Kind==10) then
           some true
          else
           some ((p0.Else.length:Int)==0)
         else
          if((p0.Then.length:Int)==0) then
           if(p0.Kind==10) then
            some true
           else
            some ((p0.Else.length:Int)==0)
          else
           some false
        else
         some false
      else
       if(p0.N==0) then
        if p4 then
         if p5 then
          if(p0.Kind==10) then
           some true
          else
           some ((p0.Else.length:Int)==0)
         else
          if((p0.Then.length:Int)==0) then
           if(p0.Kind==10) then
            some true
           else
            some ((p0.Else.length:Int)==0)
          else
           some false
        else
         if((p0.L.length:Int)==0) then
          if p5 then
           if(p0.Kind==10) then
            some true
           else
            some ((p0.Else.length:Int)==0)
          else
           if((p0.Then.length:Int)==0) then
            if(p0.Kind==10) then
             some true
            else
             some ((p0.Else.length:Int)==0)
           else
            some false
         else
          some false
       else
        some false
     else
      some false
   else
    some false:Option (Bool))>>=fun o1 =>
 some o1
mutual
def Qaam (p0:Qab):Option (Bool) :=
 if(p0.Kind==1) then
  Qqb p0.Text>>=fun x1 =>
  ( if x1.2 then
    Qga p0 false true false false false>>=fun x3 =>
    some x3
   else
    some false:Option (Bool))>>=fun o2 =>
  some o2
 else
  if(p0.Kind==2) then
   Qga p0 false false true false false>>=fun x4 =>
   some x4
  else
   if(p0.Kind==3) then
    ( if(p0.N==0) then
      Qga p0 false false true false false>>=fun x6 =>
      some x6
     else
      if(p0.N==1) then
       Qga p0 false false true false false>>=fun x7 =>
       some x7
      else
       some false:Option (Bool))>>=fun o5 =>
    some o5
   else
    if(p0.Kind==4) then
     ( Qhr p0.Name>>=fun x9 =>
      if x9 then
       Qga p0 true false false false false>>=fun x10 =>
       some x10
      else
       some false:Option (Bool))>>=fun o8 =>
     some o8
    else
     if(p0.Kind==5) then
      ( Qji p0.Name>>=fun x12 =>
       if x12 then
        if((p0.L.length:Int)==1) then
         Qyr p0.L>>=fun x13 =>
         if x13 then
          Qga p0 true false false true false>>=fun x14 =>
          some x14
         else
          some false
        else
         some false
       else
        some false:Option (Bool))>>=fun o11 =>
      some o11
     else
      if(p0.Kind==6) then
       ( Qhr p0.Name>>=fun x16 =>
        if x16 then
         if(decide ((p0.L.length:Int)≤3)) then
          Qyr p0.L>>=fun x17 =>
          if x17 then
           Qga p0 true false false true false>>=fun x18 =>
           some x18
          else
           some false
         else
          some false
        else
         some false:Option (Bool))>>=fun o15 =>
       some o15
      else
       if(p0.Kind==7) then
        ( Qji p0.Name>>=fun x20 =>
         if x20 then
          Qga p0 true false false false false>>=fun x21 =>
          some x21
         else
          some false:Option (Bool))>>=fun o19 =>
        some o19
       else
        some false
 partial_fixpoint
def Qyr (p0:(List Qab)):Option (Bool) :=
 (Qvu p0 0)>>=fun o1 =>
 match o1 with
 | .inl y2 =>
  some true
 | .inr y3 =>
  some false
 partial_fixpoint
def Qvu (p0:(List Qab)) (v3:Int):Option (Unit⊕Unit) :=
 if(decide (v3<(p0.length:Int))) then
  idx p0 v3>>=fun x4 =>
  Qaam x4>>=fun x5 =>
  if(!x5) then
   some (.inr ())
  else
   Qvu p0 (wr (v3+1))
 else
  some (.inl ())
 partial_fixpoint
end
def Qtr (p0:(List UInt8)) (p1:(List UInt8)) (v5:Int):Option (Unit⊕Unit) :=
 if(decide (v5<(p0.length:Int))) then
  Qf9 p0 p1 v5>>=fun x4 =>
  if x4 then
   some (.inr ())
  else
   Qtr p0 p1 (wr (v5+1))
 else
  some (.inl ())
 partial_fixpoint
def Qaby (p0:(List UInt8)) (p1:(List UInt8)):Option (Bool) :=
 (Qtr p0 p1 0)>>=fun o1 =>
 match o1 with
 | .inl y2 =>
  some false
 | .inr y3 =>
  some true
mutual
def Qts (p0:(List Qab)) (p1:Bool):Option (Bool) :=
 (Qqc p0 p1 0)>>=fun o1 =>
 match o1 with
 | .inl y2 =>
  some true
 | .inr y3 =>
  some false
 partial_fixpoint
def Qqc (p0:(List Qab)) (p1:Bool) (v5:Int):Option (Unit⊕Unit) :=
 if(decide (v5<(p0.length:Int))) then
  idx p0 v5>>=fun x4 =>
  Qaan x4>>=fun x5 =>
  if(!x5) then
   some (.inr ())
  else
   idx p0 v5>>=fun x6 =>
   if(x6.Kind != 8) then
    Qqc p0 p1 (wr (v5+1))
   else
    idx p0 v5>>=fun x7 =>
    ( if(!(v5==(wr ((p0.length:Int)-1)))) then
      idx p0 (wr (v5+1))>>=fun x9 =>
      if(x9.Kind==8) then
       some true
      else
       if(!(v5==(wr ((p0.length:Int)-1)))) then
        idx x7.Text (wr ((x7.Text.length:Int)-1))>>=fun x10 =>
        some ((x10.toNat:Int)==123)
       else
        if p1 then
         idx x7.Text (wr ((x7.Text.length:Int)-1))>>=fun x11 =>
         some ((x11.toNat:Int)==123)
        else
         some false
     else
      if(!(v5==(wr ((p0.length:Int)-1)))) then
       idx x7.Text (wr ((x7.Text.length:Int)-1))>>=fun x12 =>
       some ((x12.toNat:Int)==123)
      else
       if p1 then
        idx x7.Text (wr ((x7.Text.length:Int)-1))>>=fun x13 =>
        some ((x13.toNat:Int)==123)
       else
        some false:Option (Bool))>>=fun o8 =>
    if o8 then
     some (.inr ())
    else
     Qqc p0 p1 (wr (v5+1))
 else
  some (.inl ())
 partial_fixpoint
def Qaan (p0:Qab):Option (Bool) :=
 ( if((p0.L.length:Int)==1) then
   Qyr p0.L>>=fun x2 =>
   some x2
  else
   some false:Option (Bool))>>=fun o1 =>
 if(p0.Kind==8) then
  ( if(!(p0.Text==[])) then
    Qaby p0.Text [123,123]>>=fun x4 =>
    if(!x4) then
     Qga p0 false true false false false>>=fun x5 =>
     some x5
    else
     some false
   else
    some false:Option (Bool))>>=fun o3 =>
  some o3
 else
  if(p0.Kind==9) then
   ( if o1 then
     Qga p0 false false false true false>>=fun x7 =>
     some x7
    else
     some false:Option (Bool))>>=fun o6 =>
   some o6
  else
   if(p0.Kind==10) then
    ( if o1 then
      Qts p0.Then true>>=fun x9 =>
      if x9 then
       Qts p0.Else true>>=fun x10 =>
       if x10 then
        Qga p0 false false false true true>>=fun x11 =>
        some x11
       else
        some false
      else
       some false
     else
      some false:Option (Bool))>>=fun o8 =>
    some o8
   else
    ( if(p0.Kind==11) then
      some (p0.Kind==11)
     else
      some (p0.Kind==12):Option (Bool))>>=fun o12 =>
    if o12 then
     ( Qhr p0.Name>>=fun x14 =>
      if x14 then
       if o1 then
        Qts p0.Then true>>=fun x15 =>
        if x15 then
         Qga p0 true false false true true>>=fun x16 =>
         some x16
        else
         some false
       else
        some false
      else
       some false:Option (Bool))>>=fun o13 =>
     some o13
    else
     if(p0.Kind==13) then
      ( Qhr p0.Name>>=fun x18 =>
       if x18 then
        if o1 then
         Qga p0 true false false true false>>=fun x19 =>
         some x19
        else
         some false
       else
        some false:Option (Bool))>>=fun o17 =>
      some o17
     else
      some false
 partial_fixpoint
end
def Qai7 (p0:(List Qab)):Option (Bool) :=
 ( Qts p0 false>>=fun x2 =>
  if x2 then
   Qgx p0>>=fun x3 =>
   if(decide (x3≤12)) then
    Qfa p0>>=fun x4 =>
    some (decide (x4≤1024))
   else
    some false
  else
   some false:Option (Bool))>>=fun o1 =>
 some o1
def Qys (p0:(List Qae)) (p1:(List UInt8)) (v6:Int):Option (Unit⊕(List Qab)) :=
 if(decide (v6<(p0.length:Int))) then
  idx p0 v6>>=fun x4 =>
  if(x4.Name==p1) then
   idx p0 v6>>=fun x5 =>
   some (.inr x5.L)
  else
   Qys p0 p1 (wr (v6+1))
 else
  some (.inl ())
 partial_fixpoint
def Qxc (p0:(List Qae)) (p1:(List UInt8)):Option ((List Qab)×Bool) :=
 (Qys p0 p1 0)>>=fun o1 =>
 match o1 with
 | .inl y2 =>
  some ([],false)
 | .inr y3 =>
  some (y3,true)
def Qvv (p0:(List Qae)) (v4:Int):Option (Unit⊕((List UInt8)×Int)) :=
 if(decide (v4<(p0.length:Int))) then
  ( idx p0 v4>>=fun x5 =>
   Qhr x5.Name>>=fun x6 =>
   if(!x6) then
    some true
   else
    idx p0 v4>>=fun x7 =>
    Qai7 x7.L>>=fun x8 =>
    some (!x8):Option (Bool))>>=fun o4 =>
  if o4 then
   idx p0 v4>>=fun x9 =>
   some (.inr (x9.Name,7))
  else
   cutL p0 0 v4>>=fun x10 =>
   idx p0 v4>>=fun x11 =>
   Qxc x10 x11.Name>>=fun x12 =>
   if x12.2 then
    idx p0 v4>>=fun x13 =>
    some (.inr (x13.Name,9))
   else
    Qvv p0 (wr (v4+1))
 else
  some (.inl ())
 partial_fixpoint
def Qvw (p0:(List Qae)) (v7:Int) (x18:(List (List UInt8))) (v9:Int):Option (Unit⊕(List UInt8)) :=
 if(decide (v9<(x18.length:Int))) then
  idx x18 v9>>=fun x22 =>
  Qxc p0 x22>>=fun x23 =>
  if(!x23.2) then
   idx p0 v7>>=fun x24 =>
   some (.inr x24.Name)
  else
   Qvw p0 v7 x18 (wr (v9+1))
 else
  some (.inl ())
 partial_fixpoint
def Q6v (p0:(List (List UInt8))) (p1:(List UInt8)) (v5:Int):Option (Unit⊕Unit) :=
 if(decide (v5<(p0.length:Int))) then
  idx p0 v5>>=fun x4 =>
  if(x4==p1) then
   some (.inr ())
  else
   Q6v p0 p1 (wr (v5+1))
 else
  some (.inl ())
 partial_fixpoint
def Qagw (p0:(List (List UInt8))) (p1:(List UInt8)):Option (Bool) :=
 (Q6v p0 p1 0)>>=fun o1 =>
 match o1 with
 | .inl y2 =>
  some false
 | .inr y3 =>
  some true
def Qyt (p0:(List (List UInt8))) (p1:(List UInt8)) (v5:Int):Option (Int) :=
 ( if(decide (v5<(p0.length:Int))) then
   idx p0 v5>>=fun x4 =>
   some (Op.bytesLess x4 p1)
  else
   some false:Option (Bool))>>=fun o3 =>
 if o3 then
  Qyt p0 p1 (wr (v5+1))
 else
  some v5
 partial_fixpoint
def Q3p (p0:(List (List UInt8))) (p1:(List UInt8)):Option ((List (List UInt8))) :=
 Qagw p0 p1>>=fun x1 =>
 if x1 then
  some p0
 else
  (Qyt p0 p1 0)>>=fun o2 =>
  cutL p0 0 o2>>=fun x5 =>
  appL 16 [] x5>>=fun x6 =>
  appL 16 x6 [p1]>>=fun x7 =>
  cutL p0 o2 (p0.length:Int)>>=fun x8 =>
  appL 16 x7 x8>>=fun x9 =>
  need (((p0.map cStr).length)<((x9.map cStr).length))>>=fun _ =>
  some x9
def Qyu (p0:(List Qab)) (v4:Int) (x9:(List (List UInt8))) (x10:(List (List UInt8))) (v3_:(List (List UInt8))) (v6:Int):Option ((List (List UInt8))) :=
 if(decide (v6<(x10.length:Int))) then
  idx x10 v6>>=fun x12 =>
  Q3p v3_ x12>>=fun x13 =>
  Qyu p0 v4 x9 x10 x13 (wr (v6+1))
 else
  some v3_
 partial_fixpoint
mutual
def Qtt (p0:(List Qab)):Option ((List (List UInt8))) :=
 (Qyv p0 [] 0)>>=fun o1 =>
 some o1
 partial_fixpoint
def Qyv (p0:(List Qab)) (v3:(List (List UInt8))) (v4:Int):Option ((List (List UInt8))) :=
 if(decide (v4<(p0.length:Int))) then
  ( idx p0 v4>>=fun x3 =>
   if(x3.Kind==13) then
    idx p0 v4>>=fun x4 =>
    Q3p v3 x4.Name>>=fun x5 =>
    some x5
   else
    some v3:Option ((List (List UInt8))))>>=fun o2 =>
  idx p0 v4>>=fun x6 =>
  Qtt x6.Then>>=fun x7 =>
  idx p0 v4>>=fun x8 =>
  Qtt x8.Else>>=fun x9 =>
  appL 16 x7 x9>>=fun x10 =>
  (Qyu p0 v4 x9 x10 o2 0)>>=fun o11 =>
  Qyv p0 o11 (wr (v4+1))
 else
  some v3
 partial_fixpoint
end
def Qvx (p0:(List Qae)) (v7:Int):Option (Unit⊕(List UInt8)) :=
 if(decide (v7<(p0.length:Int))) then
  idx p0 v7>>=fun x17 =>
  Qtt x17.L>>=fun x18 =>
  (Qvw p0 v7 x18 0)>>=fun o19 =>
  match o19 with
  | .inl y20 =>
   Qvx p0 (wr (v7+1))
  | .inr y21 =>
   some (.inr y21)
 else
  some (.inl ())
 partial_fixpoint
def Qvy (p0:(List Qae)) (v7:(List (List UInt8))) (v8:Int) (v10:Int) (x7:(List (List UInt8))) (v7__:(List (List UInt8))) (v14:Int):Option ((List (List UInt8))) :=
 if(decide (v14<(x7.length:Int))) then
  idx x7 v14>>=fun x9 =>
  Q3p v7__ x9>>=fun x10 =>
  Qvy p0 v7 v8 v10 x7 x10 (wr (v14+1))
 else
  some v7__
 partial_fixpoint
def Qvz (p0:(List Qae)) (v7:(List (List UInt8))) (v8:Int) (v7_:(List (List UInt8))) (v10:Int):Option ((List (List UInt8))) :=
 if(decide (v10<(v7.length:Int))) then
  idx v7 v10>>=fun x5 =>
  Qxc p0 x5>>=fun x6 =>
  Qtt x6.1>>=fun x7 =>
  (Qvy p0 v7 v8 v10 x7 v7_ 0)>>=fun o8 =>
  Qvz p0 v7 v8 o8 (wr (v10+1))
 else
  some v7_
 partial_fixpoint
def Qv0 (p0:(List Qae)) (v7:(List (List UInt8))) (v8:Int):Option ((List (List UInt8))) :=
 if(decide (v8<(p0.length:Int))) then
  (Qvz p0 v7 v8 v7 0)>>=fun o4 =>
  Qv0 p0 o4 (wr (v8+1))
 else
  some v7
 partial_fixpoint
def Qaec (p0:(List Qae)) (p1:(List UInt8)):Option ((List (List UInt8))) :=
 Qxc p0 p1>>=fun x1 =>
 Qtt x1.1>>=fun x2 =>
 (Qv0 p0 x2 0)>>=fun o3 =>
 some o3
def Qv1 (p0:(List Qae)) (v12:Int):Option (Unit⊕(List UInt8)) :=
 if(decide (v12<(p0.length:Int))) then
  idx p0 v12>>=fun x28 =>
  Qaec p0 x28.Name>>=fun x29 =>
  idx p0 v12>>=fun x30 =>
  Qagw x29 x30.Name>>=fun x31 =>
  if x31 then
   idx p0 v12>>=fun x32 =>
   some (.inr x32.Name)
  else
   Qv1 p0 (wr (v12+1))
 else
  some (.inl ())
 partial_fixpoint
def Qai8 (p0:(List Qae)):Option ((List UInt8)×Int) :=
 if(decide ((p0.length:Int)>16)) then
  some ([],5)
 else
  (Qvv p0 0)>>=fun o1 =>
  match o1 with
  | .inl y2 =>
   (Qvx p0 0)>>=fun o14 =>
   match o14 with
   | .inl y15 =>
    (Qv1 p0 0)>>=fun o25 =>
    match o25 with
    | .inl y26 =>
     some ([],0)
    | .inr y27 =>
     some (y27,10)
   | .inr y16 =>
    some (y16,4)
  | .inr y3 =>
   some (y3.1,y3.2)
def Qex (p0:(List Qae)) (p1:(List UInt8)) (v10:Int):Option (Unit⊕(List Qab)) :=
 if(decide (v10<(p0.length:Int))) then
  idx p0 v10>>=fun x4 =>
  if(x4.Name==p1) then
   some (.inr x4.L)
  else
   Qex p0 p1 (wr (v10+1))
 else
  some (.inl ())
 partial_fixpoint
theorem Qabz:∀ (p0:(List Qae)) (p1:(List UInt8)),(∀ (v10:Int) (o1:Unit⊕(List Qab)),Qex p0 p1 v10=some o1→TL (0,0) Tryz.prog 21 Qyd (JP2 (0,0) 21 o1 (.exit 0) (Qos p0 p1) .ret (Qot p0 p1)) (Qj5 p0 p1 v10)):=by
 intro p0 p1;refine Qex.partial_correctness p0 p1 _ ?_;intro Qex' iQex v10 o1 h;refine TL.round (Qas mixed tbOk (lv:=Qtn) _ _ _ ?_);refine Qad h (fun hb h=>?_) (fun hb h=>?_)
 ·refine Qbu (l:=p0) (c:=Qaj) (c' := Qaj) h (fun _=>rfl) (fun _=>rfl) (by decide) (fun x4 hi h=>?_);refine Qad h (fun hb h=>?_) (fun hb h=>?_)
  ·exact JP2.b h (Le.tz 0 0 rfl rfl rfl)
  ·refine TL.le (τ := Qj5 p0 p1 (wr (v10+1))) ?_ ((iQex (wr (v10+1)) _ h));exact Le.tz 0 0 rfl rfl rfl
 ·exact JP2.a h (Le.tz 0 0 rfl rfl rfl)
def Qgb (p0:(List Qae)) (p1:(List UInt8)):Option ((List Qab)×Bool) :=
 (Qex p0 p1 0)>>=fun o1 =>
 match o1 with
 | .inl y2 =>
  some ([],false)
 | .inr y3 =>
  some (y3,true)
theorem Qhs:∀ (p0:(List Qae)) (p1:(List UInt8)) (o:(List Qab)×Bool),Qgb p0 p1=some o→PCall Tryz.prog 39 [.sl false (p0.map Qaj),sV p1] (Qes o):=by
 intro p0 p1 o h;unfold Qgb at h;refine PCall.ofB mixed tbOk Qtn Tryz.func39 rfl (by kernel_rfl) (Nat.le_of_ble_eq_true rfl) ?_;refine view (Qdn _ _) rfl ?_;refine Qam h (fun o1 ho hk=>?_);refine Exists.intro (JP2 _ _ o1 (.exit 0) (Qos p0 p1) .ret (Qot p0 p1)) (And.intro (Qkn (τ := Qj5 p0 p1 0) ?_ (TL.loop (Qabz p0 p1 0 o1 ho))) (Qin (fun y2 hy=>?_) (fun y3 hy=>?_)))
 ·exact Le.tz 0 0 rfl rfl rfl
 ·have h:=(by rw[hy] at hk; exact hk);refine Qav (t:=Qes) h ?_;exact .tup (xs:=[.sl true [],bV false]) (ys:=[.sl false [],bV false]) (.cons (.not) (.cons (.refl _) (.nil)))
 ·have h:=(by rw[hy] at hk; exact hk);refine Qav (t:=Qes) h ?_;exact .refl _
def Qey (x1:(List Qab)×Int) (l4:(List (Qab×Int))) (h0_0:Int):Option (Int) :=
 match l4 with
 | [] =>
  some h0_0
 | x2::r3 =>
  Qey x1 r3 (wr (h0_0+1))
 partial_fixpoint
theorem Qab0:∀ (x1:(List Qab)×Int),(∀ (l4:(List (Qab×Int))) (h0_0:Int) (o6:Int),Qey x1 l4 h0_0=some o6→RL 1 0 Tryz.prog 11 (rgP Qlg) (rgA Qlg) (rgB Qlg) (Qgv x1 h0_0).env (JP1 (0,0) 11 o6 .normal (Qou x1)) (l4.map Qcm) (Qgv x1 h0_0).s):=by
 intro x1;refine Qey.partial_correctness x1 _ ?_;intro Qey' iQey l4 h0_0 o6 h;cases l4 with
 | nil =>
  refine Qaai ?_;exact JP1.a h (Le.tz 1 0 rfl rfl rfl)
 | cons x2 r3 =>
  refine Q2v (Qas mixed tbOk (lv:=Qoa) _ _ _ ?_);refine And.intro rfl (Qas mixed tbOk (lv:=Qoa) _ _ _ ?_);exact Exists.intro (Qgv x1 (wr (h0_0+1))).s (And.intro (Le.tz 1 0 rfl rfl rfl) (And.intro rfl (And.intro rfl ((iQey r3 (wr (h0_0+1)) _ h)))))
def Qjj (p0:(List Qab)) (p1:Int):Option ((List Qab)×Int) :=
 some (p0,p1)
theorem Qss:∀ (p0:(List Qab)) (p1:Int) (o:(List Qab)×Int),Qjj p0 p1=some o→PCall Tryz.prog 96 [.sl false (p0.map Qaa),iV p1] (Qnh o):=by
 intro p0 p1 o h;unfold Qjj at h;refine PCall.ofM mixed tbOk Q8w Tryz.func96 rfl (by kernel_rfl) (Nat.le_of_ble_eq_true rfl) ?_;refine Qav (t:=Qnh) h ?_;exact .refl _
def Qez (p0:(List Qab)) (p1:Int) (v12:Int) (x3:Qab) (v28:Int) (x7:(List Qab)×Int) (l10:(List (Qab×Int))):Option ((List (Qab×Int))×(Unit)) :=
 match l10 with
 | [] =>
  some ([],())
 | x8::r9 =>
  ( Qez p0 p1 v12 x3 v28 x7 r9 )>>=fun q=>some (((Qab.mk x8.1.Kind x8.1.Name x8.1.Text x8.1.N x8.1.L x8.1.Then x8.1.Else),x8.2)::q.1,q.2)
 partial_fixpoint
theorem Qab1:∀ (p0:(List Qab)) (p1:Int) (v12:Int) (x3:Qab) (v28:Int) (x7:(List Qab)×Int),(∀ (l10:(List (Qab×Int))) (o13:(List (Qab×Int))×(Unit)),Qez p0 p1 v12 x3 v28 x7 l10=some o13→∀ (gxs gp gpost gq12:List (List V)),gxs=gp++(o13.1.map Qcm++gpost)→gxs=gq12++gpost→RL 2 1 Tryz.prog 44 (rgP Qlh) (rgA Qlh) (rgB Qlh) (Qgw p0 p1 v12 x3 v28 x7 gxs gp).env (Qs (0,1) 44 gxs (JP1 (0,1) 44 o13.2 .normal (Qov p0 p1 v12 x3 v28 x7 gxs gq12))) (l10.map Qcm) (Qgw p0 p1 v12 x3 v28 x7 gxs gp).s):=by
 intro p0 p1 v12 x3 v28 x7;refine Qez.partial_correctness p0 p1 v12 x3 v28 x7 _ ?_;intro Qez' iQez l10 o13 h;intro gxs gp gpost gq12 hx hq;cases l10 with
 | nil =>
  refine Qaai ?_;exact .inl (JP1.a (sndI h) (Le.tz 2 1 rfl rfl (Qaf3 h hx hq rfl)))
 | cons x8 r9 =>
  refine Q2v (Qas mixed tbOk (lv:=Qhq) _ _ _ ?_);refine And.intro rfl (Qas mixed tbOk (lv:=Qhq) _ _ _ ?_);refine Qadv (c:=Qcm) h hx (.refl _) (by exact rfl) (by exact rfl) (fun _ h hx=>?_) ?_
  ·refine bF ?_;exact Exists.intro (Qgw p0 p1 v12 x3 v28 x7  gxs (gp++[Qcm ((Qab.mk x8.1.Kind x8.1.Name x8.1.Text x8.1.N x8.1.L x8.1.Then x8.1.Else),x8.2)])).s (And.intro (Le.tz 2 1 rfl rfl rfl) (And.intro rfl (And.intro rfl ((iQez r9 _ h) _ _ _ _ hx hq))))
  ·refine bT ?_;exact⟨_,(Le.env0 _).trans (Le.tow 2 1 rfl .nil (.refl _) rfl),rfl,rfl,.inr ⟨rfl,Qaf2 rfl⟩⟩
mutual
def Qfe (p0 : (List Qab)) (p1 : Int) : Option ((List (Qab × Int)) × Unit) :=
  ( Qe0 p0 p1 0) >>= fun o2 => (
    some ([], ())) >>= fun q => some (o2.1 ++ q.1, q.2)
  partial_fixpoint
def Qe0 (p0 : (List Qab)) (p1 : Int) (v12 : Int) : Option ((List (Qab × Int)) × (Unit)) :=
  if (decide (v12 < (p0.length : Int))) then
    idx p0 v12 >>= fun x3 =>
    ( ( Qci p0 p1 v12 x3 0) >>= fun o5 => (
        Qe0 p0 p1 (wr (v12 + 1))) >>= fun q => some (o5.1 ++ q.1, q.2)) >>= fun q => some ((x3, p1) :: q.1, q.2)
  else
    some ([], ())
  partial_fixpoint
def Qci (p0 : (List Qab)) (p1 : Int) (v12 : Int) (x3 : Qab) (v28 : Int) : Option ((List (Qab × Int)) × (Unit)) :=
  if (decide (v28 < 3)) then
    idx ([x3.L, x3.Then, x3.Else] : List (List Qab)) v28 >>= fun x6 =>
    Qjj x6 (wr (p1 + 1)) >>= fun x7 =>
    Qfe x7.1 x7.2 >>= fun y11 =>
    ( Qez p0 p1 v12 x3 v28 x7 y11.1) >>= fun o13 => (
      Qci p0 p1 v12 x3 (wr (v28 + 1))) >>= fun q => some (o13.1 ++ q.1, q.2)
  else
    some ([], ())
  partial_fixpoint
end
theorem Q0n:(∀ (p0:(List Qab)) (p1:Int) (o:(List (Qab×Int))×Unit),Qfe p0 p1=some o→∀ gxs:List (List V),gxs=o.1.map Qcm→IterOK Tryz.prog 125 [.ep [.sl false (p0.map Qaa)],.ep [iV p1]] gxs)∧(∀ (p0:(List Qab)) (p1:Int) (v12:Int) (o2:(List (Qab×Int))×(Unit)),Qe0 p0 p1 v12=some o2→∀ (gxs gp gpost gq1:List (List V)),gxs=gp++(o2.1.map Qcm++gpost)→gxs=gq1++gpost→TL (0,1) Tryz.prog 44 Qyi (Qs (0,1) 44 gxs (JP1 (0,1) 44 o2.2 (.exit 0) (Qox p0 p1 gxs gq1))) (Qj8 p0 p1 v12 gxs gp))∧(∀ (p0:(List Qab)) (p1:Int) (v12:Int) (x3:Qab) (v28:Int) (o5:(List (Qab×Int))×(Unit)),Qci p0 p1 v12 x3 v28=some o5→∀ (gxs gp gpost gq4:List (List V)),gxs=gp++(o5.1.map Qcm++gpost)→gxs=gq4++gpost→TL (0,1) Tryz.prog 44 Qyh (Qs (0,1) 44 gxs (JP1 (0,1) 44 o5.2 (.exit 2) (Qow p0 p1 v12 x3 gxs gq4))) (Qj7 p0 p1 v12 x3 v28 gxs gp)):=by
 refine Qfe.mutual_partial_correctness _ _ _ ?_ ?_ ?_
 ·intro Qe0' iQe0 p0 p1 o h;intro gxs hg;have hx:gxs=[]++(o.1.map Qcm++[]):=by simp[hg]
  refine IterOK.ofB mixed tbOk Qhq Tryz.func125 rfl (by kernel_rfl) (Nat.le_of_ble_eq_true rfl) rfl ?_;refine view (Qdn _ _) rfl ?_;refine Qxa h hx (fun o2 lgq1 gq1 ho hk hxa hjgq1=>?_);refine Exists.intro (Qs _ _ gxs (JP1 _ _ o2.2 (.exit 0) (Qox p0 p1 gxs gq1))) (And.intro (Qkn (τ := Qj8 p0 p1 0 gxs ([]:List (List V))) ?_ (TL.loop ((iQe0 p0 p1 0 o2 ho) _ _ _ _ hxa hjgq1))) (Qaf4 (Qbe ?_) ?_))
  ·exact Le.tz 1 1 rfl rfl rfl
  ·have h:=hk;have hx:=hjgq1;exact Qadu h hx (.inl rfl) rfl
  ·exact fun s1 h1 h2 hs=>Qaaj (.inr rfl) hs
 ·intro Qe0' Qci' iQe0 iQci p0 p1 v12 o2 h;intro gxs gp gpost gq1 hx hq;refine TL.round (Qas mixed tbOk (lv:=Qhq) _ _ _ ?_);refine Qad h (fun hb h=>?_) (fun hb h=>?_)
  ·refine Qbu (l:=p0) (c:=Qaa) (c' := Qa5) h Qap (fun _=>rfl) (by decide) (fun x3 hi h=>?_);refine Qadv (c:=Qcm) h hx (.refl _) (by exact rfl) (by exact rfl) (fun _ h hx=>?_) ?_
   ·refine bF ?_;refine Qxa h hx (fun o5 lgq4 gq4 ho hk hxa hjgq4=>?_);refine Exists.intro (Qs _ _ gxs (JP1 _ _ o5.2 (.exit 2) (Qow p0 p1 v12 x3 gxs gq4))) (And.intro (Qkn (τ := Qj7 p0 p1 v12 x3 0 gxs (gp++[Qcm (x3,p1)])) ?_ (TL.loop ((iQci p0 p1 v12 x3 0 o5 ho) _ _ _ _ hxa hjgq4))) (Qaf4 (Qbe ?_) ?_))
    ·exact Le.tz 2 1 rfl rfl rfl
    ·have h:=hk;have hx:=hjgq4;refine TL.le (τ := Qj8 p0 p1 (wr (v12+1)) gxs gq4) ?_ ((iQe0 p0 p1 (wr (v12+1)) _ h) _ _ _ _ hx hq);exact Le.tz 1 1 rfl rfl rfl
    ·exact fun s1 h1 h2 hs =>.inr ⟨rfl,s1,.refl _ _ _,h1,h2,hs⟩
   ·refine bT ?_;exact .inr ⟨rfl,_,(Le.env0 _).trans (Le.tow 0 1 rfl .nil (.refl _) rfl),rfl,rfl,rfl⟩
  ·exact .inl (JP1.a (sndI h) (Le.tz 1 1 rfl rfl (Qaf3 h hx hq rfl)))
 ·intro Qfe' Qci' iQfe iQci p0 p1 v12 x3 v28 o5 h;intro gxs gp gpost gq4 hx hq;refine TL.round (Qas mixed tbOk (lv:=Qhq) _ _ _ ?_);refine Qad h (fun hb h=>?_) (fun hb h=>?_)
  ·refine Qahv (l:=([x3.L,x3.Then,x3.Else]:List (List Qab))) (c:=fun x6 =>.sl false (x6.map Qaa)) h rfl rfl rfl rfl (fun x6 hi h=>?_);refine Qat [.sl false (x6.map Qaa),iV (wr (p1+1))] Qnh h (fun x7 hy=>(Qss x6 (wr (p1+1)) x7 hy)) (fun x7 hy h=>?_);refine Qam h (fun y11 hy11 h=>?_);refine Qxa h hx (fun o13 lgq12 gq12 ho hk hxa hjgq12=>?_);refine Exists.intro (Qs _ _ gxs (JP1 _ _ o13.2 .normal (Qov p0 p1 v12 x3 v28 x7 gxs gq12))) (And.intro (Qkn (τ := Qgw p0 p1 v12 x3 v28 x7 gxs gp) ?_ (Q2q (g:=125) (cap:=[.ep [.sl false (x7.1.map Qaa)],.ep [iV x7.2]]) rfl ((iQfe x7.1 x7.2 y11 hy11) _ rfl) (Qx6 fun _=>rfl) rfl (Nat.le_of_ble_eq_true rfl) (Nat.le_of_ble_eq_true rfl) ((Qab1 p0 p1 v12 x3 v28 x7 y11.1 o13 ho) _ _ _ _ hxa hjgq12))) (Qaf4 (Qbe ?_) ?_))
   ·exact Le.tz 2 1 rfl rfl rfl
   ·have h:=hk;have hx:=hjgq12;refine TL.le (τ := Qj7 p0 p1 v12 x3 (wr (v28+1)) gxs gq12) ?_ ((iQci p0 p1 v12 x3 (wr (v28+1)) _ h) _ _ _ _ hx hq);exact Le.tz 2 1 rfl rfl rfl
   ·exact fun s1 h1 h2 hs =>.inr ⟨rfl,s1,.refl _ _ _,h1,h2,hs⟩
  ·exact .inl (JP1.a (sndI h) (Le.tz 2 1 rfl rfl (Qaf3 h hx hq rfl)))
theorem Qtu:∀ (p0:(List Qab)) (p1:Int) (o:(List (Qab×Int))×Unit),Qfe p0 p1=some o→∀ gxs:List (List V),gxs=o.1.map Qcm→IterOK Tryz.prog 125 [.ep [.sl false (p0.map Qaa)],.ep [iV p1]] gxs:=fun p0 p1=>Q0n.1 p0 p1
def Qnk (p0:(List Qab)):Option (Int) :=
 Qjj p0 1>>=fun x1 =>
 Qfe x1.1 x1.2>>=fun y5 =>
 (Qey x1 y5.1 0)>>=fun o6 =>
 some o6
theorem Q3q:∀ (p0:(List Qab)) (o:Int),Qnk p0=some o→PCall Tryz.prog 71 [.sl false (p0.map Qaa)] (Qp7 o):=by
 intro p0 o h;unfold Qnk at h;refine PCall.ofB mixed tbOk Qoa Tryz.func71 rfl (by kernel_rfl) (Nat.le_of_ble_eq_true rfl) ?_;refine Qat [.sl false (p0.map Qaa),iV 1] Qnh h (fun x1 hy=>(Qss p0 1 x1 hy)) (fun x1 hy h=>?_);refine Qam h (fun y5 hy5 h=>?_);refine Qam h (fun o6 ho hk=>?_);refine Exists.intro (JP1 _ _ o6 .normal (Qou x1)) (And.intro (Qkn (τ := Qgv x1 0) ?_ (Q2q (g:=125) (cap:=[.ep [.sl false (x1.1.map Qaa)],.ep [iV x1.2]]) rfl ((Qtu x1.1 x1.2 y5 hy5) _ rfl) (Qx6 fun _=>rfl) rfl (Nat.le_of_ble_eq_true rfl) (Nat.le_of_ble_eq_true rfl) (Qab0 x1 y5.1 0 o6 ho))) (Qbe ?_))
 ·exact Le.tz 1 0 rfl rfl rfl
 have h:=hk;refine Qav (t:=Qp7) h ?_;exact .refl _
def Qft (x1:(List Qab)×Int) (l4:(List (Qab×Int))) (h0_0:Int):Option (Int) :=
 match l4 with
 | [] =>
  some h0_0
 | x2::r3 =>
  Qft x1 r3 (if x2.2>h0_0 then x2.2 else h0_0)
 partial_fixpoint
theorem Qacg:∀ (x1:(List Qab)×Int),(∀ (l4:(List (Qab×Int))) (h0_0:Int) (o6:Int),Qft x1 l4 h0_0=some o6→RL 1 0 Tryz.prog 14 (rgP Qmr) (rgA Qmr) (rgB Qmr) (Qhp x1 h0_0).env (JP1 (0,0) 14 o6 .normal (Qp9 x1)) (l4.map Qcm) (Qhp x1 h0_0).s):=by
 intro x1;refine Qft.partial_correctness x1 _ ?_;intro Qft' iQft l4 h0_0 o6 h;cases l4 with
 | nil =>
  refine Qaai ?_;exact JP1.a h (Le.tz 1 0 rfl rfl rfl)
 | cons x2 r3 =>
  refine Q2v (Qas mixed tbOk (lv:=Qp8) _ _ _ ?_);refine And.intro rfl (Qas mixed tbOk (lv:=Qp8) _ _ _ ?_);exact Exists.intro (Qhp x1 (if x2.2>h0_0 then x2.2 else h0_0)).s (And.intro (Le.tz 1 0 rfl rfl rfl) (And.intro rfl (And.intro rfl ((iQft r3 (if x2.2>h0_0 then x2.2 else h0_0) _ h)))))
def Qqd (p0:(List Qab)):Option (Int) :=
 Qjj p0 1>>=fun x1 =>
 Qfe x1.1 x1.2>>=fun y5 =>
 (Qft x1 y5.1 0)>>=fun o6 =>
 some o6
theorem Q6w:∀ (p0:(List Qab)) (o:Int),Qqd p0=some o→PCall Tryz.prog 70 [.sl false (p0.map Qaa)] (Qsp o):=by
 intro p0 o h;unfold Qqd at h;refine PCall.ofB mixed tbOk Qp8 Tryz.func70 rfl (by kernel_rfl) (Nat.le_of_ble_eq_true rfl) ?_;refine Qat [.sl false (p0.map Qaa),iV 1] Qnh h (fun x1 hy=>(Qss p0 1 x1 hy)) (fun x1 hy h=>?_);refine Qam h (fun y5 hy5 h=>?_);refine Qam h (fun o6 ho hk=>?_);refine Exists.intro (JP1 _ _ o6 .normal (Qp9 x1)) (And.intro (Qkn (τ := Qhp x1 0) ?_ (Q2q (g:=125) (cap:=[.ep [.sl false (x1.1.map Qaa)],.ep [iV x1.2]]) rfl ((Qtu x1.1 x1.2 y5 hy5) _ rfl) (Qx6 fun _=>rfl) rfl (Nat.le_of_ble_eq_true rfl) (Nat.le_of_ble_eq_true rfl) (Qacg x1 y5.1 0 o6 ho))) (Qbe ?_))
 ·exact Le.tz 1 0 rfl rfl rfl
 have h:=hk;refine Qav (t:=Qsp) h ?_;exact .refl _
def Qcc (p0:(List UInt8)) (p1:(List UInt8)):Option (Bool) :=
 ( if(decide ((p0.length:Int) ≥ (p1.length:Int))) then
   cutL p0 (wr ((p0.length:Int)-(p1.length:Int))) (p0.length:Int)>>=fun x2 =>
   some (x2==p1)
  else
   some false:Option (Bool))>>=fun o1 =>
 some o1
theorem Qht:∀ (p0:(List UInt8)) (p1:(List UInt8)) (o:Bool),Qcc p0 p1=some o→PCall Tryz.prog 129 [sV p0,sV p1] (Qcx o):=by
 intro p0 p1 o h;unfold Qcc at h;refine PCall.ofB mixed tbOk Qhm Tryz.func129 rfl (by kernel_rfl) (Nat.le_of_ble_eq_true rfl) ?_;refine Qam h (fun o1 ho hk=>?_);refine Exists.intro (JP1 _ _ o1 .normal (Qg1 )) (And.intro ?_ (Qbe ?_))
 ·have h:=ho;refine vrfl ?_;refine vrfl ?_;refine Qad h (fun hb h=>?_) (fun hb h=>?_)
  ·refine vrfl ?_;refine vrfl ?_;refine Qj4 (some (wr ((p0.length:Int)-(p1.length:Int)))) none h (fun x2 hi h=>?_);refine JP1.a h ?_;exact Le.tz 0 0 rfl rfl rfl
  ·refine JP1.a h ?_;exact Le.tz 0 0 rfl rfl rfl
 ·have h:=hk;refine Qav (t:=Qcx) h ?_;exact .refl _
def Qcn (p0:(List UInt8)) (p1:(List UInt8)):Option (Bool) :=
 Qcc p0 p1>>=fun x1 =>
 some x1
theorem Qen:∀ (p0:(List UInt8)) (p1:(List UInt8)) (o:Bool),Qcn p0 p1=some o→PCall Tryz.prog 98 [sV p0,sV p1] (Qc4 o):=by
 intro p0 p1 o h;unfold Qcn at h;refine PCall.ofB mixed tbOk Qrl Tryz.func98 rfl (by kernel_rfl) (Nat.le_of_ble_eq_true rfl) ?_;refine Qat [sV p0,sV p1] Qcx h (fun x1 hy=>(Qht p0 p1 x1 hy)) (fun x1 hy h=>?_);refine Qav (t:=Qc4) h ?_;exact .refl _
def Qc0 (p0:(List UInt8)) (p1:(List UInt8)):Option (Int) :=
 need (p0.length<4294967281)>>=fun _ =>
 some (Lib.index p0 p1)
theorem Qka:∀ (p0:(List UInt8)) (p1:(List UInt8)) (o:Int),Qc0 p0 p1=some o→PCall Tryz.prog 167 [sV p0,sV p1] (Qfk o):=by
 intro p0 p1 o h;unfold Qc0 at h;obtain⟨h1,h⟩:=Q6d h;cases h;exact Qaf6 _ _ h1
def Qkv (p0:(List UInt8)) (p1:(List UInt8)):Option (Int) :=
 Qc0 p0 p1>>=fun x1 =>
 some x1
theorem Qwj:∀ (p0:(List UInt8)) (p1:(List UInt8)) (o:Int),Qkv p0 p1=some o→PCall Tryz.prog 153 [sV p0,sV p1] (Qlf o):=by
 intro p0 p1 o h;unfold Qkv at h;refine PCall.ofB mixed tbOk Qwi Tryz.func153 rfl (by kernel_rfl) (Nat.le_of_ble_eq_true rfl) ?_;refine Qat [sV p0,sV p1] Qfk h (fun x1 hy=>(Qka p0 p1 x1 hy)) (fun x1 hy h=>?_);refine Qav (t:=Qlf) h ?_;exact .refl _
def Qfb (p0:(List UInt8)) (p1:(List UInt8)):Option (Bool) :=
 Qkv p0 p1>>=fun x1 =>
 some (decide (x1 ≥ 0))
theorem Qst:∀ (p0:(List UInt8)) (p1:(List UInt8)) (o:Bool),Qfb p0 p1=some o→PCall Tryz.prog 127 [sV p0,sV p1] (Qho o):=by
 intro p0 p1 o h;unfold Qfb at h;refine PCall.ofB mixed tbOk Qso Tryz.func127 rfl (by kernel_rfl) (Nat.le_of_ble_eq_true rfl) ?_;refine Qat [sV p0,sV p1] Qlf h (fun x1 hy=>(Qwj p0 p1 x1 hy)) (fun x1 hy h=>?_);refine Qav (t:=Qho) h ?_;exact .refl _
def Qnl (p0:Int):Option (Bool) :=
 ( if(decide (p0 ≥ 48)) then
   some (decide (p0≤57))
  else
   some false:Option (Bool))>>=fun o1 =>
 some o1
theorem Qv2:∀ (p0:Int) (o:Bool),Qnl p0=some o→PCall Tryz.prog 124 [nV .u8 p0] (Qn9 o):=by
 intro p0 o h;unfold Qnl at h;refine PCall.ofB mixed tbOk Q6m Tryz.func124 rfl (by kernel_rfl) (Nat.le_of_ble_eq_true rfl) ?_;refine Qam h (fun o1 ho hk=>?_);refine Exists.intro (JP1 _ _ o1 .normal (Qz7 )) (And.intro ?_ (Qbe ?_))
 ·have h:=ho;refine Qad h (fun hb h=>?_) (fun hb h=>?_)
  ·refine JP1.a h ?_;exact Le.tz 0 0 rfl rfl rfl
  ·refine JP1.a h ?_;exact Le.tz 0 0 rfl rfl rfl
 ·have h:=hk;refine Qav (t:=Qn9) h ?_;exact .refl _
def Qnm (p0:Int):Option (Bool) :=
 ( if(decide (p0 ≥ 97)) then
   if(decide (p0≤122)) then
    some true
   else
    Qnl p0>>=fun x2 =>
    if x2 then
     some true
    else
     some (p0==95)
  else
   Qnl p0>>=fun x3 =>
   if x3 then
    some true
   else
    some (p0==95):Option (Bool))>>=fun o1 =>
 some o1
theorem Q3r:∀ (p0:Int) (o:Bool),Qnm p0=some o→PCall Tryz.prog 95 [nV .u8 p0] (Qp6 o):=by
 intro p0 o h;unfold Qnm at h;refine PCall.ofB mixed tbOk Q3e Tryz.func95 rfl (by kernel_rfl) (Nat.le_of_ble_eq_true rfl) ?_;refine Qam h (fun o1 ho hk=>?_);refine Exists.intro (JP1 _ _ o1 .normal (Qyf )) (And.intro ?_ (Qbe ?_))
 ·have h:=ho;refine Qad h (fun hb h=>?_) (fun hb h=>?_)
  ·refine Qad h (fun hb h=>?_) (fun hb h=>?_)
   ·refine bT ?_;refine JP1.a h ?_;exact Le.tz 0 0 rfl rfl rfl
   ·refine Qat [nV .u8 p0] Qn9 h (fun x2 hy=>(Qv2 p0 x2 hy)) (fun x2 hy h=>?_);refine Qad h (fun hb h=>?_) (fun hb h=>?_)
    ·refine JP1.a h ?_;exact Le.tz 0 0 rfl rfl rfl
    ·refine JP1.a h ?_;exact Le.tz 0 0 rfl rfl rfl
  ·refine bF ?_;refine Qat [nV .u8 p0] Qn9 h (fun x3 hy=>(Qv2 p0 x3 hy)) (fun x3 hy h=>?_);refine Qad h (fun hb h=>?_) (fun hb h=>?_)
   ·refine JP1.a h ?_;exact Le.tz 0 0 rfl rfl rfl
   ·refine JP1.a h ?_;exact Le.tz 0 0 rfl rfl rfl
 ·have h:=hk;refine Qav (t:=Qp6) h ?_;exact .refl _
def Qg5 (p0:(List UInt8)) (v6:Int):Option (Unit⊕Unit) :=
 if(decide (v6<(p0.length:Int))) then
  idx p0 v6>>=fun x4 =>
  Qnm (x4.toNat:Int)>>=fun x5 =>
  if(!x5) then
   some (.inr ())
  else
   Qg5 p0 (wr (v6+1))
 else
  some (.inl ())
 partial_fixpoint
theorem Qaed:∀ (p0:(List UInt8)),(∀ (v6:Int) (o1:Unit⊕Unit),Qg5 p0 v6=some o1→TL (0,0) Tryz.prog 27 Q3c (JP2 (0,0) 27 o1 (.exit 0) (Qr7 p0) .ret (Qr8 p0)) (Qmq p0 v6)):=by
 intro p0;refine Qg5.partial_correctness p0 _ ?_;intro Qg5' iQg5 v6 o1 h;refine TL.round (Qas mixed tbOk (lv:=Qye) _ _ _ ?_);refine Qad h (fun hb h=>?_) (fun hb h=>?_)
 ·refine Qd8 h (fun x4 hi h=>?_);refine Qat [nV .u8 (x4.toNat:Int)] Qp6 h (fun x5 hy=>(Q3r (x4.toNat:Int) x5 hy)) (fun x5 hy h=>?_);refine Qad h (fun hb h=>?_) (fun hb h=>?_)
  ·exact JP2.b h (Le.tz 0 0 rfl rfl rfl)
  ·refine TL.le (τ := Qmq p0 (wr (v6+1))) ?_ ((iQg5 (wr (v6+1)) _ h));exact Le.tz 0 0 rfl rfl rfl
 ·exact JP2.a h (Le.tz 0 0 rfl rfl rfl)
def Qoe (p0:(List UInt8)):Option (Bool) :=
 (Qg5 p0 0)>>=fun o1 =>
 match o1 with
 | .inl y2 =>
  ( if(!(p0==[])) then
    if(decide ((p0.length:Int)≤32)) then
     idx p0 0>>=fun x7 =>
     some (decide ((x7.toNat:Int) ≥ 97))
    else
     some false
   else
    some false:Option (Bool))>>=fun o6 =>
  some o6
 | .inr y3 =>
  some false
theorem Qsu:∀ (p0:(List UInt8)) (o:Bool),Qoe p0=some o→PCall Tryz.prog 69 [sV p0] (Qk1 o):=by
 intro p0 o h;unfold Qoe at h;refine PCall.ofB mixed tbOk Qye Tryz.func69 rfl (by kernel_rfl) (Nat.le_of_ble_eq_true rfl) ?_;refine vrfl ?_;refine Qam h (fun o1 ho hk=>?_);refine Exists.intro (JP2 _ _ o1 (.exit 0) (Qr7 p0) .ret (Qr8 p0)) (And.intro (Qkn (τ := Qmq p0 0) ?_ (TL.loop (Qaed p0 0 o1 ho))) (Qin (fun y2 hy=>?_) (fun y3 hy=>?_)))
 ·exact Le.tz 0 0 rfl rfl rfl
 ·have h:=(by rw[hy] at hk; exact hk);refine Qam h (fun o6 ho hk=>?_);refine Exists.intro (JP1 _ _ o6 .normal (Q3d )) (And.intro ?_ (Qbe ?_))
  ·have h:=ho;refine Qad h (fun hb h=>?_) (fun hb h=>?_)
   ·refine vrfl ?_;refine Qad h (fun hb h=>?_) (fun hb h=>?_)
    ·refine Qd8 h (fun x7 hi h=>?_);refine JP1.a h ?_;exact Le.tz 0 0 rfl rfl rfl
    ·refine JP1.a h ?_;exact Le.tz 0 0 rfl rfl rfl
   ·refine bF ?_;refine JP1.a h ?_;exact Le.tz 0 0 rfl rfl rfl
  ·have h:=hk;refine Qav (t:=Qk1) h ?_;exact .refl _
 ·have h:=(by rw[hy] at hk; exact hk);refine Qav (t:=Qk1) h ?_;exact .refl _
def Qhu (p0:(List UInt8)):Option (Bool) :=
 ( if(p0==[105,102]) then
   some (p0==[105,102])
  else
   if(p0==[101,108,115,101]) then
    some (p0==[101,108,115,101])
   else
    if(p0==[101,110,100]) then
     some (p0==[101,110,100])
    else
     if(p0==[101,97,99,104]) then
      some (p0==[101,97,99,104])
     else
      if(p0==[105,110]) then
       some (p0==[105,110])
      else
       if(p0==[108,101,116]) then
        some (p0==[108,101,116])
       else
        if(p0==[117,115,101]) then
         some (p0==[117,115,101])
        else
         if(p0==[116,114,117,101]) then
          some (p0==[116,114,117,101])
         else
          if(p0==[102,97,108,115,101]) then
           some (p0==[102,97,108,115,101])
          else
           some (p0==[115,101,99,114,101,116]):Option (Bool))>>=fun o1 =>
 if o1 then
  some false
 else
  Qoe p0>>=fun x2 =>
  some x2
theorem Qjr:∀ (p0:(List UInt8)) (o:Bool),Qhu p0=some o→PCall Tryz.prog 37 [sV p0] (Qfr o):=by
 intro p0 o h;unfold Qhu at h;refine PCall.ofB mixed tbOk Q6o Tryz.func37 rfl (by kernel_rfl) (Nat.le_of_ble_eq_true rfl) ?_;refine Qam h (fun o1 ho hk=>?_);refine Exists.intro (JP1 _ _ o1 .normal (Qz8 p0)) (And.intro ?_ (Qbe ?_))
 ·have h:=ho;refine Qad h (fun hb h=>?_) (fun hb h=>?_)
  ·refine JP1.a h ?_;exact Le.tz 0 0 rfl rfl rfl
  ·refine Qad h (fun hb h=>?_) (fun hb h=>?_)
   ·refine JP1.a h ?_;exact Le.tz 0 0 rfl rfl rfl
   ·refine Qad h (fun hb h=>?_) (fun hb h=>?_)
    ·refine JP1.a h ?_;exact Le.tz 0 0 rfl rfl rfl
    ·refine Qad h (fun hb h=>?_) (fun hb h=>?_)
     ·refine JP1.a h ?_;exact Le.tz 0 0 rfl rfl rfl
     ·refine Qad h (fun hb h=>?_) (fun hb h=>?_)
      ·refine JP1.a h ?_;exact Le.tz 0 0 rfl rfl rfl
      ·refine Qad h (fun hb h=>?_) (fun hb h=>?_)
       ·refine JP1.a h ?_;exact Le.tz 0 0 rfl rfl rfl
       ·refine Qad h (fun hb h=>?_) (fun hb h=>?_)
        ·refine JP1.a h ?_;exact Le.tz 0 0 rfl rfl rfl
        ·refine Qad h (fun hb h=>?_) (fun hb h=>?_)
         ·refine JP1.a h ?_;exact Le.tz 0 0 rfl rfl rfl
         ·refine Qad h (fun hb h=>?_) (fun hb h=>?_)
          ·refine JP1.a h ?_;exact Le.tz 0 0 rfl rfl rfl
          ·refine JP1.a h ?_;exact Le.tz 0 0 rfl rfl rfl
 ·have h:=hk;refine Qad h (fun hb h=>?_) (fun hb h=>?_)
  ·refine Qav (t:=Qfr) h ?_;exact .refl _
  ·refine Qat [sV p0] Qk1 h (fun x2 hy=>(Qsu p0 x2 hy)) (fun x2 hy h=>?_);refine Qav (t:=Qfr) h ?_;exact .refl _
def Qda (p0:(List UInt8)) (v4:(List Int)) (v18:Int):Option ((List Int)) :=
 if(decide (v18<(p0.length:Int))) then
  idx p0 v18>>=fun x5 =>
  if((x5.toNat:Int)==10) then
   appL 1 v4 (s2b [92,110])>>=fun x6 =>
   Qda p0 x6 (wr (v18+1))
  else
   if((x5.toNat:Int)==9) then
    appL 1 v4 (s2b [92,116])>>=fun x7 =>
    Qda p0 x7 (wr (v18+1))
   else
    ( if((x5.toNat:Int)==34) then
      some ((x5.toNat:Int)==34)
     else
      some ((x5.toNat:Int)==92):Option (Bool))>>=fun o8 =>
    if o8 then
     appL 1 v4 [92,(x5.toNat:Int)]>>=fun x9 =>
     Qda p0 x9 (wr (v18+1))
    else
     appL 1 v4 [(x5.toNat:Int)]>>=fun x10 =>
     Qda p0 x10 (wr (v18+1))
 else
  some v4
 partial_fixpoint
theorem Qach:∀ (p0:(List UInt8)),(∀ (v4:(List Int)) (v18:Int) (o4:(List Int)),Qda p0 v4 v18=some o4→TL (0,0) Tryz.prog 49 Qz6 (JP1 (0,0) 49 o4 (.exit 0) (Qp5 p0)) (Qeo p0 v4 v18)):=by
 intro p0;refine Qda.partial_correctness p0 _ ?_;intro Qda' iQda v4 v18 o4 h;refine TL.round (Qas mixed tbOk (lv:=Qvq) _ _ _ ?_);refine Qad h (fun hb h=>?_) (fun hb h=>?_)
 ·refine Qd8 h (fun x5 hi h=>?_);refine Qad h (fun hb h=>?_) (fun hb h=>?_)
  ·refine Qaah (a:=v4) (b:=[92,110]) h rfl (fun x6 hi h=>?_);refine TL.le (τ := Qeo p0 x6 (wr (v18+1))) ?_ ((iQda x6 (wr (v18+1)) _ h));exact Le.tz 0 1 rfl rfl rfl
  ·refine Qad h (fun hb h=>?_) (fun hb h=>?_)
   ·refine Qaah (a:=v4) (b:=[92,116]) h rfl (fun x7 hi h=>?_);refine TL.le (τ := Qeo p0 x7 (wr (v18+1))) ?_ ((iQda x7 (wr (v18+1)) _ h));exact Le.tz 0 1 rfl rfl rfl
   ·refine Qam h (fun o8 ho hk=>?_);refine Exists.intro (JP1 _ _ o8 .normal (Qz5 p0 v4 v18 x5)) (And.intro ?_ (Qbe ?_))
    ·have h:=ho;refine Qad h (fun hb h=>?_) (fun hb h=>?_)
     ·refine JP1.a h ?_;exact Le.tz 0 1 rfl rfl rfl
     ·refine JP1.a h ?_;exact Le.tz 0 1 rfl rfl rfl
    ·have h:=hk;refine Qad h (fun hb h=>?_) (fun hb h=>?_)
     ·refine Qpv (a:=v4) (b:=[92,(x5.toNat:Int)]) (c:=(cNum .u8)) h (.refl _) (fun _=>rfl) rfl (fun x9 hi h=>?_);refine TL.le (τ := Qeo p0 x9 (wr (v18+1))) ?_ ((iQda x9 (wr (v18+1)) _ h));exact Le.tz 0 1 rfl rfl rfl
     ·refine Qpv (a:=v4) (b:=[(x5.toNat:Int)]) (c:=(cNum .u8)) h (.refl _) (fun _=>rfl) rfl (fun x10 hi h=>?_);refine TL.le (τ := Qeo p0 x10 (wr (v18+1))) ?_ ((iQda x10 (wr (v18+1)) _ h));exact Le.tz 0 1 rfl rfl rfl
 ·exact JP1.a h (Le.tz 0 1 rfl rfl rfl)
def Qcd (p0:(List UInt8)) (p1:Int):Option (Int) :=
 some (Lib.indexByte p0 p1.toNat.toUInt8)
theorem Qhv:∀ (p0:(List UInt8)) (p1:Int) (o:Int),Qcd p0 p1=some o→PCall Tryz.prog 174 [sV p0,nV .u8 p1] (Qek o):=by
 intro p0 p1 o h;unfold Qcd at h;cases h;exact Q6e _ _
def Qgc (p0:(List UInt8)) (p1:Int):Option (Int) :=
 Qcd p0 p1>>=fun x1 =>
 some x1
theorem Qrn:∀ (p0:(List UInt8)) (p1:Int) (o:Int),Qgc p0 p1=some o→PCall Tryz.prog 169 [sV p0,nV .u8 p1] (Qg2 o):=by
 intro p0 p1 o h;unfold Qgc at h;refine PCall.ofB mixed tbOk Qrm Tryz.func169 rfl (by kernel_rfl) (Nat.le_of_ble_eq_true rfl) ?_;refine Qat [sV p0,nV .u8 p1] Qek h (fun x1 hy=>(Qhv p0 p1 x1 hy)) (fun x1 hy h=>?_);refine Qav (t:=Qg2) h ?_;exact .refl _
def Qjs (x1:(List UInt8)) (l4:(List (Int×Int))):Option (Unit⊕Unit) :=
 match l4 with
 | [] =>
  some (.inl ())
 | x2::r3 =>
  ( if(x2.1==65533) then
    some (x2.2==1)
   else
    some false:Option (Bool))>>=fun o9 =>
  if o9 then
   some (.inr ())
  else
   Qjs x1 r3
 partial_fixpoint
theorem Qaga:∀ (x1:(List UInt8)),(∀ (l4:(List (Int×Int))) (o6:Unit⊕Unit),Qjs x1 l4=some o6→RL 1 0 Tryz.prog 15 (rgP Qsq) (rgA Qsq) (rgB Qsq) (Ql5 x1).env (JP2 (0,0) 15 o6 .normal (Qvr x1) .ret (Qvs x1)) (l4.map Qiz) (Ql5 x1).s):=by
 intro x1;refine Qjs.partial_correctness x1 _ ?_;intro Qjs' iQjs l4 o6 h;cases l4 with
 | nil =>
  refine Qaai ?_;exact JP2.a h (Le.tz 1 0 rfl rfl rfl)
 | cons x2 r3 =>
  refine Q2v (Qas mixed tbOk (lv:=Qym) _ _ _ ?_);refine And.intro rfl (Qas mixed tbOk (lv:=Qym) _ _ _ ?_);refine Qam h (fun o9 ho hk=>?_);refine Exists.intro (JP1 _ _ o9 .normal (Q8x x1 x2)) (And.intro ?_ (Qbe ?_))
  ·have h:=ho;refine Qad h (fun hb h=>?_) (fun hb h=>?_)
   ·refine JP1.a h ?_;exact Le.tz 1 0 rfl rfl rfl
   ·refine JP1.a h ?_;exact Le.tz 1 0 rfl rfl rfl
  ·have h:=hk;refine Qad h (fun hb h=>?_) (fun hb h=>?_)
   ·exact Exists.intro (⟨[[.p (bV false)]],[]⟩:S) (And.intro (Le.tow 1 0 rfl .nil (.refl _) rfl) (And.intro rfl (And.intro rfl (JP2.b h (Le.tz 1 0 rfl rfl rfl)))))
   ·exact Exists.intro (Ql5 x1 ).s (And.intro (Le.tz 1 0 rfl rfl rfl) (And.intro rfl (And.intro rfl ((iQjs r3 _ h)))))
def Q3s (p0:(List UInt8)):Option ((List UInt8)) :=
 some p0
theorem Qab2:∀ (p0:(List UInt8)) (o:(List UInt8)),Q3s p0=some o→PCall Tryz.prog 178 [sV p0] (Qyn o):=by
 intro p0 o h;unfold Q3s at h;refine PCall.ofM mixed tbOk Qabx Tryz.func178 rfl (by kernel_rfl) (Nat.le_of_ble_eq_true rfl) ?_;refine Qav (t:=Qyn) h ?_;exact .refl _
def Q1u (p0:Int):Option (Bool) :=
 ( if(decide (p0 ≥ 0)) then
   if(decide (p0≤1114111)) then
    if(decide (p0<55296)) then
     some true
    else
     some (decide (p0>57343))
   else
    some false
  else
   some false:Option (Bool))>>=fun o1 =>
 some o1
theorem Qaee:∀ (p0:Int) (o:Bool),Q1u p0=some o→PCall Tryz.prog 188 [nV .i32 p0] (Q3m o):=by
 intro p0 o h;unfold Q1u at h;refine PCall.ofB mixed tbOk Qad6 Tryz.func188 rfl (by kernel_rfl) (Nat.le_of_ble_eq_true rfl) ?_;refine Qam h (fun o1 ho hk=>?_);refine Exists.intro (JP1 _ _ o1 .normal (Q8z )) (And.intro ?_ (Qbe ?_))
 ·have h:=ho;refine Qad h (fun hb h=>?_) (fun hb h=>?_)
  ·refine Qad h (fun hb h=>?_) (fun hb h=>?_)
   ·refine Qad h (fun hb h=>?_) (fun hb h=>?_)
    ·refine JP1.a h ?_;exact Le.tz 0 0 rfl rfl rfl
    ·refine JP1.a h ?_;exact Le.tz 0 0 rfl rfl rfl
   ·refine JP1.a h ?_;exact Le.tz 0 0 rfl rfl rfl
  ·refine bF ?_;refine JP1.a h ?_;exact Le.tz 0 0 rfl rfl rfl
 ·have h:=hk;refine Qav (t:=Q3m) h ?_;exact .refl _
def Qg6 (p0:(List UInt8)) (p2:Int) (v1:Int) (v14:Int):Option (Int⊕Unit) :=
 if(decide (v14<p2)) then
  idx p0 v14>>=fun x4 =>
  if((bits .and .u8 (x4.toNat:Int) 192) != 128) then
   some (.inr ())
  else
   idx p0 v14>>=fun x5 =>
   Qg6 p0 p2 (bits .or .i32 (IntKind.i32.wrap (v1*2 ^ (min (6:Int).toNat (IntKind.i32.bits)))) (IntKind.i32.wrap (bits .and .u8 (x5.toNat:Int) 63))) (wr (v14+1))
 else
  some (.inl v1)
 partial_fixpoint
theorem Qaef:∀ (p0:(List UInt8)) (p2:Int),(∀ (v1:Int) (v14:Int) (o1:Int⊕Unit),Qg6 p0 p2 v1 v14=some o1→TL (0,0) Tryz.prog 32 Q3n (JP2 (0,0) 32 o1 (.exit 0) (Qr9 p0 p2) .ret (Qsa p0 p2)) (Qms p0 p2 v1 v14)):=by
 intro p0 p2;refine Qg6.partial_correctness p0 p2 _ ?_;intro Qg6' iQg6 v1 v14 o1 h;refine TL.round (Qas mixed tbOk (lv:=Qyo) _ _ _ ?_);refine Qad h (fun hb h=>?_) (fun hb h=>?_)
 ·refine Qd8 h (fun x4 hi h=>?_);refine Qad h (fun hb h=>?_) (fun hb h=>?_)
  ·exact JP2.b h (Le.tz 0 0 rfl rfl rfl)
  ·refine And.intro (by decide) ?_;refine Qd8 h (fun x5 hi h=>?_);refine vrfl ?_;refine TL.le (τ := Qms p0 p2 (bits .or .i32 (IntKind.i32.wrap (v1*2 ^ (min (6:Int).toNat (IntKind.i32.bits)))) (IntKind.i32.wrap (bits .and .u8 (x5.toNat:Int) 63))) (wr (v14+1))) ?_ ((iQg6 (bits .or .i32 (IntKind.i32.wrap (v1*2 ^ (min (6:Int).toNat (IntKind.i32.bits)))) (IntKind.i32.wrap (bits .and .u8 (x5.toNat:Int) 63))) (wr (v14+1)) _ h));exact Le.tz 0 0 rfl rfl rfl
 ·exact JP2.a h (Le.tz 0 0 rfl rfl rfl)
def Qrb (p0:(List UInt8)) (p1:Int) (p2:Int):Option (Int×Bool) :=
 if(decide ((p0.length:Int)<p2)) then
  some (0,false)
 else
  (Qg6 p0 p2 p1 0)>>=fun o1 =>
  match o1 with
  | .inl y2 =>
   some (y2,true)
  | .inr y3 =>
   some (0,false)
theorem Q83:∀ (p0:(List UInt8)) (p1:Int) (p2:Int) (o:Int×Bool),Qrb p0 p1 p2=some o→PCall Tryz.prog 187 [sV p0,nV .i32 p1,iV p2] (Qni o):=by
 intro p0 p1 p2 o h;unfold Qrb at h;refine PCall.ofB mixed tbOk Qyo Tryz.func187 rfl (by kernel_rfl) (Nat.le_of_ble_eq_true rfl) ?_;refine vrfl ?_;refine Qad h (fun hb h=>?_) (fun hb h=>?_)
 ·refine Qav (t:=Qni) h ?_;exact .refl _
 ·refine Qam h (fun o1 ho hk=>?_);refine Exists.intro (JP2 _ _ o1 (.exit 0) (Qr9 p0 p2) .ret (Qsa p0 p2)) (And.intro (Qkn (τ := Qms p0 p2 p1 0) ?_ (TL.loop (Qaef p0 p2 p1 0 o1 ho))) (Qin (fun y2 hy=>?_) (fun y3 hy=>?_)))
  ·exact Le.tz 0 0 rfl rfl rfl
  ·have h:=(by rw[hy] at hk; exact hk);refine Qav (t:=Qni) h ?_;exact .refl _
  ·have h:=(by rw[hy] at hk; exact hk);refine Qav (t:=Qni) h ?_;exact .refl _
def Qtv (p0:(List UInt8)) (p1:Int):Option (Int×Int) :=
 ( if(decide (p1<0)) then
   some true
  else
   some (decide (p1 ≥ (p0.length:Int))):Option (Bool))>>=fun o1 =>
 if o1 then
  some (0,0)
 else
  idx p0 p1>>=fun x2 =>
  ( if(decide ((x2.toNat:Int)<128)) then
    some (.inr (IntKind.i32.wrap (x2.toNat:Int)))
   else
    ( if(decide ((x2.toNat:Int) ≥ 192)) then
      some (decide ((x2.toNat:Int)<224))
     else
      some false:Option (Bool))>>=fun o6 =>
    if o6 then
     some (.inl ((IntKind.i32.wrap (bits .and .u8 (x2.toNat:Int) 31)),128,1))
    else
     ( if(decide ((x2.toNat:Int) ≥ 224)) then
       some (decide ((x2.toNat:Int)<240))
      else
       some false:Option (Bool))>>=fun o7 =>
     if o7 then
      some (.inl ((IntKind.i32.wrap (bits .and .u8 (x2.toNat:Int) 15)),2048,2))
     else
      ( if(decide ((x2.toNat:Int) ≥ 240)) then
        some (decide ((x2.toNat:Int)<248))
       else
        some false:Option (Bool))>>=fun o8 =>
      if o8 then
       some (.inl ((IntKind.i32.wrap (bits .and .u8 (x2.toNat:Int) 7)),65536,3))
      else
       some (.inr 65533):Option ((Int×Int×Int)⊕Int))>>=fun o3 =>
  match o3 with
  | .inl y4 =>
   cutL p0 (wr (p1+1)) (p0.length:Int)>>=fun x9 =>
   Qrb x9 y4.1 y4.2.2>>=fun x10 =>
   ( if(!x10.2) then
     some true
    else
     if(decide (x10.1<y4.2.1)) then
      some true
     else
      Q1u x10.1>>=fun x12 =>
      some (!x12):Option (Bool))>>=fun o11 =>
   if o11 then
    some (65533,1)
   else
    some (x10.1,(wr (y4.2.2+1)))
  | .inr y5 =>
   some (y5,1)
theorem Q84:∀ (p0:(List UInt8)) (p1:Int) (o:Int×Int),Qtv p0 p1=some o→PCall Tryz.prog 186 [sV p0,iV p1] (Qk2 o):=by
 intro p0 p1 o h;unfold Qtv at h;refine PCall.ofB mixed tbOk Q8y Tryz.func186 rfl (by kernel_rfl) (Nat.le_of_ble_eq_true rfl) ?_;refine Qam h (fun o1 ho hk=>?_);refine Exists.intro (JP1 _ _ o1 .normal (Q3f p0 p1)) (And.intro ?_ (Qbe ?_))
 ·have h:=ho;refine Qad h (fun hb h=>?_) (fun hb h=>?_)
  ·refine JP1.a h ?_;exact Le.tz 0 0 rfl rfl rfl
  ·refine vrfl ?_;refine JP1.a h ?_;exact Le.tz 0 0 rfl rfl rfl
 ·have h:=hk;refine Qad h (fun hb h=>?_) (fun hb h=>?_)
  ·refine Qav (t:=Qk2) h ?_;exact .refl _
  ·refine Qd8 h (fun x2 hi h=>?_);refine Qam h (fun o3 ho hk=>?_);refine Exists.intro (JP2 _ _ o3 .normal (Q3g p0 p1) .ret (Q3h p0 p1)) (And.intro ?_ (Qin (fun y4 hy=>?_) (fun y5 hy=>?_)))
   ·have h:=ho;refine Qad h (fun hb h=>?_) (fun hb h=>?_)
    ·refine vrfl ?_;refine JP2.b h ?_;exact Le.tz 0 0 rfl rfl rfl
    ·refine Qam h (fun o6 ho hk=>?_);refine Exists.intro (JP1 _ _ o6 .normal (Q3i p0 p1 x2)) (And.intro ?_ (Qbe ?_))
     ·have h:=ho;refine Qad h (fun hb h=>?_) (fun hb h=>?_)
      ·refine JP1.a h ?_;exact Le.tz 0 0 rfl rfl rfl
      ·refine JP1.a h ?_;exact Le.tz 0 0 rfl rfl rfl
     ·have h:=hk;refine Qad h (fun hb h=>?_) (fun hb h=>?_)
      ·refine vrfl ?_;refine JP2.a h ?_;exact Le.tz 0 0 rfl rfl rfl
      ·refine Qam h (fun o7 ho hk=>?_);refine Exists.intro (JP1 _ _ o7 .normal (Q3j p0 p1 x2)) (And.intro ?_ (Qbe ?_))
       ·have h:=ho;refine Qad h (fun hb h=>?_) (fun hb h=>?_)
        ·refine JP1.a h ?_;exact Le.tz 0 0 rfl rfl rfl
        ·refine JP1.a h ?_;exact Le.tz 0 0 rfl rfl rfl
       ·have h:=hk;refine Qad h (fun hb h=>?_) (fun hb h=>?_)
        ·refine vrfl ?_;refine JP2.a h ?_;exact Le.tz 0 0 rfl rfl rfl
        ·refine Qam h (fun o8 ho hk=>?_);refine Exists.intro (JP1 _ _ o8 .normal (Q3k p0 p1 x2)) (And.intro ?_ (Qbe ?_))
         ·have h:=ho;refine Qad h (fun hb h=>?_) (fun hb h=>?_)
          ·refine JP1.a h ?_;exact Le.tz 0 0 rfl rfl rfl
          ·refine JP1.a h ?_;exact Le.tz 0 0 rfl rfl rfl
         ·have h:=hk;refine Qad h (fun hb h=>?_) (fun hb h=>?_)
          ·refine vrfl ?_;refine JP2.a h ?_;exact Le.tz 0 0 rfl rfl rfl
          ·refine JP2.b h ?_;exact Le.tz 0 0 rfl rfl rfl
   ·have h:=(by rw[hy] at hk; exact hk);refine Qj4 (some (wr (p1+1))) none h (fun x9 hi h=>?_);refine Qat [sV x9,nV .i32 y4.1,iV y4.2.2] Qni h (fun x10 hy=>(Q83 x9 y4.1 y4.2.2 x10 hy)) (fun x10 hy h=>?_);refine Qam h (fun o11 ho hk=>?_);refine Exists.intro (JP1 _ _ o11 .normal (Q3l y4 x10)) (And.intro ?_ (Qbe ?_))
    ·have h:=ho;refine Qad h (fun hb h=>?_) (fun hb h=>?_)
     ·refine bT ?_;refine JP1.a h ?_;exact Le.tz 0 0 rfl rfl rfl
     ·refine Qad h (fun hb h=>?_) (fun hb h=>?_)
      ·refine JP1.a h ?_;exact Le.tz 0 0 rfl rfl rfl
      ·refine Qat [nV .i32 x10.1] Q3m h (fun x12 hy=>(Qaee x10.1 x12 hy)) (fun x12 hy h=>?_);refine JP1.a h ?_;exact Le.tz 0 0 rfl rfl rfl
    ·have h:=hk;refine Qad h (fun hb h=>?_) (fun hb h=>?_)
     ·refine Qav (t:=Qk2) h ?_;exact .refl _
     ·refine Qav (t:=Qk2) h ?_;exact .refl _
   ·have h:=(by rw[hy] at hk; exact hk);refine Qav (t:=Qk2) h ?_;exact .refl _
def Qet (p0:(List UInt8)) (v3:Int):Option ((List (Int×Int))×(Unit)) :=
 if(decide (v3<(p0.length:Int))) then
  Qtv p0 v3>>=fun x3 =>
  ( Qet p0 (wr (v3+x3.2)))>>=fun q=>some ((x3.1,x3.2)::q.1,q.2)
 else
  some ([],())
 partial_fixpoint
theorem Qaci:∀ (p0:(List UInt8)),(∀ (v3:Int) (o2:(List (Int×Int))×(Unit)),Qet p0 v3=some o2→∀ (gxs gp gpost gq1:List (List V)),gxs=gp++(o2.1.map Qiz++gpost)→gxs=gq1++gpost→TL (0,1) Tryz.prog 24 Q0m (Qs (0,1) 24 gxs (JP1 (0,1) 24 o2.2 (.exit 0) (Qqa p0 gxs gq1))) (Qli p0 v3 gxs gp)):=by
 intro p0;refine Qet.partial_correctness p0 _ ?_;intro Qet' iQet v3 o2 h;intro gxs gp gpost gq1 hx hq;refine TL.round (Qas mixed tbOk (lv:=Qvt) _ _ _ ?_);refine vrfl ?_;refine Qad h (fun hb h=>?_) (fun hb h=>?_)
 ·refine Qat [sV p0,iV v3] Qk2 h (fun x3 hy=>(Q84 p0 v3 x3 hy)) (fun x3 hy h=>?_);refine Qadv (c:=Qiz) h hx (.refl _) (by exact rfl) (by exact rfl) (fun _ h hx=>?_) ?_
  ·refine bF ?_;refine TL.le (τ := Qli p0 (wr (v3+x3.2)) gxs (gp++[Qiz (x3.1,x3.2)])) ?_ ((iQet (wr (v3+x3.2)) _ h) _ _ _ _ hx hq);exact Le.tz 0 1 rfl rfl rfl
  ·refine bT ?_;exact .inr ⟨rfl,_,(Le.env0 _).trans (Le.tow 0 1 rfl .nil (.refl _) rfl),rfl,rfl,rfl⟩
 ·exact .inl (JP1.a (sndI h) (Le.tz 0 1 rfl rfl (Qaf3 h hx hq rfl)))
def Qtw (p0:(List UInt8)):Option ((List (Int×Int))×Unit) :=
 ( Qet p0 0)>>=fun o2=>(
  some ([],()))>>=fun q=>some (o2.1++q.1,q.2)
theorem Q6x:∀ (p0:(List UInt8)) (o:(List (Int×Int))×Unit),Qtw p0=some o→∀ gxs:List (List V),gxs=o.1.map Qiz→IterOK Tryz.prog 185 [.ep [sV p0]] gxs:=by
 intro p0 o h;unfold Qtw at h;intro gxs hg;have hx:gxs=[]++(o.1.map Qiz++[]):=by simp[hg]
 refine IterOK.ofB mixed tbOk Qvt Tryz.func185 rfl (by kernel_rfl) (Nat.le_of_ble_eq_true rfl) rfl ?_;refine Qxa h hx (fun o2 lgq1 gq1 ho hk hxa hjgq1=>?_);refine Exists.intro (Qs _ _ gxs (JP1 _ _ o2.2 (.exit 0) (Qqa p0 gxs gq1))) (And.intro (Qkn (τ := Qli p0 0 gxs ([]:List (List V))) ?_ (TL.loop ((Qaci p0 0 o2 ho) _ _ _ _ hxa hjgq1))) (Qaf4 (Qbe ?_) ?_))
 ·exact Le.tz 0 1 rfl rfl rfl
 ·have h:=hk;have hx:=hjgq1;exact Qadu h hx (.inl rfl) rfl
 ·exact fun s1 h1 h2 hs=>Qaaj (.inr rfl) hs
def Q6y (p0:(List UInt8)):Option (Bool) :=
 Q3s p0>>=fun x1 =>
 Qtw x1>>=fun y5 =>
 (Qjs x1 y5.1)>>=fun o6 =>
 match o6 with
 | .inl y7 =>
  some true
 | .inr y8 =>
  some false
theorem Qaeg:∀ (p0:(List UInt8)) (o:Bool),Q6y p0=some o→PCall Tryz.prog 168 [sV p0] (Qxb o):=by
 intro p0 o h;unfold Q6y at h;refine PCall.ofB mixed tbOk Qym Tryz.func168 rfl (by kernel_rfl) (Nat.le_of_ble_eq_true rfl) ?_;refine Qat [sV p0] Qyn h (fun x1 hy=>(Qab2 p0 x1 hy)) (fun x1 hy h=>?_);refine Qam h (fun y5 hy5 h=>?_);refine Qam h (fun o6 ho hk=>?_);refine Exists.intro (JP2 _ _ o6 .normal (Qvr x1) .ret (Qvs x1)) (And.intro (Qkn (τ := Ql5 x1) ?_ (Q2q (g:=185) (cap:=[.ep [sV x1]]) rfl ((Q6x x1 y5 hy5) _ rfl) (Qx6 fun _=>rfl) rfl (Nat.le_of_ble_eq_true rfl) (Nat.le_of_ble_eq_true rfl) (Qaga x1 y5.1 o6 ho))) (Qin (fun y7 hy=>?_) (fun y8 hy=>?_)))
 ·exact Le.tz 1 0 rfl rfl rfl
 ·have h:=(by rw[hy] at hk; exact hk);refine Qav (t:=Qxb) h ?_;exact .refl _
 ·have h:=(by rw[hy] at hk; exact hk);refine Qav (t:=Qxb) h ?_;exact .refl _
def Qjt (p0:(List UInt8)):Option ((List UInt8)×Bool) :=
 ( Q6y p0>>=fun x2 =>
  if(!x2) then
   some true
  else
   Qgc p0 13>>=fun x3 =>
   some (decide (x3 ≥ 0)):Option (Bool))>>=fun o1 =>
 if o1 then
  some ([],false)
 else
  (Qda p0 [34] 0)>>=fun o4 =>
  appL 1 o4 [34]>>=fun x11 =>
  b2s x11>>=fun x12 =>
  some (x12,true)
theorem Q6z:∀ (p0:(List UInt8)) (o:(List UInt8)×Bool),Qjt p0=some o→PCall Tryz.prog 154 [sV p0] (Qn8 o):=by
 intro p0 o h;unfold Qjt at h;refine PCall.ofB mixed tbOk Qvq Tryz.func154 rfl (by kernel_rfl) (Nat.le_of_ble_eq_true rfl) ?_;refine Qam h (fun o1 ho hk=>?_);refine Exists.intro (JP1 _ _ o1 .normal (Qz4 p0)) (And.intro ?_ (Qbe ?_))
 ·have h:=ho;refine Qat [sV p0] Qxb h (fun x2 hy=>(Qaeg p0 x2 hy)) (fun x2 hy h=>?_);refine Qad h (fun hb h=>?_) (fun hb h=>?_)
  ·refine JP1.a h ?_;exact Le.tz 0 0 rfl rfl rfl
  ·refine Qat [sV p0,nV .u8 13] Qg2 h (fun x3 hy=>(Qrn p0 13 x3 hy)) (fun x3 hy h=>?_);refine JP1.a h ?_;exact Le.tz 0 0 rfl rfl rfl
 ·have h:=hk;refine Qad h (fun hb h=>?_) (fun hb h=>?_)
  ·refine Qav (t:=Qn8) h ?_;exact .refl _
  ·refine vrfl ?_;refine Qam h (fun o4 ho hk=>?_);refine Exists.intro (JP1 _ _ o4 (.exit 0) (Qp5 p0)) (And.intro (Qkn (τ := Qeo p0 [34] 0) ?_ (TL.loop (Qach p0 [34] 0 o4 ho))) (Qbe ?_))
   ·exact Le.trans (τ := ⟨[(0,.p (sV p0)),(4,.p (.sl true ([34].map (cNum .u8)))),(17,.p (iV (p0.length:Int))),(18,.p (iV 0))],⟨[],[]⟩⟩) (Le.tz 0 0 rfl rfl rfl) ((Le.ownW 4 5 1 rfl (Qx6 fun _=>rfl)).trans (Le.tz 0 1 rfl rfl rfl))
   have h:=hk;refine Qpv (a:=o4) (b:=[34]) (c:=(cNum .u8)) h (.refl _) (fun _=>rfl) rfl (fun x11 hi h=>?_);refine Q6c (l:=x11) h (fun x12 hi h=>?_);refine Qav (t:=Qn8) h ?_;exact .refl _
def Qhf (p0:Qab):Option (Qdi) :=
 some (Qdi.mk (!(p0.Name==[])) (!(p0.Text==[])) (p0.N != 0) (decide ((p0.Then.length:Int)>0)) (decide ((p0.Else.length:Int)>0)) (p0.L.length:Int))
theorem Qqe:∀ (p0:Qab) (o:Qdi),Qhf p0=some o→PCall Tryz.prog 126 [.agg [iV p0.Kind,sV p0.Name,sV p0.Text,iV p0.N,.sl false (p0.L.map Qaa),.sl false (p0.Then.map Qaa),.sl false (p0.Else.map Qaa)]] (Qjh o):=by
 intro p0 o h;unfold Qhf at h;refine PCall.ofB mixed tbOk Qyl Tryz.func126 rfl (by kernel_rfl) (Nat.le_of_ble_eq_true rfl) ?_;refine view (Qdn _ _) rfl ?_;refine view (Qdn _ _) rfl ?_;refine view (Qdn _ _) rfl ?_;refine Qav (t:=Qjh) h ?_;exact .refl _
mutual
def Qa4 (p0:(List Qab)):Option (Bool) :=
 Qbi p0>>=fun x1 =>
 some (decide (x1 ≥ 0))
 partial_fixpoint
def Qbi (p0:(List Qab)):Option (Int) :=
 (Qax p0 0)>>=fun o1 =>
 match o1 with
 | .inl y2 =>
  some (-1)
 | .inr y3 =>
  some y3
 partial_fixpoint
def Qax (p0:(List Qab)) (v8:Int):Option (Unit⊕Int) :=
 if(decide (v8<(p0.length:Int))) then
  idx p0 v8>>=fun x4 =>
  Qsv x4>>=fun x5 =>
  if x5 then
   some (.inr v8)
  else
   Qax p0 (wr (v8+1))
 else
  some (.inl ())
 partial_fixpoint
def Qsv (p0:Qab):Option (Bool) :=
 Qfc p0>>=fun x1 =>
 some (!x1)
 partial_fixpoint
def Qfc (p0:Qab):Option (Bool) :=
 Qhf p0>>=fun x1 =>
 if(p0.Kind==1) then
  Qjt p0.Text>>=fun x2 =>
  ( if x2.2 then
    some ((x1.name_==false)&&((x1.text_==x1.text_)&&((x1.num_==false)&&((x1.then_==false)&&((x1.other_==false)&&((x1.l_==0)&&true))))))
   else
    some false:Option (Bool))>>=fun o3 =>
  some o3
 else
  if(p0.Kind==2) then
   some ((x1.name_==false)&&((x1.text_==false)&&((x1.num_==x1.num_)&&((x1.then_==false)&&((x1.other_==false)&&((x1.l_==0)&&true))))))
  else
   if(p0.Kind==3) then
    ( if((bits .andNot .i64 p0.N 1)==0) then
      some ((x1.name_==false)&&((x1.text_==false)&&((x1.num_==x1.num_)&&((x1.then_==false)&&((x1.other_==false)&&((x1.l_==0)&&true))))))
     else
      some false:Option (Bool))>>=fun o4 =>
    some o4
   else
    if(p0.Kind==4) then
     ( Qhu p0.Name>>=fun x6 =>
      if x6 then
       some ((x1.name_==true)&&((x1.text_==false)&&((x1.num_==false)&&((x1.then_==false)&&((x1.other_==false)&&((x1.l_==0)&&true))))))
      else
       some false:Option (Bool))>>=fun o5 =>
     some o5
    else
     if(p0.Kind==7) then
      ( Qoe p0.Name>>=fun x8 =>
       if x8 then
        some ((x1.name_==true)&&((x1.text_==false)&&((x1.num_==false)&&((x1.then_==false)&&((x1.other_==false)&&((x1.l_==0)&&true))))))
       else
        some false:Option (Bool))>>=fun o7 =>
      some o7
     else
      if(p0.Kind==5) then
       ( Qoe p0.Name>>=fun x10 =>
        if x10 then
         if((x1.name_==true)&&((x1.text_==false)&&((x1.num_==false)&&((x1.then_==false)&&((x1.other_==false)&&((x1.l_==1)&&true)))))) then
          idx p0.L 0>>=fun x11 =>
          Qfc x11>>=fun x12 =>
          some x12
         else
          some false
        else
         some false:Option (Bool))>>=fun o9 =>
       some o9
      else
       if(p0.Kind==6) then
        ( Qhu p0.Name>>=fun x14 =>
         if x14 then
          if((x1.name_==true)&&((x1.text_==false)&&((x1.num_==false)&&((x1.then_==false)&&((x1.other_==false)&&((x1.l_==(if 3<x1.l_ then 3 else x1.l_))&&true)))))) then
           Qa4 p0.L>>=fun x15 =>
           some (!x15)
          else
           some false
         else
          some false:Option (Bool))>>=fun o13 =>
        some o13
       else
        some false
 partial_fixpoint
end
theorem Qdm:(∀ (p0:(List Qab)) (o:Bool),Qa4 p0=some o→CallOK Tryz.prog 56 [.p (.sl false (p0.map Qaa)),.fn (.func 155) [] []] ⟨[],[]⟩ (Qbz o) ⟨[],[]⟩)∧(∀ (p0:(List Qab)) (o:Int),Qbi p0=some o→CallOK Tryz.prog 83 [.p (.sl false (p0.map Qaa)),.fn (.func 155) [] []] ⟨[],[]⟩ (Qbh o) ⟨[],[]⟩)∧(∀ (p0:(List Qab)) (v8:Int) (o1:Unit⊕Int),Qax p0 v8=some o1→TL (0,0) Tryz.prog 19 Qdx (JP2 (0,0) 19 o1 (.exit 0) (Qbv p0) .ret (Qbw p0)) (Qbd p0 v8))∧(∀ (p0:Qab) (o:Bool),Qsv p0=some o→PCall Tryz.prog 155 [.agg [iV p0.Kind,sV p0.Name,sV p0.Text,iV p0.N,.sl false (p0.L.map Qaa),.sl false (p0.Then.map Qaa),.sl false (p0.Else.map Qaa)]] (Qob o))∧(∀ (p0:Qab) (o:Bool),Qfc p0=some o→PCall Tryz.prog 128 [.agg [iV p0.Kind,sV p0.Name,sV p0.Text,iV p0.N,.sl false (p0.L.map Qaa),.sl false (p0.Then.map Qaa),.sl false (p0.Else.map Qaa)]] (Qc5 o)):=by
 refine Qa4.mutual_partial_correctness _ _ _ _ _ ?_ ?_ ?_ ?_ ?_
 ·intro Qbi' iQbi p0 o h;refine CallOK.ofB mixed tbOk Qdr Tryz.func56 rfl (by kernel_rfl) (Nat.le_of_ble_eq_true rfl) rfl rfl rfl ?_;refine Qao _ _ h (fun x1 hy=>((iQbi p0 x1 hy).fr [] [] rfl rfl rfl)) (fun x1 hy h=>?_);refine Exists.intro _ (And.intro (Le.refl _ _ _) ?_);exact Qa6 (t:=Qbz) (ss:=fun o=>⟨[],[]⟩) h ⟨[],rfl,.refl _,.refl _,rfl⟩
 ·intro Qax' iQax p0 o h;refine CallOK.ofB mixed tbOk Qb7 Tryz.func83 rfl (by kernel_rfl) (Nat.le_of_ble_eq_true rfl) rfl rfl rfl ?_;refine view (Qdn _ _) rfl ?_;refine Qam h (fun o1 ho hk=>?_);refine Exists.intro (JP2 _ _ o1 (.exit 0) (Qbv p0) .ret (Qbw p0)) (And.intro (Qkn (τ := Qbd p0 0) ?_ (TL.loop (iQax p0 0 o1 ho))) (Qin (fun y2 hy=>?_) (fun y3 hy=>?_)))
  ·exact Le.tz 0 0 rfl rfl rfl
  ·have h:=(by rw[hy] at hk; exact hk);refine Exists.intro _ (And.intro (Le.refl _ _ _) ?_);exact Qa6 (t:=Qbh) (ss:=fun o=>⟨[],[]⟩) h ⟨[],rfl,.refl _,.refl _,rfl⟩
  ·have h:=(by rw[hy] at hk; exact hk);refine Exists.intro _ (And.intro (Le.refl _ _ _) ?_);exact Qa6 (t:=Qbh) (ss:=fun o=>⟨[],[]⟩) h ⟨[],rfl,.refl _,.refl _,rfl⟩
 ·intro Qax' Qsv' iQax iQsv p0 v8 o1 h;refine TL.round (Qas mixed tbOk (lv:=Qb7) _ _ _ ?_);refine Qad h (fun hb h=>?_) (fun hb h=>?_)
  ·refine Qbu (l:=p0) (c:=Qaa) (c' := Qa5) h Qap (fun _=>rfl) (by decide) (fun x4 hi h=>?_);refine Qat [.agg [iV x4.Kind,sV x4.Name,sV x4.Text,iV x4.N,.sl false (x4.L.map Qaa),.sl false (x4.Then.map Qaa),.sl false (x4.Else.map Qaa)]] Qob h (fun x5 hy=>(iQsv x4 x5 hy)) (fun x5 hy h=>?_);refine Qad h (fun hb h=>?_) (fun hb h=>?_)
   ·exact JP2.b h (Le.tz 0 0 rfl rfl rfl)
   ·refine TL.le (τ := Qbd p0 (wr (v8+1))) ?_ ((iQax p0 (wr (v8+1)) _ h));exact Le.tz 0 0 rfl rfl rfl
  ·exact JP2.a h (Le.tz 0 0 rfl rfl rfl)
 ·intro Qfc' iQfc p0 o h;refine PCall.ofB mixed tbOk Q0f Tryz.func155 rfl (by kernel_rfl) (Nat.le_of_ble_eq_true rfl) ?_;refine Qat [.agg [iV p0.Kind,sV p0.Name,sV p0.Text,iV p0.N,.sl false (p0.L.map Qaa),.sl false (p0.Then.map Qaa),.sl false (p0.Else.map Qaa)]] Qc5 h (fun x1 hy=>(iQfc p0 x1 hy)) (fun x1 hy h=>?_);refine Qav (t:=Qob) h ?_;exact .refl _
 ·intro Qa4' Qfc' iQa4 iQfc p0 o h;refine PCall.ofB mixed tbOk Q6p Tryz.func128 rfl (by kernel_rfl) (Nat.le_of_ble_eq_true rfl) ?_;refine Qat [.agg [iV p0.Kind,sV p0.Name,sV p0.Text,iV p0.N,.sl false (p0.L.map Qaa),.sl false (p0.Then.map Qaa),.sl false (p0.Else.map Qaa)]] Qjh h (fun x1 hy=>(Qqe p0 x1 hy)) (fun x1 hy h=>?_);refine Qad h (fun hb h=>?_) (fun hb h=>?_)
  ·refine Qat [sV p0.Text] Qn8 h (fun x2 hy=>(Q6z p0.Text x2 hy)) (fun x2 hy h=>?_);refine Qam h (fun o3 ho hk=>?_);refine Exists.intro (JP1 _ _ o3 .normal (Qz9 p0 x1)) (And.intro ?_ (Qbe ?_))
   ·have h:=ho;refine Qad h (fun hb h=>?_) (fun hb h=>?_)
    ·refine And.intro rfl ?_;refine JP1.a h ?_;exact Le.tz 3 0 rfl rfl rfl
    ·refine JP1.a h ?_;exact Le.tz 3 0 rfl rfl rfl
   ·have h:=hk;refine Qav (t:=Qc5) h ?_;exact .refl _
  ·refine Qad h (fun hb h=>?_) (fun hb h=>?_)
   ·refine And.intro rfl ?_;refine Qav (t:=Qc5) h ?_;exact .refl _
   ·refine Qad h (fun hb h=>?_) (fun hb h=>?_)
    ·refine Qam h (fun o4 ho hk=>?_);refine Exists.intro (JP1 _ _ o4 .normal (Q0a p0 x1)) (And.intro ?_ (Qbe ?_))
     ·have h:=ho;refine Qad h (fun hb h=>?_) (fun hb h=>?_)
      ·refine And.intro rfl ?_;refine JP1.a h ?_;exact Le.tz 3 0 rfl rfl rfl
      ·refine JP1.a h ?_;exact Le.tz 3 0 rfl rfl rfl
     ·have h:=hk;refine Qav (t:=Qc5) h ?_;exact .refl _
    ·refine Qad h (fun hb h=>?_) (fun hb h=>?_)
     ·refine Qam h (fun o5 ho hk=>?_);refine Exists.intro (JP1 _ _ o5 .normal (Q0b p0 x1)) (And.intro ?_ (Qbe ?_))
      ·have h:=ho;refine Qat [sV p0.Name] Qfr h (fun x6 hy=>(Qjr p0.Name x6 hy)) (fun x6 hy h=>?_);refine Qad h (fun hb h=>?_) (fun hb h=>?_)
       ·refine And.intro rfl ?_;refine JP1.a h ?_;exact Le.tz 3 0 rfl rfl rfl
       ·refine JP1.a h ?_;exact Le.tz 3 0 rfl rfl rfl
      ·have h:=hk;refine Qav (t:=Qc5) h ?_;exact .refl _
     ·refine Qad h (fun hb h=>?_) (fun hb h=>?_)
      ·refine Qam h (fun o7 ho hk=>?_);refine Exists.intro (JP1 _ _ o7 .normal (Q0c p0 x1)) (And.intro ?_ (Qbe ?_))
       ·have h:=ho;refine Qat [sV p0.Name] Qk1 h (fun x8 hy=>(Qsu p0.Name x8 hy)) (fun x8 hy h=>?_);refine Qad h (fun hb h=>?_) (fun hb h=>?_)
        ·refine And.intro rfl ?_;refine JP1.a h ?_;exact Le.tz 3 0 rfl rfl rfl
        ·refine JP1.a h ?_;exact Le.tz 3 0 rfl rfl rfl
       ·have h:=hk;refine Qav (t:=Qc5) h ?_;exact .refl _
      ·refine Qad h (fun hb h=>?_) (fun hb h=>?_)
       ·refine Qam h (fun o9 ho hk=>?_);refine Exists.intro (JP1 _ _ o9 .normal (Q0d p0 x1)) (And.intro ?_ (Qbe ?_))
        ·have h:=ho;refine Qat [sV p0.Name] Qk1 h (fun x10 hy=>(Qsu p0.Name x10 hy)) (fun x10 hy h=>?_);refine Qad h (fun hb h=>?_) (fun hb h=>?_)
         ·refine And.intro rfl ?_;refine Qad h (fun hb h=>?_) (fun hb h=>?_)
          ·refine Qbu (l:=p0.L) (c:=Qaa) (c' := Qa5) h Qap (fun _=>rfl) (by decide) (fun x11 hi h=>?_);refine Qat [.agg [iV x11.Kind,sV x11.Name,sV x11.Text,iV x11.N,.sl false (x11.L.map Qaa),.sl false (x11.Then.map Qaa),.sl false (x11.Else.map Qaa)]] Qc5 h (fun x12 hy=>(iQfc x11 x12 hy)) (fun x12 hy h=>?_);refine JP1.a h ?_;exact Le.tz 3 0 rfl rfl rfl
          ·refine JP1.a h ?_;exact Le.tz 3 0 rfl rfl rfl
         ·refine bF ?_;refine JP1.a h ?_;exact Le.tz 3 0 rfl rfl rfl
        ·have h:=hk;refine Qav (t:=Qc5) h ?_;exact .refl _
       ·refine Qad h (fun hb h=>?_) (fun hb h=>?_)
        ·refine Qam h (fun o13 ho hk=>?_);refine Exists.intro (JP1 _ _ o13 .normal (Q0e p0 x1)) (And.intro ?_ (Qbe ?_))
         ·have h:=ho;refine Qat [sV p0.Name] Qfr h (fun x14 hy=>(Qjr p0.Name x14 hy)) (fun x14 hy h=>?_);refine Qad h (fun hb h=>?_) (fun hb h=>?_)
          ·refine And.intro rfl ?_;refine Qad h (fun hb h=>?_) (fun hb h=>?_)
           ·refine Qao _ _ h (fun x15 hy=>((iQa4 p0.L x15 hy).fr [] [] rfl rfl rfl)) (fun x15 hy h=>?_);refine JP1.a h ?_;exact Le.tz 3 0 rfl rfl rfl
           ·refine JP1.a h ?_;exact Le.tz 3 0 rfl rfl rfl
          ·refine bF ?_;refine JP1.a h ?_;exact Le.tz 3 0 rfl rfl rfl
         ·have h:=hk;refine Qav (t:=Qc5) h ?_;exact .refl _
        ·refine Qav (t:=Qc5) h ?_;exact .refl _
theorem Q60:∀ (p0:Qab) (o:Bool),Qfc p0=some o→PCall Tryz.prog 128 [.agg [iV p0.Kind,sV p0.Name,sV p0.Text,iV p0.N,.sl false (p0.L.map Qaa),.sl false (p0.Then.map Qaa),.sl false (p0.Else.map Qaa)]] (Qc5 o):=fun p0=>Qdm.2.2.2.2 p0
mutual
def Qhg (p0:(List Qab)) (p1:Bool):Option (Bool) :=
 (Qgd p0 p1 0)>>=fun o1 =>
 match o1 with
 | .inl y2 =>
  some true
 | .inr y3 =>
  some false
 partial_fixpoint
def Qgd (p0:(List Qab)) (p1:Bool) (v10:Int):Option (Unit⊕Unit) :=
 if(decide (v10<(p0.length:Int))) then
  idx p0 v10>>=fun x4 =>
  Qqf x4>>=fun x5 =>
  if(!x5) then
   some (.inr ())
  else
   ( if(x4.Kind==8) then
     if(!(v10==(wr ((p0.length:Int)-1)))) then
      idx p0 (wr (v10+1))>>=fun x7 =>
      if(x7.Kind==8) then
       some true
      else
       if(v10==(wr ((p0.length:Int)-1))) then
        if(!p1) then
         Qcn x4.Text [123]>>=fun x8 =>
         some x8
        else
         some false
       else
        Qcn x4.Text [123]>>=fun x9 =>
        some x9
     else
      if(v10==(wr ((p0.length:Int)-1))) then
       if(!p1) then
        Qcn x4.Text [123]>>=fun x10 =>
        some x10
       else
        some false
      else
       Qcn x4.Text [123]>>=fun x11 =>
       some x11
    else
     some false:Option (Bool))>>=fun o6 =>
   if o6 then
    some (.inr ())
   else
    Qgd p0 p1 (wr (v10+1))
 else
  some (.inl ())
 partial_fixpoint
def Qqf (p0:Qab):Option (Bool) :=
 Qhf p0>>=fun x1 =>
 ( if(p0.Kind==8) then
   ( if((x1.name_==false)&&((x1.text_==true)&&((x1.num_==false)&&((x1.then_==false)&&((x1.other_==false)&&((x1.l_==0)&&true)))))) then
     Qfb p0.Text [123,123]>>=fun x6 =>
     some (!x6)
    else
     some false:Option (Bool))>>=fun o5 =>
   some (.inr o5)
  else
   if(p0.Kind==9) then
    some (.inl (false,false,false))
   else
    if(p0.Kind==10) then
     some (.inl (false,x1.then_,x1.other_))
    else
     ( if(p0.Kind==11) then
       some (p0.Kind==11)
      else
       some (p0.Kind==12):Option (Bool))>>=fun o7 =>
     if o7 then
      Qhu p0.Name>>=fun x8 =>
      some (.inl (x8,x1.then_,false))
     else
      if(p0.Kind==13) then
       Qhu p0.Name>>=fun x9 =>
       some (.inl (x9,false,false))
      else
       some (.inr false):Option ((Bool×Bool×Bool)⊕Bool))>>=fun o2 =>
 match o2 with
 | .inl y3 =>
  ( if(p0.Kind==11) then
    some true
   else
    if(p0.Kind==12) then
     some true
    else
     some (p0.Kind==13):Option (Bool))>>=fun o10 =>
  ( if(y3.1==o10) then
    if((x1.name_==y3.1)&&((x1.text_==false)&&((x1.num_==false)&&((x1.then_==y3.2.1)&&((x1.other_==y3.2.2)&&((x1.l_==1)&&true)))))) then
     idx p0.L 0>>=fun x12 =>
     Qfc x12>>=fun x13 =>
     if x13 then
      Qhg p0.Then false>>=fun x14 =>
      if x14 then
       Qhg p0.Else false>>=fun x15 =>
       some x15
      else
       some false
     else
      some false
    else
     some false
   else
    some false:Option (Bool))>>=fun o11 =>
  some o11
 | .inr y4 =>
  some y4
 partial_fixpoint
end
end Go.Proofs.YtfgegilhjlnohaaGreat
end
