/- The proof's texts, part 8 of 12: the walks by a logic in which data are by value, the plain laws, and at the end the law, for every input. -/
import Derived.Test.YtfgegilhjlnohaaGreatMgSecrecyHands7

noncomputable section
set_option linter.unusedVariables false
set_option linter.unusedSimpArgs false
set_option maxRecDepth 100000
set_option maxHeartbeats 4000000
namespace Go.Proofs.YtfgegilhjlnohaaGreat
open Go.RowKit
structure Qaa where
 Kind:Int
 Name:(List UInt8)
 Text:(List UInt8)
 N:Int
 L:(List Qaa)
 Then:(List Qaa)
 Else:(List Qaa)
mutual
def Qab:Qaa→List V
 | ⟨x0,x1,x2,x3,x4,x5,x6⟩=>[iV x0,sV x1,sV x2,iV x3,.sl false (Qil x4),.sl false (Qil x5),.sl false (Qil x6)]
def Qil:List Qaa→List (List V)
 | []=>[]
 | x::r=>Qab x::Qil r
end
theorem Qpp:∀ l:List Qaa,Qil l=l.map Qab
 | []=>rfl
 | x::r=>by rw[Qil,Qpp r]; rfl
def Qbh (x:Qaa):List V:=[iV x.Kind,sV x.Name,sV x.Text,iV x.N,.sl false (x.L.map Qab),.sl false (x.Then.map Qab),.sl false (x.Else.map Qab)]
theorem Qap(x:Qaa):Qab x=Qbh x:=by cases x; simp[Qab,Qbh,Qpp]
structure Qac where
 Name:(List UInt8)
 L:(List Qaa)
def Qah (x:Qac):List V:=[sV x.Name,.sl false (x.L.map Qab)]
structure Qdf where
 name_:Bool
 text_:Bool
 num_:Bool
 then_:Bool
 other_:Bool
 l_:Int
def Qjk (y:Bool):D :=.p (bV y)
def Q2g:List (Nat×List Nat):=[(0,[0,1,2]),(1,[6]),(3000001,[])]
def Qxw  (o1:Bool):St:=⟨[(6,.p (bV o1))],⟨[],[]⟩⟩
def Qim (y:(List UInt8)):D :=.p (sV y)
def Q5v:List (Nat×List Nat):=[(0,[0]),(1,[0,5]),(2,[0]),(3,[0,7]),(4,[2]),(5,[0,13]),(6,[2]),(7,[0,25]),(8,[2]),(9,[2]),(2001005,[])]
def Qzj  (o1:Int):St:=⟨[(0,.p (iV o1))],⟨[],[]⟩⟩
def Qm2 (y:Int×Int):D :=.tup [.p (iV y.1),.p (iV y.2)]
def Qr6:List (Nat×List Nat):=[(0,[0,1]),(1,[0,1,17]),(2,[4,5]),(3,[0,1,6]),(4,[0,1,6,7]),(5,[0,1,6,7,28]),(6,[0,1,6,7]),(7,[0,1,6,7,8]),(8,[0,1,6,7,8,9]),(9,[0,1,6,7,8,9,42]),(10,[0,1,6,7,8,9]),(11,[0,1,6,7,8,9]),(12,[0,1,6,7,8,71]),(13,[4,5]),(14,[4,5]),(1000005,[0,1,6,7]),(1000009,[0,1,6,7,8,9]),(3000001,[]),(3000005,[]),(3000012,[])]
def Q2h (p0:(List UInt8)) (p1:Int) (o1:Bool):St:=⟨[(0,.p (sV p0)),(1,.p (iV p1)),(17,.p (bV o1))],⟨[],[]⟩⟩
def Q2i (p0:(List UInt8)) (p1:Int) (v6:(List Int)) (v7:Int) (o5:Bool):St:=⟨[(0,.p (sV p0)),(1,.p (iV p1)),(6,.p (.sl true (v6.map cInt))),(7,.p (iV v7)),(28,.p (bV o5))],⟨[],[]⟩⟩
def Qmg (p0:(List UInt8)) (p1:Int) (v6:(List Int)) (v7:Int) (v8:Int) (v9:Int):St:=⟨[(0,.p (sV p0)),(1,.p (iV p1)),(6,.p (.sl true (v6.map cInt))),(7,.p (iV v7)),(8,.p (iV v8)),(9,.p (iV v9))],⟨[],[]⟩⟩
def Qrj (p0:(List UInt8)) (p1:Int) (v6:(List Int)) (v7:Int) (o8:Int):St:=⟨[(0,.p (sV p0)),(1,.p (iV p1)),(6,.p (.sl true (v6.map cInt))),(7,.p (iV v7)),(8,.p (iV o8))],⟨[],[]⟩⟩
def Q2j:Code:=((Qa4 (Tryz.f171.body.getD .skip)).getD 1 .skip)
def Q2k (p0:(List UInt8)) (p1:Int) (v6:(List Int)) (v7:Int) (o8:Int) (o10:Bool):St:=⟨[(0,.p (sV p0)),(1,.p (iV p1)),(6,.p (.sl true (v6.map cInt))),(7,.p (iV v7)),(8,.p (iV o8)),(71,.p (bV o10))],⟨[],[]⟩⟩
def Qmh (p0:(List UInt8)) (p1:Int) (v6:(List Int)) (v7:Int):St:=⟨[(0,.p (sV p0)),(1,.p (iV p1)),(6,.p (.sl true (v6.map cInt))),(7,.p (iV v7))],⟨[],[]⟩⟩
def Qrk (p0:(List UInt8)) (p1:Int) (y3:Unit):St:=⟨[],⟨[],[]⟩⟩
def Qrl (p0:(List UInt8)) (p1:Int) (y4:Int×Int):St:=⟨[(4,.p (iV y4.1)),(5,.p (iV y4.2))],⟨[],[]⟩⟩
def Q2l:Code:=((Qa4 (Tryz.f171.body.getD .skip)).getD 0 .skip)
def Qqw (y:Bool):D :=.p (bV y)
def Q73:List (Nat×List Nat):=[(0,[0]),(1,[2]),(3000001,[])]
def Q2m  (o1:Bool):St:=⟨[(2,.p (bV o1))],⟨[],[]⟩⟩
def Qin (y:Bool):D :=.p (bV y)
def Qxx:List (Nat×List Nat):=[(0,[0]),(1,[0,17]),(2,[2]),(3,[0,3]),(4,[0,3,21]),(5,[0,3]),(6,[0,3,41]),(7,[2]),(8,[2]),(1000004,[0,3]),(3000001,[]),(3000006,[])]
def Q2n (p0:(List UInt8)) (o1:Bool):St:=⟨[(0,.p (sV p0)),(17,.p (bV o1))],⟨[],[]⟩⟩
def Q2o (p0:(List UInt8)) (v3:Int) (o7:Bool):St:=⟨[(0,.p (sV p0)),(3,.p (iV v3)),(41,.p (bV o7))],⟨[],[]⟩⟩
def Qmi (p0:(List UInt8)) (v3:Int):St:=⟨[(0,.p (sV p0)),(3,.p (iV v3))],⟨[],[]⟩⟩
def Qrm (p0:(List UInt8)) (y5:Unit):St:=⟨[],⟨[],[]⟩⟩
def Qrn (p0:(List UInt8)) (y6:Unit):St:=⟨[(2,.p (bV false))],⟨[],[]⟩⟩
def Q2p:Code:=((Qa4 (Tryz.f77.body.getD .skip)).getD 0 .skip)
def Qio (y:Bool):D :=.p (bV y)
def Q5w:List (Nat×List Nat):=[(0,[0]),(1,[2]),(3000001,[])]
def Qzk  (o1:Bool):St:=⟨[(2,.p (bV o1))],⟨[],[]⟩⟩
def Qip (y:Bool):D :=.p (bV y)
def Q5x:List (Nat×List Nat):=[(0,[0]),(1,[2]),(3000001,[])]
def Qzl  (o1:Bool):St:=⟨[(2,.p (bV o1))],⟨[],[]⟩⟩
def Qgy (y:Int):D :=.p (iV y)
def Qu8:List (Nat×List Nat):=[(0,[0]),(1,[0,3]),(2,[0,3,4]),(3,[0,3,4,8]),(4,[0,3,4]),(5,[0,3,4]),(6,[2]),(1000003,[0,3,4])]
def Qk6 (p0:(List Qaa)) (v3:Int) (v4:Int):St:=⟨[(0,.p (.sl false (p0.map Qab))),(3,.p (iV v3)),(4,.p (iV v4))],⟨[],[]⟩⟩
def Qpq (p0:(List Qaa)) (o1:Int):St:=⟨[(3,.p (iV o1))],⟨[],[]⟩⟩
def Qzm:Code:=((Qa4 (Tryz.f80.body.getD .skip)).getD 0 .skip)
def Qiq (y:Int):D :=.p (iV y)
def Qxy:List (Nat×List Nat):=[(0,[0]),(1,[0,3]),(2,[0,3,4]),(3,[0,3,4,8]),(4,[0,3,4]),(5,[0,3,4]),(6,[2]),(1000003,[0,3,4])]
def Qmj (p0:(List Qaa)) (v3:Int) (v4:Int):St:=⟨[(0,.p (.sl false (p0.map Qab))),(3,.p (iV v3)),(4,.p (iV v4))],⟨[],[]⟩⟩
def Qro (p0:(List Qaa)) (o1:Int):St:=⟨[(3,.p (iV o1))],⟨[],[]⟩⟩
def Q2q:Code:=((Qa4 (Tryz.f79.body.getD .skip)).getD 0 .skip)
def Qqx (y:Bool):D :=.p (bV y)
def Qxz:List (Nat×List Nat):=[(0,[0]),(1,[0,3]),(2,[0,3,4]),(3,[0,3,4,9]),(4,[0,3,4]),(5,[0,3,4,17]),(6,[2]),(7,[2]),(1000003,[0,3,4])]
def Qmk (p0:(List UInt8)) (x1:(List (List UInt8))) (v4:Int):St:=⟨[(0,.p (sV p0)),(3,.p (.sl false (x1.map cStr))),(4,.p (iV v4))],⟨[],[]⟩⟩
def Qrp (p0:(List UInt8)) (x1:(List (List UInt8))) (y3:Unit):St:=⟨[(0,.p (sV p0))],⟨[],[]⟩⟩
def Qrq (p0:(List UInt8)) (x1:(List (List UInt8))) (y4:Unit):St:=⟨[(2,.p (bV false))],⟨[],[]⟩⟩
def Q2r:Code:=((Qa4 (Tryz.f43.body.getD .skip)).getD 0 .skip)
def Qr7 (y:(List (List UInt8))):D :=.p (.sl false (y.map cStr))
def Q5y:List (Nat×List Nat):=[(0,[]),(1,[0])]
def Qd7 (y:(List UInt8)×Int):D :=.tup [.p (sV y.1),.p (iV y.2)]
def Qgj:List (Nat×List Nat):=[(0,[0]),(1,[0,19]),(2,[2,3]),(3,[0,20,21,22]),(4,[0,20,21,22,23]),(5,[0,4,5,20,21,22]),(6,[0,4,5,20,21,22,36]),(7,[2,3]),(8,[0,5,7,20,21,22]),(9,[0,5,20,21,22,48]),(10,[2,3]),(11,[0,20,21,22]),(12,[0,8]),(13,[0,8,54,55,56]),(14,[0,8,54,55,56,57]),(15,[0,8,10,54,55,56]),(16,[0,8,10,54,55,56,64,65,66]),(17,[0,8,10,54,55,56,64,65,66,67]),(18,[0,8,10,12,54,55,56,64,65,66]),(19,[0,8,10,14,54,55,56,64,65,66]),(20,[0,8,10,54,55,56,64,65,66,78]),(21,[2,3]),(22,[0,8,10,54,55,56,64,65,66]),(23,[0,8,54,55,56]),(24,[8,83,84,85]),(25,[8,83,84,85,86]),(26,[8,16,83,84,85]),(27,[8,16,83,84,85,98]),(28,[2,3]),(29,[8,83,84,85]),(30,[2,3]),(1000004,[0,20,21,22]),(1000014,[0,8,54,55,56]),(1000017,[0,8,10,54,55,56,64,65,66]),(1000025,[8,83,84,85]),(3000006,[]),(5000027,[2005]),(9000016,[4,0,0,0]),(9000019,[3,0,0,0])]
def Qvu (p0:(List Qac)) (v22:Int) (x4:Qac) (o5:Bool):St:=⟨[(0,.p (.sl false (p0.map Qah))),(4,.p (iV v22)),(5,.ptr 0 0),(20,.p (.sl false (p0.map Qah))),(21,.p (iV (p0.length:Int))),(22,.p (iV v22)),(36,.p (bV o5))],⟨[[.p (sV x4.Name),.p (.sl false (x4.L.map Qab))]],[]⟩⟩
def Qir (p0:(List Qac)) (v22:Int):St:=⟨[(0,.p (.sl false (p0.map Qah))),(20,.p (.sl false (p0.map Qah))),(21,.p (iV (p0.length:Int))),(22,.p (iV v22))],⟨[],[]⟩⟩
def Qm3 (p0:(List Qac)) (y2:Unit):St:=⟨[(0,.p (.sl false (p0.map Qah)))],⟨[],[]⟩⟩
def Qm4 (p0:(List Qac)) (y3:(List UInt8)×Int):St:=⟨[(2,.p (sV y3.1)),(3,.p (iV y3.2))],⟨[],[]⟩⟩
def Qvv:Code:=((Qa4 (Tryz.f13.body.getD .skip)).getD 0 .skip)
def Qis (p0:(List Qac)) (x10:(List ((List UInt8)×(List (List UInt8))))) (v56:Int) (x14:Qac) (v66:Int):St:=⟨[(0,.p (.sl false (p0.map Qah))),(8,.ptr 1 0),(10,.ptr 2 0),(54,.p (.sl false (p0.map Qah))),(55,.p (iV (p0.length:Int))),(56,.p (iV v56)),(64,.p (.sl false (((mget (fun a b=>a==b) x14.Name x10).getD []).map cStr))),(65,.p (iV (((mget (fun a b=>a==b) x14.Name x10).getD []).length:Int))),(66,.p (iV v66))],⟨[[mpD sV (fun x =>.sl false (x.map cStr)) x10],[.mh 0],[.p (sV x14.Name),.p (.sl false (x14.L.map Qab))]],[]⟩⟩
def Qm5 (p0:(List Qac)) (x10:(List ((List UInt8)×(List (List UInt8))))) (v56:Int) (x14:Qac) (y16:Unit):St:=⟨[(0,.p (.sl false (p0.map Qah))),(8,.ptr 1 0),(54,.p (.sl false (p0.map Qah))),(55,.p (iV (p0.length:Int))),(56,.p (iV v56))],⟨[[mpD sV (fun x =>.sl false (x.map cStr)) x10],[.mh 0],[.p (sV x14.Name),.p (.sl false (x14.L.map Qab))]],[]⟩⟩
def Qm6 (p0:(List Qac)) (x10:(List ((List UInt8)×(List (List UInt8))))) (v56:Int) (x14:Qac) (y17:Unit):St:=⟨[(2,.p (sV x14.Name)),(3,.p (iV 4))],⟨[[mpD sV (fun x =>.sl false (x.map cStr)) x10],[.mh 0],[.p (sV x14.Name),.p (.sl false (x14.L.map Qab))]],[]⟩⟩
def Qvw:Code:=((Qa4 (Tryz.f13.body.getD .skip)).getD 2 .skip)
def Qit (p0:(List Qac)) (x10:(List ((List UInt8)×(List (List UInt8))))) (v56:Int):St:=⟨[(0,.p (.sl false (p0.map Qah))),(8,.ptr 1 0),(54,.p (.sl false (p0.map Qah))),(55,.p (iV (p0.length:Int))),(56,.p (iV v56))],⟨[[mpD sV (fun x =>.sl false (x.map cStr)) x10],[.mh 0]],[]⟩⟩
def Qm7 (p0:(List Qac)) (x10:(List ((List UInt8)×(List (List UInt8))))) (y12:Unit):St:=⟨[(0,.p (.sl false (p0.map Qah))),(8,.ptr 1 0)],⟨[[mpD sV (fun x =>.sl false (x.map cStr)) x10],[.mh 0]],[]⟩⟩
def Qm8 (p0:(List Qac)) (x10:(List ((List UInt8)×(List (List UInt8))))) (y13:(List UInt8)):St:=⟨[(2,.p (sV y13)),(3,.p (iV 4))],⟨[[mpD sV (fun x =>.sl false (x.map cStr)) x10],[.mh 0]],[]⟩⟩
def Qvx:Code:=((Qa4 (Tryz.f13.body.getD .skip)).getD 1 .skip)
def Qiu (p0:(List Qac)) (x10:(List ((List UInt8)×(List (List UInt8))))) (v85:Int):St:=⟨[(8,.ptr 1 0),(83,.p (.sl false (p0.map Qah))),(84,.p (iV (p0.length:Int))),(85,.p (iV v85))],⟨[[mpD sV (fun x =>.sl false (x.map cStr)) x10],[.mh 0]],[]⟩⟩
def Qm9 (p0:(List Qac)) (x10:(List ((List UInt8)×(List (List UInt8))))) (y20:Unit):St:=⟨[],⟨[[mpD sV (fun x =>.sl false (x.map cStr)) x10],[.mh 0]],[]⟩⟩
def Qna (p0:(List Qac)) (x10:(List ((List UInt8)×(List (List UInt8))))) (y21:(List UInt8)):St:=⟨[(2,.p (sV y21)),(3,.p (iV 10))],⟨[[mpD sV (fun x =>.sl false (x.map cStr)) x10],[.mh 0]],[]⟩⟩
def Qvy:Code:=((Qa4 (Tryz.f13.body.getD .skip)).getD 3 .skip)
def Qew (y:(List Qaa)×Bool):D :=.tup [.p (.sl false (y.1.map Qab)),.p (bV y.2)]
def Qs8:List (Nat×List Nat):=[(0,[0,1]),(1,[1,8,9,10]),(2,[1,8,9,10,11]),(3,[1,7,8,9,10]),(4,[1,7,8,9,10,17]),(5,[4,5]),(6,[1,8,9,10]),(7,[4,5]),(1000002,[1,8,9,10])]
def Qjz (p0:(List Qac)) (p1:(List UInt8)) (v10:Int):St:=⟨[(1,.p (sV p1)),(8,.p (.sl false (p0.map Qah))),(9,.p (iV (p0.length:Int))),(10,.p (iV v10))],⟨[],[]⟩⟩
def Qop (p0:(List Qac)) (p1:(List UInt8)) (y2:Unit):St:=⟨[],⟨[],[]⟩⟩
def Qoq (p0:(List Qac)) (p1:(List UInt8)) (y3:(List Qaa)):St:=⟨[(4,.p (.sl false (y3.map Qab))),(5,.p (bV true))],⟨[],[]⟩⟩
def Qx0:Code:=((Qa4 (Tryz.f39.body.getD .skip)).getD 0 .skip)
def Qpr (y:(List (List UInt8))):D :=.p (.sl false (y.map cStr))
def Q2s:List (Nat×List Nat):=[(0,[0]),(1,[0,3]),(2,[0,3,4]),(3,[0,3,4]),(4,[3]),(5,[3]),(6,[2]),(9000005,[1,3,0,0]),(9000006,[1,0,0,0]),(9500004,[])]
def Qml (_:(List (List UInt8))):D :=.tup []
def Qps:List (Nat×List Nat):=[(0,[1,2,6,7,8]),(1,[1,2,6,7,8,9]),(2,[1,2,5,6,7,8]),(3,[1,2,5,6,7,8,14]),(4,[1,2,5,6,7,8]),(5,[1,2,5,6,7,8]),(6,[1,2,6,7,8]),(7,[1,2,6,7,8]),(1000001,[1,2,6,7,8]),(2003005,[]),(9000004,[4,0,0,0])]
def Quq (p0:(List Qaa)) (v8:Int) (x2:Qaa) (o3:(List (List UInt8))):St:=⟨[(1,.ptr 0 0),(2,.ptr 1 0),(5,.ptr 2 0),(6,.p (.sl false (p0.map Qab))),(7,.p (iV (p0.length:Int))),(8,.p (iV v8))],⟨[[.x 0 (o3.length+1) (.sl 9 1 (o3.map cStr))],[.fn (.func 99) [] [.ptr 0 0,.ptr 1 0]],[.p (iV x2.Kind),.p (sV x2.Name),.p (sV x2.Text),.p (iV x2.N),.p (.sl false (x2.L.map Qab)),.p (.sl false (x2.Then.map Qab)),.p (.sl false (x2.Else.map Qab))]],[(o3.length+1)]⟩⟩
def Qhj (p0:(List Qaa)) (v8:Int) (h0_0_:(List (List UInt8))):St:=⟨[(1,.ptr 0 0),(2,.ptr 1 0),(6,.p (.sl false (p0.map Qab))),(7,.p (iV (p0.length:Int))),(8,.p (iV v8))],⟨[[.x 0 (h0_0_.length+1) (.sl 9 1 (h0_0_.map cStr))],[.fn (.func 99) [] [.ptr 0 0,.ptr 1 0]]],[(h0_0_.length+1)]⟩⟩
def Qly (p0:(List Qaa)) (o1:(List (List UInt8))):St:=⟨[],⟨[[.x 0 (o1.length+1) (.sl 9 1 (o1.map cStr))],[.fn (.func 99) [] [.ptr 0 0,.ptr 1 0]]],[(o1.length+1)]⟩⟩
def Qur:Code:=((Qa4 (Tryz.f99.body.getD .skip)).getD 0 .skip)
def Qs9 (_:(List ((List UInt8)×(List (List UInt8))))):D :=.agg [.mh 0]
def Qrr:List (Nat×List Nat):=[(0,[0,2]),(1,[0,2,3]),(2,[2,3,10,11,12]),(3,[2,3,10,11,12,13]),(4,[2,3,5,10,11,12]),(5,[2,3,5,7,10,11,12]),(6,[2,3,5,10,11,12,25]),(7,[2,3,10,11,12]),(8,[2,3,10,11,12]),(9,[2]),(1000003,[2,3,10,11,12]),(9000001,[0,0,0,0]),(9000005,[4,0,0,0]),(9000007,[7,0,0,0]),(9800007,[7]),(7000007,[2,3,10,11,12,27,29,32])]
def Qf4 (p0:(List Qac)) (v12:Int) (h1_0:(List ((List UInt8)×(List (List UInt8))))):St:=⟨[(2,.ptr 0 0),(3,.ptr 2 0),(10,.p (.sl false (p0.map Qah))),(11,.p (iV (p0.length:Int))),(12,.p (iV v12))],⟨[[.p (.v (.map none))],[mpD sV (fun x =>.sl false (x.map cStr)) h1_0],[.mh 1]],[]⟩⟩
def Qnb (p0:(List Qac)) (o1:(List ((List UInt8)×(List (List UInt8))))):St:=⟨[(2,.ptr 0 0),(3,.ptr 2 0)],⟨[[.p (.v (.map none))],[mpD sV (fun x =>.sl false (x.map cStr)) o1],[.mh 1]],[]⟩⟩
def Qvz:Code:=((Qa4 (Tryz.f40.body.getD .skip)).getD 0 .skip)
def Qhk (y:(List (List UInt8))):D :=.p (.sl false (y.map cStr))
def Qez:List (Nat×List Nat):=[(0,[1,2]),(1,[1,2,5]),(2,[2,5,6]),(3,[2,5,6,15,16,17]),(4,[2,5,6,15,16,17,18]),(5,[2,5,6,8,15,16,17]),(6,[2,5,6,15,16,17]),(7,[2,5,6,15,16,17]),(8,[2,5,6,9]),(9,[2,5,6,9,27]),(10,[2,5,6,9]),(11,[2,5,6,9,36,37,38]),(12,[2,5,6,9,36,37,38,39]),(13,[2,5,6,9,11,36,37,38]),(14,[2,5,6,9,11,36,37,38,45]),(15,[2,5,6,9,11,36,37,38]),(16,[2,5,6,9,36,37,38]),(17,[2,5,6,9,36,37,38]),(18,[6]),(19,[4]),(1000004,[2,5,6,15,16,17]),(1000009,[2,5,6,9]),(1000012,[2,5,6,9,36,37,38]),(5000011,[2004,2005,2006]),(9000001,[0,0,0,0]),(9000003,[1,0,0,0]),(9000005,[0,0,0,0,1,0,0,0]),(9000006,[2,0,0,0]),(9000009,[2,0,0,0]),(9000014,[2,0,0,0]),(9000015,[2,0,0,0]),(9000016,[3,0,0,0]),(9000018,[1,1,6,0])]
def Qfh (h0_0:(List ((List UInt8)×(List (List UInt8))))) (x1:(List (List UInt8))) (v17:Int) (h2_0:(List ((List UInt8)×Int))):St:=⟨[(2,.ptr 1 0),(5,.mh 2),(6,.x 0 1 (.sl 9 1 (x1.map cStr))),(15,.x 0 1 (.sl 9 1 (x1.map cStr))),(16,.p (iV (x1.length:Int))),(17,.p (iV v17))],⟨[[mpD sV (fun x =>.sl false (x.map cStr)) h0_0],[.mh 0],[mpD sV iV h2_0]],[1]⟩⟩
def Qia (h0_0:(List ((List UInt8)×(List (List UInt8))))) (x1:(List (List UInt8))) (o2:(List ((List UInt8)×Int))):St:=⟨[(2,.ptr 1 0),(5,.mh 2),(6,.x 0 1 (.sl 9 1 (x1.map cStr)))],⟨[[mpD sV (fun x =>.sl false (x.map cStr)) h0_0],[.mh 0],[mpD sV iV o2]],[1]⟩⟩
def Qpt:Code:=((Qa4 (Tryz.f42.body.getD .skip)).getD 0 .skip)
def Qd0 (h0_0:(List ((List UInt8)×(List (List UInt8))))) (v9:Int) (x5:(List UInt8)) (v6_:(List (List UInt8))) (v38:Int) (h2_0_:(List ((List UInt8)×Int))):St:=⟨[(2,.ptr 1 0),(5,.mh 2),(6,.x 0 1 (.sl 9 1 (v6_.map cStr))),(9,.p (iV v9)),(36,.p (.sl false (((mget (fun a b=>a==b) x5 h0_0).getD []).map cStr))),(37,.p (iV (((mget (fun a b=>a==b) x5 h0_0).getD []).length:Int))),(38,.p (iV v38))],⟨[[mpD sV (fun x =>.sl false (x.map cStr)) h0_0],[.mh 0],[mpD sV iV h2_0_]],[1]⟩⟩
def Qib (h0_0:(List ((List UInt8)×(List (List UInt8))))) (v9:Int) (x5:(List UInt8)) (o6:(List (List UInt8))×(List ((List UInt8)×Int))):St:=⟨[(2,.ptr 1 0),(5,.mh 2),(6,.x 0 1 (.sl 9 1 (o6.1.map cStr))),(9,.p (iV v9))],⟨[[mpD sV (fun x =>.sl false (x.map cStr)) h0_0],[.mh 0],[mpD sV iV o6.2]],[1]⟩⟩
def Qpu:Code:=((Qa4 (Tryz.f42.body.getD .skip)).getD 2 .skip)
def Qfi (h0_0:(List ((List UInt8)×(List (List UInt8))))) (v6:(List (List UInt8))) (v9:Int) (h2_0:(List ((List UInt8)×Int))):St:=⟨[(2,.ptr 1 0),(5,.mh 2),(6,.x 0 1 (.sl 9 1 (v6.map cStr))),(9,.p (iV v9))],⟨[[mpD sV (fun x =>.sl false (x.map cStr)) h0_0],[.mh 0],[mpD sV iV h2_0]],[1]⟩⟩
def Qic (h0_0:(List ((List UInt8)×(List (List UInt8))))) (o4:(List (List UInt8))×(List ((List UInt8)×Int))):St:=⟨[(6,.x 0 1 (.sl 9 1 (o4.1.map cStr)))],⟨[[mpD sV (fun x =>.sl false (x.map cStr)) h0_0],[.mh 0],[mpD sV iV o4.2]],[1]⟩⟩
def Qpv:Code:=((Qa4 (Tryz.f42.body.getD .skip)).getD 1 .skip)
def Qct (y:Bool):D :=.p (bV y)
def Qhl:List (Nat×List Nat):=[(0,[0,1]),(1,[4]),(3000001,[])]
def Qgz  (o1:Bool):St:=⟨[(4,.p (bV o1))],⟨[],[]⟩⟩
def Qfk (y:Int):D :=.p (iV y)
def Qek (y:Int):D :=.p (iV y)
def Qn4 (y:(List UInt8)×Bool):D :=.tup [.p (sV y.1),.p (bV y.2)]
def Qu9:List (Nat×List Nat):=[(0,[0]),(1,[0,14]),(2,[2,3]),(3,[0,4]),(4,[0,4,17,18]),(5,[0,4,17,18,19]),(6,[0,4,5,17,18]),(7,[0,4,6,17,18]),(8,[0,4,6,17,18,24]),(9,[0,4,17,18]),(10,[0,4,6,17,18,24,29]),(11,[0,4,17,18]),(12,[0,4,6,17,18,24,33]),(13,[0,4,17,18]),(14,[0,4,6,17,18,24,37]),(15,[0,4,6,17,18,37]),(16,[0,4,17,18]),(17,[0,4,17,18]),(18,[2,3]),(1000005,[0,4,17,18]),(2014005,[]),(3000001,[])]
def Qzn (p0:(List UInt8)) (o1:Bool):St:=⟨[(0,.p (sV p0)),(14,.p (bV o1))],⟨[],[]⟩⟩
def Qzo (p0:(List UInt8)) (v4:(List Int)) (v18:Int) (x5:UInt8) (o8:Bool):St:=⟨[(0,.p (sV p0)),(4,.own 0 1000005 1 (v4.map (cNum .u8))),(6,.p (nV .u8 (x5.toNat:Int))),(17,.p (iV (p0.length:Int))),(18,.p (iV v18)),(37,.p (bV o8))],⟨[],[(v4.map (cNum .u8)).length]⟩⟩
def Qep (p0:(List UInt8)) (v4:(List Int)) (v18:Int):St:=⟨[(0,.p (sV p0)),(4,.own 0 1000005 1 (v4.map (cNum .u8))),(17,.p (iV (p0.length:Int))),(18,.p (iV v18))],⟨[],[(v4.map (cNum .u8)).length]⟩⟩
def Qpw (p0:(List UInt8)) (o4:(List Int)):St:=⟨[(4,.own 0 1000005 1 (o4.map (cNum .u8)))],⟨[],[(o4.map (cNum .u8)).length]⟩⟩
def Qzp:Code:=((Qa4 (Tryz.f154.body.getD .skip)).getD 0 .skip)
def Qks (y:Bool):D :=.p (bV y)
def Qx1:List (Nat×List Nat):=[(0,[0]),(1,[0,5,6]),(2,[0,5,6,7]),(3,[0,3,5,6]),(4,[0,5,6,13]),(5,[2]),(6,[0,5,6]),(7,[2]),(1000002,[0,5,6]),(3000007,[])]
def Qmm (p0:(List UInt8)) (v6:Int):St:=⟨[(0,.p (sV p0)),(5,.p (iV (p0.length:Int))),(6,.p (iV v6))],⟨[],[]⟩⟩
def Qrs (p0:(List UInt8)) (y2:Unit):St:=⟨[(0,.p (sV p0))],⟨[],[]⟩⟩
def Qrt (p0:(List UInt8)) (y3:Unit):St:=⟨[(2,.p (bV false))],⟨[],[]⟩⟩
def Q2t:Code:=((Qa4 (Tryz.f69.body.getD .skip)).getD 0 .skip)
def Q2u  (o6:Bool):St:=⟨[(2,.p (bV o6))],⟨[],[]⟩⟩
def Qn5 (y:Bool):D :=.p (bV y)
def Q5z:List (Nat×List Nat):=[(0,[0]),(1,[2]),(3000001,[])]
def Qzq  (o1:Bool):St:=⟨[(2,.p (bV o1))],⟨[],[]⟩⟩
def Qpx (y:Bool):D :=.p (bV y)
def Q2v:List (Nat×List Nat):=[(0,[0]),(1,[2]),(3000001,[])]
def Qx2  (o1:Bool):St:=⟨[(2,.p (bV o1))],⟨[],[]⟩⟩
def Qdi (y:(List (List UInt8))):D :=.x 0 1 (.sl 9 1 (y.map cStr))
def Qj0:List (Nat×List Nat):=[(0,[0]),(1,[0,4]),(2,[2]),(3,[2]),(9000001,[1,0,0,0]),(9000003,[2,0,0,0])]
def Qbx (y:Bool):D :=.p (bV y)
def Qdn:List (Nat×List Nat):=[(0,[0,1]),(1,[4])]
def Qcz (y:Bool):D :=.p (bV y)
def Qh7:List (Nat×List Nat):=[(0,[0,1]),(1,[4])]
def Qbf (y:Int):D :=.p (iV y)
def Qb5:List (Nat×List Nat):=[(0,[0,1]),(1,[0,1,7,8]),(2,[0,1,7,8,9]),(3,[0,1,5,7,8]),(4,[0,1,5,7,8,16]),(5,[4]),(6,[0,1,7,8]),(7,[4]),(1000002,[0,1,7,8])]
def Qba (p0:(List Qaa)) (v8:Int):St:=⟨[(0,.p (.sl false (p0.map Qab))),(1,.fn (.func 155) [] []),(7,.p (iV (p0.length:Int))),(8,.p (iV v8))],⟨[],[]⟩⟩
def Qbt (p0:(List Qaa)) (y2:Unit):St:=⟨[],⟨[],[]⟩⟩
def Qbu (p0:(List Qaa)) (y3:Int):St:=⟨[(4,.p (iV y3))],⟨[],[]⟩⟩
def Qds:Code:=((Qa4 (Tryz.f83.body.getD .skip)).getD 0 .skip)
def Qcl (y:Int):D :=.p (iV y)
def Qfa:List (Nat×List Nat):=[(0,[0,1]),(1,[0,1,7,8]),(2,[0,1,7,8,9]),(3,[0,1,5,7,8]),(4,[0,1,5,7,8,16]),(5,[4]),(6,[0,1,7,8]),(7,[4]),(1000002,[0,1,7,8])]
def Qcu (p0:(List (List UInt8))) (p1:(List UInt8)) (v8:Int):St:=⟨[(0,.p (.sl false (p0.map cStr))),(1,.p (sV p1)),(7,.p (iV (p0.length:Int))),(8,.p (iV v8))],⟨[],[]⟩⟩
def Qel (p0:(List (List UInt8))) (p1:(List UInt8)) (y2:Unit):St:=⟨[],⟨[],[]⟩⟩
def Qem (p0:(List (List UInt8))) (p1:(List UInt8)) (y3:Int):St:=⟨[(4,.p (iV y3))],⟨[],[]⟩⟩
def Qiv:Code:=((Qa4 (Tryz.f74.body.getD .skip)).getD 0 .skip)
def Qhm (y:Bool):D :=.p (bV y)
def Qr8:List (Nat×List Nat):=[(0,[0,1]),(1,[4])]
def Qc0 (y:Bool):D :=.p (bV y)
def Qq8:List (Nat×List Nat):=[(0,[0,1]),(1,[4])]
def Qk7 (y:Int):D :=.p (iV y)
def Qv0:List (Nat×List Nat):=[(0,[0,1]),(1,[4])]
def Qg0 (y:Int):D :=.p (iV y)
def Qq9:List (Nat×List Nat):=[(0,[0,1]),(1,[4])]
def Qpy (y:Int):D :=.p (iV y)
def Qn6:List (Nat×List Nat):=[(0,[0]),(1,[0,3]),(2,[3,5]),(3,[3,5]),(4,[2]),(4000003,[3,5])]
def Qgr (x1:(List Qaa)×Int) (h0_0:Int):St:=⟨[(3,.ptr 0 0),(5,.fn (.func 125) [] [.p (.ep [.sl false (x1.1.map Qab)]),.p (.ep [iV x1.2])])],⟨[[.p (iV h0_0)]],[]⟩⟩
def Qor (x1:(List Qaa)×Int) (o6:Int):St:=⟨[(3,.ptr 0 0),(5,.fn (.func 125) [] [.p (.ep [.sl false (x1.1.map Qab)]),.p (.ep [iV x1.2])])],⟨[[.p (iV o6)]],[]⟩⟩
def Qk8:Code:=((Qa4 (Tryz.f71.body.getD .skip)).getD 0 .skip)
def Qr9 (y:Int):D :=.p (iV y)
def Qpz:List (Nat×List Nat):=[(0,[0,5]),(1,[0,3,5]),(2,[3,5,7]),(3,[3,5,7]),(4,[3,5,7]),(5,[2]),(4000003,[3,5,7])]
def Qhn (x1:(List Qaa)×Int) (h0_0:Int):St:=⟨[(3,.ptr 0 0),(7,.fn (.func 125) [] [.p (.ep [.sl false (x1.1.map Qab)]),.p (.ep [iV x1.2])])],⟨[[.p (iV h0_0)]],[]⟩⟩
def Qp0 (x1:(List Qaa)×Int) (o6:Int):St:=⟨[(3,.ptr 0 0),(7,.fn (.func 125) [] [.p (.ep [.sl false (x1.1.map Qab)]),.p (.ep [iV x1.2])])],⟨[[.p (iV o6)]],[]⟩⟩
def Qmn:Code:=((Qa4 (Tryz.f70.body.getD .skip)).getD 0 .skip)
def Qx3 (y:Bool):D :=.p (bV y)
def Qaa3:List (Nat×List Nat):=[(0,[0]),(1,[2]),(3000001,[])]
def Q50  (o1:Bool):St:=⟨[(2,.p (bV o1))],⟨[],[]⟩⟩
def Qfr (y:Bool):D :=.p (bV y)
def Q51:List (Nat×List Nat):=[(0,[0]),(1,[0,3]),(2,[0,3,4]),(3,[0,3,4]),(4,[0,3,4]),(5,[0,3,4]),(6,[0,3,4]),(7,[0,3,4]),(8,[0,3,4]),(9,[0,3,4]),(10,[0,3,4]),(11,[0,4]),(12,[2]),(13,[2]),(2002037,[])]
def Qzr (p0:(List UInt8)) (o1:Bool):St:=⟨[(0,.p (sV p0)),(4,.p (bV o1))],⟨[],[]⟩⟩
def Qnc (y:(List Qaa)×Int):D :=.fn (.func 125) [] [.p (.ep [.sl false (y.1.map Qab)]),.p (.ep [iV y.2])]
def Q74:List (Nat×List Nat):=[(0,[2,3]),(1,[4])]
def Qch (y:(Qaa×Int)):List V:=[.agg [iV y.1.Kind,sV y.1.Name,sV y.1.Text,iV y.1.N,.sl false (y.1.L.map Qab),.sl false (y.1.Then.map Qab),.sl false (y.1.Else.map Qab)],iV y.2]
def Qho:List (Nat×List Nat):=[(0,[1,2,3,8,9]),(1,[2,3,8,9,10,11,12]),(2,[2,3,8,9,10,11,12,13]),(3,[2,3,5,8,9,10,11,12]),(4,[2,3,5,8,9,10,11,12,20]),(5,[2,3,8,9,10,11,12,27,28]),(6,[2,3,8,9,10,11,12,27,28,29]),(7,[2,3,7,8,9,10,11,12,27,28]),(8,[2,3,8,9,10,11,12,27,28,34]),(9,[2,3,8,10,11,12,27,28,34,36]),(10,[2,3,8,9,10,11,12,27,28,34]),(11,[2,3,8,9,10,11,12,27,28,34,41]),(12,[2,3,8,9,10,11,12,27,28]),(13,[2,3,8,9,10,11,12]),(1000002,[2,3,8,9,10,11,12]),(1000006,[2,3,8,9,10,11,12,27,28]),(4000009,[2,3,8,9,10,11,12,27,28,34])]
def Qgs (p0:(List Qaa)) (p1:Int) (v12:Int) (x3:Qaa) (v28:Int) (x7:(List Qaa)×Int) (gxs gp:List (List V)):St:=⟨[(2,.p (.ep [iV p1])),(3,.ptr 0 0),(10,.p (.sl false (p0.map Qab))),(11,.p (iV (p0.length:Int))),(12,.p (iV v12)),(27,.p (.agg [.sl false (x3.L.map Qab),.sl false (x3.Then.map Qab),.sl false (x3.Else.map Qab)])),(28,.p (iV v28)),(34,.fn (.func 125) [] [.p (.ep [.sl false (x7.1.map Qab)]),.p (.ep [iV x7.2])])],⟨[[.yld Tryz.prog 0 gxs],[.p (iV x3.Kind),.p (sV x3.Name),.p (sV x3.Text),.p (iV x3.N),.p (.sl false (x3.L.map Qab)),.p (.sl false (x3.Then.map Qab)),.p (.sl false (x3.Else.map Qab))]],[gp.length]⟩⟩
def Qos (p0:(List Qaa)) (p1:Int) (v12:Int) (x3:Qaa) (v28:Int) (x7:(List Qaa)×Int) (gxs:List (List V)) (gq12:List (List V)) (oy:Unit):St:=⟨[(2,.p (.ep [iV p1])),(3,.ptr 0 0),(10,.p (.sl false (p0.map Qab))),(11,.p (iV (p0.length:Int))),(12,.p (iV v12)),(27,.p (.agg [.sl false (x3.L.map Qab),.sl false (x3.Then.map Qab),.sl false (x3.Else.map Qab)])),(28,.p (iV v28)),(34,.fn (.func 125) [] [.p (.ep [.sl false (x7.1.map Qab)]),.p (.ep [iV x7.2])])],⟨[[.yld Tryz.prog 0 gxs],[.p (iV x3.Kind),.p (sV x3.Name),.p (sV x3.Text),.p (iV x3.N),.p (.sl false (x3.L.map Qab)),.p (.sl false (x3.Then.map Qab)),.p (.sl false (x3.Else.map Qab))]],[gq12.length]⟩⟩
def Qk9:Code:=((Qa4 (Tryz.f125.body.getD .skip)).getD 2 .skip)
def Qj1 (p0:(List Qaa)) (p1:Int) (v12:Int) (x3:Qaa) (v28:Int) (gxs gp:List (List V)):St:=⟨[(2,.p (.ep [iV p1])),(3,.ptr 0 0),(10,.p (.sl false (p0.map Qab))),(11,.p (iV (p0.length:Int))),(12,.p (iV v12)),(27,.p (.agg [.sl false (x3.L.map Qab),.sl false (x3.Then.map Qab),.sl false (x3.Else.map Qab)])),(28,.p (iV v28))],⟨[[.yld Tryz.prog 0 gxs],[.p (iV x3.Kind),.p (sV x3.Name),.p (sV x3.Text),.p (iV x3.N),.p (.sl false (x3.L.map Qab)),.p (.sl false (x3.Then.map Qab)),.p (.sl false (x3.Else.map Qab))]],[gp.length]⟩⟩
def Qot (p0:(List Qaa)) (p1:Int) (v12:Int) (x3:Qaa) (gxs:List (List V)) (gq4:List (List V)) (oy:Unit):St:=⟨[(2,.p (.ep [iV p1])),(3,.ptr 0 0),(10,.p (.sl false (p0.map Qab))),(11,.p (iV (p0.length:Int))),(12,.p (iV v12))],⟨[[.yld Tryz.prog 0 gxs],[.p (iV x3.Kind),.p (sV x3.Name),.p (sV x3.Text),.p (iV x3.N),.p (.sl false (x3.L.map Qab)),.p (.sl false (x3.Then.map Qab)),.p (.sl false (x3.Else.map Qab))]],[gq4.length]⟩⟩
def Qx4:Code:=((Qa4 (Tryz.f125.body.getD .skip)).getD 1 .skip)
def Qj2 (p0:(List Qaa)) (p1:Int) (v12:Int) (gxs gp:List (List V)):St:=⟨[(2,.p (.ep [iV p1])),(3,.ptr 0 0),(10,.p (.sl false (p0.map Qab))),(11,.p (iV (p0.length:Int))),(12,.p (iV v12))],⟨[[.yld Tryz.prog 0 gxs]],[gp.length]⟩⟩
def Qou (p0:(List Qaa)) (p1:Int) (gxs:List (List V)) (gq1:List (List V)) (oy:Unit):St:=⟨[],⟨[[.yld Tryz.prog 0 gxs]],[gq1.length]⟩⟩
def Qx5:Code:=((Qa4 (Tryz.f125.body.getD .skip)).getD 0 .skip)
def Qfs (y:Bool):D :=.p (bV y)
def Qta:List (Nat×List Nat):=[(0,[0,1]),(1,[0,1,8,9,10]),(2,[0,1,8,9,10,11]),(3,[0,1,5,6,8,9,10]),(4,[0,1,5,6,8,9,10,17]),(5,[4]),(6,[0,1,5,6,7,8,9,10]),(7,[0,1,8,9,10,50]),(8,[4]),(9,[0,1,8,9,10]),(10,[4]),(1000002,[0,1,8,9,10]),(3000007,[])]
def Qx6 (p0:(List Qaa)) (p1:Bool) (v10:Int) (x4:Qaa) (o6:Bool):St:=⟨[(0,.p (.sl false (p0.map Qab))),(1,.p (bV p1)),(8,.p (.sl false (p0.map Qab))),(9,.p (iV (p0.length:Int))),(10,.p (iV v10)),(50,.p (bV o6))],⟨[[.p (iV x4.Kind),.p (sV x4.Name),.p (sV x4.Text),.p (iV x4.N),.p (.sl false (x4.L.map Qab)),.p (.sl false (x4.Then.map Qab)),.p (.sl false (x4.Else.map Qab))]],[]⟩⟩
def Qj3 (p0:(List Qaa)) (p1:Bool) (v10:Int):St:=⟨[(0,.p (.sl false (p0.map Qab))),(1,.p (bV p1)),(8,.p (.sl false (p0.map Qab))),(9,.p (iV (p0.length:Int))),(10,.p (iV v10))],⟨[],[]⟩⟩
def Qov (p0:(List Qaa)) (p1:Bool) (y2:Unit):St:=⟨[],⟨[],[]⟩⟩
def Qow (p0:(List Qaa)) (p1:Bool) (y3:Unit):St:=⟨[(4,.p (bV false))],⟨[],[]⟩⟩
def Qx7:Code:=((Qa4 (Tryz.f72.body.getD .skip)).getD 0 .skip)
def Qc1 (y:Bool):D :=.p (bV y)
def Q52:List (Nat×List Nat):=[(0,[1]),(1,[1,3]),(2,[1,3,4]),(3,[1,3,4,11]),(4,[1,3,4,11,12]),(5,[3,6]),(6,[2]),(7,[1,3,4,11,28]),(8,[2]),(9,[1,3,4,11,35]),(10,[2]),(11,[1,3,4,11,48]),(12,[2]),(13,[1,3,4,11,58]),(14,[2]),(15,[1,3,4,11,68]),(16,[1,3,4]),(17,[2]),(18,[1,3,4,86]),(19,[1,3,4]),(20,[2]),(21,[2]),(3000006,[]),(3000010,[]),(3000012,[]),(3000014,[]),(3000017,[]),(3000020,[])]
def Qzs (p0:Qaa) (x1:Qdf) (o3:Bool):St:=⟨[(2,.p (bV o3))],⟨[[.p (iV p0.Kind),.p (sV p0.Name),.p (sV p0.Text),.p (iV p0.N),.p (.sl false (p0.L.map Qab)),.p (.sl false (p0.Then.map Qab)),.p (.sl false (p0.Else.map Qab))],[.p (bV x1.name_),.p (bV x1.text_),.p (bV x1.num_),.p (bV x1.then_),.p (bV x1.other_),.p (iV x1.l_)],[.p (bV true),.p (bV false),.p (bV false),.p (bV false),.p (bV false),.p (iV 0)]],[]⟩⟩
def Qzt (p0:Qaa) (x1:Qdf) (o4:Bool):St:=⟨[(2,.p (bV o4))],⟨[[.p (iV p0.Kind),.p (sV p0.Name),.p (sV p0.Text),.p (iV p0.N),.p (.sl false (p0.L.map Qab)),.p (.sl false (p0.Then.map Qab)),.p (.sl false (p0.Else.map Qab))],[.p (bV x1.name_),.p (bV x1.text_),.p (bV x1.num_),.p (bV x1.then_),.p (bV x1.other_),.p (iV x1.l_)],[.p (bV true),.p (bV false),.p (bV false),.p (bV false),.p (bV false),.p (iV 0)]],[]⟩⟩
def Qzu (p0:Qaa) (x1:Qdf) (o5:Bool):St:=⟨[(2,.p (bV o5))],⟨[[.p (iV p0.Kind),.p (sV p0.Name),.p (sV p0.Text),.p (iV p0.N),.p (.sl false (p0.L.map Qab)),.p (.sl false (p0.Then.map Qab)),.p (.sl false (p0.Else.map Qab))],[.p (bV x1.name_),.p (bV x1.text_),.p (bV x1.num_),.p (bV x1.then_),.p (bV x1.other_),.p (iV x1.l_)],[.p (bV true),.p (bV false),.p (bV false),.p (bV false),.p (bV false),.p (iV 0)]],[]⟩⟩
def Qzv (p0:Qaa) (x1:Qdf) (o7:Bool):St:=⟨[(2,.p (bV o7))],⟨[[.p (iV p0.Kind),.p (sV p0.Name),.p (sV p0.Text),.p (iV p0.N),.p (.sl false (p0.L.map Qab)),.p (.sl false (p0.Then.map Qab)),.p (.sl false (p0.Else.map Qab))],[.p (bV x1.name_),.p (bV x1.text_),.p (bV x1.num_),.p (bV x1.then_),.p (bV x1.other_),.p (iV x1.l_)],[.p (bV true),.p (bV false),.p (bV false),.p (bV false),.p (bV false),.p (iV 0)]],[]⟩⟩
def Qzw (p0:Qaa) (x1:Qdf) (o9:Bool):St:=⟨[(2,.p (bV o9))],⟨[[.p (iV p0.Kind),.p (sV p0.Name),.p (sV p0.Text),.p (iV p0.N),.p (.sl false (p0.L.map Qab)),.p (.sl false (p0.Then.map Qab)),.p (.sl false (p0.Else.map Qab))],[.p (bV x1.name_),.p (bV x1.text_),.p (bV x1.num_),.p (bV x1.then_),.p (bV x1.other_),.p (iV x1.l_)],[.p (bV true),.p (bV false),.p (bV false),.p (bV false),.p (bV false),.p (iV 1)]],[]⟩⟩
def Qzx (p0:Qaa) (x1:Qdf) (o13:Bool):St:=⟨[(2,.p (bV o13))],⟨[[.p (iV p0.Kind),.p (sV p0.Name),.p (sV p0.Text),.p (iV p0.N),.p (.sl false (p0.L.map Qab)),.p (.sl false (p0.Then.map Qab)),.p (.sl false (p0.Else.map Qab))],[.p (bV x1.name_),.p (bV x1.text_),.p (bV x1.num_),.p (bV x1.then_),.p (bV x1.other_),.p (iV x1.l_)],[.p (bV true),.p (bV false),.p (bV false),.p (bV false),.p (bV false),.p (iV (if 3<x1.l_ then 3 else x1.l_))]],[]⟩⟩
def Qn7 (y:Bool):D :=.p (bV y)
def Qzy:List (Nat×List Nat):=[(0,[1]),(1,[2])]
def Qjd (y:Qdf):D :=.p (.agg [bV y.name_,bV y.text_,bV y.num_,bV y.then_,bV y.other_,iV y.l_])
def Qx8:List (Nat×List Nat):=[(0,[1,2]),(1,[2])]
def Qn8 (y:Bool):D :=.p (bV y)
def Q53:List (Nat×List Nat):=[(0,[1]),(1,[1,3]),(2,[1,3,4]),(3,[1,3,4,10]),(4,[2]),(5,[1,3,4,10,11]),(6,[2]),(7,[1,3,4,10,22]),(8,[1,3,4,10,24]),(9,[1,3,4]),(10,[1,3,4,10,32]),(11,[1,3,4,10,32]),(12,[1,3,4]),(13,[1,3,4,42]),(14,[1,3,4]),(15,[1,3,4,5]),(16,[2]),(2003032,[]),(2010005,[]),(3000006,[]),(3000015,[]),(3000016,[]),(5000009,[1005,1007]),(5000012,[1006,1008]),(8000009,[2]),(8000012,[2])]
def Qzz (p0:Qaa) (x1:Qdf) (y3:Bool×Bool×Bool):St:=⟨[(1,.ptr 0 0),(3,.ptr 1 0),(4,.ptr 2 0)],⟨[[.p (iV p0.Kind),.p (sV p0.Name),.p (sV p0.Text),.p (iV p0.N),.p (.sl false (p0.L.map Qab)),.p (.sl false (p0.Then.map Qab)),.p (.sl false (p0.Else.map Qab))],[.p (bV x1.name_),.p (bV x1.text_),.p (bV x1.num_),.p (bV x1.then_),.p (bV x1.other_),.p (iV x1.l_)],[.p (bV y3.1),.p (bV false),.p (bV false),.p (bV y3.2.1),.p (bV y3.2.2),.p (iV 1)]],[]⟩⟩
def Qz0 (p0:Qaa) (x1:Qdf) (y4:Bool):St:=⟨[(2,.p (bV y4))],⟨[[.p (iV p0.Kind),.p (sV p0.Name),.p (sV p0.Text),.p (iV p0.N),.p (.sl false (p0.L.map Qab)),.p (.sl false (p0.Then.map Qab)),.p (.sl false (p0.Else.map Qab))],[.p (bV x1.name_),.p (bV x1.text_),.p (bV x1.num_),.p (bV x1.then_),.p (bV x1.other_),.p (iV x1.l_)],[.p (bV false),.p (bV false),.p (bV false),.p (bV false),.p (bV false),.p (iV 1)]],[]⟩⟩
def Qz1 (p0:Qaa) (x1:Qdf) (o5:Bool):St:=⟨[(2,.p (bV o5))],⟨[[.p (iV p0.Kind),.p (sV p0.Name),.p (sV p0.Text),.p (iV p0.N),.p (.sl false (p0.L.map Qab)),.p (.sl false (p0.Then.map Qab)),.p (.sl false (p0.Else.map Qab))],[.p (bV x1.name_),.p (bV x1.text_),.p (bV x1.num_),.p (bV x1.then_),.p (bV x1.other_),.p (iV x1.l_)],[.p (bV false),.p (bV false),.p (bV false),.p (bV false),.p (bV false),.p (iV 1)]],[]⟩⟩
def Qz2 (p0:Qaa) (x1:Qdf) (o7:Bool):St:=⟨[(1,.ptr 0 0),(3,.ptr 1 0),(4,.ptr 2 0),(10,.p (iV p0.Kind)),(32,.p (bV o7))],⟨[[.p (iV p0.Kind),.p (sV p0.Name),.p (sV p0.Text),.p (iV p0.N),.p (.sl false (p0.L.map Qab)),.p (.sl false (p0.Then.map Qab)),.p (.sl false (p0.Else.map Qab))],[.p (bV x1.name_),.p (bV x1.text_),.p (bV x1.num_),.p (bV x1.then_),.p (bV x1.other_),.p (iV x1.l_)],[.p (bV false),.p (bV false),.p (bV false),.p (bV false),.p (bV false),.p (iV 1)]],[]⟩⟩
def Qz3 (p0:Qaa) (x1:Qdf) (y3:Bool×Bool×Bool) (o10:Bool):St:=⟨[(1,.ptr 0 0),(3,.ptr 1 0),(4,.ptr 2 0),(5,.p (bV o10))],⟨[[.p (iV p0.Kind),.p (sV p0.Name),.p (sV p0.Text),.p (iV p0.N),.p (.sl false (p0.L.map Qab)),.p (.sl false (p0.Then.map Qab)),.p (.sl false (p0.Else.map Qab))],[.p (bV x1.name_),.p (bV x1.text_),.p (bV x1.num_),.p (bV x1.then_),.p (bV x1.other_),.p (iV x1.l_)],[.p (bV y3.1),.p (bV false),.p (bV false),.p (bV y3.2.1),.p (bV y3.2.2),.p (iV 1)]],[]⟩⟩
def Qz4 (p0:Qaa) (x1:Qdf) (y3:Bool×Bool×Bool) (o11:Bool):St:=⟨[(2,.p (bV o11))],⟨[[.p (iV p0.Kind),.p (sV p0.Name),.p (sV p0.Text),.p (iV p0.N),.p (.sl false (p0.L.map Qab)),.p (.sl false (p0.Then.map Qab)),.p (.sl false (p0.Else.map Qab))],[.p (bV x1.name_),.p (bV x1.text_),.p (bV x1.num_),.p (bV x1.then_),.p (bV x1.other_),.p (iV x1.l_)],[.p (bV y3.1),.p (bV false),.p (bV false),.p (bV y3.2.1),.p (bV y3.2.2),.p (iV 1)]],[]⟩⟩
def Qwu (y:Bool):D :=.p (bV y)
def Qx9:List (Nat×List Nat):=[(0,[0,2,3,4]),(1,[2,3,4,6]),(2,[2,3,6,8]),(3,[2,3,4,6]),(4,[2,3,4,6,14]),(5,[2]),(6,[2]),(4000002,[2,3,4,6]),(3000004,[])]
def Q75 (x1:(List UInt8)) (x2:(Int×Int)) (o9:Bool):St:=⟨[(2,.ptr 0 0),(3,.p (nV .i32 x2.1)),(4,.p (iV x2.2)),(6,.fn (.func 185) [] [.p (.ep [sV x1])]),(14,.p (bV o9))],⟨[[.p (bV false)]],[]⟩⟩
def Qlz (x1:(List UInt8)):St:=⟨[(2,.ptr 0 0),(6,.fn (.func 185) [] [.p (.ep [sV x1])])],⟨[[.p (bV false)]],[]⟩⟩
def Qva (x1:(List UInt8)) (y7:Unit):St:=⟨[(2,.ptr 0 0),(6,.fn (.func 185) [] [.p (.ep [sV x1])])],⟨[[.p (bV false)]],[]⟩⟩
def Qvb (x1:(List UInt8)) (y8:Unit):St:=⟨[(2,.ptr 0 0)],⟨[[.p (bV false)]],[]⟩⟩
def Qsa:Code:=((Qa4 (Tryz.f168.body.getD .skip)).getD 0 .skip)
def Qkt (y:Int×Int):D :=.tup [.p (nV .i32 y.1),.p (iV y.2)]
def Q76:List (Nat×List Nat):=[(0,[0,1]),(1,[0,1,17]),(2,[4,5]),(3,[0,1,6]),(4,[4,5]),(5,[0,1,6,21]),(6,[4,5]),(7,[0,1,6,26]),(8,[0,1,4,7,8]),(9,[0,1,6,36]),(10,[0,1,4,7,8]),(11,[0,1,6,46]),(12,[0,1,4,7,8]),(13,[4,7,8,9]),(14,[4,8,77]),(15,[4,5]),(16,[4,5]),(2004022,[]),(3000001,[]),(3000007,[]),(3000009,[]),(3000011,[]),(3000014,[])]
def Q2w (p0:(List UInt8)) (p1:Int) (o1:Bool):St:=⟨[(0,.p (sV p0)),(1,.p (iV p1)),(17,.p (bV o1))],⟨[],[]⟩⟩
def Q2x (p0:(List UInt8)) (p1:Int) (y4:Int×Int×Int):St:=⟨[(0,.p (sV p0)),(1,.p (iV p1)),(4,.p (nV .i32 y4.1)),(7,.p (nV .i32 y4.2.1)),(8,.p (iV y4.2.2))],⟨[],[]⟩⟩
def Q2y (p0:(List UInt8)) (p1:Int) (y5:Int):St:=⟨[(4,.p (nV .i32 y5)),(5,.p (iV 1))],⟨[],[]⟩⟩
def Q2z (p0:(List UInt8)) (p1:Int) (x2:UInt8) (o6:Bool):St:=⟨[(0,.p (sV p0)),(1,.p (iV p1)),(6,.p (nV .u8 (x2.toNat:Int))),(26,.p (bV o6))],⟨[],[]⟩⟩
def Q20 (p0:(List UInt8)) (p1:Int) (x2:UInt8) (o7:Bool):St:=⟨[(0,.p (sV p0)),(1,.p (iV p1)),(6,.p (nV .u8 (x2.toNat:Int))),(36,.p (bV o7))],⟨[],[]⟩⟩
def Q21 (p0:(List UInt8)) (p1:Int) (x2:UInt8) (o8:Bool):St:=⟨[(0,.p (sV p0)),(1,.p (iV p1)),(6,.p (nV .u8 (x2.toNat:Int))),(46,.p (bV o8))],⟨[],[]⟩⟩
def Q22 (y4:Int×Int×Int) (x10:Int×Bool) (o11:Bool):St:=⟨[(4,.p (nV .i32 x10.1)),(8,.p (iV y4.2.2)),(77,.p (bV o11))],⟨[],[]⟩⟩
def Qya (y:(List UInt8)):D :=.fn (.func 185) [] [.p (.ep [sV y])]
def Qaa4:List (Nat×List Nat):=[(0,[1]),(1,[2])]
def Qiw (y:(Int×Int)):List V:=[nV .i32 y.1,iV y.2]
def Qvc:List (Nat×List Nat):=[(0,[0,1,3]),(1,[0,1,3,9]),(2,[0,1,3,4,5]),(3,[0,1,3,5,20]),(4,[0,1,3]),(1000001,[0,1,3])]
def Qla (p0:(List UInt8)) (v3:Int) (gxs gp:List (List V)):St:=⟨[(0,.yld Tryz.prog 0 gxs),(1,.p (.ep [sV p0])),(3,.p (iV v3))],⟨[],[gp.length]⟩⟩
def Qp1 (p0:(List UInt8)) (gxs:List (List V)) (gq1:List (List V)) (oy:Unit):St:=⟨[],⟨[],[gq1.length]⟩⟩
def Qz5:Code:=((Qa4 (Tryz.f185.body.getD .skip)).getD 0 .skip)
def Q23 (y:Bool):D :=.p (bV y)
def Qadf:List (Nat×List Nat):=[(0,[0]),(1,[2]),(3000001,[])]
def Q77  (o1:Bool):St:=⟨[(2,.p (bV o1))],⟨[],[]⟩⟩
def Qnd (y:Int×Bool):D :=.tup [.p (nV .i32 y.1),.p (bV y.2)]
def Qyb:List (Nat×List Nat):=[(0,[0,1,2]),(1,[0,1,2,12]),(2,[6,7]),(3,[0,1,13,14]),(4,[0,1,13,14,15]),(5,[0,1,8,13,14]),(6,[0,1,8,13,14,21]),(7,[6,7]),(8,[0,1,13,14]),(9,[0,1,13,14]),(10,[6,7]),(1000004,[0,1,13,14])]
def Qmo (p0:(List UInt8)) (p2:Int) (v1:Int) (v14:Int):St:=⟨[(0,.p (sV p0)),(1,.p (nV .i32 v1)),(13,.p (iV p2)),(14,.p (iV v14))],⟨[],[]⟩⟩
def Qru (p0:(List UInt8)) (p2:Int) (y2:Int):St:=⟨[(1,.p (nV .i32 y2))],⟨[],[]⟩⟩
def Qrv (p0:(List UInt8)) (p2:Int) (y3:Unit):St:=⟨[(6,.p (nV .i32 0)),(7,.p (bV false))],⟨[],[]⟩⟩
def Q24:Code:=((Qa4 (Tryz.f187.body.getD .skip)).getD 0 .skip)
def Qf5 (p0:(List UInt8)) (p1:(List UInt8)) (p2:Int):Option (Bool) :=
 ( if(decide (p2 ≥ 0)) then
   if(decide (p2≤(p0.length:Int))) then
    if(decide ((p1.length:Int)≤(wr ((p0.length:Int)-p2)))) then
     cutL p0 p2 (wr (p2+(p1.length:Int)))>>=fun x2 =>
     some (x2==p1)
    else
     some false
   else
    some false
  else
   some false:Option (Bool))>>=fun o1 =>
 some o1
theorem Qn9:∀ (p0:(List UInt8)) (p1:(List UInt8)) (p2:Int) (o:Bool),Qf5 p0 p1 p2=some o→PCall Tryz.prog 141 [sV p0,sV p1,iV p2] (Qjk o):=by
 intro p0 p1 p2 o h;unfold Qf5 at h;refine PCall.ofB mixed tbOk Q2g Tryz.func141 rfl (by kernel_rfl) (Nat.le_of_ble_eq_true rfl) ?_;refine Qal h (fun o1 ho hk=>?_);refine Exists.intro (JP1 _ _ o1 .normal (Qxw )) (And.intro ?_ (Qbb ?_))
 ·have h:=ho;refine Qae h (fun hb h=>?_) (fun hb h=>?_)
  ·refine vrfl ?_;refine Qae h (fun hb h=>?_) (fun hb h=>?_)
   ·refine vrfl ?_;refine vrfl ?_;refine Qae h (fun hb h=>?_) (fun hb h=>?_)
    ·refine vrfl ?_;refine Qmf (some p2) (some (wr (p2+(p1.length:Int)))) h (fun x2 hi h=>?_);refine JP1.a h ?_;exact Le.tz 0 0 rfl rfl rfl
    ·refine JP1.a h ?_;exact Le.tz 0 0 rfl rfl rfl
   ·refine bF ?_;refine JP1.a h ?_;exact Le.tz 0 0 rfl rfl rfl
  ·refine bF ?_;refine bF ?_;refine JP1.a h ?_;exact Le.tz 0 0 rfl rfl rfl
 ·have h:=hk;refine Qax (t:=Qjk) h ?_;exact .refl _
def Qyc (p0:(List (List UInt8))) (p1:(List (List UInt8))) (v5:Int):Option (Unit⊕Unit) :=
 if(decide (v5<(p0.length:Int))) then
  idx p0 v5>>=fun x4 =>
  idx p1 v5>>=fun x5 =>
  if(!(x4==x5)) then
   some (.inr ())
  else
   Qyc p0 p1 (wr (v5+1))
 else
  some (.inl ())
 partial_fixpoint
def Qajb (p0:(List (List UInt8))) (p1:(List (List UInt8))):Option (Bool) :=
 if((p0.length:Int) != (p1.length:Int)) then
  some false
 else
  (Qyc p0 p1 0)>>=fun o1 =>
  match o1 with
  | .inl y2 =>
   some true
  | .inr y3 =>
   some false
def Ql0 (p0:Int):Option (Bool) :=
 ( if(decide (p0 ≥ 0)) then
   if(decide (p0≤1114111)) then
    if(decide (p0 ≥ 55296)) then
     some (!(decide (p0≤57343)))
    else
     some true
   else
    some false
  else
   some false:Option (Bool))>>=fun o1 =>
 some o1
theorem Qyd:∀ (p0:Int) (o:Bool),Ql0 p0=some o→PCall Tryz.prog 180 [iV p0] (Qqw o):=by
 intro p0 o h;unfold Ql0 at h;refine PCall.ofB mixed tbOk Q73 Tryz.func180 rfl (by kernel_rfl) (Nat.le_of_ble_eq_true rfl) ?_;refine Qal h (fun o1 ho hk=>?_);refine Exists.intro (JP1 _ _ o1 .normal (Q2m )) (And.intro ?_ (Qbb ?_))
 ·have h:=ho;refine Qae h (fun hb h=>?_) (fun hb h=>?_)
  ·refine Qae h (fun hb h=>?_) (fun hb h=>?_)
   ·refine Qae h (fun hb h=>?_) (fun hb h=>?_)
    ·refine JP1.a h ?_;exact Le.tz 0 0 rfl rfl rfl
    ·refine JP1.a h ?_;exact Le.tz 0 0 rfl rfl rfl
   ·refine JP1.a h ?_;exact Le.tz 0 0 rfl rfl rfl
  ·refine bF ?_;refine JP1.a h ?_;exact Le.tz 0 0 rfl rfl rfl
 ·have h:=hk;refine Qax (t:=Qqw) h ?_;exact .refl _
def Qlb (p0:Int):Option ((List UInt8)) :=
 ( Ql0 p0>>=fun x2 =>
  if(!x2) then
   some 65533
  else
   some p0:Option (Int))>>=fun o1 =>
 if(decide (o1<128)) then
  b2s [(IntKind.u8.wrap o1)]>>=fun x3 =>
  some x3
 else
  if(decide (o1<2048)) then
   b2s [(IntKind.u8.wrap (wr (192+(wr (o1.tdiv 64))))),(IntKind.u8.wrap (wr (128+(o1.tmod 64))))]>>=fun x4 =>
   some x4
  else
   if(decide (o1<65536)) then
    b2s [(IntKind.u8.wrap (wr (224+(wr (o1.tdiv 4096))))),(IntKind.u8.wrap (wr (128+((wr (o1.tdiv 64)).tmod 64)))),(IntKind.u8.wrap (wr (128+(o1.tmod 64))))]>>=fun x5 =>
    some x5
   else
    b2s [(IntKind.u8.wrap (wr (240+(wr (o1.tdiv 262144))))),(IntKind.u8.wrap (wr (128+((wr (o1.tdiv 4096)).tmod 64)))),(IntKind.u8.wrap (wr (128+((wr (o1.tdiv 64)).tmod 64)))),(IntKind.u8.wrap (wr (128+(o1.tmod 64))))]>>=fun x6 =>
    some x6
theorem Q54:∀ (p0:Int) (o:(List UInt8)),Qlb p0=some o→PCall Tryz.prog 181 [iV p0] (Qim o):=by
 intro p0 o h;unfold Qlb at h;refine PCall.ofB mixed tbOk Q5v Tryz.func181 rfl (by kernel_rfl) (Nat.le_of_ble_eq_true rfl) ?_;refine Qal h (fun o1 ho hk=>?_);refine Exists.intro (JP1 _ _ o1 .normal (Qzj )) (And.intro ?_ (Qbb ?_))
 ·have h:=ho;refine Qat [iV p0] Qqw h (fun x2 hy=>(Qyd p0 x2 hy)) (fun x2 hy h=>?_);refine Qae h (fun hb h=>?_) (fun hb h=>?_)
  ·refine JP1.a h ?_;exact Le.tz 0 0 rfl rfl rfl
  ·refine JP1.a h ?_;exact Le.tz 0 0 rfl rfl rfl
 ·have h:=hk;refine Qae h (fun hb h=>?_) (fun hb h=>?_)
  ·refine vrfl ?_;refine Qxs (l:=[(IntKind.u8.wrap o1)]) h (fun x3 hi h=>?_);refine Qax (t:=Qim) h ?_;exact .refl _
  ·refine Qae h (fun hb h=>?_) (fun hb h=>?_)
   ·refine And.intro (by decide) ?_;refine vrfl ?_;refine And.intro (by decide) ?_;refine vrfl ?_;refine Qxs (l:=[(IntKind.u8.wrap (wr (192+(wr (o1.tdiv 64))))),(IntKind.u8.wrap (wr (128+(o1.tmod 64))))]) h (fun x4 hi h=>?_);refine Qax (t:=Qim) h ?_;exact .refl _
   ·refine Qae h (fun hb h=>?_) (fun hb h=>?_)
    ·refine And.intro (by decide) ?_;refine vrfl ?_;refine And.intro (by decide) ?_;refine And.intro (by decide) ?_;refine vrfl ?_;refine And.intro (by decide) ?_;refine vrfl ?_;refine Qxs (l:=[(IntKind.u8.wrap (wr (224+(wr (o1.tdiv 4096))))),(IntKind.u8.wrap (wr (128+((wr (o1.tdiv 64)).tmod 64)))),(IntKind.u8.wrap (wr (128+(o1.tmod 64))))]) h (fun x5 hi h=>?_);refine Qax (t:=Qim) h ?_;exact .refl _
    ·refine And.intro (by decide) ?_;refine vrfl ?_;refine And.intro (by decide) ?_;refine And.intro (by decide) ?_;refine vrfl ?_;refine And.intro (by decide) ?_;refine And.intro (by decide) ?_;refine vrfl ?_;refine And.intro (by decide) ?_;refine vrfl ?_;refine Qxs (l:=[(IntKind.u8.wrap (wr (240+(wr (o1.tdiv 262144))))),(IntKind.u8.wrap (wr (128+((wr (o1.tdiv 4096)).tmod 64)))),(IntKind.u8.wrap (wr (128+((wr (o1.tdiv 64)).tmod 64)))),(IntKind.u8.wrap (wr (128+(o1.tmod 64))))]) h (fun x6 hi h=>?_);refine Qax (t:=Qim) h ?_;exact .refl _
def Qee (p0:(List UInt8)) (p1:Int) (v6:(List Int)) (v7:Int) (v8:Int) (v9:Int):Option (Int) :=
 if(decide (v9<v7)) then
  idx p0 (wr (p1+v9))>>=fun x9 =>
  Qee p0 p1 v6 v7 (wr ((wr ((wr (64*v8))+(wr (x9.toNat:Int))))-128)) (wr (v9+1))
 else
  some v8
 partial_fixpoint
theorem Qadg:∀ (p0:(List UInt8)) (p1:Int) (v6:(List Int)) (v7:Int),(∀ (v8:Int) (v9:Int) (o8:Int),Qee p0 p1 v6 v7 v8 v9=some o8→TL (0,0) Tryz.prog 74 Q2j (JP1 (0,0) 74 o8 (.exit 2) (Qrj p0 p1 v6 v7)) (Qmg p0 p1 v6 v7 v8 v9)):=by
 intro p0 p1 v6 v7;refine Qee.partial_correctness p0 p1 v6 v7 _ ?_;intro Qee' iQee v8 v9 o8 h;refine TL.round (Qas mixed tbOk (lv:=Qr6) _ _ _ ?_);refine Qae h (fun hb h=>?_) (fun hb h=>?_)
 ·refine Qd3 h (fun x9 hi h=>?_);refine vrfl ?_;refine TL.le (τ := Qmg p0 p1 v6 v7 (wr ((wr ((wr (64*v8))+(wr (x9.toNat:Int))))-128)) (wr (v9+1))) ?_ ((iQee (wr ((wr ((wr (64*v8))+(wr (x9.toNat:Int))))-128)) (wr (v9+1)) _ h));exact Le.tz 0 0 rfl rfl rfl
 ·exact JP1.a h (Le.tz 0 0 rfl rfl rfl)
def Qc2 (p0:(List UInt8)) (p1:Int) (v6:(List Int)) (v7:Int):Option (Unit⊕(Int×Int)) :=
 ( if(decide (v7≤4)) then
   some (decide (v7≤(wr ((p0.length:Int)-p1))))
  else
   some false:Option (Bool))>>=fun o5 =>
 if o5 then
  idx p0 p1>>=fun x6 =>
  idx v6 v7>>=fun x7 =>
  (Qee p0 p1 v6 v7 (wr ((wr (x6.toNat:Int))-x7)) 1)>>=fun o8 =>
  ( if(decide (o8 ≥ 0)) then
    Ql0 o8>>=fun x11 =>
    if x11 then
     Qlb o8>>=fun x12 =>
     cutL p0 p1 (wr (p1+v7))>>=fun x13 =>
     some (x12==x13)
    else
     some false
   else
    some false:Option (Bool))>>=fun o10 =>
  if o10 then
   some (.inr (o8,v7))
  else
   Qc2 p0 p1 v6 (wr (v7+1))
 else
  some (.inl ())
 partial_fixpoint
theorem Qadh:∀ (p0:(List UInt8)) (p1:Int) (v6:(List Int)),(∀ (v7:Int) (o2:Unit⊕(Int×Int)),Qc2 p0 p1 v6 v7=some o2→TL (0,0) Tryz.prog 74 Q2l (JP2 (0,0) 74 o2 (.exit 0) (Qrk p0 p1) .ret (Qrl p0 p1)) (Qmh p0 p1 v6 v7)):=by
 intro p0 p1 v6;refine Qc2.partial_correctness p0 p1 v6 _ ?_;intro Qc2' iQc2 v7 o2 h;refine TL.round (Qas mixed tbOk (lv:=Qr6) _ _ _ ?_);refine Qal h (fun o5 ho hk=>?_);refine Exists.intro (JP1 _ _ o5 .normal (Q2i p0 p1 v6 v7)) (And.intro ?_ (Qbb ?_))
 ·have h:=ho;refine Qae h (fun hb h=>?_) (fun hb h=>?_)
  ·refine vrfl ?_;refine JP1.a h ?_;exact Le.tz 0 0 rfl rfl rfl
  ·refine JP1.a h ?_;exact Le.tz 0 0 rfl rfl rfl
 ·have h:=hk;refine Qae h (fun hb h=>?_) (fun hb h=>?_)
  ·refine And.intro (by decide +kernel) (And.intro rfl ?_);refine Qd3 h (fun x6 hi h=>?_);refine vrfl ?_;refine Qco (l:=v6) (c:=cInt) (c' := cInt) h (fun _=>rfl) (fun _=>rfl) (by decide) (fun x7 hi h=>?_);refine Qal h (fun o8 ho hk=>?_);refine Exists.intro (JP1 _ _ o8 (.exit 2) (Qrj p0 p1 v6 v7)) (And.intro (Qk2 (τ := Qmg p0 p1 v6 v7 (wr ((wr (x6.toNat:Int))-x7)) 1) ?_ (TL.loop (Qadg p0 p1 v6 v7 (wr ((wr (x6.toNat:Int))-x7)) 1 o8 ho))) (Qbb ?_))
   ·exact Le.tz 0 0 rfl rfl rfl
   have h:=hk;refine Qal h (fun o10 ho hk=>?_);refine Exists.intro (JP1 _ _ o10 .normal (Q2k p0 p1 v6 v7 o8)) (And.intro ?_ (Qbb ?_))
   ·have h:=ho;refine And.intro (by decide +kernel) (And.intro rfl ?_);refine Qae h (fun hb h=>?_) (fun hb h=>?_)
    ·refine Qen [iV o8] Qqw h (fun x11 hy=>(Qyd o8 x11 hy)) (fun x11 hy h=>?_);refine Qae h (fun hb h=>?_) (fun hb h=>?_)
     ·refine Qen [iV o8] Qim h (fun x12 hy=>(Q54 o8 x12 hy)) (fun x12 hy h=>?_);refine Qmf (some p1) (some (wr (p1+v7))) h (fun x13 hi h=>?_);refine JP1.a h ?_;exact Le.tz 0 0 rfl rfl rfl
     ·refine JP1.a h ?_;exact Le.tz 0 0 rfl rfl rfl
    ·refine bF ?_;refine JP1.a h ?_;exact Le.tz 0 0 rfl rfl rfl
   ·have h:=hk;refine Qae h (fun hb h=>?_) (fun hb h=>?_)
    ·exact JP2.b h (Le.tz 0 0 rfl rfl rfl)
    ·refine TL.le (τ := Qmh p0 p1 v6 (wr (v7+1))) ?_ ((iQc2 (wr (v7+1)) _ h));exact Le.tz 0 0 rfl rfl rfl
  ·exact JP2.a h (Le.tz 0 0 rfl rfl rfl)
def Qkm (p0:(List UInt8)) (p1:Int):Option (Int×Int) :=
 ( if(decide (p1<0)) then
   some true
  else
   some (decide (p1 ≥ (p0.length:Int))):Option (Bool))>>=fun o1 =>
 if o1 then
  some (0,0)
 else
  (Qc2 p0 p1 [0,0,192,224,240] 1)>>=fun o2 =>
  match o2 with
  | .inl y3 =>
   some (65533,1)
  | .inr y4 =>
   some (y4.1,y4.2)
theorem Q78:∀ (p0:(List UInt8)) (p1:Int) (o:Int×Int),Qkm p0 p1=some o→PCall Tryz.prog 171 [sV p0,iV p1] (Qm2 o):=by
 intro p0 p1 o h;unfold Qkm at h;refine PCall.ofB mixed tbOk Qr6 Tryz.func171 rfl (by kernel_rfl) (Nat.le_of_ble_eq_true rfl) ?_;refine Qal h (fun o1 ho hk=>?_);refine Exists.intro (JP1 _ _ o1 .normal (Q2h p0 p1)) (And.intro ?_ (Qbb ?_))
 ·have h:=ho;refine Qae h (fun hb h=>?_) (fun hb h=>?_)
  ·refine JP1.a h ?_;exact Le.tz 0 0 rfl rfl rfl
  ·refine vrfl ?_;refine JP1.a h ?_;exact Le.tz 0 0 rfl rfl rfl
 ·have h:=hk;refine Qae h (fun hb h=>?_) (fun hb h=>?_)
  ·refine Qax (t:=Qm2) h ?_;exact .refl _
  ·refine Qal h (fun o2 ho hk=>?_);refine Exists.intro (JP2 _ _ o2 (.exit 0) (Qrk p0 p1) .ret (Qrl p0 p1)) (And.intro (Qk2 (τ := Qmh p0 p1 [0,0,192,224,240] 1) ?_ (TL.loop (Qadh p0 p1 [0,0,192,224,240] 1 o2 ho))) (Qjy (fun y3 hy=>?_) (fun y4 hy=>?_)))
   ·exact Le.tz 0 0 rfl rfl rfl
   ·have h:=(by rw[hy] at hk; exact hk);refine Qax (t:=Qm2) h ?_;exact .refl _
   ·have h:=(by rw[hy] at hk; exact hk);refine Qax (t:=Qm2) h ?_;exact .refl _
def Qne (p0:(List UInt8)) (v3:Int):Option (Unit⊕Unit) :=
 if(decide (v3<(p0.length:Int))) then
  Qkm p0 v3>>=fun x4 =>
  ( if(x4.1==65533) then
    some (x4.2==1)
   else
    some false:Option (Bool))>>=fun o5 =>
  if o5 then
   some (.inr ())
  else
   Qne p0 (wr (v3+x4.2))
 else
  some (.inl ())
 partial_fixpoint
def Qadi (p0:(List UInt8)):Option (Bool) :=
 (Qne p0 0)>>=fun o1 =>
 match o1 with
 | .inl y2 =>
  some true
 | .inr y3 =>
  some false
def Qhd (p0:(List UInt8)) (v4:(List UInt8)) (v5:Int):Option ((List UInt8)⊕Unit) :=
 if(decide (v5<(p0.length:Int))) then
  cutL p0 v5 (wr (v5+1))>>=fun x5 =>
  if(x5==[13]) then
   some (.inr ())
  else
   ( if(x5==[10]) then
     some [92,110]
    else
     if(x5==[9]) then
      some [92,116]
     else
      ( if(x5==[34]) then
        some true
       else
        some (x5==[92]):Option (Bool))>>=fun o7 =>
      if o7 then
       need ([92].length+x5.length≤9223372036854775807)>>=fun _ =>
       some ([92]++x5)
      else
       some x5:Option ((List UInt8)))>>=fun o6 =>
   need (v4.length+o6.length≤9223372036854775807)>>=fun _ =>
   Qhd p0 (v4++o6) (wr (v5+1))
 else
  some (.inl v4)
 partial_fixpoint
def Qp2 (p0:(List UInt8)):Option ((List UInt8)×Bool) :=
 Qadi p0>>=fun x1 =>
 if(!x1) then
  some ([],false)
 else
  (Qhd p0 [34] 0)>>=fun o2 =>
  match o2 with
  | .inl y3 =>
   need (y3.length+[34].length≤9223372036854775807)>>=fun _ =>
   some ((y3++[34]),true)
  | .inr y4 =>
   some ([],false)
def Qgk (p0:Int):Option (Bool) :=
 ( if(decide (p0 ≥ 48)) then
   some (decide (p0≤57))
  else
   some false:Option (Bool))>>=fun o1 =>
 some o1
theorem Ql1:∀ (p0:Int) (o:Bool),Qgk p0=some o→PCall Tryz.prog 102 [nV .u8 p0] (Qio o):=by
 intro p0 o h;unfold Qgk at h;refine PCall.ofB mixed tbOk Q5w Tryz.func102 rfl (by kernel_rfl) (Nat.le_of_ble_eq_true rfl) ?_;refine Qal h (fun o1 ho hk=>?_);refine Exists.intro (JP1 _ _ o1 .normal (Qzk )) (And.intro ?_ (Qbb ?_))
 ·have h:=ho;refine Qae h (fun hb h=>?_) (fun hb h=>?_)
  ·refine JP1.a h ?_;exact Le.tz 0 0 rfl rfl rfl
  ·refine JP1.a h ?_;exact Le.tz 0 0 rfl rfl rfl
 ·have h:=hk;refine Qax (t:=Qio) h ?_;exact .refl _
def Qgl (p0:Int):Option (Bool) :=
 ( if(decide (p0 ≥ 97)) then
   some (decide (p0≤122))
  else
   some false:Option (Bool))>>=fun o1 =>
 some o1
theorem Ql2:∀ (p0:Int) (o:Bool),Qgl p0=some o→PCall Tryz.prog 101 [nV .u8 p0] (Qip o):=by
 intro p0 o h;unfold Qgl at h;refine PCall.ofB mixed tbOk Q5x Tryz.func101 rfl (by kernel_rfl) (Nat.le_of_ble_eq_true rfl) ?_;refine Qal h (fun o1 ho hk=>?_);refine Exists.intro (JP1 _ _ o1 .normal (Qzl )) (And.intro ?_ (Qbb ?_))
 ·have h:=ho;refine Qae h (fun hb h=>?_) (fun hb h=>?_)
  ·refine JP1.a h ?_;exact Le.tz 0 0 rfl rfl rfl
  ·refine JP1.a h ?_;exact Le.tz 0 0 rfl rfl rfl
 ·have h:=hk;refine Qax (t:=Qip) h ?_;exact .refl _
def Qg1 (p0:(List UInt8)) (v3:Int):Option (Unit⊕Unit) :=
 if(decide (v3<(p0.length:Int))) then
  ( idx p0 v3>>=fun x8 =>
   Qgl (x8.toNat:Int)>>=fun x9 =>
   if(!x9) then
    idx p0 v3>>=fun x10 =>
    Qgk (x10.toNat:Int)>>=fun x11 =>
    if(!x11) then
     idx p0 v3>>=fun x12 =>
     some ((x12.toNat:Int) != 95)
    else
     some false
   else
    some false:Option (Bool))>>=fun o7 =>
  if o7 then
   some (.inr ())
  else
   Qg1 p0 (wr (v3+1))
 else
  some (.inl ())
 partial_fixpoint
theorem Qadj:∀ (p0:(List UInt8)),(∀ (v3:Int) (o4:Unit⊕Unit),Qg1 p0 v3=some o4→TL (0,0) Tryz.prog 42 Q2p (JP2 (0,0) 42 o4 (.exit 0) (Qrm p0) .ret (Qrn p0)) (Qmi p0 v3)):=by
 intro p0;refine Qg1.partial_correctness p0 _ ?_;intro Qg1' iQg1 v3 o4 h;refine TL.round (Qas mixed tbOk (lv:=Qxx) _ _ _ ?_);refine vrfl ?_;refine Qae h (fun hb h=>?_) (fun hb h=>?_)
 ·refine Qal h (fun o7 ho hk=>?_);refine Exists.intro (JP1 _ _ o7 .normal (Q2o p0 v3)) (And.intro ?_ (Qbb ?_))
  ·have h:=ho;refine Qd3 h (fun x8 hi h=>?_);refine Qat [nV .u8 (x8.toNat:Int)] Qip h (fun x9 hy=>(Ql2 (x8.toNat:Int) x9 hy)) (fun x9 hy h=>?_);refine Qae h (fun hb h=>?_) (fun hb h=>?_)
   ·refine Qd3 h (fun x10 hi h=>?_);refine Qat [nV .u8 (x10.toNat:Int)] Qio h (fun x11 hy=>(Ql1 (x10.toNat:Int) x11 hy)) (fun x11 hy h=>?_);refine Qae h (fun hb h=>?_) (fun hb h=>?_)
    ·refine Qd3 h (fun x12 hi h=>?_);refine JP1.a h ?_;exact Le.tz 0 0 rfl rfl rfl
    ·refine JP1.a h ?_;exact Le.tz 0 0 rfl rfl rfl
   ·refine bF ?_;refine JP1.a h ?_;exact Le.tz 0 0 rfl rfl rfl
  ·have h:=hk;refine Qae h (fun hb h=>?_) (fun hb h=>?_)
   ·exact JP2.b h (Le.tz 0 0 rfl rfl rfl)
   ·refine TL.le (τ := Qmi p0 (wr (v3+1))) ?_ ((iQg1 (wr (v3+1)) _ h));exact Le.tz 0 0 rfl rfl rfl
 ·exact JP2.a h (Le.tz 0 0 rfl rfl rfl)
def Qje (p0:(List UInt8)):Option (Bool) :=
 ( if(decide ((p0.length:Int)<1)) then
   some true
  else
   if(decide ((p0.length:Int)>32)) then
    some true
   else
    idx p0 0>>=fun x2 =>
    Qgl (x2.toNat:Int)>>=fun x3 =>
    some (!x3):Option (Bool))>>=fun o1 =>
 if o1 then
  some false
 else
  (Qg1 p0 0)>>=fun o4 =>
  match o4 with
  | .inl y5 =>
   some true
  | .inr y6 =>
   some false
theorem Qsb:∀ (p0:(List UInt8)) (o:Bool),Qje p0=some o→PCall Tryz.prog 77 [sV p0] (Qin o):=by
 intro p0 o h;unfold Qje at h;refine PCall.ofB mixed tbOk Qxx Tryz.func77 rfl (by kernel_rfl) (Nat.le_of_ble_eq_true rfl) ?_;refine Qal h (fun o1 ho hk=>?_);refine Exists.intro (JP1 _ _ o1 .normal (Q2n p0)) (And.intro ?_ (Qbb ?_))
 ·have h:=ho;refine vrfl ?_;refine Qae h (fun hb h=>?_) (fun hb h=>?_)
  ·refine bT ?_;refine JP1.a h ?_;exact Le.tz 0 0 rfl rfl rfl
  ·refine vrfl ?_;refine Qae h (fun hb h=>?_) (fun hb h=>?_)
   ·refine JP1.a h ?_;exact Le.tz 0 0 rfl rfl rfl
   ·refine Qd3 h (fun x2 hi h=>?_);refine Qat [nV .u8 (x2.toNat:Int)] Qip h (fun x3 hy=>(Ql2 (x2.toNat:Int) x3 hy)) (fun x3 hy h=>?_);refine JP1.a h ?_;exact Le.tz 0 0 rfl rfl rfl
 ·have h:=hk;refine Qae h (fun hb h=>?_) (fun hb h=>?_)
  ·refine Qax (t:=Qin) h ?_;exact .refl _
  ·refine Qal h (fun o4 ho hk=>?_);refine Exists.intro (JP2 _ _ o4 (.exit 0) (Qrm p0) .ret (Qrn p0)) (And.intro (Qk2 (τ := Qmi p0 0) ?_ (TL.loop (Qadj p0 0 o4 ho))) (Qjy (fun y5 hy=>?_) (fun y6 hy=>?_)))
   ·exact Le.tz 0 0 rfl rfl rfl
   ·have h:=(by rw[hy] at hk; exact hk);refine Qax (t:=Qin) h ?_;exact .refl _
   ·have h:=(by rw[hy] at hk; exact hk);refine Qax (t:=Qin) h ?_;exact .refl _
mutual
def Qfb (p0:(List Qaa)):Option (Int) :=
 (Qjl p0 0 0)>>=fun o1 =>
 some o1
 partial_fixpoint
def Qjl (p0:(List Qaa)) (v3:Int) (v4:Int):Option (Int) :=
 if(decide (v4<(p0.length:Int))) then
  idx p0 v4>>=fun x2 =>
  Qfb x2.L>>=fun x3 =>
  idx p0 v4>>=fun x4 =>
  Qfb x4.Then>>=fun x5 =>
  idx p0 v4>>=fun x6 =>
  Qfb x6.Else>>=fun x7 =>
  Qjl p0 (wr ((wr ((wr ((wr (v3+1))+x3))+x5))+x7)) (wr (v4+1))
 else
  some v3
 partial_fixpoint
end
theorem Q25:(∀ (p0:(List Qaa)) (o:Int),Qfb p0=some o→PCall Tryz.prog 80 [.sl false (p0.map Qab)] (Qgy o))∧(∀ (p0:(List Qaa)) (v3:Int) (v4:Int) (o1:Int),Qjl p0 v3 v4=some o1→TL (0,0) Tryz.prog 35 Qzm (JP1 (0,0) 35 o1 (.exit 0) (Qpq p0)) (Qk6 p0 v3 v4)):=by
 refine Qfb.mutual_partial_correctness _ _ ?_ ?_
 ·intro Qjl' iQjl p0 o h;refine PCall.ofB mixed tbOk Qu8 Tryz.func80 rfl (by kernel_rfl) (Nat.le_of_ble_eq_true rfl) ?_;refine Qal h (fun o1 ho hk=>?_);refine Exists.intro (JP1 _ _ o1 (.exit 0) (Qpq p0)) (And.intro (Qk2 (τ := Qk6 p0 0 0) ?_ (TL.loop (iQjl p0 0 0 o1 ho))) (Qbb ?_))
  ·exact Le.tz 0 0 rfl rfl rfl
  have h:=hk;refine Qax (t:=Qgy) h ?_;exact .refl _
 ·intro Qfb' Qjl' iQfb iQjl p0 v3 v4 o1 h;refine TL.round (Qas mixed tbOk (lv:=Qu8) _ _ _ ?_);refine view (Qej _ _) rfl ?_;refine Qae h (fun hb h=>?_) (fun hb h=>?_)
  ·refine And.intro (by decide +kernel) (And.intro rfl ?_);refine Qco (l:=p0) (c:=Qab) (c' := Qbh) h Qap (fun _=>rfl) (by decide) (fun x2 hi h=>?_);refine Qen [.sl false (x2.L.map Qab)] Qgy h (fun x3 hy=>(iQfb x2.L x3 hy)) (fun x3 hy h=>?_);refine Qco (l:=p0) (c:=Qab) (c' := Qbh) h Qap (fun _=>rfl) (by decide) (fun x4 hi h=>?_);refine Qen [.sl false (x4.Then.map Qab)] Qgy h (fun x5 hy=>(iQfb x4.Then x5 hy)) (fun x5 hy h=>?_);refine Qco (l:=p0) (c:=Qab) (c' := Qbh) h Qap (fun _=>rfl) (by decide) (fun x6 hi h=>?_);refine Qen [.sl false (x6.Else.map Qab)] Qgy h (fun x7 hy=>(iQfb x6.Else x7 hy)) (fun x7 hy h=>?_);refine TL.le (τ := Qk6 p0 (wr ((wr ((wr ((wr (v3+1))+x3))+x5))+x7)) (wr (v4+1))) ?_ ((iQjl p0 (wr ((wr ((wr ((wr (v3+1))+x3))+x5))+x7)) (wr (v4+1)) _ h));exact Le.tz 0 0 rfl rfl rfl
  ·exact JP1.a h (Le.tz 0 0 rfl rfl rfl)
theorem Q55:∀ (p0:(List Qaa)) (o:Int),Qfb p0=some o→PCall Tryz.prog 80 [.sl false (p0.map Qab)] (Qgy o):=fun p0=>Q25.1 p0
mutual
def Qgt (p0:(List Qaa)):Option (Int) :=
 (Qlc p0 0 0)>>=fun o1 =>
 some o1
 partial_fixpoint
def Qlc (p0:(List Qaa)) (v3:Int) (v4:Int):Option (Int) :=
 if(decide (v4<(p0.length:Int))) then
  idx p0 v4>>=fun x2 =>
  Qgt x2.L>>=fun x3 =>
  idx p0 v4>>=fun x4 =>
  Qgt x4.Then>>=fun x5 =>
  idx p0 v4>>=fun x6 =>
  Qgt x6.Else>>=fun x7 =>
  Qlc p0 (if(wr (1+(if x7>(if x5>x3 then x5 else x3) then x7 else(if x5>x3 then x5 else x3))))>v3 then(wr (1+(if x7>(if x5>x3 then x5 else x3) then x7 else(if x5>x3 then x5 else x3)))) else v3) (wr (v4+1))
 else
  some v3
 partial_fixpoint
end
theorem Q56:(∀ (p0:(List Qaa)) (o:Int),Qgt p0=some o→PCall Tryz.prog 79 [.sl false (p0.map Qab)] (Qiq o))∧(∀ (p0:(List Qaa)) (v3:Int) (v4:Int) (o1:Int),Qlc p0 v3 v4=some o1→TL (0,0) Tryz.prog 34 Q2q (JP1 (0,0) 34 o1 (.exit 0) (Qro p0)) (Qmj p0 v3 v4)):=by
 refine Qgt.mutual_partial_correctness _ _ ?_ ?_
 ·intro Qlc' iQlc p0 o h;refine PCall.ofB mixed tbOk Qxy Tryz.func79 rfl (by kernel_rfl) (Nat.le_of_ble_eq_true rfl) ?_;refine Qal h (fun o1 ho hk=>?_);refine Exists.intro (JP1 _ _ o1 (.exit 0) (Qro p0)) (And.intro (Qk2 (τ := Qmj p0 0 0) ?_ (TL.loop (iQlc p0 0 0 o1 ho))) (Qbb ?_))
  ·exact Le.tz 0 0 rfl rfl rfl
  have h:=hk;refine Qax (t:=Qiq) h ?_;exact .refl _
 ·intro Qgt' Qlc' iQgt iQlc p0 v3 v4 o1 h;refine TL.round (Qas mixed tbOk (lv:=Qxy) _ _ _ ?_);refine view (Qej _ _) rfl ?_;refine Qae h (fun hb h=>?_) (fun hb h=>?_)
  ·refine And.intro (by decide +kernel) (And.intro rfl ?_);refine Qco (l:=p0) (c:=Qab) (c' := Qbh) h Qap (fun _=>rfl) (by decide) (fun x2 hi h=>?_);refine Qen [.sl false (x2.L.map Qab)] Qiq h (fun x3 hy=>(iQgt x2.L x3 hy)) (fun x3 hy h=>?_);refine Qco (l:=p0) (c:=Qab) (c' := Qbh) h Qap (fun _=>rfl) (by decide) (fun x4 hi h=>?_);refine Qen [.sl false (x4.Then.map Qab)] Qiq h (fun x5 hy=>(iQgt x4.Then x5 hy)) (fun x5 hy h=>?_);refine Qco (l:=p0) (c:=Qab) (c' := Qbh) h Qap (fun _=>rfl) (by decide) (fun x6 hi h=>?_);refine Qen [.sl false (x6.Else.map Qab)] Qiq h (fun x7 hy=>(iQgt x6.Else x7 hy)) (fun x7 hy h=>?_);refine TL.le (τ := Qmj p0 (if(wr (1+(if x7>(if x5>x3 then x5 else x3) then x7 else(if x5>x3 then x5 else x3))))>v3 then(wr (1+(if x7>(if x5>x3 then x5 else x3) then x7 else(if x5>x3 then x5 else x3)))) else v3) (wr (v4+1))) ?_ ((iQlc p0 (if(wr (1+(if x7>(if x5>x3 then x5 else x3) then x7 else(if x5>x3 then x5 else x3))))>v3 then(wr (1+(if x7>(if x5>x3 then x5 else x3) then x7 else(if x5>x3 then x5 else x3)))) else v3) (wr (v4+1)) _ h));exact Le.tz 0 0 rfl rfl rfl
  ·exact JP1.a h (Le.tz 0 0 rfl rfl rfl)
theorem Q79:∀ (p0:(List Qaa)) (o:Int),Qgt p0=some o→PCall Tryz.prog 79 [.sl false (p0.map Qab)] (Qiq o):=fun p0=>Q56.1 p0
def Qg2 (p0:(List UInt8)) (x1:(List (List UInt8))) (v4:Int):Option (Unit⊕Unit) :=
 if(decide (v4<(x1.length:Int))) then
  idx x1 v4>>=fun x5 =>
  if(x5==p0) then
   some (.inr ())
  else
   Qg2 p0 x1 (wr (v4+1))
 else
  some (.inl ())
 partial_fixpoint
theorem Qadk:∀ (p0:(List UInt8)) (x1:(List (List UInt8))),(∀ (v4:Int) (o2:Unit⊕Unit),Qg2 p0 x1 v4=some o2→TL (0,0) Tryz.prog 20 Q2r (JP2 (0,0) 20 o2 (.exit 0) (Qrp p0 x1) .ret (Qrq p0 x1)) (Qmk p0 x1 v4)):=by
 intro p0 x1;refine Qg2.partial_correctness p0 x1 _ ?_;intro Qg2' iQg2 v4 o2 h;refine TL.round (Qas mixed tbOk (lv:=Qxz) _ _ _ ?_);refine view (Qej _ _) rfl ?_;refine Qae h (fun hb h=>?_) (fun hb h=>?_)
 ·refine Qco (l:=x1) (c:=cStr) (c' := cStr) h (fun _=>rfl) (fun _=>rfl) (by decide) (fun x5 hi h=>?_);refine Qae h (fun hb h=>?_) (fun hb h=>?_)
  ·exact JP2.b h (Le.tz 0 0 rfl rfl rfl)
  ·refine TL.le (τ := Qmk p0 x1 (wr (v4+1))) ?_ ((iQg2 (wr (v4+1)) _ h));exact Le.tz 0 0 rfl rfl rfl
 ·exact JP2.a h (Le.tz 0 0 rfl rfl rfl)
def Qtb:Option ((List (List UInt8))) :=
 some ([[105,102],[101,108,115,101],[101,110,100],[101,97,99,104],[105,110],[108,101,116],[117,115,101],[116,114,117,101],[102,97,108,115,101],[115,101,99,114,101,116]])
theorem Q57:∀ (o:(List (List UInt8))),Qtb  = some o→PCall Tryz.prog 76 [] (Qr7 o):=by
 intro o h;unfold Qtb at h;refine PCall.ofB mixed tbOk Q5y Tryz.func76 rfl (by kernel_rfl) (Nat.le_of_ble_eq_true rfl) ?_;refine Qax (t:=Qr7) h ?_;exact .p (.not)
def Qhp (p0:(List UInt8)):Option (Bool) :=
 Qtb>>=fun x1 =>
 (Qg2 p0 x1 0)>>=fun o2 =>
 match o2 with
 | .inl y3 =>
  Qje p0>>=fun x6 =>
  some x6
 | .inr y4 =>
  some false
theorem Q8a:∀ (p0:(List UInt8)) (o:Bool),Qhp p0=some o→PCall Tryz.prog 43 [sV p0] (Qqx o):=by
 intro p0 o h;unfold Qhp at h;refine PCall.ofB mixed tbOk Qxz Tryz.func43 rfl (by kernel_rfl) (Nat.le_of_ble_eq_true rfl) ?_;refine Qat [] Qr7 h (fun x1 hy=>(Q57 x1 hy)) (fun x1 hy h=>?_);refine Qal h (fun o2 ho hk=>?_);refine Exists.intro (JP2 _ _ o2 (.exit 0) (Qrp p0 x1) .ret (Qrq p0 x1)) (And.intro (Qk2 (τ := Qmk p0 x1 0) ?_ (TL.loop (Qadk p0 x1 0 o2 ho))) (Qjy (fun y3 hy=>?_) (fun y4 hy=>?_)))
 ·exact Le.tz 0 0 rfl rfl rfl
 ·have h:=(by rw[hy] at hk; exact hk);refine Qat [sV p0] Qin h (fun x6 hy=>(Qsb p0 x6 hy)) (fun x6 hy h=>?_);refine Qax (t:=Qqx) h ?_;exact .refl _
 ·have h:=(by rw[hy] at hk; exact hk);refine Qax (t:=Qqx) h ?_;exact .refl _
def Qf6 (p0:Qaa) (p1:Bool) (p2:Bool) (p3:Bool) (p4:Bool) (p5:Bool):Option (Bool) :=
 ( if p1 then
   if p2 then
    if p3 then
     if p4 then
      if p5 then
       if(p0.Kind==10) then
        some true
       else
        some ((p0.Else.length:Int)==0)
      else
       if((p0.Then.length:Int)==0) then
        if(p0.Kind==10) then
         some true
        else
         some ((p0.Else.length:Int)==0)
       else
        some false
     else
      if((p0.L.length:Int)==0) then
       if p5 then
        if(p0.Kind==10) then
         some true
        else
         some ((p0.Else.length:Int)==0)
       else
        if((p0.Then.length:Int)==0) then
         if(p0.Kind==10) then
          some true
         else
          some ((p0.Else.length:Int)==0)
        else
         some false
      else
       some false
    else
     if(p0.N==0) then
      if p4 then
       if p5 then
        if(p0.Kind==10) then
         some true
        else
         some ((p0.Else.length:Int)==0)
       else
        if((p0.Then.length:Int)==0) then
         if(p0.Kind==10) then
          some true
         else
          some ((p0.Else.length:Int)==0)
        else
         some false
      else
       if((p0.L.length:Int)==0) then
        if p5 then
         if(p0.Kind==10) then
          some true
         else
          some ((p0.Else.length:Int)==0)
        else
         if((p0.Then.length:Int)==0) then
          if(p0.Kind==10) then
           some true
          else
           some ((p0.Else.length:Int)==0)
         else
          some false
       else
        some false
     else
      some false
   else
    if(p0.Text==[]) then
     if p3 then
      if p4 then
       if p5 then
        if(p0.Kind==10) then
         some true
        else
         some ((p0.Else.length:Int)==0)
       else
        if((p0.Then.length:Int)==0) then
         if(p0.Kind==10) then
          some true
         else
          some ((p0.Else.length:Int)==0)
        else
         some false
      else
       if((p0.L.length:Int)==0) then
        if p5 then
         if(p0.Kind==10) then
          some true
         else
          some ((p0.Else.length:Int)==0)
        else
         if((p0.Then.length:Int)==0) then
          if(p0.Kind==10) then
           some true
          else
           some ((p0.Else.length:Int)==0)
         else
          some false
       else
        some false
     else
      if(p0.N==0) then
       if p4 then
        if p5 then
         if(p0.Kind==10) then
          some true
         else
          some ((p0.Else.length:Int)==0)
        else
         if((p0.Then.length:Int)==0) then
          if(p0.Kind==10) then
           some true
          else
           some ((p0.Else.length:Int)==0)
         else
          some false
       else
        if((p0.L.length:Int)==0) then
         if p5 then
          if(p0.Kind==10) then
           some true
          else
           some ((p0.Else.length:Int)==0)
         else
          if((p0.Then.length:Int)==0) then
           if(p0.Kind==10) then
            some true
           else
            some ((p0.Else.length:Int)==0)
          else
           some false
        else
         some false
      else
       some false
    else
     some false
  else
   if(p0.Name==[]) then
    if p2 then
     if p3 then
      if p4 then
       if p5 then
        if(p0.Kind==10) then
         some true
        else
         some ((p0.Else.length:Int)==0)
       else
        if((p0.Then.length:Int)==0) then
         if(p0.Kind==10) then
          some true
         else
          some ((p0.Else.length:Int)==0)
        else
         some false
      else
       if((p0.L.length:Int)==0) then
        if p5 then
         if(p0.Kind==10) then
          some true
         else
          some ((p0.Else.length:Int)==0)
        else
         if((p0.Then.length:Int)==0) then
          if(p0.Kind==10) then
           some true
          else
           some ((p0.Else.length:Int)==0)
         else
          some false
       else
        some false
     else
      if(p0.N==0) then
       if p4 then
        if p5 then
         if(p0.Kind==10) then
          some true
         else
          some ((p0.Else.length:Int)==0)
        else
         if((p0.Then.length:Int)==0) then
          if(p0.Kind==10) then
           some true
          else
           some ((p0.Else.length:Int)==0)
         else
          some false
       else
        if((p0.L.length:Int)==0) then
         if p5 then
          if(p0.Kind==10) then
           some true
          else
           some ((p0.Else.length:Int)==0)
         else
          if((p0.Then.length:Int)==0) then
           if(p0.Kind==10) then
            some true
           else
            some ((p0.Else.length:Int)==0)
          else
           some false
        else
         some false
      else
       some false
    else
     if(p0.Text==[]) then
      if p3 then
       if p4 then
        if p5 then
         if(p0.Kind==10) then
          some true
         else
          some ((p0.Else.length:Int)==0)
        else
         if((p0.Then.length:Int)==0) then
          if(p0.Kind==10) then
           some true
          else
           some ((p0.Else.length:Int)==0)
         else
          some false
       else
        if((p0.L.length:Int)==0) then
         if p5 then
          if(p0.Kind==10) then
           some true
          else
           some ((p0.Else.length:Int)==0)
         else
          if((p0.Then.length:Int)==0) then
           if(p0.Kind==10) then
            some true
           else
            some ((p0.Else.length:Int)==0)
          else
           some false
        else
         some false
      else
       if(p0.N==0) then
        if p4 then
         if p5 then
          if(p0.Kind==10) then
           some true
          else
           some ((p0.Else.length:Int)==0)
         else
          if((p0.Then.length:Int)==0) then
           if(p0.Kind==10) then
            some true
           else
            some ((p0.Else.length:Int)==0)
          else
           some false
        else
         if((p0.L.length:Int)==0) then
          if p5 then
           if(p0.Kind==10) then
            some true
           else
            some ((p0.Else.length:Int)==0)
          else
           if((p0.Then.length:Int)==0) then
            if(p0.Kind==10) then
             some true
            else
             some ((p0.Else.length:Int)==0)
           else
            some false
         else
          some false
       else
        some false
     else
      some false
   else
    some false:Option (Bool))>>=fun o1 =>
 some o1
mutual
def Q9t (p0:Qaa):Option (Bool) :=
 if(p0.Kind==1) then
  Qp2 p0.Text>>=fun x1 =>
  ( if x1.2 then
    Qf6 p0 false true false false false>>=fun x3 =>
    some x3
   else
    some false:Option (Bool))>>=fun o2 =>
  some o2
 else
  if(p0.Kind==2) then
   Qf6 p0 false false true false false>>=fun x4 =>
   some x4
  else
   if(p0.Kind==3) then
    ( if(p0.N==0) then
      Qf6 p0 false false true false false>>=fun x6 =>
      some x6
     else
      if(p0.N==1) then
       Qf6 p0 false false true false false>>=fun x7 =>
       some x7
      else
       some false:Option (Bool))>>=fun o5 =>
    some o5
   else
    if(p0.Kind==4) then
     ( Qhp p0.Name>>=fun x9 =>
      if x9 then
       Qf6 p0 true false false false false>>=fun x10 =>
       some x10
      else
       some false:Option (Bool))>>=fun o8 =>
     some o8
    else
     if(p0.Kind==5) then
      ( Qje p0.Name>>=fun x12 =>
       if x12 then
        if((p0.L.length:Int)==1) then
         Qye p0.L>>=fun x13 =>
         if x13 then
          Qf6 p0 true false false true false>>=fun x14 =>
          some x14
         else
          some false
        else
         some false
       else
        some false:Option (Bool))>>=fun o11 =>
      some o11
     else
      if(p0.Kind==6) then
       ( Qhp p0.Name>>=fun x16 =>
        if x16 then
         if(decide ((p0.L.length:Int)≤3)) then
          Qye p0.L>>=fun x17 =>
          if x17 then
           Qf6 p0 true false false true false>>=fun x18 =>
           some x18
          else
           some false
         else
          some false
        else
         some false:Option (Bool))>>=fun o15 =>
       some o15
      else
       if(p0.Kind==7) then
        ( Qje p0.Name>>=fun x20 =>
         if x20 then
          Qf6 p0 true false false false false>>=fun x21 =>
          some x21
         else
          some false:Option (Bool))>>=fun o19 =>
        some o19
       else
        some false
 partial_fixpoint
def Qye (p0:(List Qaa)):Option (Bool) :=
 (Qvd p0 0)>>=fun o1 =>
 match o1 with
 | .inl y2 =>
  some true
 | .inr y3 =>
  some false
 partial_fixpoint
def Qvd (p0:(List Qaa)) (v3:Int):Option (Unit⊕Unit) :=
 if(decide (v3<(p0.length:Int))) then
  idx p0 v3>>=fun x4 =>
  Q9t x4>>=fun x5 =>
  if(!x5) then
   some (.inr ())
  else
   Qvd p0 (wr (v3+1))
 else
  some (.inl ())
 partial_fixpoint
end
def Qtc (p0:(List UInt8)) (p1:(List UInt8)) (v5:Int):Option (Unit⊕Unit) :=
 if(decide (v5<(p0.length:Int))) then
  Qf5 p0 p1 v5>>=fun x4 =>
  if x4 then
   some (.inr ())
  else
   Qtc p0 p1 (wr (v5+1))
 else
  some (.inl ())
 partial_fixpoint
def Qaa5 (p0:(List UInt8)) (p1:(List UInt8)):Option (Bool) :=
 (Qtc p0 p1 0)>>=fun o1 =>
 match o1 with
 | .inl y2 =>
  some false
 | .inr y3 =>
  some true
mutual
def Qtd (p0:(List Qaa)) (p1:Bool):Option (Bool) :=
 (Qp3 p0 p1 0)>>=fun o1 =>
 match o1 with
 | .inl y2 =>
  some true
 | .inr y3 =>
  some false
 partial_fixpoint
def Qp3 (p0:(List Qaa)) (p1:Bool) (v5:Int):Option (Unit⊕Unit) :=
 if(decide (v5<(p0.length:Int))) then
  idx p0 v5>>=fun x4 =>
  Q9u x4>>=fun x5 =>
  if(!x5) then
   some (.inr ())
  else
   idx p0 v5>>=fun x6 =>
   if(x6.Kind != 8) then
    Qp3 p0 p1 (wr (v5+1))
   else
    idx p0 v5>>=fun x7 =>
    ( if(!(v5==(wr ((p0.length:Int)-1)))) then
      idx p0 (wr (v5+1))>>=fun x9 =>
      if(x9.Kind==8) then
       some true
      else
       if(!(v5==(wr ((p0.length:Int)-1)))) then
        idx x7.Text (wr ((x7.Text.length:Int)-1))>>=fun x10 =>
        some ((x10.toNat:Int)==123)
       else
        if p1 then
         idx x7.Text (wr ((x7.Text.length:Int)-1))>>=fun x11 =>
         some ((x11.toNat:Int)==123)
        else
         some false
     else
      if(!(v5==(wr ((p0.length:Int)-1)))) then
       idx x7.Text (wr ((x7.Text.length:Int)-1))>>=fun x12 =>
       some ((x12.toNat:Int)==123)
      else
       if p1 then
        idx x7.Text (wr ((x7.Text.length:Int)-1))>>=fun x13 =>
        some ((x13.toNat:Int)==123)
       else
        some false:Option (Bool))>>=fun o8 =>
    if o8 then
     some (.inr ())
    else
     Qp3 p0 p1 (wr (v5+1))
 else
  some (.inl ())
 partial_fixpoint
def Q9u (p0:Qaa):Option (Bool) :=
 ( if((p0.L.length:Int)==1) then
   Qye p0.L>>=fun x2 =>
   some x2
  else
   some false:Option (Bool))>>=fun o1 =>
 if(p0.Kind==8) then
  ( if(!(p0.Text==[])) then
    Qaa5 p0.Text [123,123]>>=fun x4 =>
    if(!x4) then
     Qf6 p0 false true false false false>>=fun x5 =>
     some x5
    else
     some false
   else
    some false:Option (Bool))>>=fun o3 =>
  some o3
 else
  if(p0.Kind==9) then
   ( if o1 then
     Qf6 p0 false false false true false>>=fun x7 =>
     some x7
    else
     some false:Option (Bool))>>=fun o6 =>
   some o6
  else
   if(p0.Kind==10) then
    ( if o1 then
      Qtd p0.Then true>>=fun x9 =>
      if x9 then
       Qtd p0.Else true>>=fun x10 =>
       if x10 then
        Qf6 p0 false false false true true>>=fun x11 =>
        some x11
       else
        some false
      else
       some false
     else
      some false:Option (Bool))>>=fun o8 =>
    some o8
   else
    ( if(p0.Kind==11) then
      some (p0.Kind==11)
     else
      some (p0.Kind==12):Option (Bool))>>=fun o12 =>
    if o12 then
     ( Qhp p0.Name>>=fun x14 =>
      if x14 then
       if o1 then
        Qtd p0.Then true>>=fun x15 =>
        if x15 then
         Qf6 p0 true false false true true>>=fun x16 =>
         some x16
        else
         some false
       else
        some false
      else
       some false:Option (Bool))>>=fun o13 =>
     some o13
    else
     if(p0.Kind==13) then
      ( Qhp p0.Name>>=fun x18 =>
       if x18 then
        if o1 then
         Qf6 p0 true false false true false>>=fun x19 =>
         some x19
        else
         some false
       else
        some false:Option (Bool))>>=fun o17 =>
      some o17
     else
      some false
 partial_fixpoint
end
def Qaii (p0:(List Qaa)):Option (Bool) :=
 ( Qtd p0 false>>=fun x2 =>
  if x2 then
   Qgt p0>>=fun x3 =>
   if(decide (x3≤12)) then
    Qfb p0>>=fun x4 =>
    some (decide (x4≤1024))
   else
    some false
  else
   some false:Option (Bool))>>=fun o1 =>
 some o1
def Qyf (p0:(List Qac)) (p1:(List UInt8)) (v6:Int):Option (Unit⊕(List Qaa)) :=
 if(decide (v6<(p0.length:Int))) then
  idx p0 v6>>=fun x4 =>
  if(x4.Name==p1) then
   idx p0 v6>>=fun x5 =>
   some (.inr x5.L)
  else
   Qyf p0 p1 (wr (v6+1))
 else
  some (.inl ())
 partial_fixpoint
def Qwv (p0:(List Qac)) (p1:(List UInt8)):Option ((List Qaa)×Bool) :=
 (Qyf p0 p1 0)>>=fun o1 =>
 match o1 with
 | .inl y2 =>
  some ([],false)
 | .inr y3 =>
  some (y3,true)
def Qve (p0:(List Qac)) (v4:Int):Option (Unit⊕((List UInt8)×Int)) :=
 if(decide (v4<(p0.length:Int))) then
  ( idx p0 v4>>=fun x5 =>
   Qhp x5.Name>>=fun x6 =>
   if(!x6) then
    some true
   else
    idx p0 v4>>=fun x7 =>
    Qaii x7.L>>=fun x8 =>
    some (!x8):Option (Bool))>>=fun o4 =>
  if o4 then
   idx p0 v4>>=fun x9 =>
   some (.inr (x9.Name,7))
  else
   cutL p0 0 v4>>=fun x10 =>
   idx p0 v4>>=fun x11 =>
   Qwv x10 x11.Name>>=fun x12 =>
   if x12.2 then
    idx p0 v4>>=fun x13 =>
    some (.inr (x13.Name,9))
   else
    Qve p0 (wr (v4+1))
 else
  some (.inl ())
 partial_fixpoint
def Qvf (p0:(List Qac)) (v7:Int) (x18:(List (List UInt8))) (v9:Int):Option (Unit⊕(List UInt8)) :=
 if(decide (v9<(x18.length:Int))) then
  idx x18 v9>>=fun x22 =>
  Qwv p0 x22>>=fun x23 =>
  if(!x23.2) then
   idx p0 v7>>=fun x24 =>
   some (.inr x24.Name)
  else
   Qvf p0 v7 x18 (wr (v9+1))
 else
  some (.inl ())
 partial_fixpoint
def Q58 (p0:(List (List UInt8))) (p1:(List UInt8)) (v5:Int):Option (Unit⊕Unit) :=
 if(decide (v5<(p0.length:Int))) then
  idx p0 v5>>=fun x4 =>
  if(x4==p1) then
   some (.inr ())
  else
   Q58 p0 p1 (wr (v5+1))
 else
  some (.inl ())
 partial_fixpoint
def Qaf9 (p0:(List (List UInt8))) (p1:(List UInt8)):Option (Bool) :=
 (Q58 p0 p1 0)>>=fun o1 =>
 match o1 with
 | .inl y2 =>
  some false
 | .inr y3 =>
  some true
def Qyg (p0:(List (List UInt8))) (p1:(List UInt8)) (v5:Int):Option (Int) :=
 ( if(decide (v5<(p0.length:Int))) then
   idx p0 v5>>=fun x4 =>
   some (Op.bytesLess x4 p1)
  else
   some false:Option (Bool))>>=fun o3 =>
 if o3 then
  Qyg p0 p1 (wr (v5+1))
 else
  some v5
 partial_fixpoint
def Q26 (p0:(List (List UInt8))) (p1:(List UInt8)):Option ((List (List UInt8))) :=
 Qaf9 p0 p1>>=fun x1 =>
 if x1 then
  some p0
 else
  (Qyg p0 p1 0)>>=fun o2 =>
  cutL p0 0 o2>>=fun x5 =>
  appL 16 [] x5>>=fun x6 =>
  appL 16 x6 [p1]>>=fun x7 =>
  cutL p0 o2 (p0.length:Int)>>=fun x8 =>
  appL 16 x7 x8>>=fun x9 =>
  need (((p0.map cStr).length)<((x9.map cStr).length))>>=fun _ =>
  some x9
def Qyh (p0:(List Qaa)) (v4:Int) (x9:(List (List UInt8))) (x10:(List (List UInt8))) (v3_:(List (List UInt8))) (v6:Int):Option ((List (List UInt8))) :=
 if(decide (v6<(x10.length:Int))) then
  idx x10 v6>>=fun x12 =>
  Q26 v3_ x12>>=fun x13 =>
  Qyh p0 v4 x9 x10 x13 (wr (v6+1))
 else
  some v3_
 partial_fixpoint
mutual
def Qte (p0:(List Qaa)):Option ((List (List UInt8))) :=
 (Qyi p0 [] 0)>>=fun o1 =>
 some o1
 partial_fixpoint
def Qyi (p0:(List Qaa)) (v3:(List (List UInt8))) (v4:Int):Option ((List (List UInt8))) :=
 if(decide (v4<(p0.length:Int))) then
  ( idx p0 v4>>=fun x3 =>
   if(x3.Kind==13) then
    idx p0 v4>>=fun x4 =>
    Q26 v3 x4.Name>>=fun x5 =>
    some x5
   else
    some v3:Option ((List (List UInt8))))>>=fun o2 =>
  idx p0 v4>>=fun x6 =>
  Qte x6.Then>>=fun x7 =>
  idx p0 v4>>=fun x8 =>
  Qte x8.Else>>=fun x9 =>
  appL 16 x7 x9>>=fun x10 =>
  (Qyh p0 v4 x9 x10 o2 0)>>=fun o11 =>
  Qyi p0 o11 (wr (v4+1))
 else
  some v3
 partial_fixpoint
end
def Qvg (p0:(List Qac)) (v7:Int):Option (Unit⊕(List UInt8)) :=
 if(decide (v7<(p0.length:Int))) then
  idx p0 v7>>=fun x17 =>
  Qte x17.L>>=fun x18 =>
  (Qvf p0 v7 x18 0)>>=fun o19 =>
  match o19 with
  | .inl y20 =>
   Qvg p0 (wr (v7+1))
  | .inr y21 =>
   some (.inr y21)
 else
  some (.inl ())
 partial_fixpoint
def Qvh (p0:(List Qac)) (v7:(List (List UInt8))) (v8:Int) (v10:Int) (x7:(List (List UInt8))) (v7__:(List (List UInt8))) (v14:Int):Option ((List (List UInt8))) :=
 if(decide (v14<(x7.length:Int))) then
  idx x7 v14>>=fun x9 =>
  Q26 v7__ x9>>=fun x10 =>
  Qvh p0 v7 v8 v10 x7 x10 (wr (v14+1))
 else
  some v7__
 partial_fixpoint
def Qvi (p0:(List Qac)) (v7:(List (List UInt8))) (v8:Int) (v7_:(List (List UInt8))) (v10:Int):Option ((List (List UInt8))) :=
 if(decide (v10<(v7.length:Int))) then
  idx v7 v10>>=fun x5 =>
  Qwv p0 x5>>=fun x6 =>
  Qte x6.1>>=fun x7 =>
  (Qvh p0 v7 v8 v10 x7 v7_ 0)>>=fun o8 =>
  Qvi p0 v7 v8 o8 (wr (v10+1))
 else
  some v7_
 partial_fixpoint
def Qvj (p0:(List Qac)) (v7:(List (List UInt8))) (v8:Int):Option ((List (List UInt8))) :=
 if(decide (v8<(p0.length:Int))) then
  (Qvi p0 v7 v8 v7 0)>>=fun o4 =>
  Qvj p0 o4 (wr (v8+1))
 else
  some v7
 partial_fixpoint
def Qadl (p0:(List Qac)) (p1:(List UInt8)):Option ((List (List UInt8))) :=
 Qwv p0 p1>>=fun x1 =>
 Qte x1.1>>=fun x2 =>
 (Qvj p0 x2 0)>>=fun o3 =>
 some o3
def Qvk (p0:(List Qac)) (v12:Int):Option (Unit⊕(List UInt8)) :=
 if(decide (v12<(p0.length:Int))) then
  idx p0 v12>>=fun x28 =>
  Qadl p0 x28.Name>>=fun x29 =>
  idx p0 v12>>=fun x30 =>
  Qaf9 x29 x30.Name>>=fun x31 =>
  if x31 then
   idx p0 v12>>=fun x32 =>
   some (.inr x32.Name)
  else
   Qvk p0 (wr (v12+1))
 else
  some (.inl ())
 partial_fixpoint
def Qaij (p0:(List Qac)):Option ((List UInt8)×Int) :=
 if(decide ((p0.length:Int)>16)) then
  some ([],5)
 else
  (Qve p0 0)>>=fun o1 =>
  match o1 with
  | .inl y2 =>
   (Qvg p0 0)>>=fun o14 =>
   match o14 with
   | .inl y15 =>
    (Qvk p0 0)>>=fun o25 =>
    match o25 with
    | .inl y26 =>
     some ([],0)
    | .inr y27 =>
     some (y27,10)
   | .inr y16 =>
    some (y16,4)
  | .inr y3 =>
   some (y3.1,y3.2)
def Qe0 (p0:(List Qac)) (p1:(List UInt8)) (v10:Int):Option (Unit⊕(List Qaa)) :=
 if(decide (v10<(p0.length:Int))) then
  idx p0 v10>>=fun x4 =>
  if(x4.Name==p1) then
   some (.inr x4.L)
  else
   Qe0 p0 p1 (wr (v10+1))
 else
  some (.inl ())
 partial_fixpoint
theorem Qaa6:∀ (p0:(List Qac)) (p1:(List UInt8)),(∀ (v10:Int) (o1:Unit⊕(List Qaa)),Qe0 p0 p1 v10=some o1→TL (0,0) Tryz.prog 21 Qx0 (JP2 (0,0) 21 o1 (.exit 0) (Qop p0 p1) .ret (Qoq p0 p1)) (Qjz p0 p1 v10)):=by
 intro p0 p1;refine Qe0.partial_correctness p0 p1 _ ?_;intro Qe0' iQe0 v10 o1 h;refine TL.round (Qas mixed tbOk (lv:=Qs8) _ _ _ ?_);refine Qae h (fun hb h=>?_) (fun hb h=>?_)
 ·refine Qco (l:=p0) (c:=Qah) (c' := Qah) h (fun _=>rfl) (fun _=>rfl) (by decide) (fun x4 hi h=>?_);refine Qae h (fun hb h=>?_) (fun hb h=>?_)
  ·exact JP2.b h (Le.tz 0 0 rfl rfl rfl)
  ·refine TL.le (τ := Qjz p0 p1 (wr (v10+1))) ?_ ((iQe0 (wr (v10+1)) _ h));exact Le.tz 0 0 rfl rfl rfl
 ·exact JP2.a h (Le.tz 0 0 rfl rfl rfl)
def Qf7 (p0:(List Qac)) (p1:(List UInt8)):Option ((List Qaa)×Bool) :=
 (Qe0 p0 p1 0)>>=fun o1 =>
 match o1 with
 | .inl y2 =>
  some ([],false)
 | .inr y3 =>
  some (y3,true)
theorem Qhq:∀ (p0:(List Qac)) (p1:(List UInt8)) (o:(List Qaa)×Bool),Qf7 p0 p1=some o→PCall Tryz.prog 39 [.sl false (p0.map Qah),sV p1] (Qew o):=by
 intro p0 p1 o h;unfold Qf7 at h;refine PCall.ofB mixed tbOk Qs8 Tryz.func39 rfl (by kernel_rfl) (Nat.le_of_ble_eq_true rfl) ?_;refine view (Qej _ _) rfl ?_;refine Qal h (fun o1 ho hk=>?_);refine Exists.intro (JP2 _ _ o1 (.exit 0) (Qop p0 p1) .ret (Qoq p0 p1)) (And.intro (Qk2 (τ := Qjz p0 p1 0) ?_ (TL.loop (Qaa6 p0 p1 0 o1 ho))) (Qjy (fun y2 hy=>?_) (fun y3 hy=>?_)))
 ·exact Le.tz 0 0 rfl rfl rfl
 ·have h:=(by rw[hy] at hk; exact hk);refine Qax (t:=Qew) h ?_;exact .tup (xs:=[.sl true [],bV false]) (ys:=[.sl false [],bV false]) (.cons (.not) (.cons (.refl _) (.nil)))
 ·have h:=(by rw[hy] at hk; exact hk);refine Qax (t:=Qew) h ?_;exact .refl _
def Qe1 (x1:(List Qaa)×Int) (l4:(List (Qaa×Int))) (h0_0:Int):Option (Int) :=
 match l4 with
 | [] =>
  some h0_0
 | x2::r3 =>
  Qe1 x1 r3 (wr (h0_0+1))
 partial_fixpoint
theorem Qaa7:∀ (x1:(List Qaa)×Int),(∀ (l4:(List (Qaa×Int))) (h0_0:Int) (o6:Int),Qe1 x1 l4 h0_0=some o6→RL 1 0 Tryz.prog 11 (rgP Qk8) (rgA Qk8) (rgB Qk8) (Qgr x1 h0_0).env (JP1 (0,0) 11 o6 .normal (Qor x1)) (l4.map Qch) (Qgr x1 h0_0).s):=by
 intro x1;refine Qe1.partial_correctness x1 _ ?_;intro Qe1' iQe1 l4 h0_0 o6 h;cases l4 with
 | nil =>
  refine Q9o ?_;exact JP1.a h (Le.tz 1 0 rfl rfl rfl)
 | cons x2 r3 =>
  refine Q2d (Qas mixed tbOk (lv:=Qn6) _ _ _ ?_);refine And.intro rfl (Qas mixed tbOk (lv:=Qn6) _ _ _ ?_);exact Exists.intro (Qgr x1 (wr (h0_0+1))).s (And.intro (Le.tz 1 0 rfl rfl rfl) (And.intro rfl (And.intro rfl ((iQe1 r3 (wr (h0_0+1)) _ h)))))
def Qjf (p0:(List Qaa)) (p1:Int):Option ((List Qaa)×Int) :=
 some (p0,p1)
theorem Qsc:∀ (p0:(List Qaa)) (p1:Int) (o:(List Qaa)×Int),Qjf p0 p1=some o→PCall Tryz.prog 96 [.sl false (p0.map Qab),iV p1] (Qnc o):=by
 intro p0 p1 o h;unfold Qjf at h;refine PCall.ofM mixed tbOk Q74 Tryz.func96 rfl (by kernel_rfl) (Nat.le_of_ble_eq_true rfl) ?_;refine Qax (t:=Qnc) h ?_;exact .refl _
def Qe2 (p0:(List Qaa)) (p1:Int) (v12:Int) (x3:Qaa) (v28:Int) (x7:(List Qaa)×Int) (l10:(List (Qaa×Int))):Option ((List (Qaa×Int))×(Unit)) :=
 match l10 with
 | [] =>
  some ([],())
 | x8::r9 =>
  ( Qe2 p0 p1 v12 x3 v28 x7 r9 )>>=fun q=>some (((Qaa.mk x8.1.Kind x8.1.Name x8.1.Text x8.1.N x8.1.L x8.1.Then x8.1.Else),x8.2)::q.1,q.2)
 partial_fixpoint
theorem Qaa8:∀ (p0:(List Qaa)) (p1:Int) (v12:Int) (x3:Qaa) (v28:Int) (x7:(List Qaa)×Int),(∀ (l10:(List (Qaa×Int))) (o13:(List (Qaa×Int))×(Unit)),Qe2 p0 p1 v12 x3 v28 x7 l10=some o13→∀ (gxs gp gpost gq12:List (List V)),gxs=gp++(o13.1.map Qch++gpost)→gxs=gq12++gpost→RL 2 1 Tryz.prog 44 (rgP Qk9) (rgA Qk9) (rgB Qk9) (Qgs p0 p1 v12 x3 v28 x7 gxs gp).env (Qs (0,1) 44 gxs (JP1 (0,1) 44 o13.2 .normal (Qos p0 p1 v12 x3 v28 x7 gxs gq12))) (l10.map Qch) (Qgs p0 p1 v12 x3 v28 x7 gxs gp).s):=by
 intro p0 p1 v12 x3 v28 x7;refine Qe2.partial_correctness p0 p1 v12 x3 v28 x7 _ ?_;intro Qe2' iQe2 l10 o13 h;intro gxs gp gpost gq12 hx hq;cases l10 with
 | nil =>
  refine Q9o ?_;exact .inl (JP1.a (sndI h) (Le.tz 2 1 rfl rfl (Qaff h hx hq rfl)))
 | cons x8 r9 =>
  refine Q2d (Qas mixed tbOk (lv:=Qho) _ _ _ ?_);refine And.intro rfl (Qas mixed tbOk (lv:=Qho) _ _ _ ?_);refine Qac4 (c:=Qch) h hx (.refl _) (by exact rfl) (by exact rfl) (fun _ h hx=>?_) ?_
  ·refine bF ?_;exact Exists.intro (Qgs p0 p1 v12 x3 v28 x7  gxs (gp++[Qch ((Qaa.mk x8.1.Kind x8.1.Name x8.1.Text x8.1.N x8.1.L x8.1.Then x8.1.Else),x8.2)])).s (And.intro (Le.tz 2 1 rfl rfl rfl) (And.intro rfl (And.intro rfl ((iQe2 r9 _ h) _ _ _ _ hx hq))))
  ·refine bT ?_;exact⟨_,(Le.env0 _).trans (Le.tow 2 1 rfl .nil (.refl _) rfl),rfl,rfl,.inr ⟨rfl,Qafe rfl⟩⟩
mutual
def Qff (p0 : (List Qaa)) (p1 : Int) : Option ((List (Qaa × Int)) × Unit) :=
  ( Qe3 p0 p1 0) >>= fun o2 => (
    some ([], ())) >>= fun q => some (o2.1 ++ q.1, q.2)
  partial_fixpoint
def Qe3 (p0 : (List Qaa)) (p1 : Int) (v12 : Int) : Option ((List (Qaa × Int)) × (Unit)) :=
  if (decide (v12 < (p0.length : Int))) then
    idx p0 v12 >>= fun x3 =>
    ( ( Qcd p0 p1 v12 x3 0) >>= fun o5 => (
        Qe3 p0 p1 (wr (v12 + 1))) >>= fun q => some (o5.1 ++ q.1, q.2)) >>= fun q => some ((x3, p1) :: q.1, q.2)
  else
    some ([], ())
  partial_fixpoint
def Qcd (p0 : (List Qaa)) (p1 : Int) (v12 : Int) (x3 : Qaa) (v28 : Int) : Option ((List (Qaa × Int)) × (Unit)) :=
  if (decide (v28 < 3)) then
    idx ([x3.L, x3.Then, x3.Else] : List (List Qaa)) v28 >>= fun x6 =>
    Qjf x6 (wr (p1 + 1)) >>= fun x7 =>
    Qff x7.1 x7.2 >>= fun y11 =>
    ( Qe2 p0 p1 v12 x3 v28 x7 y11.1) >>= fun o13 => (
      Qcd p0 p1 v12 x3 (wr (v28 + 1))) >>= fun q => some (o13.1 ++ q.1, q.2)
  else
    some ([], ())
  partial_fixpoint
end
theorem Qz6:(∀ (p0:(List Qaa)) (p1:Int) (o:(List (Qaa×Int))×Unit),Qff p0 p1=some o→∀ gxs:List (List V),gxs=o.1.map Qch→IterOK Tryz.prog 125 [.ep [.sl false (p0.map Qab)],.ep [iV p1]] gxs)∧(∀ (p0:(List Qaa)) (p1:Int) (v12:Int) (o2:(List (Qaa×Int))×(Unit)),Qe3 p0 p1 v12=some o2→∀ (gxs gp gpost gq1:List (List V)),gxs=gp++(o2.1.map Qch++gpost)→gxs=gq1++gpost→TL (0,1) Tryz.prog 44 Qx5 (Qs (0,1) 44 gxs (JP1 (0,1) 44 o2.2 (.exit 0) (Qou p0 p1 gxs gq1))) (Qj2 p0 p1 v12 gxs gp))∧(∀ (p0:(List Qaa)) (p1:Int) (v12:Int) (x3:Qaa) (v28:Int) (o5:(List (Qaa×Int))×(Unit)),Qcd p0 p1 v12 x3 v28=some o5→∀ (gxs gp gpost gq4:List (List V)),gxs=gp++(o5.1.map Qch++gpost)→gxs=gq4++gpost→TL (0,1) Tryz.prog 44 Qx4 (Qs (0,1) 44 gxs (JP1 (0,1) 44 o5.2 (.exit 2) (Qot p0 p1 v12 x3 gxs gq4))) (Qj1 p0 p1 v12 x3 v28 gxs gp)):=by
 refine Qff.mutual_partial_correctness _ _ _ ?_ ?_ ?_
 ·intro Qe3' iQe3 p0 p1 o h;intro gxs hg;have hx:gxs=[]++(o.1.map Qch++[]):=by simp[hg]
  refine IterOK.ofB mixed tbOk Qho Tryz.func125 rfl (by kernel_rfl) (Nat.le_of_ble_eq_true rfl) rfl ?_;refine view (Qej _ _) rfl ?_;refine Qwt h hx (fun o2 lgq1 gq1 ho hk hxa hjgq1=>?_);refine Exists.intro (Qs _ _ gxs (JP1 _ _ o2.2 (.exit 0) (Qou p0 p1 gxs gq1))) (And.intro (Qk2 (τ := Qj2 p0 p1 0 gxs ([]:List (List V))) ?_ (TL.loop ((iQe3 p0 p1 0 o2 ho) _ _ _ _ hxa hjgq1))) (Qafg (Qbb ?_) ?_))
  ·exact Le.tz 1 1 rfl rfl rfl
  ·have h:=hk;have hx:=hjgq1;exact Qac3 h hx (.inl rfl) rfl
  ·exact fun s1 h1 h2 hs=>Q9p (.inr rfl) hs
 ·intro Qe3' Qcd' iQe3 iQcd p0 p1 v12 o2 h;intro gxs gp gpost gq1 hx hq;refine TL.round (Qas mixed tbOk (lv:=Qho) _ _ _ ?_);refine Qae h (fun hb h=>?_) (fun hb h=>?_)
  ·refine Qco (l:=p0) (c:=Qab) (c' := Qbh) h Qap (fun _=>rfl) (by decide) (fun x3 hi h=>?_);refine Qac4 (c:=Qch) h hx (.refl _) (by exact rfl) (by exact rfl) (fun _ h hx=>?_) ?_
   ·refine bF ?_;refine Qwt h hx (fun o5 lgq4 gq4 ho hk hxa hjgq4=>?_);refine Exists.intro (Qs _ _ gxs (JP1 _ _ o5.2 (.exit 2) (Qot p0 p1 v12 x3 gxs gq4))) (And.intro (Qk2 (τ := Qj1 p0 p1 v12 x3 0 gxs (gp++[Qch (x3,p1)])) ?_ (TL.loop ((iQcd p0 p1 v12 x3 0 o5 ho) _ _ _ _ hxa hjgq4))) (Qafg (Qbb ?_) ?_))
    ·exact Le.tz 2 1 rfl rfl rfl
    ·have h:=hk;have hx:=hjgq4;refine TL.le (τ := Qj2 p0 p1 (wr (v12+1)) gxs gq4) ?_ ((iQe3 p0 p1 (wr (v12+1)) _ h) _ _ _ _ hx hq);exact Le.tz 1 1 rfl rfl rfl
    ·exact fun s1 h1 h2 hs =>.inr ⟨rfl,s1,.refl _ _ _,h1,h2,hs⟩
   ·refine bT ?_;exact .inr ⟨rfl,_,(Le.env0 _).trans (Le.tow 0 1 rfl .nil (.refl _) rfl),rfl,rfl,rfl⟩
  ·exact .inl (JP1.a (sndI h) (Le.tz 1 1 rfl rfl (Qaff h hx hq rfl)))
 ·intro Qff' Qcd' iQff iQcd p0 p1 v12 x3 v28 o5 h;intro gxs gp gpost gq4 hx hq;refine TL.round (Qas mixed tbOk (lv:=Qho) _ _ _ ?_);refine Qae h (fun hb h=>?_) (fun hb h=>?_)
  ·refine Qag8 (l:=([x3.L,x3.Then,x3.Else]:List (List Qaa))) (c:=fun x6 =>.sl false (x6.map Qab)) h rfl rfl rfl rfl (fun x6 hi h=>?_);refine Qat [.sl false (x6.map Qab),iV (wr (p1+1))] Qnc h (fun x7 hy=>(Qsc x6 (wr (p1+1)) x7 hy)) (fun x7 hy h=>?_);refine Qal h (fun y11 hy11 h=>?_);refine Qwt h hx (fun o13 lgq12 gq12 ho hk hxa hjgq12=>?_);refine Exists.intro (Qs _ _ gxs (JP1 _ _ o13.2 .normal (Qos p0 p1 v12 x3 v28 x7 gxs gq12))) (And.intro (Qk2 (τ := Qgs p0 p1 v12 x3 v28 x7 gxs gp) ?_ (Q18 (g:=125) (cap:=[.ep [.sl false (x7.1.map Qab)],.ep [iV x7.2]]) rfl ((iQff x7.1 x7.2 y11 hy11) _ rfl) (Qxq fun _=>rfl) rfl (Nat.le_of_ble_eq_true rfl) (Nat.le_of_ble_eq_true rfl) ((Qaa8 p0 p1 v12 x3 v28 x7 y11.1 o13 ho) _ _ _ _ hxa hjgq12))) (Qafg (Qbb ?_) ?_))
   ·exact Le.tz 2 1 rfl rfl rfl
   ·have h:=hk;have hx:=hjgq12;refine TL.le (τ := Qj1 p0 p1 v12 x3 (wr (v28+1)) gxs gq12) ?_ ((iQcd p0 p1 v12 x3 (wr (v28+1)) _ h) _ _ _ _ hx hq);exact Le.tz 2 1 rfl rfl rfl
   ·exact fun s1 h1 h2 hs =>.inr ⟨rfl,s1,.refl _ _ _,h1,h2,hs⟩
  ·exact .inl (JP1.a (sndI h) (Le.tz 2 1 rfl rfl (Qaff h hx hq rfl)))
theorem Qtf:∀ (p0:(List Qaa)) (p1:Int) (o:(List (Qaa×Int))×Unit),Qff p0 p1=some o→∀ gxs:List (List V),gxs=o.1.map Qch→IterOK Tryz.prog 125 [.ep [.sl false (p0.map Qab)],.ep [iV p1]] gxs:=fun p0 p1=>Qz6.1 p0 p1
def Qnf (p0:(List Qaa)):Option (Int) :=
 Qjf p0 1>>=fun x1 =>
 Qff x1.1 x1.2>>=fun y5 =>
 (Qe1 x1 y5.1 0)>>=fun o6 =>
 some o6
theorem Q27:∀ (p0:(List Qaa)) (o:Int),Qnf p0=some o→PCall Tryz.prog 71 [.sl false (p0.map Qab)] (Qpy o):=by
 intro p0 o h;unfold Qnf at h;refine PCall.ofB mixed tbOk Qn6 Tryz.func71 rfl (by kernel_rfl) (Nat.le_of_ble_eq_true rfl) ?_;refine Qat [.sl false (p0.map Qab),iV 1] Qnc h (fun x1 hy=>(Qsc p0 1 x1 hy)) (fun x1 hy h=>?_);refine Qal h (fun y5 hy5 h=>?_);refine Qal h (fun o6 ho hk=>?_);refine Exists.intro (JP1 _ _ o6 .normal (Qor x1)) (And.intro (Qk2 (τ := Qgr x1 0) ?_ (Q18 (g:=125) (cap:=[.ep [.sl false (x1.1.map Qab)],.ep [iV x1.2]]) rfl ((Qtf x1.1 x1.2 y5 hy5) _ rfl) (Qxq fun _=>rfl) rfl (Nat.le_of_ble_eq_true rfl) (Nat.le_of_ble_eq_true rfl) (Qaa7 x1 y5.1 0 o6 ho))) (Qbb ?_))
 ·exact Le.tz 1 0 rfl rfl rfl
 have h:=hk;refine Qax (t:=Qpy) h ?_;exact .refl _
def Qft (x1:(List Qaa)×Int) (l4:(List (Qaa×Int))) (h0_0:Int):Option (Int) :=
 match l4 with
 | [] =>
  some h0_0
 | x2::r3 =>
  Qft x1 r3 (if x2.2>h0_0 then x2.2 else h0_0)
 partial_fixpoint
theorem Qabp:∀ (x1:(List Qaa)×Int),(∀ (l4:(List (Qaa×Int))) (h0_0:Int) (o6:Int),Qft x1 l4 h0_0=some o6→RL 1 0 Tryz.prog 14 (rgP Qmn) (rgA Qmn) (rgB Qmn) (Qhn x1 h0_0).env (JP1 (0,0) 14 o6 .normal (Qp0 x1)) (l4.map Qch) (Qhn x1 h0_0).s):=by
 intro x1;refine Qft.partial_correctness x1 _ ?_;intro Qft' iQft l4 h0_0 o6 h;cases l4 with
 | nil =>
  refine Q9o ?_;exact JP1.a h (Le.tz 1 0 rfl rfl rfl)
 | cons x2 r3 =>
  refine Q2d (Qas mixed tbOk (lv:=Qpz) _ _ _ ?_);refine And.intro rfl (Qas mixed tbOk (lv:=Qpz) _ _ _ ?_);exact Exists.intro (Qhn x1 (if x2.2>h0_0 then x2.2 else h0_0)).s (And.intro (Le.tz 1 0 rfl rfl rfl) (And.intro rfl (And.intro rfl ((iQft r3 (if x2.2>h0_0 then x2.2 else h0_0) _ h)))))
def Qp4 (p0:(List Qaa)):Option (Int) :=
 Qjf p0 1>>=fun x1 =>
 Qff x1.1 x1.2>>=fun y5 =>
 (Qft x1 y5.1 0)>>=fun o6 =>
 some o6
theorem Q59:∀ (p0:(List Qaa)) (o:Int),Qp4 p0=some o→PCall Tryz.prog 70 [.sl false (p0.map Qab)] (Qr9 o):=by
 intro p0 o h;unfold Qp4 at h;refine PCall.ofB mixed tbOk Qpz Tryz.func70 rfl (by kernel_rfl) (Nat.le_of_ble_eq_true rfl) ?_;refine Qat [.sl false (p0.map Qab),iV 1] Qnc h (fun x1 hy=>(Qsc p0 1 x1 hy)) (fun x1 hy h=>?_);refine Qal h (fun y5 hy5 h=>?_);refine Qal h (fun o6 ho hk=>?_);refine Exists.intro (JP1 _ _ o6 .normal (Qp0 x1)) (And.intro (Qk2 (τ := Qhn x1 0) ?_ (Q18 (g:=125) (cap:=[.ep [.sl false (x1.1.map Qab)],.ep [iV x1.2]]) rfl ((Qtf x1.1 x1.2 y5 hy5) _ rfl) (Qxq fun _=>rfl) rfl (Nat.le_of_ble_eq_true rfl) (Nat.le_of_ble_eq_true rfl) (Qabp x1 y5.1 0 o6 ho))) (Qbb ?_))
 ·exact Le.tz 1 0 rfl rfl rfl
 have h:=hk;refine Qax (t:=Qr9) h ?_;exact .refl _
def Qb8 (p0:(List UInt8)) (p1:(List UInt8)):Option (Bool) :=
 ( if(decide ((p0.length:Int) ≥ (p1.length:Int))) then
   cutL p0 (wr ((p0.length:Int)-(p1.length:Int))) (p0.length:Int)>>=fun x2 =>
   some (x2==p1)
  else
   some false:Option (Bool))>>=fun o1 =>
 some o1
theorem Qhr:∀ (p0:(List UInt8)) (p1:(List UInt8)) (o:Bool),Qb8 p0 p1=some o→PCall Tryz.prog 129 [sV p0,sV p1] (Qct o):=by
 intro p0 p1 o h;unfold Qb8 at h;refine PCall.ofB mixed tbOk Qhl Tryz.func129 rfl (by kernel_rfl) (Nat.le_of_ble_eq_true rfl) ?_;refine Qal h (fun o1 ho hk=>?_);refine Exists.intro (JP1 _ _ o1 .normal (Qgz )) (And.intro ?_ (Qbb ?_))
 ·have h:=ho;refine vrfl ?_;refine vrfl ?_;refine Qae h (fun hb h=>?_) (fun hb h=>?_)
  ·refine vrfl ?_;refine vrfl ?_;refine Qmf (some (wr ((p0.length:Int)-(p1.length:Int)))) none h (fun x2 hi h=>?_);refine JP1.a h ?_;exact Le.tz 0 0 rfl rfl rfl
  ·refine JP1.a h ?_;exact Le.tz 0 0 rfl rfl rfl
 ·have h:=hk;refine Qax (t:=Qct) h ?_;exact .refl _
def Qci (p0:(List UInt8)) (p1:(List UInt8)):Option (Bool) :=
 Qb8 p0 p1>>=fun x1 =>
 some x1
theorem Qeo:∀ (p0:(List UInt8)) (p1:(List UInt8)) (o:Bool),Qci p0 p1=some o→PCall Tryz.prog 98 [sV p0,sV p1] (Qc0 o):=by
 intro p0 p1 o h;unfold Qci at h;refine PCall.ofB mixed tbOk Qq8 Tryz.func98 rfl (by kernel_rfl) (Nat.le_of_ble_eq_true rfl) ?_;refine Qat [sV p0,sV p1] Qct h (fun x1 hy=>(Qhr p0 p1 x1 hy)) (fun x1 hy h=>?_);refine Qax (t:=Qc0) h ?_;exact .refl _
def Qcw (p0:(List UInt8)) (p1:(List UInt8)):Option (Int) :=
 need (p0.length<4294967281)>>=fun _ =>
 some (Lib.index p0 p1)
theorem Qj4:∀ (p0:(List UInt8)) (p1:(List UInt8)) (o:Int),Qcw p0 p1=some o→PCall Tryz.prog 167 [sV p0,sV p1] (Qfk o):=by
 intro p0 p1 o h;unfold Qcw at h;obtain⟨h1,h⟩:=Q5q h;cases h;exact Qafi _ _ h1
def Qkn (p0:(List UInt8)) (p1:(List UInt8)):Option (Int) :=
 Qcw p0 p1>>=fun x1 =>
 some x1
theorem Qv1:∀ (p0:(List UInt8)) (p1:(List UInt8)) (o:Int),Qkn p0 p1=some o→PCall Tryz.prog 153 [sV p0,sV p1] (Qk7 o):=by
 intro p0 p1 o h;unfold Qkn at h;refine PCall.ofB mixed tbOk Qv0 Tryz.func153 rfl (by kernel_rfl) (Nat.le_of_ble_eq_true rfl) ?_;refine Qat [sV p0,sV p1] Qfk h (fun x1 hy=>(Qj4 p0 p1 x1 hy)) (fun x1 hy h=>?_);refine Qax (t:=Qk7) h ?_;exact .refl _
def Qfc (p0:(List UInt8)) (p1:(List UInt8)):Option (Bool) :=
 Qkn p0 p1>>=fun x1 =>
 some (decide (x1 ≥ 0))
theorem Qsd:∀ (p0:(List UInt8)) (p1:(List UInt8)) (o:Bool),Qfc p0 p1=some o→PCall Tryz.prog 127 [sV p0,sV p1] (Qhm o):=by
 intro p0 p1 o h;unfold Qfc at h;refine PCall.ofB mixed tbOk Qr8 Tryz.func127 rfl (by kernel_rfl) (Nat.le_of_ble_eq_true rfl) ?_;refine Qat [sV p0,sV p1] Qk7 h (fun x1 hy=>(Qv1 p0 p1 x1 hy)) (fun x1 hy h=>?_);refine Qax (t:=Qhm) h ?_;exact .refl _
def Qng (p0:Int):Option (Bool) :=
 ( if(decide (p0 ≥ 48)) then
   some (decide (p0≤57))
  else
   some false:Option (Bool))>>=fun o1 =>
 some o1
theorem Qvl:∀ (p0:Int) (o:Bool),Qng p0=some o→PCall Tryz.prog 124 [nV .u8 p0] (Qn5 o):=by
 intro p0 o h;unfold Qng at h;refine PCall.ofB mixed tbOk Q5z Tryz.func124 rfl (by kernel_rfl) (Nat.le_of_ble_eq_true rfl) ?_;refine Qal h (fun o1 ho hk=>?_);refine Exists.intro (JP1 _ _ o1 .normal (Qzq )) (And.intro ?_ (Qbb ?_))
 ·have h:=ho;refine Qae h (fun hb h=>?_) (fun hb h=>?_)
  ·refine JP1.a h ?_;exact Le.tz 0 0 rfl rfl rfl
  ·refine JP1.a h ?_;exact Le.tz 0 0 rfl rfl rfl
 ·have h:=hk;refine Qax (t:=Qn5) h ?_;exact .refl _
def Qnh (p0:Int):Option (Bool) :=
 ( if(decide (p0 ≥ 97)) then
   if(decide (p0≤122)) then
    some true
   else
    Qng p0>>=fun x2 =>
    if x2 then
     some true
    else
     some (p0==95)
  else
   Qng p0>>=fun x3 =>
   if x3 then
    some true
   else
    some (p0==95):Option (Bool))>>=fun o1 =>
 some o1
theorem Q28:∀ (p0:Int) (o:Bool),Qnh p0=some o→PCall Tryz.prog 95 [nV .u8 p0] (Qpx o):=by
 intro p0 o h;unfold Qnh at h;refine PCall.ofB mixed tbOk Q2v Tryz.func95 rfl (by kernel_rfl) (Nat.le_of_ble_eq_true rfl) ?_;refine Qal h (fun o1 ho hk=>?_);refine Exists.intro (JP1 _ _ o1 .normal (Qx2 )) (And.intro ?_ (Qbb ?_))
 ·have h:=ho;refine Qae h (fun hb h=>?_) (fun hb h=>?_)
  ·refine Qae h (fun hb h=>?_) (fun hb h=>?_)
   ·refine bT ?_;refine JP1.a h ?_;exact Le.tz 0 0 rfl rfl rfl
   ·refine Qat [nV .u8 p0] Qn5 h (fun x2 hy=>(Qvl p0 x2 hy)) (fun x2 hy h=>?_);refine Qae h (fun hb h=>?_) (fun hb h=>?_)
    ·refine JP1.a h ?_;exact Le.tz 0 0 rfl rfl rfl
    ·refine JP1.a h ?_;exact Le.tz 0 0 rfl rfl rfl
  ·refine bF ?_;refine Qat [nV .u8 p0] Qn5 h (fun x3 hy=>(Qvl p0 x3 hy)) (fun x3 hy h=>?_);refine Qae h (fun hb h=>?_) (fun hb h=>?_)
   ·refine JP1.a h ?_;exact Le.tz 0 0 rfl rfl rfl
   ·refine JP1.a h ?_;exact Le.tz 0 0 rfl rfl rfl
 ·have h:=hk;refine Qax (t:=Qpx) h ?_;exact .refl _
def Qg3 (p0:(List UInt8)) (v6:Int):Option (Unit⊕Unit) :=
 if(decide (v6<(p0.length:Int))) then
  idx p0 v6>>=fun x4 =>
  Qnh (x4.toNat:Int)>>=fun x5 =>
  if(!x5) then
   some (.inr ())
  else
   Qg3 p0 (wr (v6+1))
 else
  some (.inl ())
 partial_fixpoint
theorem Qadm:∀ (p0:(List UInt8)),(∀ (v6:Int) (o1:Unit⊕Unit),Qg3 p0 v6=some o1→TL (0,0) Tryz.prog 27 Q2t (JP2 (0,0) 27 o1 (.exit 0) (Qrs p0) .ret (Qrt p0)) (Qmm p0 v6)):=by
 intro p0;refine Qg3.partial_correctness p0 _ ?_;intro Qg3' iQg3 v6 o1 h;refine TL.round (Qas mixed tbOk (lv:=Qx1) _ _ _ ?_);refine Qae h (fun hb h=>?_) (fun hb h=>?_)
 ·refine Qd3 h (fun x4 hi h=>?_);refine Qat [nV .u8 (x4.toNat:Int)] Qpx h (fun x5 hy=>(Q28 (x4.toNat:Int) x5 hy)) (fun x5 hy h=>?_);refine Qae h (fun hb h=>?_) (fun hb h=>?_)
  ·exact JP2.b h (Le.tz 0 0 rfl rfl rfl)
  ·refine TL.le (τ := Qmm p0 (wr (v6+1))) ?_ ((iQg3 (wr (v6+1)) _ h));exact Le.tz 0 0 rfl rfl rfl
 ·exact JP2.a h (Le.tz 0 0 rfl rfl rfl)
def Qoa (p0:(List UInt8)):Option (Bool) :=
 (Qg3 p0 0)>>=fun o1 =>
 match o1 with
 | .inl y2 =>
  ( if(!(p0==[])) then
    if(decide ((p0.length:Int)≤32)) then
     idx p0 0>>=fun x7 =>
     some (decide ((x7.toNat:Int) ≥ 97))
    else
     some false
   else
    some false:Option (Bool))>>=fun o6 =>
  some o6
 | .inr y3 =>
  some false
theorem Qse:∀ (p0:(List UInt8)) (o:Bool),Qoa p0=some o→PCall Tryz.prog 69 [sV p0] (Qks o):=by
 intro p0 o h;unfold Qoa at h;refine PCall.ofB mixed tbOk Qx1 Tryz.func69 rfl (by kernel_rfl) (Nat.le_of_ble_eq_true rfl) ?_;refine vrfl ?_;refine Qal h (fun o1 ho hk=>?_);refine Exists.intro (JP2 _ _ o1 (.exit 0) (Qrs p0) .ret (Qrt p0)) (And.intro (Qk2 (τ := Qmm p0 0) ?_ (TL.loop (Qadm p0 0 o1 ho))) (Qjy (fun y2 hy=>?_) (fun y3 hy=>?_)))
 ·exact Le.tz 0 0 rfl rfl rfl
 ·have h:=(by rw[hy] at hk; exact hk);refine Qal h (fun o6 ho hk=>?_);refine Exists.intro (JP1 _ _ o6 .normal (Q2u )) (And.intro ?_ (Qbb ?_))
  ·have h:=ho;refine Qae h (fun hb h=>?_) (fun hb h=>?_)
   ·refine vrfl ?_;refine Qae h (fun hb h=>?_) (fun hb h=>?_)
    ·refine Qd3 h (fun x7 hi h=>?_);refine JP1.a h ?_;exact Le.tz 0 0 rfl rfl rfl
    ·refine JP1.a h ?_;exact Le.tz 0 0 rfl rfl rfl
   ·refine bF ?_;refine JP1.a h ?_;exact Le.tz 0 0 rfl rfl rfl
  ·have h:=hk;refine Qax (t:=Qks) h ?_;exact .refl _
 ·have h:=(by rw[hy] at hk; exact hk);refine Qax (t:=Qks) h ?_;exact .refl _
def Qhs (p0:(List UInt8)):Option (Bool) :=
 ( if(p0==[105,102]) then
   some (p0==[105,102])
  else
   if(p0==[101,108,115,101]) then
    some (p0==[101,108,115,101])
   else
    if(p0==[101,110,100]) then
     some (p0==[101,110,100])
    else
     if(p0==[101,97,99,104]) then
      some (p0==[101,97,99,104])
     else
      if(p0==[105,110]) then
       some (p0==[105,110])
      else
       if(p0==[108,101,116]) then
        some (p0==[108,101,116])
       else
        if(p0==[117,115,101]) then
         some (p0==[117,115,101])
        else
         if(p0==[116,114,117,101]) then
          some (p0==[116,114,117,101])
         else
          if(p0==[102,97,108,115,101]) then
           some (p0==[102,97,108,115,101])
          else
           some (p0==[115,101,99,114,101,116]):Option (Bool))>>=fun o1 =>
 if o1 then
  some false
 else
  Qoa p0>>=fun x2 =>
  some x2
theorem Qjm:∀ (p0:(List UInt8)) (o:Bool),Qhs p0=some o→PCall Tryz.prog 37 [sV p0] (Qfr o):=by
 intro p0 o h;unfold Qhs at h;refine PCall.ofB mixed tbOk Q51 Tryz.func37 rfl (by kernel_rfl) (Nat.le_of_ble_eq_true rfl) ?_;refine Qal h (fun o1 ho hk=>?_);refine Exists.intro (JP1 _ _ o1 .normal (Qzr p0)) (And.intro ?_ (Qbb ?_))
 ·have h:=ho;refine Qae h (fun hb h=>?_) (fun hb h=>?_)
  ·refine JP1.a h ?_;exact Le.tz 0 0 rfl rfl rfl
  ·refine Qae h (fun hb h=>?_) (fun hb h=>?_)
   ·refine JP1.a h ?_;exact Le.tz 0 0 rfl rfl rfl
   ·refine Qae h (fun hb h=>?_) (fun hb h=>?_)
    ·refine JP1.a h ?_;exact Le.tz 0 0 rfl rfl rfl
    ·refine Qae h (fun hb h=>?_) (fun hb h=>?_)
     ·refine JP1.a h ?_;exact Le.tz 0 0 rfl rfl rfl
     ·refine Qae h (fun hb h=>?_) (fun hb h=>?_)
      ·refine JP1.a h ?_;exact Le.tz 0 0 rfl rfl rfl
      ·refine Qae h (fun hb h=>?_) (fun hb h=>?_)
       ·refine JP1.a h ?_;exact Le.tz 0 0 rfl rfl rfl
       ·refine Qae h (fun hb h=>?_) (fun hb h=>?_)
        ·refine JP1.a h ?_;exact Le.tz 0 0 rfl rfl rfl
        ·refine Qae h (fun hb h=>?_) (fun hb h=>?_)
         ·refine JP1.a h ?_;exact Le.tz 0 0 rfl rfl rfl
         ·refine Qae h (fun hb h=>?_) (fun hb h=>?_)
          ·refine JP1.a h ?_;exact Le.tz 0 0 rfl rfl rfl
          ·refine JP1.a h ?_;exact Le.tz 0 0 rfl rfl rfl
 ·have h:=hk;refine Qae h (fun hb h=>?_) (fun hb h=>?_)
  ·refine Qax (t:=Qfr) h ?_;exact .refl _
  ·refine Qat [sV p0] Qks h (fun x2 hy=>(Qse p0 x2 hy)) (fun x2 hy h=>?_);refine Qax (t:=Qfr) h ?_;exact .refl _
def Qc7 (p0:(List UInt8)) (v4:(List Int)) (v18:Int):Option ((List Int)) :=
 if(decide (v18<(p0.length:Int))) then
  idx p0 v18>>=fun x5 =>
  if((x5.toNat:Int)==10) then
   appL 1 v4 (s2b [92,110])>>=fun x6 =>
   Qc7 p0 x6 (wr (v18+1))
  else
   if((x5.toNat:Int)==9) then
    appL 1 v4 (s2b [92,116])>>=fun x7 =>
    Qc7 p0 x7 (wr (v18+1))
   else
    ( if((x5.toNat:Int)==34) then
      some ((x5.toNat:Int)==34)
     else
      some ((x5.toNat:Int)==92):Option (Bool))>>=fun o8 =>
    if o8 then
     appL 1 v4 [92,(x5.toNat:Int)]>>=fun x9 =>
     Qc7 p0 x9 (wr (v18+1))
    else
     appL 1 v4 [(x5.toNat:Int)]>>=fun x10 =>
     Qc7 p0 x10 (wr (v18+1))
 else
  some v4
 partial_fixpoint
theorem Qabq:∀ (p0:(List UInt8)),(∀ (v4:(List Int)) (v18:Int) (o4:(List Int)),Qc7 p0 v4 v18=some o4→TL (0,0) Tryz.prog 49 Qzp (JP1 (0,0) 49 o4 (.exit 0) (Qpw p0)) (Qep p0 v4 v18)):=by
 intro p0;refine Qc7.partial_correctness p0 _ ?_;intro Qc7' iQc7 v4 v18 o4 h;refine TL.round (Qas mixed tbOk (lv:=Qu9) _ _ _ ?_);refine Qae h (fun hb h=>?_) (fun hb h=>?_)
 ·refine Qd3 h (fun x5 hi h=>?_);refine Qae h (fun hb h=>?_) (fun hb h=>?_)
  ·refine Q9n (a:=v4) (b:=[92,110]) h rfl (fun x6 hi h=>?_);refine TL.le (τ := Qep p0 x6 (wr (v18+1))) ?_ ((iQc7 x6 (wr (v18+1)) _ h));exact Le.tz 0 1 rfl rfl rfl
  ·refine Qae h (fun hb h=>?_) (fun hb h=>?_)
   ·refine Q9n (a:=v4) (b:=[92,116]) h rfl (fun x7 hi h=>?_);refine TL.le (τ := Qep p0 x7 (wr (v18+1))) ?_ ((iQc7 x7 (wr (v18+1)) _ h));exact Le.tz 0 1 rfl rfl rfl
   ·refine Qal h (fun o8 ho hk=>?_);refine Exists.intro (JP1 _ _ o8 .normal (Qzo p0 v4 v18 x5)) (And.intro ?_ (Qbb ?_))
    ·have h:=ho;refine Qae h (fun hb h=>?_) (fun hb h=>?_)
     ·refine JP1.a h ?_;exact Le.tz 0 1 rfl rfl rfl
     ·refine JP1.a h ?_;exact Le.tz 0 1 rfl rfl rfl
    ·have h:=hk;refine Qae h (fun hb h=>?_) (fun hb h=>?_)
     ·refine Qr3 (a:=v4) (b:=[92,(x5.toNat:Int)]) (c:=(cNum .u8)) h (.refl _) (fun _=>rfl) rfl (fun x9 hi h=>?_);refine TL.le (τ := Qep p0 x9 (wr (v18+1))) ?_ ((iQc7 x9 (wr (v18+1)) _ h));exact Le.tz 0 1 rfl rfl rfl
     ·refine Qr3 (a:=v4) (b:=[(x5.toNat:Int)]) (c:=(cNum .u8)) h (.refl _) (fun _=>rfl) rfl (fun x10 hi h=>?_);refine TL.le (τ := Qep p0 x10 (wr (v18+1))) ?_ ((iQc7 x10 (wr (v18+1)) _ h));exact Le.tz 0 1 rfl rfl rfl
 ·exact JP1.a h (Le.tz 0 1 rfl rfl rfl)
def Qb9 (p0:(List UInt8)) (p1:Int):Option (Int) :=
 some (Lib.indexByte p0 p1.toNat.toUInt8)
theorem Qht:∀ (p0:(List UInt8)) (p1:Int) (o:Int),Qb9 p0 p1=some o→PCall Tryz.prog 174 [sV p0,nV .u8 p1] (Qek o):=by
 intro p0 p1 o h;unfold Qb9 at h;cases h;exact Q5r _ _
def Qf8 (p0:(List UInt8)) (p1:Int):Option (Int) :=
 Qb9 p0 p1>>=fun x1 =>
 some x1
theorem Qra:∀ (p0:(List UInt8)) (p1:Int) (o:Int),Qf8 p0 p1=some o→PCall Tryz.prog 169 [sV p0,nV .u8 p1] (Qg0 o):=by
 intro p0 p1 o h;unfold Qf8 at h;refine PCall.ofB mixed tbOk Qq9 Tryz.func169 rfl (by kernel_rfl) (Nat.le_of_ble_eq_true rfl) ?_;refine Qat [sV p0,nV .u8 p1] Qek h (fun x1 hy=>(Qht p0 p1 x1 hy)) (fun x1 hy h=>?_);refine Qax (t:=Qg0) h ?_;exact .refl _
def Qjn (x1:(List UInt8)) (l4:(List (Int×Int))):Option (Unit⊕Unit) :=
 match l4 with
 | [] =>
  some (.inl ())
 | x2::r3 =>
  ( if(x2.1==65533) then
    some (x2.2==1)
   else
    some false:Option (Bool))>>=fun o9 =>
  if o9 then
   some (.inr ())
  else
   Qjn x1 r3
 partial_fixpoint
theorem Qafm:∀ (x1:(List UInt8)),(∀ (l4:(List (Int×Int))) (o6:Unit⊕Unit),Qjn x1 l4=some o6→RL 1 0 Tryz.prog 15 (rgP Qsa) (rgA Qsa) (rgB Qsa) (Qlz x1).env (JP2 (0,0) 15 o6 .normal (Qva x1) .ret (Qvb x1)) (l4.map Qiw) (Qlz x1).s):=by
 intro x1;refine Qjn.partial_correctness x1 _ ?_;intro Qjn' iQjn l4 o6 h;cases l4 with
 | nil =>
  refine Q9o ?_;exact JP2.a h (Le.tz 1 0 rfl rfl rfl)
 | cons x2 r3 =>
  refine Q2d (Qas mixed tbOk (lv:=Qx9) _ _ _ ?_);refine And.intro rfl (Qas mixed tbOk (lv:=Qx9) _ _ _ ?_);refine Qal h (fun o9 ho hk=>?_);refine Exists.intro (JP1 _ _ o9 .normal (Q75 x1 x2)) (And.intro ?_ (Qbb ?_))
  ·have h:=ho;refine Qae h (fun hb h=>?_) (fun hb h=>?_)
   ·refine JP1.a h ?_;exact Le.tz 1 0 rfl rfl rfl
   ·refine JP1.a h ?_;exact Le.tz 1 0 rfl rfl rfl
  ·have h:=hk;refine Qae h (fun hb h=>?_) (fun hb h=>?_)
   ·exact Exists.intro (⟨[[.p (bV false)]],[]⟩:S) (And.intro (Le.tow 1 0 rfl .nil (.refl _) rfl) (And.intro rfl (And.intro rfl (JP2.b h (Le.tz 1 0 rfl rfl rfl)))))
   ·exact Exists.intro (Qlz x1 ).s (And.intro (Le.tz 1 0 rfl rfl rfl) (And.intro rfl (And.intro rfl ((iQjn r3 _ h)))))
def Q29 (p0:(List UInt8)):Option ((List UInt8)) :=
 some p0
theorem Qaa9:∀ (p0:(List UInt8)) (o:(List UInt8)),Q29 p0=some o→PCall Tryz.prog 178 [sV p0] (Qya o):=by
 intro p0 o h;unfold Q29 at h;refine PCall.ofM mixed tbOk Qaa4 Tryz.func178 rfl (by kernel_rfl) (Nat.le_of_ble_eq_true rfl) ?_;refine Qax (t:=Qya) h ?_;exact .refl _
def Q1b (p0:Int):Option (Bool) :=
 ( if(decide (p0 ≥ 0)) then
   if(decide (p0≤1114111)) then
    if(decide (p0<55296)) then
     some true
    else
     some (decide (p0>57343))
   else
    some false
  else
   some false:Option (Bool))>>=fun o1 =>
 some o1
theorem Qadn:∀ (p0:Int) (o:Bool),Q1b p0=some o→PCall Tryz.prog 188 [nV .i32 p0] (Q23 o):=by
 intro p0 o h;unfold Q1b at h;refine PCall.ofB mixed tbOk Qadf Tryz.func188 rfl (by kernel_rfl) (Nat.le_of_ble_eq_true rfl) ?_;refine Qal h (fun o1 ho hk=>?_);refine Exists.intro (JP1 _ _ o1 .normal (Q77 )) (And.intro ?_ (Qbb ?_))
 ·have h:=ho;refine Qae h (fun hb h=>?_) (fun hb h=>?_)
  ·refine Qae h (fun hb h=>?_) (fun hb h=>?_)
   ·refine Qae h (fun hb h=>?_) (fun hb h=>?_)
    ·refine JP1.a h ?_;exact Le.tz 0 0 rfl rfl rfl
    ·refine JP1.a h ?_;exact Le.tz 0 0 rfl rfl rfl
   ·refine JP1.a h ?_;exact Le.tz 0 0 rfl rfl rfl
  ·refine bF ?_;refine JP1.a h ?_;exact Le.tz 0 0 rfl rfl rfl
 ·have h:=hk;refine Qax (t:=Q23) h ?_;exact .refl _
def Qg4 (p0:(List UInt8)) (p2:Int) (v1:Int) (v14:Int):Option (Int⊕Unit) :=
 if(decide (v14<p2)) then
  idx p0 v14>>=fun x4 =>
  if((bits .and .u8 (x4.toNat:Int) 192) != 128) then
   some (.inr ())
  else
   idx p0 v14>>=fun x5 =>
   Qg4 p0 p2 (bits .or .i32 (IntKind.i32.wrap (v1*2 ^ (min (6:Int).toNat (IntKind.i32.bits)))) (IntKind.i32.wrap (bits .and .u8 (x5.toNat:Int) 63))) (wr (v14+1))
 else
  some (.inl v1)
 partial_fixpoint
theorem Qado:∀ (p0:(List UInt8)) (p2:Int),(∀ (v1:Int) (v14:Int) (o1:Int⊕Unit),Qg4 p0 p2 v1 v14=some o1→TL (0,0) Tryz.prog 32 Q24 (JP2 (0,0) 32 o1 (.exit 0) (Qru p0 p2) .ret (Qrv p0 p2)) (Qmo p0 p2 v1 v14)):=by
 intro p0 p2;refine Qg4.partial_correctness p0 p2 _ ?_;intro Qg4' iQg4 v1 v14 o1 h;refine TL.round (Qas mixed tbOk (lv:=Qyb) _ _ _ ?_);refine Qae h (fun hb h=>?_) (fun hb h=>?_)
 ·refine Qd3 h (fun x4 hi h=>?_);refine Qae h (fun hb h=>?_) (fun hb h=>?_)
  ·exact JP2.b h (Le.tz 0 0 rfl rfl rfl)
  ·refine And.intro (by decide) ?_;refine Qd3 h (fun x5 hi h=>?_);refine vrfl ?_;refine TL.le (τ := Qmo p0 p2 (bits .or .i32 (IntKind.i32.wrap (v1*2 ^ (min (6:Int).toNat (IntKind.i32.bits)))) (IntKind.i32.wrap (bits .and .u8 (x5.toNat:Int) 63))) (wr (v14+1))) ?_ ((iQg4 (bits .or .i32 (IntKind.i32.wrap (v1*2 ^ (min (6:Int).toNat (IntKind.i32.bits)))) (IntKind.i32.wrap (bits .and .u8 (x5.toNat:Int) 63))) (wr (v14+1)) _ h));exact Le.tz 0 0 rfl rfl rfl
 ·exact JP2.a h (Le.tz 0 0 rfl rfl rfl)
def Qqy (p0:(List UInt8)) (p1:Int) (p2:Int):Option (Int×Bool) :=
 if(decide ((p0.length:Int)<p2)) then
  some (0,false)
 else
  (Qg4 p0 p2 p1 0)>>=fun o1 =>
  match o1 with
  | .inl y2 =>
   some (y2,true)
  | .inr y3 =>
   some (0,false)
theorem Q8b:∀ (p0:(List UInt8)) (p1:Int) (p2:Int) (o:Int×Bool),Qqy p0 p1 p2=some o→PCall Tryz.prog 187 [sV p0,nV .i32 p1,iV p2] (Qnd o):=by
 intro p0 p1 p2 o h;unfold Qqy at h;refine PCall.ofB mixed tbOk Qyb Tryz.func187 rfl (by kernel_rfl) (Nat.le_of_ble_eq_true rfl) ?_;refine vrfl ?_;refine Qae h (fun hb h=>?_) (fun hb h=>?_)
 ·refine Qax (t:=Qnd) h ?_;exact .refl _
 ·refine Qal h (fun o1 ho hk=>?_);refine Exists.intro (JP2 _ _ o1 (.exit 0) (Qru p0 p2) .ret (Qrv p0 p2)) (And.intro (Qk2 (τ := Qmo p0 p2 p1 0) ?_ (TL.loop (Qado p0 p2 p1 0 o1 ho))) (Qjy (fun y2 hy=>?_) (fun y3 hy=>?_)))
  ·exact Le.tz 0 0 rfl rfl rfl
  ·have h:=(by rw[hy] at hk; exact hk);refine Qax (t:=Qnd) h ?_;exact .refl _
  ·have h:=(by rw[hy] at hk; exact hk);refine Qax (t:=Qnd) h ?_;exact .refl _
def Qtg (p0:(List UInt8)) (p1:Int):Option (Int×Int) :=
 ( if(decide (p1<0)) then
   some true
  else
   some (decide (p1 ≥ (p0.length:Int))):Option (Bool))>>=fun o1 =>
 if o1 then
  some (0,0)
 else
  idx p0 p1>>=fun x2 =>
  ( if(decide ((x2.toNat:Int)<128)) then
    some (.inr (IntKind.i32.wrap (x2.toNat:Int)))
   else
    ( if(decide ((x2.toNat:Int) ≥ 192)) then
      some (decide ((x2.toNat:Int)<224))
     else
      some false:Option (Bool))>>=fun o6 =>
    if o6 then
     some (.inl ((IntKind.i32.wrap (bits .and .u8 (x2.toNat:Int) 31)),128,1))
    else
     ( if(decide ((x2.toNat:Int) ≥ 224)) then
       some (decide ((x2.toNat:Int)<240))
      else
       some false:Option (Bool))>>=fun o7 =>
     if o7 then
      some (.inl ((IntKind.i32.wrap (bits .and .u8 (x2.toNat:Int) 15)),2048,2))
     else
      ( if(decide ((x2.toNat:Int) ≥ 240)) then
        some (decide ((x2.toNat:Int)<248))
       else
        some false:Option (Bool))>>=fun o8 =>
      if o8 then
       some (.inl ((IntKind.i32.wrap (bits .and .u8 (x2.toNat:Int) 7)),65536,3))
      else
       some (.inr 65533):Option ((Int×Int×Int)⊕Int))>>=fun o3 =>
  match o3 with
  | .inl y4 =>
   cutL p0 (wr (p1+1)) (p0.length:Int)>>=fun x9 =>
   Qqy x9 y4.1 y4.2.2>>=fun x10 =>
   ( if(!x10.2) then
     some true
    else
     if(decide (x10.1<y4.2.1)) then
      some true
     else
      Q1b x10.1>>=fun x12 =>
      some (!x12):Option (Bool))>>=fun o11 =>
   if o11 then
    some (65533,1)
   else
    some (x10.1,(wr (y4.2.2+1)))
  | .inr y5 =>
   some (y5,1)
theorem Q8c:∀ (p0:(List UInt8)) (p1:Int) (o:Int×Int),Qtg p0 p1=some o→PCall Tryz.prog 186 [sV p0,iV p1] (Qkt o):=by
 intro p0 p1 o h;unfold Qtg at h;refine PCall.ofB mixed tbOk Q76 Tryz.func186 rfl (by kernel_rfl) (Nat.le_of_ble_eq_true rfl) ?_;refine Qal h (fun o1 ho hk=>?_);refine Exists.intro (JP1 _ _ o1 .normal (Q2w p0 p1)) (And.intro ?_ (Qbb ?_))
 ·have h:=ho;refine Qae h (fun hb h=>?_) (fun hb h=>?_)
  ·refine JP1.a h ?_;exact Le.tz 0 0 rfl rfl rfl
  ·refine vrfl ?_;refine JP1.a h ?_;exact Le.tz 0 0 rfl rfl rfl
 ·have h:=hk;refine Qae h (fun hb h=>?_) (fun hb h=>?_)
  ·refine Qax (t:=Qkt) h ?_;exact .refl _
  ·refine Qd3 h (fun x2 hi h=>?_);refine Qal h (fun o3 ho hk=>?_);refine Exists.intro (JP2 _ _ o3 .normal (Q2x p0 p1) .ret (Q2y p0 p1)) (And.intro ?_ (Qjy (fun y4 hy=>?_) (fun y5 hy=>?_)))
   ·have h:=ho;refine Qae h (fun hb h=>?_) (fun hb h=>?_)
    ·refine vrfl ?_;refine JP2.b h ?_;exact Le.tz 0 0 rfl rfl rfl
    ·refine Qal h (fun o6 ho hk=>?_);refine Exists.intro (JP1 _ _ o6 .normal (Q2z p0 p1 x2)) (And.intro ?_ (Qbb ?_))
     ·have h:=ho;refine Qae h (fun hb h=>?_) (fun hb h=>?_)
      ·refine JP1.a h ?_;exact Le.tz 0 0 rfl rfl rfl
      ·refine JP1.a h ?_;exact Le.tz 0 0 rfl rfl rfl
     ·have h:=hk;refine Qae h (fun hb h=>?_) (fun hb h=>?_)
      ·refine vrfl ?_;refine JP2.a h ?_;exact Le.tz 0 0 rfl rfl rfl
      ·refine Qal h (fun o7 ho hk=>?_);refine Exists.intro (JP1 _ _ o7 .normal (Q20 p0 p1 x2)) (And.intro ?_ (Qbb ?_))
       ·have h:=ho;refine Qae h (fun hb h=>?_) (fun hb h=>?_)
        ·refine JP1.a h ?_;exact Le.tz 0 0 rfl rfl rfl
        ·refine JP1.a h ?_;exact Le.tz 0 0 rfl rfl rfl
       ·have h:=hk;refine Qae h (fun hb h=>?_) (fun hb h=>?_)
        ·refine vrfl ?_;refine JP2.a h ?_;exact Le.tz 0 0 rfl rfl rfl
        ·refine Qal h (fun o8 ho hk=>?_);refine Exists.intro (JP1 _ _ o8 .normal (Q21 p0 p1 x2)) (And.intro ?_ (Qbb ?_))
         ·have h:=ho;refine Qae h (fun hb h=>?_) (fun hb h=>?_)
          ·refine JP1.a h ?_;exact Le.tz 0 0 rfl rfl rfl
          ·refine JP1.a h ?_;exact Le.tz 0 0 rfl rfl rfl
         ·have h:=hk;refine Qae h (fun hb h=>?_) (fun hb h=>?_)
          ·refine vrfl ?_;refine JP2.a h ?_;exact Le.tz 0 0 rfl rfl rfl
          ·refine JP2.b h ?_;exact Le.tz 0 0 rfl rfl rfl
   ·have h:=(by rw[hy] at hk; exact hk);refine Qmf (some (wr (p1+1))) none h (fun x9 hi h=>?_);refine Qat [sV x9,nV .i32 y4.1,iV y4.2.2] Qnd h (fun x10 hy=>(Q8b x9 y4.1 y4.2.2 x10 hy)) (fun x10 hy h=>?_);refine Qal h (fun o11 ho hk=>?_);refine Exists.intro (JP1 _ _ o11 .normal (Q22 y4 x10)) (And.intro ?_ (Qbb ?_))
    ·have h:=ho;refine Qae h (fun hb h=>?_) (fun hb h=>?_)
     ·refine bT ?_;refine JP1.a h ?_;exact Le.tz 0 0 rfl rfl rfl
     ·refine Qae h (fun hb h=>?_) (fun hb h=>?_)
      ·refine JP1.a h ?_;exact Le.tz 0 0 rfl rfl rfl
      ·refine Qat [nV .i32 x10.1] Q23 h (fun x12 hy=>(Qadn x10.1 x12 hy)) (fun x12 hy h=>?_);refine JP1.a h ?_;exact Le.tz 0 0 rfl rfl rfl
    ·have h:=hk;refine Qae h (fun hb h=>?_) (fun hb h=>?_)
     ·refine Qax (t:=Qkt) h ?_;exact .refl _
     ·refine Qax (t:=Qkt) h ?_;exact .refl _
   ·have h:=(by rw[hy] at hk; exact hk);refine Qax (t:=Qkt) h ?_;exact .refl _
def Qex (p0:(List UInt8)) (v3:Int):Option ((List (Int×Int))×(Unit)) :=
 if(decide (v3<(p0.length:Int))) then
  Qtg p0 v3>>=fun x3 =>
  ( Qex p0 (wr (v3+x3.2)))>>=fun q=>some ((x3.1,x3.2)::q.1,q.2)
 else
  some ([],())
 partial_fixpoint
theorem Qabr:∀ (p0:(List UInt8)),(∀ (v3:Int) (o2:(List (Int×Int))×(Unit)),Qex p0 v3=some o2→∀ (gxs gp gpost gq1:List (List V)),gxs=gp++(o2.1.map Qiw++gpost)→gxs=gq1++gpost→TL (0,1) Tryz.prog 24 Qz5 (Qs (0,1) 24 gxs (JP1 (0,1) 24 o2.2 (.exit 0) (Qp1 p0 gxs gq1))) (Qla p0 v3 gxs gp)):=by
 intro p0;refine Qex.partial_correctness p0 _ ?_;intro Qex' iQex v3 o2 h;intro gxs gp gpost gq1 hx hq;refine TL.round (Qas mixed tbOk (lv:=Qvc) _ _ _ ?_);refine vrfl ?_;refine Qae h (fun hb h=>?_) (fun hb h=>?_)
 ·refine Qat [sV p0,iV v3] Qkt h (fun x3 hy=>(Q8c p0 v3 x3 hy)) (fun x3 hy h=>?_);refine Qac4 (c:=Qiw) h hx (.refl _) (by exact rfl) (by exact rfl) (fun _ h hx=>?_) ?_
  ·refine bF ?_;refine TL.le (τ := Qla p0 (wr (v3+x3.2)) gxs (gp++[Qiw (x3.1,x3.2)])) ?_ ((iQex (wr (v3+x3.2)) _ h) _ _ _ _ hx hq);exact Le.tz 0 1 rfl rfl rfl
  ·refine bT ?_;exact .inr ⟨rfl,_,(Le.env0 _).trans (Le.tow 0 1 rfl .nil (.refl _) rfl),rfl,rfl,rfl⟩
 ·exact .inl (JP1.a (sndI h) (Le.tz 0 1 rfl rfl (Qaff h hx hq rfl)))
def Qth (p0:(List UInt8)):Option ((List (Int×Int))×Unit) :=
 ( Qex p0 0)>>=fun o2=>(
  some ([],()))>>=fun q=>some (o2.1++q.1,q.2)
theorem Q6a:∀ (p0:(List UInt8)) (o:(List (Int×Int))×Unit),Qth p0=some o→∀ gxs:List (List V),gxs=o.1.map Qiw→IterOK Tryz.prog 185 [.ep [sV p0]] gxs:=by
 intro p0 o h;unfold Qth at h;intro gxs hg;have hx:gxs=[]++(o.1.map Qiw++[]):=by simp[hg]
 refine IterOK.ofB mixed tbOk Qvc Tryz.func185 rfl (by kernel_rfl) (Nat.le_of_ble_eq_true rfl) rfl ?_;refine Qwt h hx (fun o2 lgq1 gq1 ho hk hxa hjgq1=>?_);refine Exists.intro (Qs _ _ gxs (JP1 _ _ o2.2 (.exit 0) (Qp1 p0 gxs gq1))) (And.intro (Qk2 (τ := Qla p0 0 gxs ([]:List (List V))) ?_ (TL.loop ((Qabr p0 0 o2 ho) _ _ _ _ hxa hjgq1))) (Qafg (Qbb ?_) ?_))
 ·exact Le.tz 0 1 rfl rfl rfl
 ·have h:=hk;have hx:=hjgq1;exact Qac3 h hx (.inl rfl) rfl
 ·exact fun s1 h1 h2 hs=>Q9p (.inr rfl) hs
def Q6b (p0:(List UInt8)):Option (Bool) :=
 Q29 p0>>=fun x1 =>
 Qth x1>>=fun y5 =>
 (Qjn x1 y5.1)>>=fun o6 =>
 match o6 with
 | .inl y7 =>
  some true
 | .inr y8 =>
  some false
theorem Qadp:∀ (p0:(List UInt8)) (o:Bool),Q6b p0=some o→PCall Tryz.prog 168 [sV p0] (Qwu o):=by
 intro p0 o h;unfold Q6b at h;refine PCall.ofB mixed tbOk Qx9 Tryz.func168 rfl (by kernel_rfl) (Nat.le_of_ble_eq_true rfl) ?_;refine Qat [sV p0] Qya h (fun x1 hy=>(Qaa9 p0 x1 hy)) (fun x1 hy h=>?_);refine Qal h (fun y5 hy5 h=>?_);refine Qal h (fun o6 ho hk=>?_);refine Exists.intro (JP2 _ _ o6 .normal (Qva x1) .ret (Qvb x1)) (And.intro (Qk2 (τ := Qlz x1) ?_ (Q18 (g:=185) (cap:=[.ep [sV x1]]) rfl ((Q6a x1 y5 hy5) _ rfl) (Qxq fun _=>rfl) rfl (Nat.le_of_ble_eq_true rfl) (Nat.le_of_ble_eq_true rfl) (Qafm x1 y5.1 o6 ho))) (Qjy (fun y7 hy=>?_) (fun y8 hy=>?_)))
 ·exact Le.tz 1 0 rfl rfl rfl
 ·have h:=(by rw[hy] at hk; exact hk);refine Qax (t:=Qwu) h ?_;exact .refl _
 ·have h:=(by rw[hy] at hk; exact hk);refine Qax (t:=Qwu) h ?_;exact .refl _
def Qjo (p0:(List UInt8)):Option ((List UInt8)×Bool) :=
 ( Q6b p0>>=fun x2 =>
  if(!x2) then
   some true
  else
   Qf8 p0 13>>=fun x3 =>
   some (decide (x3 ≥ 0)):Option (Bool))>>=fun o1 =>
 if o1 then
  some ([],false)
 else
  (Qc7 p0 [34] 0)>>=fun o4 =>
  appL 1 o4 [34]>>=fun x11 =>
  b2s x11>>=fun x12 =>
  some (x12,true)
theorem Q6c:∀ (p0:(List UInt8)) (o:(List UInt8)×Bool),Qjo p0=some o→PCall Tryz.prog 154 [sV p0] (Qn4 o):=by
 intro p0 o h;unfold Qjo at h;refine PCall.ofB mixed tbOk Qu9 Tryz.func154 rfl (by kernel_rfl) (Nat.le_of_ble_eq_true rfl) ?_;refine Qal h (fun o1 ho hk=>?_);refine Exists.intro (JP1 _ _ o1 .normal (Qzn p0)) (And.intro ?_ (Qbb ?_))
 ·have h:=ho;refine Qat [sV p0] Qwu h (fun x2 hy=>(Qadp p0 x2 hy)) (fun x2 hy h=>?_);refine Qae h (fun hb h=>?_) (fun hb h=>?_)
  ·refine JP1.a h ?_;exact Le.tz 0 0 rfl rfl rfl
  ·refine Qat [sV p0,nV .u8 13] Qg0 h (fun x3 hy=>(Qra p0 13 x3 hy)) (fun x3 hy h=>?_);refine JP1.a h ?_;exact Le.tz 0 0 rfl rfl rfl
 ·have h:=hk;refine Qae h (fun hb h=>?_) (fun hb h=>?_)
  ·refine Qax (t:=Qn4) h ?_;exact .refl _
  ·refine vrfl ?_;refine Qal h (fun o4 ho hk=>?_);refine Exists.intro (JP1 _ _ o4 (.exit 0) (Qpw p0)) (And.intro (Qk2 (τ := Qep p0 [34] 0) ?_ (TL.loop (Qabq p0 [34] 0 o4 ho))) (Qbb ?_))
   ·exact Le.trans (τ := ⟨[(0,.p (sV p0)),(4,.p (.sl true ([34].map (cNum .u8)))),(17,.p (iV (p0.length:Int))),(18,.p (iV 0))],⟨[],[]⟩⟩) (Le.tz 0 0 rfl rfl rfl) ((Le.ownW 4 5 1 rfl (Qxq fun _=>rfl)).trans (Le.tz 0 1 rfl rfl rfl))
   have h:=hk;refine Qr3 (a:=o4) (b:=[34]) (c:=(cNum .u8)) h (.refl _) (fun _=>rfl) rfl (fun x11 hi h=>?_);refine Qxs (l:=x11) h (fun x12 hi h=>?_);refine Qax (t:=Qn4) h ?_;exact .refl _
def Qhe (p0:Qaa):Option (Qdf) :=
 some (Qdf.mk (!(p0.Name==[])) (!(p0.Text==[])) (p0.N != 0) (decide ((p0.Then.length:Int)>0)) (decide ((p0.Else.length:Int)>0)) (p0.L.length:Int))
theorem Qp5:∀ (p0:Qaa) (o:Qdf),Qhe p0=some o→PCall Tryz.prog 126 [.agg [iV p0.Kind,sV p0.Name,sV p0.Text,iV p0.N,.sl false (p0.L.map Qab),.sl false (p0.Then.map Qab),.sl false (p0.Else.map Qab)]] (Qjd o):=by
 intro p0 o h;unfold Qhe at h;refine PCall.ofB mixed tbOk Qx8 Tryz.func126 rfl (by kernel_rfl) (Nat.le_of_ble_eq_true rfl) ?_;refine view (Qej _ _) rfl ?_;refine view (Qej _ _) rfl ?_;refine view (Qej _ _) rfl ?_;refine Qax (t:=Qjd) h ?_;exact .refl _
mutual
def Qa3 (p0:(List Qaa)):Option (Bool) :=
 Qbg p0>>=fun x1 =>
 some (decide (x1 ≥ 0))
 partial_fixpoint
def Qbg (p0:(List Qaa)):Option (Int) :=
 (Qaw p0 0)>>=fun o1 =>
 match o1 with
 | .inl y2 =>
  some (-1)
 | .inr y3 =>
  some y3
 partial_fixpoint
def Qaw (p0:(List Qaa)) (v8:Int):Option (Unit⊕Int) :=
 if(decide (v8<(p0.length:Int))) then
  idx p0 v8>>=fun x4 =>
  Qsf x4>>=fun x5 =>
  if x5 then
   some (.inr v8)
  else
   Qaw p0 (wr (v8+1))
 else
  some (.inl ())
 partial_fixpoint
def Qsf (p0:Qaa):Option (Bool) :=
 Qfd p0>>=fun x1 =>
 some (!x1)
 partial_fixpoint
def Qfd (p0:Qaa):Option (Bool) :=
 Qhe p0>>=fun x1 =>
 if(p0.Kind==1) then
  Qjo p0.Text>>=fun x2 =>
  ( if x2.2 then
    some ((x1.name_==false)&&((x1.text_==x1.text_)&&((x1.num_==false)&&((x1.then_==false)&&((x1.other_==false)&&((x1.l_==0)&&true))))))
   else
    some false:Option (Bool))>>=fun o3 =>
  some o3
 else
  if(p0.Kind==2) then
   some ((x1.name_==false)&&((x1.text_==false)&&((x1.num_==x1.num_)&&((x1.then_==false)&&((x1.other_==false)&&((x1.l_==0)&&true))))))
  else
   if(p0.Kind==3) then
    ( if((bits .andNot .i64 p0.N 1)==0) then
      some ((x1.name_==false)&&((x1.text_==false)&&((x1.num_==x1.num_)&&((x1.then_==false)&&((x1.other_==false)&&((x1.l_==0)&&true))))))
     else
      some false:Option (Bool))>>=fun o4 =>
    some o4
   else
    if(p0.Kind==4) then
     ( Qhs p0.Name>>=fun x6 =>
      if x6 then
       some ((x1.name_==true)&&((x1.text_==false)&&((x1.num_==false)&&((x1.then_==false)&&((x1.other_==false)&&((x1.l_==0)&&true))))))
      else
       some false:Option (Bool))>>=fun o5 =>
     some o5
    else
     if(p0.Kind==7) then
      ( Qoa p0.Name>>=fun x8 =>
       if x8 then
        some ((x1.name_==true)&&((x1.text_==false)&&((x1.num_==false)&&((x1.then_==false)&&((x1.other_==false)&&((x1.l_==0)&&true))))))
       else
        some false:Option (Bool))>>=fun o7 =>
      some o7
     else
      if(p0.Kind==5) then
       ( Qoa p0.Name>>=fun x10 =>
        if x10 then
         if((x1.name_==true)&&((x1.text_==false)&&((x1.num_==false)&&((x1.then_==false)&&((x1.other_==false)&&((x1.l_==1)&&true)))))) then
          idx p0.L 0>>=fun x11 =>
          Qfd x11>>=fun x12 =>
          some x12
         else
          some false
        else
         some false:Option (Bool))>>=fun o9 =>
       some o9
      else
       if(p0.Kind==6) then
        ( Qhs p0.Name>>=fun x14 =>
         if x14 then
          if((x1.name_==true)&&((x1.text_==false)&&((x1.num_==false)&&((x1.then_==false)&&((x1.other_==false)&&((x1.l_==(if 3<x1.l_ then 3 else x1.l_))&&true)))))) then
           Qa3 p0.L>>=fun x15 =>
           some (!x15)
          else
           some false
         else
          some false:Option (Bool))>>=fun o13 =>
        some o13
       else
        some false
 partial_fixpoint
end
theorem Qdj:(∀ (p0:(List Qaa)) (o:Bool),Qa3 p0=some o→CallOK Tryz.prog 56 [.p (.sl false (p0.map Qab)),.fn (.func 155) [] []] ⟨[],[]⟩ (Qbx o) ⟨[],[]⟩)∧(∀ (p0:(List Qaa)) (o:Int),Qbg p0=some o→CallOK Tryz.prog 83 [.p (.sl false (p0.map Qab)),.fn (.func 155) [] []] ⟨[],[]⟩ (Qbf o) ⟨[],[]⟩)∧(∀ (p0:(List Qaa)) (v8:Int) (o1:Unit⊕Int),Qaw p0 v8=some o1→TL (0,0) Tryz.prog 19 Qds (JP2 (0,0) 19 o1 (.exit 0) (Qbt p0) .ret (Qbu p0)) (Qba p0 v8))∧(∀ (p0:Qaa) (o:Bool),Qsf p0=some o→PCall Tryz.prog 155 [.agg [iV p0.Kind,sV p0.Name,sV p0.Text,iV p0.N,.sl false (p0.L.map Qab),.sl false (p0.Then.map Qab),.sl false (p0.Else.map Qab)]] (Qn7 o))∧(∀ (p0:Qaa) (o:Bool),Qfd p0=some o→PCall Tryz.prog 128 [.agg [iV p0.Kind,sV p0.Name,sV p0.Text,iV p0.N,.sl false (p0.L.map Qab),.sl false (p0.Then.map Qab),.sl false (p0.Else.map Qab)]] (Qc1 o)):=by
 refine Qa3.mutual_partial_correctness _ _ _ _ _ ?_ ?_ ?_ ?_ ?_
 ·intro Qbg' iQbg p0 o h;refine CallOK.ofB mixed tbOk Qdn Tryz.func56 rfl (by kernel_rfl) (Nat.le_of_ble_eq_true rfl) rfl rfl rfl ?_;refine Qan _ _ h (fun x1 hy=>((iQbg p0 x1 hy).fr [] [] rfl rfl rfl)) (fun x1 hy h=>?_);refine Exists.intro _ (And.intro (Le.refl _ _ _) ?_);exact Qa5 (t:=Qbx) (ss:=fun o=>⟨[],[]⟩) h ⟨[],rfl,.refl _,.refl _,rfl⟩
 ·intro Qaw' iQaw p0 o h;refine CallOK.ofB mixed tbOk Qb5 Tryz.func83 rfl (by kernel_rfl) (Nat.le_of_ble_eq_true rfl) rfl rfl rfl ?_;refine view (Qej _ _) rfl ?_;refine Qal h (fun o1 ho hk=>?_);refine Exists.intro (JP2 _ _ o1 (.exit 0) (Qbt p0) .ret (Qbu p0)) (And.intro (Qk2 (τ := Qba p0 0) ?_ (TL.loop (iQaw p0 0 o1 ho))) (Qjy (fun y2 hy=>?_) (fun y3 hy=>?_)))
  ·exact Le.tz 0 0 rfl rfl rfl
  ·have h:=(by rw[hy] at hk; exact hk);refine Exists.intro _ (And.intro (Le.refl _ _ _) ?_);exact Qa5 (t:=Qbf) (ss:=fun o=>⟨[],[]⟩) h ⟨[],rfl,.refl _,.refl _,rfl⟩
  ·have h:=(by rw[hy] at hk; exact hk);refine Exists.intro _ (And.intro (Le.refl _ _ _) ?_);exact Qa5 (t:=Qbf) (ss:=fun o=>⟨[],[]⟩) h ⟨[],rfl,.refl _,.refl _,rfl⟩
 ·intro Qaw' Qsf' iQaw iQsf p0 v8 o1 h;refine TL.round (Qas mixed tbOk (lv:=Qb5) _ _ _ ?_);refine Qae h (fun hb h=>?_) (fun hb h=>?_)
  ·refine Qco (l:=p0) (c:=Qab) (c' := Qbh) h Qap (fun _=>rfl) (by decide) (fun x4 hi h=>?_);refine Qat [.agg [iV x4.Kind,sV x4.Name,sV x4.Text,iV x4.N,.sl false (x4.L.map Qab),.sl false (x4.Then.map Qab),.sl false (x4.Else.map Qab)]] Qn7 h (fun x5 hy=>(iQsf x4 x5 hy)) (fun x5 hy h=>?_);refine Qae h (fun hb h=>?_) (fun hb h=>?_)
   ·exact JP2.b h (Le.tz 0 0 rfl rfl rfl)
   ·refine TL.le (τ := Qba p0 (wr (v8+1))) ?_ ((iQaw p0 (wr (v8+1)) _ h));exact Le.tz 0 0 rfl rfl rfl
  ·exact JP2.a h (Le.tz 0 0 rfl rfl rfl)
 ·intro Qfd' iQfd p0 o h;refine PCall.ofB mixed tbOk Qzy Tryz.func155 rfl (by kernel_rfl) (Nat.le_of_ble_eq_true rfl) ?_;refine Qat [.agg [iV p0.Kind,sV p0.Name,sV p0.Text,iV p0.N,.sl false (p0.L.map Qab),.sl false (p0.Then.map Qab),.sl false (p0.Else.map Qab)]] Qc1 h (fun x1 hy=>(iQfd p0 x1 hy)) (fun x1 hy h=>?_);refine Qax (t:=Qn7) h ?_;exact .refl _
 ·intro Qa3' Qfd' iQa3 iQfd p0 o h;refine PCall.ofB mixed tbOk Q52 Tryz.func128 rfl (by kernel_rfl) (Nat.le_of_ble_eq_true rfl) ?_;refine Qat [.agg [iV p0.Kind,sV p0.Name,sV p0.Text,iV p0.N,.sl false (p0.L.map Qab),.sl false (p0.Then.map Qab),.sl false (p0.Else.map Qab)]] Qjd h (fun x1 hy=>(Qp5 p0 x1 hy)) (fun x1 hy h=>?_);refine Qae h (fun hb h=>?_) (fun hb h=>?_)
  ·refine Qat [sV p0.Text] Qn4 h (fun x2 hy=>(Q6c p0.Text x2 hy)) (fun x2 hy h=>?_);refine Qal h (fun o3 ho hk=>?_);refine Exists.intro (JP1 _ _ o3 .normal (Qzs p0 x1)) (And.intro ?_ (Qbb ?_))
   ·have h:=ho;refine Qae h (fun hb h=>?_) (fun hb h=>?_)
    ·refine And.intro rfl ?_;refine JP1.a h ?_;exact Le.tz 3 0 rfl rfl rfl
    ·refine JP1.a h ?_;exact Le.tz 3 0 rfl rfl rfl
   ·have h:=hk;refine Qax (t:=Qc1) h ?_;exact .refl _
  ·refine Qae h (fun hb h=>?_) (fun hb h=>?_)
   ·refine And.intro rfl ?_;refine Qax (t:=Qc1) h ?_;exact .refl _
   ·refine Qae h (fun hb h=>?_) (fun hb h=>?_)
    ·refine Qal h (fun o4 ho hk=>?_);refine Exists.intro (JP1 _ _ o4 .normal (Qzt p0 x1)) (And.intro ?_ (Qbb ?_))
     ·have h:=ho;refine Qae h (fun hb h=>?_) (fun hb h=>?_)
      ·refine And.intro rfl ?_;refine JP1.a h ?_;exact Le.tz 3 0 rfl rfl rfl
      ·refine JP1.a h ?_;exact Le.tz 3 0 rfl rfl rfl
     ·have h:=hk;refine Qax (t:=Qc1) h ?_;exact .refl _
    ·refine Qae h (fun hb h=>?_) (fun hb h=>?_)
     ·refine Qal h (fun o5 ho hk=>?_);refine Exists.intro (JP1 _ _ o5 .normal (Qzu p0 x1)) (And.intro ?_ (Qbb ?_))
      ·have h:=ho;refine Qat [sV p0.Name] Qfr h (fun x6 hy=>(Qjm p0.Name x6 hy)) (fun x6 hy h=>?_);refine Qae h (fun hb h=>?_) (fun hb h=>?_)
       ·refine And.intro rfl ?_;refine JP1.a h ?_;exact Le.tz 3 0 rfl rfl rfl
       ·refine JP1.a h ?_;exact Le.tz 3 0 rfl rfl rfl
      ·have h:=hk;refine Qax (t:=Qc1) h ?_;exact .refl _
     ·refine Qae h (fun hb h=>?_) (fun hb h=>?_)
      ·refine Qal h (fun o7 ho hk=>?_);refine Exists.intro (JP1 _ _ o7 .normal (Qzv p0 x1)) (And.intro ?_ (Qbb ?_))
       ·have h:=ho;refine Qat [sV p0.Name] Qks h (fun x8 hy=>(Qse p0.Name x8 hy)) (fun x8 hy h=>?_);refine Qae h (fun hb h=>?_) (fun hb h=>?_)
        ·refine And.intro rfl ?_;refine JP1.a h ?_;exact Le.tz 3 0 rfl rfl rfl
        ·refine JP1.a h ?_;exact Le.tz 3 0 rfl rfl rfl
       ·have h:=hk;refine Qax (t:=Qc1) h ?_;exact .refl _
      ·refine Qae h (fun hb h=>?_) (fun hb h=>?_)
       ·refine Qal h (fun o9 ho hk=>?_);refine Exists.intro (JP1 _ _ o9 .normal (Qzw p0 x1)) (And.intro ?_ (Qbb ?_))
        ·have h:=ho;refine Qat [sV p0.Name] Qks h (fun x10 hy=>(Qse p0.Name x10 hy)) (fun x10 hy h=>?_);refine Qae h (fun hb h=>?_) (fun hb h=>?_)
         ·refine And.intro rfl ?_;refine Qae h (fun hb h=>?_) (fun hb h=>?_)
          ·refine Qco (l:=p0.L) (c:=Qab) (c' := Qbh) h Qap (fun _=>rfl) (by decide) (fun x11 hi h=>?_);refine Qat [.agg [iV x11.Kind,sV x11.Name,sV x11.Text,iV x11.N,.sl false (x11.L.map Qab),.sl false (x11.Then.map Qab),.sl false (x11.Else.map Qab)]] Qc1 h (fun x12 hy=>(iQfd x11 x12 hy)) (fun x12 hy h=>?_);refine JP1.a h ?_;exact Le.tz 3 0 rfl rfl rfl
          ·refine JP1.a h ?_;exact Le.tz 3 0 rfl rfl rfl
         ·refine bF ?_;refine JP1.a h ?_;exact Le.tz 3 0 rfl rfl rfl
        ·have h:=hk;refine Qax (t:=Qc1) h ?_;exact .refl _
       ·refine Qae h (fun hb h=>?_) (fun hb h=>?_)
        ·refine Qal h (fun o13 ho hk=>?_);refine Exists.intro (JP1 _ _ o13 .normal (Qzx p0 x1)) (And.intro ?_ (Qbb ?_))
         ·have h:=ho;refine Qat [sV p0.Name] Qfr h (fun x14 hy=>(Qjm p0.Name x14 hy)) (fun x14 hy h=>?_);refine Qae h (fun hb h=>?_) (fun hb h=>?_)
          ·refine And.intro rfl ?_;refine Qae h (fun hb h=>?_) (fun hb h=>?_)
           ·refine Qan _ _ h (fun x15 hy=>((iQa3 p0.L x15 hy).fr [] [] rfl rfl rfl)) (fun x15 hy h=>?_);refine JP1.a h ?_;exact Le.tz 3 0 rfl rfl rfl
           ·refine JP1.a h ?_;exact Le.tz 3 0 rfl rfl rfl
          ·refine bF ?_;refine JP1.a h ?_;exact Le.tz 3 0 rfl rfl rfl
         ·have h:=hk;refine Qax (t:=Qc1) h ?_;exact .refl _
        ·refine Qax (t:=Qc1) h ?_;exact .refl _
theorem Q6d:∀ (p0:Qaa) (o:Bool),Qfd p0=some o→PCall Tryz.prog 128 [.agg [iV p0.Kind,sV p0.Name,sV p0.Text,iV p0.N,.sl false (p0.L.map Qab),.sl false (p0.Then.map Qab),.sl false (p0.Else.map Qab)]] (Qc1 o):=fun p0=>Qdj.2.2.2.2 p0
mutual
def Qhf (p0:(List Qaa)) (p1:Bool):Option (Bool) :=
 (Qf9 p0 p1 0)>>=fun o1 =>
 match o1 with
 | .inl y2 =>
  some true
 | .inr y3 =>
  some false
 partial_fixpoint
def Qf9 (p0:(List Qaa)) (p1:Bool) (v10:Int):Option (Unit⊕Unit) :=
 if(decide (v10<(p0.length:Int))) then
  idx p0 v10>>=fun x4 =>
  Qp6 x4>>=fun x5 =>
  if(!x5) then
   some (.inr ())
  else
   ( if(x4.Kind==8) then
     if(!(v10==(wr ((p0.length:Int)-1)))) then
      idx p0 (wr (v10+1))>>=fun x7 =>
      if(x7.Kind==8) then
       some true
      else
       if(v10==(wr ((p0.length:Int)-1))) then
        if(!p1) then
         Qci x4.Text [123]>>=fun x8 =>
         some x8
        else
         some false
       else
        Qci x4.Text [123]>>=fun x9 =>
        some x9
     else
      if(v10==(wr ((p0.length:Int)-1))) then
       if(!p1) then
        Qci x4.Text [123]>>=fun x10 =>
        some x10
       else
        some false
      else
       Qci x4.Text [123]>>=fun x11 =>
       some x11
    else
     some false:Option (Bool))>>=fun o6 =>
   if o6 then
    some (.inr ())
   else
    Qf9 p0 p1 (wr (v10+1))
 else
  some (.inl ())
 partial_fixpoint
def Qp6 (p0:Qaa):Option (Bool) :=
 Qhe p0>>=fun x1 =>
 ( if(p0.Kind==8) then
   ( if((x1.name_==false)&&((x1.text_==true)&&((x1.num_==false)&&((x1.then_==false)&&((x1.other_==false)&&((x1.l_==0)&&true)))))) then
     Qfc p0.Text [123,123]>>=fun x6 =>
     some (!x6)
    else
     some false:Option (Bool))>>=fun o5 =>
   some (.inr o5)
  else
   if(p0.Kind==9) then
    some (.inl (false,false,false))
   else
    if(p0.Kind==10) then
     some (.inl (false,x1.then_,x1.other_))
    else
     ( if(p0.Kind==11) then
       some (p0.Kind==11)
      else
       some (p0.Kind==12):Option (Bool))>>=fun o7 =>
     if o7 then
      Qhs p0.Name>>=fun x8 =>
      some (.inl (x8,x1.then_,false))
     else
      if(p0.Kind==13) then
       Qhs p0.Name>>=fun x9 =>
       some (.inl (x9,false,false))
      else
       some (.inr false):Option ((Bool×Bool×Bool)⊕Bool))>>=fun o2 =>
 match o2 with
 | .inl y3 =>
  ( if(p0.Kind==11) then
    some true
   else
    if(p0.Kind==12) then
     some true
    else
     some (p0.Kind==13):Option (Bool))>>=fun o10 =>
  ( if(y3.1==o10) then
    if((x1.name_==y3.1)&&((x1.text_==false)&&((x1.num_==false)&&((x1.then_==y3.2.1)&&((x1.other_==y3.2.2)&&((x1.l_==1)&&true)))))) then
     idx p0.L 0>>=fun x12 =>
     Qfd x12>>=fun x13 =>
     if x13 then
      Qhf p0.Then false>>=fun x14 =>
      if x14 then
       Qhf p0.Else false>>=fun x15 =>
       some x15
      else
       some false
     else
      some false
    else
     some false
   else
    some false:Option (Bool))>>=fun o11 =>
  some o11
 | .inr y4 =>
  some y4
 partial_fixpoint
end
end Go.Proofs.YtfgegilhjlnohaaGreat
end
