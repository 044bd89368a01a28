/- The proof's texts, part 8 of 10: the walks by a logic in which data are by value, the plain laws, and at the end the law, for every input. -/
import Derived.Test.YtfgegilhjlnohaaMgCallsMany7

section
set_option linter.unusedVariables false
set_option linter.unusedSimpArgs false
set_option maxRecDepth 100000
set_option maxHeartbeats 4000000
namespace Go.Proofs.Ytfgegilhjlnohaa
open Go.RowKit
structure Qab where
 Kind:Int
 Name:(List UInt8)
 Text:(List UInt8)
 N:Int
 L:(List Qab)
 Then:(List Qab)
 Else:(List Qab)
mutual
noncomputable def Qaa:Qab→List V
 | ⟨x0,x1,x2,x3,x4,x5,x6⟩=>[iV x0,sV x1,sV x2,iV x3,.sl false (Qfh x4),.sl false (Qfh x5),.sl false (Qfh x6)]
noncomputable def Qfh:List Qab→List (List V)
 | []=>[]
 | x::r=>Qaa x::Qfh r
end
theorem Qja:∀ l:List Qab,Qfh l=l.map Qaa
 | []=>rfl
 | x::r=>by rw[Qfh,Qja r]; rfl
noncomputable def Qd7 (x:Qab):List V:=[iV x.Kind,sV x.Name,sV x.Text,iV x.N,.sl false (x.L.map Qaa),.sl false (x.Then.map Qaa),.sl false (x.Else.map Qaa)]
theorem Qa6 (x:Qab):Qaa x=Qd7 x:=by cases x; simp[Qaa,Qd7,Qja]
structure Qac where
 Name:(List UInt8)
 L:(List Qab)
noncomputable def Qah (x:Qac):List V:=[sV x.Name,.sl false (x.L.map Qaa)]
structure Qb5 where
 name_:Bool
 text_:Bool
 num_:Bool
 then_:Bool
 other_:Bool
 l_:Int
noncomputable def Qgv (y:Bool):D :=.p (bV y)
noncomputable def Qnp:List (Nat×List Nat):=[(0,[0,1]),(1,[0,1,10]),(2,[4]),(3,[0,1,5]),(4,[0,1,5,14]),(5,[0,1,5]),(6,[0,1,5,25]),(7,[4]),(8,[4]),(1000004,[0,1,5])]
noncomputable def Qfx (p0:(List (List UInt8))) (p1:(List (List UInt8))) (v5:Int):St:=⟨[(0,.p (.sl false (p0.map cStr))),(1,.p (.sl false (p1.map cStr))),(5,.p (iV v5))],⟨[],[]⟩⟩
noncomputable def Qhm (p0:(List (List UInt8))) (p1:(List (List UInt8))) (y2:Unit):St:=⟨[],⟨[],[]⟩⟩
noncomputable def Qhn (p0:(List (List UInt8))) (p1:(List (List UInt8))) (y3:Unit):St:=⟨[(4,.p (bV false))],⟨[],[]⟩⟩
noncomputable def Qkt:Code:=((loopsOf (Try.f8.body.getD .skip)).getD 0 .skip)
noncomputable def Qby (y:(List UInt8)×Int):D :=.tup [.p (sV y.1),.p (iV y.2)]
noncomputable def Qej:List (Nat×List Nat):=[(0,[0]),(1,[0,19]),(2,[2,3]),(3,[0,20,21,22]),(4,[0,20,21,22,23]),(5,[0,4,5,20,21,22]),(6,[0,4,5,20,21,22,36]),(7,[2,3]),(8,[0,5,7,20,21,22]),(9,[0,5,20,21,22,48]),(10,[2,3]),(11,[0,20,21,22]),(12,[0,8]),(13,[0,8,54,55,56]),(14,[0,8,54,55,56,57]),(15,[0,8,10,54,55,56]),(16,[0,8,10,54,55,56,64,65,66]),(17,[0,8,10,54,55,56,64,65,66,67]),(18,[0,8,10,12,54,55,56,64,65,66]),(19,[0,8,10,14,54,55,56,64,65,66]),(20,[0,8,10,54,55,56,64,65,66,78]),(21,[2,3]),(22,[0,8,10,54,55,56,64,65,66]),(23,[0,8,54,55,56]),(24,[8,83,84,85]),(25,[8,83,84,85,86]),(26,[8,16,83,84,85]),(27,[8,16,83,84,85,98]),(28,[2,3]),(29,[8,83,84,85]),(30,[2,3]),(1000004,[0,20,21,22]),(1000014,[0,8,54,55,56]),(1000017,[0,8,10,54,55,56,64,65,66]),(1000025,[8,83,84,85]),(3000006,[]),(5000027,[2005]),(9000016,[4,0,0,0]),(9000019,[3,0,0,0])]
noncomputable def Qmf (p0:(List Qac)) (v22:Int) (x4:Qac) (o5:Bool):St:=⟨[(0,.p (.sl false (p0.map Qah))),(4,.p (iV v22)),(5,.ptr 0 0),(20,.p (.sl false (p0.map Qah))),(21,.p (iV (p0.length:Int))),(22,.p (iV v22)),(36,.p (bV o5))],⟨[[.p (sV x4.Name),.p (.sl false (x4.L.map Qaa))]],[]⟩⟩
noncomputable def Qd8 (p0:(List Qac)) (v22:Int):St:=⟨[(0,.p (.sl false (p0.map Qah))),(20,.p (.sl false (p0.map Qah))),(21,.p (iV (p0.length:Int))),(22,.p (iV v22))],⟨[],[]⟩⟩
noncomputable def Qfi (p0:(List Qac)) (y2:Unit):St:=⟨[(0,.p (.sl false (p0.map Qah)))],⟨[],[]⟩⟩
noncomputable def Qfj (p0:(List Qac)) (y3:(List UInt8)×Int):St:=⟨[(2,.p (sV y3.1)),(3,.p (iV y3.2))],⟨[],[]⟩⟩
noncomputable def Qio:Code:=((loopsOf (Try.f13.body.getD .skip)).getD 0 .skip)
noncomputable def Qd9 (p0:(List Qac)) (x10:(List ((List UInt8)×(List (List UInt8))))) (v56:Int) (x14:Qac) (v66:Int):St:=⟨[(0,.p (.sl false (p0.map Qah))),(8,.ptr 1 0),(10,.ptr 2 0),(54,.p (.sl false (p0.map Qah))),(55,.p (iV (p0.length:Int))),(56,.p (iV v56)),(64,.p (.sl false (((mget (fun a b=>a==b) x14.Name x10).getD []).map cStr))),(65,.p (iV (((mget (fun a b=>a==b) x14.Name x10).getD []).length:Int))),(66,.p (iV v66))],⟨[[mpD sV (fun x =>.sl false (x.map cStr)) x10],[.mh 0],[.p (sV x14.Name),.p (.sl false (x14.L.map Qaa))]],[]⟩⟩
noncomputable def Qfk (p0:(List Qac)) (x10:(List ((List UInt8)×(List (List UInt8))))) (v56:Int) (x14:Qac) (y16:Unit):St:=⟨[(0,.p (.sl false (p0.map Qah))),(8,.ptr 1 0),(54,.p (.sl false (p0.map Qah))),(55,.p (iV (p0.length:Int))),(56,.p (iV v56))],⟨[[mpD sV (fun x =>.sl false (x.map cStr)) x10],[.mh 0],[.p (sV x14.Name),.p (.sl false (x14.L.map Qaa))]],[]⟩⟩
noncomputable def Qfl (p0:(List Qac)) (x10:(List ((List UInt8)×(List (List UInt8))))) (v56:Int) (x14:Qac) (y17:Unit):St:=⟨[(2,.p (sV x14.Name)),(3,.p (iV 4))],⟨[[mpD sV (fun x =>.sl false (x.map cStr)) x10],[.mh 0],[.p (sV x14.Name),.p (.sl false (x14.L.map Qaa))]],[]⟩⟩
noncomputable def Qip:Code:=((loopsOf (Try.f13.body.getD .skip)).getD 2 .skip)
noncomputable def Qea (p0:(List Qac)) (x10:(List ((List UInt8)×(List (List UInt8))))) (v56:Int):St:=⟨[(0,.p (.sl false (p0.map Qah))),(8,.ptr 1 0),(54,.p (.sl false (p0.map Qah))),(55,.p (iV (p0.length:Int))),(56,.p (iV v56))],⟨[[mpD sV (fun x =>.sl false (x.map cStr)) x10],[.mh 0]],[]⟩⟩
noncomputable def Qfm (p0:(List Qac)) (x10:(List ((List UInt8)×(List (List UInt8))))) (y12:Unit):St:=⟨[(0,.p (.sl false (p0.map Qah))),(8,.ptr 1 0)],⟨[[mpD sV (fun x =>.sl false (x.map cStr)) x10],[.mh 0]],[]⟩⟩
noncomputable def Qfn (p0:(List Qac)) (x10:(List ((List UInt8)×(List (List UInt8))))) (y13:(List UInt8)):St:=⟨[(2,.p (sV y13)),(3,.p (iV 4))],⟨[[mpD sV (fun x =>.sl false (x.map cStr)) x10],[.mh 0]],[]⟩⟩
noncomputable def Qiq:Code:=((loopsOf (Try.f13.body.getD .skip)).getD 1 .skip)
noncomputable def Qeb (p0:(List Qac)) (x10:(List ((List UInt8)×(List (List UInt8))))) (v85:Int):St:=⟨[(8,.ptr 1 0),(83,.p (.sl false (p0.map Qah))),(84,.p (iV (p0.length:Int))),(85,.p (iV v85))],⟨[[mpD sV (fun x =>.sl false (x.map cStr)) x10],[.mh 0]],[]⟩⟩
noncomputable def Qfo (p0:(List Qac)) (x10:(List ((List UInt8)×(List (List UInt8))))) (y20:Unit):St:=⟨[],⟨[[mpD sV (fun x =>.sl false (x.map cStr)) x10],[.mh 0]],[]⟩⟩
noncomputable def Qfp (p0:(List Qac)) (x10:(List ((List UInt8)×(List (List UInt8))))) (y21:(List UInt8)):St:=⟨[(2,.p (sV y21)),(3,.p (iV 10))],⟨[[mpD sV (fun x =>.sl false (x.map cStr)) x10],[.mh 0]],[]⟩⟩
noncomputable def Qir:Code:=((loopsOf (Try.f13.body.getD .skip)).getD 3 .skip)
noncomputable def Qf6 (y:(List Qab)×Bool):D :=.tup [.p (.sl false (y.1.map Qaa)),.p (bV y.2)]
noncomputable def Qku:List (Nat×List Nat):=[(0,[0,1]),(1,[1,8,9,10]),(2,[1,8,9,10,11]),(3,[1,7,8,9,10]),(4,[1,7,8,9,10,17]),(5,[4,5]),(6,[1,8,9,10]),(7,[4,5]),(1000002,[1,8,9,10])]
noncomputable def Qeo (p0:(List Qac)) (p1:(List UInt8)) (v10:Int):St:=⟨[(1,.p (sV p1)),(8,.p (.sl false (p0.map Qah))),(9,.p (iV (p0.length:Int))),(10,.p (iV v10))],⟨[],[]⟩⟩
noncomputable def Qgc (p0:(List Qac)) (p1:(List UInt8)) (y2:Unit):St:=⟨[],⟨[],[]⟩⟩
noncomputable def Qgd (p0:(List Qac)) (p1:(List UInt8)) (y3:(List Qab)):St:=⟨[(4,.p (.sl false (y3.map Qaa))),(5,.p (bV true))],⟨[],[]⟩⟩
noncomputable def Qjb:Code:=((loopsOf (Try.f6.body.getD .skip)).getD 0 .skip)
noncomputable def Qgr (y:(List (List UInt8))):D :=.p (.sl false (y.map cStr))
noncomputable def Qho:List (Nat×List Nat):=[(0,[0]),(1,[0,4]),(2,[0,17]),(3,[2]),(4,[0,5]),(5,[0,5,6,7]),(6,[5,6,7,20,21,22]),(7,[5,6,7,20,21,22,23]),(8,[5,6,7,9,20,21,22]),(9,[5,6,7,20,21,22]),(10,[5,6,7,20,21,22]),(11,[5,6,7]),(12,[5,6,7,36]),(13,[5,6,7,10]),(14,[5,6,7,10]),(15,[5,6,7]),(16,[2]),(1000007,[5,6,7,20,21,22]),(1000012,[5,6,7]),(5000014,[2003,2004]),(9000009,[4,0,0,0]),(9000011,[1,1,6,0]),(9000012,[1,0,0,0]),(9000015,[4,0,0,0]),(9500013,[])]
noncomputable def Qec (p0:(List Qac)) (x2:(List ((List UInt8)×(List (List UInt8))))) (v6:(List (List UInt8))) (v22:Int):St:=⟨[(5,.ptr 1 0),(6,.x 0 1 (.sl 9 1 (v6.map cStr))),(7,.ptr 2 0),(20,.p (.sl false (p0.map Qah))),(21,.p (iV (p0.length:Int))),(22,.p (iV v22))],⟨[[mpD sV (fun x =>.sl false (x.map cStr)) x2],[.mh 0],[.p (.sl true [])]],[1]⟩⟩
noncomputable def Qfq (p0:(List Qac)) (x2:(List ((List UInt8)×(List (List UInt8))))) (o3:(List (List UInt8))):St:=⟨[(5,.ptr 1 0),(6,.x 0 1 (.sl 9 1 (o3.map cStr))),(7,.ptr 2 0)],⟨[[mpD sV (fun x =>.sl false (x.map cStr)) x2],[.mh 0],[.p (.sl true [])]],[1]⟩⟩
noncomputable def Qis:Code:=((loopsOf (Try.f20.body.getD .skip)).getD 0 .skip)
noncomputable def Qed (x2:(List ((List UInt8)×(List (List UInt8))))) (v6:(List (List UInt8))) (h2_0:(List (List UInt8))):St:=⟨[(5,.ptr 1 0),(6,.x 0 1 (.sl 9 1 (v6.map cStr))),(7,.ptr 2 0)],⟨[[mpD sV (fun x =>.sl false (x.map cStr)) x2],[.mh 0],[.own 1 9 1 (h2_0.map cStr)]],[1,(h2_0.map cStr).length]⟩⟩
noncomputable def Qfr (x2:(List ((List UInt8)×(List (List UInt8))))) (o6:(List (List UInt8))):St:=⟨[(7,.ptr 2 0)],⟨[[mpD sV (fun x =>.sl false (x.map cStr)) x2],[.mh 0],[.own 1 9 1 (o6.map cStr)]],[1,(o6.map cStr).length]⟩⟩
noncomputable def Qit:Code:=((loopsOf (Try.f20.body.getD .skip)).getD 1 .skip)
noncomputable def Qg4 (y:Bool):D :=.p (bV y)
noncomputable def Qjy:List (Nat×List Nat):=[(0,[0,1]),(1,[3])]
noncomputable def Qhx (y:Bool):D :=.p (bV y)
noncomputable def Qkv:List (Nat×List Nat):=[(0,[0,1,2]),(1,[4]),(9000001,[3,0,0,0])]
noncomputable def Qe1 (y:(List (List UInt8))):D :=.p (.sl false (y.map cStr))
noncomputable def Qon:List (Nat×List Nat):=[(0,[0,1]),(1,[0,1,6]),(2,[0,1,15]),(3,[4]),(4,[0,1,8]),(5,[0,1,23]),(6,[4]),(7,[4])]
noncomputable def Qjc (y:(List (List UInt8))):D :=.p (.sl false (y.map cStr))
noncomputable def Qqs:List (Nat×List Nat):=[(0,[0]),(1,[0,3]),(2,[0,3,4]),(3,[0,3,4]),(4,[3]),(5,[3]),(6,[2]),(9000005,[1,3,0,0]),(9000006,[1,0,0,0]),(9500004,[])]
noncomputable def Qhp (_:(List (List UInt8))):D :=.tup []
noncomputable def Qjd:List (Nat×List Nat):=[(0,[1,2,6,7,8]),(1,[1,2,6,7,8,9]),(2,[1,2,5,6,7,8]),(3,[1,2,5,6,7,8,14]),(4,[1,2,5,6,7,8]),(5,[1,2,5,6,7,8]),(6,[1,2,6,7,8]),(7,[1,2,6,7,8]),(1000001,[1,2,6,7,8]),(2003005,[]),(9000004,[4,0,0,0])]
noncomputable def Qlp (p0:(List Qab)) (v8:Int) (x2:Qab) (o3:(List (List UInt8))):St:=⟨[(1,.ptr 0 0),(2,.ptr 1 0),(5,.ptr 2 0),(6,.p (.sl false (p0.map Qaa))),(7,.p (iV (p0.length:Int))),(8,.p (iV v8))],⟨[[.x 0 (o3.length+1) (.sl 9 1 (o3.map cStr))],[.fn (.func 15) [] [.ptr 0 0,.ptr 1 0]],[.p (iV x2.Kind),.p (sV x2.Name),.p (sV x2.Text),.p (iV x2.N),.p (.sl false (x2.L.map Qaa)),.p (.sl false (x2.Then.map Qaa)),.p (.sl false (x2.Else.map Qaa))]],[(o3.length+1)]⟩⟩
noncomputable def Qe2 (p0:(List Qab)) (v8:Int) (h0_0_:(List (List UInt8))):St:=⟨[(1,.ptr 0 0),(2,.ptr 1 0),(6,.p (.sl false (p0.map Qaa))),(7,.p (iV (p0.length:Int))),(8,.p (iV v8))],⟨[[.x 0 (h0_0_.length+1) (.sl 9 1 (h0_0_.map cStr))],[.fn (.func 15) [] [.ptr 0 0,.ptr 1 0]]],[(h0_0_.length+1)]⟩⟩
noncomputable def Qhj (p0:(List Qab)) (o1:(List (List UInt8))):St:=⟨[],⟨[[.x 0 (o1.length+1) (.sl 9 1 (o1.map cStr))],[.fn (.func 15) [] [.ptr 0 0,.ptr 1 0]]],[(o1.length+1)]⟩⟩
noncomputable def Qlq:Code:=((loopsOf (Try.f15.body.getD .skip)).getD 0 .skip)
noncomputable def Qkw (_:(List ((List UInt8)×(List (List UInt8))))):D :=.agg [.mh 0]
noncomputable def Qj4:List (Nat×List Nat):=[(0,[0,2]),(1,[0,2,3]),(2,[2,3,10,11,12]),(3,[2,3,10,11,12,13]),(4,[2,3,5,10,11,12]),(5,[2,3,5,7,10,11,12]),(6,[2,3,5,10,11,12,25]),(7,[2,3,10,11,12]),(8,[2,3,10,11,12]),(9,[2]),(1000003,[2,3,10,11,12]),(9000001,[0,0,0,0]),(9000005,[4,0,0,0]),(9000007,[7,0,0,0]),(9800007,[7]),(7000007,[2,3,10,11,12,27,29,32])]
noncomputable def Qdb (p0:(List Qac)) (v12:Int) (h1_0:(List ((List UInt8)×(List (List UInt8))))):St:=⟨[(2,.ptr 0 0),(3,.ptr 2 0),(10,.p (.sl false (p0.map Qah))),(11,.p (iV (p0.length:Int))),(12,.p (iV v12))],⟨[[.p (.v (.map none))],[mpD sV (fun x =>.sl false (x.map cStr)) h1_0],[.mh 1]],[]⟩⟩
noncomputable def Qfs (p0:(List Qac)) (o1:(List ((List UInt8)×(List (List UInt8))))):St:=⟨[(2,.ptr 0 0),(3,.ptr 2 0)],⟨[[.p (.v (.map none))],[mpD sV (fun x =>.sl false (x.map cStr)) o1],[.mh 1]],[]⟩⟩
noncomputable def Qiu:Code:=((loopsOf (Try.f24.body.getD .skip)).getD 0 .skip)
noncomputable def Qe3 (y:(List (List UInt8))):D :=.p (.sl false (y.map cStr))
noncomputable def Qdk:List (Nat×List Nat):=[(0,[1,2]),(1,[1,2,5]),(2,[2,5,6]),(3,[2,5,6,15,16,17]),(4,[2,5,6,15,16,17,18]),(5,[2,5,6,8,15,16,17]),(6,[2,5,6,15,16,17]),(7,[2,5,6,15,16,17]),(8,[2,5,6,9]),(9,[2,5,6,9,27]),(10,[2,5,6,9]),(11,[2,5,6,9,36,37,38]),(12,[2,5,6,9,36,37,38,39]),(13,[2,5,6,9,11,36,37,38]),(14,[2,5,6,9,11,36,37,38,45]),(15,[2,5,6,9,11,36,37,38]),(16,[2,5,6,9,36,37,38]),(17,[2,5,6,9,36,37,38]),(18,[6]),(19,[4]),(1000004,[2,5,6,15,16,17]),(1000009,[2,5,6,9]),(1000012,[2,5,6,9,36,37,38]),(5000011,[2004,2005,2006]),(9000001,[0,0,0,0]),(9000003,[1,0,0,0]),(9000005,[0,0,0,0,1,0,0,0]),(9000006,[2,0,0,0]),(9000009,[2,0,0,0]),(9000014,[2,0,0,0]),(9000015,[2,0,0,0]),(9000016,[3,0,0,0]),(9000018,[1,1,6,0])]
noncomputable def Qcw (h0_0:(List ((List UInt8)×(List (List UInt8))))) (x1:(List (List UInt8))) (v17:Int) (h2_0:(List ((List UInt8)×Int))):St:=⟨[(2,.ptr 1 0),(5,.mh 2),(6,.x 0 1 (.sl 9 1 (x1.map cStr))),(15,.x 0 1 (.sl 9 1 (x1.map cStr))),(16,.p (iV (x1.length:Int))),(17,.p (iV v17))],⟨[[mpD sV (fun x =>.sl false (x.map cStr)) h0_0],[.mh 0],[mpD sV iV h2_0]],[1]⟩⟩
noncomputable def Qds (h0_0:(List ((List UInt8)×(List (List UInt8))))) (x1:(List (List UInt8))) (o2:(List ((List UInt8)×Int))):St:=⟨[(2,.ptr 1 0),(5,.mh 2),(6,.x 0 1 (.sl 9 1 (x1.map cStr)))],⟨[[mpD sV (fun x =>.sl false (x.map cStr)) h0_0],[.mh 0],[mpD sV iV o2]],[1]⟩⟩
noncomputable def Qf7:Code:=((loopsOf (Try.f26.body.getD .skip)).getD 0 .skip)
noncomputable def Qbv (h0_0:(List ((List UInt8)×(List (List UInt8))))) (v9:Int) (x5:(List UInt8)) (v6_:(List (List UInt8))) (v38:Int) (h2_0_:(List ((List UInt8)×Int))):St:=⟨[(2,.ptr 1 0),(5,.mh 2),(6,.x 0 1 (.sl 9 1 (v6_.map cStr))),(9,.p (iV v9)),(36,.p (.sl false (((mget (fun a b=>a==b) x5 h0_0).getD []).map cStr))),(37,.p (iV (((mget (fun a b=>a==b) x5 h0_0).getD []).length:Int))),(38,.p (iV v38))],⟨[[mpD sV (fun x =>.sl false (x.map cStr)) h0_0],[.mh 0],[mpD sV iV h2_0_]],[1]⟩⟩
noncomputable def Qdt (h0_0:(List ((List UInt8)×(List (List UInt8))))) (v9:Int) (x5:(List UInt8)) (o6:(List (List UInt8))×(List ((List UInt8)×Int))):St:=⟨[(2,.ptr 1 0),(5,.mh 2),(6,.x 0 1 (.sl 9 1 (o6.1.map cStr))),(9,.p (iV v9))],⟨[[mpD sV (fun x =>.sl false (x.map cStr)) h0_0],[.mh 0],[mpD sV iV o6.2]],[1]⟩⟩
noncomputable def Qf8:Code:=((loopsOf (Try.f26.body.getD .skip)).getD 2 .skip)
noncomputable def Qcx (h0_0:(List ((List UInt8)×(List (List UInt8))))) (v6:(List (List UInt8))) (v9:Int) (h2_0:(List ((List UInt8)×Int))):St:=⟨[(2,.ptr 1 0),(5,.mh 2),(6,.x 0 1 (.sl 9 1 (v6.map cStr))),(9,.p (iV v9))],⟨[[mpD sV (fun x =>.sl false (x.map cStr)) h0_0],[.mh 0],[mpD sV iV h2_0]],[1]⟩⟩
noncomputable def Qdu (h0_0:(List ((List UInt8)×(List (List UInt8))))) (o4:(List (List UInt8))×(List ((List UInt8)×Int))):St:=⟨[(6,.x 0 1 (.sl 9 1 (o4.1.map cStr)))],⟨[[mpD sV (fun x =>.sl false (x.map cStr)) h0_0],[.mh 0],[mpD sV iV o4.2]],[1]⟩⟩
noncomputable def Qf9:Code:=((loopsOf (Try.f26.body.getD .skip)).getD 1 .skip)
noncomputable def Qbp (y:Bool):D :=.p (bV y)
noncomputable def Qe4:List (Nat×List Nat):=[(0,[0,1]),(1,[4]),(3000001,[])]
noncomputable def Qeq  (o1:Bool):St:=⟨[(4,.p (bV o1))],⟨[],[]⟩⟩
noncomputable def Qdv (y:Int):D :=.p (iV y)
noncomputable def Qc7 (y:Int):D :=.p (iV y)
noncomputable def Qid (y:(List UInt8)×Bool):D :=.tup [.p (sV y.1),.p (bV y.2)]
noncomputable def Ql8:List (Nat×List Nat):=[(0,[0]),(1,[0,14]),(2,[2,3]),(3,[0,4]),(4,[0,4,17,18]),(5,[0,4,17,18,19]),(6,[0,4,5,17,18]),(7,[0,4,6,17,18]),(8,[0,4,6,17,18,24]),(9,[0,4,17,18]),(10,[0,4,6,17,18,24,29]),(11,[0,4,17,18]),(12,[0,4,6,17,18,24,33]),(13,[0,4,17,18]),(14,[0,4,6,17,18,24,37]),(15,[0,4,6,17,18,37]),(16,[0,4,17,18]),(17,[0,4,17,18]),(18,[2,3]),(1000005,[0,4,17,18]),(2014005,[]),(3000001,[])]
noncomputable def Qoo (p0:(List UInt8)) (o1:Bool):St:=⟨[(0,.p (sV p0)),(14,.p (bV o1))],⟨[],[]⟩⟩
noncomputable def Qop (p0:(List UInt8)) (v4:(List Int)) (v18:Int) (x5:UInt8) (o8:Bool):St:=⟨[(0,.p (sV p0)),(4,.own 0 1000005 1 (v4.map (cNum .u8))),(6,.p (nV .u8 (x5.toNat:Int))),(17,.p (iV (p0.length:Int))),(18,.p (iV v18)),(37,.p (bV o8))],⟨[],[(v4.map (cNum .u8)).length]⟩⟩
noncomputable def Qco (p0:(List UInt8)) (v4:(List Int)) (v18:Int):St:=⟨[(0,.p (sV p0)),(4,.own 0 1000005 1 (v4.map (cNum .u8))),(17,.p (iV (p0.length:Int))),(18,.p (iV v18))],⟨[],[(v4.map (cNum .u8)).length]⟩⟩
noncomputable def Qg5 (p0:(List UInt8)) (o4:(List Int)):St:=⟨[(4,.own 0 1000005 1 (o4.map (cNum .u8)))],⟨[],[(o4.map (cNum .u8)).length]⟩⟩
noncomputable def Qj5:Code:=((loopsOf (Try.f70.body.getD .skip)).getD 0 .skip)
noncomputable def Qgw (y:Bool):D :=.p (bV y)
noncomputable def Qnq:List (Nat×List Nat):=[(0,[0]),(1,[0,5,6]),(2,[0,5,6,7]),(3,[0,3,5,6]),(4,[0,5,6,13]),(5,[2]),(6,[0,5,6]),(7,[2]),(1000002,[0,5,6]),(3000007,[])]
noncomputable def Qfy (p0:(List UInt8)) (v6:Int):St:=⟨[(0,.p (sV p0)),(5,.p (iV (p0.length:Int))),(6,.p (iV v6))],⟨[],[]⟩⟩
noncomputable def Qhq (p0:(List UInt8)) (y2:Unit):St:=⟨[(0,.p (sV p0))],⟨[],[]⟩⟩
noncomputable def Qhr (p0:(List UInt8)) (y3:Unit):St:=⟨[(2,.p (bV false))],⟨[],[]⟩⟩
noncomputable def Qkx:Code:=((loopsOf (Try.f35.body.getD .skip)).getD 0 .skip)
noncomputable def Qqt  (o6:Bool):St:=⟨[(2,.p (bV o6))],⟨[],[]⟩⟩
noncomputable def Qie (y:Bool):D :=.p (bV y)
noncomputable def Qsl:List (Nat×List Nat):=[(0,[0]),(1,[2]),(3000001,[])]
noncomputable def Qoq  (o1:Bool):St:=⟨[(2,.p (bV o1))],⟨[],[]⟩⟩
noncomputable def Qje (y:Bool):D :=.p (bV y)
noncomputable def Qqu:List (Nat×List Nat):=[(0,[0]),(1,[2]),(3000001,[])]
noncomputable def Qnr  (o1:Bool):St:=⟨[(2,.p (bV o1))],⟨[],[]⟩⟩
noncomputable def Qe5 (y:Bool):D :=.p (bV y)
noncomputable def Qex:List (Nat×List Nat):=[(0,[0]),(1,[0,3]),(2,[0,3,4]),(3,[0,3,4,12]),(4,[0,3,4]),(5,[0,3,4]),(6,[3,5,6]),(7,[2]),(1000003,[0,3,4]),(3000007,[])]
noncomputable def Qbo (p0:Int) (v3:(List Qac)) (v4:Int):St:=⟨[(0,.p (nV .u8 p0)),(3,.own 0 31 2 (v3.map Qah)),(4,.p (iV v4))],⟨[],[(v3.map Qah).length]⟩⟩
noncomputable def Qcp (p0:Int) (o1:(List Qac)):St:=⟨[(3,.own 0 31 2 (o1.map Qah))],⟨[],[(o1.map Qah).length]⟩⟩
noncomputable def Qeg:Code:=((loopsOf (Try.f4.body.getD .skip)).getD 0 .skip)
noncomputable def Qhf (o1:(List Qac)) (o5:Bool):St:=⟨[(2,.p (bV o5))],⟨[],[(o1.map Qah).length]⟩⟩
noncomputable def Qdl (y:Bool):D :=.p (bV y)
noncomputable def Qjz:List (Nat×List Nat):=[(0,[]),(1,[1]),(2,[1,2,3]),(3,[0]),(3000003,[])]
noncomputable def Qiz  (o6:Bool):St:=⟨[(0,.p (bV o6))],⟨[],[]⟩⟩
noncomputable def Qck (y:Qab):D :=.p (.agg [iV y.Kind,sV y.Name,sV y.Text,iV y.N,.sl false (y.L.map Qaa),.sl false (y.Then.map Qaa),.sl false (y.Else.map Qaa)])
noncomputable def Qky:List (Nat×List Nat):=[(0,[0,2]),(1,[2])]
noncomputable def Qca (y:(List (List UInt8))):D :=.x 0 1 (.sl 9 1 (y.map cStr))
noncomputable def Qge:List (Nat×List Nat):=[(0,[0]),(1,[0,4]),(2,[2]),(3,[2]),(9000001,[1,0,0,0]),(9000003,[2,0,0,0])]
noncomputable def Qbe (y:Bool):D :=.p (bV y)
noncomputable def Qcl:List (Nat×List Nat):=[(0,[0,1]),(1,[4])]
noncomputable def Qa9 (y:Bool):D :=.p (bV y)
noncomputable def Qb6:List (Nat×List Nat):=[(0,[0,1]),(1,[4])]
noncomputable def Qbi (y:Bool):D :=.p (bV y)
noncomputable def Qfd:List (Nat×List Nat):=[(0,[0,1]),(1,[4])]
noncomputable def Qa2 (y:Int):D :=.p (iV y)
noncomputable def Qbj:List (Nat×List Nat):=[(0,[0,1]),(1,[0,1,7,8]),(2,[0,1,7,8,9]),(3,[0,1,5,7,8]),(4,[0,1,5,7,8,16]),(5,[4]),(6,[0,1,7,8]),(7,[4]),(1000002,[0,1,7,8])]
noncomputable def Qav (p0:(List Qab)) (v8:Int):St:=⟨[(0,.p (.sl false (p0.map Qaa))),(1,.fn (.func 72) [] []),(7,.p (iV (p0.length:Int))),(8,.p (iV v8))],⟨[],[]⟩⟩
noncomputable def Qbb (p0:(List Qab)) (y2:Unit):St:=⟨[],⟨[],[]⟩⟩
noncomputable def Qbc (p0:(List Qab)) (y3:Int):St:=⟨[(4,.p (iV y3))],⟨[],[]⟩⟩
noncomputable def Qcq:Code:=((loopsOf (Try.f76.body.getD .skip)).getD 0 .skip)
noncomputable def Qa0 (y:Int):D :=.p (iV y)
noncomputable def Qbf:List (Nat×List Nat):=[(0,[0,1]),(1,[0,1,7,8]),(2,[0,1,7,8,9]),(3,[0,1,5,7,8]),(4,[0,1,5,7,8,16]),(5,[4]),(6,[0,1,7,8]),(7,[4]),(1000002,[0,1,7,8])]
noncomputable def Qal (p0:(List (List UInt8))) (h0_0:(List (List UInt8))) (v8:Int):St:=⟨[(0,.p (.sl false (p0.map cStr))),(1,.fn (.func 33) [] [.ptr 0 0]),(7,.p (iV (p0.length:Int))),(8,.p (iV v8))],⟨[[.own 0 9 1 (h0_0.map cStr)]],[(h0_0.map cStr).length]⟩⟩
noncomputable def Qat (p0:(List (List UInt8))) (h0_0:(List (List UInt8))) (y2:Unit):St:=⟨[],⟨[[.own 0 9 1 (h0_0.map cStr)]],[(h0_0.map cStr).length]⟩⟩
noncomputable def Qau (p0:(List (List UInt8))) (h0_0:(List (List UInt8))) (y3:Int):St:=⟨[(4,.p (iV y3))],⟨[[.own 0 9 1 (h0_0.map cStr)]],[(h0_0.map cStr).length]⟩⟩
noncomputable def Qba:Code:=((loopsOf (Try.f30.body.getD .skip)).getD 0 .skip)
noncomputable def Qa3 (y:Int):D :=.p (iV y)
noncomputable def Qbk:List (Nat×List Nat):=[(0,[0,1]),(1,[0,1,7,8]),(2,[0,1,7,8,9]),(3,[0,1,5,7,8]),(4,[0,1,5,7,8,16]),(5,[4]),(6,[0,1,7,8]),(7,[4]),(1000002,[0,1,7,8]),(9000001,[1,0,0,0]),(9000004,[3,0,0,0,4,0,0,0])]
noncomputable def Qam (p0:(List (List UInt8))) (h1_0:(List (List UInt8))) (h2_0:(List ((List UInt8)×(List (List UInt8))))) (v8:Int):St:=⟨[(0,.x 0 (p0.length+1) (.sl 9 1 (p0.map cStr))),(1,.fn (.func 31) [] [.ptr 0 0,.ptr 1 0]),(7,.p (iV (p0.length:Int))),(8,.p (iV v8))],⟨[[.mh 2],[.own 1 9 1 (h1_0.map cStr)],[mpD sV (fun x =>.sl false (x.map cStr)) h2_0]],[(p0.length+1),(h1_0.map cStr).length]⟩⟩
noncomputable def Qaw (p0:(List (List UInt8))) (h1_0:(List (List UInt8))) (h2_0:(List ((List UInt8)×(List (List UInt8))))) (y2:Unit):St:=⟨[],⟨[[.mh 2],[.own 1 9 1 (h1_0.map cStr)],[mpD sV (fun x =>.sl false (x.map cStr)) h2_0]],[(p0.length+1),(h1_0.map cStr).length]⟩⟩
noncomputable def Qax (p0:(List (List UInt8))) (h1_0:(List (List UInt8))) (h2_0:(List ((List UInt8)×(List (List UInt8))))) (y3:Int):St:=⟨[(4,.p (iV y3))],⟨[[.mh 2],[.own 1 9 1 (h1_0.map cStr)],[mpD sV (fun x =>.sl false (x.map cStr)) h2_0]],[(p0.length+1),(h1_0.map cStr).length]⟩⟩
noncomputable def Qbg:Code:=((loopsOf (Try.f30.body.getD .skip)).getD 0 .skip)
noncomputable def Qbn (y:Int):D :=.p (iV y)
noncomputable def Qdn:List (Nat×List Nat):=[(0,[0,1]),(1,[0,1,7,8]),(2,[0,1,7,8,9]),(3,[0,1,5,7,8]),(4,[0,1,5,7,8,16]),(5,[4]),(6,[0,1,7,8]),(7,[4]),(1000002,[0,1,7,8])]
noncomputable def Qbd (p0:(List (List UInt8))) (p1:(List UInt8)) (v8:Int):St:=⟨[(0,.p (.sl false (p0.map cStr))),(1,.p (sV p1)),(7,.p (iV (p0.length:Int))),(8,.p (iV v8))],⟨[],[]⟩⟩
noncomputable def Qbq (p0:(List (List UInt8))) (p1:(List UInt8)) (y2:Unit):St:=⟨[],⟨[],[]⟩⟩
noncomputable def Qbr (p0:(List (List UInt8))) (p1:(List UInt8)) (y3:Int):St:=⟨[(4,.p (iV y3))],⟨[],[]⟩⟩
noncomputable def Qdc:Code:=((loopsOf (Try.f39.body.getD .skip)).getD 0 .skip)
noncomputable def Qe6 (y:Bool):D :=.p (bV y)
noncomputable def Qka:List (Nat×List Nat):=[(0,[0,1]),(1,[4])]
noncomputable def Qbw (y:Bool):D :=.p (bV y)
noncomputable def Qj0:List (Nat×List Nat):=[(0,[0,1]),(1,[4])]
noncomputable def Qg6 (y:Int):D :=.p (iV y)
noncomputable def Qmg:List (Nat×List Nat):=[(0,[0,1]),(1,[4])]
noncomputable def Qer (y:Int):D :=.p (iV y)
noncomputable def Qj1:List (Nat×List Nat):=[(0,[0,1]),(1,[4])]
noncomputable def Qjf (y:Int):D :=.p (iV y)
noncomputable def Qif:List (Nat×List Nat):=[(0,[0]),(1,[0,3]),(2,[3,5]),(3,[3,5]),(4,[2]),(4000003,[3,5])]
noncomputable def Qcz (x1:(List Qab)×Int) (h0_0:Int):St:=⟨[(3,.ptr 0 0),(5,.fn (.func 63) [] [.p (.ep [.sl false (x1.1.map Qaa)]),.p (.ep [iV x1.2])])],⟨[[.p (iV h0_0)]],[]⟩⟩
noncomputable def Qgf (x1:(List Qab)×Int) (o6:Int):St:=⟨[(3,.ptr 0 0),(5,.fn (.func 63) [] [.p (.ep [.sl false (x1.1.map Qaa)]),.p (.ep [iV x1.2])])],⟨[[.p (iV o6)]],[]⟩⟩
noncomputable def Qdd:Code:=((loopsOf (Try.f37.body.getD .skip)).getD 0 .skip)
noncomputable def Qkb (y:Int):D :=.p (iV y)
noncomputable def Qjg:List (Nat×List Nat):=[(0,[0,5]),(1,[0,3,5]),(2,[3,5,7]),(3,[3,5,7]),(4,[3,5,7]),(5,[2]),(4000003,[3,5,7])]
noncomputable def Qde (x1:(List Qab)×Int) (h0_0:Int):St:=⟨[(3,.ptr 0 0),(7,.fn (.func 63) [] [.p (.ep [.sl false (x1.1.map Qaa)]),.p (.ep [iV x1.2])])],⟨[[.p (iV h0_0)]],[]⟩⟩
noncomputable def Qg7 (x1:(List Qab)×Int) (o6:Int):St:=⟨[(3,.ptr 0 0),(7,.fn (.func 63) [] [.p (.ep [.sl false (x1.1.map Qaa)]),.p (.ep [iV x1.2])])],⟨[[.p (iV o6)]],[]⟩⟩
noncomputable def Qdp:Code:=((loopsOf (Try.f36.body.getD .skip)).getD 0 .skip)
noncomputable def Qns (y:Bool):D :=.p (bV y)
noncomputable def Qvt:List (Nat×List Nat):=[(0,[0]),(1,[2]),(3000001,[])]
noncomputable def Qsm  (o1:Bool):St:=⟨[(2,.p (bV o1))],⟨[],[]⟩⟩
noncomputable def Qdy (y:Bool):D :=.p (bV y)
noncomputable def Qsn:List (Nat×List Nat):=[(0,[0]),(1,[0,3]),(2,[0,3,4]),(3,[0,3,4]),(4,[0,3,4]),(5,[0,3,4]),(6,[0,3,4]),(7,[0,3,4]),(8,[0,3,4]),(9,[0,3,4]),(10,[0,3,4]),(11,[0,4]),(12,[2]),(13,[2]),(2002037,[])]
noncomputable def Qor (p0:(List UInt8)) (o1:Bool):St:=⟨[(0,.p (sV p0)),(4,.p (bV o1))],⟨[],[]⟩⟩
noncomputable def Qhy (y:(List Qab)×Int):D :=.fn (.func 63) [] [.p (.ep [.sl false (y.1.map Qaa)]),.p (.ep [iV y.2])]
noncomputable def Qtw:List (Nat×List Nat):=[(0,[2,3]),(1,[4])]
noncomputable def Qa5 (y:(Qab×Int)):List V:=[.agg [iV y.1.Kind,sV y.1.Name,sV y.1.Text,iV y.1.N,.sl false (y.1.L.map Qaa),.sl false (y.1.Then.map Qaa),.sl false (y.1.Else.map Qaa)],iV y.2]
noncomputable def Qe7:List (Nat×List Nat):=[(0,[1,2,3,8,9]),(1,[2,3,8,9,10,11,12]),(2,[2,3,8,9,10,11,12,13]),(3,[2,3,5,8,9,10,11,12]),(4,[2,3,5,8,9,10,11,12,20]),(5,[2,3,8,9,10,11,12,27,28]),(6,[2,3,8,9,10,11,12,27,28,29]),(7,[2,3,7,8,9,10,11,12,27,28]),(8,[2,3,8,9,10,11,12,27,28,34]),(9,[2,3,8,10,11,12,27,28,34,36]),(10,[2,3,8,9,10,11,12,27,28,34]),(11,[2,3,8,9,10,11,12,27,28,34,41]),(12,[2,3,8,9,10,11,12,27,28]),(13,[2,3,8,9,10,11,12]),(1000002,[2,3,8,9,10,11,12]),(1000006,[2,3,8,9,10,11,12,27,28]),(4000009,[2,3,8,9,10,11,12,27,28,34])]
noncomputable def Qc0 (p0:(List Qab)) (p1:Int) (v12:Int) (x3:Qab) (v28:Int) (x7:(List Qab)×Int) (gxs gp:List (List V)):St:=⟨[(2,.p (.ep [iV p1])),(3,.ptr 0 0),(10,.p (.sl false (p0.map Qaa))),(11,.p (iV (p0.length:Int))),(12,.p (iV v12)),(27,.p (.agg [.sl false (x3.L.map Qaa),.sl false (x3.Then.map Qaa),.sl false (x3.Else.map Qaa)])),(28,.p (iV v28)),(34,.fn (.func 63) [] [.p (.ep [.sl false (x7.1.map Qaa)]),.p (.ep [iV x7.2])])],⟨[[.yld Try.prog 0 gxs],[.p (iV x3.Kind),.p (sV x3.Name),.p (sV x3.Text),.p (iV x3.N),.p (.sl false (x3.L.map Qaa)),.p (.sl false (x3.Then.map Qaa)),.p (.sl false (x3.Else.map Qaa))]],[gp.length]⟩⟩
noncomputable def Qgg (p0:(List Qab)) (p1:Int) (v12:Int) (x3:Qab) (v28:Int) (x7:(List Qab)×Int) (gxs:List (List V)) (gq12:List (List V)) (oy:Unit):St:=⟨[(2,.p (.ep [iV p1])),(3,.ptr 0 0),(10,.p (.sl false (p0.map Qaa))),(11,.p (iV (p0.length:Int))),(12,.p (iV v12)),(27,.p (.agg [.sl false (x3.L.map Qaa),.sl false (x3.Then.map Qaa),.sl false (x3.Else.map Qaa)])),(28,.p (iV v28)),(34,.fn (.func 63) [] [.p (.ep [.sl false (x7.1.map Qaa)]),.p (.ep [iV x7.2])])],⟨[[.yld Try.prog 0 gxs],[.p (iV x3.Kind),.p (sV x3.Name),.p (sV x3.Text),.p (iV x3.N),.p (.sl false (x3.L.map Qaa)),.p (.sl false (x3.Then.map Qaa)),.p (.sl false (x3.Else.map Qaa))]],[gq12.length]⟩⟩
noncomputable def Qdf:Code:=((loopsOf (Try.f63.body.getD .skip)).getD 2 .skip)
noncomputable def Qgh (p0:(List Qab)) (p1:Int) (v12:Int) (x3:Qab) (v28:Int) (gxs gp:List (List V)):St:=⟨[(2,.p (.ep [iV p1])),(3,.ptr 0 0),(10,.p (.sl false (p0.map Qaa))),(11,.p (iV (p0.length:Int))),(12,.p (iV v12)),(27,.p (.agg [.sl false (x3.L.map Qaa),.sl false (x3.Then.map Qaa),.sl false (x3.Else.map Qaa)])),(28,.p (iV v28))],⟨[[.yld Try.prog 0 gxs],[.p (iV x3.Kind),.p (sV x3.Name),.p (sV x3.Text),.p (iV x3.N),.p (.sl false (x3.L.map Qaa)),.p (.sl false (x3.Then.map Qaa)),.p (.sl false (x3.Else.map Qaa))]],[gp.length]⟩⟩
noncomputable def Qiv (p0:(List Qab)) (p1:Int) (v12:Int) (x3:Qab) (gxs:List (List V)) (gq4:List (List V)) (oy:Unit):St:=⟨[(2,.p (.ep [iV p1])),(3,.ptr 0 0),(10,.p (.sl false (p0.map Qaa))),(11,.p (iV (p0.length:Int))),(12,.p (iV v12))],⟨[[.yld Try.prog 0 gxs],[.p (iV x3.Kind),.p (sV x3.Name),.p (sV x3.Text),.p (iV x3.N),.p (.sl false (x3.L.map Qaa)),.p (.sl false (x3.Then.map Qaa)),.p (.sl false (x3.Else.map Qaa))]],[gq4.length]⟩⟩
noncomputable def Qnt:Code:=((loopsOf (Try.f63.body.getD .skip)).getD 1 .skip)
noncomputable def Qgi (p0:(List Qab)) (p1:Int) (v12:Int) (gxs gp:List (List V)):St:=⟨[(2,.p (.ep [iV p1])),(3,.ptr 0 0),(10,.p (.sl false (p0.map Qaa))),(11,.p (iV (p0.length:Int))),(12,.p (iV v12))],⟨[[.yld Try.prog 0 gxs]],[gp.length]⟩⟩
noncomputable def Qiw (p0:(List Qab)) (p1:Int) (gxs:List (List V)) (gq1:List (List V)) (oy:Unit):St:=⟨[],⟨[[.yld Try.prog 0 gxs]],[gq1.length]⟩⟩
noncomputable def Qnu:Code:=((loopsOf (Try.f63.body.getD .skip)).getD 0 .skip)
noncomputable def Qdz (y:Bool):D :=.p (bV y)
noncomputable def Qkz:List (Nat×List Nat):=[(0,[0,1]),(1,[0,1,8,9,10]),(2,[0,1,8,9,10,11]),(3,[0,1,5,6,8,9,10]),(4,[0,1,5,6,8,9,10,17]),(5,[4]),(6,[0,1,5,6,7,8,9,10]),(7,[0,1,8,9,10,50]),(8,[4]),(9,[0,1,8,9,10]),(10,[4]),(1000002,[0,1,8,9,10]),(3000007,[])]
noncomputable def Qnv (p0:(List Qab)) (p1:Bool) (v10:Int) (x4:Qab) (o6:Bool):St:=⟨[(0,.p (.sl false (p0.map Qaa))),(1,.p (bV p1)),(8,.p (.sl false (p0.map Qaa))),(9,.p (iV (p0.length:Int))),(10,.p (iV v10)),(50,.p (bV o6))],⟨[[.p (iV x4.Kind),.p (sV x4.Name),.p (sV x4.Text),.p (iV x4.N),.p (.sl false (x4.L.map Qaa)),.p (.sl false (x4.Then.map Qaa)),.p (.sl false (x4.Else.map Qaa))]],[]⟩⟩
noncomputable def Qgj (p0:(List Qab)) (p1:Bool) (v10:Int):St:=⟨[(0,.p (.sl false (p0.map Qaa))),(1,.p (bV p1)),(8,.p (.sl false (p0.map Qaa))),(9,.p (iV (p0.length:Int))),(10,.p (iV v10))],⟨[],[]⟩⟩
noncomputable def Qix (p0:(List Qab)) (p1:Bool) (y2:Unit):St:=⟨[],⟨[],[]⟩⟩
noncomputable def Qiy (p0:(List Qab)) (p1:Bool) (y3:Unit):St:=⟨[(4,.p (bV false))],⟨[],[]⟩⟩
noncomputable def Qnw:Code:=((loopsOf (Try.f38.body.getD .skip)).getD 0 .skip)
noncomputable def Qbx (y:Bool):D :=.p (bV y)
noncomputable def Qso:List (Nat×List Nat):=[(0,[1]),(1,[1,3]),(2,[1,3,4]),(3,[1,3,4,11]),(4,[1,3,4,11,12]),(5,[3,6]),(6,[2]),(7,[1,3,4,11,28]),(8,[2]),(9,[1,3,4,11,35]),(10,[2]),(11,[1,3,4,11,48]),(12,[2]),(13,[1,3,4,11,58]),(14,[2]),(15,[1,3,4,11,68]),(16,[1,3,4]),(17,[2]),(18,[1,3,4,86]),(19,[1,3,4]),(20,[2]),(21,[2]),(3000006,[]),(3000010,[]),(3000012,[]),(3000014,[]),(3000017,[]),(3000020,[])]
noncomputable def Qos (p0:Qab) (x1:Qb5) (o3:Bool):St:=⟨[(2,.p (bV o3))],⟨[[.p (iV p0.Kind),.p (sV p0.Name),.p (sV p0.Text),.p (iV p0.N),.p (.sl false (p0.L.map Qaa)),.p (.sl false (p0.Then.map Qaa)),.p (.sl false (p0.Else.map Qaa))],[.p (bV x1.name_),.p (bV x1.text_),.p (bV x1.num_),.p (bV x1.then_),.p (bV x1.other_),.p (iV x1.l_)],[.p (bV true),.p (bV false),.p (bV false),.p (bV false),.p (bV false),.p (iV 0)]],[]⟩⟩
noncomputable def Qot (p0:Qab) (x1:Qb5) (o4:Bool):St:=⟨[(2,.p (bV o4))],⟨[[.p (iV p0.Kind),.p (sV p0.Name),.p (sV p0.Text),.p (iV p0.N),.p (.sl false (p0.L.map Qaa)),.p (.sl false (p0.Then.map Qaa)),.p (.sl false (p0.Else.map Qaa))],[.p (bV x1.name_),.p (bV x1.text_),.p (bV x1.num_),.p (bV x1.then_),.p (bV x1.other_),.p (iV x1.l_)],[.p (bV true),.p (bV false),.p (bV false),.p (bV false),.p (bV false),.p (iV 0)]],[]⟩⟩
noncomputable def Qou (p0:Qab) (x1:Qb5) (o5:Bool):St:=⟨[(2,.p (bV o5))],⟨[[.p (iV p0.Kind),.p (sV p0.Name),.p (sV p0.Text),.p (iV p0.N),.p (.sl false (p0.L.map Qaa)),.p (.sl false (p0.Then.map Qaa)),.p (.sl false (p0.Else.map Qaa))],[.p (bV x1.name_),.p (bV x1.text_),.p (bV x1.num_),.p (bV x1.then_),.p (bV x1.other_),.p (iV x1.l_)],[.p (bV true),.p (bV false),.p (bV false),.p (bV false),.p (bV false),.p (iV 0)]],[]⟩⟩
noncomputable def Qov (p0:Qab) (x1:Qb5) (o7:Bool):St:=⟨[(2,.p (bV o7))],⟨[[.p (iV p0.Kind),.p (sV p0.Name),.p (sV p0.Text),.p (iV p0.N),.p (.sl false (p0.L.map Qaa)),.p (.sl false (p0.Then.map Qaa)),.p (.sl false (p0.Else.map Qaa))],[.p (bV x1.name_),.p (bV x1.text_),.p (bV x1.num_),.p (bV x1.then_),.p (bV x1.other_),.p (iV x1.l_)],[.p (bV true),.p (bV false),.p (bV false),.p (bV false),.p (bV false),.p (iV 0)]],[]⟩⟩
noncomputable def Qow (p0:Qab) (x1:Qb5) (o9:Bool):St:=⟨[(2,.p (bV o9))],⟨[[.p (iV p0.Kind),.p (sV p0.Name),.p (sV p0.Text),.p (iV p0.N),.p (.sl false (p0.L.map Qaa)),.p (.sl false (p0.Then.map Qaa)),.p (.sl false (p0.Else.map Qaa))],[.p (bV x1.name_),.p (bV x1.text_),.p (bV x1.num_),.p (bV x1.then_),.p (bV x1.other_),.p (iV x1.l_)],[.p (bV true),.p (bV false),.p (bV false),.p (bV false),.p (bV false),.p (iV 1)]],[]⟩⟩
noncomputable def Qox (p0:Qab) (x1:Qb5) (o13:Bool):St:=⟨[(2,.p (bV o13))],⟨[[.p (iV p0.Kind),.p (sV p0.Name),.p (sV p0.Text),.p (iV p0.N),.p (.sl false (p0.L.map Qaa)),.p (.sl false (p0.Then.map Qaa)),.p (.sl false (p0.Else.map Qaa))],[.p (bV x1.name_),.p (bV x1.text_),.p (bV x1.num_),.p (bV x1.then_),.p (bV x1.other_),.p (iV x1.l_)],[.p (bV true),.p (bV false),.p (bV false),.p (bV false),.p (bV false),.p (iV (if 3<x1.l_ then 3 else x1.l_))]],[]⟩⟩
noncomputable def Qig (y:Bool):D :=.p (bV y)
noncomputable def Qoy:List (Nat×List Nat):=[(0,[1]),(1,[2])]
noncomputable def Qfz (y:Qb5):D :=.p (.agg [bV y.name_,bV y.text_,bV y.num_,bV y.then_,bV y.other_,iV y.l_])
noncomputable def Qnx:List (Nat×List Nat):=[(0,[1,2]),(1,[2])]
noncomputable def Qih (y:Bool):D :=.p (bV y)
noncomputable def Qsp:List (Nat×List Nat):=[(0,[1]),(1,[1,3]),(2,[1,3,4]),(3,[1,3,4,10]),(4,[2]),(5,[1,3,4,10,11]),(6,[2]),(7,[1,3,4,10,22]),(8,[1,3,4,10,24]),(9,[1,3,4]),(10,[1,3,4,10,32]),(11,[1,3,4,10,32]),(12,[1,3,4]),(13,[1,3,4,42]),(14,[1,3,4]),(15,[1,3,4,5]),(16,[2]),(2003032,[]),(2010005,[]),(3000006,[]),(3000015,[]),(3000016,[]),(5000009,[1005,1007]),(5000012,[1006,1008]),(8000009,[2]),(8000012,[2])]
noncomputable def Qoz (p0:Qab) (x1:Qb5) (y3:Bool×Bool×Bool):St:=⟨[(1,.ptr 0 0),(3,.ptr 1 0),(4,.ptr 2 0)],⟨[[.p (iV p0.Kind),.p (sV p0.Name),.p (sV p0.Text),.p (iV p0.N),.p (.sl false (p0.L.map Qaa)),.p (.sl false (p0.Then.map Qaa)),.p (.sl false (p0.Else.map Qaa))],[.p (bV x1.name_),.p (bV x1.text_),.p (bV x1.num_),.p (bV x1.then_),.p (bV x1.other_),.p (iV x1.l_)],[.p (bV y3.1),.p (bV false),.p (bV false),.p (bV y3.2.1),.p (bV y3.2.2),.p (iV 1)]],[]⟩⟩
noncomputable def Qo0 (p0:Qab) (x1:Qb5) (y4:Bool):St:=⟨[(2,.p (bV y4))],⟨[[.p (iV p0.Kind),.p (sV p0.Name),.p (sV p0.Text),.p (iV p0.N),.p (.sl false (p0.L.map Qaa)),.p (.sl false (p0.Then.map Qaa)),.p (.sl false (p0.Else.map Qaa))],[.p (bV x1.name_),.p (bV x1.text_),.p (bV x1.num_),.p (bV x1.then_),.p (bV x1.other_),.p (iV x1.l_)],[.p (bV false),.p (bV false),.p (bV false),.p (bV false),.p (bV false),.p (iV 1)]],[]⟩⟩
noncomputable def Qo1 (p0:Qab) (x1:Qb5) (o5:Bool):St:=⟨[(2,.p (bV o5))],⟨[[.p (iV p0.Kind),.p (sV p0.Name),.p (sV p0.Text),.p (iV p0.N),.p (.sl false (p0.L.map Qaa)),.p (.sl false (p0.Then.map Qaa)),.p (.sl false (p0.Else.map Qaa))],[.p (bV x1.name_),.p (bV x1.text_),.p (bV x1.num_),.p (bV x1.then_),.p (bV x1.other_),.p (iV x1.l_)],[.p (bV false),.p (bV false),.p (bV false),.p (bV false),.p (bV false),.p (iV 1)]],[]⟩⟩
noncomputable def Qo2 (p0:Qab) (x1:Qb5) (o7:Bool):St:=⟨[(1,.ptr 0 0),(3,.ptr 1 0),(4,.ptr 2 0),(10,.p (iV p0.Kind)),(32,.p (bV o7))],⟨[[.p (iV p0.Kind),.p (sV p0.Name),.p (sV p0.Text),.p (iV p0.N),.p (.sl false (p0.L.map Qaa)),.p (.sl false (p0.Then.map Qaa)),.p (.sl false (p0.Else.map Qaa))],[.p (bV x1.name_),.p (bV x1.text_),.p (bV x1.num_),.p (bV x1.then_),.p (bV x1.other_),.p (iV x1.l_)],[.p (bV false),.p (bV false),.p (bV false),.p (bV false),.p (bV false),.p (iV 1)]],[]⟩⟩
noncomputable def Qo3 (p0:Qab) (x1:Qb5) (y3:Bool×Bool×Bool) (o10:Bool):St:=⟨[(1,.ptr 0 0),(3,.ptr 1 0),(4,.ptr 2 0),(5,.p (bV o10))],⟨[[.p (iV p0.Kind),.p (sV p0.Name),.p (sV p0.Text),.p (iV p0.N),.p (.sl false (p0.L.map Qaa)),.p (.sl false (p0.Then.map Qaa)),.p (.sl false (p0.Else.map Qaa))],[.p (bV x1.name_),.p (bV x1.text_),.p (bV x1.num_),.p (bV x1.then_),.p (bV x1.other_),.p (iV x1.l_)],[.p (bV y3.1),.p (bV false),.p (bV false),.p (bV y3.2.1),.p (bV y3.2.2),.p (iV 1)]],[]⟩⟩
noncomputable def Qo4 (p0:Qab) (x1:Qb5) (y3:Bool×Bool×Bool) (o11:Bool):St:=⟨[(2,.p (bV o11))],⟨[[.p (iV p0.Kind),.p (sV p0.Name),.p (sV p0.Text),.p (iV p0.N),.p (.sl false (p0.L.map Qaa)),.p (.sl false (p0.Then.map Qaa)),.p (.sl false (p0.Else.map Qaa))],[.p (bV x1.name_),.p (bV x1.text_),.p (bV x1.num_),.p (bV x1.then_),.p (bV x1.other_),.p (iV x1.l_)],[.p (bV y3.1),.p (bV false),.p (bV false),.p (bV y3.2.1),.p (bV y3.2.2),.p (iV 1)]],[]⟩⟩
noncomputable def Qm0 (y:Bool):D :=.p (bV y)
noncomputable def Qny:List (Nat×List Nat):=[(0,[0,2,3,4]),(1,[2,3,4,6]),(2,[2,3,6,8]),(3,[2,3,4,6]),(4,[2,3,4,6,14]),(5,[2]),(6,[2]),(4000002,[2,3,4,6]),(3000004,[])]
noncomputable def Qtx (x1:(List UInt8)) (x2:(Int×Int)) (o9:Bool):St:=⟨[(2,.ptr 0 0),(3,.p (nV .i32 x2.1)),(4,.p (iV x2.2)),(6,.fn (.func 84) [] [.p (.ep [sV x1])]),(14,.p (bV o9))],⟨[[.p (bV false)]],[]⟩⟩
noncomputable def Qey (x1:(List UInt8)):St:=⟨[(2,.ptr 0 0),(6,.fn (.func 84) [] [.p (.ep [sV x1])])],⟨[[.p (bV false)]],[]⟩⟩
noncomputable def Qjh (x1:(List UInt8)) (y7:Unit):St:=⟨[(2,.ptr 0 0),(6,.fn (.func 84) [] [.p (.ep [sV x1])])],⟨[[.p (bV false)]],[]⟩⟩
noncomputable def Qji (x1:(List UInt8)) (y8:Unit):St:=⟨[(2,.ptr 0 0)],⟨[[.p (bV false)]],[]⟩⟩
noncomputable def Qft:Code:=((loopsOf (Try.f74.body.getD .skip)).getD 0 .skip)
noncomputable def Qgx (y:Int×Int):D :=.tup [.p (nV .i32 y.1),.p (iV y.2)]
noncomputable def Qty:List (Nat×List Nat):=[(0,[0,1]),(1,[0,1,17]),(2,[4,5]),(3,[0,1,6]),(4,[4,5]),(5,[0,1,6,21]),(6,[4,5]),(7,[0,1,6,26]),(8,[0,1,4,7,8]),(9,[0,1,6,36]),(10,[0,1,4,7,8]),(11,[0,1,6,46]),(12,[0,1,4,7,8]),(13,[4,7,8,9]),(14,[4,8,77]),(15,[4,5]),(16,[4,5]),(2004022,[]),(3000001,[]),(3000007,[]),(3000009,[]),(3000011,[]),(3000014,[])]
noncomputable def Qqv (p0:(List UInt8)) (p1:Int) (o1:Bool):St:=⟨[(0,.p (sV p0)),(1,.p (iV p1)),(17,.p (bV o1))],⟨[],[]⟩⟩
noncomputable def Qqw (p0:(List UInt8)) (p1:Int) (y4:Int×Int×Int):St:=⟨[(0,.p (sV p0)),(1,.p (iV p1)),(4,.p (nV .i32 y4.1)),(7,.p (nV .i32 y4.2.1)),(8,.p (iV y4.2.2))],⟨[],[]⟩⟩
noncomputable def Qqx (p0:(List UInt8)) (p1:Int) (y5:Int):St:=⟨[(4,.p (nV .i32 y5)),(5,.p (iV 1))],⟨[],[]⟩⟩
noncomputable def Qqy (p0:(List UInt8)) (p1:Int) (x2:UInt8) (o6:Bool):St:=⟨[(0,.p (sV p0)),(1,.p (iV p1)),(6,.p (nV .u8 (x2.toNat:Int))),(26,.p (bV o6))],⟨[],[]⟩⟩
noncomputable def Qqz (p0:(List UInt8)) (p1:Int) (x2:UInt8) (o7:Bool):St:=⟨[(0,.p (sV p0)),(1,.p (iV p1)),(6,.p (nV .u8 (x2.toNat:Int))),(36,.p (bV o7))],⟨[],[]⟩⟩
noncomputable def Qq0 (p0:(List UInt8)) (p1:Int) (x2:UInt8) (o8:Bool):St:=⟨[(0,.p (sV p0)),(1,.p (iV p1)),(6,.p (nV .u8 (x2.toNat:Int))),(46,.p (bV o8))],⟨[],[]⟩⟩
noncomputable def Qq1 (y4:Int×Int×Int) (x10:Int×Bool) (o11:Bool):St:=⟨[(4,.p (nV .i32 x10.1)),(8,.p (iV y4.2.2)),(77,.p (bV o11))],⟨[],[]⟩⟩
noncomputable def Qnz (y:(List UInt8)):D :=.fn (.func 84) [] [.p (.ep [sV y])]
noncomputable def Qvu:List (Nat×List Nat):=[(0,[1]),(1,[2])]
noncomputable def Qd0 (y:(Int×Int)):List V:=[nV .i32 y.1,iV y.2]
noncomputable def Ql9:List (Nat×List Nat):=[(0,[0,1,3]),(1,[0,1,3,9]),(2,[0,1,3,4,5]),(3,[0,1,3,5,20]),(4,[0,1,3]),(1000001,[0,1,3])]
noncomputable def Qe8 (p0:(List UInt8)) (v3:Int) (gxs gp:List (List V)):St:=⟨[(0,.yld Try.prog 0 gxs),(1,.p (.ep [sV p0])),(3,.p (iV v3))],⟨[],[gp.length]⟩⟩
noncomputable def Qg8 (p0:(List UInt8)) (gxs:List (List V)) (gq1:List (List V)) (oy:Unit):St:=⟨[],⟨[],[gq1.length]⟩⟩
noncomputable def Qj6:Code:=((loopsOf (Try.f84.body.getD .skip)).getD 0 .skip)
noncomputable def Qq2 (y:Bool):D :=.p (bV y)
noncomputable def Qw5:List (Nat×List Nat):=[(0,[0]),(1,[2]),(3000001,[])]
noncomputable def Qtz  (o1:Bool):St:=⟨[(2,.p (bV o1))],⟨[],[]⟩⟩
noncomputable def Qhz (y:Int×Bool):D :=.tup [.p (nV .i32 y.1),.p (bV y.2)]
noncomputable def Qn0:List (Nat×List Nat):=[(0,[0,1,2]),(1,[0,1,2,12]),(2,[6,7]),(3,[0,1,13,14]),(4,[0,1,13,14,15]),(5,[0,1,8,13,14]),(6,[0,1,8,13,14,21]),(7,[6,7]),(8,[0,1,13,14]),(9,[0,1,13,14]),(10,[6,7]),(1000004,[0,1,13,14])]
noncomputable def Qf0 (p0:(List UInt8)) (p2:Int) (v1:Int) (v14:Int):St:=⟨[(0,.p (sV p0)),(1,.p (nV .i32 v1)),(13,.p (iV p2)),(14,.p (iV v14))],⟨[],[]⟩⟩
noncomputable def Qhs (p0:(List UInt8)) (p2:Int) (y2:Int):St:=⟨[(1,.p (nV .i32 y2))],⟨[],[]⟩⟩
noncomputable def Qht (p0:(List UInt8)) (p2:Int) (y3:Unit):St:=⟨[(6,.p (nV .i32 0)),(7,.p (bV false))],⟨[],[]⟩⟩
noncomputable def Qk0:Code:=((loopsOf (Try.f86.body.getD .skip)).getD 0 .skip)
noncomputable def Qd1 (p0:(List (List UInt8))) (p1:(List (List UInt8))) (v5:Int):Option (Unit⊕Unit) :=
 if(decide (v5<(p0.length:Int))) then
  idx p0 v5>>=fun x4 =>
  idx p1 v5>>=fun x5 =>
  if(!(x4==x5)) then
   some (.inr ())
  else
   Qd1 p0 p1 (wr (v5+1))
 else
  some (.inl ())
 partial_fixpoint
theorem Qn1:∀ (p0:(List (List UInt8))) (p1:(List (List UInt8))),(∀ (v5:Int) (o1:Unit⊕Unit),Qd1 p0 p1 v5=some o1→TL (0,0) Try.prog 26 Qkt (JP2 (0,0) 26 o1 (.exit 0) (Qhm p0 p1) .ret (Qhn p0 p1)) (Qfx p0 p1 v5)):=by
 intro p0 p1
 refine Qd1.partial_correctness p0 p1 _ ?_
 intro Qd1' iQd1 v5 o1 h
 refine TL.round (Qak mixed tbOk (lv:=Qnp) _ _ _ ?_)
 refine view (lenMap _ _) rfl ?_
 refine Qae h (fun hb h=>?_) (fun hb h=>?_)
 ·refine And.intro (by decide +kernel) (And.intro rfl ?_)
  refine Qew (l:=p0) (c:=cStr) (c' := cStr) h (fun _=>rfl) (fun _=>rfl) (by decide) (fun x4 hi h=>?_)
  refine Qew (l:=p1) (c:=cStr) (c' := cStr) h (fun _=>rfl) (fun _=>rfl) (by decide) (fun x5 hi h=>?_)
  refine Qae h (fun hb h=>?_) (fun hb h=>?_)
  ·exact JP2.b h (Le.tz 0 0 rfl rfl rfl)
  ·refine TL.le (τ := Qfx p0 p1 (wr (v5+1))) ?_ ((iQd1 (wr (v5+1)) _ h))
   exact Le.tz 0 0 rfl rfl rfl
 ·exact JP2.a h (Le.tz 0 0 rfl rfl rfl)
theorem Qo5:∀ (p0:(List (List UInt8))) (p1:(List (List UInt8))) (v5:Int) (o1:Unit⊕Unit),Qd1 p0 p1 v5=some o1→TL (0,0) Try.prog 26 Qkt (JP2 (0,0) 26 o1 (.exit 0) (Qhm p0 p1) .ret (Qhn p0 p1)) (Qfx p0 p1 v5):=fun p0 p1 v5=>(Qn1 p0 p1) v5
noncomputable def Qjw (p0:(List (List UInt8))) (p1:(List (List UInt8))):Option (Bool) :=
 if((p0.length:Int) != (p1.length:Int)) then
  some false
 else
  (Qd1 p0 p1 0)>>=fun o1 =>
  match o1 with
  | .inl y2 =>
   some true
  | .inr y3 =>
   some false
theorem Qn2:∀ (p0:(List (List UInt8))) (p1:(List (List UInt8))) (o:Bool),Qjw p0 p1=some o→PCall Try.prog 8 [.sl false (p0.map cStr),.sl false (p1.map cStr)] (Qgv o):=by
 intro p0 p1 o h
 unfold Qjw at h
 refine PCall.ofB mixed tbOk Qnp Try.func8 rfl (by kernel_rfl) (Nat.le_of_ble_eq_true rfl) ?_
 refine view (lenMap _ _) rfl ?_
 refine view (lenMap _ _) rfl ?_
 refine Qae h (fun hb h=>?_) (fun hb h=>?_)
 ·refine Qay (t:=Qgv) h ?_
  exact .refl _
 ·refine Qaj h (fun o1 ho hk=>?_)
  refine Exists.intro (JP2 _ _ o1 (.exit 0) (Qhm p0 p1) .ret (Qhn p0 p1)) (And.intro (T_le (τ := Qfx p0 p1 0) ?_ (TL.loop (Qo5 p0 p1 0 o1 ho))) (join2 (fun y2 hy=>?_) (fun y3 hy=>?_)))
  ·exact Le.tz 0 0 rfl rfl rfl
  ·have h:=(by rw[hy] at hk; exact hk)
   refine Qay (t:=Qgv) h ?_
   exact .refl _
  ·have h:=(by rw[hy] at hk; exact hk)
   refine Qay (t:=Qgv) h ?_
   exact .refl _
mutual
noncomputable def Qm1 (p0:(List Qab)) (p1:(List Qab)):Option (Bool) :=
 if((p0.length:Int) != (p1.length:Int)) then
  some false
 else
  (Qn3 p0 p1 0)>>=fun o1 =>
  match o1 with
  | .inl y2 =>
   some true
  | .inr y3 =>
   some false
 partial_fixpoint
noncomputable def Qn3 (p0:(List Qab)) (p1:(List Qab)) (v5:Int):Option (Unit⊕Unit) :=
 if(decide (v5<(p0.length:Int))) then
  ( idx p0 v5>>=fun x5 =>
   idx p1 v5>>=fun x6 =>
   some (x5.Kind,x5.Name,x5.Text,x5.N,x5.L,x5.Then,x5.Else,x6.Kind,x6.Name,x6.Text,x6.N,x6.L,x6.Then,x6.Else):Option ((Int×(List UInt8)×(List UInt8)×Int×(List Qab)×(List Qab)×(List Qab)×Int×(List UInt8)×(List UInt8)×Int×(List Qab)×(List Qab)×(List Qab))))>>=fun o4 =>
  ( if(o4.1 != o4.2.2.2.2.2.2.2.1) then
    some true
   else
    if(!(o4.2.1==o4.2.2.2.2.2.2.2.2.1)) then
     some true
    else
     if(!(o4.2.2.1==o4.2.2.2.2.2.2.2.2.2.1)) then
      some true
     else
      if(o4.2.2.2.1 != o4.2.2.2.2.2.2.2.2.2.2.1) then
       some true
      else
       Qm1 o4.2.2.2.2.1 o4.2.2.2.2.2.2.2.2.2.2.2.1>>=fun x8 =>
       if(!x8) then
        some true
       else
        Qm1 o4.2.2.2.2.2.1 o4.2.2.2.2.2.2.2.2.2.2.2.2.1>>=fun x9 =>
        if(!x9) then
         some true
        else
         Qm1 o4.2.2.2.2.2.2.1 o4.2.2.2.2.2.2.2.2.2.2.2.2.2>>=fun x10 =>
         some (!x10):Option (Bool))>>=fun o7 =>
  if o7 then
   some (.inr ())
  else
   Qn3 p0 p1 (wr (v5+1))
 else
  some (.inl ())
 partial_fixpoint
end
noncomputable def Qc2 (p0:(List Qac)) (p1:(List UInt8)) (v10:Int):Option (Unit⊕(List Qab)) :=
 if(decide (v10<(p0.length:Int))) then
  idx p0 v10>>=fun x4 =>
  if(x4.Name==p1) then
   some (.inr x4.L)
  else
   Qc2 p0 p1 (wr (v10+1))
 else
  some (.inl ())
 partial_fixpoint
theorem Qlr:∀ (p0:(List Qac)) (p1:(List UInt8)),(∀ (v10:Int) (o1:Unit⊕(List Qab)),Qc2 p0 p1 v10=some o1→TL (0,0) Try.prog 21 Qjb (JP2 (0,0) 21 o1 (.exit 0) (Qgc p0 p1) .ret (Qgd p0 p1)) (Qeo p0 p1 v10)):=by
 intro p0 p1
 refine Qc2.partial_correctness p0 p1 _ ?_
 intro Qc2' iQc2 v10 o1 h
 refine TL.round (Qak mixed tbOk (lv:=Qku) _ _ _ ?_)
 refine Qae h (fun hb h=>?_) (fun hb h=>?_)
 ·refine Qew (l:=p0) (c:=Qah) (c' := Qah) h (fun _=>rfl) (fun _=>rfl) (by decide) (fun x4 hi h=>?_)
  refine Qae h (fun hb h=>?_) (fun hb h=>?_)
  ·exact JP2.b h (Le.tz 0 0 rfl rfl rfl)
  ·refine TL.le (τ := Qeo p0 p1 (wr (v10+1))) ?_ ((iQc2 (wr (v10+1)) _ h))
   exact Le.tz 0 0 rfl rfl rfl
 ·exact JP2.a h (Le.tz 0 0 rfl rfl rfl)
theorem Qmh:∀ (p0:(List Qac)) (p1:(List UInt8)) (v10:Int) (o1:Unit⊕(List Qab)),Qc2 p0 p1 v10=some o1→TL (0,0) Try.prog 21 Qjb (JP2 (0,0) 21 o1 (.exit 0) (Qgc p0 p1) .ret (Qgd p0 p1)) (Qeo p0 p1 v10):=fun p0 p1 v10=>(Qlr p0 p1) v10
noncomputable def Qgy (p0:(List Qac)) (p1:(List UInt8)):Option ((List Qab)×Bool) :=
 (Qc2 p0 p1 0)>>=fun o1 =>
 match o1 with
 | .inl y2 =>
  some ([],false)
 | .inr y3 =>
  some (y3,true)
theorem Qk1:∀ (p0:(List Qac)) (p1:(List UInt8)) (o:(List Qab)×Bool),Qgy p0 p1=some o→PCall Try.prog 6 [.sl false (p0.map Qah),sV p1] (Qf6 o):=by
 intro p0 p1 o h
 unfold Qgy at h
 refine PCall.ofB mixed tbOk Qku Try.func6 rfl (by kernel_rfl) (Nat.le_of_ble_eq_true rfl) ?_
 refine view (lenMap _ _) rfl ?_
 refine Qaj h (fun o1 ho hk=>?_)
 refine Exists.intro (JP2 _ _ o1 (.exit 0) (Qgc p0 p1) .ret (Qgd p0 p1)) (And.intro (T_le (τ := Qeo p0 p1 0) ?_ (TL.loop (Qmh p0 p1 0 o1 ho))) (join2 (fun y2 hy=>?_) (fun y3 hy=>?_)))
 ·exact Le.tz 0 0 rfl rfl rfl
 ·have h:=(by rw[hy] at hk; exact hk)
  refine Qay (t:=Qf6) h ?_
  exact .tup (xs:=[.sl true [],bV false]) (ys:=[.sl false [],bV false]) (.cons (.not) (.cons (.refl _) (.nil)))
 ·have h:=(by rw[hy] at hk; exact hk)
  refine Qay (t:=Qf6) h ?_
  exact .refl _
noncomputable def Qc3 (x1:(List Qab)×Int) (l4:(List (Qab×Int))) (h0_0:Int):Option (Int) :=
 match l4 with
 | [] =>
  some h0_0
 | x2::r3 =>
  Qc3 x1 r3 (wr (h0_0+1))
 partial_fixpoint
theorem Qls:∀ (x1:(List Qab)×Int),(∀ (l4:(List (Qab×Int))) (h0_0:Int) (o6:Int),Qc3 x1 l4 h0_0=some o6→RL 1 0 Try.prog 11 (rgP Qdd) (rgA Qdd) (rgB Qdd) (Qcz x1 h0_0).env (JP1 (0,0) 11 o6 .normal (Qgf x1)) (l4.map Qa5) (Qcz x1 h0_0).s):=by
 intro x1
 refine Qc3.partial_correctness x1 _ ?_
 intro Qc3' iQc3 l4 h0_0 o6 h
 cases l4 with
 | nil =>
  refine Quw ?_
  exact JP1.a h (Le.tz 1 0 rfl rfl rfl)
 | cons x2 r3 =>
  refine Qqq (Qak mixed tbOk (lv:=Qif) _ _ _ ?_)
  refine And.intro rfl (Qak mixed tbOk (lv:=Qif) _ _ _ ?_)
  exact Exists.intro (Qcz x1 (wr (h0_0+1))).s (And.intro (Le.tz 1 0 rfl rfl rfl) (And.intro rfl (And.intro rfl ((iQc3 r3 (wr (h0_0+1)) _ h)))))
theorem Qmi:∀ (x1:(List Qab)×Int) (l4:(List (Qab×Int))) (h0_0:Int) (o6:Int),Qc3 x1 l4 h0_0=some o6→RL 1 0 Try.prog 11 (rgP Qdd) (rgA Qdd) (rgB Qdd) (Qcz x1 h0_0).env (JP1 (0,0) 11 o6 .normal (Qgf x1)) (l4.map Qa5) (Qcz x1 h0_0).s:=fun x1 l4 h0_0=>(Qls x1) l4 h0_0
noncomputable def Qf1 (p0:(List Qab)) (p1:Int):Option ((List Qab)×Int) :=
 some (p0,p1)
theorem Qkc:∀ (p0:(List Qab)) (p1:Int) (o:(List Qab)×Int),Qf1 p0 p1=some o→PCall Try.prog 53 [.sl false (p0.map Qaa),iV p1] (Qhy o):=by
 intro p0 p1 o h
 unfold Qf1 at h
 refine PCall.ofM mixed tbOk Qtw Try.func53 rfl (by kernel_rfl) (Nat.le_of_ble_eq_true rfl) ?_
 refine Qay (t:=Qhy) h ?_
 exact .refl _
noncomputable def Qc4 (p0:(List Qab)) (p1:Int) (v12:Int) (x3:Qab) (v28:Int) (x7:(List Qab)×Int) (l10:(List (Qab×Int))):Option ((List (Qab×Int))×(Unit)) :=
 match l10 with
 | [] =>
  some ([],())
 | x8::r9 =>
  ( Qc4 p0 p1 v12 x3 v28 x7 r9 )>>=fun q=>some (((Qab.mk x8.1.Kind x8.1.Name x8.1.Text x8.1.N x8.1.L x8.1.Then x8.1.Else),x8.2)::q.1,q.2)
 partial_fixpoint
theorem Qlt:∀ (p0:(List Qab)) (p1:Int) (v12:Int) (x3:Qab) (v28:Int) (x7:(List Qab)×Int),(∀ (l10:(List (Qab×Int))) (o13:(List (Qab×Int))×(Unit)),Qc4 p0 p1 v12 x3 v28 x7 l10=some o13→∀ (gxs gp gpost gq12:List (List V)),gxs=gp++(o13.1.map Qa5++gpost)→gxs=gq12++gpost→RL 2 1 Try.prog 44 (rgP Qdf) (rgA Qdf) (rgB Qdf) (Qc0 p0 p1 v12 x3 v28 x7 gxs gp).env (Qs (0,1) 44 gxs (JP1 (0,1) 44 o13.2 .normal (Qgg p0 p1 v12 x3 v28 x7 gxs gq12))) (l10.map Qa5) (Qc0 p0 p1 v12 x3 v28 x7 gxs gp).s):=by
 intro p0 p1 v12 x3 v28 x7
 refine Qc4.partial_correctness p0 p1 v12 x3 v28 x7 _ ?_
 intro Qc4' iQc4 l10 o13 h
 intro gxs gp gpost gq12 hx hq
 cases l10 with
 | nil =>
  refine Quw ?_
  exact .inl (JP1.a (sndI h) (Le.tz 2 1 rfl rfl (liveQ h hx hq rfl)))
 | cons x8 r9 =>
  refine Qqq (Qak mixed tbOk (lv:=Qe7) _ _ _ ?_)
  refine And.intro rfl (Qak mixed tbOk (lv:=Qe7) _ _ _ ?_)
  refine Qwv (c:=Qa5) h hx (.refl _) (by exact rfl) (by exact rfl) (fun _ h hx=>?_) ?_
  ·refine bF ?_
   exact Exists.intro (Qc0 p0 p1 v12 x3 v28 x7  gxs (gp++[Qa5 ((Qab.mk x8.1.Kind x8.1.Name x8.1.Text x8.1.N x8.1.L x8.1.Then x8.1.Else),x8.2)])).s (And.intro (Le.tz 2 1 rfl rfl rfl) (And.intro rfl (And.intro rfl ((iQc4 r9 _ h) _ _ _ _ hx hq))))
  ·refine bT ?_
   exact⟨_,(Le.env0 _).trans (Le.tow 2 1 rfl .nil (.refl _) rfl),rfl,rfl,.inr ⟨rfl,Qx6 rfl⟩⟩
theorem Qmj:∀ (p0:(List Qab)) (p1:Int) (v12:Int) (x3:Qab) (v28:Int) (x7:(List Qab)×Int) (l10:(List (Qab×Int))) (o13:(List (Qab×Int))×(Unit)),Qc4 p0 p1 v12 x3 v28 x7 l10=some o13→∀ (gxs gp gpost gq12:List (List V)),gxs=gp++(o13.1.map Qa5++gpost)→gxs=gq12++gpost→RL 2 1 Try.prog 44 (rgP Qdf) (rgA Qdf) (rgB Qdf) (Qc0 p0 p1 v12 x3 v28 x7 gxs gp).env (Qs (0,1) 44 gxs (JP1 (0,1) 44 o13.2 .normal (Qgg p0 p1 v12 x3 v28 x7 gxs gq12))) (l10.map Qa5) (Qc0 p0 p1 v12 x3 v28 x7 gxs gp).s:=fun p0 p1 v12 x3 v28 x7 l10=>(Qlt p0 p1 v12 x3 v28 x7) l10
mutual
noncomputable def Qdq (p0 : (List Qab)) (p1 : Int) : Option ((List (Qab × Int)) × Unit) :=
  ( Qdm p0 p1 0) >>= fun o2 => (
    some ([], ())) >>= fun q => some (o2.1 ++ q.1, q.2)
  partial_fixpoint
noncomputable def Qdm (p0 : (List Qab)) (p1 : Int) (v12 : Int) : Option ((List (Qab × Int)) × (Unit)) :=
  if (decide (v12 < (p0.length : Int))) then
    idx p0 v12 >>= fun x3 =>
    ( ( Qbm p0 p1 v12 x3 0) >>= fun o5 => (
        Qdm p0 p1 (wr (v12 + 1))) >>= fun q => some (o5.1 ++ q.1, q.2)) >>= fun q => some ((x3, p1) :: q.1, q.2)
  else
    some ([], ())
  partial_fixpoint
noncomputable def Qbm (p0 : (List Qab)) (p1 : Int) (v12 : Int) (x3 : Qab) (v28 : Int) : Option ((List (Qab × Int)) × (Unit)) :=
  if (decide (v28 < 3)) then
    idx ([x3.L, x3.Then, x3.Else] : List (List Qab)) v28 >>= fun x6 =>
    Qf1 x6 (wr (p1 + 1)) >>= fun x7 =>
    Qdq x7.1 x7.2 >>= fun y11 =>
    ( Qc4 p0 p1 v12 x3 v28 x7 y11.1) >>= fun o13 => (
      Qbm p0 p1 v12 x3 (wr (v28 + 1))) >>= fun q => some (o13.1 ++ q.1, q.2)
  else
    some ([], ())
  partial_fixpoint
end
theorem Qo6:(∀ (p0:(List Qab)) (p1:Int) (o:(List (Qab×Int))×Unit),Qdq p0 p1=some o→∀ gxs:List (List V),gxs=o.1.map Qa5→IterOK Try.prog 63 [.ep [.sl false (p0.map Qaa)],.ep [iV p1]] gxs)∧(∀ (p0:(List Qab)) (p1:Int) (v12:Int) (o2:(List (Qab×Int))×(Unit)),Qdm p0 p1 v12=some o2→∀ (gxs gp gpost gq1:List (List V)),gxs=gp++(o2.1.map Qa5++gpost)→gxs=gq1++gpost→TL (0,1) Try.prog 44 Qnu (Qs (0,1) 44 gxs (JP1 (0,1) 44 o2.2 (.exit 0) (Qiw p0 p1 gxs gq1))) (Qgi p0 p1 v12 gxs gp))∧(∀ (p0:(List Qab)) (p1:Int) (v12:Int) (x3:Qab) (v28:Int) (o5:(List (Qab×Int))×(Unit)),Qbm p0 p1 v12 x3 v28=some o5→∀ (gxs gp gpost gq4:List (List V)),gxs=gp++(o5.1.map Qa5++gpost)→gxs=gq4++gpost→TL (0,1) Try.prog 44 Qnt (Qs (0,1) 44 gxs (JP1 (0,1) 44 o5.2 (.exit 2) (Qiv p0 p1 v12 x3 gxs gq4))) (Qgh p0 p1 v12 x3 v28 gxs gp)):=by
 refine Qdq.mutual_partial_correctness _ _ _ ?_ ?_ ?_
 ·intro Qdm' iQdm p0 p1 o h
  intro gxs hg
  have hx:gxs=[]++(o.1.map Qa5++[]):=by simp[hg]
  refine IterOK.ofB mixed tbOk Qe7 Try.func63 rfl (by kernel_rfl) (Nat.le_of_ble_eq_true rfl) rfl ?_
  refine view (lenMap _ _) rfl ?_
  refine Qmz h hx (fun o2 lgq1 gq1 ho hk hxa hjgq1=>?_)
  refine Exists.intro (Qs _ _ gxs (JP1 _ _ o2.2 (.exit 0) (Qiw p0 p1 gxs gq1))) (And.intro (T_le (τ := Qgi p0 p1 0 gxs ([]:List (List V))) ?_ (TL.loop ((iQdm p0 p1 0 o2 ho) _ _ _ _ hxa hjgq1))) (joinS (join1 ?_) ?_))
  ·exact Le.tz 1 1 rfl rfl rfl
  ·have h:=hk
   have hx:=hjgq1
   exact Qwu h hx (.inl rfl) rfl
  ·exact fun s1 h1 h2 hs=>Qux (.inr rfl) hs
 ·intro Qdm' Qbm' iQdm iQbm p0 p1 v12 o2 h
  intro gxs gp gpost gq1 hx hq
  refine TL.round (Qak mixed tbOk (lv:=Qe7) _ _ _ ?_)
  refine Qae h (fun hb h=>?_) (fun hb h=>?_)
  ·refine Qew (l:=p0) (c:=Qaa) (c' := Qd7) h Qa6 (fun _=>rfl) (by decide) (fun x3 hi h=>?_)
   refine Qwv (c:=Qa5) h hx (.refl _) (by exact rfl) (by exact rfl) (fun _ h hx=>?_) ?_
   ·refine bF ?_
    refine Qmz h hx (fun o5 lgq4 gq4 ho hk hxa hjgq4=>?_)
    refine Exists.intro (Qs _ _ gxs (JP1 _ _ o5.2 (.exit 2) (Qiv p0 p1 v12 x3 gxs gq4))) (And.intro (T_le (τ := Qgh p0 p1 v12 x3 0 gxs (gp++[Qa5 (x3,p1)])) ?_ (TL.loop ((iQbm p0 p1 v12 x3 0 o5 ho) _ _ _ _ hxa hjgq4))) (joinS (join1 ?_) ?_))
    ·exact Le.tz 2 1 rfl rfl rfl
    ·have h:=hk
     have hx:=hjgq4
     refine TL.le (τ := Qgi p0 p1 (wr (v12+1)) gxs gq4) ?_ ((iQdm p0 p1 (wr (v12+1)) _ h) _ _ _ _ hx hq)
     exact Le.tz 1 1 rfl rfl rfl
    ·exact fun s1 h1 h2 hs =>.inr ⟨rfl,s1,.refl _ _ _,h1,h2,hs⟩
   ·refine bT ?_
    exact .inr ⟨rfl,_,(Le.env0 _).trans (Le.tow 0 1 rfl .nil (.refl _) rfl),rfl,rfl,rfl⟩
  ·exact .inl (JP1.a (sndI h) (Le.tz 1 1 rfl rfl (liveQ h hx hq rfl)))
 ·intro Qdq' Qbm' iQdq iQbm p0 p1 v12 x3 v28 o5 h
  intro gxs gp gpost gq4 hx hq
  refine TL.round (Qak mixed tbOk (lv:=Qe7) _ _ _ ?_)
  refine Qae h (fun hb h=>?_) (fun hb h=>?_)
  ·refine Qy8 (l:=([x3.L,x3.Then,x3.Else]:List (List Qab))) (c:=fun x6 =>.sl false (x6.map Qaa)) h rfl rfl rfl rfl (fun x6 hi h=>?_)
   refine Qan [.sl false (x6.map Qaa),iV (wr (p1+1))] Qhy h (fun x7 hy=>(Qkc x6 (wr (p1+1)) x7 hy)) (fun x7 hy h=>?_)
   refine Qaj h (fun y11 hy11 h=>?_)
   refine Qmz h hx (fun o13 lgq12 gq12 ho hk hxa hjgq12=>?_)
   refine Exists.intro (Qs _ _ gxs (JP1 _ _ o13.2 .normal (Qgg p0 p1 v12 x3 v28 x7 gxs gq12))) (And.intro (T_le (τ := Qc0 p0 p1 v12 x3 v28 x7 gxs gp) ?_ (Qql (g:=63) (cap:=[.ep [.sl false (x7.1.map Qaa)],.ep [iV x7.2]]) rfl ((iQdq x7.1 x7.2 y11 hy11) _ rfl) (mapSize fun _=>rfl) rfl (Nat.le_of_ble_eq_true rfl) (Nat.le_of_ble_eq_true rfl) ((Qmj p0 p1 v12 x3 v28 x7 y11.1 o13 ho) _ _ _ _ hxa hjgq12))) (joinS (join1 ?_) ?_))
   ·exact Le.tz 2 1 rfl rfl rfl
   ·have h:=hk
    have hx:=hjgq12
    refine TL.le (τ := Qgh p0 p1 v12 x3 (wr (v28+1)) gxs gq12) ?_ ((iQbm p0 p1 v12 x3 (wr (v28+1)) _ h) _ _ _ _ hx hq)
    exact Le.tz 2 1 rfl rfl rfl
   ·exact fun s1 h1 h2 hs =>.inr ⟨rfl,s1,.refl _ _ _,h1,h2,hs⟩
  ·exact .inl (JP1.a (sndI h) (Le.tz 2 1 rfl rfl (liveQ h hx hq rfl)))
theorem Qk2:∀ (p0:(List Qab)) (p1:Int) (o:(List (Qab×Int))×Unit),Qdq p0 p1=some o→∀ gxs:List (List V),gxs=o.1.map Qa5→IterOK Try.prog 63 [.ep [.sl false (p0.map Qaa)],.ep [iV p1]] gxs:=fun p0 p1=>Qo6.1 p0 p1
noncomputable def Qh0 (p0:(List Qab)):Option (Int) :=
 Qf1 p0 1>>=fun x1 =>
 Qdq x1.1 x1.2>>=fun y5 =>
 (Qc3 x1 y5.1 0)>>=fun o6 =>
 some o6
theorem Qq3:∀ (p0:(List Qab)) (o:Int),Qh0 p0=some o→PCall Try.prog 37 [.sl false (p0.map Qaa)] (Qjf o):=by
 intro p0 o h
 unfold Qh0 at h
 refine PCall.ofB mixed tbOk Qif Try.func37 rfl (by kernel_rfl) (Nat.le_of_ble_eq_true rfl) ?_
 refine Qan [.sl false (p0.map Qaa),iV 1] Qhy h (fun x1 hy=>(Qkc p0 1 x1 hy)) (fun x1 hy h=>?_)
 refine Qaj h (fun y5 hy5 h=>?_)
 refine Qaj h (fun o6 ho hk=>?_)
 refine Exists.intro (JP1 _ _ o6 .normal (Qgf x1)) (And.intro (T_le (τ := Qcz x1 0) ?_ (Qql (g:=63) (cap:=[.ep [.sl false (x1.1.map Qaa)],.ep [iV x1.2]]) rfl ((Qk2 x1.1 x1.2 y5 hy5) _ rfl) (mapSize fun _=>rfl) rfl (Nat.le_of_ble_eq_true rfl) (Nat.le_of_ble_eq_true rfl) (Qmi x1 y5.1 0 o6 ho))) (join1 ?_))
 ·exact Le.tz 1 0 rfl rfl rfl
 have h:=hk
 refine Qay (t:=Qjf) h ?_
 exact .refl _
noncomputable def Qdh (x1:(List Qab)×Int) (l4:(List (Qab×Int))) (h0_0:Int):Option (Int) :=
 match l4 with
 | [] =>
  some h0_0
 | x2::r3 =>
  Qdh x1 r3 (if x2.2>h0_0 then x2.2 else h0_0)
 partial_fixpoint
theorem Qmk:∀ (x1:(List Qab)×Int),(∀ (l4:(List (Qab×Int))) (h0_0:Int) (o6:Int),Qdh x1 l4 h0_0=some o6→RL 1 0 Try.prog 14 (rgP Qdp) (rgA Qdp) (rgB Qdp) (Qde x1 h0_0).env (JP1 (0,0) 14 o6 .normal (Qg7 x1)) (l4.map Qa5) (Qde x1 h0_0).s):=by
 intro x1
 refine Qdh.partial_correctness x1 _ ?_
 intro Qdh' iQdh l4 h0_0 o6 h
 cases l4 with
 | nil =>
  refine Quw ?_
  exact JP1.a h (Le.tz 1 0 rfl rfl rfl)
 | cons x2 r3 =>
  refine Qqq (Qak mixed tbOk (lv:=Qjg) _ _ _ ?_)
  refine And.intro rfl (Qak mixed tbOk (lv:=Qjg) _ _ _ ?_)
  exact Exists.intro (Qde x1 (if x2.2>h0_0 then x2.2 else h0_0)).s (And.intro (Le.tz 1 0 rfl rfl rfl) (And.intro rfl (And.intro rfl ((iQdh r3 (if x2.2>h0_0 then x2.2 else h0_0) _ h)))))
theorem Qn4:∀ (x1:(List Qab)×Int) (l4:(List (Qab×Int))) (h0_0:Int) (o6:Int),Qdh x1 l4 h0_0=some o6→RL 1 0 Try.prog 14 (rgP Qdp) (rgA Qdp) (rgB Qdp) (Qde x1 h0_0).env (JP1 (0,0) 14 o6 .normal (Qg7 x1)) (l4.map Qa5) (Qde x1 h0_0).s:=fun x1 l4 h0_0=>(Qmk x1) l4 h0_0
noncomputable def Qjj (p0:(List Qab)):Option (Int) :=
 Qf1 p0 1>>=fun x1 =>
 Qdq x1.1 x1.2>>=fun y5 =>
 (Qdh x1 y5.1 0)>>=fun o6 =>
 some o6
theorem Qsq:∀ (p0:(List Qab)) (o:Int),Qjj p0=some o→PCall Try.prog 36 [.sl false (p0.map Qaa)] (Qkb o):=by
 intro p0 o h
 unfold Qjj at h
 refine PCall.ofB mixed tbOk Qjg Try.func36 rfl (by kernel_rfl) (Nat.le_of_ble_eq_true rfl) ?_
 refine Qan [.sl false (p0.map Qaa),iV 1] Qhy h (fun x1 hy=>(Qkc p0 1 x1 hy)) (fun x1 hy h=>?_)
 refine Qaj h (fun y5 hy5 h=>?_)
 refine Qaj h (fun o6 ho hk=>?_)
 refine Exists.intro (JP1 _ _ o6 .normal (Qg7 x1)) (And.intro (T_le (τ := Qde x1 0) ?_ (Qql (g:=63) (cap:=[.ep [.sl false (x1.1.map Qaa)],.ep [iV x1.2]]) rfl ((Qk2 x1.1 x1.2 y5 hy5) _ rfl) (mapSize fun _=>rfl) rfl (Nat.le_of_ble_eq_true rfl) (Nat.le_of_ble_eq_true rfl) (Qn4 x1 y5.1 0 o6 ho))) (join1 ?_))
 ·exact Le.tz 1 0 rfl rfl rfl
 have h:=hk
 refine Qay (t:=Qkb) h ?_
 exact .refl _
noncomputable def Qbl (p0:(List UInt8)) (p1:(List UInt8)):Option (Bool) :=
 ( if(decide ((p0.length:Int) ≥ (p1.length:Int))) then
   cutL p0 (wr ((p0.length:Int)-(p1.length:Int))) (p0.length:Int)>>=fun x2 =>
   some (x2==p1)
  else
   some false:Option (Bool))>>=fun o1 =>
 some o1
theorem Qe9:∀ (p0:(List UInt8)) (p1:(List UInt8)) (o:Bool),Qbl p0 p1=some o→PCall Try.prog 67 [sV p0,sV p1] (Qbp o):=by
 intro p0 p1 o h
 unfold Qbl at h
 refine PCall.ofB mixed tbOk Qe4 Try.func67 rfl (by kernel_rfl) (Nat.le_of_ble_eq_true rfl) ?_
 refine Qaj h (fun o1 ho hk=>?_)
 refine Exists.intro (JP1 _ _ o1 .normal (Qeq )) (And.intro ?_ (join1 ?_))
 ·have h:=ho
  refine vrfl ?_
  refine vrfl ?_
  refine Qae h (fun hb h=>?_) (fun hb h=>?_)
  ·refine vrfl ?_
   refine vrfl ?_
   refine Qws (some (wr ((p0.length:Int)-(p1.length:Int)))) none h (fun x2 hi h=>?_)
   refine JP1.a h ?_
   exact Le.tz 0 0 rfl rfl rfl
  ·refine JP1.a h ?_
   exact Le.tz 0 0 rfl rfl rfl
 ·have h:=hk
  refine Qay (t:=Qbp) h ?_
  exact .refl _
noncomputable def strings_HasSuffix (p0:(List UInt8)) (p1:(List UInt8)):Option (Bool) :=
 Qbl p0 p1>>=fun x1 =>
 some x1
theorem Qc9:∀ (p0:(List UInt8)) (p1:(List UInt8)) (o:Bool),strings_HasSuffix p0 p1=some o→PCall Try.prog 55 [sV p0,sV p1] (Qbw o):=by
 intro p0 p1 o h
 unfold strings_HasSuffix at h
 refine PCall.ofB mixed tbOk Qj0 Try.func55 rfl (by kernel_rfl) (Nat.le_of_ble_eq_true rfl) ?_
 refine Qan [sV p0,sV p1] Qbp h (fun x1 hy=>(Qe9 p0 p1 x1 hy)) (fun x1 hy h=>?_)
 refine Qay (t:=Qbw) h ?_
 exact .refl _
noncomputable def Qbs (p0:(List UInt8)) (p1:(List UInt8)):Option (Int) :=
 need (p0.length<4294967281)>>=fun _ =>
 some (Lib.index p0 p1)
theorem Qgk:∀ (p0:(List UInt8)) (p1:(List UInt8)) (o:Int),Qbs p0 p1=some o→PCall Try.prog 73 [sV p0,sV p1] (Qdv o):=by
 intro p0 p1 o h
 unfold Qbs at h
 obtain⟨h1,h⟩:=Qwz h
 cases h
 exact Qx9 _ _ h1
noncomputable def strings_Index (p0:(List UInt8)) (p1:(List UInt8)):Option (Int) :=
 Qbs p0 p1>>=fun x1 =>
 some x1
theorem Qml:∀ (p0:(List UInt8)) (p1:(List UInt8)) (o:Int),strings_Index p0 p1=some o→PCall Try.prog 69 [sV p0,sV p1] (Qg6 o):=by
 intro p0 p1 o h
 unfold strings_Index at h
 refine PCall.ofB mixed tbOk Qmg Try.func69 rfl (by kernel_rfl) (Nat.le_of_ble_eq_true rfl) ?_
 refine Qan [sV p0,sV p1] Qdv h (fun x1 hy=>(Qgk p0 p1 x1 hy)) (fun x1 hy h=>?_)
 refine Qay (t:=Qg6) h ?_
 exact .refl _
noncomputable def strings_Contains (p0:(List UInt8)) (p1:(List UInt8)):Option (Bool) :=
 strings_Index p0 p1>>=fun x1 =>
 some (decide (x1 ≥ 0))
theorem Qkd:∀ (p0:(List UInt8)) (p1:(List UInt8)) (o:Bool),strings_Contains p0 p1=some o→PCall Try.prog 65 [sV p0,sV p1] (Qe6 o):=by
 intro p0 p1 o h
 unfold strings_Contains at h
 refine PCall.ofB mixed tbOk Qka Try.func65 rfl (by kernel_rfl) (Nat.le_of_ble_eq_true rfl) ?_
 refine Qan [sV p0,sV p1] Qg6 h (fun x1 hy=>(Qml p0 p1 x1 hy)) (fun x1 hy h=>?_)
 refine Qay (t:=Qe6) h ?_
 exact .refl _
noncomputable def Qh1 (p0:Int):Option (Bool) :=
 ( if(decide (p0 ≥ 48)) then
   some (decide (p0≤57))
  else
   some false:Option (Bool))>>=fun o1 =>
 some o1
theorem Qma:∀ (p0:Int) (o:Bool),Qh1 p0=some o→PCall Try.prog 62 [nV .u8 p0] (Qie o):=by
 intro p0 o h
 unfold Qh1 at h
 refine PCall.ofB mixed tbOk Qsl Try.func62 rfl (by kernel_rfl) (Nat.le_of_ble_eq_true rfl) ?_
 refine Qaj h (fun o1 ho hk=>?_)
 refine Exists.intro (JP1 _ _ o1 .normal (Qoq )) (And.intro ?_ (join1 ?_))
 ·have h:=ho
  refine Qae h (fun hb h=>?_) (fun hb h=>?_)
  ·refine JP1.a h ?_
   exact Le.tz 0 0 rfl rfl rfl
  ·refine JP1.a h ?_
   exact Le.tz 0 0 rfl rfl rfl
 ·have h:=hk
  refine Qay (t:=Qie) h ?_
  exact .refl _
noncomputable def Qh2 (p0:Int):Option (Bool) :=
 ( if(decide (p0 ≥ 97)) then
   if(decide (p0≤122)) then
    some true
   else
    Qh1 p0>>=fun x2 =>
    if x2 then
     some true
    else
     some (p0==95)
  else
   Qh1 p0>>=fun x3 =>
   if x3 then
    some true
   else
    some (p0==95):Option (Bool))>>=fun o1 =>
 some o1
theorem Qq4:∀ (p0:Int) (o:Bool),Qh2 p0=some o→PCall Try.prog 52 [nV .u8 p0] (Qje o):=by
 intro p0 o h
 unfold Qh2 at h
 refine PCall.ofB mixed tbOk Qqu Try.func52 rfl (by kernel_rfl) (Nat.le_of_ble_eq_true rfl) ?_
 refine Qaj h (fun o1 ho hk=>?_)
 refine Exists.intro (JP1 _ _ o1 .normal (Qnr )) (And.intro ?_ (join1 ?_))
 ·have h:=ho
  refine Qae h (fun hb h=>?_) (fun hb h=>?_)
  ·refine Qae h (fun hb h=>?_) (fun hb h=>?_)
   ·refine bT ?_
    refine JP1.a h ?_
    exact Le.tz 0 0 rfl rfl rfl
   ·refine Qan [nV .u8 p0] Qie h (fun x2 hy=>(Qma p0 x2 hy)) (fun x2 hy h=>?_)
    refine Qae h (fun hb h=>?_) (fun hb h=>?_)
    ·refine JP1.a h ?_
     exact Le.tz 0 0 rfl rfl rfl
    ·refine JP1.a h ?_
     exact Le.tz 0 0 rfl rfl rfl
  ·refine bF ?_
   refine Qan [nV .u8 p0] Qie h (fun x3 hy=>(Qma p0 x3 hy)) (fun x3 hy h=>?_)
   refine Qae h (fun hb h=>?_) (fun hb h=>?_)
   ·refine JP1.a h ?_
    exact Le.tz 0 0 rfl rfl rfl
   ·refine JP1.a h ?_
    exact Le.tz 0 0 rfl rfl rfl
 ·have h:=hk
  refine Qay (t:=Qje) h ?_
  exact .refl _
noncomputable def Qd2 (p0:(List UInt8)) (v6:Int):Option (Unit⊕Unit) :=
 if(decide (v6<(p0.length:Int))) then
  idx p0 v6>>=fun x4 =>
  Qh2 (x4.toNat:Int)>>=fun x5 =>
  if(!x5) then
   some (.inr ())
  else
   Qd2 p0 (wr (v6+1))
 else
  some (.inl ())
 partial_fixpoint
theorem Qn5:∀ (p0:(List UInt8)),(∀ (v6:Int) (o1:Unit⊕Unit),Qd2 p0 v6=some o1→TL (0,0) Try.prog 27 Qkx (JP2 (0,0) 27 o1 (.exit 0) (Qhq p0) .ret (Qhr p0)) (Qfy p0 v6)):=by
 intro p0
 refine Qd2.partial_correctness p0 _ ?_
 intro Qd2' iQd2 v6 o1 h
 refine TL.round (Qak mixed tbOk (lv:=Qnq) _ _ _ ?_)
 refine Qae h (fun hb h=>?_) (fun hb h=>?_)
 ·refine Qln h (fun x4 hi h=>?_)
  refine Qan [nV .u8 (x4.toNat:Int)] Qje h (fun x5 hy=>(Qq4 (x4.toNat:Int) x5 hy)) (fun x5 hy h=>?_)
  refine Qae h (fun hb h=>?_) (fun hb h=>?_)
  ·exact JP2.b h (Le.tz 0 0 rfl rfl rfl)
  ·refine TL.le (τ := Qfy p0 (wr (v6+1))) ?_ ((iQd2 (wr (v6+1)) _ h))
   exact Le.tz 0 0 rfl rfl rfl
 ·exact JP2.a h (Le.tz 0 0 rfl rfl rfl)
theorem Qo7:∀ (p0:(List UInt8)) (v6:Int) (o1:Unit⊕Unit),Qd2 p0 v6=some o1→TL (0,0) Try.prog 27 Qkx (JP2 (0,0) 27 o1 (.exit 0) (Qhq p0) .ret (Qhr p0)) (Qfy p0 v6):=fun p0 v6=>(Qn5 p0) v6
noncomputable def Qii (p0:(List UInt8)):Option (Bool) :=
 (Qd2 p0 0)>>=fun o1 =>
 match o1 with
 | .inl y2 =>
  ( if(!(p0==[])) then
    if(decide ((p0.length:Int)≤32)) then
     idx p0 0>>=fun x7 =>
     some (decide ((x7.toNat:Int) ≥ 97))
    else
     some false
   else
    some false:Option (Bool))>>=fun o6 =>
  some o6
 | .inr y3 =>
  some false
theorem Qke:∀ (p0:(List UInt8)) (o:Bool),Qii p0=some o→PCall Try.prog 35 [sV p0] (Qgw o):=by
 intro p0 o h
 unfold Qii at h
 refine PCall.ofB mixed tbOk Qnq Try.func35 rfl (by kernel_rfl) (Nat.le_of_ble_eq_true rfl) ?_
 refine vrfl ?_
 refine Qaj h (fun o1 ho hk=>?_)
 refine Exists.intro (JP2 _ _ o1 (.exit 0) (Qhq p0) .ret (Qhr p0)) (And.intro (T_le (τ := Qfy p0 0) ?_ (TL.loop (Qo7 p0 0 o1 ho))) (join2 (fun y2 hy=>?_) (fun y3 hy=>?_)))
 ·exact Le.tz 0 0 rfl rfl rfl
 ·have h:=(by rw[hy] at hk; exact hk)
  refine Qaj h (fun o6 ho hk=>?_)
  refine Exists.intro (JP1 _ _ o6 .normal (Qqt )) (And.intro ?_ (join1 ?_))
  ·have h:=ho
   refine Qae h (fun hb h=>?_) (fun hb h=>?_)
   ·refine vrfl ?_
    refine Qae h (fun hb h=>?_) (fun hb h=>?_)
    ·refine Qln h (fun x7 hi h=>?_)
     refine JP1.a h ?_
     exact Le.tz 0 0 rfl rfl rfl
    ·refine JP1.a h ?_
     exact Le.tz 0 0 rfl rfl rfl
   ·refine bF ?_
    refine JP1.a h ?_
    exact Le.tz 0 0 rfl rfl rfl
  ·have h:=hk
   refine Qay (t:=Qgw) h ?_
   exact .refl _
 ·have h:=(by rw[hy] at hk; exact hk)
  refine Qay (t:=Qgw) h ?_
  exact .refl _
noncomputable def Qfa (p0:(List UInt8)):Option (Bool) :=
 ( if(p0==[105,102]) then
   some (p0==[105,102])
  else
   if(p0==[101,108,115,101]) then
    some (p0==[101,108,115,101])
   else
    if(p0==[101,110,100]) then
     some (p0==[101,110,100])
    else
     if(p0==[101,97,99,104]) then
      some (p0==[101,97,99,104])
     else
      if(p0==[105,110]) then
       some (p0==[105,110])
      else
       if(p0==[108,101,116]) then
        some (p0==[108,101,116])
       else
        if(p0==[117,115,101]) then
         some (p0==[117,115,101])
        else
         if(p0==[116,114,117,101]) then
          some (p0==[116,114,117,101])
         else
          if(p0==[102,97,108,115,101]) then
           some (p0==[102,97,108,115,101])
          else
           some (p0==[115,101,99,114,101,116]):Option (Bool))>>=fun o1 =>
 if o1 then
  some false
 else
  Qii p0>>=fun x2 =>
  some x2
theorem Qga:∀ (p0:(List UInt8)) (o:Bool),Qfa p0=some o→PCall Try.prog 22 [sV p0] (Qdy o):=by
 intro p0 o h
 unfold Qfa at h
 refine PCall.ofB mixed tbOk Qsn Try.func22 rfl (by kernel_rfl) (Nat.le_of_ble_eq_true rfl) ?_
 refine Qaj h (fun o1 ho hk=>?_)
 refine Exists.intro (JP1 _ _ o1 .normal (Qor p0)) (And.intro ?_ (join1 ?_))
 ·have h:=ho
  refine Qae h (fun hb h=>?_) (fun hb h=>?_)
  ·refine JP1.a h ?_
   exact Le.tz 0 0 rfl rfl rfl
  ·refine Qae h (fun hb h=>?_) (fun hb h=>?_)
   ·refine JP1.a h ?_
    exact Le.tz 0 0 rfl rfl rfl
   ·refine Qae h (fun hb h=>?_) (fun hb h=>?_)
    ·refine JP1.a h ?_
     exact Le.tz 0 0 rfl rfl rfl
    ·refine Qae h (fun hb h=>?_) (fun hb h=>?_)
     ·refine JP1.a h ?_
      exact Le.tz 0 0 rfl rfl rfl
     ·refine Qae h (fun hb h=>?_) (fun hb h=>?_)
      ·refine JP1.a h ?_
       exact Le.tz 0 0 rfl rfl rfl
      ·refine Qae h (fun hb h=>?_) (fun hb h=>?_)
       ·refine JP1.a h ?_
        exact Le.tz 0 0 rfl rfl rfl
       ·refine Qae h (fun hb h=>?_) (fun hb h=>?_)
        ·refine JP1.a h ?_
         exact Le.tz 0 0 rfl rfl rfl
        ·refine Qae h (fun hb h=>?_) (fun hb h=>?_)
         ·refine JP1.a h ?_
          exact Le.tz 0 0 rfl rfl rfl
         ·refine Qae h (fun hb h=>?_) (fun hb h=>?_)
          ·refine JP1.a h ?_
           exact Le.tz 0 0 rfl rfl rfl
          ·refine JP1.a h ?_
           exact Le.tz 0 0 rfl rfl rfl
 ·have h:=hk
  refine Qae h (fun hb h=>?_) (fun hb h=>?_)
  ·refine Qay (t:=Qdy) h ?_
   exact .refl _
  ·refine Qan [sV p0] Qgw h (fun x2 hy=>(Qke p0 x2 hy)) (fun x2 hy h=>?_)
   refine Qay (t:=Qdy) h ?_
   exact .refl _
noncomputable def Qdi (p0:(List UInt8)) (v4:(List Int)) (v18:Int):Option ((List Int)) :=
 if(decide (v18<(p0.length:Int))) then
  idx p0 v18>>=fun x5 =>
  if((x5.toNat:Int)==10) then
   appL 1 v4 (s2b [92,110])>>=fun x6 =>
   Qdi p0 x6 (wr (v18+1))
  else
   if((x5.toNat:Int)==9) then
    appL 1 v4 (s2b [92,116])>>=fun x7 =>
    Qdi p0 x7 (wr (v18+1))
   else
    ( if((x5.toNat:Int)==34) then
      some ((x5.toNat:Int)==34)
     else
      some ((x5.toNat:Int)==92):Option (Bool))>>=fun o8 =>
    if o8 then
     appL 1 v4 [92,(x5.toNat:Int)]>>=fun x9 =>
     Qdi p0 x9 (wr (v18+1))
    else
     appL 1 v4 [(x5.toNat:Int)]>>=fun x10 =>
     Qdi p0 x10 (wr (v18+1))
 else
  some v4
 partial_fixpoint
theorem Qmm:∀ (p0:(List UInt8)),(∀ (v4:(List Int)) (v18:Int) (o4:(List Int)),Qdi p0 v4 v18=some o4→TL (0,0) Try.prog 49 Qj5 (JP1 (0,0) 49 o4 (.exit 0) (Qg5 p0)) (Qco p0 v4 v18)):=by
 intro p0
 refine Qdi.partial_correctness p0 _ ?_
 intro Qdi' iQdi v4 v18 o4 h
 refine TL.round (Qak mixed tbOk (lv:=Ql8) _ _ _ ?_)
 refine Qae h (fun hb h=>?_) (fun hb h=>?_)
 ·refine Qln h (fun x5 hi h=>?_)
  refine Qae h (fun hb h=>?_) (fun hb h=>?_)
  ·refine Quv (a:=v4) (b:=[92,110]) h rfl (fun x6 hi h=>?_)
   refine TL.le (τ := Qco p0 x6 (wr (v18+1))) ?_ ((iQdi x6 (wr (v18+1)) _ h))
   exact Le.tz 0 1 rfl rfl rfl
  ·refine Qae h (fun hb h=>?_) (fun hb h=>?_)
   ·refine Quv (a:=v4) (b:=[92,116]) h rfl (fun x7 hi h=>?_)
    refine TL.le (τ := Qco p0 x7 (wr (v18+1))) ?_ ((iQdi x7 (wr (v18+1)) _ h))
    exact Le.tz 0 1 rfl rfl rfl
   ·refine Qaj h (fun o8 ho hk=>?_)
    refine Exists.intro (JP1 _ _ o8 .normal (Qop p0 v4 v18 x5)) (And.intro ?_ (join1 ?_))
    ·have h:=ho
     refine Qae h (fun hb h=>?_) (fun hb h=>?_)
     ·refine JP1.a h ?_
      exact Le.tz 0 1 rfl rfl rfl
     ·refine JP1.a h ?_
      exact Le.tz 0 1 rfl rfl rfl
    ·have h:=hk
     refine Qae h (fun hb h=>?_) (fun hb h=>?_)
     ·refine Qnm (a:=v4) (b:=[92,(x5.toNat:Int)]) (c:=(cNum .u8)) h (.refl _) (fun _=>rfl) rfl (fun x9 hi h=>?_)
      refine TL.le (τ := Qco p0 x9 (wr (v18+1))) ?_ ((iQdi x9 (wr (v18+1)) _ h))
      exact Le.tz 0 1 rfl rfl rfl
     ·refine Qnm (a:=v4) (b:=[(x5.toNat:Int)]) (c:=(cNum .u8)) h (.refl _) (fun _=>rfl) rfl (fun x10 hi h=>?_)
      refine TL.le (τ := Qco p0 x10 (wr (v18+1))) ?_ ((iQdi x10 (wr (v18+1)) _ h))
      exact Le.tz 0 1 rfl rfl rfl
 ·exact JP1.a h (Le.tz 0 1 rfl rfl rfl)
theorem Qn6:∀ (p0:(List UInt8)) (v4:(List Int)) (v18:Int) (o4:(List Int)),Qdi p0 v4 v18=some o4→TL (0,0) Try.prog 49 Qj5 (JP1 (0,0) 49 o4 (.exit 0) (Qg5 p0)) (Qco p0 v4 v18):=fun p0 v4 v18=>(Qmm p0) v4 v18
noncomputable def Qb1 (p0:(List UInt8)) (p1:Int):Option (Int) :=
 some (Lib.indexByte p0 p1.toNat.toUInt8)
theorem Qfb:∀ (p0:(List UInt8)) (p1:Int) (o:Int),Qb1 p0 p1=some o→PCall Try.prog 77 [sV p0,nV .u8 p1] (Qc7 o):=by
 intro p0 p1 o h
 unfold Qb1 at h
 cases h
 exact Qsi _ _
noncomputable def strings_IndexByte (p0:(List UInt8)) (p1:Int):Option (Int) :=
 Qb1 p0 p1>>=fun x1 =>
 some x1
theorem Qj2:∀ (p0:(List UInt8)) (p1:Int) (o:Int),strings_IndexByte p0 p1=some o→PCall Try.prog 75 [sV p0,nV .u8 p1] (Qer o):=by
 intro p0 p1 o h
 unfold strings_IndexByte at h
 refine PCall.ofB mixed tbOk Qj1 Try.func75 rfl (by kernel_rfl) (Nat.le_of_ble_eq_true rfl) ?_
 refine Qan [sV p0,nV .u8 p1] Qc7 h (fun x1 hy=>(Qfb p0 p1 x1 hy)) (fun x1 hy h=>?_)
 refine Qay (t:=Qer) h ?_
 exact .refl _
noncomputable def Qjk (x1:(List UInt8)) (l4:(List (Int×Int))):Option (Unit⊕Unit) :=
 match l4 with
 | [] =>
  some (.inl ())
 | x2::r3 =>
  ( if(x2.1==65533) then
    some (x2.2==1)
   else
    some false:Option (Bool))>>=fun o9 =>
  if o9 then
   some (.inr ())
  else
   Qjk x1 r3
 partial_fixpoint
theorem Qq5:∀ (x1:(List UInt8)),(∀ (l4:(List (Int×Int))) (o6:Unit⊕Unit),Qjk x1 l4=some o6→RL 1 0 Try.prog 15 (rgP Qft) (rgA Qft) (rgB Qft) (Qey x1).env (JP2 (0,0) 15 o6 .normal (Qjh x1) .ret (Qji x1)) (l4.map Qd0) (Qey x1).s):=by
 intro x1
 refine Qjk.partial_correctness x1 _ ?_
 intro Qjk' iQjk l4 o6 h
 cases l4 with
 | nil =>
  refine Quw ?_
  exact JP2.a h (Le.tz 1 0 rfl rfl rfl)
 | cons x2 r3 =>
  refine Qqq (Qak mixed tbOk (lv:=Qny) _ _ _ ?_)
  refine And.intro rfl (Qak mixed tbOk (lv:=Qny) _ _ _ ?_)
  refine Qaj h (fun o9 ho hk=>?_)
  refine Exists.intro (JP1 _ _ o9 .normal (Qtx x1 x2)) (And.intro ?_ (join1 ?_))
  ·have h:=ho
   refine Qae h (fun hb h=>?_) (fun hb h=>?_)
   ·refine JP1.a h ?_
    exact Le.tz 1 0 rfl rfl rfl
   ·refine JP1.a h ?_
    exact Le.tz 1 0 rfl rfl rfl
  ·have h:=hk
   refine Qae h (fun hb h=>?_) (fun hb h=>?_)
   ·exact Exists.intro (⟨[[.p (bV false)]],[]⟩:S) (And.intro (Le.tow 1 0 rfl .nil (.refl _) rfl) (And.intro rfl (And.intro rfl (JP2.b h (Le.tz 1 0 rfl rfl rfl)))))
   ·exact Exists.intro (Qey x1 ).s (And.intro (Le.tz 1 0 rfl rfl rfl) (And.intro rfl (And.intro rfl ((iQjk r3 _ h)))))
theorem Qsr:∀ (x1:(List UInt8)) (l4:(List (Int×Int))) (o6:Unit⊕Unit),Qjk x1 l4=some o6→RL 1 0 Try.prog 15 (rgP Qft) (rgA Qft) (rgB Qft) (Qey x1).env (JP2 (0,0) 15 o6 .normal (Qjh x1) .ret (Qji x1)) (l4.map Qd0) (Qey x1).s:=fun x1 l4=>(Qq5 x1) l4
noncomputable def Qt0 (p0:(List UInt8)):Option ((List UInt8)) :=
 some p0
theorem Qvv:∀ (p0:(List UInt8)) (o:(List UInt8)),Qt0 p0=some o→PCall Try.prog 81 [sV p0] (Qnz o):=by
 intro p0 o h
 unfold Qt0 at h
 refine PCall.ofM mixed tbOk Qvu Try.func81 rfl (by kernel_rfl) (Nat.le_of_ble_eq_true rfl) ?_
 refine Qay (t:=Qnz) h ?_
 exact .refl _
noncomputable def Qw6 (p0:Int):Option (Bool) :=
 ( if(decide (p0 ≥ 0)) then
   if(decide (p0≤1114111)) then
    if(decide (p0<55296)) then
     some true
    else
     some (decide (p0>57343))
   else
    some false
  else
   some false:Option (Bool))>>=fun o1 =>
 some o1
theorem Qw7:∀ (p0:Int) (o:Bool),Qw6 p0=some o→PCall Try.prog 87 [nV .i32 p0] (Qq2 o):=by
 intro p0 o h
 unfold Qw6 at h
 refine PCall.ofB mixed tbOk Qw5 Try.func87 rfl (by kernel_rfl) (Nat.le_of_ble_eq_true rfl) ?_
 refine Qaj h (fun o1 ho hk=>?_)
 refine Exists.intro (JP1 _ _ o1 .normal (Qtz )) (And.intro ?_ (join1 ?_))
 ·have h:=ho
  refine Qae h (fun hb h=>?_) (fun hb h=>?_)
  ·refine Qae h (fun hb h=>?_) (fun hb h=>?_)
   ·refine Qae h (fun hb h=>?_) (fun hb h=>?_)
    ·refine JP1.a h ?_
     exact Le.tz 0 0 rfl rfl rfl
    ·refine JP1.a h ?_
     exact Le.tz 0 0 rfl rfl rfl
   ·refine JP1.a h ?_
    exact Le.tz 0 0 rfl rfl rfl
  ·refine bF ?_
   refine JP1.a h ?_
   exact Le.tz 0 0 rfl rfl rfl
 ·have h:=hk
  refine Qay (t:=Qq2) h ?_
  exact .refl _
noncomputable def Qg9 (p0:(List UInt8)) (p2:Int) (v1:Int) (v14:Int):Option (Int⊕Unit) :=
 if(decide (v14<p2)) then
  idx p0 v14>>=fun x4 =>
  if((bits .and .u8 (x4.toNat:Int) 192) != 128) then
   some (.inr ())
  else
   idx p0 v14>>=fun x5 =>
   Qg9 p0 p2 (bits .or .i32 (IntKind.i32.wrap (v1*2 ^ (min (6:Int).toNat (IntKind.i32.bits)))) (IntKind.i32.wrap (bits .and .u8 (x5.toNat:Int) 63))) (wr (v14+1))
 else
  some (.inl v1)
 partial_fixpoint
theorem Qn7:∀ (p0:(List UInt8)) (p2:Int),(∀ (v1:Int) (v14:Int) (o1:Int⊕Unit),Qg9 p0 p2 v1 v14=some o1→TL (0,0) Try.prog 32 Qk0 (JP2 (0,0) 32 o1 (.exit 0) (Qhs p0 p2) .ret (Qht p0 p2)) (Qf0 p0 p2 v1 v14)):=by
 intro p0 p2
 refine Qg9.partial_correctness p0 p2 _ ?_
 intro Qg9' iQg9 v1 v14 o1 h
 refine TL.round (Qak mixed tbOk (lv:=Qn0) _ _ _ ?_)
 refine Qae h (fun hb h=>?_) (fun hb h=>?_)
 ·refine Qln h (fun x4 hi h=>?_)
  refine Qae h (fun hb h=>?_) (fun hb h=>?_)
  ·exact JP2.b h (Le.tz 0 0 rfl rfl rfl)
  ·refine And.intro (by decide) ?_
   refine Qln h (fun x5 hi h=>?_)
   refine vrfl ?_
   refine TL.le (τ := Qf0 p0 p2 (bits .or .i32 (IntKind.i32.wrap (v1*2 ^ (min (6:Int).toNat (IntKind.i32.bits)))) (IntKind.i32.wrap (bits .and .u8 (x5.toNat:Int) 63))) (wr (v14+1))) ?_ ((iQg9 (bits .or .i32 (IntKind.i32.wrap (v1*2 ^ (min (6:Int).toNat (IntKind.i32.bits)))) (IntKind.i32.wrap (bits .and .u8 (x5.toNat:Int) 63))) (wr (v14+1)) _ h))
   exact Le.tz 0 0 rfl rfl rfl
 ·exact JP2.a h (Le.tz 0 0 rfl rfl rfl)
theorem Qo8:∀ (p0:(List UInt8)) (p2:Int) (v1:Int) (v14:Int) (o1:Int⊕Unit),Qg9 p0 p2 v1 v14=some o1→TL (0,0) Try.prog 32 Qk0 (JP2 (0,0) 32 o1 (.exit 0) (Qhs p0 p2) .ret (Qht p0 p2)) (Qf0 p0 p2 v1 v14):=fun p0 p2 v1 v14=>(Qn7 p0 p2) v1 v14
noncomputable def Qq6 (p0:(List UInt8)) (p1:Int) (p2:Int):Option (Int×Bool) :=
 if(decide ((p0.length:Int)<p2)) then
  some (0,false)
 else
  (Qg9 p0 p2 p1 0)>>=fun o1 =>
  match o1 with
  | .inl y2 =>
   some (y2,true)
  | .inr y3 =>
   some (0,false)
theorem Qt1:∀ (p0:(List UInt8)) (p1:Int) (p2:Int) (o:Int×Bool),Qq6 p0 p1 p2=some o→PCall Try.prog 86 [sV p0,nV .i32 p1,iV p2] (Qhz o):=by
 intro p0 p1 p2 o h
 unfold Qq6 at h
 refine PCall.ofB mixed tbOk Qn0 Try.func86 rfl (by kernel_rfl) (Nat.le_of_ble_eq_true rfl) ?_
 refine vrfl ?_
 refine Qae h (fun hb h=>?_) (fun hb h=>?_)
 ·refine Qay (t:=Qhz) h ?_
  exact .refl _
 ·refine Qaj h (fun o1 ho hk=>?_)
  refine Exists.intro (JP2 _ _ o1 (.exit 0) (Qhs p0 p2) .ret (Qht p0 p2)) (And.intro (T_le (τ := Qf0 p0 p2 p1 0) ?_ (TL.loop (Qo8 p0 p2 p1 0 o1 ho))) (join2 (fun y2 hy=>?_) (fun y3 hy=>?_)))
  ·exact Le.tz 0 0 rfl rfl rfl
  ·have h:=(by rw[hy] at hk; exact hk)
   refine Qay (t:=Qhz) h ?_
   exact .refl _
  ·have h:=(by rw[hy] at hk; exact hk)
   refine Qay (t:=Qhz) h ?_
   exact .refl _
noncomputable def Qq7 (p0:(List UInt8)) (p1:Int):Option (Int×Int) :=
 ( if(decide (p1<0)) then
   some true
  else
   some (decide (p1 ≥ (p0.length:Int))):Option (Bool))>>=fun o1 =>
 if o1 then
  some (0,0)
 else
  idx p0 p1>>=fun x2 =>
  ( if(decide ((x2.toNat:Int)<128)) then
    some (.inr (IntKind.i32.wrap (x2.toNat:Int)))
   else
    ( if(decide ((x2.toNat:Int) ≥ 192)) then
      some (decide ((x2.toNat:Int)<224))
     else
      some false:Option (Bool))>>=fun o6 =>
    if o6 then
     some (.inl ((IntKind.i32.wrap (bits .and .u8 (x2.toNat:Int) 31)),128,1))
    else
     ( if(decide ((x2.toNat:Int) ≥ 224)) then
       some (decide ((x2.toNat:Int)<240))
      else
       some false:Option (Bool))>>=fun o7 =>
     if o7 then
      some (.inl ((IntKind.i32.wrap (bits .and .u8 (x2.toNat:Int) 15)),2048,2))
     else
      ( if(decide ((x2.toNat:Int) ≥ 240)) then
        some (decide ((x2.toNat:Int)<248))
       else
        some false:Option (Bool))>>=fun o8 =>
      if o8 then
       some (.inl ((IntKind.i32.wrap (bits .and .u8 (x2.toNat:Int) 7)),65536,3))
      else
       some (.inr 65533):Option ((Int×Int×Int)⊕Int))>>=fun o3 =>
  match o3 with
  | .inl y4 =>
   cutL p0 (wr (p1+1)) (p0.length:Int)>>=fun x9 =>
   Qq6 x9 y4.1 y4.2.2>>=fun x10 =>
   ( if(!x10.2) then
     some true
    else
     if(decide (x10.1<y4.2.1)) then
      some true
     else
      Qw6 x10.1>>=fun x12 =>
      some (!x12):Option (Bool))>>=fun o11 =>
   if o11 then
    some (65533,1)
   else
    some (x10.1,(wr (y4.2.2+1)))
  | .inr y5 =>
   some (y5,1)
theorem Qt2:∀ (p0:(List UInt8)) (p1:Int) (o:Int×Int),Qq7 p0 p1=some o→PCall Try.prog 85 [sV p0,iV p1] (Qgx o):=by
 intro p0 p1 o h
 unfold Qq7 at h
 refine PCall.ofB mixed tbOk Qty Try.func85 rfl (by kernel_rfl) (Nat.le_of_ble_eq_true rfl) ?_
 refine Qaj h (fun o1 ho hk=>?_)
 refine Exists.intro (JP1 _ _ o1 .normal (Qqv p0 p1)) (And.intro ?_ (join1 ?_))
 ·have h:=ho
  refine Qae h (fun hb h=>?_) (fun hb h=>?_)
  ·refine JP1.a h ?_
   exact Le.tz 0 0 rfl rfl rfl
  ·refine vrfl ?_
   refine JP1.a h ?_
   exact Le.tz 0 0 rfl rfl rfl
 ·have h:=hk
  refine Qae h (fun hb h=>?_) (fun hb h=>?_)
  ·refine Qay (t:=Qgx) h ?_
   exact .refl _
  ·refine Qln h (fun x2 hi h=>?_)
   refine Qaj h (fun o3 ho hk=>?_)
   refine Exists.intro (JP2 _ _ o3 .normal (Qqw p0 p1) .ret (Qqx p0 p1)) (And.intro ?_ (join2 (fun y4 hy=>?_) (fun y5 hy=>?_)))
   ·have h:=ho
    refine Qae h (fun hb h=>?_) (fun hb h=>?_)
    ·refine vrfl ?_
     refine JP2.b h ?_
     exact Le.tz 0 0 rfl rfl rfl
    ·refine Qaj h (fun o6 ho hk=>?_)
     refine Exists.intro (JP1 _ _ o6 .normal (Qqy p0 p1 x2)) (And.intro ?_ (join1 ?_))
     ·have h:=ho
      refine Qae h (fun hb h=>?_) (fun hb h=>?_)
      ·refine JP1.a h ?_
       exact Le.tz 0 0 rfl rfl rfl
      ·refine JP1.a h ?_
       exact Le.tz 0 0 rfl rfl rfl
     ·have h:=hk
      refine Qae h (fun hb h=>?_) (fun hb h=>?_)
      ·refine vrfl ?_
       refine JP2.a h ?_
       exact Le.tz 0 0 rfl rfl rfl
      ·refine Qaj h (fun o7 ho hk=>?_)
       refine Exists.intro (JP1 _ _ o7 .normal (Qqz p0 p1 x2)) (And.intro ?_ (join1 ?_))
       ·have h:=ho
        refine Qae h (fun hb h=>?_) (fun hb h=>?_)
        ·refine JP1.a h ?_
         exact Le.tz 0 0 rfl rfl rfl
        ·refine JP1.a h ?_
         exact Le.tz 0 0 rfl rfl rfl
       ·have h:=hk
        refine Qae h (fun hb h=>?_) (fun hb h=>?_)
        ·refine vrfl ?_
         refine JP2.a h ?_
         exact Le.tz 0 0 rfl rfl rfl
        ·refine Qaj h (fun o8 ho hk=>?_)
         refine Exists.intro (JP1 _ _ o8 .normal (Qq0 p0 p1 x2)) (And.intro ?_ (join1 ?_))
         ·have h:=ho
          refine Qae h (fun hb h=>?_) (fun hb h=>?_)
          ·refine JP1.a h ?_
           exact Le.tz 0 0 rfl rfl rfl
          ·refine JP1.a h ?_
           exact Le.tz 0 0 rfl rfl rfl
         ·have h:=hk
          refine Qae h (fun hb h=>?_) (fun hb h=>?_)
          ·refine vrfl ?_
           refine JP2.a h ?_
           exact Le.tz 0 0 rfl rfl rfl
          ·refine JP2.b h ?_
           exact Le.tz 0 0 rfl rfl rfl
   ·have h:=(by rw[hy] at hk; exact hk)
    refine Qws (some (wr (p1+1))) none h (fun x9 hi h=>?_)
    refine Qan [sV x9,nV .i32 y4.1,iV y4.2.2] Qhz h (fun x10 hy=>(Qt1 x9 y4.1 y4.2.2 x10 hy)) (fun x10 hy h=>?_)
    refine Qaj h (fun o11 ho hk=>?_)
    refine Exists.intro (JP1 _ _ o11 .normal (Qq1 y4 x10)) (And.intro ?_ (join1 ?_))
    ·have h:=ho
     refine Qae h (fun hb h=>?_) (fun hb h=>?_)
     ·refine bT ?_
      refine JP1.a h ?_
      exact Le.tz 0 0 rfl rfl rfl
     ·refine Qae h (fun hb h=>?_) (fun hb h=>?_)
      ·refine JP1.a h ?_
       exact Le.tz 0 0 rfl rfl rfl
      ·refine Qan [nV .i32 x10.1] Qq2 h (fun x12 hy=>(Qw7 x10.1 x12 hy)) (fun x12 hy h=>?_)
       refine JP1.a h ?_
       exact Le.tz 0 0 rfl rfl rfl
    ·have h:=hk
     refine Qae h (fun hb h=>?_) (fun hb h=>?_)
     ·refine Qay (t:=Qgx) h ?_
      exact .refl _
     ·refine Qay (t:=Qgx) h ?_
      exact .refl _
   ·have h:=(by rw[hy] at hk; exact hk)
    refine Qay (t:=Qgx) h ?_
    exact .refl _
noncomputable def Qgb (p0:(List UInt8)) (v3:Int):Option ((List (Int×Int))×(Unit)) :=
 if(decide (v3<(p0.length:Int))) then
  Qq7 p0 v3>>=fun x3 =>
  ( Qgb p0 (wr (v3+x3.2)))>>=fun q=>some ((x3.1,x3.2)::q.1,q.2)
 else
  some ([],())
 partial_fixpoint
theorem Qmn:∀ (p0:(List UInt8)),(∀ (v3:Int) (o2:(List (Int×Int))×(Unit)),Qgb p0 v3=some o2→∀ (gxs gp gpost gq1:List (List V)),gxs=gp++(o2.1.map Qd0++gpost)→gxs=gq1++gpost→TL (0,1) Try.prog 24 Qj6 (Qs (0,1) 24 gxs (JP1 (0,1) 24 o2.2 (.exit 0) (Qg8 p0 gxs gq1))) (Qe8 p0 v3 gxs gp)):=by
 intro p0
 refine Qgb.partial_correctness p0 _ ?_
 intro Qgb' iQgb v3 o2 h
 intro gxs gp gpost gq1 hx hq
 refine TL.round (Qak mixed tbOk (lv:=Ql9) _ _ _ ?_)
 refine vrfl ?_
 refine Qae h (fun hb h=>?_) (fun hb h=>?_)
 ·refine Qan [sV p0,iV v3] Qgx h (fun x3 hy=>(Qt2 p0 v3 x3 hy)) (fun x3 hy h=>?_)
  refine Qwv (c:=Qd0) h hx (.refl _) (by exact rfl) (by exact rfl) (fun _ h hx=>?_) ?_
  ·refine bF ?_
   refine TL.le (τ := Qe8 p0 (wr (v3+x3.2)) gxs (gp++[Qd0 (x3.1,x3.2)])) ?_ ((iQgb (wr (v3+x3.2)) _ h) _ _ _ _ hx hq)
   exact Le.tz 0 1 rfl rfl rfl
  ·refine bT ?_
   exact .inr ⟨rfl,_,(Le.env0 _).trans (Le.tow 0 1 rfl .nil (.refl _) rfl),rfl,rfl,rfl⟩
 ·exact .inl (JP1.a (sndI h) (Le.tz 0 1 rfl rfl (liveQ h hx hq rfl)))
theorem Qn8:∀ (p0:(List UInt8)) (v3:Int) (o2:(List (Int×Int))×(Unit)),Qgb p0 v3=some o2→∀ (gxs gp gpost gq1:List (List V)),gxs=gp++(o2.1.map Qd0++gpost)→gxs=gq1++gpost→TL (0,1) Try.prog 24 Qj6 (Qs (0,1) 24 gxs (JP1 (0,1) 24 o2.2 (.exit 0) (Qg8 p0 gxs gq1))) (Qe8 p0 v3 gxs gp):=fun p0 v3=>(Qmn p0) v3
noncomputable def Qn9 (p0:(List UInt8)):Option ((List (Int×Int))×Unit) :=
 ( Qgb p0 0)>>=fun o2=>(
  some ([],()))>>=fun q=>some (o2.1++q.1,q.2)
theorem Qss:∀ (p0:(List UInt8)) (o:(List (Int×Int))×Unit),Qn9 p0=some o→∀ gxs:List (List V),gxs=o.1.map Qd0→IterOK Try.prog 84 [.ep [sV p0]] gxs:=by
 intro p0 o h
 unfold Qn9 at h
 intro gxs hg
 have hx:gxs=[]++(o.1.map Qd0++[]):=by simp[hg]
 refine IterOK.ofB mixed tbOk Ql9 Try.func84 rfl (by kernel_rfl) (Nat.le_of_ble_eq_true rfl) rfl ?_
 refine Qmz h hx (fun o2 lgq1 gq1 ho hk hxa hjgq1=>?_)
 refine Exists.intro (Qs _ _ gxs (JP1 _ _ o2.2 (.exit 0) (Qg8 p0 gxs gq1))) (And.intro (T_le (τ := Qe8 p0 0 gxs ([]:List (List V))) ?_ (TL.loop ((Qn8 p0 0 o2 ho) _ _ _ _ hxa hjgq1))) (joinS (join1 ?_) ?_))
 ·exact Le.tz 0 1 rfl rfl rfl
 ·have h:=hk
  have hx:=hjgq1
  exact Qwu h hx (.inl rfl) rfl
 ·exact fun s1 h1 h2 hs=>Qux (.inr rfl) hs
noncomputable def Qw8 (p0:(List UInt8)):Option (Bool) :=
 Qt0 p0>>=fun x1 =>
 Qn9 x1>>=fun y5 =>
 (Qjk x1 y5.1)>>=fun o6 =>
 match o6 with
 | .inl y7 =>
  some true
 | .inr y8 =>
  some false
theorem Qw9:∀ (p0:(List UInt8)) (o:Bool),Qw8 p0=some o→PCall Try.prog 74 [sV p0] (Qm0 o):=by
 intro p0 o h
 unfold Qw8 at h
 refine PCall.ofB mixed tbOk Qny Try.func74 rfl (by kernel_rfl) (Nat.le_of_ble_eq_true rfl) ?_
 refine Qan [sV p0] Qnz h (fun x1 hy=>(Qvv p0 x1 hy)) (fun x1 hy h=>?_)
 refine Qaj h (fun y5 hy5 h=>?_)
 refine Qaj h (fun o6 ho hk=>?_)
 refine Exists.intro (JP2 _ _ o6 .normal (Qjh x1) .ret (Qji x1)) (And.intro (T_le (τ := Qey x1) ?_ (Qql (g:=84) (cap:=[.ep [sV x1]]) rfl ((Qss x1 y5 hy5) _ rfl) (mapSize fun _=>rfl) rfl (Nat.le_of_ble_eq_true rfl) (Nat.le_of_ble_eq_true rfl) (Qsr x1 y5.1 o6 ho))) (join2 (fun y7 hy=>?_) (fun y8 hy=>?_)))
 ·exact Le.tz 1 0 rfl rfl rfl
 ·have h:=(by rw[hy] at hk; exact hk)
  refine Qay (t:=Qm0) h ?_
  exact .refl _
 ·have h:=(by rw[hy] at hk; exact hk)
  refine Qay (t:=Qm0) h ?_
  exact .refl _
noncomputable def Qh3 (p0:(List UInt8)):Option ((List UInt8)×Bool) :=
 ( Qw8 p0>>=fun x2 =>
  if(!x2) then
   some true
  else
   strings_IndexByte p0 13>>=fun x3 =>
   some (decide (x3 ≥ 0)):Option (Bool))>>=fun o1 =>
 if o1 then
  some ([],false)
 else
  (Qdi p0 [34] 0)>>=fun o4 =>
  appL 1 o4 [34]>>=fun x11 =>
  b2s x11>>=fun x12 =>
  some (x12,true)
theorem Qst:∀ (p0:(List UInt8)) (o:(List UInt8)×Bool),Qh3 p0=some o→PCall Try.prog 70 [sV p0] (Qid o):=by
 intro p0 o h
 unfold Qh3 at h
 refine PCall.ofB mixed tbOk Ql8 Try.func70 rfl (by kernel_rfl) (Nat.le_of_ble_eq_true rfl) ?_
 refine Qaj h (fun o1 ho hk=>?_)
 refine Exists.intro (JP1 _ _ o1 .normal (Qoo p0)) (And.intro ?_ (join1 ?_))
 ·have h:=ho
  refine Qan [sV p0] Qm0 h (fun x2 hy=>(Qw9 p0 x2 hy)) (fun x2 hy h=>?_)
  refine Qae h (fun hb h=>?_) (fun hb h=>?_)
  ·refine JP1.a h ?_
   exact Le.tz 0 0 rfl rfl rfl
  ·refine Qan [sV p0,nV .u8 13] Qer h (fun x3 hy=>(Qj2 p0 13 x3 hy)) (fun x3 hy h=>?_)
   refine JP1.a h ?_
   exact Le.tz 0 0 rfl rfl rfl
 ·have h:=hk
  refine Qae h (fun hb h=>?_) (fun hb h=>?_)
  ·refine Qay (t:=Qid) h ?_
   exact .refl _
  ·refine vrfl ?_
   refine Qaj h (fun o4 ho hk=>?_)
   refine Exists.intro (JP1 _ _ o4 (.exit 0) (Qg5 p0)) (And.intro (T_le (τ := Qco p0 [34] 0) ?_ (TL.loop (Qn6 p0 [34] 0 o4 ho))) (join1 ?_))
   ·exact Le.trans (τ := ⟨[(0,.p (sV p0)),(4,.p (.sl true ([34].map (cNum .u8)))),(17,.p (iV (p0.length:Int))),(18,.p (iV 0))],⟨[],[]⟩⟩) (Le.tz 0 0 rfl rfl rfl) ((Le.ownW 4 5 1 rfl (mapSize fun _=>rfl)).trans (Le.tz 0 1 rfl rfl rfl))
   have h:=hk
   refine Qnm (a:=o4) (b:=[34]) (c:=(cNum .u8)) h (.refl _) (fun _=>rfl) rfl (fun x11 hi h=>?_)
   refine Qym (l:=x11) h (fun x12 hi h=>?_)
   refine Qay (t:=Qid) h ?_
   exact .refl _
noncomputable def Qez (p0:Qab):Option (Qb5) :=
 some (Qb5.mk (!(p0.Name==[])) (!(p0.Text==[])) (p0.N != 0) (decide ((p0.Then.length:Int)>0)) (decide ((p0.Else.length:Int)>0)) (p0.L.length:Int))
theorem Qjl:∀ (p0:Qab) (o:Qb5),Qez p0=some o→PCall Try.prog 64 [.agg [iV p0.Kind,sV p0.Name,sV p0.Text,iV p0.N,.sl false (p0.L.map Qaa),.sl false (p0.Then.map Qaa),.sl false (p0.Else.map Qaa)]] (Qfz o):=by
 intro p0 o h
 unfold Qez at h
 refine PCall.ofB mixed tbOk Qnx Try.func64 rfl (by kernel_rfl) (Nat.le_of_ble_eq_true rfl) ?_
 refine view (lenMap _ _) rfl ?_
 refine view (lenMap _ _) rfl ?_
 refine view (lenMap _ _) rfl ?_
 refine Qay (t:=Qfz) h ?_
 exact .refl _
mutual
noncomputable def Qaq (p0:(List Qab)):Option (Bool) :=
 Qa4 p0>>=fun x1 =>
 some (decide (x1 ≥ 0))
 partial_fixpoint
noncomputable def Qa4 (p0:(List Qab)):Option (Int) :=
 (Qai p0 0)>>=fun o1 =>
 match o1 with
 | .inl y2 =>
  some (-1)
 | .inr y3 =>
  some y3
 partial_fixpoint
noncomputable def Qai (p0:(List Qab)) (v8:Int):Option (Unit⊕Int) :=
 if(decide (v8<(p0.length:Int))) then
  idx p0 v8>>=fun x4 =>
  Qkf x4>>=fun x5 =>
  if x5 then
   some (.inr v8)
  else
   Qai p0 (wr (v8+1))
 else
  some (.inl ())
 partial_fixpoint
noncomputable def Qkf (p0:Qab):Option (Bool) :=
 Qdo p0>>=fun x1 =>
 some (!x1)
 partial_fixpoint
noncomputable def Qdo (p0:Qab):Option (Bool) :=
 Qez p0>>=fun x1 =>
 if(p0.Kind==1) then
  Qh3 p0.Text>>=fun x2 =>
  ( if x2.2 then
    some ((x1.name_==false)&&((x1.text_==x1.text_)&&((x1.num_==false)&&((x1.then_==false)&&((x1.other_==false)&&((x1.l_==0)&&true))))))
   else
    some false:Option (Bool))>>=fun o3 =>
  some o3
 else
  if(p0.Kind==2) then
   some ((x1.name_==false)&&((x1.text_==false)&&((x1.num_==x1.num_)&&((x1.then_==false)&&((x1.other_==false)&&((x1.l_==0)&&true))))))
  else
   if(p0.Kind==3) then
    ( if((bits .andNot .i64 p0.N 1)==0) then
      some ((x1.name_==false)&&((x1.text_==false)&&((x1.num_==x1.num_)&&((x1.then_==false)&&((x1.other_==false)&&((x1.l_==0)&&true))))))
     else
      some false:Option (Bool))>>=fun o4 =>
    some o4
   else
    if(p0.Kind==4) then
     ( Qfa p0.Name>>=fun x6 =>
      if x6 then
       some ((x1.name_==true)&&((x1.text_==false)&&((x1.num_==false)&&((x1.then_==false)&&((x1.other_==false)&&((x1.l_==0)&&true))))))
      else
       some false:Option (Bool))>>=fun o5 =>
     some o5
    else
     if(p0.Kind==7) then
      ( Qii p0.Name>>=fun x8 =>
       if x8 then
        some ((x1.name_==true)&&((x1.text_==false)&&((x1.num_==false)&&((x1.then_==false)&&((x1.other_==false)&&((x1.l_==0)&&true))))))
       else
        some false:Option (Bool))>>=fun o7 =>
      some o7
     else
      if(p0.Kind==5) then
       ( Qii p0.Name>>=fun x10 =>
        if x10 then
         if((x1.name_==true)&&((x1.text_==false)&&((x1.num_==false)&&((x1.then_==false)&&((x1.other_==false)&&((x1.l_==1)&&true)))))) then
          idx p0.L 0>>=fun x11 =>
          Qdo x11>>=fun x12 =>
          some x12
         else
          some false
        else
         some false:Option (Bool))>>=fun o9 =>
       some o9
      else
       if(p0.Kind==6) then
        ( Qfa p0.Name>>=fun x14 =>
         if x14 then
          if((x1.name_==true)&&((x1.text_==false)&&((x1.num_==false)&&((x1.then_==false)&&((x1.other_==false)&&((x1.l_==(if 3<x1.l_ then 3 else x1.l_))&&true)))))) then
           Qaq p0.L>>=fun x15 =>
           some (!x15)
          else
           some false
         else
          some false:Option (Bool))>>=fun o13 =>
        some o13
       else
        some false
 partial_fixpoint
end
theorem Qcb:(∀ (p0:(List Qab)) (o:Bool),Qaq p0=some o→CallOK Try.prog 71 [.p (.sl false (p0.map Qaa)),.fn (.func 72) [] []] ⟨[],[]⟩ (Qbe o) ⟨[],[]⟩)∧(∀ (p0:(List Qab)) (o:Int),Qa4 p0=some o→CallOK Try.prog 76 [.p (.sl false (p0.map Qaa)),.fn (.func 72) [] []] ⟨[],[]⟩ (Qa2 o) ⟨[],[]⟩)∧(∀ (p0:(List Qab)) (v8:Int) (o1:Unit⊕Int),Qai p0 v8=some o1→TL (0,0) Try.prog 19 Qcq (JP2 (0,0) 19 o1 (.exit 0) (Qbb p0) .ret (Qbc p0)) (Qav p0 v8))∧(∀ (p0:Qab) (o:Bool),Qkf p0=some o→PCall Try.prog 72 [.agg [iV p0.Kind,sV p0.Name,sV p0.Text,iV p0.N,.sl false (p0.L.map Qaa),.sl false (p0.Then.map Qaa),.sl false (p0.Else.map Qaa)]] (Qig o))∧(∀ (p0:Qab) (o:Bool),Qdo p0=some o→PCall Try.prog 66 [.agg [iV p0.Kind,sV p0.Name,sV p0.Text,iV p0.N,.sl false (p0.L.map Qaa),.sl false (p0.Then.map Qaa),.sl false (p0.Else.map Qaa)]] (Qbx o)):=by
 refine Qaq.mutual_partial_correctness _ _ _ _ _ ?_ ?_ ?_ ?_ ?_
 ·intro Qa4' iQa4 p0 o h
  refine CallOK.ofB mixed tbOk Qcl Try.func71 rfl (by kernel_rfl) (Nat.le_of_ble_eq_true rfl) rfl rfl rfl ?_
  refine Qdj _ _ h (fun x1 hy=>((iQa4 p0 x1 hy).fr [] [] rfl rfl rfl)) (fun x1 hy h=>?_)
  refine Exists.intro _ (And.intro (Le.refl _ _ _) ?_)
  exact Qep (t:=Qbe) (ss:=fun o=>⟨[],[]⟩) h ⟨[],rfl,.refl _,.refl _,rfl⟩
 ·intro Qai' iQai p0 o h
  refine CallOK.ofB mixed tbOk Qbj Try.func76 rfl (by kernel_rfl) (Nat.le_of_ble_eq_true rfl) rfl rfl rfl ?_
  refine view (lenMap _ _) rfl ?_
  refine Qaj h (fun o1 ho hk=>?_)
  refine Exists.intro (JP2 _ _ o1 (.exit 0) (Qbb p0) .ret (Qbc p0)) (And.intro (T_le (τ := Qav p0 0) ?_ (TL.loop (iQai p0 0 o1 ho))) (join2 (fun y2 hy=>?_) (fun y3 hy=>?_)))
  ·exact Le.tz 0 0 rfl rfl rfl
  ·have h:=(by rw[hy] at hk; exact hk)
   refine Exists.intro _ (And.intro (Le.refl _ _ _) ?_)
   exact Qep (t:=Qa2) (ss:=fun o=>⟨[],[]⟩) h ⟨[],rfl,.refl _,.refl _,rfl⟩
  ·have h:=(by rw[hy] at hk; exact hk)
   refine Exists.intro _ (And.intro (Le.refl _ _ _) ?_)
   exact Qep (t:=Qa2) (ss:=fun o=>⟨[],[]⟩) h ⟨[],rfl,.refl _,.refl _,rfl⟩
 ·intro Qai' Qkf' iQai iQkf p0 v8 o1 h
  refine TL.round (Qak mixed tbOk (lv:=Qbj) _ _ _ ?_)
  refine Qae h (fun hb h=>?_) (fun hb h=>?_)
  ·refine Qew (l:=p0) (c:=Qaa) (c' := Qd7) h Qa6 (fun _=>rfl) (by decide) (fun x4 hi h=>?_)
   refine Qan [.agg [iV x4.Kind,sV x4.Name,sV x4.Text,iV x4.N,.sl false (x4.L.map Qaa),.sl false (x4.Then.map Qaa),.sl false (x4.Else.map Qaa)]] Qig h (fun x5 hy=>(iQkf x4 x5 hy)) (fun x5 hy h=>?_)
   refine Qae h (fun hb h=>?_) (fun hb h=>?_)
   ·exact JP2.b h (Le.tz 0 0 rfl rfl rfl)
   ·refine TL.le (τ := Qav p0 (wr (v8+1))) ?_ ((iQai p0 (wr (v8+1)) _ h))
    exact Le.tz 0 0 rfl rfl rfl
  ·exact JP2.a h (Le.tz 0 0 rfl rfl rfl)
 ·intro Qdo' iQdo p0 o h
  refine PCall.ofB mixed tbOk Qoy Try.func72 rfl (by kernel_rfl) (Nat.le_of_ble_eq_true rfl) ?_
  refine Qan [.agg [iV p0.Kind,sV p0.Name,sV p0.Text,iV p0.N,.sl false (p0.L.map Qaa),.sl false (p0.Then.map Qaa),.sl false (p0.Else.map Qaa)]] Qbx h (fun x1 hy=>(iQdo p0 x1 hy)) (fun x1 hy h=>?_)
  refine Qay (t:=Qig) h ?_
  exact .refl _
 ·intro Qaq' Qdo' iQaq iQdo p0 o h
  refine PCall.ofB mixed tbOk Qso Try.func66 rfl (by kernel_rfl) (Nat.le_of_ble_eq_true rfl) ?_
  refine Qan [.agg [iV p0.Kind,sV p0.Name,sV p0.Text,iV p0.N,.sl false (p0.L.map Qaa),.sl false (p0.Then.map Qaa),.sl false (p0.Else.map Qaa)]] Qfz h (fun x1 hy=>(Qjl p0 x1 hy)) (fun x1 hy h=>?_)
  refine Qae h (fun hb h=>?_) (fun hb h=>?_)
  ·refine Qan [sV p0.Text] Qid h (fun x2 hy=>(Qst p0.Text x2 hy)) (fun x2 hy h=>?_)
   refine Qaj h (fun o3 ho hk=>?_)
   refine Exists.intro (JP1 _ _ o3 .normal (Qos p0 x1)) (And.intro ?_ (join1 ?_))
   ·have h:=ho
    refine Qae h (fun hb h=>?_) (fun hb h=>?_)
    ·refine And.intro rfl ?_
     refine JP1.a h ?_
     exact Le.tz 3 0 rfl rfl rfl
    ·refine JP1.a h ?_
     exact Le.tz 3 0 rfl rfl rfl
   ·have h:=hk
    refine Qay (t:=Qbx) h ?_
    exact .refl _
  ·refine Qae h (fun hb h=>?_) (fun hb h=>?_)
   ·refine And.intro rfl ?_
    refine Qay (t:=Qbx) h ?_
    exact .refl _
   ·refine Qae h (fun hb h=>?_) (fun hb h=>?_)
    ·refine Qaj h (fun o4 ho hk=>?_)
     refine Exists.intro (JP1 _ _ o4 .normal (Qot p0 x1)) (And.intro ?_ (join1 ?_))
     ·have h:=ho
      refine Qae h (fun hb h=>?_) (fun hb h=>?_)
      ·refine And.intro rfl ?_
       refine JP1.a h ?_
       exact Le.tz 3 0 rfl rfl rfl
      ·refine JP1.a h ?_
       exact Le.tz 3 0 rfl rfl rfl
     ·have h:=hk
      refine Qay (t:=Qbx) h ?_
      exact .refl _
    ·refine Qae h (fun hb h=>?_) (fun hb h=>?_)
     ·refine Qaj h (fun o5 ho hk=>?_)
      refine Exists.intro (JP1 _ _ o5 .normal (Qou p0 x1)) (And.intro ?_ (join1 ?_))
      ·have h:=ho
       refine Qan [sV p0.Name] Qdy h (fun x6 hy=>(Qga p0.Name x6 hy)) (fun x6 hy h=>?_)
       refine Qae h (fun hb h=>?_) (fun hb h=>?_)
       ·refine And.intro rfl ?_
        refine JP1.a h ?_
        exact Le.tz 3 0 rfl rfl rfl
       ·refine JP1.a h ?_
        exact Le.tz 3 0 rfl rfl rfl
      ·have h:=hk
       refine Qay (t:=Qbx) h ?_
       exact .refl _
     ·refine Qae h (fun hb h=>?_) (fun hb h=>?_)
      ·refine Qaj h (fun o7 ho hk=>?_)
       refine Exists.intro (JP1 _ _ o7 .normal (Qov p0 x1)) (And.intro ?_ (join1 ?_))
       ·have h:=ho
        refine Qan [sV p0.Name] Qgw h (fun x8 hy=>(Qke p0.Name x8 hy)) (fun x8 hy h=>?_)
        refine Qae h (fun hb h=>?_) (fun hb h=>?_)
        ·refine And.intro rfl ?_
         refine JP1.a h ?_
         exact Le.tz 3 0 rfl rfl rfl
        ·refine JP1.a h ?_
         exact Le.tz 3 0 rfl rfl rfl
       ·have h:=hk
        refine Qay (t:=Qbx) h ?_
        exact .refl _
      ·refine Qae h (fun hb h=>?_) (fun hb h=>?_)
       ·refine Qaj h (fun o9 ho hk=>?_)
        refine Exists.intro (JP1 _ _ o9 .normal (Qow p0 x1)) (And.intro ?_ (join1 ?_))
        ·have h:=ho
         refine Qan [sV p0.Name] Qgw h (fun x10 hy=>(Qke p0.Name x10 hy)) (fun x10 hy h=>?_)
         refine Qae h (fun hb h=>?_) (fun hb h=>?_)
         ·refine And.intro rfl ?_
          refine Qae h (fun hb h=>?_) (fun hb h=>?_)
          ·refine Qew (l:=p0.L) (c:=Qaa) (c' := Qd7) h Qa6 (fun _=>rfl) (by decide) (fun x11 hi h=>?_)
           refine Qan [.agg [iV x11.Kind,sV x11.Name,sV x11.Text,iV x11.N,.sl false (x11.L.map Qaa),.sl false (x11.Then.map Qaa),.sl false (x11.Else.map Qaa)]] Qbx h (fun x12 hy=>(iQdo x11 x12 hy)) (fun x12 hy h=>?_)
           refine JP1.a h ?_
           exact Le.tz 3 0 rfl rfl rfl
          ·refine JP1.a h ?_
           exact Le.tz 3 0 rfl rfl rfl
         ·refine bF ?_
          refine JP1.a h ?_
          exact Le.tz 3 0 rfl rfl rfl
        ·have h:=hk
         refine Qay (t:=Qbx) h ?_
         exact .refl _
       ·refine Qae h (fun hb h=>?_) (fun hb h=>?_)
        ·refine Qaj h (fun o13 ho hk=>?_)
         refine Exists.intro (JP1 _ _ o13 .normal (Qox p0 x1)) (And.intro ?_ (join1 ?_))
         ·have h:=ho
          refine Qan [sV p0.Name] Qdy h (fun x14 hy=>(Qga p0.Name x14 hy)) (fun x14 hy h=>?_)
          refine Qae h (fun hb h=>?_) (fun hb h=>?_)
          ·refine And.intro rfl ?_
           refine Qae h (fun hb h=>?_) (fun hb h=>?_)
           ·refine Qdj _ _ h (fun x15 hy=>((iQaq p0.L x15 hy).fr [] [] rfl rfl rfl)) (fun x15 hy h=>?_)
            refine JP1.a h ?_
            exact Le.tz 3 0 rfl rfl rfl
           ·refine JP1.a h ?_
            exact Le.tz 3 0 rfl rfl rfl
          ·refine bF ?_
           refine JP1.a h ?_
           exact Le.tz 3 0 rfl rfl rfl
         ·have h:=hk
          refine Qay (t:=Qbx) h ?_
          exact .refl _
        ·refine Qay (t:=Qbx) h ?_
         exact .refl _
theorem Qsu:∀ (p0:Qab) (o:Bool),Qdo p0=some o→PCall Try.prog 66 [.agg [iV p0.Kind,sV p0.Name,sV p0.Text,iV p0.N,.sl false (p0.L.map Qaa),.sl false (p0.Then.map Qaa),.sl false (p0.Else.map Qaa)]] (Qbx o):=fun p0=>Qcb.2.2.2.2 p0
mutual
noncomputable def Qe0 (p0:(List Qab)) (p1:Bool):Option (Bool) :=
 (Qee p0 p1 0)>>=fun o1 =>
 match o1 with
 | .inl y2 =>
  some true
 | .inr y3 =>
  some false
 partial_fixpoint
noncomputable def Qee (p0:(List Qab)) (p1:Bool) (v10:Int):Option (Unit⊕Unit) :=
 if(decide (v10<(p0.length:Int))) then
  idx p0 v10>>=fun x4 =>
  Qjm x4>>=fun x5 =>
  if(!x5) then
   some (.inr ())
  else
   ( if(x4.Kind==8) then
     if(!(v10==(wr ((p0.length:Int)-1)))) then
      idx p0 (wr (v10+1))>>=fun x7 =>
      if(x7.Kind==8) then
       some true
      else
       if(v10==(wr ((p0.length:Int)-1))) then
        if(!p1) then
         strings_HasSuffix x4.Text [123]>>=fun x8 =>
         some x8
        else
         some false
       else
        strings_HasSuffix x4.Text [123]>>=fun x9 =>
        some x9
     else
      if(v10==(wr ((p0.length:Int)-1))) then
       if(!p1) then
        strings_HasSuffix x4.Text [123]>>=fun x10 =>
        some x10
       else
        some false
      else
       strings_HasSuffix x4.Text [123]>>=fun x11 =>
       some x11
    else
     some false:Option (Bool))>>=fun o6 =>
   if o6 then
    some (.inr ())
   else
    Qee p0 p1 (wr (v10+1))
 else
  some (.inl ())
 partial_fixpoint
noncomputable def Qjm (p0:Qab):Option (Bool) :=
 Qez p0>>=fun x1 =>
 ( if(p0.Kind==8) then
   ( if((x1.name_==false)&&((x1.text_==true)&&((x1.num_==false)&&((x1.then_==false)&&((x1.other_==false)&&((x1.l_==0)&&true)))))) then
     strings_Contains p0.Text [123,123]>>=fun x6 =>
     some (!x6)
    else
     some false:Option (Bool))>>=fun o5 =>
   some (.inr o5)
  else
   if(p0.Kind==9) then
    some (.inl (false,false,false))
   else
    if(p0.Kind==10) then
     some (.inl (false,x1.then_,x1.other_))
    else
     ( if(p0.Kind==11) then
       some (p0.Kind==11)
      else
       some (p0.Kind==12):Option (Bool))>>=fun o7 =>
     if o7 then
      Qfa p0.Name>>=fun x8 =>
      some (.inl (x8,x1.then_,false))
     else
      if(p0.Kind==13) then
       Qfa p0.Name>>=fun x9 =>
       some (.inl (x9,false,false))
      else
       some (.inr false):Option ((Bool×Bool×Bool)⊕Bool))>>=fun o2 =>
 match o2 with
 | .inl y3 =>
  ( if(p0.Kind==11) then
    some true
   else
    if(p0.Kind==12) then
     some true
    else
     some (p0.Kind==13):Option (Bool))>>=fun o10 =>
  ( if(y3.1==o10) then
    if((x1.name_==y3.1)&&((x1.text_==false)&&((x1.num_==false)&&((x1.then_==y3.2.1)&&((x1.other_==y3.2.2)&&((x1.l_==1)&&true)))))) then
     idx p0.L 0>>=fun x12 =>
     Qdo x12>>=fun x13 =>
     if x13 then
      Qe0 p0.Then false>>=fun x14 =>
      if x14 then
       Qe0 p0.Else false>>=fun x15 =>
       some x15
      else
       some false
     else
      some false
    else
     some false
   else
    some false:Option (Bool))>>=fun o11 =>
  some o11
 | .inr y4 =>
  some y4
 partial_fixpoint
end
theorem Qo9:(∀ (p0:(List Qab)) (p1:Bool) (o:Bool),Qe0 p0 p1=some o→PCall Try.prog 38 [.sl false (p0.map Qaa),bV p1] (Qdz o))∧(∀ (p0:(List Qab)) (p1:Bool) (v10:Int) (o1:Unit⊕Unit),Qee p0 p1 v10=some o1→TL (0,0) Try.prog 52 Qnw (JP2 (0,0) 52 o1 (.exit 0) (Qix p0 p1) .ret (Qiy p0 p1)) (Qgj p0 p1 v10))∧(∀ (p0:Qab) (o:Bool),Qjm p0=some o→PCall Try.prog 54 [.agg [iV p0.Kind,sV p0.Name,sV p0.Text,iV p0.N,.sl false (p0.L.map Qaa),.sl false (p0.Then.map Qaa),.sl false (p0.Else.map Qaa)]] (Qih o)):=by
 refine Qe0.mutual_partial_correctness _ _ _ ?_ ?_ ?_
 ·intro Qee' iQee p0 p1 o h
  refine PCall.ofB mixed tbOk Qkz Try.func38 rfl (by kernel_rfl) (Nat.le_of_ble_eq_true rfl) ?_
  refine view (lenMap _ _) rfl ?_
  refine Qaj h (fun o1 ho hk=>?_)
  refine Exists.intro (JP2 _ _ o1 (.exit 0) (Qix p0 p1) .ret (Qiy p0 p1)) (And.intro (T_le (τ := Qgj p0 p1 0) ?_ (TL.loop (iQee p0 p1 0 o1 ho))) (join2 (fun y2 hy=>?_) (fun y3 hy=>?_)))
  ·exact Le.tz 0 0 rfl rfl rfl
  ·have h:=(by rw[hy] at hk; exact hk)
   refine Qay (t:=Qdz) h ?_
   exact .refl _
  ·have h:=(by rw[hy] at hk; exact hk)
   refine Qay (t:=Qdz) h ?_
   exact .refl _
 ·intro Qee' Qjm' iQee iQjm p0 p1 v10 o1 h
  refine TL.round (Qak mixed tbOk (lv:=Qkz) _ _ _ ?_)
  refine Qae h (fun hb h=>?_) (fun hb h=>?_)
  ·refine Qew (l:=p0) (c:=Qaa) (c' := Qd7) h Qa6 (fun _=>rfl) (by decide) (fun x4 hi h=>?_)
   refine Qan [.agg [iV x4.Kind,sV x4.Name,sV x4.Text,iV x4.N,.sl false (x4.L.map Qaa),.sl false (x4.Then.map Qaa),.sl false (x4.Else.map Qaa)]] Qih h (fun x5 hy=>(iQjm x4 x5 hy)) (fun x5 hy h=>?_)
   refine Qae h (fun hb h=>?_) (fun hb h=>?_)
   ·exact JP2.b h (Le.tz 0 0 rfl rfl rfl)
   ·refine view (lenMap _ _) rfl ?_
    refine Qaj h (fun o6 ho hk=>?_)
    refine Exists.intro (JP1 _ _ o6 .normal (Qnv p0 p1 v10 x4)) (And.intro ?_ (join1 ?_))
    ·have h:=ho
     refine Qae h (fun hb h=>?_) (fun hb h=>?_)
     ·refine Qae h (fun hb h=>?_) (fun hb h=>?_)
      ·refine Qew (l:=p0) (c:=Qaa) (c' := Qd7) h Qa6 (fun _=>rfl) (by decide) (fun x7 hi h=>?_)
       refine Qae h (fun hb h=>?_) (fun hb h=>?_)
       ·refine JP1.a h ?_
        exact Le.tz 1 0 rfl rfl rfl
       ·refine Qae h (fun hb h=>?_) (fun hb h=>?_)
        ·refine Qae h (fun hb h=>?_) (fun hb h=>?_)
         ·refine Qan [sV x4.Text,sV [123]] Qbw h (fun x8 hy=>(Qc9 x4.Text [123] x8 hy)) (fun x8 hy h=>?_)
          refine JP1.a h ?_
          exact Le.tz 1 0 rfl rfl rfl
         ·refine JP1.a h ?_
          exact Le.tz 1 0 rfl rfl rfl
        ·refine bT ?_
         refine Qan [sV x4.Text,sV [123]] Qbw h (fun x9 hy=>(Qc9 x4.Text [123] x9 hy)) (fun x9 hy h=>?_)
         refine JP1.a h ?_
         exact Le.tz 1 0 rfl rfl rfl
      ·refine bF ?_
       refine Qae h (fun hb h=>?_) (fun hb h=>?_)
       ·refine Qae h (fun hb h=>?_) (fun hb h=>?_)
        ·refine Qan [sV x4.Text,sV [123]] Qbw h (fun x10 hy=>(Qc9 x4.Text [123] x10 hy)) (fun x10 hy h=>?_)
         refine JP1.a h ?_
         exact Le.tz 1 0 rfl rfl rfl
        ·refine JP1.a h ?_
         exact Le.tz 1 0 rfl rfl rfl
       ·refine bT ?_
        refine Qan [sV x4.Text,sV [123]] Qbw h (fun x11 hy=>(Qc9 x4.Text [123] x11 hy)) (fun x11 hy h=>?_)
        refine JP1.a h ?_
        exact Le.tz 1 0 rfl rfl rfl
     ·refine JP1.a h ?_
      exact Le.tz 1 0 rfl rfl rfl
    ·have h:=hk
     refine Qae h (fun hb h=>?_) (fun hb h=>?_)
     ·exact JP2.b h (Le.tz 0 0 rfl rfl rfl)
     ·refine TL.le (τ := Qgj p0 p1 (wr (v10+1))) ?_ ((iQee p0 p1 (wr (v10+1)) _ h))
      exact Le.tz 0 0 rfl rfl rfl
  ·exact JP2.a h (Le.tz 0 0 rfl rfl rfl)
 ·intro Qe0' iQe0 p0 o h
  refine PCall.ofB mixed tbOk Qsp Try.func54 rfl (by kernel_rfl) (Nat.le_of_ble_eq_true rfl) ?_
  refine Qan [.agg [iV p0.Kind,sV p0.Name,sV p0.Text,iV p0.N,.sl false (p0.L.map Qaa),.sl false (p0.Then.map Qaa),.sl false (p0.Else.map Qaa)]] Qfz h (fun x1 hy=>(Qjl p0 x1 hy)) (fun x1 hy h=>?_)
  refine Qaj h (fun o2 ho hk=>?_)
  refine Exists.intro (JP2 _ _ o2 .normal (Qoz p0 x1) .ret (Qo0 p0 x1)) (And.intro ?_ (join2 (fun y3 hy=>?_) (fun y4 hy=>?_)))
  ·have h:=ho
   refine Qae h (fun hb h=>?_) (fun hb h=>?_)
   ·refine Qaj h (fun o5 ho hk=>?_)
    refine Exists.intro (JP1 _ _ o5 .normal (Qo1 p0 x1)) (And.intro ?_ (join1 ?_))
    ·have h:=ho
     refine And.intro rfl ?_
     refine Qae h (fun hb h=>?_) (fun hb h=>?_)
     ·refine Qan [sV p0.Text,sV [123,123]] Qe6 h (fun x6 hy=>(Qkd p0.Text [123,123] x6 hy)) (fun x6 hy h=>?_)
      refine JP1.a h ?_
      exact Le.tz 3 0 rfl rfl rfl
     ·refine JP1.a h ?_
      exact Le.tz 3 0 rfl rfl rfl
    ·have h:=hk
     refine JP2.b h ?_
     exact Le.tz 3 0 rfl rfl rfl
   ·refine Qae h (fun hb h=>?_) (fun hb h=>?_)
    ·refine JP2.a h ?_
     exact Le.tz 3 0 rfl rfl rfl
    ·refine Qae h (fun hb h=>?_) (fun hb h=>?_)
     ·refine And.intro (by decide +kernel) (And.intro rfl ?_)
      refine JP2.a h ?_
      exact Le.tz 3 0 rfl rfl rfl
     ·refine Qaj h (fun o7 ho hk=>?_)
      refine Exists.intro (JP1 _ _ o7 .normal (Qo2 p0 x1)) (And.intro ?_ (join1 ?_))
      ·have h:=ho
       refine Qae h (fun hb h=>?_) (fun hb h=>?_)
       ·refine JP1.a h ?_
        exact Le.tz 3 0 rfl rfl rfl
       ·refine JP1.a h ?_
        exact Le.tz 3 0 rfl rfl rfl
      ·have h:=hk
       refine Qae h (fun hb h=>?_) (fun hb h=>?_)
       ·refine And.intro (by decide +kernel) (And.intro rfl ?_)
        refine Qqp [sV p0.Name] Qdy h (fun x8 hy=>(Qga p0.Name x8 hy)) (fun x8 hy h=>?_)
        refine JP2.a h ?_
        exact Le.tz 3 0 rfl rfl rfl
       ·refine Qae h (fun hb h=>?_) (fun hb h=>?_)
        ·refine Qan [sV p0.Name] Qdy h (fun x9 hy=>(Qga p0.Name x9 hy)) (fun x9 hy h=>?_)
         refine JP2.a h ?_
         exact Le.tz 3 0 rfl rfl rfl
        ·refine JP2.b h ?_
         exact Le.tz 3 0 rfl rfl rfl
  ·have h:=(by rw[hy] at hk; exact hk)
   refine Qaj h (fun o10 ho hk=>?_)
   refine Exists.intro (JP1 _ _ o10 .normal (Qo3 p0 x1 y3)) (And.intro ?_ (join1 ?_))
   ·have h:=ho
    refine Qae h (fun hb h=>?_) (fun hb h=>?_)
    ·refine bT ?_
     refine JP1.a h ?_
     exact Le.tz 3 0 rfl rfl rfl
    ·refine Qae h (fun hb h=>?_) (fun hb h=>?_)
     ·refine JP1.a h ?_
      exact Le.tz 3 0 rfl rfl rfl
     ·refine JP1.a h ?_
      exact Le.tz 3 0 rfl rfl rfl
   ·have h:=hk
    refine Qaj h (fun o11 ho hk=>?_)
    refine Exists.intro (JP1 _ _ o11 .normal (Qo4 p0 x1 y3)) (And.intro ?_ (join1 ?_))
    ·have h:=ho
     refine Qae h (fun hb h=>?_) (fun hb h=>?_)
     ·refine And.intro rfl ?_
      refine Qae h (fun hb h=>?_) (fun hb h=>?_)
      ·refine Qew (l:=p0.L) (c:=Qaa) (c' := Qd7) h Qa6 (fun _=>rfl) (by decide) (fun x12 hi h=>?_)
       refine Qan [.agg [iV x12.Kind,sV x12.Name,sV x12.Text,iV x12.N,.sl false (x12.L.map Qaa),.sl false (x12.Then.map Qaa),.sl false (x12.Else.map Qaa)]] Qbx h (fun x13 hy=>(Qsu x12 x13 hy)) (fun x13 hy h=>?_)
       refine Qae h (fun hb h=>?_) (fun hb h=>?_)
       ·refine Qan [.sl false (p0.Then.map Qaa),bV false] Qdz h (fun x14 hy=>(iQe0 p0.Then false x14 hy)) (fun x14 hy h=>?_)
        refine Qae h (fun hb h=>?_) (fun hb h=>?_)
        ·refine Qan [.sl false (p0.Else.map Qaa),bV false] Qdz h (fun x15 hy=>(iQe0 p0.Else false x15 hy)) (fun x15 hy h=>?_)
         refine JP1.a h ?_
         exact Le.tz 3 0 rfl rfl rfl
        ·refine JP1.a h ?_
         exact Le.tz 3 0 rfl rfl rfl
       ·refine bF ?_
        refine JP1.a h ?_
        exact Le.tz 3 0 rfl rfl rfl
      ·refine bF ?_
       refine bF ?_
       refine JP1.a h ?_
       exact Le.tz 3 0 rfl rfl rfl
     ·refine bF ?_
      refine bF ?_
      refine bF ?_
      refine JP1.a h ?_
      exact Le.tz 3 0 rfl rfl rfl
    ·have h:=hk
     refine Qay (t:=Qih) h ?_
     exact .refl _
  ·have h:=(by rw[hy] at hk; exact hk)
   refine Qay (t:=Qih) h ?_
   exact .refl _
theorem Qq8:∀ (p0:(List Qab)) (p1:Bool) (o:Bool),Qe0 p0 p1=some o→PCall Try.prog 38 [.sl false (p0.map Qaa),bV p1] (Qdz o):=fun p0 p1=>Qo9.1 p0 p1
noncomputable def Qoa (p0:(List Qab)):Option (Bool) :=
 ( Qjj p0>>=fun x2 =>
  if(decide (x2≤12)) then
   Qh0 p0>>=fun x3 =>
   if(decide (x3≤1024)) then
    Qe0 p0 true>>=fun x4 =>
    some x4
   else
    some false
  else
   some false:Option (Bool))>>=fun o1 =>
 some o1
theorem Qvw:∀ (p0:(List Qab)) (o:Bool),Qoa p0=some o→PCall Try.prog 23 [.sl false (p0.map Qaa)] (Qns o):=by
 intro p0 o h
 unfold Qoa at h
 refine PCall.ofB mixed tbOk Qvt Try.func23 rfl (by kernel_rfl) (Nat.le_of_ble_eq_true rfl) ?_
 refine Qaj h (fun o1 ho hk=>?_)
 refine Exists.intro (JP1 _ _ o1 .normal (Qsm )) (And.intro ?_ (join1 ?_))
 ·have h:=ho
  refine Qan [.sl false (p0.map Qaa)] Qkb h (fun x2 hy=>(Qsq p0 x2 hy)) (fun x2 hy h=>?_)
  refine Qae h (fun hb h=>?_) (fun hb h=>?_)
  ·refine Qan [.sl false (p0.map Qaa)] Qjf h (fun x3 hy=>(Qq3 p0 x3 hy)) (fun x3 hy h=>?_)
   refine Qae h (fun hb h=>?_) (fun hb h=>?_)
   ·refine Qan [.sl false (p0.map Qaa),bV true] Qdz h (fun x4 hy=>(Qq8 p0 true x4 hy)) (fun x4 hy h=>?_)
    refine JP1.a h ?_
    exact Le.tz 0 0 rfl rfl rfl
   ·refine JP1.a h ?_
    exact Le.tz 0 0 rfl rfl rfl
  ·refine bF ?_
   refine JP1.a h ?_
   exact Le.tz 0 0 rfl rfl rfl
 ·have h:=hk
  refine Qay (t:=Qns) h ?_
  exact .refl _
noncomputable def Qcd (p0:(List Qac)) (v22:Int):Option (Unit⊕((List UInt8)×Int)) :=
 if(decide (v22<(p0.length:Int))) then
  idx p0 v22>>=fun x4 =>
  ( Qfa x4.Name>>=fun x6 =>
   if(!x6) then
    some true
   else
    Qoa x4.L>>=fun x7 =>
    some (!x7):Option (Bool))>>=fun o5 =>
  if o5 then
   some (.inr (x4.Name,7))
  else
   cutL p0 0 v22>>=fun x8 =>
   Qgy x8 x4.Name>>=fun x9 =>
   if x9.2 then
    some (.inr (x4.Name,9))
   else
    Qcd p0 (wr (v22+1))
 else
  some (.inl ())
 partial_fixpoint
theorem Qk3:∀ (p0:(List Qac)),(∀ (v22:Int) (o1:Unit⊕((List UInt8)×Int)),Qcd p0 v22=some o1→TL (0,0) Try.prog 102 Qio (JP2 (0,0) 102 o1 (.exit 0) (Qfi p0) .ret (Qfj p0)) (Qd8 p0 v22)):=by
 intro p0
 refine Qcd.partial_correctness p0 _ ?_
 intro Qcd' iQcd v22 o1 h
 refine TL.round (Qak mixed tbOk (lv:=Qej) _ _ _ ?_)
 refine Qae h (fun hb h=>?_) (fun hb h=>?_)
 ·refine Qew (l:=p0) (c:=Qah) (c' := Qah) h (fun _=>rfl) (fun _=>rfl) (by decide) (fun x4 hi h=>?_)
  refine Qaj h (fun o5 ho hk=>?_)
  refine Exists.intro (JP1 _ _ o5 .normal (Qmf p0 v22 x4)) (And.intro ?_ (join1 ?_))
  ·have h:=ho
   refine Qan [sV x4.Name] Qdy h (fun x6 hy=>(Qga x4.Name x6 hy)) (fun x6 hy h=>?_)
   refine Qae h (fun hb h=>?_) (fun hb h=>?_)
   ·refine JP1.a h ?_
    exact Le.tz 1 0 rfl rfl rfl
   ·refine Qan [.sl false (x4.L.map Qaa)] Qns h (fun x7 hy=>(Qvw x4.L x7 hy)) (fun x7 hy h=>?_)
    refine JP1.a h ?_
    exact Le.tz 1 0 rfl rfl rfl
  ·have h:=hk
   refine Qae h (fun hb h=>?_) (fun hb h=>?_)
   ·exact JP2.b h (Le.tz 0 0 rfl rfl rfl)
   ·refine And.intro (by decide +kernel) (And.intro rfl ?_)
    refine Qzl (c:=Qah) none (some v22) h (fun _=>rfl) (fun x8 hi h=>?_)
    refine Qqp [.sl false (x8.map Qah),sV x4.Name] Qf6 h (fun x9 hy=>(Qk1 x8 x4.Name x9 hy)) (fun x9 hy h=>?_)
    refine Qae h (fun hb h=>?_) (fun hb h=>?_)
    ·exact JP2.b h (Le.tz 0 0 rfl rfl rfl)
    ·refine TL.le (τ := Qd8 p0 (wr (v22+1))) ?_ ((iQcd (wr (v22+1)) _ h))
     exact Le.tz 0 0 rfl rfl rfl
 ·exact JP2.a h (Le.tz 0 0 rfl rfl rfl)
theorem Qlu:∀ (p0:(List Qac)) (v22:Int) (o1:Unit⊕((List UInt8)×Int)),Qcd p0 v22=some o1→TL (0,0) Try.prog 102 Qio (JP2 (0,0) 102 o1 (.exit 0) (Qfi p0) .ret (Qfj p0)) (Qd8 p0 v22):=fun p0 v22=>(Qk3 p0) v22
noncomputable def Qce (p0:(List Qac)) (x10:(List ((List UInt8)×(List (List UInt8))))) (v56:Int) (x14:Qac) (v66:Int):Option (Unit⊕Unit) :=
 if(decide (v66<(((mget (fun a b=>a==b) x14.Name x10).getD []).length:Int))) then
  idx ((mget (fun a b=>a==b) x14.Name x10).getD []) v66>>=fun x18 =>
  if(!((mget (fun a b=>a==b) x18 x10).isSome)) then
   some (.inr ())
  else
   Qce p0 x10 v56 x14 (wr (v66+1))
 else
  some (.inl ())
 partial_fixpoint
theorem Qk4:∀ (p0:(List Qac)) (x10:(List ((List UInt8)×(List (List UInt8))))) (v56:Int) (x14:Qac),(∀ (v66:Int) (o15:Unit⊕Unit),Qce p0 x10 v56 x14 v66=some o15→TL (0,0) Try.prog 102 Qip (JP2 (0,0) 102 o15 (.exit 4) (Qfk p0 x10 v56 x14) .ret (Qfl p0 x10 v56 x14)) (Qd9 p0 x10 v56 x14 v66)):=by
 intro p0 x10 v56 x14
 refine Qce.partial_correctness p0 x10 v56 x14 _ ?_
 intro Qce' iQce v66 o15 h
 refine TL.round (Qak mixed tbOk (lv:=Qej) _ _ _ ?_)
 refine Qae h (fun hb h=>?_) (fun hb h=>?_)
 ·refine Qew (l:=((mget (fun a b=>a==b) x14.Name x10).getD [])) (c:=cStr) (c' := cStr) h (fun _=>rfl) (fun _=>rfl) (by decide) (fun x18 hi h=>?_)
  refine Qj9 (l:=x10) (k:=x18) (fun a b=>a==b) (ck:=sV) (ca:=(fun x =>.sl false (x.map cStr))) (z0:=[]) (by exact rfl) (by exact rfl) (by exact rfl) (by exact fun _ _=>rfl) (by exact rfl) (by exact .not) ?_
  refine Qae h (fun hb h=>?_) (fun hb h=>?_)
  ·exact JP2.b h (Le.tz 3 0 rfl rfl rfl)
  ·refine TL.le (τ := Qd9 p0 x10 v56 x14 (wr (v66+1))) ?_ ((iQce (wr (v66+1)) _ h))
   exact Le.tz 3 0 rfl rfl rfl
 ·exact JP2.a h (Le.tz 3 0 rfl rfl rfl)
theorem Qlv:∀ (p0:(List Qac)) (x10:(List ((List UInt8)×(List (List UInt8))))) (v56:Int) (x14:Qac) (v66:Int) (o15:Unit⊕Unit),Qce p0 x10 v56 x14 v66=some o15→TL (0,0) Try.prog 102 Qip (JP2 (0,0) 102 o15 (.exit 4) (Qfk p0 x10 v56 x14) .ret (Qfl p0 x10 v56 x14)) (Qd9 p0 x10 v56 x14 v66):=fun p0 x10 v56 x14 v66=>(Qk4 p0 x10 v56 x14) v66
noncomputable def Qcf (p0:(List Qac)) (x10:(List ((List UInt8)×(List (List UInt8))))) (v56:Int):Option (Unit⊕(List UInt8)) :=
 if(decide (v56<(p0.length:Int))) then
  idx p0 v56>>=fun x14 =>
  (Qce p0 x10 v56 x14 0)>>=fun o15 =>
  match o15 with
  | .inl y16 =>
   Qcf p0 x10 (wr (v56+1))
  | .inr y17 =>
   some (.inr x14.Name)
 else
  some (.inl ())
 partial_fixpoint
theorem Qk5:∀ (p0:(List Qac)) (x10:(List ((List UInt8)×(List (List UInt8))))),(∀ (v56:Int) (o11:Unit⊕(List UInt8)),Qcf p0 x10 v56=some o11→TL (0,0) Try.prog 102 Qiq (JP2 (0,0) 102 o11 (.exit 2) (Qfm p0 x10) .ret (Qfn p0 x10)) (Qea p0 x10 v56)):=by
 intro p0 x10
 refine Qcf.partial_correctness p0 x10 _ ?_
 intro Qcf' iQcf v56 o11 h
 refine TL.round (Qak mixed tbOk (lv:=Qej) _ _ _ ?_)
 refine Qae h (fun hb h=>?_) (fun hb h=>?_)
 ·refine Qew (l:=p0) (c:=Qah) (c' := Qah) h (fun _=>rfl) (fun _=>rfl) (by decide) (fun x14 hi h=>?_)
  refine Qj9 (l:=x10) (k:=x14.Name) (fun a b=>a==b) (ck:=sV) (ca:=(fun x =>.sl false (x.map cStr))) (z0:=[]) (by exact rfl) (by exact rfl) (by exact rfl) (by exact fun _ _=>rfl) (by exact rfl) (by exact .not) ?_
  refine view (lenMap _ _) rfl ?_
  refine Qaj h (fun o15 ho hk=>?_)
  refine Exists.intro (JP2 _ _ o15 (.exit 4) (Qfk p0 x10 v56 x14) .ret (Qfl p0 x10 v56 x14)) (And.intro (T_le (τ := Qd9 p0 x10 v56 x14 0) ?_ (TL.loop (Qlv p0 x10 v56 x14 0 o15 ho))) (join2 (fun y16 hy=>?_) (fun y17 hy=>?_)))
  ·exact Le.tz 3 0 rfl rfl rfl
  ·have h:=(by rw[hy] at hk; exact hk)
   refine TL.le (τ := Qea p0 x10 (wr (v56+1))) ?_ ((iQcf (wr (v56+1)) _ h))
   exact Le.tz 2 0 rfl rfl rfl
  ·have h:=(by rw[hy] at hk; exact hk)
   exact JP2.b h (Le.tz 2 0 rfl rfl rfl)
 ·exact JP2.a h (Le.tz 2 0 rfl rfl rfl)
theorem Qlw:∀ (p0:(List Qac)) (x10:(List ((List UInt8)×(List (List UInt8))))) (v56:Int) (o11:Unit⊕(List UInt8)),Qcf p0 x10 v56=some o11→TL (0,0) Try.prog 102 Qiq (JP2 (0,0) 102 o11 (.exit 2) (Qfm p0 x10) .ret (Qfn p0 x10)) (Qea p0 x10 v56):=fun p0 x10 v56=>(Qk5 p0 x10) v56
noncomputable def Qbh (h0_0:(List ((List UInt8)×(List (List UInt8))))) (x1:(List (List UInt8))) (v17:Int) (h2_0:(List ((List UInt8)×Int))):Option (((List ((List UInt8)×Int)))) :=
 if(decide (v17<(x1.length:Int))) then
  idx x1 v17>>=fun x3 =>
  Qbh h0_0 x1 (wr (v17+1)) (mset (fun a b=>a==b) x3 1 h2_0)
 else
  some h2_0
 partial_fixpoint
theorem Qij:∀ (h0_0:(List ((List UInt8)×(List (List UInt8))))) (x1:(List (List UInt8))),(∀ (v17:Int) (h2_0:(List ((List UInt8)×Int))) (o2:((List ((List UInt8)×Int)))),Qbh h0_0 x1 v17 h2_0=some o2→TL (1,0) Try.prog 56 Qf7 (JP1 (1,0) 56 o2 (.exit 0) (Qds h0_0 x1)) (Qcw h0_0 x1 v17 h2_0)):=by
 intro h0_0 x1
 refine Qbh.partial_correctness h0_0 x1 _ ?_
 intro Qbh' iQbh v17 h2_0 o2 h
 refine TL.round (Qak mixed tbOk (lv:=Qdk) _ _ _ ?_)
 refine Qae h (fun hb h=>?_) (fun hb h=>?_)
 ·refine Qqr (l:=x1) (c:=cStr) (c' := cStr) h rfl (fun _=>rfl) (fun _=>rfl) (by decide) (fun x3 hi h=>?_)
  refine And.intro rfl (And.intro (Nat.le_of_ble_eq_true rfl) ?_)
  refine Qw4 (l:=h2_0) (k:=x3) (x:=1) (fun a b=>a==b) (ck:=sV) (ca:=iV) (by exact rfl) (by exact rfl) (by exact rfl) (by exact .refl _) (by exact fun _ _=>rfl) ?_
  refine TL.le (τ := Qcw h0_0 x1 (wr (v17+1)) (mset (fun a b=>a==b) x3 1 h2_0)) ?_ ((iQbh (wr (v17+1)) (mset (fun a b=>a==b) x3 1 h2_0) _ h))
  exact Le.tz 3 1 rfl rfl rfl
 ·exact JP1.a h (Le.tz 3 1 rfl rfl rfl)
theorem Qi0:∀ (h0_0:(List ((List UInt8)×(List (List UInt8))))) (x1:(List (List UInt8))) (v17:Int) (h2_0:(List ((List UInt8)×Int))) (o2:((List ((List UInt8)×Int)))),Qbh h0_0 x1 v17 h2_0=some o2→TL (1,0) Try.prog 56 Qf7 (JP1 (1,0) 56 o2 (.exit 0) (Qds h0_0 x1)) (Qcw h0_0 x1 v17 h2_0):=fun h0_0 x1 v17 h2_0=>(Qij h0_0 x1) v17 h2_0
noncomputable def Qa7 (h0_0:(List ((List UInt8)×(List (List UInt8))))) (v9:Int) (x5:(List UInt8)) (v6_:(List (List UInt8))) (v38:Int) (h2_0_:(List ((List UInt8)×Int))):Option (((List (List UInt8))×(List ((List UInt8)×Int)))) :=
 if(decide (v38<(((mget (fun a b=>a==b) x5 h0_0).getD []).length:Int))) then
  idx ((mget (fun a b=>a==b) x5 h0_0).getD []) v38>>=fun x7 =>
  if(((mget (fun a b=>a==b) x7 h2_0_).getD 0)==0) then
   appL 16 v6_ [x7]>>=fun x8 =>
   Qa7 h0_0 v9 x5 x8 (wr (v38+1)) (mset (fun a b=>a==b) x7 1 h2_0_)
  else
   Qa7 h0_0 v9 x5 v6_ (wr (v38+1)) h2_0_
 else
  some (v6_,h2_0_)
 partial_fixpoint
theorem Qik:∀ (h0_0:(List ((List UInt8)×(List (List UInt8))))) (v9:Int) (x5:(List UInt8)),(∀ (v6_:(List (List UInt8))) (v38:Int) (h2_0_:(List ((List UInt8)×Int))) (o6:((List (List UInt8))×(List ((List UInt8)×Int)))),Qa7 h0_0 v9 x5 v6_ v38 h2_0_=some o6→TL (1,0) Try.prog 56 Qf8 (JP1 (1,0) 56 o6 (.exit 4) (Qdt h0_0 v9 x5)) (Qbv h0_0 v9 x5 v6_ v38 h2_0_)):=by
 intro h0_0 v9 x5
 refine Qa7.partial_correctness h0_0 v9 x5 _ ?_
 intro Qa7' iQa7 v6_ v38 h2_0_ o6 h
 refine TL.round (Qak mixed tbOk (lv:=Qdk) _ _ _ ?_)
 refine Qae h (fun hb h=>?_) (fun hb h=>?_)
 ·refine Qew (l:=((mget (fun a b=>a==b) x5 h0_0).getD [])) (c:=cStr) (c' := cStr) h (fun _=>rfl) (fun _=>rfl) (by decide) (fun x7 hi h=>?_)
  refine Qj9 (l:=h2_0_) (k:=x7) (fun a b=>a==b) (ck:=sV) (ca:=iV) (z0:=0) (by exact rfl) (by exact rfl) (by exact rfl) (by exact fun _ _=>rfl) (by exact rfl) (by exact .refl _) ?_
  refine Qae h (fun hb h=>?_) (fun hb h=>?_)
  ·refine Qw4 (l:=h2_0_) (k:=x7) (x:=1) (fun a b=>a==b) (ck:=sV) (ca:=iV) (by exact rfl) (by exact rfl) (by exact rfl) (by exact .refl _) (by exact fun _ _=>rfl) ?_
   refine Qww (a:=v6_) (b:=[x7]) (c:=cStr) h (.refl _) (fun _=>rfl) rfl (fun x8 hi h=>?_)
   refine TL.le (τ := Qbv h0_0 v9 x5 x8 (wr (v38+1)) (mset (fun a b=>a==b) x7 1 h2_0_)) ?_ ((iQa7 x8 (wr (v38+1)) (mset (fun a b=>a==b) x7 1 h2_0_) _ h))
   exact Le.trans (τ := ⟨[(2,.ptr 1 0),(5,.mh 2),(6,.x 0 2 (.sl 9 1 (x8.map cStr))),(9,.p (iV v9)),(36,.p (.sl false (((mget (fun a b=>a==b) x5 h0_0).getD []).map cStr))),(37,.p (iV (((mget (fun a b=>a==b) x5 h0_0).getD []).length:Int))),(38,.p (iV (wr (v38+1))))],⟨[[mpD sV (fun x =>.sl false (x.map cStr)) h0_0],[.mh 0],[mpD sV iV (mset (fun a b=>a==b) x7 1 h2_0_)]],[2]⟩⟩) (Le.tz 3 1 rfl rfl rfl) ((Le.ver (.s 6) 0 2 1 rfl rfl rfl rfl).trans (Le.tz 3 1 rfl rfl rfl))
  ·refine TL.le (τ := Qbv h0_0 v9 x5 v6_ (wr (v38+1)) h2_0_) ?_ ((iQa7 v6_ (wr (v38+1)) h2_0_ _ h))
   exact Le.tz 3 1 rfl rfl rfl
 ·exact JP1.a h (Le.tz 3 1 rfl rfl rfl)
theorem Qi1:∀ (h0_0:(List ((List UInt8)×(List (List UInt8))))) (v9:Int) (x5:(List UInt8)) (v6_:(List (List UInt8))) (v38:Int) (h2_0_:(List ((List UInt8)×Int))) (o6:((List (List UInt8))×(List ((List UInt8)×Int)))),Qa7 h0_0 v9 x5 v6_ v38 h2_0_=some o6→TL (1,0) Try.prog 56 Qf8 (JP1 (1,0) 56 o6 (.exit 4) (Qdt h0_0 v9 x5)) (Qbv h0_0 v9 x5 v6_ v38 h2_0_):=fun h0_0 v9 x5 v6_ v38 h2_0_=>(Qik h0_0 v9 x5) v6_ v38 h2_0_
noncomputable def Qa8 (h0_0:(List ((List UInt8)×(List (List UInt8))))) (v6:(List (List UInt8))) (v9:Int) (h2_0:(List ((List UInt8)×Int))):Option (((List (List UInt8))×(List ((List UInt8)×Int)))) :=
 if(decide (v9<(v6.length:Int))) then
  idx v6 v9>>=fun x5 =>
  (Qa7 h0_0 v9 x5 v6 0 h2_0)>>=fun o6 =>
  Qa8 h0_0 o6.1 (wr (v9+1)) o6.2
 else
  some (v6,h2_0)
 partial_fixpoint
theorem Qil:∀ (h0_0:(List ((List UInt8)×(List (List UInt8))))),(∀ (v6:(List (List UInt8))) (v9:Int) (h2_0:(List ((List UInt8)×Int))) (o4:((List (List UInt8))×(List ((List UInt8)×Int)))),Qa8 h0_0 v6 v9 h2_0=some o4→TL (1,0) Try.prog 56 Qf9 (JP1 (1,0) 56 o4 (.exit 2) (Qdu h0_0)) (Qcx h0_0 v6 v9 h2_0)):=by
 intro h0_0
 refine Qa8.partial_correctness h0_0 _ ?_
 intro Qa8' iQa8 v6 v9 h2_0 o4 h
 refine TL.round (Qak mixed tbOk (lv:=Qdk) _ _ _ ?_)
 refine And.intro rfl (Exists.intro _ (And.intro (List.length_map _) ?_))
 refine Qae h (fun hb h=>?_) (fun hb h=>?_)
 ·refine And.intro (by decide +kernel) (And.intro rfl ?_)
  refine And.intro rfl ?_
  refine Qqr (l:=v6) (c:=cStr) (c' := cStr) h rfl (fun _=>rfl) (fun _=>rfl) (by decide) (fun x5 hi h=>?_)
  refine And.intro rfl ?_
  refine And.intro rfl (And.intro (Nat.le_of_ble_eq_true rfl) ?_)
  refine And.intro rfl ?_
  refine Qj9 (l:=h0_0) (k:=x5) (fun a b=>a==b) (ck:=sV) (ca:=(fun x =>.sl false (x.map cStr))) (z0:=[]) (by exact rfl) (by exact rfl) (by exact rfl) (by exact fun _ _=>rfl) (by exact rfl) (by exact .not) ?_
  refine view (lenMap _ _) rfl ?_
  refine Qaj h (fun o6 ho hk=>?_)
  refine Exists.intro (JP1 _ _ o6 (.exit 4) (Qdt h0_0 v9 x5)) (And.intro (T_le (τ := Qbv h0_0 v9 x5 v6 0 h2_0) ?_ (TL.loop (Qi1 h0_0 v9 x5 v6 0 h2_0 o6 ho))) (join1 ?_))
  ·exact Le.tz 3 1 rfl rfl rfl
  have h:=hk
  refine TL.le (τ := Qcx h0_0 o6.1 (wr (v9+1)) o6.2) ?_ ((iQa8 o6.1 (wr (v9+1)) o6.2 _ h))
  exact Le.tz 3 1 rfl rfl rfl
 ·exact JP1.a h (Le.tz 3 1 rfl rfl rfl)
theorem Qi2:∀ (h0_0:(List ((List UInt8)×(List (List UInt8))))) (v6:(List (List UInt8))) (v9:Int) (h2_0:(List ((List UInt8)×Int))) (o4:((List (List UInt8))×(List ((List UInt8)×Int)))),Qa8 h0_0 v6 v9 h2_0=some o4→TL (1,0) Try.prog 56 Qf9 (JP1 (1,0) 56 o4 (.exit 2) (Qdu h0_0)) (Qcx h0_0 v6 v9 h2_0):=fun h0_0 v6 v9 h2_0=>(Qil h0_0) v6 v9 h2_0
noncomputable def Qbt (p0:(List (List UInt8))):Option ((List (List UInt8))) :=
 appL 16 [] p0
theorem Qgl:∀ (p0:(List (List UInt8))) (o:(List (List UInt8))),Qbt p0=some o→CallOK Try.prog 40 [.p (.sl false (p0.map cStr))] ⟨[],[]⟩ (Qca o) ⟨[],[1]⟩:=by
 intro p0 o h
 unfold Qbt at h
 have h:(appL 16 ([]:List (List UInt8)) p0>>=fun r=>some r)=some o:=by rw[h]; rfl
 refine CallOK.ofB mixed tbOk Qge Try.func40 rfl (by kernel_rfl) (Nat.le_of_ble_eq_true rfl) rfl rfl rfl ?_
 refine⟨rfl,rfl,rfl,fun b hb=>?_⟩
 cases b with
 | true =>
  refine bT ?_
  obtain rfl:=List.map_eq_nil_iff.1 (hb rfl)
  have h:some ([]:List (List UInt8))=some o:=h
  refine Exists.intro _ (And.intro (Le.xnil (.s 2) 9 1 rfl) ?_)
  exact Qep (t:=Qca) (ss:=fun o=>⟨[],[1]⟩) h ⟨[0],rfl,.refl _,.refl _,rfl⟩
 | false =>
  refine bF ?_
  refine Qx8 (a:=([]:List (List UInt8))) (b:=p0) (c:=cStr) h (.refl _) (.refl _) (fun _=>rfl) (.inl rfl) (fun r hi h=>?_)
  refine Exists.intro _ (And.intro (Le.refl _ _ _) ?_)
  exact Qep (t:=Qca) (ss:=fun o=>⟨[],[1]⟩) h ⟨[0],rfl,.refl _,.refl _,rfl⟩
noncomputable def Qc1 (p1:(List (List UInt8))) (h0_0:(List ((List UInt8)×(List (List UInt8))))):Option ((List (List UInt8))) :=
 Qbt p1>>=fun x1 =>
 (Qbh h0_0 x1 0 [])>>=fun o2 =>
 (Qa8 h0_0 x1 0 o2)>>=fun o4 =>
 need (o4.1.length<4611686018427387904)>>=fun _ =>
 some (srtL o4.1)
theorem Qha:∀ (p1:(List (List UInt8))) (h0_0:(List ((List UInt8)×(List (List UInt8))))) (o:(List (List UInt8))),Qc1 p1 h0_0=some o→CallOK Try.prog 26 [.agg [.mh 0],.p (.sl false (p1.map cStr))] ⟨[[mpD sV (fun x =>.sl false (x.map cStr)) h0_0]],[]⟩ (Qe3 o) ⟨[[mpD sV (fun x =>.sl false (x.map cStr)) h0_0]],[]⟩:=by
 intro p1 h0_0 o h
 unfold Qc1 at h
 refine CallOK.ofB mixed tbOk Qdk Try.func26 rfl (by kernel_rfl) (Nat.le_of_ble_eq_true rfl) rfl rfl rfl ?_
 refine And.intro rfl (Exists.intro false ?_)
 refine Qdj _ _ h (fun x1 hy=>((Qgl p1 x1 hy).fr [] [] rfl rfl rfl)) (fun x1 hy h=>?_)
 refine And.intro rfl (Exists.intro _ (And.intro (List.length_map _) ?_))
 refine Qaj h (fun o2 ho hk=>?_)
 refine Exists.intro (JP1 _ _ o2 (.exit 0) (Qds h0_0 x1)) (And.intro (T_le (τ := Qcw h0_0 x1 0 []) ?_ (TL.loop (Qi0 h0_0 x1 0 [] o2 ho))) (join1 ?_))
 ·exact Le.tz 3 1 rfl rfl rfl
 have h:=hk
 refine Qaj h (fun o4 ho hk=>?_)
 refine Exists.intro (JP1 _ _ o4 (.exit 2) (Qdu h0_0)) (And.intro (T_le (τ := Qcx h0_0 x1 0 o2) ?_ (TL.loop (Qi2 h0_0 x1 0 o2 o4 ho))) (join1 ?_))
 ·exact Le.tz 3 1 rfl rfl rfl
 have h:=hk
 refine Qhi h (fun hn0 h=>?_)
 refine Or.inl ?_
 refine⟨rfl,rfl,_,false,o4.1,(srtL o4.1),_,rfl,rfl,sortFn  hn0 ,rfl,rfl,?_⟩
 refine Exists.intro _ (And.intro (Le.trans (τ := ⟨[(4,.x 0 2 (.sl 9 1 ((srtL o4.1).map cStr)))],⟨[[mpD sV (fun x =>.sl false (x.map cStr)) h0_0]],[2]⟩⟩) (Le.tz 1 1 rfl rfl rfl) (Le.trans (τ := ⟨[(4,.x 0 2 (.sl 9 1 ((srtL o4.1).map cStr)))],⟨[[mpD sV (fun x =>.sl false (x.map cStr)) h0_0]],[2]⟩⟩) (Le.tz 1 1 rfl rfl rfl) ((Le.frzv (.s 4) 0 2 rfl rfl rfl rfl).trans (Le.refl _ _ _)))) ?_)
 refine Qep (t:=Qe3) (ss:=fun o=>⟨[[mpD sV (fun x =>.sl false (x.map cStr)) h0_0]],[]⟩) h ?_
 exact⟨[],rfl,.refl _,.refl _,rfl⟩
noncomputable def Qap (p0:(List (List UInt8))) (p1:(List UInt8)) (v8:Int):Option (Unit⊕Int) :=
 if(decide (v8<(p0.length:Int))) then
  idx p0 v8>>=fun x4 =>
  if(p1==x4) then
   some (.inr v8)
  else
   Qap p0 p1 (wr (v8+1))
 else
  some (.inl ())
 partial_fixpoint
theorem Qfc:∀ (p0:(List (List UInt8))) (p1:(List UInt8)),(∀ (v8:Int) (o1:Unit⊕Int),Qap p0 p1 v8=some o1→TL (0,0) Try.prog 19 Qdc (JP2 (0,0) 19 o1 (.exit 0) (Qbq p0 p1) .ret (Qbr p0 p1)) (Qbd p0 p1 v8)):=by
 intro p0 p1
 refine Qap.partial_correctness p0 p1 _ ?_
 intro Qap' iQap v8 o1 h
 refine TL.round (Qak mixed tbOk (lv:=Qdn) _ _ _ ?_)
 refine Qae h (fun hb h=>?_) (fun hb h=>?_)
 ·refine Qew (l:=p0) (c:=cStr) (c' := cStr) h (fun _=>rfl) (fun _=>rfl) (by decide) (fun x4 hi h=>?_)
  refine Qae h (fun hb h=>?_) (fun hb h=>?_)
  ·exact JP2.b h (Le.tz 0 0 rfl rfl rfl)
  ·refine TL.le (τ := Qbd p0 p1 (wr (v8+1))) ?_ ((iQap (wr (v8+1)) _ h))
   exact Le.tz 0 0 rfl rfl rfl
 ·exact JP2.a h (Le.tz 0 0 rfl rfl rfl)
theorem Qfe:∀ (p0:(List (List UInt8))) (p1:(List UInt8)) (v8:Int) (o1:Unit⊕Int),Qap p0 p1 v8=some o1→TL (0,0) Try.prog 19 Qdc (JP2 (0,0) 19 o1 (.exit 0) (Qbq p0 p1) .ret (Qbr p0 p1)) (Qbd p0 p1 v8):=fun p0 p1 v8=>(Qfc p0 p1) v8
noncomputable def Qbu (p0:(List (List UInt8))) (p1:(List UInt8)):Option (Int) :=
 (Qap p0 p1 0)>>=fun o1 =>
 match o1 with
 | .inl y2 =>
  some (-1)
 | .inr y3 =>
  some y3
theorem Qgm:∀ (p0:(List (List UInt8))) (p1:(List UInt8)) (o:Int),Qbu p0 p1=some o→PCall Try.prog 39 [.sl false (p0.map cStr),sV p1] (Qbn o):=by
 intro p0 p1 o h
 unfold Qbu at h
 refine PCall.ofB mixed tbOk Qdn Try.func39 rfl (by kernel_rfl) (Nat.le_of_ble_eq_true rfl) ?_
 refine view (lenMap _ _) rfl ?_
 refine Qaj h (fun o1 ho hk=>?_)
 refine Exists.intro (JP2 _ _ o1 (.exit 0) (Qbq p0 p1) .ret (Qbr p0 p1)) (And.intro (T_le (τ := Qbd p0 p1 0) ?_ (TL.loop (Qfe p0 p1 0 o1 ho))) (join2 (fun y2 hy=>?_) (fun y3 hy=>?_)))
 ·exact Le.tz 0 0 rfl rfl rfl
 ·have h:=(by rw[hy] at hk; exact hk)
  refine Qay (t:=Qbn) h ?_
  exact .refl _
 ·have h:=(by rw[hy] at hk; exact hk)
  refine Qay (t:=Qbn) h ?_
  exact .refl _
noncomputable def Qa1 (p0:(List (List UInt8))) (p1:(List UInt8)):Option (Bool) :=
 Qbu p0 p1>>=fun x1 =>
 some (decide (x1 ≥ 0))
theorem Qc8:∀ (p0:(List (List UInt8))) (p1:(List UInt8)) (o:Bool),Qa1 p0 p1=some o→PCall Try.prog 25 [.sl false (p0.map cStr),sV p1] (Qbi o):=by
 intro p0 p1 o h
 unfold Qa1 at h
 refine PCall.ofB mixed tbOk Qfd Try.func25 rfl (by kernel_rfl) (Nat.le_of_ble_eq_true rfl) ?_
 refine Qan [.sl false (p0.map cStr),sV p1] Qbn h (fun x1 hy=>(Qgm p0 p1 x1 hy)) (fun x1 hy h=>?_)
 refine Qay (t:=Qbi) h ?_
 exact .refl _
noncomputable def Qcg (p0:(List Qac)) (x10:(List ((List UInt8)×(List (List UInt8))))) (v85:Int):Option (Unit⊕(List UInt8)) :=
 if(decide (v85<(p0.length:Int))) then
  idx p0 v85>>=fun x22 =>
  Qc1 ((mget (fun a b=>a==b) x22.Name x10).getD []) x10>>=fun x23 =>
  Qa1 x23 x22.Name>>=fun x24 =>
  if x24 then
   some (.inr x22.Name)
  else
   Qcg p0 x10 (wr (v85+1))
 else
  some (.inl ())
 partial_fixpoint
theorem Qk6:∀ (p0:(List Qac)) (x10:(List ((List UInt8)×(List (List UInt8))))),(∀ (v85:Int) (o19:Unit⊕(List UInt8)),Qcg p0 x10 v85=some o19→TL (0,0) Try.prog 102 Qir (JP2 (0,0) 102 o19 (.exit 6) (Qfo p0 x10) .ret (Qfp p0 x10)) (Qeb p0 x10 v85)):=by
 intro p0 x10
 refine Qcg.partial_correctness p0 x10 _ ?_
 intro Qcg' iQcg v85 o19 h
 refine TL.round (Qak mixed tbOk (lv:=Qej) _ _ _ ?_)
 refine Qae h (fun hb h=>?_) (fun hb h=>?_)
 ·refine Qew (l:=p0) (c:=Qah) (c' := Qah) h (fun _=>rfl) (fun _=>rfl) (by decide) (fun x22 hi h=>?_)
  refine And.intro (by decide +kernel) (And.intro rfl ?_)
  refine And.intro rfl ?_
  refine Qj9 (l:=x10) (k:=x22.Name) (fun a b=>a==b) (ck:=sV) (ca:=(fun x =>.sl false (x.map cStr))) (z0:=[]) (by exact rfl) (by exact rfl) (by exact rfl) (by exact fun _ _=>rfl) (by exact rfl) (by exact .not) ?_
  refine Quu (fun x23=>(Qe3 x23).ren [0] []) h (fun x23 hy=>(Qha ((mget (fun a b=>a==b) x22.Name x10).getD []) x10 x23 hy).fd rfl rfl [0] rfl rfl) (fun x23 hy h=>?_)
  refine Qqp [.sl false (x23.map cStr),sV x22.Name] Qbi h (fun x24 hy=>(Qc8 x23 x22.Name x24 hy)) (fun x24 hy h=>?_)
  refine Qae h (fun hb h=>?_) (fun hb h=>?_)
  ·exact JP2.b h (Le.tz 2 0 rfl rfl rfl)
  ·refine TL.le (τ := Qeb p0 x10 (wr (v85+1))) ?_ ((iQcg (wr (v85+1)) _ h))
   exact Le.tz 2 0 rfl rfl rfl
 ·exact JP2.a h (Le.tz 2 0 rfl rfl rfl)
theorem Qlx:∀ (p0:(List Qac)) (x10:(List ((List UInt8)×(List (List UInt8))))) (v85:Int) (o19:Unit⊕(List UInt8)),Qcg p0 x10 v85=some o19→TL (0,0) Try.prog 102 Qir (JP2 (0,0) 102 o19 (.exit 6) (Qfo p0 x10) .ret (Qfp p0 x10)) (Qeb p0 x10 v85):=fun p0 x10 v85=>(Qk6 p0 x10) v85
mutual
noncomputable def Qch (p0:(List Qab)) (h0_0:(List (List UInt8))):Option ((List (List UInt8))) :=
 (Qcr p0 0 h0_0)>>=fun o1 =>
 some o1
 partial_fixpoint
noncomputable def Qcr (p0:(List Qab)) (v8:Int) (h0_0_:(List (List UInt8))):Option ((List (List UInt8))) :=
 if(decide (v8<(p0.length:Int))) then
  idx p0 v8>>=fun x2 =>
  ( if(x2.Kind==13) then
    appL 16 h0_0_ [x2.Name]>>=fun x4 =>
    some x4
   else
    some h0_0_:Option ((List (List UInt8))))>>=fun o3 =>
  Qch x2.Then o3>>=fun x5 =>
  Qch x2.Else x5>>=fun x6 =>
  Qcr p0 (wr (v8+1)) x6
 else
  some h0_0_
 partial_fixpoint
end
theorem Qmo:(∀ (p0:(List Qab)) (h0_0:(List (List UInt8))) (o:(List (List UInt8))),Qch p0 h0_0=some o→CallOK Try.prog 15 [.p (.sl false (p0.map Qaa)),.ptr 0 0,.ptr 1 0] ⟨[[.x 0 (h0_0.length+1) (.sl 9 1 (h0_0.map cStr))],[.fn (.func 15) [] [.ptr 0 0,.ptr 1 0]]],[(h0_0.length+1)]⟩ (Qhp o) ⟨[[.x 0 (o.length+1) (.sl 9 1 (o.map cStr))],[.fn (.func 15) [] [.ptr 0 0,.ptr 1 0]]],[(o.length+1)]⟩)∧(∀ (p0:(List Qab)) (v8:Int) (h0_0_:(List (List UInt8))) (o1:(List (List UInt8))),Qcr p0 v8 h0_0_=some o1→TL (2,1) Try.prog 29 Qlq (JP1 (2,1) 29 o1 (.exit 0) (Qhj p0)) (Qe2 p0 v8 h0_0_)):=by
 refine Qch.mutual_partial_correctness _ _ ?_ ?_
 ·intro Qcr' iQcr p0 h0_0 o h
  refine CallOK.ofB mixed tbOk Qjd Try.func15 rfl (by kernel_rfl) (Nat.le_of_ble_eq_true rfl) rfl rfl rfl ?_
  refine view (lenMap _ _) rfl ?_
  refine Qaj h (fun o1 ho hk=>?_)
  refine Exists.intro (JP1 _ _ o1 (.exit 0) (Qhj p0)) (And.intro (T_le (τ := Qe2 p0 0 h0_0) ?_ (TL.loop (iQcr p0 0 h0_0 o1 ho))) (join1 ?_))
  ·exact Le.tz 2 1 rfl rfl rfl
  have h:=hk
  refine Exists.intro _ (And.intro (Le.refl _ _ _) ?_)
  exact Qep (t:=Qhp) (ss:=fun o=>⟨[[.x 0 (o.length+1) (.sl 9 1 (o.map cStr))],[.fn (.func 15) [] [.ptr 0 0,.ptr 1 0]]],[(o.length+1)]⟩) h ⟨[0],rfl,.refl _,.refl _,rfl⟩
 ·intro Qch' Qcr' iQch iQcr p0 v8 h0_0_ o1 h
  refine TL.round (Qak mixed tbOk (lv:=Qjd) _ _ _ ?_)
  refine Qae h (fun hb h=>?_) (fun hb h=>?_)
  ·refine Qew (l:=p0) (c:=Qaa) (c' := Qd7) h Qa6 (fun _=>rfl) (by decide) (fun x2 hi h=>?_)
   refine Qaj h (fun o3 ho hk=>?_)
   refine Exists.intro (JP1 _ _ o3 .normal (Qlp p0 v8 x2)) (And.intro ?_ (join1 ?_))
   ·have h:=ho
    refine Qae h (fun hb h=>?_) (fun hb h=>?_)
    ·refine Qx7 (a:=h0_0_) (b:=[x2.Name]) (c:=cStr) h (.refl _) (fun _=>rfl) rfl rfl (Nat.zero_lt_succ _) (fun x4 hi h=>?_)
     refine JP1.a h ?_
     exact Le.tz 3 1 rfl rfl rfl
    ·refine JP1.a h ?_
     exact Le.tz 3 1 rfl rfl rfl
   ·have h:=hk
    refine Qdj _ _ h (fun x5 hy=>((iQch x2.Then o3 x5 hy).fr [0,1] [0] rfl rfl rfl)) (fun x5 hy h=>?_)
    refine Qdj _ _ h (fun x6 hy=>((iQch x2.Else x5 x6 hy).fr [0,1] [0] rfl rfl rfl)) (fun x6 hy h=>?_)
    refine TL.le (τ := Qe2 p0 (wr (v8+1)) x6) ?_ ((iQcr p0 (wr (v8+1)) x6 _ h))
    exact Le.tz 2 1 rfl rfl rfl
  ·exact JP1.a h (Le.tz 2 1 rfl rfl rfl)
theorem Qob:∀ (p0:(List Qab)) (h0_0:(List (List UInt8))) (o:(List (List UInt8))),Qch p0 h0_0=some o→CallOK Try.prog 15 [.p (.sl false (p0.map Qaa)),.ptr 0 0,.ptr 1 0] ⟨[[.x 0 (h0_0.length+1) (.sl 9 1 (h0_0.map cStr))],[.fn (.func 15) [] [.ptr 0 0,.ptr 1 0]]],[(h0_0.length+1)]⟩ (Qhp o) ⟨[[.x 0 (o.length+1) (.sl 9 1 (o.map cStr))],[.fn (.func 15) [] [.ptr 0 0,.ptr 1 0]]],[(o.length+1)]⟩:=fun p0 h0_0=>Qmo.1 p0 h0_0
noncomputable def Qh4 (p0:(List Qab)):Option ((List (List UInt8))) :=
 Qch p0 []>>=fun x1 =>
 need (x1.length<4611686018427387904)>>=fun _ =>
 need ((srtL x1).length<4611686018427387904)>>=fun _ =>
 some (Lib.compact (srtL x1))
theorem Qq9:∀ (p0:(List Qab)) (o:(List (List UInt8))),Qh4 p0=some o→CallOK Try.prog 9 [.p (.sl false (p0.map Qaa))] ⟨[],[]⟩ (Qjc o) ⟨[],[]⟩:=by
 intro p0 o h
 unfold Qh4 at h
 refine CallOK.ofB mixed tbOk Qqs Try.func9 rfl (by kernel_rfl) (Nat.le_of_ble_eq_true rfl) rfl rfl rfl ?_
 refine Exists.intro _ (And.intro (Le.xnil (.h 0 0) 9 1 rfl) ?_)
 refine Qdj _ _ h (fun x1 hy=>((Qob p0 [] x1 hy).fr [0,1] [0] rfl rfl rfl)) (fun x1 hy h=>?_)
 refine Qhi h (fun hn0 h=>?_)
 refine Or.inl ?_
 refine⟨rfl,rfl,_,false,x1,(srtL x1),_,rfl,rfl,sortFn  hn0 ,rfl,rfl,?_⟩
 refine Qhi h (fun hn0 h=>?_)
 refine Or.inl ?_
 refine⟨rfl,rfl,_,true,(srtL x1),(Lib.compact (srtL x1)),_,rfl,rfl,compactFn  hn0 ,rfl,?_⟩
 refine Exists.intro _ (And.intro (Le.trans (τ := ⟨[(2,.x 0 (((x1.length+1)+1)+1) (.sl 9 1 ((Lib.compact (srtL x1)).map cStr)))],⟨[],[(((x1.length+1)+1)+1)]⟩⟩) (Le.tz 0 1 rfl rfl rfl) (Le.trans (τ := ⟨[(2,.x 0 (((x1.length+1)+1)+1) (.sl 9 1 ((Lib.compact (srtL x1)).map cStr)))],⟨[],[(((x1.length+1)+1)+1)]⟩⟩) (Le.tz 0 1 rfl rfl rfl) ((Le.verh 2 0 (((x1.length+1)+1)+1) 1 rfl rfl rfl rfl).trans ((Le.frzv (.s 2) 0 1 rfl rfl rfl rfl).trans (Le.refl _ _ _))))) ?_)
 exact Qep (t:=Qjc) (ss:=fun o=>⟨[],[]⟩) h ⟨[],rfl,.refl _,.refl _,rfl⟩
noncomputable def Qbz (p0:(List Qac)) (v12:Int) (h1_0:(List ((List UInt8)×(List (List UInt8))))):Option (((List ((List UInt8)×(List (List UInt8)))))) :=
 if(decide (v12<(p0.length:Int))) then
  idx p0 v12>>=fun x2 =>
  if(!((mget (fun a b=>a==b) x2.Name h1_0).isSome)) then
   Qh4 x2.L>>=fun x3 =>
   Qbz p0 (wr (v12+1)) (mset (fun a b=>a==b) x2.Name x3 h1_0)
  else
   Qbz p0 (wr (v12+1)) h1_0
 else
  some h1_0
 partial_fixpoint
theorem Qk7:∀ (p0:(List Qac)),(∀ (v12:Int) (h1_0:(List ((List UInt8)×(List (List UInt8))))) (o1:((List ((List UInt8)×(List (List UInt8)))))),Qbz p0 v12 h1_0=some o1→TL (0,0) Try.prog 35 Qiu (JP1 (0,0) 35 o1 (.exit 0) (Qfs p0)) (Qdb p0 v12 h1_0)):=by
 intro p0
 refine Qbz.partial_correctness p0 _ ?_
 intro Qbz' iQbz v12 h1_0 o1 h
 refine TL.round (Qak mixed tbOk (lv:=Qj4) _ _ _ ?_)
 refine Qae h (fun hb h=>?_) (fun hb h=>?_)
 ·refine Qew (l:=p0) (c:=Qah) (c' := Qah) h (fun _=>rfl) (fun _=>rfl) (by decide) (fun x2 hi h=>?_)
  refine Qj9 (l:=h1_0) (k:=x2.Name) (fun a b=>a==b) (ck:=sV) (ca:=(fun x =>.sl false (x.map cStr))) (z0:=[]) (by exact rfl) (by exact rfl) (by exact rfl) (by exact fun _ _=>rfl) (by exact rfl) (by exact .not) ?_
  refine Qae h (fun hb h=>?_) (fun hb h=>?_)
  ·refine And.intro (by decide +kernel) (And.intro (by decide +kernel) (And.intro rfl ?_))
   refine Quu (fun x3=>(Qjc x3).ren [] []) h (fun x3 hy=>(Qq9 x2.L x3 hy).fd rfl rfl [] rfl rfl) (fun x3 hy h=>?_)
   refine Qw4 (l:=h1_0) (k:=x2.Name) (x:=x3) (fun a b=>a==b) (ck:=sV) (ca:=(fun x =>.sl false (x.map cStr))) (by exact rfl) (by exact rfl) (by exact rfl) (by exact .refl _) (by exact fun _ _=>rfl) ?_
   refine TL.le (τ := Qdb p0 (wr (v12+1)) (mset (fun a b=>a==b) x2.Name x3 h1_0)) ?_ ((iQbz (wr (v12+1)) (mset (fun a b=>a==b) x2.Name x3 h1_0) _ h))
   exact Le.tz 3 0 rfl rfl rfl
  ·refine TL.le (τ := Qdb p0 (wr (v12+1)) h1_0) ?_ ((iQbz (wr (v12+1)) h1_0 _ h))
   exact Le.tz 3 0 rfl rfl rfl
 ·exact JP1.a h (Le.tz 3 0 rfl rfl rfl)
end Go.Proofs.Ytfgegilhjlnohaa
end
