/- The proof's texts, part 8 of 10: the walks by a logic in which data are by value, the plain laws, and at the end the law, for every input. -/
import Derived.Test.YtfgegilhjlnohaaMgCallsUses7

section
set_option linter.unusedVariables false
set_option linter.unusedSimpArgs false
set_option maxRecDepth 100000
set_option maxHeartbeats 4000000
namespace Go.Proofs.Ytfgegilhjlnohaa
open Go.RowKit
structure Qab where
 Kind:Int
 Name:(List UInt8)
 Text:(List UInt8)
 N:Int
 L:(List Qab)
 Then:(List Qab)
 Else:(List Qab)
mutual
noncomputable def Qaa:Qab→List V
 | ⟨x0,x1,x2,x3,x4,x5,x6⟩=>[iV x0,sV x1,sV x2,iV x3,.sl false (Qf7 x4),.sl false (Qf7 x5),.sl false (Qf7 x6)]
noncomputable def Qf7:List Qab→List (List V)
 | []=>[]
 | x::r=>Qaa x::Qf7 r
end
theorem Qkj:∀ l:List Qab,Qf7 l=l.map Qaa
 | []=>rfl
 | x::r=>by rw[Qf7,Qkj r]; rfl
noncomputable def Qbw (x:Qab):List V:=[iV x.Kind,sV x.Name,sV x.Text,iV x.N,.sl false (x.L.map Qaa),.sl false (x.Then.map Qaa),.sl false (x.Else.map Qaa)]
theorem Qam (x:Qab):Qaa x=Qbw x:=by cases x; simp[Qaa,Qbw,Qkj]
structure Qac where
 Name:(List UInt8)
 L:(List Qab)
noncomputable def Qaf (x:Qac):List V:=[sV x.Name,.sl false (x.L.map Qaa)]
structure Qcc where
 name_:Bool
 text_:Bool
 num_:Bool
 then_:Bool
 other_:Bool
 l_:Int
noncomputable def Qf8 (y:Bool):D :=.p (bV y)
noncomputable def Qpp:List (Nat×List Nat):=[(0,[0,1]),(1,[0,1,10]),(2,[4]),(3,[0,1,5]),(4,[0,1,5,14]),(5,[0,1,5]),(6,[0,1,5,25]),(7,[4]),(8,[4]),(1000004,[0,1,5])]
noncomputable def Qgq (p0:(List (List UInt8))) (p1:(List (List UInt8))) (v5:Int):St:=⟨[(0,.p (.sl false (p0.map cStr))),(1,.p (.sl false (p1.map cStr))),(5,.p (iV v5))],⟨[],[]⟩⟩
noncomputable def Qih (p0:(List (List UInt8))) (p1:(List (List UInt8))) (y2:Unit):St:=⟨[],⟨[],[]⟩⟩
noncomputable def Qii (p0:(List (List UInt8))) (p1:(List (List UInt8))) (y3:Unit):St:=⟨[(4,.p (bV false))],⟨[],[]⟩⟩
noncomputable def Qmd:Code:=((loopsOf (Try.f8.body.getD .skip)).getD 0 .skip)
noncomputable def Qen (y:Bool):D :=.p (bV y)
noncomputable def Qpq:List (Nat×List Nat):=[(0,[0,1]),(1,[0,1,12]),(2,[4]),(3,[0,1,5]),(4,[0,1,5,16]),(5,[0,1,5]),(6,[0,1,5,6,7]),(7,[0,1,5,76]),(8,[4]),(9,[4]),(1000004,[0,1,5]),(3000006,[]),(3000007,[]),(6000006,[8,9])]
noncomputable def Qs7 (p0:(List Qab)) (p1:(List Qab)) (v5:Int) (o4:Int×(List UInt8)×(List UInt8)×Int×(List Qab)×(List Qab)×(List Qab)×Int×(List UInt8)×(List UInt8)×Int×(List Qab)×(List Qab)×(List Qab)):St:=⟨[(0,.p (.sl false (p0.map Qaa))),(1,.p (.sl false (p1.map Qaa))),(5,.p (iV v5)),(6,.ptr 0 0),(7,.ptr 1 0)],⟨[[.p (iV o4.1),.p (sV o4.2.1),.p (sV o4.2.2.1),.p (iV o4.2.2.2.1),.p (.sl false (o4.2.2.2.2.1.map Qaa)),.p (.sl false (o4.2.2.2.2.2.1.map Qaa)),.p (.sl false (o4.2.2.2.2.2.2.1.map Qaa))],[.p (iV o4.2.2.2.2.2.2.2.1),.p (sV o4.2.2.2.2.2.2.2.2.1),.p (sV o4.2.2.2.2.2.2.2.2.2.1),.p (iV o4.2.2.2.2.2.2.2.2.2.2.1),.p (.sl false (o4.2.2.2.2.2.2.2.2.2.2.2.1.map Qaa)),.p (.sl false (o4.2.2.2.2.2.2.2.2.2.2.2.2.1.map Qaa)),.p (.sl false (o4.2.2.2.2.2.2.2.2.2.2.2.2.2.map Qaa))]],[]⟩⟩
noncomputable def Qs8 (p0:(List Qab)) (p1:(List Qab)) (v5:Int) (o4:Int×(List UInt8)×(List UInt8)×Int×(List Qab)×(List Qab)×(List Qab)×Int×(List UInt8)×(List UInt8)×Int×(List Qab)×(List Qab)×(List Qab)) (o7:Bool):St:=⟨[(0,.p (.sl false (p0.map Qaa))),(1,.p (.sl false (p1.map Qaa))),(5,.p (iV v5)),(76,.p (bV o7))],⟨[[.p (iV o4.1),.p (sV o4.2.1),.p (sV o4.2.2.1),.p (iV o4.2.2.2.1),.p (.sl false (o4.2.2.2.2.1.map Qaa)),.p (.sl false (o4.2.2.2.2.2.1.map Qaa)),.p (.sl false (o4.2.2.2.2.2.2.1.map Qaa))],[.p (iV o4.2.2.2.2.2.2.2.1),.p (sV o4.2.2.2.2.2.2.2.2.1),.p (sV o4.2.2.2.2.2.2.2.2.2.1),.p (iV o4.2.2.2.2.2.2.2.2.2.2.1),.p (.sl false (o4.2.2.2.2.2.2.2.2.2.2.2.1.map Qaa)),.p (.sl false (o4.2.2.2.2.2.2.2.2.2.2.2.2.1.map Qaa)),.p (.sl false (o4.2.2.2.2.2.2.2.2.2.2.2.2.2.map Qaa))]],[]⟩⟩
noncomputable def Qij (p0:(List Qab)) (p1:(List Qab)) (v5:Int):St:=⟨[(0,.p (.sl false (p0.map Qaa))),(1,.p (.sl false (p1.map Qaa))),(5,.p (iV v5))],⟨[],[]⟩⟩
noncomputable def Qll (p0:(List Qab)) (p1:(List Qab)) (y2:Unit):St:=⟨[],⟨[],[]⟩⟩
noncomputable def Qlm (p0:(List Qab)) (p1:(List Qab)) (y3:Unit):St:=⟨[(4,.p (bV false))],⟨[],[]⟩⟩
noncomputable def Qs9:Code:=((loopsOf (Try.f11.body.getD .skip)).getD 0 .skip)
noncomputable def Qk8 (y:(List Qab)×Bool):D :=.tup [.p (.sl false (y.1.map Qaa)),.p (bV y.2)]
noncomputable def Qpr:List (Nat×List Nat):=[(0,[0,1]),(1,[0,1,6]),(2,[0,1,6,10]),(3,[0,1,6]),(4,[0,1,6,19]),(5,[4,5]),(6,[4,5]),(1000002,[0,1,6])]
noncomputable def Qgr (p0:(List Qac)) (p1:(List UInt8)) (v6:Int):St:=⟨[(0,.p (.sl false (p0.map Qaf))),(1,.p (sV p1)),(6,.p (iV v6))],⟨[],[]⟩⟩
noncomputable def Qik (p0:(List Qac)) (p1:(List UInt8)) (y2:Unit):St:=⟨[],⟨[],[]⟩⟩
noncomputable def Qil (p0:(List Qac)) (p1:(List UInt8)) (y3:(List Qab)):St:=⟨[(4,.p (.sl false (y3.map Qaa))),(5,.p (bV true))],⟨[],[]⟩⟩
noncomputable def Qme:Code:=((loopsOf (Try.f7.body.getD .skip)).getD 0 .skip)
noncomputable def Qoz (y:Bool):D :=.p (bV y)
noncomputable def Qu4:List (Nat×List Nat):=[(0,[0,1]),(1,[0,1,5]),(2,[0,1,5,9]),(3,[0,1,5]),(4,[0,1,5,17]),(5,[4]),(6,[4]),(1000002,[0,1,5])]
noncomputable def Qic (p0:(List (List UInt8))) (p1:(List UInt8)) (v5:Int):St:=⟨[(0,.p (.sl false (p0.map cStr))),(1,.p (sV p1)),(5,.p (iV v5))],⟨[],[]⟩⟩
noncomputable def Qkk (p0:(List (List UInt8))) (p1:(List UInt8)) (y2:Unit):St:=⟨[],⟨[],[]⟩⟩
noncomputable def Qkl (p0:(List (List UInt8))) (p1:(List UInt8)) (y3:Unit):St:=⟨[(4,.p (bV true))],⟨[],[]⟩⟩
noncomputable def Qps:Code:=((loopsOf (Try.f29.body.getD .skip)).getD 0 .skip)
noncomputable def Qnk (y:(List (List UInt8))):D :=.own 0 9 1 (y.map cStr)
noncomputable def Qlu:List (Nat×List Nat):=[(0,[0]),(1,[0,3]),(2,[0,3,4]),(3,[0,3,4,11]),(4,[0,3,4]),(5,[0,3,4,19]),(6,[0,3,4]),(7,[0,3,4,5]),(8,[0,3,4,5,6]),(9,[0,3,4,5,6,43]),(10,[0,3,4,5,6]),(11,[0,3,4,5,6]),(12,[2]),(1000003,[0,3,4]),(1000009,[0,3,4,5,6]),(2005005,[]),(5000007,[1005,1011]),(9000006,[6,0,0,0]),(9000011,[5,0,0,0])]
noncomputable def Qta (p0:(List Qab)) (v4:Int) (o2:(List (List UInt8))):St:=⟨[(0,.p (.sl false (p0.map Qaa))),(3,.own 0 9 1 (o2.map cStr)),(4,.p (iV v4))],⟨[],[(o2.map cStr).length]⟩⟩
noncomputable def Qgs (p0:(List Qab)) (v4:Int) (x9:(List (List UInt8))) (x10:(List (List UInt8))) (v3_:(List (List UInt8))) (v6:Int):St:=⟨[(0,.p (.sl false (p0.map Qaa))),(3,.own 0 9 1 (v3_.map cStr)),(4,.p (iV v4)),(5,.own 1 9 1 (x10.map cStr)),(6,.p (iV v6))],⟨[],[(v3_.map cStr).length,(x10.map cStr).length,(x9.map cStr).length]⟩⟩
noncomputable def Qim (p0:(List Qab)) (v4:Int) (x9:(List (List UInt8))) (x10:(List (List UInt8))) (o11:(List (List UInt8))):St:=⟨[(0,.p (.sl false (p0.map Qaa))),(3,.own 0 9 1 (o11.map cStr)),(4,.p (iV v4))],⟨[],[(o11.map cStr).length,(x10.map cStr).length,(x9.map cStr).length]⟩⟩
noncomputable def Qmf:Code:=((loopsOf (Try.f10.body.getD .skip)).getD 1 .skip)
noncomputable def Qin (p0:(List Qab)) (v3:(List (List UInt8))) (v4:Int):St:=⟨[(0,.p (.sl false (p0.map Qaa))),(3,.own 0 9 1 (v3.map cStr)),(4,.p (iV v4))],⟨[],[(v3.map cStr).length]⟩⟩
noncomputable def Qln (p0:(List Qab)) (o1:(List (List UInt8))):St:=⟨[(3,.own 0 9 1 (o1.map cStr))],⟨[],[(o1.map cStr).length]⟩⟩
noncomputable def Qtb:Code:=((loopsOf (Try.f10.body.getD .skip)).getD 0 .skip)
noncomputable def Qnl (y:(List (List UInt8))):D :=.own 0 9 1 (y.map cStr)
noncomputable def Qpt:List (Nat×List Nat):=[(0,[0,1]),(1,[0,1,8]),(2,[4]),(3,[0,1,5]),(4,[0,1,5,21]),(5,[0,1,5]),(6,[0,4]),(1000004,[0,1,5]),(3000004,[])]
noncomputable def Qtc (p0:(List (List UInt8))) (p1:(List UInt8)) (v5:Int) (o3:Bool):St:=⟨[(0,.own 0 9 1 (p0.map cStr)),(1,.p (sV p1)),(5,.p (iV v5)),(21,.p (bV o3))],⟨[],[(p0.map cStr).length]⟩⟩
noncomputable def Qgt (p0:(List (List UInt8))) (p1:(List UInt8)) (v5:Int):St:=⟨[(0,.own 0 9 1 (p0.map cStr)),(1,.p (sV p1)),(5,.p (iV v5))],⟨[],[(p0.map cStr).length]⟩⟩
noncomputable def Qio (p0:(List (List UInt8))) (p1:(List UInt8)) (o2:Int):St:=⟨[(0,.own 0 9 1 (p0.map cStr)),(1,.p (sV p1)),(5,.p (iV o2))],⟨[],[(p0.map cStr).length]⟩⟩
noncomputable def Qmg:Code:=((loopsOf (Try.f18.body.getD .skip)).getD 0 .skip)
noncomputable def Qcg (y:(List UInt8)×Int):D :=.tup [.p (sV y.1),.p (iV y.2)]
noncomputable def Qez:List (Nat×List Nat):=[(0,[0]),(1,[0,19]),(2,[2,3]),(3,[0,20,21,22]),(4,[0,20,21,22,23]),(5,[0,4,5,20,21,22]),(6,[0,4,5,20,21,22,36]),(7,[2,3]),(8,[0,5,7,20,21,22]),(9,[0,5,20,21,22,48]),(10,[2,3]),(11,[0,20,21,22]),(12,[0,8]),(13,[0,8,54,55,56]),(14,[0,8,54,55,56,57]),(15,[0,8,10,54,55,56]),(16,[0,8,10,54,55,56,64,65,66]),(17,[0,8,10,54,55,56,64,65,66,67]),(18,[0,8,10,12,54,55,56,64,65,66]),(19,[0,8,10,14,54,55,56,64,65,66]),(20,[0,8,10,54,55,56,64,65,66,78]),(21,[2,3]),(22,[0,8,10,54,55,56,64,65,66]),(23,[0,8,54,55,56]),(24,[8,83,84,85]),(25,[8,83,84,85,86]),(26,[8,16,83,84,85]),(27,[8,16,83,84,85,98]),(28,[2,3]),(29,[8,83,84,85]),(30,[2,3]),(1000004,[0,20,21,22]),(1000014,[0,8,54,55,56]),(1000017,[0,8,10,54,55,56,64,65,66]),(1000025,[8,83,84,85]),(3000006,[]),(5000027,[2005]),(9000016,[4,0,0,0]),(9000019,[3,0,0,0])]
noncomputable def Qod (p0:(List Qac)) (v22:Int) (x4:Qac) (o5:Bool):St:=⟨[(0,.p (.sl false (p0.map Qaf))),(4,.p (iV v22)),(5,.ptr 0 0),(20,.p (.sl false (p0.map Qaf))),(21,.p (iV (p0.length:Int))),(22,.p (iV v22)),(36,.p (bV o5))],⟨[[.p (sV x4.Name),.p (.sl false (x4.L.map Qaa))]],[]⟩⟩
noncomputable def Qeo (p0:(List Qac)) (v22:Int):St:=⟨[(0,.p (.sl false (p0.map Qaf))),(20,.p (.sl false (p0.map Qaf))),(21,.p (iV (p0.length:Int))),(22,.p (iV v22))],⟨[],[]⟩⟩
noncomputable def Qf9 (p0:(List Qac)) (y2:Unit):St:=⟨[(0,.p (.sl false (p0.map Qaf)))],⟨[],[]⟩⟩
noncomputable def Qga (p0:(List Qac)) (y3:(List UInt8)×Int):St:=⟨[(2,.p (sV y3.1)),(3,.p (iV y3.2))],⟨[],[]⟩⟩
noncomputable def Qjv:Code:=((loopsOf (Try.f13.body.getD .skip)).getD 0 .skip)
noncomputable def Qep (p0:(List Qac)) (x10:(List ((List UInt8)×(List (List UInt8))))) (v56:Int) (x14:Qac) (v66:Int):St:=⟨[(0,.p (.sl false (p0.map Qaf))),(8,.ptr 1 0),(10,.ptr 2 0),(54,.p (.sl false (p0.map Qaf))),(55,.p (iV (p0.length:Int))),(56,.p (iV v56)),(64,.p (.sl false (((mget (fun a b=>a==b) x14.Name x10).getD []).map cStr))),(65,.p (iV (((mget (fun a b=>a==b) x14.Name x10).getD []).length:Int))),(66,.p (iV v66))],⟨[[mpD sV (fun x =>.sl false (x.map cStr)) x10],[.mh 0],[.p (sV x14.Name),.p (.sl false (x14.L.map Qaa))]],[]⟩⟩
noncomputable def Qgb (p0:(List Qac)) (x10:(List ((List UInt8)×(List (List UInt8))))) (v56:Int) (x14:Qac) (y16:Unit):St:=⟨[(0,.p (.sl false (p0.map Qaf))),(8,.ptr 1 0),(54,.p (.sl false (p0.map Qaf))),(55,.p (iV (p0.length:Int))),(56,.p (iV v56))],⟨[[mpD sV (fun x =>.sl false (x.map cStr)) x10],[.mh 0],[.p (sV x14.Name),.p (.sl false (x14.L.map Qaa))]],[]⟩⟩
noncomputable def Qgc (p0:(List Qac)) (x10:(List ((List UInt8)×(List (List UInt8))))) (v56:Int) (x14:Qac) (y17:Unit):St:=⟨[(2,.p (sV x14.Name)),(3,.p (iV 4))],⟨[[mpD sV (fun x =>.sl false (x.map cStr)) x10],[.mh 0],[.p (sV x14.Name),.p (.sl false (x14.L.map Qaa))]],[]⟩⟩
noncomputable def Qjw:Code:=((loopsOf (Try.f13.body.getD .skip)).getD 2 .skip)
noncomputable def Qeq (p0:(List Qac)) (x10:(List ((List UInt8)×(List (List UInt8))))) (v56:Int):St:=⟨[(0,.p (.sl false (p0.map Qaf))),(8,.ptr 1 0),(54,.p (.sl false (p0.map Qaf))),(55,.p (iV (p0.length:Int))),(56,.p (iV v56))],⟨[[mpD sV (fun x =>.sl false (x.map cStr)) x10],[.mh 0]],[]⟩⟩
noncomputable def Qgd (p0:(List Qac)) (x10:(List ((List UInt8)×(List (List UInt8))))) (y12:Unit):St:=⟨[(0,.p (.sl false (p0.map Qaf))),(8,.ptr 1 0)],⟨[[mpD sV (fun x =>.sl false (x.map cStr)) x10],[.mh 0]],[]⟩⟩
noncomputable def Qge (p0:(List Qac)) (x10:(List ((List UInt8)×(List (List UInt8))))) (y13:(List UInt8)):St:=⟨[(2,.p (sV y13)),(3,.p (iV 4))],⟨[[mpD sV (fun x =>.sl false (x.map cStr)) x10],[.mh 0]],[]⟩⟩
noncomputable def Qjx:Code:=((loopsOf (Try.f13.body.getD .skip)).getD 1 .skip)
noncomputable def Qer (p0:(List Qac)) (x10:(List ((List UInt8)×(List (List UInt8))))) (v85:Int):St:=⟨[(8,.ptr 1 0),(83,.p (.sl false (p0.map Qaf))),(84,.p (iV (p0.length:Int))),(85,.p (iV v85))],⟨[[mpD sV (fun x =>.sl false (x.map cStr)) x10],[.mh 0]],[]⟩⟩
noncomputable def Qgf (p0:(List Qac)) (x10:(List ((List UInt8)×(List (List UInt8))))) (y20:Unit):St:=⟨[],⟨[[mpD sV (fun x =>.sl false (x.map cStr)) x10],[.mh 0]],[]⟩⟩
noncomputable def Qgg (p0:(List Qac)) (x10:(List ((List UInt8)×(List (List UInt8))))) (y21:(List UInt8)):St:=⟨[(2,.p (sV y21)),(3,.p (iV 10))],⟨[[mpD sV (fun x =>.sl false (x.map cStr)) x10],[.mh 0]],[]⟩⟩
noncomputable def Qjy:Code:=((loopsOf (Try.f13.body.getD .skip)).getD 3 .skip)
noncomputable def Qfi (y:(List Qab)×Bool):D :=.tup [.p (.sl false (y.1.map Qaa)),.p (bV y.2)]
noncomputable def Qmh:List (Nat×List Nat):=[(0,[0,1]),(1,[1,8,9,10]),(2,[1,8,9,10,11]),(3,[1,7,8,9,10]),(4,[1,7,8,9,10,17]),(5,[4,5]),(6,[1,8,9,10]),(7,[4,5]),(1000002,[1,8,9,10])]
noncomputable def Qe5 (p0:(List Qac)) (p1:(List UInt8)) (v10:Int):St:=⟨[(1,.p (sV p1)),(8,.p (.sl false (p0.map Qaf))),(9,.p (iV (p0.length:Int))),(10,.p (iV v10))],⟨[],[]⟩⟩
noncomputable def Qg7 (p0:(List Qac)) (p1:(List UInt8)) (y2:Unit):St:=⟨[],⟨[],[]⟩⟩
noncomputable def Qg8 (p0:(List Qac)) (p1:(List UInt8)) (y3:(List Qab)):St:=⟨[(4,.p (.sl false (y3.map Qaa))),(5,.p (bV true))],⟨[],[]⟩⟩
noncomputable def Qkm:Code:=((loopsOf (Try.f6.body.getD .skip)).getD 0 .skip)
noncomputable def Qhn (y:(List (List UInt8))):D :=.p (.sl false (y.map cStr))
noncomputable def Qip:List (Nat×List Nat):=[(0,[0]),(1,[0,4]),(2,[0,17]),(3,[2]),(4,[0,5]),(5,[0,5,6,7]),(6,[5,6,7,20,21,22]),(7,[5,6,7,20,21,22,23]),(8,[5,6,7,9,20,21,22]),(9,[5,6,7,20,21,22]),(10,[5,6,7,20,21,22]),(11,[5,6,7]),(12,[5,6,7,36]),(13,[5,6,7,10]),(14,[5,6,7,10]),(15,[5,6,7]),(16,[2]),(1000007,[5,6,7,20,21,22]),(1000012,[5,6,7]),(5000014,[2003,2004]),(9000009,[4,0,0,0]),(9000011,[1,1,6,0]),(9000012,[1,0,0,0]),(9000015,[4,0,0,0]),(9500013,[])]
noncomputable def Qes (p0:(List Qac)) (x2:(List ((List UInt8)×(List (List UInt8))))) (v6:(List (List UInt8))) (v22:Int):St:=⟨[(5,.ptr 1 0),(6,.x 0 1 (.sl 9 1 (v6.map cStr))),(7,.ptr 2 0),(20,.p (.sl false (p0.map Qaf))),(21,.p (iV (p0.length:Int))),(22,.p (iV v22))],⟨[[mpD sV (fun x =>.sl false (x.map cStr)) x2],[.mh 0],[.p (.sl true [])]],[1]⟩⟩
noncomputable def Qgh (p0:(List Qac)) (x2:(List ((List UInt8)×(List (List UInt8))))) (o3:(List (List UInt8))):St:=⟨[(5,.ptr 1 0),(6,.x 0 1 (.sl 9 1 (o3.map cStr))),(7,.ptr 2 0)],⟨[[mpD sV (fun x =>.sl false (x.map cStr)) x2],[.mh 0],[.p (.sl true [])]],[1]⟩⟩
noncomputable def Qjz:Code:=((loopsOf (Try.f20.body.getD .skip)).getD 0 .skip)
noncomputable def Qet (x2:(List ((List UInt8)×(List (List UInt8))))) (v6:(List (List UInt8))) (h2_0:(List (List UInt8))):St:=⟨[(5,.ptr 1 0),(6,.x 0 1 (.sl 9 1 (v6.map cStr))),(7,.ptr 2 0)],⟨[[mpD sV (fun x =>.sl false (x.map cStr)) x2],[.mh 0],[.own 1 9 1 (h2_0.map cStr)]],[1,(h2_0.map cStr).length]⟩⟩
noncomputable def Qgi (x2:(List ((List UInt8)×(List (List UInt8))))) (o6:(List (List UInt8))):St:=⟨[(7,.ptr 2 0)],⟨[[mpD sV (fun x =>.sl false (x.map cStr)) x2],[.mh 0],[.own 1 9 1 (o6.map cStr)]],[1,(o6.map cStr).length]⟩⟩
noncomputable def Qj0:Code:=((loopsOf (Try.f20.body.getD .skip)).getD 1 .skip)
noncomputable def Qhz (y:Bool):D :=.p (bV y)
noncomputable def Qlc:List (Nat×List Nat):=[(0,[0,1]),(1,[3])]
noncomputable def Qiz (y:Bool):D :=.p (bV y)
noncomputable def Qmi:List (Nat×List Nat):=[(0,[0,1,2]),(1,[4]),(9000001,[3,0,0,0])]
noncomputable def Qfn (y:(List (List UInt8))):D :=.p (.sl false (y.map cStr))
noncomputable def Qqv:List (Nat×List Nat):=[(0,[0,1]),(1,[0,1,6]),(2,[0,1,15]),(3,[4]),(4,[0,1,8]),(5,[0,1,23]),(6,[4]),(7,[4])]
noncomputable def Qid (y:(List (List UInt8))):D :=.p (.sl false (y.map cStr))
noncomputable def Qtd:List (Nat×List Nat):=[(0,[0]),(1,[0,3]),(2,[0,3,4]),(3,[0,3,4]),(4,[3]),(5,[3]),(6,[2]),(9000005,[1,3,0,0]),(9000006,[1,0,0,0]),(9500004,[])]
noncomputable def Qiq (_:(List (List UInt8))):D :=.tup []
noncomputable def Qkn:List (Nat×List Nat):=[(0,[1,2,6,7,8]),(1,[1,2,6,7,8,9]),(2,[1,2,5,6,7,8]),(3,[1,2,5,6,7,8,14]),(4,[1,2,5,6,7,8]),(5,[1,2,5,6,7,8]),(6,[1,2,6,7,8]),(7,[1,2,6,7,8]),(1000001,[1,2,6,7,8]),(2003005,[]),(9000004,[4,0,0,0])]
noncomputable def Qnm (p0:(List Qab)) (v8:Int) (x2:Qab) (o3:(List (List UInt8))):St:=⟨[(1,.ptr 0 0),(2,.ptr 1 0),(5,.ptr 2 0),(6,.p (.sl false (p0.map Qaa))),(7,.p (iV (p0.length:Int))),(8,.p (iV v8))],⟨[[.x 0 (o3.length+1) (.sl 9 1 (o3.map cStr))],[.fn (.func 15) [] [.ptr 0 0,.ptr 1 0]],[.p (iV x2.Kind),.p (sV x2.Name),.p (sV x2.Text),.p (iV x2.N),.p (.sl false (x2.L.map Qaa)),.p (.sl false (x2.Then.map Qaa)),.p (.sl false (x2.Else.map Qaa))]],[(o3.length+1)]⟩⟩
noncomputable def Qfo (p0:(List Qab)) (v8:Int) (h0_0_:(List (List UInt8))):St:=⟨[(1,.ptr 0 0),(2,.ptr 1 0),(6,.p (.sl false (p0.map Qaa))),(7,.p (iV (p0.length:Int))),(8,.p (iV v8))],⟨[[.x 0 (h0_0_.length+1) (.sl 9 1 (h0_0_.map cStr))],[.fn (.func 15) [] [.ptr 0 0,.ptr 1 0]]],[(h0_0_.length+1)]⟩⟩
noncomputable def Qie (p0:(List Qab)) (o1:(List (List UInt8))):St:=⟨[],⟨[[.x 0 (o1.length+1) (.sl 9 1 (o1.map cStr))],[.fn (.func 15) [] [.ptr 0 0,.ptr 1 0]]],[(o1.length+1)]⟩⟩
noncomputable def Qnn:Code:=((loopsOf (Try.f15.body.getD .skip)).getD 0 .skip)
noncomputable def Qmj (_:(List ((List UInt8)×(List (List UInt8))))):D :=.agg [.mh 0]
noncomputable def Qlo:List (Nat×List Nat):=[(0,[0,2]),(1,[0,2,3]),(2,[2,3,10,11,12]),(3,[2,3,10,11,12,13]),(4,[2,3,5,10,11,12]),(5,[2,3,5,7,10,11,12]),(6,[2,3,5,10,11,12,25]),(7,[2,3,10,11,12]),(8,[2,3,10,11,12]),(9,[2]),(1000003,[2,3,10,11,12]),(9000001,[0,0,0,0]),(9000005,[4,0,0,0]),(9000007,[7,0,0,0]),(9800007,[7]),(7000007,[2,3,10,11,12,27,29,32])]
noncomputable def Qdk (p0:(List Qac)) (v12:Int) (h1_0:(List ((List UInt8)×(List (List UInt8))))):St:=⟨[(2,.ptr 0 0),(3,.ptr 2 0),(10,.p (.sl false (p0.map Qaf))),(11,.p (iV (p0.length:Int))),(12,.p (iV v12))],⟨[[.p (.v (.map none))],[mpD sV (fun x =>.sl false (x.map cStr)) h1_0],[.mh 1]],[]⟩⟩
noncomputable def Qgj (p0:(List Qac)) (o1:(List ((List UInt8)×(List (List UInt8))))):St:=⟨[(2,.ptr 0 0),(3,.ptr 2 0)],⟨[[.p (.v (.map none))],[mpD sV (fun x =>.sl false (x.map cStr)) o1],[.mh 1]],[]⟩⟩
noncomputable def Qj1:Code:=((loopsOf (Try.f24.body.getD .skip)).getD 0 .skip)
noncomputable def Qfp (y:(List (List UInt8))):D :=.p (.sl false (y.map cStr))
noncomputable def Qdt:List (Nat×List Nat):=[(0,[1,2]),(1,[1,2,5]),(2,[2,5,6]),(3,[2,5,6,15,16,17]),(4,[2,5,6,15,16,17,18]),(5,[2,5,6,8,15,16,17]),(6,[2,5,6,15,16,17]),(7,[2,5,6,15,16,17]),(8,[2,5,6,9]),(9,[2,5,6,9,27]),(10,[2,5,6,9]),(11,[2,5,6,9,36,37,38]),(12,[2,5,6,9,36,37,38,39]),(13,[2,5,6,9,11,36,37,38]),(14,[2,5,6,9,11,36,37,38,45]),(15,[2,5,6,9,11,36,37,38]),(16,[2,5,6,9,36,37,38]),(17,[2,5,6,9,36,37,38]),(18,[6]),(19,[4]),(1000004,[2,5,6,15,16,17]),(1000009,[2,5,6,9]),(1000012,[2,5,6,9,36,37,38]),(5000011,[2004,2005,2006]),(9000001,[0,0,0,0]),(9000003,[1,0,0,0]),(9000005,[0,0,0,0,1,0,0,0]),(9000006,[2,0,0,0]),(9000009,[2,0,0,0]),(9000014,[2,0,0,0]),(9000015,[2,0,0,0]),(9000016,[3,0,0,0]),(9000018,[1,1,6,0])]
noncomputable def Qc4 (h0_0:(List ((List UInt8)×(List (List UInt8))))) (x1:(List (List UInt8))) (v17:Int) (h2_0:(List ((List UInt8)×Int))):St:=⟨[(2,.ptr 1 0),(5,.mh 2),(6,.x 0 1 (.sl 9 1 (x1.map cStr))),(15,.x 0 1 (.sl 9 1 (x1.map cStr))),(16,.p (iV (x1.length:Int))),(17,.p (iV v17))],⟨[[mpD sV (fun x =>.sl false (x.map cStr)) h0_0],[.mh 0],[mpD sV iV h2_0]],[1]⟩⟩
noncomputable def Qd3 (h0_0:(List ((List UInt8)×(List (List UInt8))))) (x1:(List (List UInt8))) (o2:(List ((List UInt8)×Int))):St:=⟨[(2,.ptr 1 0),(5,.mh 2),(6,.x 0 1 (.sl 9 1 (x1.map cStr)))],⟨[[mpD sV (fun x =>.sl false (x.map cStr)) h0_0],[.mh 0],[mpD sV iV o2]],[1]⟩⟩
noncomputable def Qg1:Code:=((loopsOf (Try.f26.body.getD .skip)).getD 0 .skip)
noncomputable def Qb5 (h0_0:(List ((List UInt8)×(List (List UInt8))))) (v9:Int) (x5:(List UInt8)) (v6_:(List (List UInt8))) (v38:Int) (h2_0_:(List ((List UInt8)×Int))):St:=⟨[(2,.ptr 1 0),(5,.mh 2),(6,.x 0 1 (.sl 9 1 (v6_.map cStr))),(9,.p (iV v9)),(36,.p (.sl false (((mget (fun a b=>a==b) x5 h0_0).getD []).map cStr))),(37,.p (iV (((mget (fun a b=>a==b) x5 h0_0).getD []).length:Int))),(38,.p (iV v38))],⟨[[mpD sV (fun x =>.sl false (x.map cStr)) h0_0],[.mh 0],[mpD sV iV h2_0_]],[1]⟩⟩
noncomputable def Qd4 (h0_0:(List ((List UInt8)×(List (List UInt8))))) (v9:Int) (x5:(List UInt8)) (o6:(List (List UInt8))×(List ((List UInt8)×Int))):St:=⟨[(2,.ptr 1 0),(5,.mh 2),(6,.x 0 1 (.sl 9 1 (o6.1.map cStr))),(9,.p (iV v9))],⟨[[mpD sV (fun x =>.sl false (x.map cStr)) h0_0],[.mh 0],[mpD sV iV o6.2]],[1]⟩⟩
noncomputable def Qg2:Code:=((loopsOf (Try.f26.body.getD .skip)).getD 2 .skip)
noncomputable def Qc5 (h0_0:(List ((List UInt8)×(List (List UInt8))))) (v6:(List (List UInt8))) (v9:Int) (h2_0:(List ((List UInt8)×Int))):St:=⟨[(2,.ptr 1 0),(5,.mh 2),(6,.x 0 1 (.sl 9 1 (v6.map cStr))),(9,.p (iV v9))],⟨[[mpD sV (fun x =>.sl false (x.map cStr)) h0_0],[.mh 0],[mpD sV iV h2_0]],[1]⟩⟩
noncomputable def Qd5 (h0_0:(List ((List UInt8)×(List (List UInt8))))) (o4:(List (List UInt8))×(List ((List UInt8)×Int))):St:=⟨[(6,.x 0 1 (.sl 9 1 (o4.1.map cStr)))],⟨[[mpD sV (fun x =>.sl false (x.map cStr)) h0_0],[.mh 0],[mpD sV iV o4.2]],[1]⟩⟩
noncomputable def Qg3:Code:=((loopsOf (Try.f26.body.getD .skip)).getD 1 .skip)
noncomputable def Qby (y:Bool):D :=.p (bV y)
noncomputable def Qfq:List (Nat×List Nat):=[(0,[0,1]),(1,[4]),(3000001,[])]
noncomputable def Qe8  (o1:Bool):St:=⟨[(4,.p (bV o1))],⟨[],[]⟩⟩
noncomputable def Qd6 (y:Int):D :=.p (iV y)
noncomputable def Qdg (y:Int):D :=.p (iV y)
noncomputable def Qjf (y:(List UInt8)×Bool):D :=.tup [.p (sV y.1),.p (bV y.2)]
noncomputable def Qn5:List (Nat×List Nat):=[(0,[0]),(1,[0,14]),(2,[2,3]),(3,[0,4]),(4,[0,4,17,18]),(5,[0,4,17,18,19]),(6,[0,4,5,17,18]),(7,[0,4,6,17,18]),(8,[0,4,6,17,18,24]),(9,[0,4,17,18]),(10,[0,4,6,17,18,24,29]),(11,[0,4,17,18]),(12,[0,4,6,17,18,24,33]),(13,[0,4,17,18]),(14,[0,4,6,17,18,24,37]),(15,[0,4,6,17,18,37]),(16,[0,4,17,18]),(17,[0,4,17,18]),(18,[2,3]),(1000005,[0,4,17,18]),(2014005,[]),(3000001,[])]
noncomputable def Qqw (p0:(List UInt8)) (o1:Bool):St:=⟨[(0,.p (sV p0)),(14,.p (bV o1))],⟨[],[]⟩⟩
noncomputable def Qqx (p0:(List UInt8)) (v4:(List Int)) (v18:Int) (x5:UInt8) (o8:Bool):St:=⟨[(0,.p (sV p0)),(4,.own 0 1000005 1 (v4.map (cNum .u8))),(6,.p (nV .u8 (x5.toNat:Int))),(17,.p (iV (p0.length:Int))),(18,.p (iV v18)),(37,.p (bV o8))],⟨[],[(v4.map (cNum .u8)).length]⟩⟩
noncomputable def Qcv (p0:(List UInt8)) (v4:(List Int)) (v18:Int):St:=⟨[(0,.p (sV p0)),(4,.own 0 1000005 1 (v4.map (cNum .u8))),(17,.p (iV (p0.length:Int))),(18,.p (iV v18))],⟨[],[(v4.map (cNum .u8)).length]⟩⟩
noncomputable def Qh0 (p0:(List UInt8)) (o4:(List Int)):St:=⟨[(4,.own 0 1000005 1 (o4.map (cNum .u8)))],⟨[],[(o4.map (cNum .u8)).length]⟩⟩
noncomputable def Qlp:Code:=((loopsOf (Try.f70.body.getD .skip)).getD 0 .skip)
noncomputable def Qhr (y:Bool):D :=.p (bV y)
noncomputable def Qpu:List (Nat×List Nat):=[(0,[0]),(1,[0,5,6]),(2,[0,5,6,7]),(3,[0,3,5,6]),(4,[0,5,6,13]),(5,[2]),(6,[0,5,6]),(7,[2]),(1000002,[0,5,6]),(3000007,[])]
noncomputable def Qgu (p0:(List UInt8)) (v6:Int):St:=⟨[(0,.p (sV p0)),(5,.p (iV (p0.length:Int))),(6,.p (iV v6))],⟨[],[]⟩⟩
noncomputable def Qir (p0:(List UInt8)) (y2:Unit):St:=⟨[(0,.p (sV p0))],⟨[],[]⟩⟩
noncomputable def Qis (p0:(List UInt8)) (y3:Unit):St:=⟨[(2,.p (bV false))],⟨[],[]⟩⟩
noncomputable def Qmk:Code:=((loopsOf (Try.f35.body.getD .skip)).getD 0 .skip)
noncomputable def Qte  (o6:Bool):St:=⟨[(2,.p (bV o6))],⟨[],[]⟩⟩
noncomputable def Qjg (y:Bool):D :=.p (bV y)
noncomputable def Qu5:List (Nat×List Nat):=[(0,[0]),(1,[2]),(3000001,[])]
noncomputable def Qqy  (o1:Bool):St:=⟨[(2,.p (bV o1))],⟨[],[]⟩⟩
noncomputable def Qko (y:Bool):D :=.p (bV y)
noncomputable def Qtf:List (Nat×List Nat):=[(0,[0]),(1,[2]),(3000001,[])]
noncomputable def Qpv  (o1:Bool):St:=⟨[(2,.p (bV o1))],⟨[],[]⟩⟩
noncomputable def Qbt (y:(List Qab)×Int):D :=.tup [.p (.sl false (y.1.map Qaa)),.p (iV y.2)]
noncomputable def Qhi:List (Nat×List Nat):=[(0,[0,1,2]),(1,[0,1,2,8]),(2,[0,1,2,8,9]),(3,[0,1,2,8,9,24]),(4,[0,1,2,8,9]),(5,[0,1,2,8,9,10]),(6,[0,1,2,8,9,10]),(7,[0,1,2,8,9,10,11]),(8,[0,1,2,8,9,10,11]),(9,[0,1,2,8,9,10,11]),(10,[0,1,2,8,9,11]),(11,[0,1,2,8,9]),(12,[6,7]),(1000003,[0,1,2,8,9]),(3000003,[])]
noncomputable def Qj6 (p0:(List Qab)) (p1:Int) (v2:Int) (v8:(List Qab)) (v9:Int) (o2:Bool):St:=⟨[(0,.p (.sl false (p0.map Qaa))),(1,.p (iV p1)),(2,.p (iV v2)),(8,.own 0 45 7 (v8.map Qaa)),(9,.p (iV v9)),(24,.p (bV o2))],⟨[],[(v8.map Qaa).length]⟩⟩
noncomputable def Qdu (p0:(List Qab)) (p1:Int) (v2:Int) (v8:(List Qab)) (v9:Int):St:=⟨[(0,.p (.sl false (p0.map Qaa))),(1,.p (iV p1)),(2,.p (iV v2)),(8,.own 0 45 7 (v8.map Qaa)),(9,.p (iV v9))],⟨[],[(v8.map Qaa).length]⟩⟩
noncomputable def Qfr (p0:(List Qab)) (p1:Int) (o1:Int×(List Qab)):St:=⟨[(2,.p (iV o1.1)),(8,.own 0 45 7 (o1.2.map Qaa))],⟨[],[(o1.2.map Qaa).length]⟩⟩
noncomputable def Qj7:Code:=((loopsOf (Try.f14.body.getD .skip)).getD 0 .skip)
noncomputable def Qdv (y:Bool):D :=.p (bV y)
noncomputable def Qfj:List (Nat×List Nat):=[(0,[0,1]),(1,[0,1]),(2,[0,1,5,6]),(3,[0,5,6,7,8]),(4,[0,5,6,7,8,9]),(5,[0,5,6,7,8,9,27]),(6,[0,5,6,7,8,9]),(7,[0,5,6,7,8,9,43]),(8,[4]),(9,[4]),(1000005,[0,5,6,7,8,9]),(3000009,[]),(5000007,[1011])]
noncomputable def Qbv (x1:(List Qac)) (x2:(List Qab)×Bool) (x3:(List Qab)×Bool) (v9:Int):St:=⟨[(0,.p (.sl false (x1.map Qaf))),(5,.p (.sl false (x2.1.map Qaa))),(6,.p (bV x2.2)),(7,.p (.sl false (x3.1.map Qaa))),(8,.p (bV x3.2)),(9,.p (iV v9))],⟨[],[]⟩⟩
noncomputable def Qcw (x1:(List Qac)) (x2:(List Qab)×Bool) (x3:(List Qab)×Bool) (y5:Unit):St:=⟨[(5,.p (.sl false (x2.1.map Qaa))),(6,.p (bV x2.2)),(7,.p (.sl false (x3.1.map Qaa))),(8,.p (bV x3.2))],⟨[],[]⟩⟩
noncomputable def Qcx (x1:(List Qac)) (x2:(List Qab)×Bool) (x3:(List Qab)×Bool) (y6:Unit):St:=⟨[(4,.p (bV false))],⟨[],[]⟩⟩
noncomputable def Qew:Code:=((loopsOf (Try.f3.body.getD .skip)).getD 0 .skip)
noncomputable def Qh8  (o12:Bool):St:=⟨[(4,.p (bV o12))],⟨[],[]⟩⟩
noncomputable def Qgk (y:(List Qac)):D :=.p (.sl false (y.map Qaf))
noncomputable def Qif:List (Nat×List Nat):=[(0,[0,1]),(1,[0,1,5]),(2,[0,1,5,6]),(3,[0,1,5,6,18]),(4,[0,1,5,6]),(5,[0,1,5,6,7]),(6,[0,1,5,6]),(7,[4]),(1000003,[0,1,5,6]),(3000003,[])]
noncomputable def Qld (p0:(List Qac)) (p1:Int) (v5:(List Qac)) (v6:Int) (o2:Bool):St:=⟨[(0,.p (.sl false (p0.map Qaf))),(1,.p (iV p1)),(5,.own 0 31 2 (v5.map Qaf)),(6,.p (iV v6)),(18,.p (bV o2))],⟨[],[(v5.map Qaf).length]⟩⟩
noncomputable def Qda (p0:(List Qac)) (p1:Int) (v5:(List Qac)) (v6:Int):St:=⟨[(0,.p (.sl false (p0.map Qaf))),(1,.p (iV p1)),(5,.own 0 31 2 (v5.map Qaf)),(6,.p (iV v6))],⟨[],[(v5.map Qaf).length]⟩⟩
noncomputable def Qd9 (p0:(List Qac)) (p1:Int) (o1:(List Qac)):St:=⟨[(5,.own 0 31 2 (o1.map Qaf))],⟨[],[(o1.map Qaf).length]⟩⟩
noncomputable def Qhj:Code:=((loopsOf (Try.f5.body.getD .skip)).getD 0 .skip)
noncomputable def Qe9 (y:Bool):D :=.p (bV y)
noncomputable def Qle:List (Nat×List Nat):=[(0,[]),(1,[1]),(2,[1,2,3]),(3,[0]),(3000003,[])]
noncomputable def Qj8  (o6:Bool):St:=⟨[(0,.p (bV o6))],⟨[],[]⟩⟩
noncomputable def Qcr (y:Qab):D :=.p (.agg [iV y.Kind,sV y.Name,sV y.Text,iV y.N,.sl false (y.L.map Qaa),.sl false (y.Then.map Qaa),.sl false (y.Else.map Qaa)])
noncomputable def Qml:List (Nat×List Nat):=[(0,[0,2]),(1,[2])]
noncomputable def Qch (y:(List (List UInt8))):D :=.x 0 1 (.sl 9 1 (y.map cStr))
noncomputable def Qg9:List (Nat×List Nat):=[(0,[0]),(1,[0,4]),(2,[2]),(3,[2]),(9000001,[1,0,0,0]),(9000003,[2,0,0,0])]
noncomputable def Qbh (y:Bool):D :=.p (bV y)
noncomputable def Qcs:List (Nat×List Nat):=[(0,[0,1]),(1,[4])]
noncomputable def Qbb (y:Bool):D :=.p (bV y)
noncomputable def Qcd:List (Nat×List Nat):=[(0,[0,1]),(1,[4])]
noncomputable def Qbl (y:Bool):D :=.p (bV y)
noncomputable def Qf1:List (Nat×List Nat):=[(0,[0,1]),(1,[4])]
noncomputable def Qa4 (y:Int):D :=.p (iV y)
noncomputable def Qbm:List (Nat×List Nat):=[(0,[0,1]),(1,[0,1,7,8]),(2,[0,1,7,8,9]),(3,[0,1,5,7,8]),(4,[0,1,5,7,8,16]),(5,[4]),(6,[0,1,7,8]),(7,[4]),(1000002,[0,1,7,8])]
noncomputable def Qax (p0:(List Qab)) (v8:Int):St:=⟨[(0,.p (.sl false (p0.map Qaa))),(1,.fn (.func 72) [] []),(7,.p (iV (p0.length:Int))),(8,.p (iV v8))],⟨[],[]⟩⟩
noncomputable def Qbe (p0:(List Qab)) (y2:Unit):St:=⟨[],⟨[],[]⟩⟩
noncomputable def Qbf (p0:(List Qab)) (y3:Int):St:=⟨[(4,.p (iV y3))],⟨[],[]⟩⟩
noncomputable def Qcy:Code:=((loopsOf (Try.f76.body.getD .skip)).getD 0 .skip)
noncomputable def Qa2 (y:Int):D :=.p (iV y)
noncomputable def Qbi:List (Nat×List Nat):=[(0,[0,1]),(1,[0,1,7,8]),(2,[0,1,7,8,9]),(3,[0,1,5,7,8]),(4,[0,1,5,7,8,16]),(5,[4]),(6,[0,1,7,8]),(7,[4]),(1000002,[0,1,7,8])]
noncomputable def Qan (p0:(List (List UInt8))) (h0_0:(List (List UInt8))) (v8:Int):St:=⟨[(0,.p (.sl false (p0.map cStr))),(1,.fn (.func 33) [] [.ptr 0 0]),(7,.p (iV (p0.length:Int))),(8,.p (iV v8))],⟨[[.own 0 9 1 (h0_0.map cStr)]],[(h0_0.map cStr).length]⟩⟩
noncomputable def Qav (p0:(List (List UInt8))) (h0_0:(List (List UInt8))) (y2:Unit):St:=⟨[],⟨[[.own 0 9 1 (h0_0.map cStr)]],[(h0_0.map cStr).length]⟩⟩
noncomputable def Qaw (p0:(List (List UInt8))) (h0_0:(List (List UInt8))) (y3:Int):St:=⟨[(4,.p (iV y3))],⟨[[.own 0 9 1 (h0_0.map cStr)]],[(h0_0.map cStr).length]⟩⟩
noncomputable def Qbc:Code:=((loopsOf (Try.f30.body.getD .skip)).getD 0 .skip)
noncomputable def Qa5 (y:Int):D :=.p (iV y)
noncomputable def Qbn:List (Nat×List Nat):=[(0,[0,1]),(1,[0,1,7,8]),(2,[0,1,7,8,9]),(3,[0,1,5,7,8]),(4,[0,1,5,7,8,16]),(5,[4]),(6,[0,1,7,8]),(7,[4]),(1000002,[0,1,7,8]),(9000001,[1,0,0,0]),(9000004,[3,0,0,0,4,0,0,0])]
noncomputable def Qao (p0:(List (List UInt8))) (h1_0:(List (List UInt8))) (h2_0:(List ((List UInt8)×(List (List UInt8))))) (v8:Int):St:=⟨[(0,.x 0 (p0.length+1) (.sl 9 1 (p0.map cStr))),(1,.fn (.func 31) [] [.ptr 0 0,.ptr 1 0]),(7,.p (iV (p0.length:Int))),(8,.p (iV v8))],⟨[[.mh 2],[.own 1 9 1 (h1_0.map cStr)],[mpD sV (fun x =>.sl false (x.map cStr)) h2_0]],[(p0.length+1),(h1_0.map cStr).length]⟩⟩
noncomputable def Qay (p0:(List (List UInt8))) (h1_0:(List (List UInt8))) (h2_0:(List ((List UInt8)×(List (List UInt8))))) (y2:Unit):St:=⟨[],⟨[[.mh 2],[.own 1 9 1 (h1_0.map cStr)],[mpD sV (fun x =>.sl false (x.map cStr)) h2_0]],[(p0.length+1),(h1_0.map cStr).length]⟩⟩
noncomputable def Qaz (p0:(List (List UInt8))) (h1_0:(List (List UInt8))) (h2_0:(List ((List UInt8)×(List (List UInt8))))) (y3:Int):St:=⟨[(4,.p (iV y3))],⟨[[.mh 2],[.own 1 9 1 (h1_0.map cStr)],[mpD sV (fun x =>.sl false (x.map cStr)) h2_0]],[(p0.length+1),(h1_0.map cStr).length]⟩⟩
noncomputable def Qbj:Code:=((loopsOf (Try.f30.body.getD .skip)).getD 0 .skip)
noncomputable def Qbu (y:Int):D :=.p (iV y)
noncomputable def Qdy:List (Nat×List Nat):=[(0,[0,1]),(1,[0,1,7,8]),(2,[0,1,7,8,9]),(3,[0,1,5,7,8]),(4,[0,1,5,7,8,16]),(5,[4]),(6,[0,1,7,8]),(7,[4]),(1000002,[0,1,7,8])]
noncomputable def Qbg (p0:(List (List UInt8))) (p1:(List UInt8)) (v8:Int):St:=⟨[(0,.p (.sl false (p0.map cStr))),(1,.p (sV p1)),(7,.p (iV (p0.length:Int))),(8,.p (iV v8))],⟨[],[]⟩⟩
noncomputable def Qbz (p0:(List (List UInt8))) (p1:(List UInt8)) (y2:Unit):St:=⟨[],⟨[],[]⟩⟩
noncomputable def Qb0 (p0:(List (List UInt8))) (p1:(List UInt8)) (y3:Int):St:=⟨[(4,.p (iV y3))],⟨[],[]⟩⟩
noncomputable def Qdl:Code:=((loopsOf (Try.f39.body.getD .skip)).getD 0 .skip)
noncomputable def Qfs (y:Bool):D :=.p (bV y)
noncomputable def Qlv:List (Nat×List Nat):=[(0,[0,1]),(1,[4])]
noncomputable def Qb6 (y:Bool):D :=.p (bV y)
noncomputable def Qlf:List (Nat×List Nat):=[(0,[0,1]),(1,[4])]
noncomputable def Qh1 (y:Int):D :=.p (iV y)
noncomputable def Qoe:List (Nat×List Nat):=[(0,[0,1]),(1,[4])]
noncomputable def Qfa (y:Int):D :=.p (iV y)
noncomputable def Qlg:List (Nat×List Nat):=[(0,[0,1]),(1,[4])]
noncomputable def Qkp (y:Int):D :=.p (iV y)
noncomputable def Qjh:List (Nat×List Nat):=[(0,[0]),(1,[0,3]),(2,[3,5]),(3,[3,5]),(4,[2]),(4000003,[3,5])]
noncomputable def Qc7 (x1:(List Qab)×Int) (h0_0:Int):St:=⟨[(3,.ptr 0 0),(5,.fn (.func 63) [] [.p (.ep [.sl false (x1.1.map Qaa)]),.p (.ep [iV x1.2])])],⟨[[.p (iV h0_0)]],[]⟩⟩
noncomputable def Qha (x1:(List Qab)×Int) (o6:Int):St:=⟨[(3,.ptr 0 0),(5,.fn (.func 63) [] [.p (.ep [.sl false (x1.1.map Qaa)]),.p (.ep [iV x1.2])])],⟨[[.p (iV o6)]],[]⟩⟩
noncomputable def Qdm:Code:=((loopsOf (Try.f37.body.getD .skip)).getD 0 .skip)
noncomputable def Qlw (y:Int):D :=.p (iV y)
noncomputable def Qkq:List (Nat×List Nat):=[(0,[0,5]),(1,[0,3,5]),(2,[3,5,7]),(3,[3,5,7]),(4,[3,5,7]),(5,[2]),(4000003,[3,5,7])]
noncomputable def Qdn (x1:(List Qab)×Int) (h0_0:Int):St:=⟨[(3,.ptr 0 0),(7,.fn (.func 63) [] [.p (.ep [.sl false (x1.1.map Qaa)]),.p (.ep [iV x1.2])])],⟨[[.p (iV h0_0)]],[]⟩⟩
noncomputable def Qh2 (x1:(List Qab)×Int) (o6:Int):St:=⟨[(3,.ptr 0 0),(7,.fn (.func 63) [] [.p (.ep [.sl false (x1.1.map Qaa)]),.p (.ep [iV x1.2])])],⟨[[.p (iV o6)]],[]⟩⟩
noncomputable def Qd0:Code:=((loopsOf (Try.f36.body.getD .skip)).getD 0 .skip)
noncomputable def Qpw (y:Bool):D :=.p (bV y)
noncomputable def Qyv:List (Nat×List Nat):=[(0,[0]),(1,[2]),(3000001,[])]
noncomputable def Qu6  (o1:Bool):St:=⟨[(2,.p (bV o1))],⟨[],[]⟩⟩
noncomputable def Qea (y:Bool):D :=.p (bV y)
noncomputable def Qu7:List (Nat×List Nat):=[(0,[0]),(1,[0,3]),(2,[0,3,4]),(3,[0,3,4]),(4,[0,3,4]),(5,[0,3,4]),(6,[0,3,4]),(7,[0,3,4]),(8,[0,3,4]),(9,[0,3,4]),(10,[0,3,4]),(11,[0,4]),(12,[2]),(13,[2]),(2002037,[])]
noncomputable def Qqz (p0:(List UInt8)) (o1:Bool):St:=⟨[(0,.p (sV p0)),(4,.p (bV o1))],⟨[],[]⟩⟩
noncomputable def Qi0 (y:(List Qab)×Int):D :=.fn (.func 63) [] [.p (.ep [.sl false (y.1.map Qaa)]),.p (.ep [iV y.2])]
noncomputable def Qwn:List (Nat×List Nat):=[(0,[2,3]),(1,[4])]
noncomputable def Qa7 (y:(Qab×Int)):List V:=[.agg [iV y.1.Kind,sV y.1.Name,sV y.1.Text,iV y.1.N,.sl false (y.1.L.map Qaa),.sl false (y.1.Then.map Qaa),.sl false (y.1.Else.map Qaa)],iV y.2]
noncomputable def Qft:List (Nat×List Nat):=[(0,[1,2,3,8,9]),(1,[2,3,8,9,10,11,12]),(2,[2,3,8,9,10,11,12,13]),(3,[2,3,5,8,9,10,11,12]),(4,[2,3,5,8,9,10,11,12,20]),(5,[2,3,8,9,10,11,12,27,28]),(6,[2,3,8,9,10,11,12,27,28,29]),(7,[2,3,7,8,9,10,11,12,27,28]),(8,[2,3,8,9,10,11,12,27,28,34]),(9,[2,3,8,10,11,12,27,28,34,36]),(10,[2,3,8,9,10,11,12,27,28,34]),(11,[2,3,8,9,10,11,12,27,28,34,41]),(12,[2,3,8,9,10,11,12,27,28]),(13,[2,3,8,9,10,11,12]),(1000002,[2,3,8,9,10,11,12]),(1000006,[2,3,8,9,10,11,12,27,28]),(4000009,[2,3,8,9,10,11,12,27,28,34])]
noncomputable def Qc8 (p0:(List Qab)) (p1:Int) (v12:Int) (x3:Qab) (v28:Int) (x7:(List Qab)×Int) (gxs gp:List (List V)):St:=⟨[(2,.p (.ep [iV p1])),(3,.ptr 0 0),(10,.p (.sl false (p0.map Qaa))),(11,.p (iV (p0.length:Int))),(12,.p (iV v12)),(27,.p (.agg [.sl false (x3.L.map Qaa),.sl false (x3.Then.map Qaa),.sl false (x3.Else.map Qaa)])),(28,.p (iV v28)),(34,.fn (.func 63) [] [.p (.ep [.sl false (x7.1.map Qaa)]),.p (.ep [iV x7.2])])],⟨[[.yld Try.prog 0 gxs],[.p (iV x3.Kind),.p (sV x3.Name),.p (sV x3.Text),.p (iV x3.N),.p (.sl false (x3.L.map Qaa)),.p (.sl false (x3.Then.map Qaa)),.p (.sl false (x3.Else.map Qaa))]],[gp.length]⟩⟩
noncomputable def Qhb (p0:(List Qab)) (p1:Int) (v12:Int) (x3:Qab) (v28:Int) (x7:(List Qab)×Int) (gxs:List (List V)) (gq12:List (List V)) (oy:Unit):St:=⟨[(2,.p (.ep [iV p1])),(3,.ptr 0 0),(10,.p (.sl false (p0.map Qaa))),(11,.p (iV (p0.length:Int))),(12,.p (iV v12)),(27,.p (.agg [.sl false (x3.L.map Qaa),.sl false (x3.Then.map Qaa),.sl false (x3.Else.map Qaa)])),(28,.p (iV v28)),(34,.fn (.func 63) [] [.p (.ep [.sl false (x7.1.map Qaa)]),.p (.ep [iV x7.2])])],⟨[[.yld Try.prog 0 gxs],[.p (iV x3.Kind),.p (sV x3.Name),.p (sV x3.Text),.p (iV x3.N),.p (.sl false (x3.L.map Qaa)),.p (.sl false (x3.Then.map Qaa)),.p (.sl false (x3.Else.map Qaa))]],[gq12.length]⟩⟩
noncomputable def Qdo:Code:=((loopsOf (Try.f63.body.getD .skip)).getD 2 .skip)
noncomputable def Qhc (p0:(List Qab)) (p1:Int) (v12:Int) (x3:Qab) (v28:Int) (gxs gp:List (List V)):St:=⟨[(2,.p (.ep [iV p1])),(3,.ptr 0 0),(10,.p (.sl false (p0.map Qaa))),(11,.p (iV (p0.length:Int))),(12,.p (iV v12)),(27,.p (.agg [.sl false (x3.L.map Qaa),.sl false (x3.Then.map Qaa),.sl false (x3.Else.map Qaa)])),(28,.p (iV v28))],⟨[[.yld Try.prog 0 gxs],[.p (iV x3.Kind),.p (sV x3.Name),.p (sV x3.Text),.p (iV x3.N),.p (.sl false (x3.L.map Qaa)),.p (.sl false (x3.Then.map Qaa)),.p (.sl false (x3.Else.map Qaa))]],[gp.length]⟩⟩
noncomputable def Qj2 (p0:(List Qab)) (p1:Int) (v12:Int) (x3:Qab) (gxs:List (List V)) (gq4:List (List V)) (oy:Unit):St:=⟨[(2,.p (.ep [iV p1])),(3,.ptr 0 0),(10,.p (.sl false (p0.map Qaa))),(11,.p (iV (p0.length:Int))),(12,.p (iV v12))],⟨[[.yld Try.prog 0 gxs],[.p (iV x3.Kind),.p (sV x3.Name),.p (sV x3.Text),.p (iV x3.N),.p (.sl false (x3.L.map Qaa)),.p (.sl false (x3.Then.map Qaa)),.p (.sl false (x3.Else.map Qaa))]],[gq4.length]⟩⟩
noncomputable def Qpx:Code:=((loopsOf (Try.f63.body.getD .skip)).getD 1 .skip)
noncomputable def Qhd (p0:(List Qab)) (p1:Int) (v12:Int) (gxs gp:List (List V)):St:=⟨[(2,.p (.ep [iV p1])),(3,.ptr 0 0),(10,.p (.sl false (p0.map Qaa))),(11,.p (iV (p0.length:Int))),(12,.p (iV v12))],⟨[[.yld Try.prog 0 gxs]],[gp.length]⟩⟩
noncomputable def Qj3 (p0:(List Qab)) (p1:Int) (gxs:List (List V)) (gq1:List (List V)) (oy:Unit):St:=⟨[],⟨[[.yld Try.prog 0 gxs]],[gq1.length]⟩⟩
noncomputable def Qpy:Code:=((loopsOf (Try.f63.body.getD .skip)).getD 0 .skip)
noncomputable def Qeb (y:Bool):D :=.p (bV y)
noncomputable def Qmm:List (Nat×List Nat):=[(0,[0,1]),(1,[0,1,8,9,10]),(2,[0,1,8,9,10,11]),(3,[0,1,5,6,8,9,10]),(4,[0,1,5,6,8,9,10,17]),(5,[4]),(6,[0,1,5,6,7,8,9,10]),(7,[0,1,8,9,10,50]),(8,[4]),(9,[0,1,8,9,10]),(10,[4]),(1000002,[0,1,8,9,10]),(3000007,[])]
noncomputable def Qpz (p0:(List Qab)) (p1:Bool) (v10:Int) (x4:Qab) (o6:Bool):St:=⟨[(0,.p (.sl false (p0.map Qaa))),(1,.p (bV p1)),(8,.p (.sl false (p0.map Qaa))),(9,.p (iV (p0.length:Int))),(10,.p (iV v10)),(50,.p (bV o6))],⟨[[.p (iV x4.Kind),.p (sV x4.Name),.p (sV x4.Text),.p (iV x4.N),.p (.sl false (x4.L.map Qaa)),.p (.sl false (x4.Then.map Qaa)),.p (.sl false (x4.Else.map Qaa))]],[]⟩⟩
noncomputable def Qhe (p0:(List Qab)) (p1:Bool) (v10:Int):St:=⟨[(0,.p (.sl false (p0.map Qaa))),(1,.p (bV p1)),(8,.p (.sl false (p0.map Qaa))),(9,.p (iV (p0.length:Int))),(10,.p (iV v10))],⟨[],[]⟩⟩
noncomputable def Qj4 (p0:(List Qab)) (p1:Bool) (y2:Unit):St:=⟨[],⟨[],[]⟩⟩
noncomputable def Qj5 (p0:(List Qab)) (p1:Bool) (y3:Unit):St:=⟨[(4,.p (bV false))],⟨[],[]⟩⟩
noncomputable def Qp0:Code:=((loopsOf (Try.f38.body.getD .skip)).getD 0 .skip)
noncomputable def Qb7 (y:Bool):D :=.p (bV y)
noncomputable def Qu8:List (Nat×List Nat):=[(0,[1]),(1,[1,3]),(2,[1,3,4]),(3,[1,3,4,11]),(4,[1,3,4,11,12]),(5,[3,6]),(6,[2]),(7,[1,3,4,11,28]),(8,[2]),(9,[1,3,4,11,35]),(10,[2]),(11,[1,3,4,11,48]),(12,[2]),(13,[1,3,4,11,58]),(14,[2]),(15,[1,3,4,11,68]),(16,[1,3,4]),(17,[2]),(18,[1,3,4,86]),(19,[1,3,4]),(20,[2]),(21,[2]),(3000006,[]),(3000010,[]),(3000012,[]),(3000014,[]),(3000017,[]),(3000020,[])]
noncomputable def Qq0 (p0:Qab) (x1:Qcc) (o3:Bool):St:=⟨[(2,.p (bV o3))],⟨[[.p (iV p0.Kind),.p (sV p0.Name),.p (sV p0.Text),.p (iV p0.N),.p (.sl false (p0.L.map Qaa)),.p (.sl false (p0.Then.map Qaa)),.p (.sl false (p0.Else.map Qaa))],[.p (bV x1.name_),.p (bV x1.text_),.p (bV x1.num_),.p (bV x1.then_),.p (bV x1.other_),.p (iV x1.l_)],[.p (bV true),.p (bV false),.p (bV false),.p (bV false),.p (bV false),.p (iV 0)]],[]⟩⟩
noncomputable def Qq1 (p0:Qab) (x1:Qcc) (o4:Bool):St:=⟨[(2,.p (bV o4))],⟨[[.p (iV p0.Kind),.p (sV p0.Name),.p (sV p0.Text),.p (iV p0.N),.p (.sl false (p0.L.map Qaa)),.p (.sl false (p0.Then.map Qaa)),.p (.sl false (p0.Else.map Qaa))],[.p (bV x1.name_),.p (bV x1.text_),.p (bV x1.num_),.p (bV x1.then_),.p (bV x1.other_),.p (iV x1.l_)],[.p (bV true),.p (bV false),.p (bV false),.p (bV false),.p (bV false),.p (iV 0)]],[]⟩⟩
noncomputable def Qq2 (p0:Qab) (x1:Qcc) (o5:Bool):St:=⟨[(2,.p (bV o5))],⟨[[.p (iV p0.Kind),.p (sV p0.Name),.p (sV p0.Text),.p (iV p0.N),.p (.sl false (p0.L.map Qaa)),.p (.sl false (p0.Then.map Qaa)),.p (.sl false (p0.Else.map Qaa))],[.p (bV x1.name_),.p (bV x1.text_),.p (bV x1.num_),.p (bV x1.then_),.p (bV x1.other_),.p (iV x1.l_)],[.p (bV true),.p (bV false),.p (bV false),.p (bV false),.p (bV false),.p (iV 0)]],[]⟩⟩
noncomputable def Qq3 (p0:Qab) (x1:Qcc) (o7:Bool):St:=⟨[(2,.p (bV o7))],⟨[[.p (iV p0.Kind),.p (sV p0.Name),.p (sV p0.Text),.p (iV p0.N),.p (.sl false (p0.L.map Qaa)),.p (.sl false (p0.Then.map Qaa)),.p (.sl false (p0.Else.map Qaa))],[.p (bV x1.name_),.p (bV x1.text_),.p (bV x1.num_),.p (bV x1.then_),.p (bV x1.other_),.p (iV x1.l_)],[.p (bV true),.p (bV false),.p (bV false),.p (bV false),.p (bV false),.p (iV 0)]],[]⟩⟩
noncomputable def Qq4 (p0:Qab) (x1:Qcc) (o9:Bool):St:=⟨[(2,.p (bV o9))],⟨[[.p (iV p0.Kind),.p (sV p0.Name),.p (sV p0.Text),.p (iV p0.N),.p (.sl false (p0.L.map Qaa)),.p (.sl false (p0.Then.map Qaa)),.p (.sl false (p0.Else.map Qaa))],[.p (bV x1.name_),.p (bV x1.text_),.p (bV x1.num_),.p (bV x1.then_),.p (bV x1.other_),.p (iV x1.l_)],[.p (bV true),.p (bV false),.p (bV false),.p (bV false),.p (bV false),.p (iV 1)]],[]⟩⟩
noncomputable def Qq5 (p0:Qab) (x1:Qcc) (o13:Bool):St:=⟨[(2,.p (bV o13))],⟨[[.p (iV p0.Kind),.p (sV p0.Name),.p (sV p0.Text),.p (iV p0.N),.p (.sl false (p0.L.map Qaa)),.p (.sl false (p0.Then.map Qaa)),.p (.sl false (p0.Else.map Qaa))],[.p (bV x1.name_),.p (bV x1.text_),.p (bV x1.num_),.p (bV x1.then_),.p (bV x1.other_),.p (iV x1.l_)],[.p (bV true),.p (bV false),.p (bV false),.p (bV false),.p (bV false),.p (iV (if 3<x1.l_ then 3 else x1.l_))]],[]⟩⟩
noncomputable def Qji (y:Bool):D :=.p (bV y)
noncomputable def Qq6:List (Nat×List Nat):=[(0,[1]),(1,[2])]
noncomputable def Qgv (y:Qcc):D :=.p (.agg [bV y.name_,bV y.text_,bV y.num_,bV y.then_,bV y.other_,iV y.l_])
noncomputable def Qp1:List (Nat×List Nat):=[(0,[1,2]),(1,[2])]
noncomputable def Qjj (y:Bool):D :=.p (bV y)
noncomputable def Qu9:List (Nat×List Nat):=[(0,[1]),(1,[1,3]),(2,[1,3,4]),(3,[1,3,4,10]),(4,[2]),(5,[1,3,4,10,11]),(6,[2]),(7,[1,3,4,10,22]),(8,[1,3,4,10,24]),(9,[1,3,4]),(10,[1,3,4,10,32]),(11,[1,3,4,10,32]),(12,[1,3,4]),(13,[1,3,4,42]),(14,[1,3,4]),(15,[1,3,4,5]),(16,[2]),(2003032,[]),(2010005,[]),(3000006,[]),(3000015,[]),(3000016,[]),(5000009,[1005,1007]),(5000012,[1006,1008]),(8000009,[2]),(8000012,[2])]
noncomputable def Qq7 (p0:Qab) (x1:Qcc) (y3:Bool×Bool×Bool):St:=⟨[(1,.ptr 0 0),(3,.ptr 1 0),(4,.ptr 2 0)],⟨[[.p (iV p0.Kind),.p (sV p0.Name),.p (sV p0.Text),.p (iV p0.N),.p (.sl false (p0.L.map Qaa)),.p (.sl false (p0.Then.map Qaa)),.p (.sl false (p0.Else.map Qaa))],[.p (bV x1.name_),.p (bV x1.text_),.p (bV x1.num_),.p (bV x1.then_),.p (bV x1.other_),.p (iV x1.l_)],[.p (bV y3.1),.p (bV false),.p (bV false),.p (bV y3.2.1),.p (bV y3.2.2),.p (iV 1)]],[]⟩⟩
noncomputable def Qq8 (p0:Qab) (x1:Qcc) (y4:Bool):St:=⟨[(2,.p (bV y4))],⟨[[.p (iV p0.Kind),.p (sV p0.Name),.p (sV p0.Text),.p (iV p0.N),.p (.sl false (p0.L.map Qaa)),.p (.sl false (p0.Then.map Qaa)),.p (.sl false (p0.Else.map Qaa))],[.p (bV x1.name_),.p (bV x1.text_),.p (bV x1.num_),.p (bV x1.then_),.p (bV x1.other_),.p (iV x1.l_)],[.p (bV false),.p (bV false),.p (bV false),.p (bV false),.p (bV false),.p (iV 1)]],[]⟩⟩
noncomputable def Qq9 (p0:Qab) (x1:Qcc) (o5:Bool):St:=⟨[(2,.p (bV o5))],⟨[[.p (iV p0.Kind),.p (sV p0.Name),.p (sV p0.Text),.p (iV p0.N),.p (.sl false (p0.L.map Qaa)),.p (.sl false (p0.Then.map Qaa)),.p (.sl false (p0.Else.map Qaa))],[.p (bV x1.name_),.p (bV x1.text_),.p (bV x1.num_),.p (bV x1.then_),.p (bV x1.other_),.p (iV x1.l_)],[.p (bV false),.p (bV false),.p (bV false),.p (bV false),.p (bV false),.p (iV 1)]],[]⟩⟩
noncomputable def Qra (p0:Qab) (x1:Qcc) (o7:Bool):St:=⟨[(1,.ptr 0 0),(3,.ptr 1 0),(4,.ptr 2 0),(10,.p (iV p0.Kind)),(32,.p (bV o7))],⟨[[.p (iV p0.Kind),.p (sV p0.Name),.p (sV p0.Text),.p (iV p0.N),.p (.sl false (p0.L.map Qaa)),.p (.sl false (p0.Then.map Qaa)),.p (.sl false (p0.Else.map Qaa))],[.p (bV x1.name_),.p (bV x1.text_),.p (bV x1.num_),.p (bV x1.then_),.p (bV x1.other_),.p (iV x1.l_)],[.p (bV false),.p (bV false),.p (bV false),.p (bV false),.p (bV false),.p (iV 1)]],[]⟩⟩
noncomputable def Qrb (p0:Qab) (x1:Qcc) (y3:Bool×Bool×Bool) (o10:Bool):St:=⟨[(1,.ptr 0 0),(3,.ptr 1 0),(4,.ptr 2 0),(5,.p (bV o10))],⟨[[.p (iV p0.Kind),.p (sV p0.Name),.p (sV p0.Text),.p (iV p0.N),.p (.sl false (p0.L.map Qaa)),.p (.sl false (p0.Then.map Qaa)),.p (.sl false (p0.Else.map Qaa))],[.p (bV x1.name_),.p (bV x1.text_),.p (bV x1.num_),.p (bV x1.then_),.p (bV x1.other_),.p (iV x1.l_)],[.p (bV y3.1),.p (bV false),.p (bV false),.p (bV y3.2.1),.p (bV y3.2.2),.p (iV 1)]],[]⟩⟩
noncomputable def Qrc (p0:Qab) (x1:Qcc) (y3:Bool×Bool×Bool) (o11:Bool):St:=⟨[(2,.p (bV o11))],⟨[[.p (iV p0.Kind),.p (sV p0.Name),.p (sV p0.Text),.p (iV p0.N),.p (.sl false (p0.L.map Qaa)),.p (.sl false (p0.Then.map Qaa)),.p (.sl false (p0.Else.map Qaa))],[.p (bV x1.name_),.p (bV x1.text_),.p (bV x1.num_),.p (bV x1.then_),.p (bV x1.other_),.p (iV x1.l_)],[.p (bV y3.1),.p (bV false),.p (bV false),.p (bV y3.2.1),.p (bV y3.2.2),.p (iV 1)]],[]⟩⟩
noncomputable def Qo0 (y:Bool):D :=.p (bV y)
noncomputable def Qp2:List (Nat×List Nat):=[(0,[0,2,3,4]),(1,[2,3,4,6]),(2,[2,3,6,8]),(3,[2,3,4,6]),(4,[2,3,4,6,14]),(5,[2]),(6,[2]),(4000002,[2,3,4,6]),(3000004,[])]
noncomputable def Qwo (x1:(List UInt8)) (x2:(Int×Int)) (o9:Bool):St:=⟨[(2,.ptr 0 0),(3,.p (nV .i32 x2.1)),(4,.p (iV x2.2)),(6,.fn (.func 84) [] [.p (.ep [sV x1])]),(14,.p (bV o9))],⟨[[.p (bV false)]],[]⟩⟩
noncomputable def Qfk (x1:(List UInt8)):St:=⟨[(2,.ptr 0 0),(6,.fn (.func 84) [] [.p (.ep [sV x1])])],⟨[[.p (bV false)]],[]⟩⟩
noncomputable def Qkr (x1:(List UInt8)) (y7:Unit):St:=⟨[(2,.ptr 0 0),(6,.fn (.func 84) [] [.p (.ep [sV x1])])],⟨[[.p (bV false)]],[]⟩⟩
noncomputable def Qks (x1:(List UInt8)) (y8:Unit):St:=⟨[(2,.ptr 0 0)],⟨[[.p (bV false)]],[]⟩⟩
noncomputable def Qgl:Code:=((loopsOf (Try.f74.body.getD .skip)).getD 0 .skip)
noncomputable def Qhs (y:Int×Int):D :=.tup [.p (nV .i32 y.1),.p (iV y.2)]
noncomputable def Qwp:List (Nat×List Nat):=[(0,[0,1]),(1,[0,1,17]),(2,[4,5]),(3,[0,1,6]),(4,[4,5]),(5,[0,1,6,21]),(6,[4,5]),(7,[0,1,6,26]),(8,[0,1,4,7,8]),(9,[0,1,6,36]),(10,[0,1,4,7,8]),(11,[0,1,6,46]),(12,[0,1,4,7,8]),(13,[4,7,8,9]),(14,[4,8,77]),(15,[4,5]),(16,[4,5]),(2004022,[]),(3000001,[]),(3000007,[]),(3000009,[]),(3000011,[]),(3000014,[])]
noncomputable def Qtg (p0:(List UInt8)) (p1:Int) (o1:Bool):St:=⟨[(0,.p (sV p0)),(1,.p (iV p1)),(17,.p (bV o1))],⟨[],[]⟩⟩
noncomputable def Qth (p0:(List UInt8)) (p1:Int) (y4:Int×Int×Int):St:=⟨[(0,.p (sV p0)),(1,.p (iV p1)),(4,.p (nV .i32 y4.1)),(7,.p (nV .i32 y4.2.1)),(8,.p (iV y4.2.2))],⟨[],[]⟩⟩
noncomputable def Qti (p0:(List UInt8)) (p1:Int) (y5:Int):St:=⟨[(4,.p (nV .i32 y5)),(5,.p (iV 1))],⟨[],[]⟩⟩
noncomputable def Qtj (p0:(List UInt8)) (p1:Int) (x2:UInt8) (o6:Bool):St:=⟨[(0,.p (sV p0)),(1,.p (iV p1)),(6,.p (nV .u8 (x2.toNat:Int))),(26,.p (bV o6))],⟨[],[]⟩⟩
noncomputable def Qtk (p0:(List UInt8)) (p1:Int) (x2:UInt8) (o7:Bool):St:=⟨[(0,.p (sV p0)),(1,.p (iV p1)),(6,.p (nV .u8 (x2.toNat:Int))),(36,.p (bV o7))],⟨[],[]⟩⟩
noncomputable def Qtl (p0:(List UInt8)) (p1:Int) (x2:UInt8) (o8:Bool):St:=⟨[(0,.p (sV p0)),(1,.p (iV p1)),(6,.p (nV .u8 (x2.toNat:Int))),(46,.p (bV o8))],⟨[],[]⟩⟩
noncomputable def Qtm (y4:Int×Int×Int) (x10:Int×Bool) (o11:Bool):St:=⟨[(4,.p (nV .i32 x10.1)),(8,.p (iV y4.2.2)),(77,.p (bV o11))],⟨[],[]⟩⟩
noncomputable def Qp3 (y:(List UInt8)):D :=.fn (.func 84) [] [.p (.ep [sV y])]
noncomputable def Qyw:List (Nat×List Nat):=[(0,[1]),(1,[2])]
noncomputable def Qec (y:(Int×Int)):List V:=[nV .i32 y.1,iV y.2]
noncomputable def Qn6:List (Nat×List Nat):=[(0,[0,1,3]),(1,[0,1,3,9]),(2,[0,1,3,4,5]),(3,[0,1,3,5,20]),(4,[0,1,3]),(1000001,[0,1,3])]
noncomputable def Qfu (p0:(List UInt8)) (v3:Int) (gxs gp:List (List V)):St:=⟨[(0,.yld Try.prog 0 gxs),(1,.p (.ep [sV p0])),(3,.p (iV v3))],⟨[],[gp.length]⟩⟩
noncomputable def Qh3 (p0:(List UInt8)) (gxs:List (List V)) (gq1:List (List V)) (oy:Unit):St:=⟨[],⟨[],[gq1.length]⟩⟩
noncomputable def Qlq:Code:=((loopsOf (Try.f84.body.getD .skip)).getD 0 .skip)
noncomputable def Qtn (y:Bool):D :=.p (bV y)
noncomputable def Q0a:List (Nat×List Nat):=[(0,[0]),(1,[2]),(3000001,[])]
noncomputable def Qwq  (o1:Bool):St:=⟨[(2,.p (bV o1))],⟨[],[]⟩⟩
noncomputable def Qi1 (y:Int×Bool):D :=.tup [.p (nV .i32 y.1),.p (bV y.2)]
noncomputable def Qp4:List (Nat×List Nat):=[(0,[0,1,2]),(1,[0,1,2,12]),(2,[6,7]),(3,[0,1,13,14]),(4,[0,1,13,14,15]),(5,[0,1,8,13,14]),(6,[0,1,8,13,14,21]),(7,[6,7]),(8,[0,1,13,14]),(9,[0,1,13,14]),(10,[6,7]),(1000004,[0,1,13,14])]
noncomputable def Qgw (p0:(List UInt8)) (p2:Int) (v1:Int) (v14:Int):St:=⟨[(0,.p (sV p0)),(1,.p (nV .i32 v1)),(13,.p (iV p2)),(14,.p (iV v14))],⟨[],[]⟩⟩
noncomputable def Qit (p0:(List UInt8)) (p2:Int) (y2:Int):St:=⟨[(1,.p (nV .i32 y2))],⟨[],[]⟩⟩
noncomputable def Qiu (p0:(List UInt8)) (p2:Int) (y3:Unit):St:=⟨[(6,.p (nV .i32 0)),(7,.p (bV false))],⟨[],[]⟩⟩
noncomputable def Qmn:Code:=((loopsOf (Try.f86.body.getD .skip)).getD 0 .skip)
noncomputable def Qed (p0:(List (List UInt8))) (p1:(List (List UInt8))) (v5:Int):Option (Unit⊕Unit) :=
 if(decide (v5<(p0.length:Int))) then
  idx p0 v5>>=fun x4 =>
  idx p1 v5>>=fun x5 =>
  if(!(x4==x5)) then
   some (.inr ())
  else
   Qed p0 p1 (wr (v5+1))
 else
  some (.inl ())
 partial_fixpoint
theorem Qp5:∀ (p0:(List (List UInt8))) (p1:(List (List UInt8))),(∀ (v5:Int) (o1:Unit⊕Unit),Qed p0 p1 v5=some o1→TL (0,0) Try.prog 26 Qmd (JP2 (0,0) 26 o1 (.exit 0) (Qih p0 p1) .ret (Qii p0 p1)) (Qgq p0 p1 v5)):=by
 intro p0 p1
 refine Qed.partial_correctness p0 p1 _ ?_
 intro Qed' iQed v5 o1 h
 refine TL.round (Qaj mixed tbOk (lv:=Qpp) _ _ _ ?_)
 refine view (lenMap _ _) rfl ?_
 refine Qae h (fun hb h=>?_) (fun hb h=>?_)
 ·refine And.intro (by decide +kernel) (And.intro rfl ?_)
  refine Qb4 (l:=p0) (c:=cStr) (c' := cStr) h (fun _=>rfl) (fun _=>rfl) (by decide) (fun x4 hi h=>?_)
  refine Qb4 (l:=p1) (c:=cStr) (c' := cStr) h (fun _=>rfl) (fun _=>rfl) (by decide) (fun x5 hi h=>?_)
  refine Qae h (fun hb h=>?_) (fun hb h=>?_)
  ·exact JP2.b h (Le.tz 0 0 rfl rfl rfl)
  ·refine TL.le (τ := Qgq p0 p1 (wr (v5+1))) ?_ ((iQed (wr (v5+1)) _ h))
   exact Le.tz 0 0 rfl rfl rfl
 ·exact JP2.a h (Le.tz 0 0 rfl rfl rfl)
theorem Qrd:∀ (p0:(List (List UInt8))) (p1:(List (List UInt8))) (v5:Int) (o1:Unit⊕Unit),Qed p0 p1 v5=some o1→TL (0,0) Try.prog 26 Qmd (JP2 (0,0) 26 o1 (.exit 0) (Qih p0 p1) .ret (Qii p0 p1)) (Qgq p0 p1 v5):=fun p0 p1 v5=>(Qp5 p0 p1) v5
noncomputable def Qjk (p0:(List (List UInt8))) (p1:(List (List UInt8))):Option (Bool) :=
 if((p0.length:Int) != (p1.length:Int)) then
  some false
 else
  (Qed p0 p1 0)>>=fun o1 =>
  match o1 with
  | .inl y2 =>
   some true
  | .inr y3 =>
   some false
theorem Qlx:∀ (p0:(List (List UInt8))) (p1:(List (List UInt8))) (o:Bool),Qjk p0 p1=some o→PCall Try.prog 8 [.sl false (p0.map cStr),.sl false (p1.map cStr)] (Qf8 o):=by
 intro p0 p1 o h
 unfold Qjk at h
 refine PCall.ofB mixed tbOk Qpp Try.func8 rfl (by kernel_rfl) (Nat.le_of_ble_eq_true rfl) ?_
 refine view (lenMap _ _) rfl ?_
 refine view (lenMap _ _) rfl ?_
 refine Qae h (fun hb h=>?_) (fun hb h=>?_)
 ·refine Qat (t:=Qf8) h ?_
  exact .refl _
 ·refine Qai h (fun o1 ho hk=>?_)
  refine Exists.intro (JP2 _ _ o1 (.exit 0) (Qih p0 p1) .ret (Qii p0 p1)) (And.intro (T_le (τ := Qgq p0 p1 0) ?_ (TL.loop (Qrd p0 p1 0 o1 ho))) (join2 (fun y2 hy=>?_) (fun y3 hy=>?_)))
  ·exact Le.tz 0 0 rfl rfl rfl
  ·have h:=(by rw[hy] at hk; exact hk)
   refine Qat (t:=Qf8) h ?_
   exact .refl _
  ·have h:=(by rw[hy] at hk; exact hk)
   refine Qat (t:=Qf8) h ?_
   exact .refl _
mutual
noncomputable def Qfv (p0:(List Qab)) (p1:(List Qab)):Option (Bool) :=
 if((p0.length:Int) != (p1.length:Int)) then
  some false
 else
  (Qfb p0 p1 0)>>=fun o1 =>
  match o1 with
  | .inl y2 =>
   some true
  | .inr y3 =>
   some false
 partial_fixpoint
noncomputable def Qfb (p0:(List Qab)) (p1:(List Qab)) (v5:Int):Option (Unit⊕Unit) :=
 if(decide (v5<(p0.length:Int))) then
  ( idx p0 v5>>=fun x5 =>
   idx p1 v5>>=fun x6 =>
   some (x5.Kind,x5.Name,x5.Text,x5.N,x5.L,x5.Then,x5.Else,x6.Kind,x6.Name,x6.Text,x6.N,x6.L,x6.Then,x6.Else):Option ((Int×(List UInt8)×(List UInt8)×Int×(List Qab)×(List Qab)×(List Qab)×Int×(List UInt8)×(List UInt8)×Int×(List Qab)×(List Qab)×(List Qab))))>>=fun o4 =>
  ( if(o4.1 != o4.2.2.2.2.2.2.2.1) then
    some true
   else
    if(!(o4.2.1==o4.2.2.2.2.2.2.2.2.1)) then
     some true
    else
     if(!(o4.2.2.1==o4.2.2.2.2.2.2.2.2.2.1)) then
      some true
     else
      if(o4.2.2.2.1 != o4.2.2.2.2.2.2.2.2.2.2.1) then
       some true
      else
       Qfv o4.2.2.2.2.1 o4.2.2.2.2.2.2.2.2.2.2.2.1>>=fun x8 =>
       if(!x8) then
        some true
       else
        Qfv o4.2.2.2.2.2.1 o4.2.2.2.2.2.2.2.2.2.2.2.2.1>>=fun x9 =>
        if(!x9) then
         some true
        else
         Qfv o4.2.2.2.2.2.2.1 o4.2.2.2.2.2.2.2.2.2.2.2.2.2>>=fun x10 =>
         some (!x10):Option (Bool))>>=fun o7 =>
  if o7 then
   some (.inr ())
  else
   Qfb p0 p1 (wr (v5+1))
 else
  some (.inl ())
 partial_fixpoint
end
theorem Qva:(∀ (p0:(List Qab)) (p1:(List Qab)) (o:Bool),Qfv p0 p1=some o→PCall Try.prog 11 [.sl false (p0.map Qaa),.sl false (p1.map Qaa)] (Qen o))∧(∀ (p0:(List Qab)) (p1:(List Qab)) (v5:Int) (o1:Unit⊕Unit),Qfb p0 p1 v5=some o1→TL (0,0) Try.prog 77 Qs9 (JP2 (0,0) 77 o1 (.exit 0) (Qll p0 p1) .ret (Qlm p0 p1)) (Qij p0 p1 v5)):=by
 refine Qfv.mutual_partial_correctness _ _ ?_ ?_
 ·intro Qfb' iQfb p0 p1 o h
  refine PCall.ofB mixed tbOk Qpq Try.func11 rfl (by kernel_rfl) (Nat.le_of_ble_eq_true rfl) ?_
  refine view (lenMap _ _) rfl ?_
  refine view (lenMap _ _) rfl ?_
  refine Qae h (fun hb h=>?_) (fun hb h=>?_)
  ·refine Qat (t:=Qen) h ?_
   exact .refl _
  ·refine Qai h (fun o1 ho hk=>?_)
   refine Exists.intro (JP2 _ _ o1 (.exit 0) (Qll p0 p1) .ret (Qlm p0 p1)) (And.intro (T_le (τ := Qij p0 p1 0) ?_ (TL.loop (iQfb p0 p1 0 o1 ho))) (join2 (fun y2 hy=>?_) (fun y3 hy=>?_)))
   ·exact Le.tz 0 0 rfl rfl rfl
   ·have h:=(by rw[hy] at hk; exact hk)
    refine Qat (t:=Qen) h ?_
    exact .refl _
   ·have h:=(by rw[hy] at hk; exact hk)
    refine Qat (t:=Qen) h ?_
    exact .refl _
 ·intro Qfv' Qfb' iQfv iQfb p0 p1 v5 o1 h
  refine TL.round (Qaj mixed tbOk (lv:=Qpq) _ _ _ ?_)
  refine view (lenMap _ _) rfl ?_
  refine Qae h (fun hb h=>?_) (fun hb h=>?_)
  ·refine Qai h (fun o4 ho hk=>?_)
   refine Exists.intro (JP1 _ _ o4 .normal (Qs7 p0 p1 v5)) (And.intro ?_ (join1 ?_))
   ·have h:=ho
    refine And.intro (by decide +kernel) (And.intro (by decide +kernel) (And.intro (by decide +kernel) (And.intro rfl ?_)))
    refine Qb4 (l:=p0) (c:=Qaa) (c' := Qbw) h Qam (fun _=>rfl) (by decide) (fun x5 hi h=>?_)
    refine Qb4 (l:=p1) (c:=Qaa) (c' := Qbw) h Qam (fun _=>rfl) (by decide) (fun x6 hi h=>?_)
    refine And.intro (Nat.le_of_ble_eq_true rfl) (And.intro ?_ ?_)
    ·refine JP1.a h ?_
     exact Le.tz 2 0 rfl rfl rfl
    ·refine JP1.a h ?_
     exact Le.trans (τ := ⟨[(0,.p (.sl false (p0.map Qaa))),(1,.p (.sl false (p1.map Qaa))),(5,.p (iV v5)),(6,.ptr 0 0),(7,.ptr 1 0)],⟨[[.p (iV x5.Kind),.p (sV x5.Name),.p (sV x5.Text),.p (iV x5.N),.p (.sl false (x5.L.map Qaa)),.p (.sl false (x5.Then.map Qaa)),.p (.sl false (x5.Else.map Qaa))],[.p (iV x6.Kind),.p (sV x6.Name),.p (sV x6.Text),.p (iV x6.N),.p (.sl false (x6.L.map Qaa)),.p (.sl false (x6.Then.map Qaa)),.p (.sl false (x6.Else.map Qaa))]],[]⟩⟩) (Le.perm [1,0] rfl rfl rfl) (Le.tz 2 0 rfl rfl rfl)
   ·have h:=hk
    refine Qai h (fun o7 ho hk=>?_)
    refine Exists.intro (JP1 _ _ o7 .normal (Qs8 p0 p1 v5 o4)) (And.intro ?_ (join1 ?_))
    ·have h:=ho
     refine Qae h (fun hb h=>?_) (fun hb h=>?_)
     ·refine bT ?_
      refine bT ?_
      refine bT ?_
      refine bT ?_
      refine bT ?_
      refine JP1.a h ?_
      exact Le.tz 2 0 rfl rfl rfl
     ·refine Qae h (fun hb h=>?_) (fun hb h=>?_)
      ·refine bT ?_
       refine bT ?_
       refine bT ?_
       refine bT ?_
       refine JP1.a h ?_
       exact Le.tz 2 0 rfl rfl rfl
      ·refine Qae h (fun hb h=>?_) (fun hb h=>?_)
       ·refine bT ?_
        refine bT ?_
        refine bT ?_
        refine JP1.a h ?_
        exact Le.tz 2 0 rfl rfl rfl
       ·refine Qae h (fun hb h=>?_) (fun hb h=>?_)
        ·refine bT ?_
         refine bT ?_
         refine JP1.a h ?_
         exact Le.tz 2 0 rfl rfl rfl
        ·refine Qal [.sl false (o4.2.2.2.2.1.map Qaa),.sl false (o4.2.2.2.2.2.2.2.2.2.2.2.1.map Qaa)] Qen h (fun x8 hy=>(iQfv o4.2.2.2.2.1 o4.2.2.2.2.2.2.2.2.2.2.2.1 x8 hy)) (fun x8 hy h=>?_)
         refine Qae h (fun hb h=>?_) (fun hb h=>?_)
         ·refine bT ?_
          refine JP1.a h ?_
          exact Le.tz 2 0 rfl rfl rfl
         ·refine Qal [.sl false (o4.2.2.2.2.2.1.map Qaa),.sl false (o4.2.2.2.2.2.2.2.2.2.2.2.2.1.map Qaa)] Qen h (fun x9 hy=>(iQfv o4.2.2.2.2.2.1 o4.2.2.2.2.2.2.2.2.2.2.2.2.1 x9 hy)) (fun x9 hy h=>?_)
          refine Qae h (fun hb h=>?_) (fun hb h=>?_)
          ·refine JP1.a h ?_
           exact Le.tz 2 0 rfl rfl rfl
          ·refine Qal [.sl false (o4.2.2.2.2.2.2.1.map Qaa),.sl false (o4.2.2.2.2.2.2.2.2.2.2.2.2.2.map Qaa)] Qen h (fun x10 hy=>(iQfv o4.2.2.2.2.2.2.1 o4.2.2.2.2.2.2.2.2.2.2.2.2.2 x10 hy)) (fun x10 hy h=>?_)
           refine JP1.a h ?_
           exact Le.tz 2 0 rfl rfl rfl
    ·have h:=hk
     refine Qae h (fun hb h=>?_) (fun hb h=>?_)
     ·exact JP2.b h (Le.tz 0 0 rfl rfl rfl)
     ·refine TL.le (τ := Qij p0 p1 (wr (v5+1))) ?_ ((iQfb p0 p1 (wr (v5+1)) _ h))
      exact Le.tz 0 0 rfl rfl rfl
  ·exact JP2.a h (Le.tz 0 0 rfl rfl rfl)
theorem Qwr:∀ (p0:(List Qab)) (p1:(List Qab)) (o:Bool),Qfv p0 p1=some o→PCall Try.prog 11 [.sl false (p0.map Qaa),.sl false (p1.map Qaa)] (Qen o):=fun p0 p1=>Qva.1 p0 p1
noncomputable def Qee (p0:(List Qac)) (p1:(List UInt8)) (v6:Int):Option (Unit⊕(List Qab)) :=
 if(decide (v6<(p0.length:Int))) then
  idx p0 v6>>=fun x4 =>
  if(x4.Name==p1) then
   idx p0 v6>>=fun x5 =>
   some (.inr x5.L)
  else
   Qee p0 p1 (wr (v6+1))
 else
  some (.inl ())
 partial_fixpoint
theorem Qp6:∀ (p0:(List Qac)) (p1:(List UInt8)),(∀ (v6:Int) (o1:Unit⊕(List Qab)),Qee p0 p1 v6=some o1→TL (0,0) Try.prog 25 Qme (JP2 (0,0) 25 o1 (.exit 0) (Qik p0 p1) .ret (Qil p0 p1)) (Qgr p0 p1 v6)):=by
 intro p0 p1
 refine Qee.partial_correctness p0 p1 _ ?_
 intro Qee' iQee v6 o1 h
 refine TL.round (Qaj mixed tbOk (lv:=Qpr) _ _ _ ?_)
 refine view (lenMap _ _) rfl ?_
 refine Qae h (fun hb h=>?_) (fun hb h=>?_)
 ·refine Qb4 (l:=p0) (c:=Qaf) (c' := Qaf) h (fun _=>rfl) (fun _=>rfl) (by decide) (fun x4 hi h=>?_)
  refine Qae h (fun hb h=>?_) (fun hb h=>?_)
  ·refine Qb4 (l:=p0) (c:=Qaf) (c' := Qaf) h (fun _=>rfl) (fun _=>rfl) (by decide) (fun x5 hi h=>?_)
   exact JP2.b h (Le.tz 0 0 rfl rfl rfl)
  ·refine TL.le (τ := Qgr p0 p1 (wr (v6+1))) ?_ ((iQee (wr (v6+1)) _ h))
   exact Le.tz 0 0 rfl rfl rfl
 ·exact JP2.a h (Le.tz 0 0 rfl rfl rfl)
theorem Qre:∀ (p0:(List Qac)) (p1:(List UInt8)) (v6:Int) (o1:Unit⊕(List Qab)),Qee p0 p1 v6=some o1→TL (0,0) Try.prog 25 Qme (JP2 (0,0) 25 o1 (.exit 0) (Qik p0 p1) .ret (Qil p0 p1)) (Qgr p0 p1 v6):=fun p0 p1 v6=>(Qp6 p0 p1) v6
noncomputable def Qmo (p0:(List Qac)) (p1:(List UInt8)):Option ((List Qab)×Bool) :=
 (Qee p0 p1 0)>>=fun o1 =>
 match o1 with
 | .inl y2 =>
  some ([],false)
 | .inr y3 =>
  some (y3,true)
theorem Qws:∀ (p0:(List Qac)) (p1:(List UInt8)) (o:(List Qab)×Bool),Qmo p0 p1=some o→PCall Try.prog 7 [.sl false (p0.map Qaf),sV p1] (Qk8 o):=by
 intro p0 p1 o h
 unfold Qmo at h
 refine PCall.ofB mixed tbOk Qpr Try.func7 rfl (by kernel_rfl) (Nat.le_of_ble_eq_true rfl) ?_
 refine Qai h (fun o1 ho hk=>?_)
 refine Exists.intro (JP2 _ _ o1 (.exit 0) (Qik p0 p1) .ret (Qil p0 p1)) (And.intro (T_le (τ := Qgr p0 p1 0) ?_ (TL.loop (Qre p0 p1 0 o1 ho))) (join2 (fun y2 hy=>?_) (fun y3 hy=>?_)))
 ·exact Le.tz 0 0 rfl rfl rfl
 ·have h:=(by rw[hy] at hk; exact hk)
  refine Qat (t:=Qk8) h ?_
  exact .tup (xs:=[.sl true [],bV false]) (ys:=[.sl false [],bV false]) (.cons (.not) (.cons (.refl _) (.nil)))
 ·have h:=(by rw[hy] at hk; exact hk)
  refine Qat (t:=Qk8) h ?_
  exact .refl _
noncomputable def Qg4 (p0:(List (List UInt8))) (p1:(List UInt8)) (v5:Int):Option (Unit⊕Unit) :=
 if(decide (v5<(p0.length:Int))) then
  idx p0 v5>>=fun x4 =>
  if(x4==p1) then
   some (.inr ())
  else
   Qg4 p0 p1 (wr (v5+1))
 else
  some (.inl ())
 partial_fixpoint
theorem Qto:∀ (p0:(List (List UInt8))) (p1:(List UInt8)),(∀ (v5:Int) (o1:Unit⊕Unit),Qg4 p0 p1 v5=some o1→TL (0,0) Try.prog 18 Qps (JP2 (0,0) 18 o1 (.exit 0) (Qkk p0 p1) .ret (Qkl p0 p1)) (Qic p0 p1 v5)):=by
 intro p0 p1
 refine Qg4.partial_correctness p0 p1 _ ?_
 intro Qg4' iQg4 v5 o1 h
 refine TL.round (Qaj mixed tbOk (lv:=Qu4) _ _ _ ?_)
 refine view (lenMap _ _) rfl ?_
 refine Qae h (fun hb h=>?_) (fun hb h=>?_)
 ·refine Qb4 (l:=p0) (c:=cStr) (c' := cStr) h (fun _=>rfl) (fun _=>rfl) (by decide) (fun x4 hi h=>?_)
  refine Qae h (fun hb h=>?_) (fun hb h=>?_)
  ·exact JP2.b h (Le.tz 0 0 rfl rfl rfl)
  ·refine TL.le (τ := Qic p0 p1 (wr (v5+1))) ?_ ((iQg4 (wr (v5+1)) _ h))
   exact Le.tz 0 0 rfl rfl rfl
 ·exact JP2.a h (Le.tz 0 0 rfl rfl rfl)
theorem Qvb:∀ (p0:(List (List UInt8))) (p1:(List UInt8)) (v5:Int) (o1:Unit⊕Unit),Qg4 p0 p1 v5=some o1→TL (0,0) Try.prog 18 Qps (JP2 (0,0) 18 o1 (.exit 0) (Qkk p0 p1) .ret (Qkl p0 p1)) (Qic p0 p1 v5):=fun p0 p1 v5=>(Qto p0 p1) v5
noncomputable def Qvc (p0:(List (List UInt8))) (p1:(List UInt8)):Option (Bool) :=
 (Qg4 p0 p1 0)>>=fun o1 =>
 match o1 with
 | .inl y2 =>
  some false
 | .inr y3 =>
  some true
theorem Q0b:∀ (p0:(List (List UInt8))) (p1:(List UInt8)) (o:Bool),Qvc p0 p1=some o→PCall Try.prog 29 [.sl false (p0.map cStr),sV p1] (Qoz o):=by
 intro p0 p1 o h
 unfold Qvc at h
 refine PCall.ofB mixed tbOk Qu4 Try.func29 rfl (by kernel_rfl) (Nat.le_of_ble_eq_true rfl) ?_
 refine Qai h (fun o1 ho hk=>?_)
 refine Exists.intro (JP2 _ _ o1 (.exit 0) (Qkk p0 p1) .ret (Qkl p0 p1)) (And.intro (T_le (τ := Qic p0 p1 0) ?_ (TL.loop (Qvb p0 p1 0 o1 ho))) (join2 (fun y2 hy=>?_) (fun y3 hy=>?_)))
 ·exact Le.tz 0 0 rfl rfl rfl
 ·have h:=(by rw[hy] at hk; exact hk)
  refine Qat (t:=Qoz) h ?_
  exact .refl _
 ·have h:=(by rw[hy] at hk; exact hk)
  refine Qat (t:=Qoz) h ?_
  exact .refl _
noncomputable def Qef (p0:(List (List UInt8))) (p1:(List UInt8)) (v5:Int):Option (Int) :=
 ( if(decide (v5<(p0.length:Int))) then
   idx p0 v5>>=fun x4 =>
   some (Op.bytesLess x4 p1)
  else
   some false:Option (Bool))>>=fun o3 =>
 if o3 then
  Qef p0 p1 (wr (v5+1))
 else
  some v5
 partial_fixpoint
theorem Qp7:∀ (p0:(List (List UInt8))) (p1:(List UInt8)),(∀ (v5:Int) (o2:Int),Qef p0 p1 v5=some o2→TL (0,1) Try.prog 36 Qmg (JP1 (0,1) 36 o2 (.exit 0) (Qio p0 p1)) (Qgt p0 p1 v5)):=by
 intro p0 p1
 refine Qef.partial_correctness p0 p1 _ ?_
 intro Qef' iQef v5 o2 h
 refine TL.round (Qaj mixed tbOk (lv:=Qpt) _ _ _ ?_)
 refine Qai h (fun o3 ho hk=>?_)
 refine Exists.intro (JP1 _ _ o3 .normal (Qtc p0 p1 v5)) (And.intro ?_ (join1 ?_))
 ·have h:=ho
  refine view (lenMap _ _) rfl ?_
  refine Qae h (fun hb h=>?_) (fun hb h=>?_)
  ·refine Qb4 (l:=p0) (c:=cStr) (c' := cStr) h (fun _=>rfl) (fun _=>rfl) (by decide) (fun x4 hi h=>?_)
   refine JP1.a h ?_
   exact Le.tz 0 1 rfl rfl rfl
  ·refine JP1.a h ?_
   exact Le.tz 0 1 rfl rfl rfl
 ·have h:=hk
  refine Qae h (fun hb h=>?_) (fun hb h=>?_)
  ·refine TL.le (τ := Qgt p0 p1 (wr (v5+1))) ?_ ((iQef (wr (v5+1)) _ h))
   exact Le.tz 0 1 rfl rfl rfl
  ·exact JP1.a h (Le.tz 0 1 rfl rfl rfl)
theorem Qrf:∀ (p0:(List (List UInt8))) (p1:(List UInt8)) (v5:Int) (o2:Int),Qef p0 p1 v5=some o2→TL (0,1) Try.prog 36 Qmg (JP1 (0,1) 36 o2 (.exit 0) (Qio p0 p1)) (Qgt p0 p1 v5):=fun p0 p1 v5=>(Qp7 p0 p1) v5
noncomputable def Qk9 (p0:(List (List UInt8))) (p1:(List UInt8)):Option ((List (List UInt8))) :=
 Qvc p0 p1>>=fun x1 =>
 if x1 then
  some p0
 else
  (Qef p0 p1 0)>>=fun o2 =>
  cutL p0 0 o2>>=fun x5 =>
  appL 16 [] x5>>=fun x6 =>
  appL 16 x6 [p1]>>=fun x7 =>
  cutL p0 o2 (p0.length:Int)>>=fun x8 =>
  appL 16 x7 x8>>=fun x9 =>
  need (((p0.map cStr).length)<((x9.map cStr).length))>>=fun _ =>
  some x9
theorem Qp8:∀ (p0:(List (List UInt8))) (p1:(List UInt8)) (o:(List (List UInt8))),Qk9 p0 p1=some o→CallOK Try.prog 18 [.own 0 9 1 (p0.map cStr),.p (sV p1)] ⟨[],[(p0.map cStr).length]⟩ (Qnl o) ⟨[],[(o.map cStr).length]⟩:=by
 intro p0 p1 o h
 unfold Qk9 at h
 refine CallOK.ofBN mixed tbOk Qpt Try.func18 rfl (by kernel_rfl) (Nat.le_of_ble_eq_true rfl) rfl rfl (Nat.le_of_ble_eq_true rfl) ?_
 refine Qal [.sl false (p0.map cStr),sV p1] Qoz h (fun x1 hy=>(Q0b p0 p1 x1 hy)) (fun x1 hy h=>?_)
 refine Qae h (fun hb h=>?_) (fun hb h=>?_)
 ·refine Exists.intro _ (And.intro (Le.refl _ _ _) ?_)
  exact Qs6 (t:=Qnl) (ss:=fun o=>⟨[],[(o.map cStr).length]⟩) h ⟨[],[0],rfl,rfl,.refl _,.refl _,rfl,rfl⟩
 ·refine Qai h (fun o2 ho hk=>?_)
  refine Exists.intro (JP1 _ _ o2 (.exit 0) (Qio p0 p1)) (And.intro (T_le (τ := Qgt p0 p1 0) ?_ (TL.loop (Qrf p0 p1 0 o2 ho))) (join1 ?_))
  ·exact Le.tz 0 1 rfl rfl rfl
  have h:=hk
  refine And.intro (by decide +kernel) (And.intro rfl ?_)
  refine Qzx (full:=false) (c:=cStr) none (some o2) h (fun _=>rfl) (fun x5 hi h=>?_)
  refine Qzy (a:=([]:List (List UInt8))) (b:=x5) (c:=cStr) h (.refl _) (.refl _) (fun _=>rfl) (.inl rfl) (fun x6 hi h=>?_)
  refine Qje (a:=x6) (b:=[p1]) (c:=cStr) h (.refl _) (fun _=>rfl) rfl (fun x7 hi h=>?_)
  refine Qzx (full:=false) (c:=cStr) (some o2) none h (fun _=>rfl) (fun x8 hi h=>?_)
  refine Qje (a:=x7) (b:=x8) (c:=cStr) h (.refl _) (fun _=>rfl) rfl (fun x9 hi h=>?_)
  refine Qhm h (fun hn h=>?_)
  refine Exists.intro _ (And.intro ((Le.into 4 0 0 1 _ _ rfl rfl rfl rfl rfl hn (by decide)).trans (Le.refl _ _ _)) ?_)
  exact Qs6 (t:=Qnl) (ss:=fun o=>⟨[],[(o.map cStr).length]⟩) h ⟨[],[0],rfl,rfl,.refl _,.refl _,rfl,rfl⟩
noncomputable def Qdw (p0:(List Qab)) (v4:Int) (x9:(List (List UInt8))) (x10:(List (List UInt8))) (v3_:(List (List UInt8))) (v6:Int):Option ((List (List UInt8))) :=
 if(decide (v6<(x10.length:Int))) then
  idx x10 v6>>=fun x12 =>
  Qk9 v3_ x12>>=fun x13 =>
  Qdw p0 v4 x9 x10 x13 (wr (v6+1))
 else
  some v3_
 partial_fixpoint
theorem Qp9:∀ (p0:(List Qab)) (v4:Int) (x9:(List (List UInt8))) (x10:(List (List UInt8))),(∀ (v3_:(List (List UInt8))) (v6:Int) (o11:(List (List UInt8))),Qdw p0 v4 x9 x10 v3_ v6=some o11→TL (0,0) Try.prog 53 Qmf (JP1 (0,0) 53 o11 (.exit 2) (Qim p0 v4 x9 x10)) (Qgs p0 v4 x9 x10 v3_ v6)):=by
 intro p0 v4 x9 x10
 refine Qdw.partial_correctness p0 v4 x9 x10 _ ?_
 intro Qdw' iQdw v3_ v6 o11 h
 refine TL.round (Qaj mixed tbOk (lv:=Qlu) _ _ _ ?_)
 refine view (lenMap _ _) rfl ?_
 refine Qae h (fun hb h=>?_) (fun hb h=>?_)
 ·refine Qb4 (l:=x10) (c:=cStr) (c' := cStr) h (fun _=>rfl) (fun _=>rfl) (by decide) (fun x12 hi h=>?_)
  refine Or.inr ?_
  refine Qxt _ _ h (fun x13 hy=>((Qp8 v3_ x12 x13 hy).fr [] [0] rfl rfl rfl)) (fun x13 hy h=>?_)
  refine TL.le (τ := Qgs p0 v4 x9 x10 x13 (wr (v6+1))) ?_ ((iQdw x13 (wr (v6+1)) _ h))
  exact Le.tz 0 3 rfl rfl rfl
 ·exact JP1.a h (Le.tz 0 3 rfl rfl rfl)
theorem Qrg:∀ (p0:(List Qab)) (v4:Int) (x9:(List (List UInt8))) (x10:(List (List UInt8))) (v3_:(List (List UInt8))) (v6:Int) (o11:(List (List UInt8))),Qdw p0 v4 x9 x10 v3_ v6=some o11→TL (0,0) Try.prog 53 Qmf (JP1 (0,0) 53 o11 (.exit 2) (Qim p0 v4 x9 x10)) (Qgs p0 v4 x9 x10 v3_ v6):=fun p0 v4 x9 x10 v3_ v6=>(Qp9 p0 v4 x9 x10) v3_ v6
mutual
noncomputable def Qe6 (p0:(List Qab)):Option ((List (List UInt8))) :=
 (Qeg p0 [] 0)>>=fun o1 =>
 some o1
 partial_fixpoint
noncomputable def Qeg (p0:(List Qab)) (v3:(List (List UInt8))) (v4:Int):Option ((List (List UInt8))) :=
 if(decide (v4<(p0.length:Int))) then
  ( idx p0 v4>>=fun x3 =>
   if(x3.Kind==13) then
    idx p0 v4>>=fun x4 =>
    Qk9 v3 x4.Name>>=fun x5 =>
    some x5
   else
    some v3:Option ((List (List UInt8))))>>=fun o2 =>
  idx p0 v4>>=fun x6 =>
  Qe6 x6.Then>>=fun x7 =>
  idx p0 v4>>=fun x8 =>
  Qe6 x8.Else>>=fun x9 =>
  appL 16 x7 x9>>=fun x10 =>
  (Qdw p0 v4 x9 x10 o2 0)>>=fun o11 =>
  Qeg p0 o11 (wr (v4+1))
 else
  some v3
 partial_fixpoint
end
theorem Qvd:(∀ (p0:(List Qab)) (o:(List (List UInt8))),Qe6 p0=some o→CallOK Try.prog 10 [.p (.sl false (p0.map Qaa))] ⟨[],[]⟩ (Qnk o) ⟨[],[(o.map cStr).length]⟩)∧(∀ (p0:(List Qab)) (v3:(List (List UInt8))) (v4:Int) (o1:(List (List UInt8))),Qeg p0 v3 v4=some o1→TL (0,0) Try.prog 53 Qtb (JP1 (0,0) 53 o1 (.exit 0) (Qln p0)) (Qin p0 v3 v4)):=by
 refine Qe6.mutual_partial_correctness _ _ ?_ ?_
 ·intro Qeg' iQeg p0 o h
  refine CallOK.ofBN mixed tbOk Qlu Try.func10 rfl (by kernel_rfl) (Nat.le_of_ble_eq_true rfl) rfl rfl (Nat.le_of_ble_eq_true rfl) ?_
  refine Qai h (fun o1 ho hk=>?_)
  refine Exists.intro (JP1 _ _ o1 (.exit 0) (Qln p0)) (And.intro (T_le (τ := Qin p0 [] 0) ?_ (TL.loop (iQeg p0 [] 0 o1 ho))) (join1 ?_))
  ·exact Le.trans (τ := ⟨[(0,.p (.sl false (p0.map Qaa))),(3,.p (.sl true [])),(4,.p (iV 0))],⟨[],[]⟩⟩) (Le.tz 0 0 rfl rfl rfl) ((Le.own 3 9 1 rfl sizeNil).trans (Le.tz 0 1 rfl rfl rfl))
  have h:=hk
  refine Exists.intro _ (And.intro (Le.refl _ _ _) ?_)
  exact Qs6 (t:=Qnk) (ss:=fun o=>⟨[],[(o.map cStr).length]⟩) h ⟨[],[0],rfl,rfl,.refl _,.refl _,rfl,rfl⟩
 ·intro Qe6' Qeg' iQe6 iQeg p0 v3 v4 o1 h
  refine TL.round (Qaj mixed tbOk (lv:=Qlu) _ _ _ ?_)
  refine view (lenMap _ _) rfl ?_
  refine Qae h (fun hb h=>?_) (fun hb h=>?_)
  ·refine Qai h (fun o2 ho hk=>?_)
   refine Exists.intro (JP1 _ _ o2 .normal (Qta p0 v4)) (And.intro ?_ (join1 ?_))
   ·have h:=ho
    refine Qb4 (l:=p0) (c:=Qaa) (c' := Qbw) h Qam (fun _=>rfl) (by decide) (fun x3 hi h=>?_)
    refine Qae h (fun hb h=>?_) (fun hb h=>?_)
    ·refine Qb4 (l:=p0) (c:=Qaa) (c' := Qbw) h Qam (fun _=>rfl) (by decide) (fun x4 hi h=>?_)
     refine Or.inr ?_
     refine Qxt _ _ h (fun x5 hy=>((Qp8 v3 x4.Name x5 hy).fr [] [0] rfl rfl rfl)) (fun x5 hy h=>?_)
     refine JP1.a h ?_
     exact Le.tz 0 1 rfl rfl rfl
    ·refine JP1.a h ?_
     exact Le.tz 0 1 rfl rfl rfl
   ·have h:=hk
    refine And.intro (by decide +kernel) (And.intro rfl ?_)
    refine Qb4 (l:=p0) (c:=Qaa) (c' := Qbw) h Qam (fun _=>rfl) (by decide) (fun x6 hi h=>?_)
    refine Qs3 _ _ h (fun x7 hy=>((iQe6 x6.Then x7 hy).ft rfl [] rfl rfl rfl)) (fun x7 hy h=>?_)
    refine Qb4 (l:=p0) (c:=Qaa) (c' := Qbw) h Qam (fun _=>rfl) (by decide) (fun x8 hi h=>?_)
    refine Qs3 _ _ h (fun x9 hy=>((iQe6 x8.Else x9 hy).ft rfl [] rfl rfl rfl)) (fun x9 hy h=>?_)
    refine Qje (a:=x7) (b:=x9) (c:=cStr) h (.refl _) (fun _=>rfl) rfl (fun x10 hi h=>?_)
    refine Qai h (fun o11 ho hk=>?_)
    refine Exists.intro (JP1 _ _ o11 (.exit 2) (Qim p0 v4 x9 x10)) (And.intro (T_le (τ := Qgs p0 v4 x9 x10 o2 0) ?_ (TL.loop (Qrg p0 v4 x9 x10 o2 0 o11 ho))) (join1 ?_))
    ·exact Le.tz 0 3 rfl rfl rfl
    have h:=hk
    refine TL.le (τ := Qin p0 o11 (wr (v4+1))) ?_ ((iQeg p0 o11 (wr (v4+1)) _ h))
    exact Le.tz 0 1 rfl rfl rfl
  ·exact JP1.a h (Le.tz 0 1 rfl rfl rfl)
theorem Qwt:∀ (p0:(List Qab)) (o:(List (List UInt8))),Qe6 p0=some o→CallOK Try.prog 10 [.p (.sl false (p0.map Qaa))] ⟨[],[]⟩ (Qnk o) ⟨[],[(o.map cStr).length]⟩:=fun p0=>Qvd.1 p0
noncomputable def Qdb (p0:(List Qac)) (p1:(List UInt8)) (v10:Int):Option (Unit⊕(List Qab)) :=
 if(decide (v10<(p0.length:Int))) then
  idx p0 v10>>=fun x4 =>
  if(x4.Name==p1) then
   some (.inr x4.L)
  else
   Qdb p0 p1 (wr (v10+1))
 else
  some (.inl ())
 partial_fixpoint
theorem Qno:∀ (p0:(List Qac)) (p1:(List UInt8)),(∀ (v10:Int) (o1:Unit⊕(List Qab)),Qdb p0 p1 v10=some o1→TL (0,0) Try.prog 21 Qkm (JP2 (0,0) 21 o1 (.exit 0) (Qg7 p0 p1) .ret (Qg8 p0 p1)) (Qe5 p0 p1 v10)):=by
 intro p0 p1
 refine Qdb.partial_correctness p0 p1 _ ?_
 intro Qdb' iQdb v10 o1 h
 refine TL.round (Qaj mixed tbOk (lv:=Qmh) _ _ _ ?_)
 refine Qae h (fun hb h=>?_) (fun hb h=>?_)
 ·refine Qb4 (l:=p0) (c:=Qaf) (c' := Qaf) h (fun _=>rfl) (fun _=>rfl) (by decide) (fun x4 hi h=>?_)
  refine Qae h (fun hb h=>?_) (fun hb h=>?_)
  ·exact JP2.b h (Le.tz 0 0 rfl rfl rfl)
  ·refine TL.le (τ := Qe5 p0 p1 (wr (v10+1))) ?_ ((iQdb (wr (v10+1)) _ h))
   exact Le.tz 0 0 rfl rfl rfl
 ·exact JP2.a h (Le.tz 0 0 rfl rfl rfl)
theorem Qof:∀ (p0:(List Qac)) (p1:(List UInt8)) (v10:Int) (o1:Unit⊕(List Qab)),Qdb p0 p1 v10=some o1→TL (0,0) Try.prog 21 Qkm (JP2 (0,0) 21 o1 (.exit 0) (Qg7 p0 p1) .ret (Qg8 p0 p1)) (Qe5 p0 p1 v10):=fun p0 p1 v10=>(Qno p0 p1) v10
noncomputable def Qgm (p0:(List Qac)) (p1:(List UInt8)):Option ((List Qab)×Bool) :=
 (Qdb p0 p1 0)>>=fun o1 =>
 match o1 with
 | .inl y2 =>
  some ([],false)
 | .inr y3 =>
  some (y3,true)
theorem Qjl:∀ (p0:(List Qac)) (p1:(List UInt8)) (o:(List Qab)×Bool),Qgm p0 p1=some o→PCall Try.prog 6 [.sl false (p0.map Qaf),sV p1] (Qfi o):=by
 intro p0 p1 o h
 unfold Qgm at h
 refine PCall.ofB mixed tbOk Qmh Try.func6 rfl (by kernel_rfl) (Nat.le_of_ble_eq_true rfl) ?_
 refine view (lenMap _ _) rfl ?_
 refine Qai h (fun o1 ho hk=>?_)
 refine Exists.intro (JP2 _ _ o1 (.exit 0) (Qg7 p0 p1) .ret (Qg8 p0 p1)) (And.intro (T_le (τ := Qe5 p0 p1 0) ?_ (TL.loop (Qof p0 p1 0 o1 ho))) (join2 (fun y2 hy=>?_) (fun y3 hy=>?_)))
 ·exact Le.tz 0 0 rfl rfl rfl
 ·have h:=(by rw[hy] at hk; exact hk)
  refine Qat (t:=Qfi) h ?_
  exact .tup (xs:=[.sl true [],bV false]) (ys:=[.sl false [],bV false]) (.cons (.not) (.cons (.refl _) (.nil)))
 ·have h:=(by rw[hy] at hk; exact hk)
  refine Qat (t:=Qfi) h ?_
  exact .refl _
noncomputable def Qdc (x1:(List Qab)×Int) (l4:(List (Qab×Int))) (h0_0:Int):Option (Int) :=
 match l4 with
 | [] =>
  some h0_0
 | x2::r3 =>
  Qdc x1 r3 (wr (h0_0+1))
 partial_fixpoint
theorem Qnp:∀ (x1:(List Qab)×Int),(∀ (l4:(List (Qab×Int))) (h0_0:Int) (o6:Int),Qdc x1 l4 h0_0=some o6→RL 1 0 Try.prog 11 (rgP Qdm) (rgA Qdm) (rgB Qdm) (Qc7 x1 h0_0).env (JP1 (0,0) 11 o6 .normal (Qha x1)) (l4.map Qa7) (Qc7 x1 h0_0).s):=by
 intro x1
 refine Qdc.partial_correctness x1 _ ?_
 intro Qdc' iQdc l4 h0_0 o6 h
 cases l4 with
 | nil =>
  refine Qxr ?_
  exact JP1.a h (Le.tz 1 0 rfl rfl rfl)
 | cons x2 r3 =>
  refine Qs4 (Qaj mixed tbOk (lv:=Qjh) _ _ _ ?_)
  refine And.intro rfl (Qaj mixed tbOk (lv:=Qjh) _ _ _ ?_)
  exact Exists.intro (Qc7 x1 (wr (h0_0+1))).s (And.intro (Le.tz 1 0 rfl rfl rfl) (And.intro rfl (And.intro rfl ((iQdc r3 (wr (h0_0+1)) _ h)))))
theorem Qog:∀ (x1:(List Qab)×Int) (l4:(List (Qab×Int))) (h0_0:Int) (o6:Int),Qdc x1 l4 h0_0=some o6→RL 1 0 Try.prog 11 (rgP Qdm) (rgA Qdm) (rgB Qdm) (Qc7 x1 h0_0).env (JP1 (0,0) 11 o6 .normal (Qha x1)) (l4.map Qa7) (Qc7 x1 h0_0).s:=fun x1 l4 h0_0=>(Qnp x1) l4 h0_0
noncomputable def Qgx (p0:(List Qab)) (p1:Int):Option ((List Qab)×Int) :=
 some (p0,p1)
theorem Qly:∀ (p0:(List Qab)) (p1:Int) (o:(List Qab)×Int),Qgx p0 p1=some o→PCall Try.prog 53 [.sl false (p0.map Qaa),iV p1] (Qi0 o):=by
 intro p0 p1 o h
 unfold Qgx at h
 refine PCall.ofM mixed tbOk Qwn Try.func53 rfl (by kernel_rfl) (Nat.le_of_ble_eq_true rfl) ?_
 refine Qat (t:=Qi0) h ?_
 exact .refl _
noncomputable def Qdd (p0:(List Qab)) (p1:Int) (v12:Int) (x3:Qab) (v28:Int) (x7:(List Qab)×Int) (l10:(List (Qab×Int))):Option ((List (Qab×Int))×(Unit)) :=
 match l10 with
 | [] =>
  some ([],())
 | x8::r9 =>
  ( Qdd p0 p1 v12 x3 v28 x7 r9 )>>=fun q=>some (((Qab.mk x8.1.Kind x8.1.Name x8.1.Text x8.1.N x8.1.L x8.1.Then x8.1.Else),x8.2)::q.1,q.2)
 partial_fixpoint
theorem Qnq:∀ (p0:(List Qab)) (p1:Int) (v12:Int) (x3:Qab) (v28:Int) (x7:(List Qab)×Int),(∀ (l10:(List (Qab×Int))) (o13:(List (Qab×Int))×(Unit)),Qdd p0 p1 v12 x3 v28 x7 l10=some o13→∀ (gxs gp gpost gq12:List (List V)),gxs=gp++(o13.1.map Qa7++gpost)→gxs=gq12++gpost→RL 2 1 Try.prog 44 (rgP Qdo) (rgA Qdo) (rgB Qdo) (Qc8 p0 p1 v12 x3 v28 x7 gxs gp).env (Qs (0,1) 44 gxs (JP1 (0,1) 44 o13.2 .normal (Qhb p0 p1 v12 x3 v28 x7 gxs gq12))) (l10.map Qa7) (Qc8 p0 p1 v12 x3 v28 x7 gxs gp).s):=by
 intro p0 p1 v12 x3 v28 x7
 refine Qdd.partial_correctness p0 p1 v12 x3 v28 x7 _ ?_
 intro Qdd' iQdd l10 o13 h
 intro gxs gp gpost gq12 hx hq
 cases l10 with
 | nil =>
  refine Qxr ?_
  exact .inl (JP1.a (sndI h) (Le.tz 2 1 rfl rfl (liveQ h hx hq rfl)))
 | cons x8 r9 =>
  refine Qs4 (Qaj mixed tbOk (lv:=Qft) _ _ _ ?_)
  refine And.intro rfl (Qaj mixed tbOk (lv:=Qft) _ _ _ ?_)
  refine Qz1 (c:=Qa7) h hx (.refl _) (by exact rfl) (by exact rfl) (fun _ h hx=>?_) ?_
  ·refine bF ?_
   exact Exists.intro (Qc8 p0 p1 v12 x3 v28 x7  gxs (gp++[Qa7 ((Qab.mk x8.1.Kind x8.1.Name x8.1.Text x8.1.N x8.1.L x8.1.Then x8.1.Else),x8.2)])).s (And.intro (Le.tz 2 1 rfl rfl rfl) (And.intro rfl (And.intro rfl ((iQdd r9 _ h) _ _ _ _ hx hq))))
  ·refine bT ?_
   exact⟨_,(Le.env0 _).trans (Le.tow 2 1 rfl .nil (.refl _) rfl),rfl,rfl,.inr ⟨rfl,Q08 rfl⟩⟩
theorem Qoh:∀ (p0:(List Qab)) (p1:Int) (v12:Int) (x3:Qab) (v28:Int) (x7:(List Qab)×Int) (l10:(List (Qab×Int))) (o13:(List (Qab×Int))×(Unit)),Qdd p0 p1 v12 x3 v28 x7 l10=some o13→∀ (gxs gp gpost gq12:List (List V)),gxs=gp++(o13.1.map Qa7++gpost)→gxs=gq12++gpost→RL 2 1 Try.prog 44 (rgP Qdo) (rgA Qdo) (rgB Qdo) (Qc8 p0 p1 v12 x3 v28 x7 gxs gp).env (Qs (0,1) 44 gxs (JP1 (0,1) 44 o13.2 .normal (Qhb p0 p1 v12 x3 v28 x7 gxs gq12))) (l10.map Qa7) (Qc8 p0 p1 v12 x3 v28 x7 gxs gp).s:=fun p0 p1 v12 x3 v28 x7 l10=>(Qnq p0 p1 v12 x3 v28 x7) l10
mutual
noncomputable def Qd1 (p0 : (List Qab)) (p1 : Int) : Option ((List (Qab × Int)) × Unit) :=
  ( Qdx p0 p1 0) >>= fun o2 => (
    some ([], ())) >>= fun q => some (o2.1 ++ q.1, q.2)
  partial_fixpoint
noncomputable def Qdx (p0 : (List Qab)) (p1 : Int) (v12 : Int) : Option ((List (Qab × Int)) × (Unit)) :=
  if (decide (v12 < (p0.length : Int))) then
    idx p0 v12 >>= fun x3 =>
    ( ( Qbs p0 p1 v12 x3 0) >>= fun o5 => (
        Qdx p0 p1 (wr (v12 + 1))) >>= fun q => some (o5.1 ++ q.1, q.2)) >>= fun q => some ((x3, p1) :: q.1, q.2)
  else
    some ([], ())
  partial_fixpoint
noncomputable def Qbs (p0 : (List Qab)) (p1 : Int) (v12 : Int) (x3 : Qab) (v28 : Int) : Option ((List (Qab × Int)) × (Unit)) :=
  if (decide (v28 < 3)) then
    idx ([x3.L, x3.Then, x3.Else] : List (List Qab)) v28 >>= fun x6 =>
    Qgx x6 (wr (p1 + 1)) >>= fun x7 =>
    Qd1 x7.1 x7.2 >>= fun y11 =>
    ( Qdd p0 p1 v12 x3 v28 x7 y11.1) >>= fun o13 => (
      Qbs p0 p1 v12 x3 (wr (v28 + 1))) >>= fun q => some (o13.1 ++ q.1, q.2)
  else
    some ([], ())
  partial_fixpoint
end
theorem Qrh:(∀ (p0:(List Qab)) (p1:Int) (o:(List (Qab×Int))×Unit),Qd1 p0 p1=some o→∀ gxs:List (List V),gxs=o.1.map Qa7→IterOK Try.prog 63 [.ep [.sl false (p0.map Qaa)],.ep [iV p1]] gxs)∧(∀ (p0:(List Qab)) (p1:Int) (v12:Int) (o2:(List (Qab×Int))×(Unit)),Qdx p0 p1 v12=some o2→∀ (gxs gp gpost gq1:List (List V)),gxs=gp++(o2.1.map Qa7++gpost)→gxs=gq1++gpost→TL (0,1) Try.prog 44 Qpy (Qs (0,1) 44 gxs (JP1 (0,1) 44 o2.2 (.exit 0) (Qj3 p0 p1 gxs gq1))) (Qhd p0 p1 v12 gxs gp))∧(∀ (p0:(List Qab)) (p1:Int) (v12:Int) (x3:Qab) (v28:Int) (o5:(List (Qab×Int))×(Unit)),Qbs p0 p1 v12 x3 v28=some o5→∀ (gxs gp gpost gq4:List (List V)),gxs=gp++(o5.1.map Qa7++gpost)→gxs=gq4++gpost→TL (0,1) Try.prog 44 Qpx (Qs (0,1) 44 gxs (JP1 (0,1) 44 o5.2 (.exit 2) (Qj2 p0 p1 v12 x3 gxs gq4))) (Qhc p0 p1 v12 x3 v28 gxs gp)):=by
 refine Qd1.mutual_partial_correctness _ _ _ ?_ ?_ ?_
 ·intro Qdx' iQdx p0 p1 o h
  intro gxs hg
  have hx:gxs=[]++(o.1.map Qa7++[]):=by simp[hg]
  refine IterOK.ofB mixed tbOk Qft Try.func63 rfl (by kernel_rfl) (Nat.le_of_ble_eq_true rfl) rfl ?_
  refine view (lenMap _ _) rfl ?_
  refine Qoy h hx (fun o2 lgq1 gq1 ho hk hxa hjgq1=>?_)
  refine Exists.intro (Qs _ _ gxs (JP1 _ _ o2.2 (.exit 0) (Qj3 p0 p1 gxs gq1))) (And.intro (T_le (τ := Qhd p0 p1 0 gxs ([]:List (List V))) ?_ (TL.loop ((iQdx p0 p1 0 o2 ho) _ _ _ _ hxa hjgq1))) (joinS (join1 ?_) ?_))
  ·exact Le.tz 1 1 rfl rfl rfl
  ·have h:=hk
   have hx:=hjgq1
   exact Qz0 h hx (.inl rfl) rfl
  ·exact fun s1 h1 h2 hs=>Qxs (.inr rfl) hs
 ·intro Qdx' Qbs' iQdx iQbs p0 p1 v12 o2 h
  intro gxs gp gpost gq1 hx hq
  refine TL.round (Qaj mixed tbOk (lv:=Qft) _ _ _ ?_)
  refine Qae h (fun hb h=>?_) (fun hb h=>?_)
  ·refine Qb4 (l:=p0) (c:=Qaa) (c' := Qbw) h Qam (fun _=>rfl) (by decide) (fun x3 hi h=>?_)
   refine Qz1 (c:=Qa7) h hx (.refl _) (by exact rfl) (by exact rfl) (fun _ h hx=>?_) ?_
   ·refine bF ?_
    refine Qoy h hx (fun o5 lgq4 gq4 ho hk hxa hjgq4=>?_)
    refine Exists.intro (Qs _ _ gxs (JP1 _ _ o5.2 (.exit 2) (Qj2 p0 p1 v12 x3 gxs gq4))) (And.intro (T_le (τ := Qhc p0 p1 v12 x3 0 gxs (gp++[Qa7 (x3,p1)])) ?_ (TL.loop ((iQbs p0 p1 v12 x3 0 o5 ho) _ _ _ _ hxa hjgq4))) (joinS (join1 ?_) ?_))
    ·exact Le.tz 2 1 rfl rfl rfl
    ·have h:=hk
     have hx:=hjgq4
     refine TL.le (τ := Qhd p0 p1 (wr (v12+1)) gxs gq4) ?_ ((iQdx p0 p1 (wr (v12+1)) _ h) _ _ _ _ hx hq)
     exact Le.tz 1 1 rfl rfl rfl
    ·exact fun s1 h1 h2 hs =>.inr ⟨rfl,s1,.refl _ _ _,h1,h2,hs⟩
   ·refine bT ?_
    exact .inr ⟨rfl,_,(Le.env0 _).trans (Le.tow 0 1 rfl .nil (.refl _) rfl),rfl,rfl,rfl⟩
  ·exact .inl (JP1.a (sndI h) (Le.tz 1 1 rfl rfl (liveQ h hx hq rfl)))
 ·intro Qd1' Qbs' iQd1 iQbs p0 p1 v12 x3 v28 o5 h
  intro gxs gp gpost gq4 hx hq
  refine TL.round (Qaj mixed tbOk (lv:=Qft) _ _ _ ?_)
  refine Qae h (fun hb h=>?_) (fun hb h=>?_)
  ·refine Q16 (l:=([x3.L,x3.Then,x3.Else]:List (List Qab))) (c:=fun x6 =>.sl false (x6.map Qaa)) h rfl rfl rfl rfl (fun x6 hi h=>?_)
   refine Qal [.sl false (x6.map Qaa),iV (wr (p1+1))] Qi0 h (fun x7 hy=>(Qly x6 (wr (p1+1)) x7 hy)) (fun x7 hy h=>?_)
   refine Qai h (fun y11 hy11 h=>?_)
   refine Qoy h hx (fun o13 lgq12 gq12 ho hk hxa hjgq12=>?_)
   refine Exists.intro (Qs _ _ gxs (JP1 _ _ o13.2 .normal (Qhb p0 p1 v12 x3 v28 x7 gxs gq12))) (And.intro (T_le (τ := Qc8 p0 p1 v12 x3 v28 x7 gxs gp) ?_ (Qsy (g:=63) (cap:=[.ep [.sl false (x7.1.map Qaa)],.ep [iV x7.2]]) rfl ((iQd1 x7.1 x7.2 y11 hy11) _ rfl) (mapSize fun _=>rfl) rfl (Nat.le_of_ble_eq_true rfl) (Nat.le_of_ble_eq_true rfl) ((Qoh p0 p1 v12 x3 v28 x7 y11.1 o13 ho) _ _ _ _ hxa hjgq12))) (joinS (join1 ?_) ?_))
   ·exact Le.tz 2 1 rfl rfl rfl
   ·have h:=hk
    have hx:=hjgq12
    refine TL.le (τ := Qhc p0 p1 v12 x3 (wr (v28+1)) gxs gq12) ?_ ((iQbs p0 p1 v12 x3 (wr (v28+1)) _ h) _ _ _ _ hx hq)
    exact Le.tz 2 1 rfl rfl rfl
   ·exact fun s1 h1 h2 hs =>.inr ⟨rfl,s1,.refl _ _ _,h1,h2,hs⟩
  ·exact .inl (JP1.a (sndI h) (Le.tz 2 1 rfl rfl (liveQ h hx hq rfl)))
theorem Qmp:∀ (p0:(List Qab)) (p1:Int) (o:(List (Qab×Int))×Unit),Qd1 p0 p1=some o→∀ gxs:List (List V),gxs=o.1.map Qa7→IterOK Try.prog 63 [.ep [.sl false (p0.map Qaa)],.ep [iV p1]] gxs:=fun p0 p1=>Qrh.1 p0 p1
noncomputable def Qi2 (p0:(List Qab)):Option (Int) :=
 Qgx p0 1>>=fun x1 =>
 Qd1 x1.1 x1.2>>=fun y5 =>
 (Qdc x1 y5.1 0)>>=fun o6 =>
 some o6
theorem Qtp:∀ (p0:(List Qab)) (o:Int),Qi2 p0=some o→PCall Try.prog 37 [.sl false (p0.map Qaa)] (Qkp o):=by
 intro p0 o h
 unfold Qi2 at h
 refine PCall.ofB mixed tbOk Qjh Try.func37 rfl (by kernel_rfl) (Nat.le_of_ble_eq_true rfl) ?_
 refine Qal [.sl false (p0.map Qaa),iV 1] Qi0 h (fun x1 hy=>(Qly p0 1 x1 hy)) (fun x1 hy h=>?_)
 refine Qai h (fun y5 hy5 h=>?_)
 refine Qai h (fun o6 ho hk=>?_)
 refine Exists.intro (JP1 _ _ o6 .normal (Qha x1)) (And.intro (T_le (τ := Qc7 x1 0) ?_ (Qsy (g:=63) (cap:=[.ep [.sl false (x1.1.map Qaa)],.ep [iV x1.2]]) rfl ((Qmp x1.1 x1.2 y5 hy5) _ rfl) (mapSize fun _=>rfl) rfl (Nat.le_of_ble_eq_true rfl) (Nat.le_of_ble_eq_true rfl) (Qog x1 y5.1 0 o6 ho))) (join1 ?_))
 ·exact Le.tz 1 0 rfl rfl rfl
 have h:=hk
 refine Qat (t:=Qkp) h ?_
 exact .refl _
noncomputable def Qdr (x1:(List Qab)×Int) (l4:(List (Qab×Int))) (h0_0:Int):Option (Int) :=
 match l4 with
 | [] =>
  some h0_0
 | x2::r3 =>
  Qdr x1 r3 (if x2.2>h0_0 then x2.2 else h0_0)
 partial_fixpoint
theorem Qoi:∀ (x1:(List Qab)×Int),(∀ (l4:(List (Qab×Int))) (h0_0:Int) (o6:Int),Qdr x1 l4 h0_0=some o6→RL 1 0 Try.prog 14 (rgP Qd0) (rgA Qd0) (rgB Qd0) (Qdn x1 h0_0).env (JP1 (0,0) 14 o6 .normal (Qh2 x1)) (l4.map Qa7) (Qdn x1 h0_0).s):=by
 intro x1
 refine Qdr.partial_correctness x1 _ ?_
 intro Qdr' iQdr l4 h0_0 o6 h
 cases l4 with
 | nil =>
  refine Qxr ?_
  exact JP1.a h (Le.tz 1 0 rfl rfl rfl)
 | cons x2 r3 =>
  refine Qs4 (Qaj mixed tbOk (lv:=Qkq) _ _ _ ?_)
  refine And.intro rfl (Qaj mixed tbOk (lv:=Qkq) _ _ _ ?_)
  exact Exists.intro (Qdn x1 (if x2.2>h0_0 then x2.2 else h0_0)).s (And.intro (Le.tz 1 0 rfl rfl rfl) (And.intro rfl (And.intro rfl ((iQdr r3 (if x2.2>h0_0 then x2.2 else h0_0) _ h)))))
theorem Qqa:∀ (x1:(List Qab)×Int) (l4:(List (Qab×Int))) (h0_0:Int) (o6:Int),Qdr x1 l4 h0_0=some o6→RL 1 0 Try.prog 14 (rgP Qd0) (rgA Qd0) (rgB Qd0) (Qdn x1 h0_0).env (JP1 (0,0) 14 o6 .normal (Qh2 x1)) (l4.map Qa7) (Qdn x1 h0_0).s:=fun x1 l4 h0_0=>(Qoi x1) l4 h0_0
noncomputable def Qkt (p0:(List Qab)):Option (Int) :=
 Qgx p0 1>>=fun x1 =>
 Qd1 x1.1 x1.2>>=fun y5 =>
 (Qdr x1 y5.1 0)>>=fun o6 =>
 some o6
theorem Qve:∀ (p0:(List Qab)) (o:Int),Qkt p0=some o→PCall Try.prog 36 [.sl false (p0.map Qaa)] (Qlw o):=by
 intro p0 o h
 unfold Qkt at h
 refine PCall.ofB mixed tbOk Qkq Try.func36 rfl (by kernel_rfl) (Nat.le_of_ble_eq_true rfl) ?_
 refine Qal [.sl false (p0.map Qaa),iV 1] Qi0 h (fun x1 hy=>(Qly p0 1 x1 hy)) (fun x1 hy h=>?_)
 refine Qai h (fun y5 hy5 h=>?_)
 refine Qai h (fun o6 ho hk=>?_)
 refine Exists.intro (JP1 _ _ o6 .normal (Qh2 x1)) (And.intro (T_le (τ := Qdn x1 0) ?_ (Qsy (g:=63) (cap:=[.ep [.sl false (x1.1.map Qaa)],.ep [iV x1.2]]) rfl ((Qmp x1.1 x1.2 y5 hy5) _ rfl) (mapSize fun _=>rfl) rfl (Nat.le_of_ble_eq_true rfl) (Nat.le_of_ble_eq_true rfl) (Qqa x1 y5.1 0 o6 ho))) (join1 ?_))
 ·exact Le.tz 1 0 rfl rfl rfl
 have h:=hk
 refine Qat (t:=Qlw) h ?_
 exact .refl _
noncomputable def Qbp (p0:(List UInt8)) (p1:(List UInt8)):Option (Bool) :=
 ( if(decide ((p0.length:Int) ≥ (p1.length:Int))) then
   cutL p0 (wr ((p0.length:Int)-(p1.length:Int))) (p0.length:Int)>>=fun x2 =>
   some (x2==p1)
  else
   some false:Option (Bool))>>=fun o1 =>
 some o1
theorem Qfw:∀ (p0:(List UInt8)) (p1:(List UInt8)) (o:Bool),Qbp p0 p1=some o→PCall Try.prog 67 [sV p0,sV p1] (Qby o):=by
 intro p0 p1 o h
 unfold Qbp at h
 refine PCall.ofB mixed tbOk Qfq Try.func67 rfl (by kernel_rfl) (Nat.le_of_ble_eq_true rfl) ?_
 refine Qai h (fun o1 ho hk=>?_)
 refine Exists.intro (JP1 _ _ o1 .normal (Qe8 )) (And.intro ?_ (join1 ?_))
 ·have h:=ho
  refine vrfl ?_
  refine vrfl ?_
  refine Qae h (fun hb h=>?_) (fun hb h=>?_)
  ·refine vrfl ?_
   refine vrfl ?_
   refine Qpm (some (wr ((p0.length:Int)-(p1.length:Int)))) none h (fun x2 hi h=>?_)
   refine JP1.a h ?_
   exact Le.tz 0 0 rfl rfl rfl
  ·refine JP1.a h ?_
   exact Le.tz 0 0 rfl rfl rfl
 ·have h:=hk
  refine Qat (t:=Qby) h ?_
  exact .refl _
noncomputable def strings_HasSuffix (p0:(List UInt8)) (p1:(List UInt8)):Option (Bool) :=
 Qbp p0 p1>>=fun x1 =>
 some x1
theorem Qdi:∀ (p0:(List UInt8)) (p1:(List UInt8)) (o:Bool),strings_HasSuffix p0 p1=some o→PCall Try.prog 55 [sV p0,sV p1] (Qb6 o):=by
 intro p0 p1 o h
 unfold strings_HasSuffix at h
 refine PCall.ofB mixed tbOk Qlf Try.func55 rfl (by kernel_rfl) (Nat.le_of_ble_eq_true rfl) ?_
 refine Qal [sV p0,sV p1] Qby h (fun x1 hy=>(Qfw p0 p1 x1 hy)) (fun x1 hy h=>?_)
 refine Qat (t:=Qb6) h ?_
 exact .refl _
noncomputable def Qb1 (p0:(List UInt8)) (p1:(List UInt8)):Option (Int) :=
 need (p0.length<4294967281)>>=fun _ =>
 some (Lib.index p0 p1)
theorem Qhf:∀ (p0:(List UInt8)) (p1:(List UInt8)) (o:Int),Qb1 p0 p1=some o→PCall Try.prog 73 [sV p0,sV p1] (Qd6 o):=by
 intro p0 p1 o h
 unfold Qb1 at h
 obtain⟨h1,h⟩:=Qz4 h
 cases h
 exact Q1b _ _ h1
noncomputable def strings_Index (p0:(List UInt8)) (p1:(List UInt8)):Option (Int) :=
 Qb1 p0 p1>>=fun x1 =>
 some x1
theorem Qoj:∀ (p0:(List UInt8)) (p1:(List UInt8)) (o:Int),strings_Index p0 p1=some o→PCall Try.prog 69 [sV p0,sV p1] (Qh1 o):=by
 intro p0 p1 o h
 unfold strings_Index at h
 refine PCall.ofB mixed tbOk Qoe Try.func69 rfl (by kernel_rfl) (Nat.le_of_ble_eq_true rfl) ?_
 refine Qal [sV p0,sV p1] Qd6 h (fun x1 hy=>(Qhf p0 p1 x1 hy)) (fun x1 hy h=>?_)
 refine Qat (t:=Qh1) h ?_
 exact .refl _
noncomputable def strings_Contains (p0:(List UInt8)) (p1:(List UInt8)):Option (Bool) :=
 strings_Index p0 p1>>=fun x1 =>
 some (decide (x1 ≥ 0))
theorem Qlz:∀ (p0:(List UInt8)) (p1:(List UInt8)) (o:Bool),strings_Contains p0 p1=some o→PCall Try.prog 65 [sV p0,sV p1] (Qfs o):=by
 intro p0 p1 o h
 unfold strings_Contains at h
 refine PCall.ofB mixed tbOk Qlv Try.func65 rfl (by kernel_rfl) (Nat.le_of_ble_eq_true rfl) ?_
 refine Qal [sV p0,sV p1] Qh1 h (fun x1 hy=>(Qoj p0 p1 x1 hy)) (fun x1 hy h=>?_)
 refine Qat (t:=Qfs) h ?_
 exact .refl _
noncomputable def Qi3 (p0:Int):Option (Bool) :=
 ( if(decide (p0 ≥ 48)) then
   some (decide (p0≤57))
  else
   some false:Option (Bool))>>=fun o1 =>
 some o1
theorem Qn7:∀ (p0:Int) (o:Bool),Qi3 p0=some o→PCall Try.prog 62 [nV .u8 p0] (Qjg o):=by
 intro p0 o h
 unfold Qi3 at h
 refine PCall.ofB mixed tbOk Qu5 Try.func62 rfl (by kernel_rfl) (Nat.le_of_ble_eq_true rfl) ?_
 refine Qai h (fun o1 ho hk=>?_)
 refine Exists.intro (JP1 _ _ o1 .normal (Qqy )) (And.intro ?_ (join1 ?_))
 ·have h:=ho
  refine Qae h (fun hb h=>?_) (fun hb h=>?_)
  ·refine JP1.a h ?_
   exact Le.tz 0 0 rfl rfl rfl
  ·refine JP1.a h ?_
   exact Le.tz 0 0 rfl rfl rfl
 ·have h:=hk
  refine Qat (t:=Qjg) h ?_
  exact .refl _
noncomputable def Qi4 (p0:Int):Option (Bool) :=
 ( if(decide (p0 ≥ 97)) then
   if(decide (p0≤122)) then
    some true
   else
    Qi3 p0>>=fun x2 =>
    if x2 then
     some true
    else
     some (p0==95)
  else
   Qi3 p0>>=fun x3 =>
   if x3 then
    some true
   else
    some (p0==95):Option (Bool))>>=fun o1 =>
 some o1
theorem Qtq:∀ (p0:Int) (o:Bool),Qi4 p0=some o→PCall Try.prog 52 [nV .u8 p0] (Qko o):=by
 intro p0 o h
 unfold Qi4 at h
 refine PCall.ofB mixed tbOk Qtf Try.func52 rfl (by kernel_rfl) (Nat.le_of_ble_eq_true rfl) ?_
 refine Qai h (fun o1 ho hk=>?_)
 refine Exists.intro (JP1 _ _ o1 .normal (Qpv )) (And.intro ?_ (join1 ?_))
 ·have h:=ho
  refine Qae h (fun hb h=>?_) (fun hb h=>?_)
  ·refine Qae h (fun hb h=>?_) (fun hb h=>?_)
   ·refine bT ?_
    refine JP1.a h ?_
    exact Le.tz 0 0 rfl rfl rfl
   ·refine Qal [nV .u8 p0] Qjg h (fun x2 hy=>(Qn7 p0 x2 hy)) (fun x2 hy h=>?_)
    refine Qae h (fun hb h=>?_) (fun hb h=>?_)
    ·refine JP1.a h ?_
     exact Le.tz 0 0 rfl rfl rfl
    ·refine JP1.a h ?_
     exact Le.tz 0 0 rfl rfl rfl
  ·refine bF ?_
   refine Qal [nV .u8 p0] Qjg h (fun x3 hy=>(Qn7 p0 x3 hy)) (fun x3 hy h=>?_)
   refine Qae h (fun hb h=>?_) (fun hb h=>?_)
   ·refine JP1.a h ?_
    exact Le.tz 0 0 rfl rfl rfl
   ·refine JP1.a h ?_
    exact Le.tz 0 0 rfl rfl rfl
 ·have h:=hk
  refine Qat (t:=Qko) h ?_
  exact .refl _
noncomputable def Qeh (p0:(List UInt8)) (v6:Int):Option (Unit⊕Unit) :=
 if(decide (v6<(p0.length:Int))) then
  idx p0 v6>>=fun x4 =>
  Qi4 (x4.toNat:Int)>>=fun x5 =>
  if(!x5) then
   some (.inr ())
  else
   Qeh p0 (wr (v6+1))
 else
  some (.inl ())
 partial_fixpoint
theorem Qqb:∀ (p0:(List UInt8)),(∀ (v6:Int) (o1:Unit⊕Unit),Qeh p0 v6=some o1→TL (0,0) Try.prog 27 Qmk (JP2 (0,0) 27 o1 (.exit 0) (Qir p0) .ret (Qis p0)) (Qgu p0 v6)):=by
 intro p0
 refine Qeh.partial_correctness p0 _ ?_
 intro Qeh' iQeh v6 o1 h
 refine TL.round (Qaj mixed tbOk (lv:=Qpu) _ _ _ ?_)
 refine Qae h (fun hb h=>?_) (fun hb h=>?_)
 ·refine Qni h (fun x4 hi h=>?_)
  refine Qal [nV .u8 (x4.toNat:Int)] Qko h (fun x5 hy=>(Qtq (x4.toNat:Int) x5 hy)) (fun x5 hy h=>?_)
  refine Qae h (fun hb h=>?_) (fun hb h=>?_)
  ·exact JP2.b h (Le.tz 0 0 rfl rfl rfl)
  ·refine TL.le (τ := Qgu p0 (wr (v6+1))) ?_ ((iQeh (wr (v6+1)) _ h))
   exact Le.tz 0 0 rfl rfl rfl
 ·exact JP2.a h (Le.tz 0 0 rfl rfl rfl)
theorem Qri:∀ (p0:(List UInt8)) (v6:Int) (o1:Unit⊕Unit),Qeh p0 v6=some o1→TL (0,0) Try.prog 27 Qmk (JP2 (0,0) 27 o1 (.exit 0) (Qir p0) .ret (Qis p0)) (Qgu p0 v6):=fun p0 v6=>(Qqb p0) v6
noncomputable def Qjm (p0:(List UInt8)):Option (Bool) :=
 (Qeh p0 0)>>=fun o1 =>
 match o1 with
 | .inl y2 =>
  ( if(!(p0==[])) then
    if(decide ((p0.length:Int)≤32)) then
     idx p0 0>>=fun x7 =>
     some (decide ((x7.toNat:Int) ≥ 97))
    else
     some false
   else
    some false:Option (Bool))>>=fun o6 =>
  some o6
 | .inr y3 =>
  some false
theorem Ql0:∀ (p0:(List UInt8)) (o:Bool),Qjm p0=some o→PCall Try.prog 35 [sV p0] (Qhr o):=by
 intro p0 o h
 unfold Qjm at h
 refine PCall.ofB mixed tbOk Qpu Try.func35 rfl (by kernel_rfl) (Nat.le_of_ble_eq_true rfl) ?_
 refine vrfl ?_
 refine Qai h (fun o1 ho hk=>?_)
 refine Exists.intro (JP2 _ _ o1 (.exit 0) (Qir p0) .ret (Qis p0)) (And.intro (T_le (τ := Qgu p0 0) ?_ (TL.loop (Qri p0 0 o1 ho))) (join2 (fun y2 hy=>?_) (fun y3 hy=>?_)))
 ·exact Le.tz 0 0 rfl rfl rfl
 ·have h:=(by rw[hy] at hk; exact hk)
  refine Qai h (fun o6 ho hk=>?_)
  refine Exists.intro (JP1 _ _ o6 .normal (Qte )) (And.intro ?_ (join1 ?_))
  ·have h:=ho
   refine Qae h (fun hb h=>?_) (fun hb h=>?_)
   ·refine vrfl ?_
    refine Qae h (fun hb h=>?_) (fun hb h=>?_)
    ·refine Qni h (fun x7 hi h=>?_)
     refine JP1.a h ?_
     exact Le.tz 0 0 rfl rfl rfl
    ·refine JP1.a h ?_
     exact Le.tz 0 0 rfl rfl rfl
   ·refine bF ?_
    refine JP1.a h ?_
    exact Le.tz 0 0 rfl rfl rfl
  ·have h:=hk
   refine Qat (t:=Qhr) h ?_
   exact .refl _
 ·have h:=(by rw[hy] at hk; exact hk)
  refine Qat (t:=Qhr) h ?_
  exact .refl _
noncomputable def Qfx (p0:(List UInt8)):Option (Bool) :=
 ( if(p0==[105,102]) then
   some (p0==[105,102])
  else
   if(p0==[101,108,115,101]) then
    some (p0==[101,108,115,101])
   else
    if(p0==[101,110,100]) then
     some (p0==[101,110,100])
    else
     if(p0==[101,97,99,104]) then
      some (p0==[101,97,99,104])
     else
      if(p0==[105,110]) then
       some (p0==[105,110])
      else
       if(p0==[108,101,116]) then
        some (p0==[108,101,116])
       else
        if(p0==[117,115,101]) then
         some (p0==[117,115,101])
        else
         if(p0==[116,114,117,101]) then
          some (p0==[116,114,117,101])
         else
          if(p0==[102,97,108,115,101]) then
           some (p0==[102,97,108,115,101])
          else
           some (p0==[115,101,99,114,101,116]):Option (Bool))>>=fun o1 =>
 if o1 then
  some false
 else
  Qjm p0>>=fun x2 =>
  some x2
theorem Qg5:∀ (p0:(List UInt8)) (o:Bool),Qfx p0=some o→PCall Try.prog 22 [sV p0] (Qea o):=by
 intro p0 o h
 unfold Qfx at h
 refine PCall.ofB mixed tbOk Qu7 Try.func22 rfl (by kernel_rfl) (Nat.le_of_ble_eq_true rfl) ?_
 refine Qai h (fun o1 ho hk=>?_)
 refine Exists.intro (JP1 _ _ o1 .normal (Qqz p0)) (And.intro ?_ (join1 ?_))
 ·have h:=ho
  refine Qae h (fun hb h=>?_) (fun hb h=>?_)
  ·refine JP1.a h ?_
   exact Le.tz 0 0 rfl rfl rfl
  ·refine Qae h (fun hb h=>?_) (fun hb h=>?_)
   ·refine JP1.a h ?_
    exact Le.tz 0 0 rfl rfl rfl
   ·refine Qae h (fun hb h=>?_) (fun hb h=>?_)
    ·refine JP1.a h ?_
     exact Le.tz 0 0 rfl rfl rfl
    ·refine Qae h (fun hb h=>?_) (fun hb h=>?_)
     ·refine JP1.a h ?_
      exact Le.tz 0 0 rfl rfl rfl
     ·refine Qae h (fun hb h=>?_) (fun hb h=>?_)
      ·refine JP1.a h ?_
       exact Le.tz 0 0 rfl rfl rfl
      ·refine Qae h (fun hb h=>?_) (fun hb h=>?_)
       ·refine JP1.a h ?_
        exact Le.tz 0 0 rfl rfl rfl
       ·refine Qae h (fun hb h=>?_) (fun hb h=>?_)
        ·refine JP1.a h ?_
         exact Le.tz 0 0 rfl rfl rfl
        ·refine Qae h (fun hb h=>?_) (fun hb h=>?_)
         ·refine JP1.a h ?_
          exact Le.tz 0 0 rfl rfl rfl
         ·refine Qae h (fun hb h=>?_) (fun hb h=>?_)
          ·refine JP1.a h ?_
           exact Le.tz 0 0 rfl rfl rfl
          ·refine JP1.a h ?_
           exact Le.tz 0 0 rfl rfl rfl
 ·have h:=hk
  refine Qae h (fun hb h=>?_) (fun hb h=>?_)
  ·refine Qat (t:=Qea) h ?_
   exact .refl _
  ·refine Qal [sV p0] Qhr h (fun x2 hy=>(Ql0 p0 x2 hy)) (fun x2 hy h=>?_)
   refine Qat (t:=Qea) h ?_
   exact .refl _
noncomputable def Qbx (p0:(List UInt8)) (v4:(List Int)) (v18:Int):Option ((List Int)) :=
 if(decide (v18<(p0.length:Int))) then
  idx p0 v18>>=fun x5 =>
  if((x5.toNat:Int)==10) then
   appL 1 v4 (s2b [92,110])>>=fun x6 =>
   Qbx p0 x6 (wr (v18+1))
  else
   if((x5.toNat:Int)==9) then
    appL 1 v4 (s2b [92,116])>>=fun x7 =>
    Qbx p0 x7 (wr (v18+1))
   else
    ( if((x5.toNat:Int)==34) then
      some ((x5.toNat:Int)==34)
     else
      some ((x5.toNat:Int)==92):Option (Bool))>>=fun o8 =>
    if o8 then
     appL 1 v4 [92,(x5.toNat:Int)]>>=fun x9 =>
     Qbx p0 x9 (wr (v18+1))
    else
     appL 1 v4 [(x5.toNat:Int)]>>=fun x10 =>
     Qbx p0 x10 (wr (v18+1))
 else
  some v4
 partial_fixpoint
theorem Qok:∀ (p0:(List UInt8)),(∀ (v4:(List Int)) (v18:Int) (o4:(List Int)),Qbx p0 v4 v18=some o4→TL (0,0) Try.prog 49 Qlp (JP1 (0,0) 49 o4 (.exit 0) (Qh0 p0)) (Qcv p0 v4 v18)):=by
 intro p0
 refine Qbx.partial_correctness p0 _ ?_
 intro Qbx' iQbx v4 v18 o4 h
 refine TL.round (Qaj mixed tbOk (lv:=Qn5) _ _ _ ?_)
 refine Qae h (fun hb h=>?_) (fun hb h=>?_)
 ·refine Qni h (fun x5 hi h=>?_)
  refine Qae h (fun hb h=>?_) (fun hb h=>?_)
  ·refine Qxq (a:=v4) (b:=[92,110]) h rfl (fun x6 hi h=>?_)
   refine TL.le (τ := Qcv p0 x6 (wr (v18+1))) ?_ ((iQbx x6 (wr (v18+1)) _ h))
   exact Le.tz 0 1 rfl rfl rfl
  ·refine Qae h (fun hb h=>?_) (fun hb h=>?_)
   ·refine Qxq (a:=v4) (b:=[92,116]) h rfl (fun x7 hi h=>?_)
    refine TL.le (τ := Qcv p0 x7 (wr (v18+1))) ?_ ((iQbx x7 (wr (v18+1)) _ h))
    exact Le.tz 0 1 rfl rfl rfl
   ·refine Qai h (fun o8 ho hk=>?_)
    refine Exists.intro (JP1 _ _ o8 .normal (Qqx p0 v4 v18 x5)) (And.intro ?_ (join1 ?_))
    ·have h:=ho
     refine Qae h (fun hb h=>?_) (fun hb h=>?_)
     ·refine JP1.a h ?_
      exact Le.tz 0 1 rfl rfl rfl
     ·refine JP1.a h ?_
      exact Le.tz 0 1 rfl rfl rfl
    ·have h:=hk
     refine Qae h (fun hb h=>?_) (fun hb h=>?_)
     ·refine Qje (a:=v4) (b:=[92,(x5.toNat:Int)]) (c:=(cNum .u8)) h (.refl _) (fun _=>rfl) rfl (fun x9 hi h=>?_)
      refine TL.le (τ := Qcv p0 x9 (wr (v18+1))) ?_ ((iQbx x9 (wr (v18+1)) _ h))
      exact Le.tz 0 1 rfl rfl rfl
     ·refine Qje (a:=v4) (b:=[(x5.toNat:Int)]) (c:=(cNum .u8)) h (.refl _) (fun _=>rfl) rfl (fun x10 hi h=>?_)
      refine TL.le (τ := Qcv p0 x10 (wr (v18+1))) ?_ ((iQbx x10 (wr (v18+1)) _ h))
      exact Le.tz 0 1 rfl rfl rfl
 ·exact JP1.a h (Le.tz 0 1 rfl rfl rfl)
theorem Qqc:∀ (p0:(List UInt8)) (v4:(List Int)) (v18:Int) (o4:(List Int)),Qbx p0 v4 v18=some o4→TL (0,0) Try.prog 49 Qlp (JP1 (0,0) 49 o4 (.exit 0) (Qh0 p0)) (Qcv p0 v4 v18):=fun p0 v4 v18=>(Qok p0) v4 v18
noncomputable def Qbq (p0:(List UInt8)) (p1:Int):Option (Int) :=
 some (Lib.indexByte p0 p1.toNat.toUInt8)
theorem Qfy:∀ (p0:(List UInt8)) (p1:Int) (o:Int),Qbq p0 p1=some o→PCall Try.prog 77 [sV p0,nV .u8 p1] (Qdg o):=by
 intro p0 p1 o h
 unfold Qbq at h
 cases h
 exact Qu1 _ _
noncomputable def strings_IndexByte (p0:(List UInt8)) (p1:Int):Option (Int) :=
 Qbq p0 p1>>=fun x1 =>
 some x1
theorem Qlh:∀ (p0:(List UInt8)) (p1:Int) (o:Int),strings_IndexByte p0 p1=some o→PCall Try.prog 75 [sV p0,nV .u8 p1] (Qfa o):=by
 intro p0 p1 o h
 unfold strings_IndexByte at h
 refine PCall.ofB mixed tbOk Qlg Try.func75 rfl (by kernel_rfl) (Nat.le_of_ble_eq_true rfl) ?_
 refine Qal [sV p0,nV .u8 p1] Qdg h (fun x1 hy=>(Qfy p0 p1 x1 hy)) (fun x1 hy h=>?_)
 refine Qat (t:=Qfa) h ?_
 exact .refl _
noncomputable def Qfz (x1:(List UInt8)) (l4:(List (Int×Int))):Option (Unit⊕Unit) :=
 match l4 with
 | [] =>
  some (.inl ())
 | x2::r3 =>
  ( if(x2.1==65533) then
    some (x2.2==1)
   else
    some false:Option (Bool))>>=fun o9 =>
  if o9 then
   some (.inr ())
  else
   Qfz x1 r3
 partial_fixpoint
theorem Qtr:∀ (x1:(List UInt8)),(∀ (l4:(List (Int×Int))) (o6:Unit⊕Unit),Qfz x1 l4=some o6→RL 1 0 Try.prog 15 (rgP Qgl) (rgA Qgl) (rgB Qgl) (Qfk x1).env (JP2 (0,0) 15 o6 .normal (Qkr x1) .ret (Qks x1)) (l4.map Qec) (Qfk x1).s):=by
 intro x1
 refine Qfz.partial_correctness x1 _ ?_
 intro Qfz' iQfz l4 o6 h
 cases l4 with
 | nil =>
  refine Qxr ?_
  exact JP2.a h (Le.tz 1 0 rfl rfl rfl)
 | cons x2 r3 =>
  refine Qs4 (Qaj mixed tbOk (lv:=Qp2) _ _ _ ?_)
  refine And.intro rfl (Qaj mixed tbOk (lv:=Qp2) _ _ _ ?_)
  refine Qai h (fun o9 ho hk=>?_)
  refine Exists.intro (JP1 _ _ o9 .normal (Qwo x1 x2)) (And.intro ?_ (join1 ?_))
  ·have h:=ho
   refine Qae h (fun hb h=>?_) (fun hb h=>?_)
   ·refine JP1.a h ?_
    exact Le.tz 1 0 rfl rfl rfl
   ·refine JP1.a h ?_
    exact Le.tz 1 0 rfl rfl rfl
  ·have h:=hk
   refine Qae h (fun hb h=>?_) (fun hb h=>?_)
   ·exact Exists.intro (⟨[[.p (bV false)]],[]⟩:S) (And.intro (Le.tow 1 0 rfl .nil (.refl _) rfl) (And.intro rfl (And.intro rfl (JP2.b h (Le.tz 1 0 rfl rfl rfl)))))
   ·exact Exists.intro (Qfk x1 ).s (And.intro (Le.tz 1 0 rfl rfl rfl) (And.intro rfl (And.intro rfl ((iQfz r3 _ h)))))
theorem Qvf:∀ (x1:(List UInt8)) (l4:(List (Int×Int))) (o6:Unit⊕Unit),Qfz x1 l4=some o6→RL 1 0 Try.prog 15 (rgP Qgl) (rgA Qgl) (rgB Qgl) (Qfk x1).env (JP2 (0,0) 15 o6 .normal (Qkr x1) .ret (Qks x1)) (l4.map Qec) (Qfk x1).s:=fun x1 l4=>(Qtr x1) l4
noncomputable def Qts (p0:(List UInt8)):Option ((List UInt8)) :=
 some p0
theorem Qyx:∀ (p0:(List UInt8)) (o:(List UInt8)),Qts p0=some o→PCall Try.prog 81 [sV p0] (Qp3 o):=by
 intro p0 o h
 unfold Qts at h
 refine PCall.ofM mixed tbOk Qyw Try.func81 rfl (by kernel_rfl) (Nat.le_of_ble_eq_true rfl) ?_
 refine Qat (t:=Qp3) h ?_
 exact .refl _
noncomputable def Qsa (p0:Int):Option (Bool) :=
 ( if(decide (p0 ≥ 0)) then
   if(decide (p0≤1114111)) then
    if(decide (p0<55296)) then
     some true
    else
     some (decide (p0>57343))
   else
    some false
  else
   some false:Option (Bool))>>=fun o1 =>
 some o1
theorem Q0c:∀ (p0:Int) (o:Bool),Qsa p0=some o→PCall Try.prog 87 [nV .i32 p0] (Qtn o):=by
 intro p0 o h
 unfold Qsa at h
 refine PCall.ofB mixed tbOk Q0a Try.func87 rfl (by kernel_rfl) (Nat.le_of_ble_eq_true rfl) ?_
 refine Qai h (fun o1 ho hk=>?_)
 refine Exists.intro (JP1 _ _ o1 .normal (Qwq )) (And.intro ?_ (join1 ?_))
 ·have h:=ho
  refine Qae h (fun hb h=>?_) (fun hb h=>?_)
  ·refine Qae h (fun hb h=>?_) (fun hb h=>?_)
   ·refine Qae h (fun hb h=>?_) (fun hb h=>?_)
    ·refine JP1.a h ?_
     exact Le.tz 0 0 rfl rfl rfl
    ·refine JP1.a h ?_
     exact Le.tz 0 0 rfl rfl rfl
   ·refine JP1.a h ?_
    exact Le.tz 0 0 rfl rfl rfl
  ·refine bF ?_
   refine JP1.a h ?_
   exact Le.tz 0 0 rfl rfl rfl
 ·have h:=hk
  refine Qat (t:=Qtn) h ?_
  exact .refl _
noncomputable def Qei (p0:(List UInt8)) (p2:Int) (v1:Int) (v14:Int):Option (Int⊕Unit) :=
 if(decide (v14<p2)) then
  idx p0 v14>>=fun x4 =>
  if((bits .and .u8 (x4.toNat:Int) 192) != 128) then
   some (.inr ())
  else
   idx p0 v14>>=fun x5 =>
   Qei p0 p2 (bits .or .i32 (IntKind.i32.wrap (v1*2 ^ (min (6:Int).toNat (IntKind.i32.bits)))) (IntKind.i32.wrap (bits .and .u8 (x5.toNat:Int) 63))) (wr (v14+1))
 else
  some (.inl v1)
 partial_fixpoint
theorem Qqd:∀ (p0:(List UInt8)) (p2:Int),(∀ (v1:Int) (v14:Int) (o1:Int⊕Unit),Qei p0 p2 v1 v14=some o1→TL (0,0) Try.prog 32 Qmn (JP2 (0,0) 32 o1 (.exit 0) (Qit p0 p2) .ret (Qiu p0 p2)) (Qgw p0 p2 v1 v14)):=by
 intro p0 p2
 refine Qei.partial_correctness p0 p2 _ ?_
 intro Qei' iQei v1 v14 o1 h
 refine TL.round (Qaj mixed tbOk (lv:=Qp4) _ _ _ ?_)
 refine Qae h (fun hb h=>?_) (fun hb h=>?_)
 ·refine Qni h (fun x4 hi h=>?_)
  refine Qae h (fun hb h=>?_) (fun hb h=>?_)
  ·exact JP2.b h (Le.tz 0 0 rfl rfl rfl)
  ·refine And.intro (by decide) ?_
   refine Qni h (fun x5 hi h=>?_)
   refine vrfl ?_
   refine TL.le (τ := Qgw p0 p2 (bits .or .i32 (IntKind.i32.wrap (v1*2 ^ (min (6:Int).toNat (IntKind.i32.bits)))) (IntKind.i32.wrap (bits .and .u8 (x5.toNat:Int) 63))) (wr (v14+1))) ?_ ((iQei (bits .or .i32 (IntKind.i32.wrap (v1*2 ^ (min (6:Int).toNat (IntKind.i32.bits)))) (IntKind.i32.wrap (bits .and .u8 (x5.toNat:Int) 63))) (wr (v14+1)) _ h))
   exact Le.tz 0 0 rfl rfl rfl
 ·exact JP2.a h (Le.tz 0 0 rfl rfl rfl)
theorem Qrj:∀ (p0:(List UInt8)) (p2:Int) (v1:Int) (v14:Int) (o1:Int⊕Unit),Qei p0 p2 v1 v14=some o1→TL (0,0) Try.prog 32 Qmn (JP2 (0,0) 32 o1 (.exit 0) (Qit p0 p2) .ret (Qiu p0 p2)) (Qgw p0 p2 v1 v14):=fun p0 p2 v1 v14=>(Qqd p0 p2) v1 v14
noncomputable def Qla (p0:(List UInt8)) (p1:Int) (p2:Int):Option (Int×Bool) :=
 if(decide ((p0.length:Int)<p2)) then
  some (0,false)
 else
  (Qei p0 p2 p1 0)>>=fun o1 =>
  match o1 with
  | .inl y2 =>
   some (y2,true)
  | .inr y3 =>
   some (0,false)
theorem Qwu:∀ (p0:(List UInt8)) (p1:Int) (p2:Int) (o:Int×Bool),Qla p0 p1 p2=some o→PCall Try.prog 86 [sV p0,nV .i32 p1,iV p2] (Qi1 o):=by
 intro p0 p1 p2 o h
 unfold Qla at h
 refine PCall.ofB mixed tbOk Qp4 Try.func86 rfl (by kernel_rfl) (Nat.le_of_ble_eq_true rfl) ?_
 refine vrfl ?_
 refine Qae h (fun hb h=>?_) (fun hb h=>?_)
 ·refine Qat (t:=Qi1) h ?_
  exact .refl _
 ·refine Qai h (fun o1 ho hk=>?_)
  refine Exists.intro (JP2 _ _ o1 (.exit 0) (Qit p0 p2) .ret (Qiu p0 p2)) (And.intro (T_le (τ := Qgw p0 p2 p1 0) ?_ (TL.loop (Qrj p0 p2 p1 0 o1 ho))) (join2 (fun y2 hy=>?_) (fun y3 hy=>?_)))
  ·exact Le.tz 0 0 rfl rfl rfl
  ·have h:=(by rw[hy] at hk; exact hk)
   refine Qat (t:=Qi1) h ?_
   exact .refl _
  ·have h:=(by rw[hy] at hk; exact hk)
   refine Qat (t:=Qi1) h ?_
   exact .refl _
noncomputable def Qmq (p0:(List UInt8)) (p1:Int):Option (Int×Int) :=
 ( if(decide (p1<0)) then
   some true
  else
   some (decide (p1 ≥ (p0.length:Int))):Option (Bool))>>=fun o1 =>
 if o1 then
  some (0,0)
 else
  idx p0 p1>>=fun x2 =>
  ( if(decide ((x2.toNat:Int)<128)) then
    some (.inr (IntKind.i32.wrap (x2.toNat:Int)))
   else
    ( if(decide ((x2.toNat:Int) ≥ 192)) then
      some (decide ((x2.toNat:Int)<224))
     else
      some false:Option (Bool))>>=fun o6 =>
    if o6 then
     some (.inl ((IntKind.i32.wrap (bits .and .u8 (x2.toNat:Int) 31)),128,1))
    else
     ( if(decide ((x2.toNat:Int) ≥ 224)) then
       some (decide ((x2.toNat:Int)<240))
      else
       some false:Option (Bool))>>=fun o7 =>
     if o7 then
      some (.inl ((IntKind.i32.wrap (bits .and .u8 (x2.toNat:Int) 15)),2048,2))
     else
      ( if(decide ((x2.toNat:Int) ≥ 240)) then
        some (decide ((x2.toNat:Int)<248))
       else
        some false:Option (Bool))>>=fun o8 =>
      if o8 then
       some (.inl ((IntKind.i32.wrap (bits .and .u8 (x2.toNat:Int) 7)),65536,3))
      else
       some (.inr 65533):Option ((Int×Int×Int)⊕Int))>>=fun o3 =>
  match o3 with
  | .inl y4 =>
   cutL p0 (wr (p1+1)) (p0.length:Int)>>=fun x9 =>
   Qla x9 y4.1 y4.2.2>>=fun x10 =>
   ( if(!x10.2) then
     some true
    else
     if(decide (x10.1<y4.2.1)) then
      some true
     else
      Qsa x10.1>>=fun x12 =>
      some (!x12):Option (Bool))>>=fun o11 =>
   if o11 then
    some (65533,1)
   else
    some (x10.1,(wr (y4.2.2+1)))
  | .inr y5 =>
   some (y5,1)
theorem Qwv:∀ (p0:(List UInt8)) (p1:Int) (o:Int×Int),Qmq p0 p1=some o→PCall Try.prog 85 [sV p0,iV p1] (Qhs o):=by
 intro p0 p1 o h
 unfold Qmq at h
 refine PCall.ofB mixed tbOk Qwp Try.func85 rfl (by kernel_rfl) (Nat.le_of_ble_eq_true rfl) ?_
 refine Qai h (fun o1 ho hk=>?_)
 refine Exists.intro (JP1 _ _ o1 .normal (Qtg p0 p1)) (And.intro ?_ (join1 ?_))
 ·have h:=ho
  refine Qae h (fun hb h=>?_) (fun hb h=>?_)
  ·refine JP1.a h ?_
   exact Le.tz 0 0 rfl rfl rfl
  ·refine vrfl ?_
   refine JP1.a h ?_
   exact Le.tz 0 0 rfl rfl rfl
 ·have h:=hk
  refine Qae h (fun hb h=>?_) (fun hb h=>?_)
  ·refine Qat (t:=Qhs) h ?_
   exact .refl _
  ·refine Qni h (fun x2 hi h=>?_)
   refine Qai h (fun o3 ho hk=>?_)
   refine Exists.intro (JP2 _ _ o3 .normal (Qth p0 p1) .ret (Qti p0 p1)) (And.intro ?_ (join2 (fun y4 hy=>?_) (fun y5 hy=>?_)))
   ·have h:=ho
    refine Qae h (fun hb h=>?_) (fun hb h=>?_)
    ·refine vrfl ?_
     refine JP2.b h ?_
     exact Le.tz 0 0 rfl rfl rfl
    ·refine Qai h (fun o6 ho hk=>?_)
     refine Exists.intro (JP1 _ _ o6 .normal (Qtj p0 p1 x2)) (And.intro ?_ (join1 ?_))
     ·have h:=ho
      refine Qae h (fun hb h=>?_) (fun hb h=>?_)
      ·refine JP1.a h ?_
       exact Le.tz 0 0 rfl rfl rfl
      ·refine JP1.a h ?_
       exact Le.tz 0 0 rfl rfl rfl
     ·have h:=hk
      refine Qae h (fun hb h=>?_) (fun hb h=>?_)
      ·refine vrfl ?_
       refine JP2.a h ?_
       exact Le.tz 0 0 rfl rfl rfl
      ·refine Qai h (fun o7 ho hk=>?_)
       refine Exists.intro (JP1 _ _ o7 .normal (Qtk p0 p1 x2)) (And.intro ?_ (join1 ?_))
       ·have h:=ho
        refine Qae h (fun hb h=>?_) (fun hb h=>?_)
        ·refine JP1.a h ?_
         exact Le.tz 0 0 rfl rfl rfl
        ·refine JP1.a h ?_
         exact Le.tz 0 0 rfl rfl rfl
       ·have h:=hk
        refine Qae h (fun hb h=>?_) (fun hb h=>?_)
        ·refine vrfl ?_
         refine JP2.a h ?_
         exact Le.tz 0 0 rfl rfl rfl
        ·refine Qai h (fun o8 ho hk=>?_)
         refine Exists.intro (JP1 _ _ o8 .normal (Qtl p0 p1 x2)) (And.intro ?_ (join1 ?_))
         ·have h:=ho
          refine Qae h (fun hb h=>?_) (fun hb h=>?_)
          ·refine JP1.a h ?_
           exact Le.tz 0 0 rfl rfl rfl
          ·refine JP1.a h ?_
           exact Le.tz 0 0 rfl rfl rfl
         ·have h:=hk
          refine Qae h (fun hb h=>?_) (fun hb h=>?_)
          ·refine vrfl ?_
           refine JP2.a h ?_
           exact Le.tz 0 0 rfl rfl rfl
          ·refine JP2.b h ?_
           exact Le.tz 0 0 rfl rfl rfl
   ·have h:=(by rw[hy] at hk; exact hk)
    refine Qpm (some (wr (p1+1))) none h (fun x9 hi h=>?_)
    refine Qal [sV x9,nV .i32 y4.1,iV y4.2.2] Qi1 h (fun x10 hy=>(Qwu x9 y4.1 y4.2.2 x10 hy)) (fun x10 hy h=>?_)
    refine Qai h (fun o11 ho hk=>?_)
    refine Exists.intro (JP1 _ _ o11 .normal (Qtm y4 x10)) (And.intro ?_ (join1 ?_))
    ·have h:=ho
     refine Qae h (fun hb h=>?_) (fun hb h=>?_)
     ·refine bT ?_
      refine JP1.a h ?_
      exact Le.tz 0 0 rfl rfl rfl
     ·refine Qae h (fun hb h=>?_) (fun hb h=>?_)
      ·refine JP1.a h ?_
       exact Le.tz 0 0 rfl rfl rfl
      ·refine Qal [nV .i32 x10.1] Qtn h (fun x12 hy=>(Q0c x10.1 x12 hy)) (fun x12 hy h=>?_)
       refine JP1.a h ?_
       exact Le.tz 0 0 rfl rfl rfl
    ·have h:=hk
     refine Qae h (fun hb h=>?_) (fun hb h=>?_)
     ·refine Qat (t:=Qhs) h ?_
      exact .refl _
     ·refine Qat (t:=Qhs) h ?_
      exact .refl _
   ·have h:=(by rw[hy] at hk; exact hk)
    refine Qat (t:=Qhs) h ?_
    exact .refl _
noncomputable def Qde (p0:(List UInt8)) (v3:Int):Option ((List (Int×Int))×(Unit)) :=
 if(decide (v3<(p0.length:Int))) then
  Qmq p0 v3>>=fun x3 =>
  ( Qde p0 (wr (v3+x3.2)))>>=fun q=>some ((x3.1,x3.2)::q.1,q.2)
 else
  some ([],())
 partial_fixpoint
theorem Qol:∀ (p0:(List UInt8)),(∀ (v3:Int) (o2:(List (Int×Int))×(Unit)),Qde p0 v3=some o2→∀ (gxs gp gpost gq1:List (List V)),gxs=gp++(o2.1.map Qec++gpost)→gxs=gq1++gpost→TL (0,1) Try.prog 24 Qlq (Qs (0,1) 24 gxs (JP1 (0,1) 24 o2.2 (.exit 0) (Qh3 p0 gxs gq1))) (Qfu p0 v3 gxs gp)):=by
 intro p0
 refine Qde.partial_correctness p0 _ ?_
 intro Qde' iQde v3 o2 h
 intro gxs gp gpost gq1 hx hq
 refine TL.round (Qaj mixed tbOk (lv:=Qn6) _ _ _ ?_)
 refine vrfl ?_
 refine Qae h (fun hb h=>?_) (fun hb h=>?_)
 ·refine Qal [sV p0,iV v3] Qhs h (fun x3 hy=>(Qwv p0 v3 x3 hy)) (fun x3 hy h=>?_)
  refine Qz1 (c:=Qec) h hx (.refl _) (by exact rfl) (by exact rfl) (fun _ h hx=>?_) ?_
  ·refine bF ?_
   refine TL.le (τ := Qfu p0 (wr (v3+x3.2)) gxs (gp++[Qec (x3.1,x3.2)])) ?_ ((iQde (wr (v3+x3.2)) _ h) _ _ _ _ hx hq)
   exact Le.tz 0 1 rfl rfl rfl
  ·refine bT ?_
   exact .inr ⟨rfl,_,(Le.env0 _).trans (Le.tow 0 1 rfl .nil (.refl _) rfl),rfl,rfl,rfl⟩
 ·exact .inl (JP1.a (sndI h) (Le.tz 0 1 rfl rfl (liveQ h hx hq rfl)))
theorem Qqe:∀ (p0:(List UInt8)) (v3:Int) (o2:(List (Int×Int))×(Unit)),Qde p0 v3=some o2→∀ (gxs gp gpost gq1:List (List V)),gxs=gp++(o2.1.map Qec++gpost)→gxs=gq1++gpost→TL (0,1) Try.prog 24 Qlq (Qs (0,1) 24 gxs (JP1 (0,1) 24 o2.2 (.exit 0) (Qh3 p0 gxs gq1))) (Qfu p0 v3 gxs gp):=fun p0 v3=>(Qol p0) v3
noncomputable def Qmr (p0:(List UInt8)):Option ((List (Int×Int))×Unit) :=
 ( Qde p0 0)>>=fun o2=>(
  some ([],()))>>=fun q=>some (o2.1++q.1,q.2)
theorem Qvg:∀ (p0:(List UInt8)) (o:(List (Int×Int))×Unit),Qmr p0=some o→∀ gxs:List (List V),gxs=o.1.map Qec→IterOK Try.prog 84 [.ep [sV p0]] gxs:=by
 intro p0 o h
 unfold Qmr at h
 intro gxs hg
 have hx:gxs=[]++(o.1.map Qec++[]):=by simp[hg]
 refine IterOK.ofB mixed tbOk Qn6 Try.func84 rfl (by kernel_rfl) (Nat.le_of_ble_eq_true rfl) rfl ?_
 refine Qoy h hx (fun o2 lgq1 gq1 ho hk hxa hjgq1=>?_)
 refine Exists.intro (Qs _ _ gxs (JP1 _ _ o2.2 (.exit 0) (Qh3 p0 gxs gq1))) (And.intro (T_le (τ := Qfu p0 0 gxs ([]:List (List V))) ?_ (TL.loop ((Qqe p0 0 o2 ho) _ _ _ _ hxa hjgq1))) (joinS (join1 ?_) ?_))
 ·exact Le.tz 0 1 rfl rfl rfl
 ·have h:=hk
  have hx:=hjgq1
  exact Qz0 h hx (.inl rfl) rfl
 ·exact fun s1 h1 h2 hs=>Qxs (.inr rfl) hs
noncomputable def Qvh (p0:(List UInt8)):Option (Bool) :=
 Qts p0>>=fun x1 =>
 Qmr x1>>=fun y5 =>
 (Qfz x1 y5.1)>>=fun o6 =>
 match o6 with
 | .inl y7 =>
  some true
 | .inr y8 =>
  some false
theorem Q0d:∀ (p0:(List UInt8)) (o:Bool),Qvh p0=some o→PCall Try.prog 74 [sV p0] (Qo0 o):=by
 intro p0 o h
 unfold Qvh at h
 refine PCall.ofB mixed tbOk Qp2 Try.func74 rfl (by kernel_rfl) (Nat.le_of_ble_eq_true rfl) ?_
 refine Qal [sV p0] Qp3 h (fun x1 hy=>(Qyx p0 x1 hy)) (fun x1 hy h=>?_)
 refine Qai h (fun y5 hy5 h=>?_)
 refine Qai h (fun o6 ho hk=>?_)
 refine Exists.intro (JP2 _ _ o6 .normal (Qkr x1) .ret (Qks x1)) (And.intro (T_le (τ := Qfk x1) ?_ (Qsy (g:=84) (cap:=[.ep [sV x1]]) rfl ((Qvg x1 y5 hy5) _ rfl) (mapSize fun _=>rfl) rfl (Nat.le_of_ble_eq_true rfl) (Nat.le_of_ble_eq_true rfl) (Qvf x1 y5.1 o6 ho))) (join2 (fun y7 hy=>?_) (fun y8 hy=>?_)))
 ·exact Le.tz 1 0 rfl rfl rfl
 ·have h:=(by rw[hy] at hk; exact hk)
  refine Qat (t:=Qo0) h ?_
  exact .refl _
 ·have h:=(by rw[hy] at hk; exact hk)
  refine Qat (t:=Qo0) h ?_
  exact .refl _
noncomputable def Qe0 (p0:(List UInt8)):Option ((List UInt8)×Bool) :=
 ( Qvh p0>>=fun x2 =>
  if(!x2) then
   some true
  else
   strings_IndexByte p0 13>>=fun x3 =>
   some (decide (x3 ≥ 0)):Option (Bool))>>=fun o1 =>
 if o1 then
  some ([],false)
 else
  (Qbx p0 [34] 0)>>=fun o4 =>
  appL 1 o4 [34]>>=fun x11 =>
  b2s x11>>=fun x12 =>
  some (x12,true)
theorem Qvi:∀ (p0:(List UInt8)) (o:(List UInt8)×Bool),Qe0 p0=some o→PCall Try.prog 70 [sV p0] (Qjf o):=by
 intro p0 o h
 unfold Qe0 at h
 refine PCall.ofB mixed tbOk Qn5 Try.func70 rfl (by kernel_rfl) (Nat.le_of_ble_eq_true rfl) ?_
 refine Qai h (fun o1 ho hk=>?_)
 refine Exists.intro (JP1 _ _ o1 .normal (Qqw p0)) (And.intro ?_ (join1 ?_))
 ·have h:=ho
  refine Qal [sV p0] Qo0 h (fun x2 hy=>(Q0d p0 x2 hy)) (fun x2 hy h=>?_)
  refine Qae h (fun hb h=>?_) (fun hb h=>?_)
  ·refine JP1.a h ?_
   exact Le.tz 0 0 rfl rfl rfl
  ·refine Qal [sV p0,nV .u8 13] Qfa h (fun x3 hy=>(Qlh p0 13 x3 hy)) (fun x3 hy h=>?_)
   refine JP1.a h ?_
   exact Le.tz 0 0 rfl rfl rfl
 ·have h:=hk
  refine Qae h (fun hb h=>?_) (fun hb h=>?_)
  ·refine Qat (t:=Qjf) h ?_
   exact .refl _
  ·refine vrfl ?_
   refine Qai h (fun o4 ho hk=>?_)
   refine Exists.intro (JP1 _ _ o4 (.exit 0) (Qh0 p0)) (And.intro (T_le (τ := Qcv p0 [34] 0) ?_ (TL.loop (Qqc p0 [34] 0 o4 ho))) (join1 ?_))
   ·exact Le.trans (τ := ⟨[(0,.p (sV p0)),(4,.p (.sl true ([34].map (cNum .u8)))),(17,.p (iV (p0.length:Int))),(18,.p (iV 0))],⟨[],[]⟩⟩) (Le.tz 0 0 rfl rfl rfl) ((Le.ownW 4 5 1 rfl (mapSize fun _=>rfl)).trans (Le.tz 0 1 rfl rfl rfl))
   have h:=hk
   refine Qje (a:=o4) (b:=[34]) (c:=(cNum .u8)) h (.refl _) (fun _=>rfl) rfl (fun x11 hi h=>?_)
   refine Q2i (l:=x11) h (fun x12 hi h=>?_)
   refine Qat (t:=Qjf) h ?_
   exact .refl _
noncomputable def Qfl (p0:Qab):Option (Qcc) :=
 some (Qcc.mk (!(p0.Name==[])) (!(p0.Text==[])) (p0.N != 0) (decide ((p0.Then.length:Int)>0)) (decide ((p0.Else.length:Int)>0)) (p0.L.length:Int))
theorem Qku:∀ (p0:Qab) (o:Qcc),Qfl p0=some o→PCall Try.prog 64 [.agg [iV p0.Kind,sV p0.Name,sV p0.Text,iV p0.N,.sl false (p0.L.map Qaa),.sl false (p0.Then.map Qaa),.sl false (p0.Else.map Qaa)]] (Qgv o):=by
 intro p0 o h
 unfold Qfl at h
 refine PCall.ofB mixed tbOk Qp1 Try.func64 rfl (by kernel_rfl) (Nat.le_of_ble_eq_true rfl) ?_
 refine view (lenMap _ _) rfl ?_
 refine view (lenMap _ _) rfl ?_
 refine view (lenMap _ _) rfl ?_
 refine Qat (t:=Qgv) h ?_
 exact .refl _
mutual
noncomputable def Qar (p0:(List Qab)):Option (Bool) :=
 Qa6 p0>>=fun x1 =>
 some (decide (x1 ≥ 0))
 partial_fixpoint
noncomputable def Qa6 (p0:(List Qab)):Option (Int) :=
 (Qak p0 0)>>=fun o1 =>
 match o1 with
 | .inl y2 =>
  some (-1)
 | .inr y3 =>
  some y3
 partial_fixpoint
noncomputable def Qak (p0:(List Qab)) (v8:Int):Option (Unit⊕Int) :=
 if(decide (v8<(p0.length:Int))) then
  idx p0 v8>>=fun x4 =>
  Ql1 x4>>=fun x5 =>
  if x5 then
   some (.inr v8)
  else
   Qak p0 (wr (v8+1))
 else
  some (.inl ())
 partial_fixpoint
noncomputable def Ql1 (p0:Qab):Option (Bool) :=
 Qdz p0>>=fun x1 =>
 some (!x1)
 partial_fixpoint
noncomputable def Qdz (p0:Qab):Option (Bool) :=
 Qfl p0>>=fun x1 =>
 if(p0.Kind==1) then
  Qe0 p0.Text>>=fun x2 =>
  ( if x2.2 then
    some ((x1.name_==false)&&((x1.text_==x1.text_)&&((x1.num_==false)&&((x1.then_==false)&&((x1.other_==false)&&((x1.l_==0)&&true))))))
   else
    some false:Option (Bool))>>=fun o3 =>
  some o3
 else
  if(p0.Kind==2) then
   some ((x1.name_==false)&&((x1.text_==false)&&((x1.num_==x1.num_)&&((x1.then_==false)&&((x1.other_==false)&&((x1.l_==0)&&true))))))
  else
   if(p0.Kind==3) then
    ( if((bits .andNot .i64 p0.N 1)==0) then
      some ((x1.name_==false)&&((x1.text_==false)&&((x1.num_==x1.num_)&&((x1.then_==false)&&((x1.other_==false)&&((x1.l_==0)&&true))))))
     else
      some false:Option (Bool))>>=fun o4 =>
    some o4
   else
    if(p0.Kind==4) then
     ( Qfx p0.Name>>=fun x6 =>
      if x6 then
       some ((x1.name_==true)&&((x1.text_==false)&&((x1.num_==false)&&((x1.then_==false)&&((x1.other_==false)&&((x1.l_==0)&&true))))))
      else
       some false:Option (Bool))>>=fun o5 =>
     some o5
    else
     if(p0.Kind==7) then
      ( Qjm p0.Name>>=fun x8 =>
       if x8 then
        some ((x1.name_==true)&&((x1.text_==false)&&((x1.num_==false)&&((x1.then_==false)&&((x1.other_==false)&&((x1.l_==0)&&true))))))
       else
        some false:Option (Bool))>>=fun o7 =>
      some o7
     else
      if(p0.Kind==5) then
       ( Qjm p0.Name>>=fun x10 =>
        if x10 then
         if((x1.name_==true)&&((x1.text_==false)&&((x1.num_==false)&&((x1.then_==false)&&((x1.other_==false)&&((x1.l_==1)&&true)))))) then
          idx p0.L 0>>=fun x11 =>
          Qdz x11>>=fun x12 =>
          some x12
         else
          some false
        else
         some false:Option (Bool))>>=fun o9 =>
       some o9
      else
       if(p0.Kind==6) then
        ( Qfx p0.Name>>=fun x14 =>
         if x14 then
          if((x1.name_==true)&&((x1.text_==false)&&((x1.num_==false)&&((x1.then_==false)&&((x1.other_==false)&&((x1.l_==(if 3<x1.l_ then 3 else x1.l_))&&true)))))) then
           Qar p0.L>>=fun x15 =>
           some (!x15)
          else
           some false
         else
          some false:Option (Bool))>>=fun o13 =>
        some o13
       else
        some false
 partial_fixpoint
end
theorem Qci:(∀ (p0:(List Qab)) (o:Bool),Qar p0=some o→CallOK Try.prog 71 [.p (.sl false (p0.map Qaa)),.fn (.func 72) [] []] ⟨[],[]⟩ (Qbh o) ⟨[],[]⟩)∧(∀ (p0:(List Qab)) (o:Int),Qa6 p0=some o→CallOK Try.prog 76 [.p (.sl false (p0.map Qaa)),.fn (.func 72) [] []] ⟨[],[]⟩ (Qa4 o) ⟨[],[]⟩)∧(∀ (p0:(List Qab)) (v8:Int) (o1:Unit⊕Int),Qak p0 v8=some o1→TL (0,0) Try.prog 19 Qcy (JP2 (0,0) 19 o1 (.exit 0) (Qbe p0) .ret (Qbf p0)) (Qax p0 v8))∧(∀ (p0:Qab) (o:Bool),Ql1 p0=some o→PCall Try.prog 72 [.agg [iV p0.Kind,sV p0.Name,sV p0.Text,iV p0.N,.sl false (p0.L.map Qaa),.sl false (p0.Then.map Qaa),.sl false (p0.Else.map Qaa)]] (Qji o))∧(∀ (p0:Qab) (o:Bool),Qdz p0=some o→PCall Try.prog 66 [.agg [iV p0.Kind,sV p0.Name,sV p0.Text,iV p0.N,.sl false (p0.L.map Qaa),.sl false (p0.Then.map Qaa),.sl false (p0.Else.map Qaa)]] (Qb7 o)):=by
 refine Qar.mutual_partial_correctness _ _ _ _ _ ?_ ?_ ?_ ?_ ?_
 ·intro Qa6' iQa6 p0 o h
  refine CallOK.ofB mixed tbOk Qcs Try.func71 rfl (by kernel_rfl) (Nat.le_of_ble_eq_true rfl) rfl rfl rfl ?_
  refine Qds _ _ h (fun x1 hy=>((iQa6 p0 x1 hy).fr [] [] rfl rfl rfl)) (fun x1 hy h=>?_)
  refine Exists.intro _ (And.intro (Le.refl _ _ _) ?_)
  exact Qe7 (t:=Qbh) (ss:=fun o=>⟨[],[]⟩) h ⟨[],rfl,.refl _,.refl _,rfl⟩
 ·intro Qak' iQak p0 o h
  refine CallOK.ofB mixed tbOk Qbm Try.func76 rfl (by kernel_rfl) (Nat.le_of_ble_eq_true rfl) rfl rfl rfl ?_
  refine view (lenMap _ _) rfl ?_
  refine Qai h (fun o1 ho hk=>?_)
  refine Exists.intro (JP2 _ _ o1 (.exit 0) (Qbe p0) .ret (Qbf p0)) (And.intro (T_le (τ := Qax p0 0) ?_ (TL.loop (iQak p0 0 o1 ho))) (join2 (fun y2 hy=>?_) (fun y3 hy=>?_)))
  ·exact Le.tz 0 0 rfl rfl rfl
  ·have h:=(by rw[hy] at hk; exact hk)
   refine Exists.intro _ (And.intro (Le.refl _ _ _) ?_)
   exact Qe7 (t:=Qa4) (ss:=fun o=>⟨[],[]⟩) h ⟨[],rfl,.refl _,.refl _,rfl⟩
  ·have h:=(by rw[hy] at hk; exact hk)
   refine Exists.intro _ (And.intro (Le.refl _ _ _) ?_)
   exact Qe7 (t:=Qa4) (ss:=fun o=>⟨[],[]⟩) h ⟨[],rfl,.refl _,.refl _,rfl⟩
 ·intro Qak' Ql1' iQak iQl1 p0 v8 o1 h
  refine TL.round (Qaj mixed tbOk (lv:=Qbm) _ _ _ ?_)
  refine Qae h (fun hb h=>?_) (fun hb h=>?_)
  ·refine Qb4 (l:=p0) (c:=Qaa) (c' := Qbw) h Qam (fun _=>rfl) (by decide) (fun x4 hi h=>?_)
   refine Qal [.agg [iV x4.Kind,sV x4.Name,sV x4.Text,iV x4.N,.sl false (x4.L.map Qaa),.sl false (x4.Then.map Qaa),.sl false (x4.Else.map Qaa)]] Qji h (fun x5 hy=>(iQl1 x4 x5 hy)) (fun x5 hy h=>?_)
   refine Qae h (fun hb h=>?_) (fun hb h=>?_)
   ·exact JP2.b h (Le.tz 0 0 rfl rfl rfl)
   ·refine TL.le (τ := Qax p0 (wr (v8+1))) ?_ ((iQak p0 (wr (v8+1)) _ h))
    exact Le.tz 0 0 rfl rfl rfl
  ·exact JP2.a h (Le.tz 0 0 rfl rfl rfl)
 ·intro Qdz' iQdz p0 o h
  refine PCall.ofB mixed tbOk Qq6 Try.func72 rfl (by kernel_rfl) (Nat.le_of_ble_eq_true rfl) ?_
  refine Qal [.agg [iV p0.Kind,sV p0.Name,sV p0.Text,iV p0.N,.sl false (p0.L.map Qaa),.sl false (p0.Then.map Qaa),.sl false (p0.Else.map Qaa)]] Qb7 h (fun x1 hy=>(iQdz p0 x1 hy)) (fun x1 hy h=>?_)
  refine Qat (t:=Qji) h ?_
  exact .refl _
 ·intro Qar' Qdz' iQar iQdz p0 o h
  refine PCall.ofB mixed tbOk Qu8 Try.func66 rfl (by kernel_rfl) (Nat.le_of_ble_eq_true rfl) ?_
  refine Qal [.agg [iV p0.Kind,sV p0.Name,sV p0.Text,iV p0.N,.sl false (p0.L.map Qaa),.sl false (p0.Then.map Qaa),.sl false (p0.Else.map Qaa)]] Qgv h (fun x1 hy=>(Qku p0 x1 hy)) (fun x1 hy h=>?_)
  refine Qae h (fun hb h=>?_) (fun hb h=>?_)
  ·refine Qal [sV p0.Text] Qjf h (fun x2 hy=>(Qvi p0.Text x2 hy)) (fun x2 hy h=>?_)
   refine Qai h (fun o3 ho hk=>?_)
   refine Exists.intro (JP1 _ _ o3 .normal (Qq0 p0 x1)) (And.intro ?_ (join1 ?_))
   ·have h:=ho
    refine Qae h (fun hb h=>?_) (fun hb h=>?_)
    ·refine And.intro rfl ?_
     refine JP1.a h ?_
     exact Le.tz 3 0 rfl rfl rfl
    ·refine JP1.a h ?_
     exact Le.tz 3 0 rfl rfl rfl
   ·have h:=hk
    refine Qat (t:=Qb7) h ?_
    exact .refl _
  ·refine Qae h (fun hb h=>?_) (fun hb h=>?_)
   ·refine And.intro rfl ?_
    refine Qat (t:=Qb7) h ?_
    exact .refl _
   ·refine Qae h (fun hb h=>?_) (fun hb h=>?_)
    ·refine Qai h (fun o4 ho hk=>?_)
     refine Exists.intro (JP1 _ _ o4 .normal (Qq1 p0 x1)) (And.intro ?_ (join1 ?_))
     ·have h:=ho
      refine Qae h (fun hb h=>?_) (fun hb h=>?_)
      ·refine And.intro rfl ?_
       refine JP1.a h ?_
       exact Le.tz 3 0 rfl rfl rfl
      ·refine JP1.a h ?_
       exact Le.tz 3 0 rfl rfl rfl
     ·have h:=hk
      refine Qat (t:=Qb7) h ?_
      exact .refl _
    ·refine Qae h (fun hb h=>?_) (fun hb h=>?_)
     ·refine Qai h (fun o5 ho hk=>?_)
      refine Exists.intro (JP1 _ _ o5 .normal (Qq2 p0 x1)) (And.intro ?_ (join1 ?_))
      ·have h:=ho
       refine Qal [sV p0.Name] Qea h (fun x6 hy=>(Qg5 p0.Name x6 hy)) (fun x6 hy h=>?_)
       refine Qae h (fun hb h=>?_) (fun hb h=>?_)
       ·refine And.intro rfl ?_
        refine JP1.a h ?_
        exact Le.tz 3 0 rfl rfl rfl
       ·refine JP1.a h ?_
        exact Le.tz 3 0 rfl rfl rfl
      ·have h:=hk
       refine Qat (t:=Qb7) h ?_
       exact .refl _
     ·refine Qae h (fun hb h=>?_) (fun hb h=>?_)
      ·refine Qai h (fun o7 ho hk=>?_)
       refine Exists.intro (JP1 _ _ o7 .normal (Qq3 p0 x1)) (And.intro ?_ (join1 ?_))
       ·have h:=ho
        refine Qal [sV p0.Name] Qhr h (fun x8 hy=>(Ql0 p0.Name x8 hy)) (fun x8 hy h=>?_)
        refine Qae h (fun hb h=>?_) (fun hb h=>?_)
        ·refine And.intro rfl ?_
         refine JP1.a h ?_
         exact Le.tz 3 0 rfl rfl rfl
        ·refine JP1.a h ?_
         exact Le.tz 3 0 rfl rfl rfl
       ·have h:=hk
        refine Qat (t:=Qb7) h ?_
        exact .refl _
      ·refine Qae h (fun hb h=>?_) (fun hb h=>?_)
       ·refine Qai h (fun o9 ho hk=>?_)
        refine Exists.intro (JP1 _ _ o9 .normal (Qq4 p0 x1)) (And.intro ?_ (join1 ?_))
        ·have h:=ho
         refine Qal [sV p0.Name] Qhr h (fun x10 hy=>(Ql0 p0.Name x10 hy)) (fun x10 hy h=>?_)
         refine Qae h (fun hb h=>?_) (fun hb h=>?_)
         ·refine And.intro rfl ?_
          refine Qae h (fun hb h=>?_) (fun hb h=>?_)
          ·refine Qb4 (l:=p0.L) (c:=Qaa) (c' := Qbw) h Qam (fun _=>rfl) (by decide) (fun x11 hi h=>?_)
           refine Qal [.agg [iV x11.Kind,sV x11.Name,sV x11.Text,iV x11.N,.sl false (x11.L.map Qaa),.sl false (x11.Then.map Qaa),.sl false (x11.Else.map Qaa)]] Qb7 h (fun x12 hy=>(iQdz x11 x12 hy)) (fun x12 hy h=>?_)
           refine JP1.a h ?_
           exact Le.tz 3 0 rfl rfl rfl
          ·refine JP1.a h ?_
           exact Le.tz 3 0 rfl rfl rfl
         ·refine bF ?_
          refine JP1.a h ?_
          exact Le.tz 3 0 rfl rfl rfl
        ·have h:=hk
         refine Qat (t:=Qb7) h ?_
         exact .refl _
       ·refine Qae h (fun hb h=>?_) (fun hb h=>?_)
        ·refine Qai h (fun o13 ho hk=>?_)
         refine Exists.intro (JP1 _ _ o13 .normal (Qq5 p0 x1)) (And.intro ?_ (join1 ?_))
         ·have h:=ho
          refine Qal [sV p0.Name] Qea h (fun x14 hy=>(Qg5 p0.Name x14 hy)) (fun x14 hy h=>?_)
          refine Qae h (fun hb h=>?_) (fun hb h=>?_)
          ·refine And.intro rfl ?_
           refine Qae h (fun hb h=>?_) (fun hb h=>?_)
           ·refine Qds _ _ h (fun x15 hy=>((iQar p0.L x15 hy).fr [] [] rfl rfl rfl)) (fun x15 hy h=>?_)
            refine JP1.a h ?_
            exact Le.tz 3 0 rfl rfl rfl
           ·refine JP1.a h ?_
            exact Le.tz 3 0 rfl rfl rfl
          ·refine bF ?_
           refine JP1.a h ?_
           exact Le.tz 3 0 rfl rfl rfl
         ·have h:=hk
          refine Qat (t:=Qb7) h ?_
          exact .refl _
        ·refine Qat (t:=Qb7) h ?_
         exact .refl _
theorem Qvj:∀ (p0:Qab) (o:Bool),Qdz p0=some o→PCall Try.prog 66 [.agg [iV p0.Kind,sV p0.Name,sV p0.Text,iV p0.N,.sl false (p0.L.map Qaa),.sl false (p0.Then.map Qaa),.sl false (p0.Else.map Qaa)]] (Qb7 o):=fun p0=>Qci.2.2.2.2 p0
mutual
noncomputable def Qfm (p0:(List Qab)) (p1:Bool):Option (Bool) :=
 (Qeu p0 p1 0)>>=fun o1 =>
 match o1 with
 | .inl y2 =>
  some true
 | .inr y3 =>
  some false
 partial_fixpoint
noncomputable def Qeu (p0:(List Qab)) (p1:Bool) (v10:Int):Option (Unit⊕Unit) :=
 if(decide (v10<(p0.length:Int))) then
  idx p0 v10>>=fun x4 =>
  Qkv x4>>=fun x5 =>
  if(!x5) then
   some (.inr ())
  else
   ( if(x4.Kind==8) then
     if(!(v10==(wr ((p0.length:Int)-1)))) then
      idx p0 (wr (v10+1))>>=fun x7 =>
      if(x7.Kind==8) then
       some true
      else
       if(v10==(wr ((p0.length:Int)-1))) then
        if(!p1) then
         strings_HasSuffix x4.Text [123]>>=fun x8 =>
         some x8
        else
         some false
       else
        strings_HasSuffix x4.Text [123]>>=fun x9 =>
        some x9
     else
      if(v10==(wr ((p0.length:Int)-1))) then
       if(!p1) then
        strings_HasSuffix x4.Text [123]>>=fun x10 =>
        some x10
       else
        some false
      else
       strings_HasSuffix x4.Text [123]>>=fun x11 =>
       some x11
    else
     some false:Option (Bool))>>=fun o6 =>
   if o6 then
    some (.inr ())
   else
    Qeu p0 p1 (wr (v10+1))
 else
  some (.inl ())
 partial_fixpoint
noncomputable def Qkv (p0:Qab):Option (Bool) :=
 Qfl p0>>=fun x1 =>
 ( if(p0.Kind==8) then
   ( if((x1.name_==false)&&((x1.text_==true)&&((x1.num_==false)&&((x1.then_==false)&&((x1.other_==false)&&((x1.l_==0)&&true)))))) then
     strings_Contains p0.Text [123,123]>>=fun x6 =>
     some (!x6)
    else
     some false:Option (Bool))>>=fun o5 =>
   some (.inr o5)
  else
   if(p0.Kind==9) then
    some (.inl (false,false,false))
   else
    if(p0.Kind==10) then
     some (.inl (false,x1.then_,x1.other_))
    else
     ( if(p0.Kind==11) then
       some (p0.Kind==11)
      else
       some (p0.Kind==12):Option (Bool))>>=fun o7 =>
     if o7 then
      Qfx p0.Name>>=fun x8 =>
      some (.inl (x8,x1.then_,false))
     else
      if(p0.Kind==13) then
       Qfx p0.Name>>=fun x9 =>
       some (.inl (x9,false,false))
      else
       some (.inr false):Option ((Bool×Bool×Bool)⊕Bool))>>=fun o2 =>
 match o2 with
 | .inl y3 =>
  ( if(p0.Kind==11) then
    some true
   else
    if(p0.Kind==12) then
     some true
    else
     some (p0.Kind==13):Option (Bool))>>=fun o10 =>
  ( if(y3.1==o10) then
    if((x1.name_==y3.1)&&((x1.text_==false)&&((x1.num_==false)&&((x1.then_==y3.2.1)&&((x1.other_==y3.2.2)&&((x1.l_==1)&&true)))))) then
     idx p0.L 0>>=fun x12 =>
     Qdz x12>>=fun x13 =>
     if x13 then
      Qfm p0.Then false>>=fun x14 =>
      if x14 then
       Qfm p0.Else false>>=fun x15 =>
       some x15
      else
       some false
     else
      some false
    else
     some false
   else
    some false:Option (Bool))>>=fun o11 =>
  some o11
 | .inr y4 =>
  some y4
 partial_fixpoint
end
theorem Qrk:(∀ (p0:(List Qab)) (p1:Bool) (o:Bool),Qfm p0 p1=some o→PCall Try.prog 38 [.sl false (p0.map Qaa),bV p1] (Qeb o))∧(∀ (p0:(List Qab)) (p1:Bool) (v10:Int) (o1:Unit⊕Unit),Qeu p0 p1 v10=some o1→TL (0,0) Try.prog 52 Qp0 (JP2 (0,0) 52 o1 (.exit 0) (Qj4 p0 p1) .ret (Qj5 p0 p1)) (Qhe p0 p1 v10))∧(∀ (p0:Qab) (o:Bool),Qkv p0=some o→PCall Try.prog 54 [.agg [iV p0.Kind,sV p0.Name,sV p0.Text,iV p0.N,.sl false (p0.L.map Qaa),.sl false (p0.Then.map Qaa),.sl false (p0.Else.map Qaa)]] (Qjj o)):=by
 refine Qfm.mutual_partial_correctness _ _ _ ?_ ?_ ?_
 ·intro Qeu' iQeu p0 p1 o h
  refine PCall.ofB mixed tbOk Qmm Try.func38 rfl (by kernel_rfl) (Nat.le_of_ble_eq_true rfl) ?_
  refine view (lenMap _ _) rfl ?_
  refine Qai h (fun o1 ho hk=>?_)
  refine Exists.intro (JP2 _ _ o1 (.exit 0) (Qj4 p0 p1) .ret (Qj5 p0 p1)) (And.intro (T_le (τ := Qhe p0 p1 0) ?_ (TL.loop (iQeu p0 p1 0 o1 ho))) (join2 (fun y2 hy=>?_) (fun y3 hy=>?_)))
  ·exact Le.tz 0 0 rfl rfl rfl
  ·have h:=(by rw[hy] at hk; exact hk)
   refine Qat (t:=Qeb) h ?_
   exact .refl _
  ·have h:=(by rw[hy] at hk; exact hk)
   refine Qat (t:=Qeb) h ?_
   exact .refl _
 ·intro Qeu' Qkv' iQeu iQkv p0 p1 v10 o1 h
  refine TL.round (Qaj mixed tbOk (lv:=Qmm) _ _ _ ?_)
  refine Qae h (fun hb h=>?_) (fun hb h=>?_)
  ·refine Qb4 (l:=p0) (c:=Qaa) (c' := Qbw) h Qam (fun _=>rfl) (by decide) (fun x4 hi h=>?_)
   refine Qal [.agg [iV x4.Kind,sV x4.Name,sV x4.Text,iV x4.N,.sl false (x4.L.map Qaa),.sl false (x4.Then.map Qaa),.sl false (x4.Else.map Qaa)]] Qjj h (fun x5 hy=>(iQkv x4 x5 hy)) (fun x5 hy h=>?_)
   refine Qae h (fun hb h=>?_) (fun hb h=>?_)
   ·exact JP2.b h (Le.tz 0 0 rfl rfl rfl)
   ·refine view (lenMap _ _) rfl ?_
    refine Qai h (fun o6 ho hk=>?_)
    refine Exists.intro (JP1 _ _ o6 .normal (Qpz p0 p1 v10 x4)) (And.intro ?_ (join1 ?_))
    ·have h:=ho
     refine Qae h (fun hb h=>?_) (fun hb h=>?_)
     ·refine Qae h (fun hb h=>?_) (fun hb h=>?_)
      ·refine Qb4 (l:=p0) (c:=Qaa) (c' := Qbw) h Qam (fun _=>rfl) (by decide) (fun x7 hi h=>?_)
       refine Qae h (fun hb h=>?_) (fun hb h=>?_)
       ·refine JP1.a h ?_
        exact Le.tz 1 0 rfl rfl rfl
       ·refine Qae h (fun hb h=>?_) (fun hb h=>?_)
        ·refine Qae h (fun hb h=>?_) (fun hb h=>?_)
         ·refine Qal [sV x4.Text,sV [123]] Qb6 h (fun x8 hy=>(Qdi x4.Text [123] x8 hy)) (fun x8 hy h=>?_)
          refine JP1.a h ?_
          exact Le.tz 1 0 rfl rfl rfl
         ·refine JP1.a h ?_
          exact Le.tz 1 0 rfl rfl rfl
        ·refine bT ?_
         refine Qal [sV x4.Text,sV [123]] Qb6 h (fun x9 hy=>(Qdi x4.Text [123] x9 hy)) (fun x9 hy h=>?_)
         refine JP1.a h ?_
         exact Le.tz 1 0 rfl rfl rfl
      ·refine bF ?_
       refine Qae h (fun hb h=>?_) (fun hb h=>?_)
       ·refine Qae h (fun hb h=>?_) (fun hb h=>?_)
        ·refine Qal [sV x4.Text,sV [123]] Qb6 h (fun x10 hy=>(Qdi x4.Text [123] x10 hy)) (fun x10 hy h=>?_)
         refine JP1.a h ?_
         exact Le.tz 1 0 rfl rfl rfl
        ·refine JP1.a h ?_
         exact Le.tz 1 0 rfl rfl rfl
       ·refine bT ?_
        refine Qal [sV x4.Text,sV [123]] Qb6 h (fun x11 hy=>(Qdi x4.Text [123] x11 hy)) (fun x11 hy h=>?_)
        refine JP1.a h ?_
        exact Le.tz 1 0 rfl rfl rfl
     ·refine JP1.a h ?_
      exact Le.tz 1 0 rfl rfl rfl
    ·have h:=hk
     refine Qae h (fun hb h=>?_) (fun hb h=>?_)
     ·exact JP2.b h (Le.tz 0 0 rfl rfl rfl)
     ·refine TL.le (τ := Qhe p0 p1 (wr (v10+1))) ?_ ((iQeu p0 p1 (wr (v10+1)) _ h))
      exact Le.tz 0 0 rfl rfl rfl
  ·exact JP2.a h (Le.tz 0 0 rfl rfl rfl)
 ·intro Qfm' iQfm p0 o h
  refine PCall.ofB mixed tbOk Qu9 Try.func54 rfl (by kernel_rfl) (Nat.le_of_ble_eq_true rfl) ?_
  refine Qal [.agg [iV p0.Kind,sV p0.Name,sV p0.Text,iV p0.N,.sl false (p0.L.map Qaa),.sl false (p0.Then.map Qaa),.sl false (p0.Else.map Qaa)]] Qgv h (fun x1 hy=>(Qku p0 x1 hy)) (fun x1 hy h=>?_)
  refine Qai h (fun o2 ho hk=>?_)
  refine Exists.intro (JP2 _ _ o2 .normal (Qq7 p0 x1) .ret (Qq8 p0 x1)) (And.intro ?_ (join2 (fun y3 hy=>?_) (fun y4 hy=>?_)))
  ·have h:=ho
   refine Qae h (fun hb h=>?_) (fun hb h=>?_)
   ·refine Qai h (fun o5 ho hk=>?_)
    refine Exists.intro (JP1 _ _ o5 .normal (Qq9 p0 x1)) (And.intro ?_ (join1 ?_))
    ·have h:=ho
     refine And.intro rfl ?_
     refine Qae h (fun hb h=>?_) (fun hb h=>?_)
     ·refine Qal [sV p0.Text,sV [123,123]] Qfs h (fun x6 hy=>(Qlz p0.Text [123,123] x6 hy)) (fun x6 hy h=>?_)
      refine JP1.a h ?_
      exact Le.tz 3 0 rfl rfl rfl
     ·refine JP1.a h ?_
      exact Le.tz 3 0 rfl rfl rfl
    ·have h:=hk
     refine JP2.b h ?_
     exact Le.tz 3 0 rfl rfl rfl
   ·refine Qae h (fun hb h=>?_) (fun hb h=>?_)
    ·refine JP2.a h ?_
     exact Le.tz 3 0 rfl rfl rfl
    ·refine Qae h (fun hb h=>?_) (fun hb h=>?_)
     ·refine And.intro (by decide +kernel) (And.intro rfl ?_)
      refine JP2.a h ?_
      exact Le.tz 3 0 rfl rfl rfl
     ·refine Qai h (fun o7 ho hk=>?_)
      refine Exists.intro (JP1 _ _ o7 .normal (Qra p0 x1)) (And.intro ?_ (join1 ?_))
      ·have h:=ho
       refine Qae h (fun hb h=>?_) (fun hb h=>?_)
       ·refine JP1.a h ?_
        exact Le.tz 3 0 rfl rfl rfl
       ·refine JP1.a h ?_
        exact Le.tz 3 0 rfl rfl rfl
      ·have h:=hk
       refine Qae h (fun hb h=>?_) (fun hb h=>?_)
       ·refine And.intro (by decide +kernel) (And.intro rfl ?_)
        refine Qov [sV p0.Name] Qea h (fun x8 hy=>(Qg5 p0.Name x8 hy)) (fun x8 hy h=>?_)
        refine JP2.a h ?_
        exact Le.tz 3 0 rfl rfl rfl
       ·refine Qae h (fun hb h=>?_) (fun hb h=>?_)
        ·refine Qal [sV p0.Name] Qea h (fun x9 hy=>(Qg5 p0.Name x9 hy)) (fun x9 hy h=>?_)
         refine JP2.a h ?_
         exact Le.tz 3 0 rfl rfl rfl
        ·refine JP2.b h ?_
         exact Le.tz 3 0 rfl rfl rfl
  ·have h:=(by rw[hy] at hk; exact hk)
   refine Qai h (fun o10 ho hk=>?_)
   refine Exists.intro (JP1 _ _ o10 .normal (Qrb p0 x1 y3)) (And.intro ?_ (join1 ?_))
   ·have h:=ho
    refine Qae h (fun hb h=>?_) (fun hb h=>?_)
    ·refine bT ?_
     refine JP1.a h ?_
     exact Le.tz 3 0 rfl rfl rfl
    ·refine Qae h (fun hb h=>?_) (fun hb h=>?_)
     ·refine JP1.a h ?_
      exact Le.tz 3 0 rfl rfl rfl
     ·refine JP1.a h ?_
      exact Le.tz 3 0 rfl rfl rfl
   ·have h:=hk
    refine Qai h (fun o11 ho hk=>?_)
    refine Exists.intro (JP1 _ _ o11 .normal (Qrc p0 x1 y3)) (And.intro ?_ (join1 ?_))
    ·have h:=ho
     refine Qae h (fun hb h=>?_) (fun hb h=>?_)
     ·refine And.intro rfl ?_
      refine Qae h (fun hb h=>?_) (fun hb h=>?_)
      ·refine Qb4 (l:=p0.L) (c:=Qaa) (c' := Qbw) h Qam (fun _=>rfl) (by decide) (fun x12 hi h=>?_)
       refine Qal [.agg [iV x12.Kind,sV x12.Name,sV x12.Text,iV x12.N,.sl false (x12.L.map Qaa),.sl false (x12.Then.map Qaa),.sl false (x12.Else.map Qaa)]] Qb7 h (fun x13 hy=>(Qvj x12 x13 hy)) (fun x13 hy h=>?_)
       refine Qae h (fun hb h=>?_) (fun hb h=>?_)
       ·refine Qal [.sl false (p0.Then.map Qaa),bV false] Qeb h (fun x14 hy=>(iQfm p0.Then false x14 hy)) (fun x14 hy h=>?_)
        refine Qae h (fun hb h=>?_) (fun hb h=>?_)
        ·refine Qal [.sl false (p0.Else.map Qaa),bV false] Qeb h (fun x15 hy=>(iQfm p0.Else false x15 hy)) (fun x15 hy h=>?_)
         refine JP1.a h ?_
         exact Le.tz 3 0 rfl rfl rfl
        ·refine JP1.a h ?_
         exact Le.tz 3 0 rfl rfl rfl
       ·refine bF ?_
        refine JP1.a h ?_
        exact Le.tz 3 0 rfl rfl rfl
      ·refine bF ?_
       refine bF ?_
       refine JP1.a h ?_
       exact Le.tz 3 0 rfl rfl rfl
     ·refine bF ?_
      refine bF ?_
      refine bF ?_
      refine JP1.a h ?_
      exact Le.tz 3 0 rfl rfl rfl
    ·have h:=hk
     refine Qat (t:=Qjj) h ?_
     exact .refl _
  ·have h:=(by rw[hy] at hk; exact hk)
   refine Qat (t:=Qjj) h ?_
   exact .refl _
theorem Qtt:∀ (p0:(List Qab)) (p1:Bool) (o:Bool),Qfm p0 p1=some o→PCall Try.prog 38 [.sl false (p0.map Qaa),bV p1] (Qeb o):=fun p0 p1=>Qrk.1 p0 p1
noncomputable def Qqf (p0:(List Qab)):Option (Bool) :=
 ( Qkt p0>>=fun x2 =>
  if(decide (x2≤12)) then
   Qi2 p0>>=fun x3 =>
   if(decide (x3≤1024)) then
    Qfm p0 true>>=fun x4 =>
    some x4
   else
    some false
  else
   some false:Option (Bool))>>=fun o1 =>
 some o1
theorem Qyy:∀ (p0:(List Qab)) (o:Bool),Qqf p0=some o→PCall Try.prog 23 [.sl false (p0.map Qaa)] (Qpw o):=by
 intro p0 o h
 unfold Qqf at h
 refine PCall.ofB mixed tbOk Qyv Try.func23 rfl (by kernel_rfl) (Nat.le_of_ble_eq_true rfl) ?_
 refine Qai h (fun o1 ho hk=>?_)
 refine Exists.intro (JP1 _ _ o1 .normal (Qu6 )) (And.intro ?_ (join1 ?_))
 ·have h:=ho
  refine Qal [.sl false (p0.map Qaa)] Qlw h (fun x2 hy=>(Qve p0 x2 hy)) (fun x2 hy h=>?_)
  refine Qae h (fun hb h=>?_) (fun hb h=>?_)
  ·refine Qal [.sl false (p0.map Qaa)] Qkp h (fun x3 hy=>(Qtp p0 x3 hy)) (fun x3 hy h=>?_)
   refine Qae h (fun hb h=>?_) (fun hb h=>?_)
   ·refine Qal [.sl false (p0.map Qaa),bV true] Qeb h (fun x4 hy=>(Qtt p0 true x4 hy)) (fun x4 hy h=>?_)
    refine JP1.a h ?_
    exact Le.tz 0 0 rfl rfl rfl
   ·refine JP1.a h ?_
    exact Le.tz 0 0 rfl rfl rfl
  ·refine bF ?_
   refine JP1.a h ?_
   exact Le.tz 0 0 rfl rfl rfl
 ·have h:=hk
  refine Qat (t:=Qpw) h ?_
  exact .refl _
noncomputable def Qck (p0:(List Qac)) (v22:Int):Option (Unit⊕((List UInt8)×Int)) :=
 if(decide (v22<(p0.length:Int))) then
  idx p0 v22>>=fun x4 =>
  ( Qfx x4.Name>>=fun x6 =>
   if(!x6) then
    some true
   else
    Qqf x4.L>>=fun x7 =>
    some (!x7):Option (Bool))>>=fun o5 =>
  if o5 then
   some (.inr (x4.Name,7))
  else
   cutL p0 0 v22>>=fun x8 =>
   Qgm x8 x4.Name>>=fun x9 =>
   if x9.2 then
    some (.inr (x4.Name,9))
   else
    Qck p0 (wr (v22+1))
 else
  some (.inl ())
 partial_fixpoint
end Go.Proofs.Ytfgegilhjlnohaa
end
