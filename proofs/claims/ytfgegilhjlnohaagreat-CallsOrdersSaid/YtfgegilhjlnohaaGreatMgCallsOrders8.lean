/- The proof's texts, part 8 of 11: the walks by a logic in which data are by value, the plain laws, and at the end the law, for every input. -/
import Derived.Test.YtfgegilhjlnohaaGreatMgCallsOrders7

section
set_option linter.unusedVariables false
set_option linter.unusedSimpArgs false
set_option maxRecDepth 100000
set_option maxHeartbeats 4000000
namespace Go.Proofs.YtfgegilhjlnohaaGreat
open Go.RowKit
structure Qab where
 Kind:Int
 Name:(List UInt8)
 Text:(List UInt8)
 N:Int
 L:(List Qab)
 Then:(List Qab)
 Else:(List Qab)
mutual
noncomputable def Qaa:Qab→List V
 | ⟨x0,x1,x2,x3,x4,x5,x6⟩=>[iV x0,sV x1,sV x2,iV x3,.sl false (Qhr x4),.sl false (Qhr x5),.sl false (Qhr x6)]
noncomputable def Qhr:List Qab→List (List V)
 | []=>[]
 | x::r=>Qaa x::Qhr r
end
theorem Qn2:∀ l:List Qab,Qhr l=l.map Qaa
 | []=>rfl
 | x::r=>by rw[Qhr,Qn2 r]; rfl
noncomputable def Qa7 (x:Qab):List V:=[iV x.Kind,sV x.Name,sV x.Text,iV x.N,.sl false (x.L.map Qaa),.sl false (x.Then.map Qaa),.sl false (x.Else.map Qaa)]
theorem Qam (x:Qab):Qaa x=Qa7 x:=by cases x; simp[Qaa,Qa7,Qn2]
structure Qac where
 Name:(List UInt8)
 L:(List Qab)
noncomputable def Qaf (x:Qac):List V:=[sV x.Name,.sl false (x.L.map Qaa)]
structure Qcn where
 name_:Bool
 text_:Bool
 num_:Bool
 then_:Bool
 other_:Bool
 l_:Int
noncomputable def Qn3 (y:Bool):D :=.p (bV y)
noncomputable def Qy8:List (Nat×List Nat):=[(0,[0,1,2]),(1,[6]),(3000001,[])]
noncomputable def Qur  (o1:Bool):St:=⟨[(6,.p (bV o1))],⟨[],[]⟩⟩
noncomputable def Qgi (y:Bool):D :=.p (bV y)
noncomputable def Qus:List (Nat×List Nat):=[(0,[0,1]),(1,[0,1,10]),(2,[4]),(3,[0,1,5]),(4,[0,1,5,14]),(5,[0,1,5]),(6,[0,1,5,25]),(7,[4]),(8,[4]),(1000004,[0,1,5])]
noncomputable def Qid (p0:(List (List UInt8))) (p1:(List (List UInt8))) (v5:Int):St:=⟨[(0,.p (.sl false (p0.map cStr))),(1,.p (.sl false (p1.map cStr))),(5,.p (iV v5))],⟨[],[]⟩⟩
noncomputable def Qle (p0:(List (List UInt8))) (p1:(List (List UInt8))) (y2:Unit):St:=⟨[],⟨[],[]⟩⟩
noncomputable def Qlf (p0:(List (List UInt8))) (p1:(List (List UInt8))) (y3:Unit):St:=⟨[(4,.p (bV false))],⟨[],[]⟩⟩
noncomputable def Qqs:Code:=((loopsOf (Tryz.f17.body.getD .skip)).getD 0 .skip)
noncomputable def Qhs (y:(List UInt8)):D :=.p (sV y)
noncomputable def Q1y:List (Nat×List Nat):=[(0,[0]),(1,[0,5]),(2,[0]),(3,[0,7]),(4,[2]),(5,[0,13]),(6,[2]),(7,[0,25]),(8,[2]),(9,[2]),(2001005,[])]
noncomputable def Qwf  (o1:Int):St:=⟨[(0,.p (iV o1))],⟨[],[]⟩⟩
noncomputable def Qt0 (y:Bool):D :=.p (bV y)
noncomputable def Q1z:List (Nat×List Nat):=[(0,[0]),(1,[0,3]),(2,[0,3,9]),(3,[0,3,4,5]),(4,[0,3,5,21]),(5,[2]),(6,[0,3]),(7,[2]),(1000002,[0,3]),(3000004,[])]
noncomputable def Q33 (p0:(List UInt8)) (v3:Int) (x4:Int×Int) (o5:Bool):St:=⟨[(0,.p (sV p0)),(3,.p (iV v3)),(5,.p (iV x4.2)),(21,.p (bV o5))],⟨[],[]⟩⟩
noncomputable def Qk2 (p0:(List UInt8)) (v3:Int):St:=⟨[(0,.p (sV p0)),(3,.p (iV v3))],⟨[],[]⟩⟩
noncomputable def Qn4 (p0:(List UInt8)) (y2:Unit):St:=⟨[],⟨[],[]⟩⟩
noncomputable def Qn5 (p0:(List UInt8)) (y3:Unit):St:=⟨[(2,.p (bV false))],⟨[],[]⟩⟩
noncomputable def Qut:Code:=((loopsOf (Tryz.f179.body.getD .skip)).getD 0 .skip)
noncomputable def Ql4 (y:Int×Int):D :=.tup [.p (iV y.1),.p (iV y.2)]
noncomputable def Qp5:List (Nat×List Nat):=[(0,[0,1]),(1,[0,1,17]),(2,[4,5]),(3,[0,1,6]),(4,[0,1,6,7]),(5,[0,1,6,7,28]),(6,[0,1,6,7]),(7,[0,1,6,7,8]),(8,[0,1,6,7,8,9]),(9,[0,1,6,7,8,9,42]),(10,[0,1,6,7,8,9]),(11,[0,1,6,7,8,9]),(12,[0,1,6,7,8,71]),(13,[4,5]),(14,[4,5]),(1000005,[0,1,6,7]),(1000009,[0,1,6,7,8,9]),(3000001,[]),(3000005,[]),(3000012,[])]
noncomputable def Qy9 (p0:(List UInt8)) (p1:Int) (o1:Bool):St:=⟨[(0,.p (sV p0)),(1,.p (iV p1)),(17,.p (bV o1))],⟨[],[]⟩⟩
noncomputable def Qza (p0:(List UInt8)) (p1:Int) (v6:(List Int)) (v7:Int) (o5:Bool):St:=⟨[(0,.p (sV p0)),(1,.p (iV p1)),(6,.p (.sl true (v6.map cInt))),(7,.p (iV v7)),(28,.p (bV o5))],⟨[],[]⟩⟩
noncomputable def Qie (p0:(List UInt8)) (p1:Int) (v6:(List Int)) (v7:Int) (v8:Int) (v9:Int):St:=⟨[(0,.p (sV p0)),(1,.p (iV p1)),(6,.p (.sl true (v6.map cInt))),(7,.p (iV v7)),(8,.p (iV v8)),(9,.p (iV v9))],⟨[],[]⟩⟩
noncomputable def Qlg (p0:(List UInt8)) (p1:Int) (v6:(List Int)) (v7:Int) (o8:Int):St:=⟨[(0,.p (sV p0)),(1,.p (iV p1)),(6,.p (.sl true (v6.map cInt))),(7,.p (iV v7)),(8,.p (iV o8))],⟨[],[]⟩⟩
noncomputable def Qqt:Code:=((loopsOf (Tryz.f171.body.getD .skip)).getD 1 .skip)
noncomputable def Qzb (p0:(List UInt8)) (p1:Int) (v6:(List Int)) (v7:Int) (o8:Int) (o10:Bool):St:=⟨[(0,.p (sV p0)),(1,.p (iV p1)),(6,.p (.sl true (v6.map cInt))),(7,.p (iV v7)),(8,.p (iV o8)),(71,.p (bV o10))],⟨[],[]⟩⟩
noncomputable def Qif (p0:(List UInt8)) (p1:Int) (v6:(List Int)) (v7:Int):St:=⟨[(0,.p (sV p0)),(1,.p (iV p1)),(6,.p (.sl true (v6.map cInt))),(7,.p (iV v7))],⟨[],[]⟩⟩
noncomputable def Qlh (p0:(List UInt8)) (p1:Int) (y3:Unit):St:=⟨[],⟨[],[]⟩⟩
noncomputable def Qli (p0:(List UInt8)) (p1:Int) (y4:Int×Int):St:=⟨[(4,.p (iV y4.1)),(5,.p (iV y4.2))],⟨[],[]⟩⟩
noncomputable def Qqu:Code:=((loopsOf (Tryz.f171.body.getD .skip)).getD 0 .skip)
noncomputable def Qo8 (y:Bool):D :=.p (bV y)
noncomputable def Q34:List (Nat×List Nat):=[(0,[0]),(1,[2]),(3000001,[])]
noncomputable def Qzc  (o1:Bool):St:=⟨[(2,.p (bV o1))],⟨[],[]⟩⟩
noncomputable def Qj6 (y:(List UInt8)×Bool):D :=.tup [.p (sV y.1),.p (bV y.2)]
noncomputable def Qsq:List (Nat×List Nat):=[(0,[0]),(1,[0,9]),(2,[2,3]),(3,[0,4]),(4,[0,4,5]),(5,[0,4,5,13]),(6,[0,4,5]),(7,[0,4,5,6]),(8,[0,4,5,6,22]),(9,[2,3]),(10,[0,4,5,6,24]),(11,[0,4,5,6]),(12,[0,4,5,6,26]),(13,[0,4,5,6]),(14,[0,4,5,6,32]),(15,[0,4,5,6]),(16,[0,4,5]),(17,[2,3]),(1000005,[0,4,5]),(2010013,[]),(3000014,[])]
noncomputable def Qwg (p0:(List UInt8)) (v4:(List UInt8)) (v5:Int) (o6:(List UInt8)):St:=⟨[(0,.p (sV p0)),(4,.p (sV v4)),(5,.p (iV v5)),(6,.p (sV o6))],⟨[],[]⟩⟩
noncomputable def Qwh (p0:(List UInt8)) (v4:(List UInt8)) (v5:Int) (x5:(List UInt8)) (o7:Bool):St:=⟨[(0,.p (sV p0)),(4,.p (sV v4)),(5,.p (iV v5)),(6,.p (sV x5)),(32,.p (bV o7))],⟨[],[]⟩⟩
noncomputable def Qgu (p0:(List UInt8)) (v4:(List UInt8)) (v5:Int):St:=⟨[(0,.p (sV p0)),(4,.p (sV v4)),(5,.p (iV v5))],⟨[],[]⟩⟩
noncomputable def Qj7 (p0:(List UInt8)) (y3:(List UInt8)):St:=⟨[(4,.p (sV y3))],⟨[],[]⟩⟩
noncomputable def Qj8 (p0:(List UInt8)) (y4:Unit):St:=⟨[(2,.p (sV [])),(3,.p (bV false))],⟨[],[]⟩⟩
noncomputable def Qpk:Code:=((loopsOf (Tryz.f170.body.getD .skip)).getD 0 .skip)
noncomputable def Qht (y:Bool):D :=.p (bV y)
noncomputable def Quu:List (Nat×List Nat):=[(0,[0]),(1,[0,17]),(2,[2]),(3,[0,3]),(4,[0,3,21]),(5,[0,3]),(6,[0,3,41]),(7,[2]),(8,[2]),(1000004,[0,3]),(3000001,[]),(3000006,[])]
noncomputable def Qzd (p0:(List UInt8)) (o1:Bool):St:=⟨[(0,.p (sV p0)),(17,.p (bV o1))],⟨[],[]⟩⟩
noncomputable def Qze (p0:(List UInt8)) (v3:Int) (o7:Bool):St:=⟨[(0,.p (sV p0)),(3,.p (iV v3)),(41,.p (bV o7))],⟨[],[]⟩⟩
noncomputable def Qig (p0:(List UInt8)) (v3:Int):St:=⟨[(0,.p (sV p0)),(3,.p (iV v3))],⟨[],[]⟩⟩
noncomputable def Qlj (p0:(List UInt8)) (y5:Unit):St:=⟨[],⟨[],[]⟩⟩
noncomputable def Qlk (p0:(List UInt8)) (y6:Unit):St:=⟨[(2,.p (bV false))],⟨[],[]⟩⟩
noncomputable def Qqv:Code:=((loopsOf (Tryz.f77.body.getD .skip)).getD 0 .skip)
noncomputable def Qp6 (y:Bool):D :=.p (bV y)
noncomputable def Q10:List (Nat×List Nat):=[(0,[0]),(1,[2]),(3000001,[])]
noncomputable def Qwi  (o1:Bool):St:=⟨[(2,.p (bV o1))],⟨[],[]⟩⟩
noncomputable def Qmp (y:Bool):D :=.p (bV y)
noncomputable def Q11:List (Nat×List Nat):=[(0,[0]),(1,[2]),(3000001,[])]
noncomputable def Qwj  (o1:Bool):St:=⟨[(2,.p (bV o1))],⟨[],[]⟩⟩
noncomputable def Qf7 (y:Int):D :=.p (iV y)
noncomputable def Qsr:List (Nat×List Nat):=[(0,[0]),(1,[0,3]),(2,[0,3,4]),(3,[0,3,4,8]),(4,[0,3,4]),(5,[0,3,4]),(6,[2]),(1000003,[0,3,4])]
noncomputable def Qj9 (p0:(List Qab)) (v3:Int) (v4:Int):St:=⟨[(0,.p (.sl false (p0.map Qaa))),(3,.p (iV v3)),(4,.p (iV v4))],⟨[],[]⟩⟩
noncomputable def Qn6 (p0:(List Qab)) (o1:Int):St:=⟨[(3,.p (iV o1))],⟨[],[]⟩⟩
noncomputable def Qwk:Code:=((loopsOf (Tryz.f80.body.getD .skip)).getD 0 .skip)
noncomputable def Qhu (y:Int):D :=.p (iV y)
noncomputable def Quv:List (Nat×List Nat):=[(0,[0]),(1,[0,3]),(2,[0,3,4]),(3,[0,3,4,8]),(4,[0,3,4]),(5,[0,3,4]),(6,[2]),(1000003,[0,3,4])]
noncomputable def Qll (p0:(List Qab)) (v3:Int) (v4:Int):St:=⟨[(0,.p (.sl false (p0.map Qaa))),(3,.p (iV v3)),(4,.p (iV v4))],⟨[],[]⟩⟩
noncomputable def Qpl (p0:(List Qab)) (o1:Int):St:=⟨[(3,.p (iV o1))],⟨[],[]⟩⟩
noncomputable def Qzf:Code:=((loopsOf (Tryz.f79.body.getD .skip)).getD 0 .skip)
noncomputable def Qzg (y:Bool):D :=.p (bV y)
noncomputable def Q7n:List (Nat×List Nat):=[(0,[0]),(1,[2]),(3000001,[])]
noncomputable def Q35  (o1:Bool):St:=⟨[(2,.p (bV o1))],⟨[],[]⟩⟩
noncomputable def Qgj (y:Bool):D :=.p (bV y)
noncomputable def Quw:List (Nat×List Nat):=[(0,[0]),(1,[0,3]),(2,[0,3,4]),(3,[0,3,4,9]),(4,[0,3,4]),(5,[0,3,4,17]),(6,[2]),(7,[2]),(1000003,[0,3,4])]
noncomputable def Qih (p0:(List UInt8)) (x1:(List (List UInt8))) (v4:Int):St:=⟨[(0,.p (sV p0)),(3,.p (.sl false (x1.map cStr))),(4,.p (iV v4))],⟨[],[]⟩⟩
noncomputable def Qlm (p0:(List UInt8)) (x1:(List (List UInt8))) (y3:Unit):St:=⟨[(0,.p (sV p0))],⟨[],[]⟩⟩
noncomputable def Qln (p0:(List UInt8)) (x1:(List (List UInt8))) (y4:Unit):St:=⟨[(2,.p (bV false))],⟨[],[]⟩⟩
noncomputable def Qqw:Code:=((loopsOf (Tryz.f43.body.getD .skip)).getD 0 .skip)
noncomputable def Qp7 (y:(List (List UInt8))):D :=.p (.sl false (y.map cStr))
noncomputable def Q12:List (Nat×List Nat):=[(0,[]),(1,[0])]
noncomputable def Qb9 (y:Bool):D :=.p (bV y)
noncomputable def Q36:List (Nat×List Nat):=[(0,[1,2,3,4,5,6]),(1,[12]),(3000001,[])]
noncomputable def Qzh (p0:Qab) (o1:Bool):St:=⟨[(12,.p (bV o1))],⟨[[.p (iV p0.Kind),.p (sV p0.Name),.p (sV p0.Text),.p (iV p0.N),.p (.sl false (p0.L.map Qaa)),.p (.sl false (p0.Then.map Qaa)),.p (.sl false (p0.Else.map Qaa))]],[]⟩⟩
noncomputable def Qe2 (y:Bool):D :=.p (bV y)
noncomputable def Qss:List (Nat×List Nat):=[(0,[0,1]),(1,[0,1,5]),(2,[0,1,5,11]),(3,[0,1,5]),(4,[0,1,5,19]),(5,[4]),(6,[0,1,5,25]),(7,[0,1,5,6]),(8,[0,1,5,6,7]),(9,[0,1,5,61]),(10,[4]),(11,[4]),(1000002,[0,1,5]),(3000009,[])]
noncomputable def Qwl (p0:(List Qab)) (p1:Bool) (v5:Int) (o8:Bool):St:=⟨[(0,.p (.sl false (p0.map Qaa))),(1,.p (bV p1)),(5,.p (iV v5)),(61,.p (bV o8))],⟨[],[]⟩⟩
noncomputable def Qgv (p0:(List Qab)) (p1:Bool) (v5:Int):St:=⟨[(0,.p (.sl false (p0.map Qaa))),(1,.p (bV p1)),(5,.p (iV v5))],⟨[],[]⟩⟩
noncomputable def Qn7 (p0:(List Qab)) (p1:Bool) (y2:Unit):St:=⟨[],⟨[],[]⟩⟩
noncomputable def Qn8 (p0:(List Qab)) (p1:Bool) (y3:Unit):St:=⟨[(4,.p (bV false))],⟨[],[]⟩⟩
noncomputable def Qwm:Code:=((loopsOf (Tryz.f78.body.getD .skip)).getD 0 .skip)
noncomputable def Qep (y:Bool):D :=.p (bV y)
noncomputable def Q37:List (Nat×List Nat):=[(0,[1]),(1,[1,6]),(2,[1,6,7]),(3,[1,4]),(4,[2]),(5,[1,6,20]),(6,[2]),(7,[1,6,24]),(8,[2]),(9,[1,6,38]),(10,[2]),(11,[1,6,47]),(12,[2]),(13,[1,6,67]),(14,[2]),(15,[1,87]),(16,[2]),(17,[2]),(3000004,[]),(3000008,[]),(3000010,[]),(3000012,[]),(3000014,[]),(3000016,[])]
noncomputable def Qzi (p0:Qab) (o2:Bool):St:=⟨[(2,.p (bV o2))],⟨[[.p (iV p0.Kind),.p (sV p0.Name),.p (sV p0.Text),.p (iV p0.N),.p (.sl false (p0.L.map Qaa)),.p (.sl false (p0.Then.map Qaa)),.p (.sl false (p0.Else.map Qaa))]],[]⟩⟩
noncomputable def Qzj (p0:Qab) (o5:Bool):St:=⟨[(2,.p (bV o5))],⟨[[.p (iV p0.Kind),.p (sV p0.Name),.p (sV p0.Text),.p (iV p0.N),.p (.sl false (p0.L.map Qaa)),.p (.sl false (p0.Then.map Qaa)),.p (.sl false (p0.Else.map Qaa))]],[]⟩⟩
noncomputable def Qzk (p0:Qab) (o8:Bool):St:=⟨[(2,.p (bV o8))],⟨[[.p (iV p0.Kind),.p (sV p0.Name),.p (sV p0.Text),.p (iV p0.N),.p (.sl false (p0.L.map Qaa)),.p (.sl false (p0.Then.map Qaa)),.p (.sl false (p0.Else.map Qaa))]],[]⟩⟩
noncomputable def Qzl (p0:Qab) (o11:Bool):St:=⟨[(2,.p (bV o11))],⟨[[.p (iV p0.Kind),.p (sV p0.Name),.p (sV p0.Text),.p (iV p0.N),.p (.sl false (p0.L.map Qaa)),.p (.sl false (p0.Then.map Qaa)),.p (.sl false (p0.Else.map Qaa))]],[]⟩⟩
noncomputable def Qzm (p0:Qab) (o15:Bool):St:=⟨[(2,.p (bV o15))],⟨[[.p (iV p0.Kind),.p (sV p0.Name),.p (sV p0.Text),.p (iV p0.N),.p (.sl false (p0.L.map Qaa)),.p (.sl false (p0.Then.map Qaa)),.p (.sl false (p0.Else.map Qaa))]],[]⟩⟩
noncomputable def Qzn (p0:Qab) (o19:Bool):St:=⟨[(2,.p (bV o19))],⟨[[.p (iV p0.Kind),.p (sV p0.Name),.p (sV p0.Text),.p (iV p0.N),.p (.sl false (p0.L.map Qaa)),.p (.sl false (p0.Then.map Qaa)),.p (.sl false (p0.Else.map Qaa))]],[]⟩⟩
noncomputable def Qf8 (y:Bool):D :=.p (bV y)
noncomputable def Qst:List (Nat×List Nat):=[(0,[0]),(1,[0,3]),(2,[0,3,7]),(3,[0,3]),(4,[0,3,15]),(5,[2]),(6,[2]),(1000002,[0,3])]
noncomputable def Qka (p0:(List Qab)) (v3:Int):St:=⟨[(0,.p (.sl false (p0.map Qaa))),(3,.p (iV v3))],⟨[],[]⟩⟩
noncomputable def Qn9 (p0:(List Qab)) (y2:Unit):St:=⟨[],⟨[],[]⟩⟩
noncomputable def Qoa (p0:(List Qab)) (y3:Unit):St:=⟨[(2,.p (bV false))],⟨[],[]⟩⟩
noncomputable def Qwn:Code:=((loopsOf (Tryz.f130.body.getD .skip)).getD 0 .skip)
noncomputable def Qk3 (y:Bool):D :=.p (bV y)
noncomputable def Qqx:List (Nat×List Nat):=[(0,[0,1]),(1,[0,1,5]),(2,[0,1,5,9]),(3,[0,1,5]),(4,[0,1,5,15]),(5,[4]),(6,[4]),(1000002,[0,1,5])]
noncomputable def Qf4 (p0:(List UInt8)) (p1:(List UInt8)) (v5:Int):St:=⟨[(0,.p (sV p0)),(1,.p (sV p1)),(5,.p (iV v5))],⟨[],[]⟩⟩
noncomputable def Qi1 (p0:(List UInt8)) (p1:(List UInt8)) (y2:Unit):St:=⟨[],⟨[],[]⟩⟩
noncomputable def Qi2 (p0:(List UInt8)) (p1:(List UInt8)) (y3:Unit):St:=⟨[(4,.p (bV true))],⟨[],[]⟩⟩
noncomputable def Qob:Code:=((loopsOf (Tryz.f131.body.getD .skip)).getD 0 .skip)
noncomputable def Qgk (y:Bool):D :=.p (bV y)
noncomputable def Q38:List (Nat×List Nat):=[(0,[1]),(1,[1,3]),(2,[1,3,14]),(3,[1,3,14,15]),(4,[2]),(5,[1,3,14,30]),(6,[2]),(7,[1,3,14,37]),(8,[2]),(9,[1,3,14,54]),(10,[1,3,14,54]),(11,[2]),(12,[1,3,72]),(13,[2]),(14,[2]),(2009005,[]),(3000001,[]),(3000004,[]),(3000006,[]),(3000008,[]),(3000011,[]),(3000013,[])]
noncomputable def Qzo (p0:Qab) (o1:Bool):St:=⟨[(1,.ptr 0 0),(3,.p (bV o1))],⟨[[.p (iV p0.Kind),.p (sV p0.Name),.p (sV p0.Text),.p (iV p0.N),.p (.sl false (p0.L.map Qaa)),.p (.sl false (p0.Then.map Qaa)),.p (.sl false (p0.Else.map Qaa))]],[]⟩⟩
noncomputable def Qzp (p0:Qab) (o3:Bool):St:=⟨[(2,.p (bV o3))],⟨[[.p (iV p0.Kind),.p (sV p0.Name),.p (sV p0.Text),.p (iV p0.N),.p (.sl false (p0.L.map Qaa)),.p (.sl false (p0.Then.map Qaa)),.p (.sl false (p0.Else.map Qaa))]],[]⟩⟩
noncomputable def Qzq (p0:Qab) (o6:Bool):St:=⟨[(2,.p (bV o6))],⟨[[.p (iV p0.Kind),.p (sV p0.Name),.p (sV p0.Text),.p (iV p0.N),.p (.sl false (p0.L.map Qaa)),.p (.sl false (p0.Then.map Qaa)),.p (.sl false (p0.Else.map Qaa))]],[]⟩⟩
noncomputable def Qzr (p0:Qab) (o8:Bool):St:=⟨[(2,.p (bV o8))],⟨[[.p (iV p0.Kind),.p (sV p0.Name),.p (sV p0.Text),.p (iV p0.N),.p (.sl false (p0.L.map Qaa)),.p (.sl false (p0.Then.map Qaa)),.p (.sl false (p0.Else.map Qaa))]],[]⟩⟩
noncomputable def Qzs (p0:Qab) (o1:Bool) (o12:Bool):St:=⟨[(1,.ptr 0 0),(3,.p (bV o1)),(14,.p (iV p0.Kind)),(54,.p (bV o12))],⟨[[.p (iV p0.Kind),.p (sV p0.Name),.p (sV p0.Text),.p (iV p0.N),.p (.sl false (p0.L.map Qaa)),.p (.sl false (p0.Then.map Qaa)),.p (.sl false (p0.Else.map Qaa))]],[]⟩⟩
noncomputable def Qzt (p0:Qab) (o13:Bool):St:=⟨[(2,.p (bV o13))],⟨[[.p (iV p0.Kind),.p (sV p0.Name),.p (sV p0.Text),.p (iV p0.N),.p (.sl false (p0.L.map Qaa)),.p (.sl false (p0.Then.map Qaa)),.p (.sl false (p0.Else.map Qaa))]],[]⟩⟩
noncomputable def Qzu (p0:Qab) (o17:Bool):St:=⟨[(2,.p (bV o17))],⟨[[.p (iV p0.Kind),.p (sV p0.Name),.p (sV p0.Text),.p (iV p0.N),.p (.sl false (p0.L.map Qaa)),.p (.sl false (p0.Then.map Qaa)),.p (.sl false (p0.Else.map Qaa))]],[]⟩⟩
noncomputable def Qef (y:(List UInt8)×Int):D :=.tup [.p (sV y.1),.p (iV y.2)]
noncomputable def Qir:List (Nat×List Nat):=[(0,[0]),(1,[0,15]),(2,[2,3]),(3,[0,4]),(4,[0,4,19]),(5,[0,4]),(6,[0,4,37]),(7,[2,3]),(8,[0,4,6]),(9,[0,4,55]),(10,[2,3]),(11,[0,7]),(12,[0,7,64]),(13,[0,7]),(14,[0,7,8]),(15,[0,7,8,9]),(16,[0,7,8,9,76]),(17,[0,7,8,9]),(18,[0,7,8,9,11]),(19,[0,7,8,9,89]),(20,[2,3]),(21,[0,12]),(22,[0,12,98]),(23,[0,12]),(24,[0,12,113]),(25,[2,3]),(26,[2,3]),(1000004,[0,4]),(1000012,[0,7]),(1000016,[0,7,8,9]),(1000022,[0,12]),(3000006,[]),(5000024,[1006])]
noncomputable def Qwo (p0:(List Qac)) (v4:Int) (o4:Bool):St:=⟨[(0,.p (.sl false (p0.map Qaf))),(4,.p (iV v4)),(37,.p (bV o4))],⟨[],[]⟩⟩
noncomputable def Qgw (p0:(List Qac)) (v4:Int):St:=⟨[(0,.p (.sl false (p0.map Qaf))),(4,.p (iV v4))],⟨[],[]⟩⟩
noncomputable def Qkb (p0:(List Qac)) (y2:Unit):St:=⟨[(0,.p (.sl false (p0.map Qaf)))],⟨[],[]⟩⟩
noncomputable def Qkc (p0:(List Qac)) (y3:(List UInt8)×Int):St:=⟨[(2,.p (sV y3.1)),(3,.p (iV y3.2))],⟨[],[]⟩⟩
noncomputable def Qpm:Code:=((loopsOf (Tryz.f14.body.getD .skip)).getD 0 .skip)
noncomputable def Qgx (p0:(List Qac)) (v7:Int) (x18:(List (List UInt8))) (v9:Int):St:=⟨[(0,.p (.sl false (p0.map Qaf))),(7,.p (iV v7)),(8,.own 0 9 1 (x18.map cStr)),(9,.p (iV v9))],⟨[],[(x18.map cStr).length]⟩⟩
noncomputable def Qkd (p0:(List Qac)) (v7:Int) (x18:(List (List UInt8))) (y20:Unit):St:=⟨[(0,.p (.sl false (p0.map Qaf))),(7,.p (iV v7))],⟨[],[(x18.map cStr).length]⟩⟩
noncomputable def Qke (p0:(List Qac)) (v7:Int) (x18:(List (List UInt8))) (y21:(List UInt8)):St:=⟨[(2,.p (sV y21)),(3,.p (iV 4))],⟨[],[(x18.map cStr).length]⟩⟩
noncomputable def Qpn:Code:=((loopsOf (Tryz.f14.body.getD .skip)).getD 2 .skip)
noncomputable def Qgy (p0:(List Qac)) (v7:Int):St:=⟨[(0,.p (.sl false (p0.map Qaf))),(7,.p (iV v7))],⟨[],[]⟩⟩
noncomputable def Qkf (p0:(List Qac)) (y15:Unit):St:=⟨[(0,.p (.sl false (p0.map Qaf)))],⟨[],[]⟩⟩
noncomputable def Qkg (p0:(List Qac)) (y16:(List UInt8)):St:=⟨[(2,.p (sV y16)),(3,.p (iV 4))],⟨[],[]⟩⟩
noncomputable def Qpo:Code:=((loopsOf (Tryz.f14.body.getD .skip)).getD 1 .skip)
noncomputable def Qgz (p0:(List Qac)) (v12:Int):St:=⟨[(0,.p (.sl false (p0.map Qaf))),(12,.p (iV v12))],⟨[],[]⟩⟩
noncomputable def Qkh (p0:(List Qac)) (y26:Unit):St:=⟨[],⟨[],[]⟩⟩
noncomputable def Qki (p0:(List Qac)) (y27:(List UInt8)):St:=⟨[(2,.p (sV y27)),(3,.p (iV 10))],⟨[],[]⟩⟩
noncomputable def Qpp:Code:=((loopsOf (Tryz.f14.body.getD .skip)).getD 3 .skip)
noncomputable def Qgl (y:(List Qab)×Bool):D :=.tup [.p (.sl false (y.1.map Qaa)),.p (bV y.2)]
noncomputable def Qux:List (Nat×List Nat):=[(0,[0,1]),(1,[0,1,6]),(2,[0,1,6,10]),(3,[0,1,6]),(4,[0,1,6,19]),(5,[4,5]),(6,[4,5]),(1000002,[0,1,6])]
noncomputable def Qii (p0:(List Qac)) (p1:(List UInt8)) (v6:Int):St:=⟨[(0,.p (.sl false (p0.map Qaf))),(1,.p (sV p1)),(6,.p (iV v6))],⟨[],[]⟩⟩
noncomputable def Qlo (p0:(List Qac)) (p1:(List UInt8)) (y2:Unit):St:=⟨[],⟨[],[]⟩⟩
noncomputable def Qlp (p0:(List Qac)) (p1:(List UInt8)) (y3:(List Qab)):St:=⟨[(4,.p (.sl false (y3.map Qaa))),(5,.p (bV true))],⟨[],[]⟩⟩
noncomputable def Qqy:Code:=((loopsOf (Tryz.f31.body.getD .skip)).getD 0 .skip)
noncomputable def Qk4 (y:Bool):D :=.p (bV y)
noncomputable def Q13:List (Nat×List Nat):=[(0,[0,1]),(1,[0,1,5]),(2,[0,1,5,9]),(3,[0,1,5]),(4,[0,1,5,17]),(5,[4]),(6,[4]),(1000002,[0,1,5])]
noncomputable def Qk5 (p0:(List (List UInt8))) (p1:(List UInt8)) (v5:Int):St:=⟨[(0,.p (.sl false (p0.map cStr))),(1,.p (sV p1)),(5,.p (iV v5))],⟨[],[]⟩⟩
noncomputable def Qoc (p0:(List (List UInt8))) (p1:(List UInt8)) (y2:Unit):St:=⟨[],⟨[],[]⟩⟩
noncomputable def Qod (p0:(List (List UInt8))) (p1:(List UInt8)) (y3:Unit):St:=⟨[(4,.p (bV true))],⟨[],[]⟩⟩
noncomputable def Quy:Code:=((loopsOf (Tryz.f21.body.getD .skip)).getD 0 .skip)
noncomputable def Qmq (y:(List (List UInt8))):D :=.p (.sl false (y.map cStr))
noncomputable def Qoe:List (Nat×List Nat):=[(0,[0]),(1,[0,4]),(2,[0,15]),(3,[2]),(4,[0,5]),(5,[0,5,21]),(6,[0,5,6]),(7,[0,5,6,7]),(8,[0,5,6,7,25]),(9,[0,5,6,7]),(10,[0,5,6,7,8]),(11,[0,5,6,7,8,55]),(12,[0,5,6,7]),(13,[0,5]),(14,[2]),(1000005,[0,5]),(1000008,[0,5,6,7]),(3000011,[])]
noncomputable def Qwp (p0:(List Qac)) (v5:(List (List UInt8))) (v6:(List UInt8)) (v7:Int) (x4:Qac) (o5:Bool):St:=⟨[(0,.p (.sl false (p0.map Qaf))),(5,.own 0 9 1 (v5.map cStr)),(6,.p (sV v6)),(7,.p (iV v7)),(8,.p (sV x4.Name)),(55,.p (bV o5))],⟨[],[(v5.map cStr).length]⟩⟩
noncomputable def Qe3 (p0:(List Qac)) (v5:(List (List UInt8))) (v6:(List UInt8)) (v7:Int):St:=⟨[(0,.p (.sl false (p0.map Qaf))),(5,.own 0 9 1 (v5.map cStr)),(6,.p (sV v6)),(7,.p (iV v7))],⟨[],[(v5.map cStr).length]⟩⟩
noncomputable def Qkj (p0:(List Qac)) (v5:(List (List UInt8))) (o3:(List UInt8)):St:=⟨[(0,.p (.sl false (p0.map Qaf))),(5,.own 0 9 1 (v5.map cStr)),(6,.p (sV o3))],⟨[],[(v5.map cStr).length]⟩⟩
noncomputable def Qpq:Code:=((loopsOf (Tryz.f18.body.getD .skip)).getD 1 .skip)
noncomputable def Qg0 (p0:(List Qac)) (v5:(List (List UInt8))):St:=⟨[(0,.p (.sl false (p0.map Qaf))),(5,.own 0 9 1 (v5.map cStr))],⟨[],[(v5.map cStr).length]⟩⟩
noncomputable def Qkk (p0:(List Qac)) (o2:(List (List UInt8))):St:=⟨[(5,.own 0 9 1 (o2.map cStr))],⟨[],[(o2.map cStr).length]⟩⟩
noncomputable def Qpr:Code:=((loopsOf (Tryz.f18.body.getD .skip)).getD 0 .skip)
noncomputable def Qmr (y:(List (List UInt8))):D :=.p (.sl false (y.map cStr))
noncomputable def Q14:List (Nat×List Nat):=[(0,[0,1]),(1,[0,1,6]),(2,[0,1,6,8]),(3,[0,1,25]),(4,[4]),(5,[4]),(3000003,[]),(9000005,[4,0,0,0])]
noncomputable def Qwq (p0:(List Qac)) (p1:(List UInt8)) (o3:Bool):St:=⟨[(0,.p (.sl false (p0.map Qaf))),(1,.p (sV p1)),(25,.p (bV o3))],⟨[],[]⟩⟩
noncomputable def Qr3 (y:(List (List UInt8))):D :=.own 0 9 1 (y.map cStr)
noncomputable def Qp8:List (Nat×List Nat):=[(0,[0]),(1,[0,3]),(2,[0,3,4]),(3,[0,3,4,11]),(4,[0,3,4]),(5,[0,3,4,19]),(6,[0,3,4]),(7,[0,3,4,5]),(8,[0,3,4,5,6]),(9,[0,3,4,5,6,43]),(10,[0,3,4,5,6]),(11,[0,3,4,5,6]),(12,[2]),(1000003,[0,3,4]),(1000009,[0,3,4,5,6]),(2005005,[]),(5000007,[1005,1011]),(9000006,[6,0,0,0]),(9000011,[5,0,0,0])]
noncomputable def Qzv (p0:(List Qab)) (v4:Int) (o2:(List (List UInt8))):St:=⟨[(0,.p (.sl false (p0.map Qaa))),(3,.own 0 9 1 (o2.map cStr)),(4,.p (iV v4))],⟨[],[(o2.map cStr).length]⟩⟩
noncomputable def Qij (p0:(List Qab)) (v4:Int) (x9:(List (List UInt8))) (x10:(List (List UInt8))) (v3_:(List (List UInt8))) (v6:Int):St:=⟨[(0,.p (.sl false (p0.map Qaa))),(3,.own 0 9 1 (v3_.map cStr)),(4,.p (iV v4)),(5,.own 1 9 1 (x10.map cStr)),(6,.p (iV v6))],⟨[],[(v3_.map cStr).length,(x10.map cStr).length,(x9.map cStr).length]⟩⟩
noncomputable def Qlq (p0:(List Qab)) (v4:Int) (x9:(List (List UInt8))) (x10:(List (List UInt8))) (o11:(List (List UInt8))):St:=⟨[(0,.p (.sl false (p0.map Qaa))),(3,.own 0 9 1 (o11.map cStr)),(4,.p (iV v4))],⟨[],[(o11.map cStr).length,(x10.map cStr).length,(x9.map cStr).length]⟩⟩
noncomputable def Qqz:Code:=((loopsOf (Tryz.f45.body.getD .skip)).getD 1 .skip)
noncomputable def Qlr (p0:(List Qab)) (v3:(List (List UInt8))) (v4:Int):St:=⟨[(0,.p (.sl false (p0.map Qaa))),(3,.own 0 9 1 (v3.map cStr)),(4,.p (iV v4))],⟨[],[(v3.map cStr).length]⟩⟩
noncomputable def Qps (p0:(List Qab)) (o1:(List (List UInt8))):St:=⟨[(3,.own 0 9 1 (o1.map cStr))],⟨[],[(o1.map cStr).length]⟩⟩
noncomputable def Qzw:Code:=((loopsOf (Tryz.f45.body.getD .skip)).getD 0 .skip)
noncomputable def Qq0 (y:Bool):D :=.p (bV y)
noncomputable def Qya:List (Nat×List Nat):=[(0,[0,1]),(1,[0,1,5]),(2,[0,1,5,9]),(3,[0,1,5]),(4,[0,1,5,18]),(5,[4]),(6,[4]),(1000002,[0,1,5])]
noncomputable def Qjo (p0:(List (List UInt8))) (p1:(List (List UInt8))) (v5:Int):St:=⟨[(0,.p (.sl false (p0.map cStr))),(1,.p (.sl false (p1.map cStr))),(5,.p (iV v5))],⟨[],[]⟩⟩
noncomputable def Qms (p0:(List (List UInt8))) (p1:(List (List UInt8))) (y2:Unit):St:=⟨[],⟨[],[]⟩⟩
noncomputable def Qmt (p0:(List (List UInt8))) (p1:(List (List UInt8))) (y3:Unit):St:=⟨[(4,.p (bV false))],⟨[],[]⟩⟩
noncomputable def Qsu:Code:=((loopsOf (Tryz.f54.body.getD .skip)).getD 0 .skip)
noncomputable def Quz (y:(List (List UInt8))):D :=.own 0 9 1 (y.map cStr)
noncomputable def Qk6:List (Nat×List Nat):=[(0,[0,1]),(1,[0,5]),(2,[0,7]),(3,[0,7,8]),(4,[0,7,8,26]),(5,[0,7,8]),(6,[0,7,8,9]),(7,[0,7,8,9,10]),(8,[0,7,8,9,10,33]),(9,[0,7,8,9,10]),(10,[0,7,8,9,10,11]),(11,[0,7,8,9,10,13]),(12,[0,7,8,9,10,13,14]),(13,[0,7,8,9,10,13,14,50]),(14,[0,7,8,9,10,13,14]),(15,[0,7,8,9,10,13,14]),(16,[4]),(1000004,[0,7,8]),(1000008,[0,7,8,9,10]),(1000013,[0,7,8,9,10,13,14]),(9000015,[5,0,0,0])]
noncomputable def Qg1 (p0:(List Qac)) (v7:(List (List UInt8))) (v8:Int) (v10:Int) (x7:(List (List UInt8))) (v7__:(List (List UInt8))) (v14:Int):St:=⟨[(0,.p (.sl false (p0.map Qaf))),(7,.own 0 9 1 (v7__.map cStr)),(8,.p (iV v8)),(9,.p (.sl false (v7.map cStr))),(10,.p (iV v10)),(13,.own 1 9 1 (x7.map cStr)),(14,.p (iV v14))],⟨[],[(v7__.map cStr).length,(x7.map cStr).length]⟩⟩
noncomputable def Qkl (p0:(List Qac)) (v7:(List (List UInt8))) (v8:Int) (v10:Int) (x7:(List (List UInt8))) (o8:(List (List UInt8))):St:=⟨[(0,.p (.sl false (p0.map Qaf))),(7,.own 0 9 1 (o8.map cStr)),(8,.p (iV v8)),(9,.p (.sl false (v7.map cStr))),(10,.p (iV v10))],⟨[],[(o8.map cStr).length,(x7.map cStr).length]⟩⟩
noncomputable def Qpt:Code:=((loopsOf (Tryz.f46.body.getD .skip)).getD 2 .skip)
noncomputable def Qg2 (p0:(List Qac)) (v7:(List (List UInt8))) (v8:Int) (v7_:(List (List UInt8))) (v10:Int):St:=⟨[(0,.p (.sl false (p0.map Qaf))),(7,.own 0 9 1 (v7_.map cStr)),(8,.p (iV v8)),(9,.p (.sl false (v7.map cStr))),(10,.p (iV v10))],⟨[],[(v7_.map cStr).length]⟩⟩
noncomputable def Qkm (p0:(List Qac)) (v7:(List (List UInt8))) (v8:Int) (o4:(List (List UInt8))):St:=⟨[(0,.p (.sl false (p0.map Qaf))),(7,.own 0 9 1 (o4.map cStr)),(8,.p (iV v8))],⟨[],[(o4.map cStr).length]⟩⟩
noncomputable def Qpu:Code:=((loopsOf (Tryz.f46.body.getD .skip)).getD 1 .skip)
noncomputable def Qg3 (p0:(List Qac)) (v7:(List (List UInt8))) (v8:Int):St:=⟨[(0,.p (.sl false (p0.map Qaf))),(7,.own 0 9 1 (v7.map cStr)),(8,.p (iV v8))],⟨[],[(v7.map cStr).length]⟩⟩
noncomputable def Qkn (p0:(List Qac)) (o3:(List (List UInt8))):St:=⟨[(7,.own 0 9 1 (o3.map cStr))],⟨[],[(o3.map cStr).length]⟩⟩
noncomputable def Qpv:Code:=((loopsOf (Tryz.f46.body.getD .skip)).getD 0 .skip)
noncomputable def Qr4 (y:(List (List UInt8))):D :=.own 0 9 1 (y.map cStr)
noncomputable def Qu0:List (Nat×List Nat):=[(0,[0,1]),(1,[0,1,8]),(2,[4]),(3,[0,1,5]),(4,[0,1,5,21]),(5,[0,1,5]),(6,[0,4]),(1000004,[0,1,5]),(3000004,[])]
noncomputable def Qzx (p0:(List (List UInt8))) (p1:(List UInt8)) (v5:Int) (o3:Bool):St:=⟨[(0,.own 0 9 1 (p0.map cStr)),(1,.p (sV p1)),(5,.p (iV v5)),(21,.p (bV o3))],⟨[],[(p0.map cStr).length]⟩⟩
noncomputable def Qik (p0:(List (List UInt8))) (p1:(List UInt8)) (v5:Int):St:=⟨[(0,.own 0 9 1 (p0.map cStr)),(1,.p (sV p1)),(5,.p (iV v5))],⟨[],[(p0.map cStr).length]⟩⟩
noncomputable def Qls (p0:(List (List UInt8))) (p1:(List UInt8)) (o2:Int):St:=⟨[(0,.own 0 9 1 (p0.map cStr)),(1,.p (sV p1)),(5,.p (iV o2))],⟨[],[(p0.map cStr).length]⟩⟩
noncomputable def Qq1:Code:=((loopsOf (Tryz.f55.body.getD .skip)).getD 0 .skip)
noncomputable def Qcr (y:(List UInt8)×Int):D :=.tup [.p (sV y.1),.p (iV y.2)]
noncomputable def Qfz:List (Nat×List Nat):=[(0,[0]),(1,[0,19]),(2,[2,3]),(3,[0,20,21,22]),(4,[0,20,21,22,23]),(5,[0,4,5,20,21,22]),(6,[0,4,5,20,21,22,36]),(7,[2,3]),(8,[0,5,7,20,21,22]),(9,[0,5,20,21,22,48]),(10,[2,3]),(11,[0,20,21,22]),(12,[0,8]),(13,[0,8,54,55,56]),(14,[0,8,54,55,56,57]),(15,[0,8,10,54,55,56]),(16,[0,8,10,54,55,56,64,65,66]),(17,[0,8,10,54,55,56,64,65,66,67]),(18,[0,8,10,12,54,55,56,64,65,66]),(19,[0,8,10,14,54,55,56,64,65,66]),(20,[0,8,10,54,55,56,64,65,66,78]),(21,[2,3]),(22,[0,8,10,54,55,56,64,65,66]),(23,[0,8,54,55,56]),(24,[8,83,84,85]),(25,[8,83,84,85,86]),(26,[8,16,83,84,85]),(27,[8,16,83,84,85,98]),(28,[2,3]),(29,[8,83,84,85]),(30,[2,3]),(1000004,[0,20,21,22]),(1000014,[0,8,54,55,56]),(1000017,[0,8,10,54,55,56,64,65,66]),(1000025,[8,83,84,85]),(3000006,[]),(5000027,[2005]),(9000016,[4,0,0,0]),(9000019,[3,0,0,0])]
noncomputable def Qs4 (p0:(List Qac)) (v22:Int) (x4:Qac) (o5:Bool):St:=⟨[(0,.p (.sl false (p0.map Qaf))),(4,.p (iV v22)),(5,.ptr 0 0),(20,.p (.sl false (p0.map Qaf))),(21,.p (iV (p0.length:Int))),(22,.p (iV v22)),(36,.p (bV o5))],⟨[[.p (sV x4.Name),.p (.sl false (x4.L.map Qaa))]],[]⟩⟩
noncomputable def Qfo (p0:(List Qac)) (v22:Int):St:=⟨[(0,.p (.sl false (p0.map Qaf))),(20,.p (.sl false (p0.map Qaf))),(21,.p (iV (p0.length:Int))),(22,.p (iV v22))],⟨[],[]⟩⟩
noncomputable def Qhv (p0:(List Qac)) (y2:Unit):St:=⟨[(0,.p (.sl false (p0.map Qaf)))],⟨[],[]⟩⟩
noncomputable def Qhw (p0:(List Qac)) (y3:(List UInt8)×Int):St:=⟨[(2,.p (sV y3.1)),(3,.p (iV y3.2))],⟨[],[]⟩⟩
noncomputable def Qnb:Code:=((loopsOf (Tryz.f13.body.getD .skip)).getD 0 .skip)
noncomputable def Qfp (p0:(List Qac)) (x10:(List ((List UInt8)×(List (List UInt8))))) (v56:Int) (x14:Qac) (v66:Int):St:=⟨[(0,.p (.sl false (p0.map Qaf))),(8,.ptr 1 0),(10,.ptr 2 0),(54,.p (.sl false (p0.map Qaf))),(55,.p (iV (p0.length:Int))),(56,.p (iV v56)),(64,.p (.sl false (((mget (fun a b=>a==b) x14.Name x10).getD []).map cStr))),(65,.p (iV (((mget (fun a b=>a==b) x14.Name x10).getD []).length:Int))),(66,.p (iV v66))],⟨[[mpD sV (fun x =>.sl false (x.map cStr)) x10],[.mh 0],[.p (sV x14.Name),.p (.sl false (x14.L.map Qaa))]],[]⟩⟩
noncomputable def Qhx (p0:(List Qac)) (x10:(List ((List UInt8)×(List (List UInt8))))) (v56:Int) (x14:Qac) (y16:Unit):St:=⟨[(0,.p (.sl false (p0.map Qaf))),(8,.ptr 1 0),(54,.p (.sl false (p0.map Qaf))),(55,.p (iV (p0.length:Int))),(56,.p (iV v56))],⟨[[mpD sV (fun x =>.sl false (x.map cStr)) x10],[.mh 0],[.p (sV x14.Name),.p (.sl false (x14.L.map Qaa))]],[]⟩⟩
noncomputable def Qhy (p0:(List Qac)) (x10:(List ((List UInt8)×(List (List UInt8))))) (v56:Int) (x14:Qac) (y17:Unit):St:=⟨[(2,.p (sV x14.Name)),(3,.p (iV 4))],⟨[[mpD sV (fun x =>.sl false (x.map cStr)) x10],[.mh 0],[.p (sV x14.Name),.p (.sl false (x14.L.map Qaa))]],[]⟩⟩
noncomputable def Qnc:Code:=((loopsOf (Tryz.f13.body.getD .skip)).getD 2 .skip)
noncomputable def Qfq (p0:(List Qac)) (x10:(List ((List UInt8)×(List (List UInt8))))) (v56:Int):St:=⟨[(0,.p (.sl false (p0.map Qaf))),(8,.ptr 1 0),(54,.p (.sl false (p0.map Qaf))),(55,.p (iV (p0.length:Int))),(56,.p (iV v56))],⟨[[mpD sV (fun x =>.sl false (x.map cStr)) x10],[.mh 0]],[]⟩⟩
noncomputable def Qhz (p0:(List Qac)) (x10:(List ((List UInt8)×(List (List UInt8))))) (y12:Unit):St:=⟨[(0,.p (.sl false (p0.map Qaf))),(8,.ptr 1 0)],⟨[[mpD sV (fun x =>.sl false (x.map cStr)) x10],[.mh 0]],[]⟩⟩
noncomputable def Qh0 (p0:(List Qac)) (x10:(List ((List UInt8)×(List (List UInt8))))) (y13:(List UInt8)):St:=⟨[(2,.p (sV y13)),(3,.p (iV 4))],⟨[[mpD sV (fun x =>.sl false (x.map cStr)) x10],[.mh 0]],[]⟩⟩
noncomputable def Qnd:Code:=((loopsOf (Tryz.f13.body.getD .skip)).getD 1 .skip)
noncomputable def Qfr (p0:(List Qac)) (x10:(List ((List UInt8)×(List (List UInt8))))) (v85:Int):St:=⟨[(8,.ptr 1 0),(83,.p (.sl false (p0.map Qaf))),(84,.p (iV (p0.length:Int))),(85,.p (iV v85))],⟨[[mpD sV (fun x =>.sl false (x.map cStr)) x10],[.mh 0]],[]⟩⟩
noncomputable def Qh1 (p0:(List Qac)) (x10:(List ((List UInt8)×(List (List UInt8))))) (y20:Unit):St:=⟨[],⟨[[mpD sV (fun x =>.sl false (x.map cStr)) x10],[.mh 0]],[]⟩⟩
noncomputable def Qh2 (p0:(List Qac)) (x10:(List ((List UInt8)×(List (List UInt8))))) (y21:(List UInt8)):St:=⟨[(2,.p (sV y21)),(3,.p (iV 10))],⟨[[mpD sV (fun x =>.sl false (x.map cStr)) x10],[.mh 0]],[]⟩⟩
noncomputable def Qne:Code:=((loopsOf (Tryz.f13.body.getD .skip)).getD 3 .skip)
noncomputable def Qis (y:(List Qab)×Bool):D :=.tup [.p (.sl false (y.1.map Qaa)),.p (bV y.2)]
noncomputable def Qq2:List (Nat×List Nat):=[(0,[0,1]),(1,[1,8,9,10]),(2,[1,8,9,10,11]),(3,[1,7,8,9,10]),(4,[1,7,8,9,10,17]),(5,[4,5]),(6,[1,8,9,10]),(7,[4,5]),(1000002,[1,8,9,10])]
noncomputable def Qf5 (p0:(List Qac)) (p1:(List UInt8)) (v10:Int):St:=⟨[(1,.p (sV p1)),(8,.p (.sl false (p0.map Qaf))),(9,.p (iV (p0.length:Int))),(10,.p (iV v10))],⟨[],[]⟩⟩
noncomputable def Qi3 (p0:(List Qac)) (p1:(List UInt8)) (y2:Unit):St:=⟨[],⟨[],[]⟩⟩
noncomputable def Qi4 (p0:(List Qac)) (p1:(List UInt8)) (y3:(List Qab)):St:=⟨[(4,.p (.sl false (y3.map Qaa))),(5,.p (bV true))],⟨[],[]⟩⟩
noncomputable def Qof:Code:=((loopsOf (Tryz.f39.body.getD .skip)).getD 0 .skip)
noncomputable def Qg4 (y:(List (List UInt8))):D :=.p (.sl false (y.map cStr))
noncomputable def Qlt:List (Nat×List Nat):=[(0,[0]),(1,[0,4]),(2,[0,17]),(3,[2]),(4,[0,5]),(5,[0,5,6,7]),(6,[5,6,7,20,21,22]),(7,[5,6,7,20,21,22,23]),(8,[5,6,7,9,20,21,22]),(9,[5,6,7,20,21,22]),(10,[5,6,7,20,21,22]),(11,[5,6,7]),(12,[5,6,7,36]),(13,[5,6,7,10]),(14,[5,6,7,10]),(15,[5,6,7]),(16,[2]),(1000007,[5,6,7,20,21,22]),(1000012,[5,6,7]),(5000014,[2003,2004]),(9000009,[4,0,0,0]),(9000011,[1,1,6,0]),(9000012,[1,0,0,0]),(9000015,[4,0,0,0]),(9500013,[])]
noncomputable def Qfs (p0:(List Qac)) (x2:(List ((List UInt8)×(List (List UInt8))))) (v6:(List (List UInt8))) (v22:Int):St:=⟨[(5,.ptr 1 0),(6,.x 0 1 (.sl 9 1 (v6.map cStr))),(7,.ptr 2 0),(20,.p (.sl false (p0.map Qaf))),(21,.p (iV (p0.length:Int))),(22,.p (iV v22))],⟨[[mpD sV (fun x =>.sl false (x.map cStr)) x2],[.mh 0],[.p (.sl true [])]],[1]⟩⟩
noncomputable def Qh3 (p0:(List Qac)) (x2:(List ((List UInt8)×(List (List UInt8))))) (o3:(List (List UInt8))):St:=⟨[(5,.ptr 1 0),(6,.x 0 1 (.sl 9 1 (o3.map cStr))),(7,.ptr 2 0)],⟨[[mpD sV (fun x =>.sl false (x.map cStr)) x2],[.mh 0],[.p (.sl true [])]],[1]⟩⟩
noncomputable def Qnf:Code:=((loopsOf (Tryz.f16.body.getD .skip)).getD 0 .skip)
noncomputable def Qft (x2:(List ((List UInt8)×(List (List UInt8))))) (v6:(List (List UInt8))) (h2_0:(List (List UInt8))):St:=⟨[(5,.ptr 1 0),(6,.x 0 1 (.sl 9 1 (v6.map cStr))),(7,.ptr 2 0)],⟨[[mpD sV (fun x =>.sl false (x.map cStr)) x2],[.mh 0],[.own 1 9 1 (h2_0.map cStr)]],[1,(h2_0.map cStr).length]⟩⟩
noncomputable def Qh4 (x2:(List ((List UInt8)×(List (List UInt8))))) (o6:(List (List UInt8))):St:=⟨[(7,.ptr 2 0)],⟨[[mpD sV (fun x =>.sl false (x.map cStr)) x2],[.mh 0],[.own 1 9 1 (o6.map cStr)]],[1,(o6.map cStr).length]⟩⟩
noncomputable def Qng:Code:=((loopsOf (Tryz.f16.body.getD .skip)).getD 1 .skip)
noncomputable def Qko (y:Bool):D :=.p (bV y)
noncomputable def Qpb:List (Nat×List Nat):=[(0,[0,1]),(1,[3])]
noncomputable def Ql5 (y:Bool):D :=.p (bV y)
noncomputable def Qq3:List (Nat×List Nat):=[(0,[0,1,2]),(1,[4]),(9000001,[3,0,0,0])]
noncomputable def Qeg (y:(List (List UInt8))):D :=.p (.sl false (y.map cStr))
noncomputable def Qwr:List (Nat×List Nat):=[(0,[0,1]),(1,[0,1,6]),(2,[0,1,15]),(3,[4]),(4,[0,1,8]),(5,[0,1,23]),(6,[4]),(7,[4])]
noncomputable def Qog (y:(List (List UInt8))):D :=.p (.sl false (y.map cStr))
noncomputable def Qzy:List (Nat×List Nat):=[(0,[0]),(1,[0,3]),(2,[0,3,4]),(3,[0,3,4]),(4,[3]),(5,[3]),(6,[2]),(9000005,[1,3,0,0]),(9000006,[1,0,0,0]),(9500004,[])]
noncomputable def Qlu (_:(List (List UInt8))):D :=.tup []
noncomputable def Qoh:List (Nat×List Nat):=[(0,[1,2,6,7,8]),(1,[1,2,6,7,8,9]),(2,[1,2,5,6,7,8]),(3,[1,2,5,6,7,8,14]),(4,[1,2,5,6,7,8]),(5,[1,2,5,6,7,8]),(6,[1,2,6,7,8]),(7,[1,2,6,7,8]),(1000001,[1,2,6,7,8]),(2003005,[]),(9000004,[4,0,0,0])]
noncomputable def Qr5 (p0:(List Qab)) (v8:Int) (x2:Qab) (o3:(List (List UInt8))):St:=⟨[(1,.ptr 0 0),(2,.ptr 1 0),(5,.ptr 2 0),(6,.p (.sl false (p0.map Qaa))),(7,.p (iV (p0.length:Int))),(8,.p (iV v8))],⟨[[.x 0 (o3.length+1) (.sl 9 1 (o3.map cStr))],[.fn (.func 99) [] [.ptr 0 0,.ptr 1 0]],[.p (iV x2.Kind),.p (sV x2.Name),.p (sV x2.Text),.p (iV x2.N),.p (.sl false (x2.L.map Qaa)),.p (.sl false (x2.Then.map Qaa)),.p (.sl false (x2.Else.map Qaa))]],[(o3.length+1)]⟩⟩
noncomputable def Qg5 (p0:(List Qab)) (v8:Int) (h0_0_:(List (List UInt8))):St:=⟨[(1,.ptr 0 0),(2,.ptr 1 0),(6,.p (.sl false (p0.map Qaa))),(7,.p (iV (p0.length:Int))),(8,.p (iV v8))],⟨[[.x 0 (h0_0_.length+1) (.sl 9 1 (h0_0_.map cStr))],[.fn (.func 99) [] [.ptr 0 0,.ptr 1 0]]],[(h0_0_.length+1)]⟩⟩
noncomputable def Qk7 (p0:(List Qab)) (o1:(List (List UInt8))):St:=⟨[],⟨[[.x 0 (o1.length+1) (.sl 9 1 (o1.map cStr))],[.fn (.func 99) [] [.ptr 0 0,.ptr 1 0]]],[(o1.length+1)]⟩⟩
noncomputable def Qr6:Code:=((loopsOf (Tryz.f99.body.getD .skip)).getD 0 .skip)
noncomputable def Qq4 (_:(List ((List UInt8)×(List (List UInt8))))):D :=.agg [.mh 0]
noncomputable def Qpw:List (Nat×List Nat):=[(0,[0,2]),(1,[0,2,3]),(2,[2,3,10,11,12]),(3,[2,3,10,11,12,13]),(4,[2,3,5,10,11,12]),(5,[2,3,5,7,10,11,12]),(6,[2,3,5,10,11,12,25]),(7,[2,3,10,11,12]),(8,[2,3,10,11,12]),(9,[2]),(1000003,[2,3,10,11,12]),(9000001,[0,0,0,0]),(9000005,[4,0,0,0]),(9000007,[7,0,0,0]),(9800007,[7]),(7000007,[2,3,10,11,12,27,29,32])]
noncomputable def Qd1 (p0:(List Qac)) (v12:Int) (h1_0:(List ((List UInt8)×(List (List UInt8))))):St:=⟨[(2,.ptr 0 0),(3,.ptr 2 0),(10,.p (.sl false (p0.map Qaf))),(11,.p (iV (p0.length:Int))),(12,.p (iV v12))],⟨[[.p (.v (.map none))],[mpD sV (fun x =>.sl false (x.map cStr)) h1_0],[.mh 1]],[]⟩⟩
noncomputable def Qh5 (p0:(List Qac)) (o1:(List ((List UInt8)×(List (List UInt8))))):St:=⟨[(2,.ptr 0 0),(3,.ptr 2 0)],⟨[[.p (.v (.map none))],[mpD sV (fun x =>.sl false (x.map cStr)) o1],[.mh 1]],[]⟩⟩
noncomputable def Qnh:Code:=((loopsOf (Tryz.f40.body.getD .skip)).getD 0 .skip)
noncomputable def Qg6 (y:(List (List UInt8))):D :=.p (.sl false (y.map cStr))
noncomputable def Qeh:List (Nat×List Nat):=[(0,[1,2]),(1,[1,2,5]),(2,[2,5,6]),(3,[2,5,6,15,16,17]),(4,[2,5,6,15,16,17,18]),(5,[2,5,6,8,15,16,17]),(6,[2,5,6,15,16,17]),(7,[2,5,6,15,16,17]),(8,[2,5,6,9]),(9,[2,5,6,9,27]),(10,[2,5,6,9]),(11,[2,5,6,9,36,37,38]),(12,[2,5,6,9,36,37,38,39]),(13,[2,5,6,9,11,36,37,38]),(14,[2,5,6,9,11,36,37,38,45]),(15,[2,5,6,9,11,36,37,38]),(16,[2,5,6,9,36,37,38]),(17,[2,5,6,9,36,37,38]),(18,[6]),(19,[4]),(1000004,[2,5,6,15,16,17]),(1000009,[2,5,6,9]),(1000012,[2,5,6,9,36,37,38]),(5000011,[2004,2005,2006]),(9000001,[0,0,0,0]),(9000003,[1,0,0,0]),(9000005,[0,0,0,0,1,0,0,0]),(9000006,[2,0,0,0]),(9000009,[2,0,0,0]),(9000014,[2,0,0,0]),(9000015,[2,0,0,0]),(9000016,[3,0,0,0]),(9000018,[1,1,6,0])]
noncomputable def Qdd (h0_0:(List ((List UInt8)×(List (List UInt8))))) (x1:(List (List UInt8))) (v17:Int) (h2_0:(List ((List UInt8)×Int))):St:=⟨[(2,.ptr 1 0),(5,.mh 2),(6,.x 0 1 (.sl 9 1 (x1.map cStr))),(15,.x 0 1 (.sl 9 1 (x1.map cStr))),(16,.p (iV (x1.length:Int))),(17,.p (iV v17))],⟨[[mpD sV (fun x =>.sl false (x.map cStr)) h0_0],[.mh 0],[mpD sV iV h2_0]],[1]⟩⟩
noncomputable def Qet (h0_0:(List ((List UInt8)×(List (List UInt8))))) (x1:(List (List UInt8))) (o2:(List ((List UInt8)×Int))):St:=⟨[(2,.ptr 1 0),(5,.mh 2),(6,.x 0 1 (.sl 9 1 (x1.map cStr)))],⟨[[mpD sV (fun x =>.sl false (x.map cStr)) h0_0],[.mh 0],[mpD sV iV o2]],[1]⟩⟩
noncomputable def Qit:Code:=((loopsOf (Tryz.f42.body.getD .skip)).getD 0 .skip)
noncomputable def Qb8 (h0_0:(List ((List UInt8)×(List (List UInt8))))) (v9:Int) (x5:(List UInt8)) (v6_:(List (List UInt8))) (v38:Int) (h2_0_:(List ((List UInt8)×Int))):St:=⟨[(2,.ptr 1 0),(5,.mh 2),(6,.x 0 1 (.sl 9 1 (v6_.map cStr))),(9,.p (iV v9)),(36,.p (.sl false (((mget (fun a b=>a==b) x5 h0_0).getD []).map cStr))),(37,.p (iV (((mget (fun a b=>a==b) x5 h0_0).getD []).length:Int))),(38,.p (iV v38))],⟨[[mpD sV (fun x =>.sl false (x.map cStr)) h0_0],[.mh 0],[mpD sV iV h2_0_]],[1]⟩⟩
noncomputable def Qeu (h0_0:(List ((List UInt8)×(List (List UInt8))))) (v9:Int) (x5:(List UInt8)) (o6:(List (List UInt8))×(List ((List UInt8)×Int))):St:=⟨[(2,.ptr 1 0),(5,.mh 2),(6,.x 0 1 (.sl 9 1 (o6.1.map cStr))),(9,.p (iV v9))],⟨[[mpD sV (fun x =>.sl false (x.map cStr)) h0_0],[.mh 0],[mpD sV iV o6.2]],[1]⟩⟩
noncomputable def Qiu:Code:=((loopsOf (Tryz.f42.body.getD .skip)).getD 2 .skip)
noncomputable def Qde (h0_0:(List ((List UInt8)×(List (List UInt8))))) (v6:(List (List UInt8))) (v9:Int) (h2_0:(List ((List UInt8)×Int))):St:=⟨[(2,.ptr 1 0),(5,.mh 2),(6,.x 0 1 (.sl 9 1 (v6.map cStr))),(9,.p (iV v9))],⟨[[mpD sV (fun x =>.sl false (x.map cStr)) h0_0],[.mh 0],[mpD sV iV h2_0]],[1]⟩⟩
noncomputable def Qev (h0_0:(List ((List UInt8)×(List (List UInt8))))) (o4:(List (List UInt8))×(List ((List UInt8)×Int))):St:=⟨[(6,.x 0 1 (.sl 9 1 (o4.1.map cStr)))],⟨[[mpD sV (fun x =>.sl false (x.map cStr)) h0_0],[.mh 0],[mpD sV iV o4.2]],[1]⟩⟩
noncomputable def Qiv:Code:=((loopsOf (Tryz.f42.body.getD .skip)).getD 1 .skip)
noncomputable def Qb2 (y:Bool):D :=.p (bV y)
noncomputable def Qg7:List (Nat×List Nat):=[(0,[0,1]),(1,[4]),(3000001,[])]
noncomputable def Qf9  (o1:Bool):St:=⟨[(4,.p (bV o1))],⟨[],[]⟩⟩
noncomputable def Qex (y:Int):D :=.p (iV y)
noncomputable def Qdx (y:Int):D :=.p (iV y)
noncomputable def Qmu (y:(List UInt8)×Bool):D :=.tup [.p (sV y.1),.p (bV y.2)]
noncomputable def Qsv:List (Nat×List Nat):=[(0,[0]),(1,[0,14]),(2,[2,3]),(3,[0,4]),(4,[0,4,17,18]),(5,[0,4,17,18,19]),(6,[0,4,5,17,18]),(7,[0,4,6,17,18]),(8,[0,4,6,17,18,24]),(9,[0,4,17,18]),(10,[0,4,6,17,18,24,29]),(11,[0,4,17,18]),(12,[0,4,6,17,18,24,33]),(13,[0,4,17,18]),(14,[0,4,6,17,18,24,37]),(15,[0,4,6,17,18,37]),(16,[0,4,17,18]),(17,[0,4,17,18]),(18,[2,3]),(1000005,[0,4,17,18]),(2014005,[]),(3000001,[])]
noncomputable def Qws (p0:(List UInt8)) (o1:Bool):St:=⟨[(0,.p (sV p0)),(14,.p (bV o1))],⟨[],[]⟩⟩
noncomputable def Qwt (p0:(List UInt8)) (v4:(List Int)) (v18:Int) (x5:UInt8) (o8:Bool):St:=⟨[(0,.p (sV p0)),(4,.own 0 1000005 1 (v4.map (cNum .u8))),(6,.p (nV .u8 (x5.toNat:Int))),(17,.p (iV (p0.length:Int))),(18,.p (iV v18)),(37,.p (bV o8))],⟨[],[(v4.map (cNum .u8)).length]⟩⟩
noncomputable def Qc5 (p0:(List UInt8)) (v4:(List Int)) (v18:Int):St:=⟨[(0,.p (sV p0)),(4,.own 0 1000005 1 (v4.map (cNum .u8))),(17,.p (iV (p0.length:Int))),(18,.p (iV v18))],⟨[],[(v4.map (cNum .u8)).length]⟩⟩
noncomputable def Qkp (p0:(List UInt8)) (o4:(List Int)):St:=⟨[(4,.own 0 1000005 1 (o4.map (cNum .u8)))],⟨[],[(o4.map (cNum .u8)).length]⟩⟩
noncomputable def Qpx:Code:=((loopsOf (Tryz.f154.body.getD .skip)).getD 0 .skip)
noncomputable def Qjw (y:Bool):D :=.p (bV y)
noncomputable def Qu1:List (Nat×List Nat):=[(0,[0]),(1,[0,5,6]),(2,[0,5,6,7]),(3,[0,3,5,6]),(4,[0,5,6,13]),(5,[2]),(6,[0,5,6]),(7,[2]),(1000002,[0,5,6]),(3000007,[])]
noncomputable def Qil (p0:(List UInt8)) (v6:Int):St:=⟨[(0,.p (sV p0)),(5,.p (iV (p0.length:Int))),(6,.p (iV v6))],⟨[],[]⟩⟩
noncomputable def Qlv (p0:(List UInt8)) (y2:Unit):St:=⟨[(0,.p (sV p0))],⟨[],[]⟩⟩
noncomputable def Qlw (p0:(List UInt8)) (y3:Unit):St:=⟨[(2,.p (bV false))],⟨[],[]⟩⟩
noncomputable def Qq5:Code:=((loopsOf (Tryz.f69.body.getD .skip)).getD 0 .skip)
noncomputable def Qzz  (o6:Bool):St:=⟨[(2,.p (bV o6))],⟨[],[]⟩⟩
noncomputable def Qmv (y:Bool):D :=.p (bV y)
noncomputable def Q15:List (Nat×List Nat):=[(0,[0]),(1,[2]),(3000001,[])]
noncomputable def Qwu  (o1:Bool):St:=⟨[(2,.p (bV o1))],⟨[],[]⟩⟩
noncomputable def Qoi (y:Bool):D :=.p (bV y)
noncomputable def Qz0:List (Nat×List Nat):=[(0,[0]),(1,[2]),(3000001,[])]
noncomputable def Qu2  (o1:Bool):St:=⟨[(2,.p (bV o1))],⟨[],[]⟩⟩
noncomputable def Qby (y:(List Qab)×Int):D :=.tup [.p (.sl false (y.1.map Qaa)),.p (iV y.2)]
noncomputable def Qji:List (Nat×List Nat):=[(0,[0,1,2]),(1,[0,1,2,8]),(2,[0,1,2,8,9]),(3,[0,1,2,8,9,24]),(4,[0,1,2,8,9]),(5,[0,1,2,8,9,10]),(6,[0,1,2,8,9,10]),(7,[0,1,2,8,9,10,11]),(8,[0,1,2,8,9,10,11]),(9,[0,1,2,8,9,10,11]),(10,[0,1,2,8,9,11]),(11,[0,1,2,8,9]),(12,[6,7]),(1000003,[0,1,2,8,9]),(3000003,[])]
noncomputable def Qnn (p0:(List Qab)) (p1:Int) (v2:Int) (v8:(List Qab)) (v9:Int) (o2:Bool):St:=⟨[(0,.p (.sl false (p0.map Qaa))),(1,.p (iV p1)),(2,.p (iV v2)),(8,.own 0 38 7 (v8.map Qaa)),(9,.p (iV v9)),(24,.p (bV o2))],⟨[],[(v8.map Qaa).length]⟩⟩
noncomputable def Qei (p0:(List Qab)) (p1:Int) (v2:Int) (v8:(List Qab)) (v9:Int):St:=⟨[(0,.p (.sl false (p0.map Qaa))),(1,.p (iV p1)),(2,.p (iV v2)),(8,.own 0 38 7 (v8.map Qaa)),(9,.p (iV v9))],⟨[],[(v8.map Qaa).length]⟩⟩
noncomputable def Qg8 (p0:(List Qab)) (p1:Int) (o1:Int×(List Qab)):St:=⟨[(2,.p (iV o1.1)),(8,.own 0 38 7 (o1.2.map Qaa))],⟨[],[(o1.2.map Qaa).length]⟩⟩
noncomputable def Qno:Code:=((loopsOf (Tryz.f22.body.getD .skip)).getD 0 .skip)
noncomputable def Qcd (y:Bool):D :=.p (bV y)
noncomputable def Qdg:List (Nat×List Nat):=[(0,[0,1]),(1,[0,1]),(2,[0,1,5]),(3,[0,5,29]),(4,[4]),(5,[0,5,6]),(6,[0,5,6,33]),(7,[0,5,6]),(8,[0,5,6,7]),(9,[0,5,6,7,8]),(10,[0,5,6,7,8,47]),(11,[0,5,6,7,8]),(12,[0,5,6,7,8,55]),(13,[4]),(14,[0,5,10]),(15,[4]),(1000006,[0,5,6]),(1000010,[0,5,6,7,8]),(3000003,[]),(3000015,[])]
noncomputable def Qjp (x1:(List Qac)) (x2:(List (List UInt8))) (o3:Bool):St:=⟨[(0,.p (.sl false (x1.map Qaf))),(5,.p (.sl false (x2.map cStr))),(29,.p (bV o3))],⟨[],[]⟩⟩
noncomputable def Qbv (x1:(List Qac)) (x2:(List (List UInt8))) (v6:Int) (x13:(List (List UInt8))) (v8:Int):St:=⟨[(0,.p (.sl false (x1.map Qaf))),(5,.p (.sl false (x2.map cStr))),(6,.p (iV v6)),(7,.p (.sl false (x13.map cStr))),(8,.p (iV v8))],⟨[],[]⟩⟩
noncomputable def Qci (x1:(List Qac)) (x2:(List (List UInt8))) (v6:Int) (x13:(List (List UInt8))) (y15:Unit):St:=⟨[(0,.p (.sl false (x1.map Qaf))),(5,.p (.sl false (x2.map cStr))),(6,.p (iV v6))],⟨[],[]⟩⟩
noncomputable def Qcj (x1:(List Qac)) (x2:(List (List UInt8))) (v6:Int) (x13:(List (List UInt8))) (y16:Unit):St:=⟨[(4,.p (bV false))],⟨[],[]⟩⟩
noncomputable def Qey:Code:=((loopsOf (Tryz.f4.body.getD .skip)).getD 1 .skip)
noncomputable def Qbw (x1:(List Qac)) (x2:(List (List UInt8))) (v6:Int):St:=⟨[(0,.p (.sl false (x1.map Qaf))),(5,.p (.sl false (x2.map cStr))),(6,.p (iV v6))],⟨[],[]⟩⟩
noncomputable def Qck (x1:(List Qac)) (x2:(List (List UInt8))) (y10:Unit):St:=⟨[(0,.p (.sl false (x1.map Qaf))),(5,.p (.sl false (x2.map cStr)))],⟨[],[]⟩⟩
noncomputable def Qcl (x1:(List Qac)) (x2:(List (List UInt8))) (y11:Unit):St:=⟨[(4,.p (bV false))],⟨[],[]⟩⟩
noncomputable def Qez:Code:=((loopsOf (Tryz.f4.body.getD .skip)).getD 0 .skip)
noncomputable def Qjq  (o20:Bool):St:=⟨[(4,.p (bV o20))],⟨[],[]⟩⟩
noncomputable def Qh6 (y:(List Qac)):D :=.p (.sl false (y.map Qaf))
noncomputable def Qk8:List (Nat×List Nat):=[(0,[0,1]),(1,[0,1,5]),(2,[0,1,5,6]),(3,[0,1,5,6,18]),(4,[0,1,5,6]),(5,[0,1,5,6,7]),(6,[0,1,5,6]),(7,[4]),(1000003,[0,1,5,6]),(3000003,[])]
noncomputable def Qpc (p0:(List Qac)) (p1:Int) (v5:(List Qac)) (v6:Int) (o2:Bool):St:=⟨[(0,.p (.sl false (p0.map Qaf))),(1,.p (iV p1)),(5,.own 0 56 2 (v5.map Qaf)),(6,.p (iV v6)),(18,.p (bV o2))],⟨[],[(v5.map Qaf).length]⟩⟩
noncomputable def Qdl (p0:(List Qac)) (p1:Int) (v5:(List Qac)) (v6:Int):St:=⟨[(0,.p (.sl false (p0.map Qaf))),(1,.p (iV p1)),(5,.own 0 56 2 (v5.map Qaf)),(6,.p (iV v6))],⟨[],[(v5.map Qaf).length]⟩⟩
noncomputable def Qe4 (p0:(List Qac)) (p1:Int) (o1:(List Qac)):St:=⟨[(5,.own 0 56 2 (o1.map Qaf))],⟨[],[(o1.map Qaf).length]⟩⟩
noncomputable def Qjj:Code:=((loopsOf (Tryz.f12.body.getD .skip)).getD 0 .skip)
noncomputable def Qej (y:Bool):D :=.p (bV y)
noncomputable def Qpd:List (Nat×List Nat):=[(0,[]),(1,[1]),(2,[1,2,3]),(3,[0]),(3000003,[])]
noncomputable def Qnp  (o6:Bool):St:=⟨[(0,.p (bV o6))],⟨[],[]⟩⟩
noncomputable def Qc1 (y:Qab):D :=.p (.agg [iV y.Kind,sV y.Name,sV y.Text,iV y.N,.sl false (y.L.map Qaa),.sl false (y.Then.map Qaa),.sl false (y.Else.map Qaa)])
noncomputable def Qq6:List (Nat×List Nat):=[(0,[0,2]),(1,[2])]
noncomputable def Qcs (y:(List (List UInt8))):D :=.x 0 1 (.sl 9 1 (y.map cStr))
noncomputable def Qi5:List (Nat×List Nat):=[(0,[0]),(1,[0,4]),(2,[2]),(3,[2]),(9000001,[1,0,0,0]),(9000003,[2,0,0,0])]
noncomputable def Qbk (y:Bool):D :=.p (bV y)
noncomputable def Qc2:List (Nat×List Nat):=[(0,[0,1]),(1,[4])]
noncomputable def Qbf (y:Bool):D :=.p (bV y)
noncomputable def Qco:List (Nat×List Nat):=[(0,[0,1]),(1,[4])]
noncomputable def Qbo (y:Bool):D :=.p (bV y)
noncomputable def Qhm:List (Nat×List Nat):=[(0,[0,1]),(1,[4])]
noncomputable def Qa9 (y:Int):D :=.p (iV y)
noncomputable def Qbp:List (Nat×List Nat):=[(0,[0,1]),(1,[0,1,7,8]),(2,[0,1,7,8,9]),(3,[0,1,5,7,8]),(4,[0,1,5,7,8,16]),(5,[4]),(6,[0,1,7,8]),(7,[4]),(1000002,[0,1,7,8])]
noncomputable def Qa1 (p0:(List Qab)) (v8:Int):St:=⟨[(0,.p (.sl false (p0.map Qaa))),(1,.fn (.func 155) [] []),(7,.p (iV (p0.length:Int))),(8,.p (iV v8))],⟨[],[]⟩⟩
noncomputable def Qbh (p0:(List Qab)) (y2:Unit):St:=⟨[],⟨[],[]⟩⟩
noncomputable def Qbi (p0:(List Qab)) (y3:Int):St:=⟨[(4,.p (iV y3))],⟨[],[]⟩⟩
noncomputable def Qc6:Code:=((loopsOf (Tryz.f83.body.getD .skip)).getD 0 .skip)
noncomputable def Qa6 (y:Int):D :=.p (iV y)
noncomputable def Qbl:List (Nat×List Nat):=[(0,[0,1]),(1,[0,1,7,8]),(2,[0,1,7,8,9]),(3,[0,1,5,7,8]),(4,[0,1,5,7,8,16]),(5,[4]),(6,[0,1,7,8]),(7,[4]),(1000002,[0,1,7,8])]
noncomputable def Qao (p0:(List (List UInt8))) (h0_0:(List (List UInt8))) (v8:Int):St:=⟨[(0,.p (.sl false (p0.map cStr))),(1,.fn (.func 52) [] [.ptr 0 0]),(7,.p (iV (p0.length:Int))),(8,.p (iV v8))],⟨[[.own 0 9 1 (h0_0.map cStr)]],[(h0_0.map cStr).length]⟩⟩
noncomputable def Qaz (p0:(List (List UInt8))) (h0_0:(List (List UInt8))) (y2:Unit):St:=⟨[],⟨[[.own 0 9 1 (h0_0.map cStr)]],[(h0_0.map cStr).length]⟩⟩
noncomputable def Qa0 (p0:(List (List UInt8))) (h0_0:(List (List UInt8))) (y3:Int):St:=⟨[(4,.p (iV y3))],⟨[[.own 0 9 1 (h0_0.map cStr)]],[(h0_0.map cStr).length]⟩⟩
noncomputable def Qbg:Code:=((loopsOf (Tryz.f49.body.getD .skip)).getD 0 .skip)
noncomputable def Qba (y:Int):D :=.p (iV y)
noncomputable def Qbq:List (Nat×List Nat):=[(0,[0,1]),(1,[0,1,7,8]),(2,[0,1,7,8,9]),(3,[0,1,5,7,8]),(4,[0,1,5,7,8,16]),(5,[4]),(6,[0,1,7,8]),(7,[4]),(1000002,[0,1,7,8]),(9000001,[1,0,0,0]),(9000004,[3,0,0,0,4,0,0,0])]
noncomputable def Qap (p0:(List (List UInt8))) (h1_0:(List (List UInt8))) (h2_0:(List ((List UInt8)×(List (List UInt8))))) (v8:Int):St:=⟨[(0,.x 0 (p0.length+1) (.sl 9 1 (p0.map cStr))),(1,.fn (.func 50) [] [.ptr 0 0,.ptr 1 0]),(7,.p (iV (p0.length:Int))),(8,.p (iV v8))],⟨[[.mh 2],[.own 1 9 1 (h1_0.map cStr)],[mpD sV (fun x =>.sl false (x.map cStr)) h2_0]],[(p0.length+1),(h1_0.map cStr).length]⟩⟩
noncomputable def Qa2 (p0:(List (List UInt8))) (h1_0:(List (List UInt8))) (h2_0:(List ((List UInt8)×(List (List UInt8))))) (y2:Unit):St:=⟨[],⟨[[.mh 2],[.own 1 9 1 (h1_0.map cStr)],[mpD sV (fun x =>.sl false (x.map cStr)) h2_0]],[(p0.length+1),(h1_0.map cStr).length]⟩⟩
noncomputable def Qa3 (p0:(List (List UInt8))) (h1_0:(List (List UInt8))) (h2_0:(List ((List UInt8)×(List (List UInt8))))) (y3:Int):St:=⟨[(4,.p (iV y3))],⟨[[.mh 2],[.own 1 9 1 (h1_0.map cStr)],[mpD sV (fun x =>.sl false (x.map cStr)) h2_0]],[(p0.length+1),(h1_0.map cStr).length]⟩⟩
noncomputable def Qbm:Code:=((loopsOf (Tryz.f49.body.getD .skip)).getD 0 .skip)
noncomputable def Qbz (y:Int):D :=.p (iV y)
noncomputable def Qen:List (Nat×List Nat):=[(0,[0,1]),(1,[0,1,7,8]),(2,[0,1,7,8,9]),(3,[0,1,5,7,8]),(4,[0,1,5,7,8,16]),(5,[4]),(6,[0,1,7,8]),(7,[4]),(1000002,[0,1,7,8])]
noncomputable def Qbj (p0:(List (List UInt8))) (p1:(List UInt8)) (v8:Int):St:=⟨[(0,.p (.sl false (p0.map cStr))),(1,.p (sV p1)),(7,.p (iV (p0.length:Int))),(8,.p (iV v8))],⟨[],[]⟩⟩
noncomputable def Qb3 (p0:(List (List UInt8))) (p1:(List UInt8)) (y2:Unit):St:=⟨[],⟨[],[]⟩⟩
noncomputable def Qb4 (p0:(List (List UInt8))) (p1:(List UInt8)) (y3:Int):St:=⟨[(4,.p (iV y3))],⟨[],[]⟩⟩
noncomputable def Qd2:Code:=((loopsOf (Tryz.f74.body.getD .skip)).getD 0 .skip)
noncomputable def Qg9 (y:Bool):D :=.p (bV y)
noncomputable def Qp9:List (Nat×List Nat):=[(0,[0,1]),(1,[4])]
noncomputable def Qca (y:Bool):D :=.p (bV y)
noncomputable def Qpe:List (Nat×List Nat):=[(0,[0,1]),(1,[4])]
noncomputable def Qkq (y:Int):D :=.p (iV y)
noncomputable def Qs5:List (Nat×List Nat):=[(0,[0,1]),(1,[4])]
noncomputable def Qga (y:Int):D :=.p (iV y)
noncomputable def Qpf:List (Nat×List Nat):=[(0,[0,1]),(1,[4])]
noncomputable def Qoj (y:Int):D :=.p (iV y)
noncomputable def Qmw:List (Nat×List Nat):=[(0,[0]),(1,[0,3]),(2,[3,5]),(3,[3,5]),(4,[2]),(4000003,[3,5])]
noncomputable def Qdi (x1:(List Qab)×Int) (h0_0:Int):St:=⟨[(3,.ptr 0 0),(5,.fn (.func 125) [] [.p (.ep [.sl false (x1.1.map Qaa)]),.p (.ep [iV x1.2])])],⟨[[.p (iV h0_0)]],[]⟩⟩
noncomputable def Qi6 (x1:(List Qab)×Int) (o6:Int):St:=⟨[(3,.ptr 0 0),(5,.fn (.func 125) [] [.p (.ep [.sl false (x1.1.map Qaa)]),.p (.ep [iV x1.2])])],⟨[[.p (iV o6)]],[]⟩⟩
noncomputable def Qd3:Code:=((loopsOf (Tryz.f71.body.getD .skip)).getD 0 .skip)
noncomputable def Qqa (y:Int):D :=.p (iV y)
noncomputable def Qok:List (Nat×List Nat):=[(0,[0,5]),(1,[0,3,5]),(2,[3,5,7]),(3,[3,5,7]),(4,[3,5,7]),(5,[2]),(4000003,[3,5,7])]
noncomputable def Qd4 (x1:(List Qab)×Int) (h0_0:Int):St:=⟨[(3,.ptr 0 0),(7,.fn (.func 125) [] [.p (.ep [.sl false (x1.1.map Qaa)]),.p (.ep [iV x1.2])])],⟨[[.p (iV h0_0)]],[]⟩⟩
noncomputable def Qkr (x1:(List Qab)×Int) (o6:Int):St:=⟨[(3,.ptr 0 0),(7,.fn (.func 125) [] [.p (.ep [.sl false (x1.1.map Qaa)]),.p (.ep [iV x1.2])])],⟨[[.p (iV o6)]],[]⟩⟩
noncomputable def Qeq:Code:=((loopsOf (Tryz.f70.body.getD .skip)).getD 0 .skip)
noncomputable def Qu3 (y:Bool):D :=.p (bV y)
noncomputable def Q6b:List (Nat×List Nat):=[(0,[0]),(1,[2]),(3000001,[])]
noncomputable def Q16  (o1:Bool):St:=⟨[(2,.p (bV o1))],⟨[],[]⟩⟩
noncomputable def Qe5 (y:Bool):D :=.p (bV y)
noncomputable def Q17:List (Nat×List Nat):=[(0,[0]),(1,[0,3]),(2,[0,3,4]),(3,[0,3,4]),(4,[0,3,4]),(5,[0,3,4]),(6,[0,3,4]),(7,[0,3,4]),(8,[0,3,4]),(9,[0,3,4]),(10,[0,3,4]),(11,[0,4]),(12,[2]),(13,[2]),(2002037,[])]
noncomputable def Qwv (p0:(List UInt8)) (o1:Bool):St:=⟨[(0,.p (sV p0)),(4,.p (bV o1))],⟨[],[]⟩⟩
noncomputable def Ql6 (y:(List Qab)×Int):D :=.fn (.func 125) [] [.p (.ep [.sl false (y.1.map Qaa)]),.p (.ep [iV y.2])]
noncomputable def Q39:List (Nat×List Nat):=[(0,[2,3]),(1,[4])]
noncomputable def Qbc (y:(Qab×Int)):List V:=[.agg [iV y.1.Kind,sV y.1.Name,sV y.1.Text,iV y.1.N,.sl false (y.1.L.map Qaa),.sl false (y.1.Then.map Qaa),.sl false (y.1.Else.map Qaa)],iV y.2]
noncomputable def Qha:List (Nat×List Nat):=[(0,[1,2,3,8,9]),(1,[2,3,8,9,10,11,12]),(2,[2,3,8,9,10,11,12,13]),(3,[2,3,5,8,9,10,11,12]),(4,[2,3,5,8,9,10,11,12,20]),(5,[2,3,8,9,10,11,12,27,28]),(6,[2,3,8,9,10,11,12,27,28,29]),(7,[2,3,7,8,9,10,11,12,27,28]),(8,[2,3,8,9,10,11,12,27,28,34]),(9,[2,3,8,10,11,12,27,28,34,36]),(10,[2,3,8,9,10,11,12,27,28,34]),(11,[2,3,8,9,10,11,12,27,28,34,41]),(12,[2,3,8,9,10,11,12,27,28]),(13,[2,3,8,9,10,11,12]),(1000002,[2,3,8,9,10,11,12]),(1000006,[2,3,8,9,10,11,12,27,28]),(4000009,[2,3,8,9,10,11,12,27,28,34])]
noncomputable def Qdj (p0:(List Qab)) (p1:Int) (v12:Int) (x3:Qab) (v28:Int) (x7:(List Qab)×Int) (gxs gp:List (List V)):St:=⟨[(2,.p (.ep [iV p1])),(3,.ptr 0 0),(10,.p (.sl false (p0.map Qaa))),(11,.p (iV (p0.length:Int))),(12,.p (iV v12)),(27,.p (.agg [.sl false (x3.L.map Qaa),.sl false (x3.Then.map Qaa),.sl false (x3.Else.map Qaa)])),(28,.p (iV v28)),(34,.fn (.func 125) [] [.p (.ep [.sl false (x7.1.map Qaa)]),.p (.ep [iV x7.2])])],⟨[[.yld Tryz.prog 0 gxs],[.p (iV x3.Kind),.p (sV x3.Name),.p (sV x3.Text),.p (iV x3.N),.p (.sl false (x3.L.map Qaa)),.p (.sl false (x3.Then.map Qaa)),.p (.sl false (x3.Else.map Qaa))]],[gp.length]⟩⟩
noncomputable def Qi7 (p0:(List Qab)) (p1:Int) (v12:Int) (x3:Qab) (v28:Int) (x7:(List Qab)×Int) (gxs:List (List V)) (gq12:List (List V)) (oy:Unit):St:=⟨[(2,.p (.ep [iV p1])),(3,.ptr 0 0),(10,.p (.sl false (p0.map Qaa))),(11,.p (iV (p0.length:Int))),(12,.p (iV v12)),(27,.p (.agg [.sl false (x3.L.map Qaa),.sl false (x3.Then.map Qaa),.sl false (x3.Else.map Qaa)])),(28,.p (iV v28)),(34,.fn (.func 125) [] [.p (.ep [.sl false (x7.1.map Qaa)]),.p (.ep [iV x7.2])])],⟨[[.yld Tryz.prog 0 gxs],[.p (iV x3.Kind),.p (sV x3.Name),.p (sV x3.Text),.p (iV x3.N),.p (.sl false (x3.L.map Qaa)),.p (.sl false (x3.Then.map Qaa)),.p (.sl false (x3.Else.map Qaa))]],[gq12.length]⟩⟩
noncomputable def Qd5:Code:=((loopsOf (Tryz.f125.body.getD .skip)).getD 2 .skip)
noncomputable def Qi8 (p0:(List Qab)) (p1:Int) (v12:Int) (x3:Qab) (v28:Int) (gxs gp:List (List V)):St:=⟨[(2,.p (.ep [iV p1])),(3,.ptr 0 0),(10,.p (.sl false (p0.map Qaa))),(11,.p (iV (p0.length:Int))),(12,.p (iV v12)),(27,.p (.agg [.sl false (x3.L.map Qaa),.sl false (x3.Then.map Qaa),.sl false (x3.Else.map Qaa)])),(28,.p (iV v28))],⟨[[.yld Tryz.prog 0 gxs],[.p (iV x3.Kind),.p (sV x3.Name),.p (sV x3.Text),.p (iV x3.N),.p (.sl false (x3.L.map Qaa)),.p (.sl false (x3.Then.map Qaa)),.p (.sl false (x3.Else.map Qaa))]],[gp.length]⟩⟩
noncomputable def Qni (p0:(List Qab)) (p1:Int) (v12:Int) (x3:Qab) (gxs:List (List V)) (gq4:List (List V)) (oy:Unit):St:=⟨[(2,.p (.ep [iV p1])),(3,.ptr 0 0),(10,.p (.sl false (p0.map Qaa))),(11,.p (iV (p0.length:Int))),(12,.p (iV v12))],⟨[[.yld Tryz.prog 0 gxs],[.p (iV x3.Kind),.p (sV x3.Name),.p (sV x3.Text),.p (iV x3.N),.p (.sl false (x3.L.map Qaa)),.p (.sl false (x3.Then.map Qaa)),.p (.sl false (x3.Else.map Qaa))]],[gq4.length]⟩⟩
noncomputable def Qu4:Code:=((loopsOf (Tryz.f125.body.getD .skip)).getD 1 .skip)
noncomputable def Qi9 (p0:(List Qab)) (p1:Int) (v12:Int) (gxs gp:List (List V)):St:=⟨[(2,.p (.ep [iV p1])),(3,.ptr 0 0),(10,.p (.sl false (p0.map Qaa))),(11,.p (iV (p0.length:Int))),(12,.p (iV v12))],⟨[[.yld Tryz.prog 0 gxs]],[gp.length]⟩⟩
noncomputable def Qnj (p0:(List Qab)) (p1:Int) (gxs:List (List V)) (gq1:List (List V)) (oy:Unit):St:=⟨[],⟨[[.yld Tryz.prog 0 gxs]],[gq1.length]⟩⟩
noncomputable def Qu5:Code:=((loopsOf (Tryz.f125.body.getD .skip)).getD 0 .skip)
noncomputable def Qe6 (y:Bool):D :=.p (bV y)
noncomputable def Qq7:List (Nat×List Nat):=[(0,[0,1]),(1,[0,1,8,9,10]),(2,[0,1,8,9,10,11]),(3,[0,1,5,6,8,9,10]),(4,[0,1,5,6,8,9,10,17]),(5,[4]),(6,[0,1,5,6,7,8,9,10]),(7,[0,1,8,9,10,50]),(8,[4]),(9,[0,1,8,9,10]),(10,[4]),(1000002,[0,1,8,9,10]),(3000007,[])]
noncomputable def Qu6 (p0:(List Qab)) (p1:Bool) (v10:Int) (x4:Qab) (o6:Bool):St:=⟨[(0,.p (.sl false (p0.map Qaa))),(1,.p (bV p1)),(8,.p (.sl false (p0.map Qaa))),(9,.p (iV (p0.length:Int))),(10,.p (iV v10)),(50,.p (bV o6))],⟨[[.p (iV x4.Kind),.p (sV x4.Name),.p (sV x4.Text),.p (iV x4.N),.p (.sl false (x4.L.map Qaa)),.p (.sl false (x4.Then.map Qaa)),.p (.sl false (x4.Else.map Qaa))]],[]⟩⟩
noncomputable def Qja (p0:(List Qab)) (p1:Bool) (v10:Int):St:=⟨[(0,.p (.sl false (p0.map Qaa))),(1,.p (bV p1)),(8,.p (.sl false (p0.map Qaa))),(9,.p (iV (p0.length:Int))),(10,.p (iV v10))],⟨[],[]⟩⟩
noncomputable def Qnk (p0:(List Qab)) (p1:Bool) (y2:Unit):St:=⟨[],⟨[],[]⟩⟩
noncomputable def Qnl (p0:(List Qab)) (p1:Bool) (y3:Unit):St:=⟨[(4,.p (bV false))],⟨[],[]⟩⟩
noncomputable def Qu7:Code:=((loopsOf (Tryz.f72.body.getD .skip)).getD 0 .skip)
noncomputable def Qcb (y:Bool):D :=.p (bV y)
noncomputable def Q18:List (Nat×List Nat):=[(0,[1]),(1,[1,3]),(2,[1,3,4]),(3,[1,3,4,11]),(4,[1,3,4,11,12]),(5,[3,6]),(6,[2]),(7,[1,3,4,11,28]),(8,[2]),(9,[1,3,4,11,35]),(10,[2]),(11,[1,3,4,11,48]),(12,[2]),(13,[1,3,4,11,58]),(14,[2]),(15,[1,3,4,11,68]),(16,[1,3,4]),(17,[2]),(18,[1,3,4,86]),(19,[1,3,4]),(20,[2]),(21,[2]),(3000006,[]),(3000010,[]),(3000012,[]),(3000014,[]),(3000017,[]),(3000020,[])]
noncomputable def Qww (p0:Qab) (x1:Qcn) (o3:Bool):St:=⟨[(2,.p (bV o3))],⟨[[.p (iV p0.Kind),.p (sV p0.Name),.p (sV p0.Text),.p (iV p0.N),.p (.sl false (p0.L.map Qaa)),.p (.sl false (p0.Then.map Qaa)),.p (.sl false (p0.Else.map Qaa))],[.p (bV x1.name_),.p (bV x1.text_),.p (bV x1.num_),.p (bV x1.then_),.p (bV x1.other_),.p (iV x1.l_)],[.p (bV true),.p (bV false),.p (bV false),.p (bV false),.p (bV false),.p (iV 0)]],[]⟩⟩
noncomputable def Qwx (p0:Qab) (x1:Qcn) (o4:Bool):St:=⟨[(2,.p (bV o4))],⟨[[.p (iV p0.Kind),.p (sV p0.Name),.p (sV p0.Text),.p (iV p0.N),.p (.sl false (p0.L.map Qaa)),.p (.sl false (p0.Then.map Qaa)),.p (.sl false (p0.Else.map Qaa))],[.p (bV x1.name_),.p (bV x1.text_),.p (bV x1.num_),.p (bV x1.then_),.p (bV x1.other_),.p (iV x1.l_)],[.p (bV true),.p (bV false),.p (bV false),.p (bV false),.p (bV false),.p (iV 0)]],[]⟩⟩
noncomputable def Qwy (p0:Qab) (x1:Qcn) (o5:Bool):St:=⟨[(2,.p (bV o5))],⟨[[.p (iV p0.Kind),.p (sV p0.Name),.p (sV p0.Text),.p (iV p0.N),.p (.sl false (p0.L.map Qaa)),.p (.sl false (p0.Then.map Qaa)),.p (.sl false (p0.Else.map Qaa))],[.p (bV x1.name_),.p (bV x1.text_),.p (bV x1.num_),.p (bV x1.then_),.p (bV x1.other_),.p (iV x1.l_)],[.p (bV true),.p (bV false),.p (bV false),.p (bV false),.p (bV false),.p (iV 0)]],[]⟩⟩
noncomputable def Qwz (p0:Qab) (x1:Qcn) (o7:Bool):St:=⟨[(2,.p (bV o7))],⟨[[.p (iV p0.Kind),.p (sV p0.Name),.p (sV p0.Text),.p (iV p0.N),.p (.sl false (p0.L.map Qaa)),.p (.sl false (p0.Then.map Qaa)),.p (.sl false (p0.Else.map Qaa))],[.p (bV x1.name_),.p (bV x1.text_),.p (bV x1.num_),.p (bV x1.then_),.p (bV x1.other_),.p (iV x1.l_)],[.p (bV true),.p (bV false),.p (bV false),.p (bV false),.p (bV false),.p (iV 0)]],[]⟩⟩
noncomputable def Qw0 (p0:Qab) (x1:Qcn) (o9:Bool):St:=⟨[(2,.p (bV o9))],⟨[[.p (iV p0.Kind),.p (sV p0.Name),.p (sV p0.Text),.p (iV p0.N),.p (.sl false (p0.L.map Qaa)),.p (.sl false (p0.Then.map Qaa)),.p (.sl false (p0.Else.map Qaa))],[.p (bV x1.name_),.p (bV x1.text_),.p (bV x1.num_),.p (bV x1.then_),.p (bV x1.other_),.p (iV x1.l_)],[.p (bV true),.p (bV false),.p (bV false),.p (bV false),.p (bV false),.p (iV 1)]],[]⟩⟩
noncomputable def Qw1 (p0:Qab) (x1:Qcn) (o13:Bool):St:=⟨[(2,.p (bV o13))],⟨[[.p (iV p0.Kind),.p (sV p0.Name),.p (sV p0.Text),.p (iV p0.N),.p (.sl false (p0.L.map Qaa)),.p (.sl false (p0.Then.map Qaa)),.p (.sl false (p0.Else.map Qaa))],[.p (bV x1.name_),.p (bV x1.text_),.p (bV x1.num_),.p (bV x1.then_),.p (bV x1.other_),.p (iV x1.l_)],[.p (bV true),.p (bV false),.p (bV false),.p (bV false),.p (bV false),.p (iV (if 3<x1.l_ then 3 else x1.l_))]],[]⟩⟩
noncomputable def Qmx (y:Bool):D :=.p (bV y)
noncomputable def Qw2:List (Nat×List Nat):=[(0,[1]),(1,[2])]
noncomputable def Qim (y:Qcn):D :=.p (.agg [bV y.name_,bV y.text_,bV y.num_,bV y.then_,bV y.other_,iV y.l_])
noncomputable def Qu8:List (Nat×List Nat):=[(0,[1,2]),(1,[2])]
noncomputable def Qmy (y:Bool):D :=.p (bV y)
noncomputable def Q19:List (Nat×List Nat):=[(0,[1]),(1,[1,3]),(2,[1,3,4]),(3,[1,3,4,10]),(4,[2]),(5,[1,3,4,10,11]),(6,[2]),(7,[1,3,4,10,22]),(8,[1,3,4,10,24]),(9,[1,3,4]),(10,[1,3,4,10,32]),(11,[1,3,4,10,32]),(12,[1,3,4]),(13,[1,3,4,42]),(14,[1,3,4]),(15,[1,3,4,5]),(16,[2]),(2003032,[]),(2010005,[]),(3000006,[]),(3000015,[]),(3000016,[]),(5000009,[1005,1007]),(5000012,[1006,1008]),(8000009,[2]),(8000012,[2])]
noncomputable def Qw3 (p0:Qab) (x1:Qcn) (y3:Bool×Bool×Bool):St:=⟨[(1,.ptr 0 0),(3,.ptr 1 0),(4,.ptr 2 0)],⟨[[.p (iV p0.Kind),.p (sV p0.Name),.p (sV p0.Text),.p (iV p0.N),.p (.sl false (p0.L.map Qaa)),.p (.sl false (p0.Then.map Qaa)),.p (.sl false (p0.Else.map Qaa))],[.p (bV x1.name_),.p (bV x1.text_),.p (bV x1.num_),.p (bV x1.then_),.p (bV x1.other_),.p (iV x1.l_)],[.p (bV y3.1),.p (bV false),.p (bV false),.p (bV y3.2.1),.p (bV y3.2.2),.p (iV 1)]],[]⟩⟩
noncomputable def Qw4 (p0:Qab) (x1:Qcn) (y4:Bool):St:=⟨[(2,.p (bV y4))],⟨[[.p (iV p0.Kind),.p (sV p0.Name),.p (sV p0.Text),.p (iV p0.N),.p (.sl false (p0.L.map Qaa)),.p (.sl false (p0.Then.map Qaa)),.p (.sl false (p0.Else.map Qaa))],[.p (bV x1.name_),.p (bV x1.text_),.p (bV x1.num_),.p (bV x1.then_),.p (bV x1.other_),.p (iV x1.l_)],[.p (bV false),.p (bV false),.p (bV false),.p (bV false),.p (bV false),.p (iV 1)]],[]⟩⟩
noncomputable def Qw5 (p0:Qab) (x1:Qcn) (o5:Bool):St:=⟨[(2,.p (bV o5))],⟨[[.p (iV p0.Kind),.p (sV p0.Name),.p (sV p0.Text),.p (iV p0.N),.p (.sl false (p0.L.map Qaa)),.p (.sl false (p0.Then.map Qaa)),.p (.sl false (p0.Else.map Qaa))],[.p (bV x1.name_),.p (bV x1.text_),.p (bV x1.num_),.p (bV x1.then_),.p (bV x1.other_),.p (iV x1.l_)],[.p (bV false),.p (bV false),.p (bV false),.p (bV false),.p (bV false),.p (iV 1)]],[]⟩⟩
noncomputable def Qw6 (p0:Qab) (x1:Qcn) (o7:Bool):St:=⟨[(1,.ptr 0 0),(3,.ptr 1 0),(4,.ptr 2 0),(10,.p (iV p0.Kind)),(32,.p (bV o7))],⟨[[.p (iV p0.Kind),.p (sV p0.Name),.p (sV p0.Text),.p (iV p0.N),.p (.sl false (p0.L.map Qaa)),.p (.sl false (p0.Then.map Qaa)),.p (.sl false (p0.Else.map Qaa))],[.p (bV x1.name_),.p (bV x1.text_),.p (bV x1.num_),.p (bV x1.then_),.p (bV x1.other_),.p (iV x1.l_)],[.p (bV false),.p (bV false),.p (bV false),.p (bV false),.p (bV false),.p (iV 1)]],[]⟩⟩
noncomputable def Qw7 (p0:Qab) (x1:Qcn) (y3:Bool×Bool×Bool) (o10:Bool):St:=⟨[(1,.ptr 0 0),(3,.ptr 1 0),(4,.ptr 2 0),(5,.p (bV o10))],⟨[[.p (iV p0.Kind),.p (sV p0.Name),.p (sV p0.Text),.p (iV p0.N),.p (.sl false (p0.L.map Qaa)),.p (.sl false (p0.Then.map Qaa)),.p (.sl false (p0.Else.map Qaa))],[.p (bV x1.name_),.p (bV x1.text_),.p (bV x1.num_),.p (bV x1.then_),.p (bV x1.other_),.p (iV x1.l_)],[.p (bV y3.1),.p (bV false),.p (bV false),.p (bV y3.2.1),.p (bV y3.2.2),.p (iV 1)]],[]⟩⟩
noncomputable def Qw8 (p0:Qab) (x1:Qcn) (y3:Bool×Bool×Bool) (o11:Bool):St:=⟨[(2,.p (bV o11))],⟨[[.p (iV p0.Kind),.p (sV p0.Name),.p (sV p0.Text),.p (iV p0.N),.p (.sl false (p0.L.map Qaa)),.p (.sl false (p0.Then.map Qaa)),.p (.sl false (p0.Else.map Qaa))],[.p (bV x1.name_),.p (bV x1.text_),.p (bV x1.num_),.p (bV x1.then_),.p (bV x1.other_),.p (iV x1.l_)],[.p (bV y3.1),.p (bV false),.p (bV false),.p (bV y3.2.1),.p (bV y3.2.2),.p (iV 1)]],[]⟩⟩
noncomputable def Qt1 (y:Bool):D :=.p (bV y)
noncomputable def Qu9:List (Nat×List Nat):=[(0,[0,2,3,4]),(1,[2,3,4,6]),(2,[2,3,6,8]),(3,[2,3,4,6]),(4,[2,3,4,6,14]),(5,[2]),(6,[2]),(4000002,[2,3,4,6]),(3000004,[])]
noncomputable def Q4a (x1:(List UInt8)) (x2:(Int×Int)) (o9:Bool):St:=⟨[(2,.ptr 0 0),(3,.p (nV .i32 x2.1)),(4,.p (iV x2.2)),(6,.fn (.func 185) [] [.p (.ep [sV x1])]),(14,.p (bV o9))],⟨[[.p (bV false)]],[]⟩⟩
noncomputable def Qgm (x1:(List UInt8)):St:=⟨[(2,.ptr 0 0),(6,.fn (.func 185) [] [.p (.ep [sV x1])])],⟨[[.p (bV false)]],[]⟩⟩
noncomputable def Qol (x1:(List UInt8)) (y7:Unit):St:=⟨[(2,.ptr 0 0),(6,.fn (.func 185) [] [.p (.ep [sV x1])])],⟨[[.p (bV false)]],[]⟩⟩
noncomputable def Qom (x1:(List UInt8)) (y8:Unit):St:=⟨[(2,.ptr 0 0)],⟨[[.p (bV false)]],[]⟩⟩
noncomputable def Qh7:Code:=((loopsOf (Tryz.f168.body.getD .skip)).getD 0 .skip)
noncomputable def Qjx (y:Int×Int):D :=.tup [.p (nV .i32 y.1),.p (iV y.2)]
noncomputable def Q4b:List (Nat×List Nat):=[(0,[0,1]),(1,[0,1,17]),(2,[4,5]),(3,[0,1,6]),(4,[4,5]),(5,[0,1,6,21]),(6,[4,5]),(7,[0,1,6,26]),(8,[0,1,4,7,8]),(9,[0,1,6,36]),(10,[0,1,4,7,8]),(11,[0,1,6,46]),(12,[0,1,4,7,8]),(13,[4,7,8,9]),(14,[4,8,77]),(15,[4,5]),(16,[4,5]),(2004022,[]),(3000001,[]),(3000007,[]),(3000009,[]),(3000011,[]),(3000014,[])]
noncomputable def Qz1 (p0:(List UInt8)) (p1:Int) (o1:Bool):St:=⟨[(0,.p (sV p0)),(1,.p (iV p1)),(17,.p (bV o1))],⟨[],[]⟩⟩
noncomputable def Qz2 (p0:(List UInt8)) (p1:Int) (y4:Int×Int×Int):St:=⟨[(0,.p (sV p0)),(1,.p (iV p1)),(4,.p (nV .i32 y4.1)),(7,.p (nV .i32 y4.2.1)),(8,.p (iV y4.2.2))],⟨[],[]⟩⟩
noncomputable def Qz3 (p0:(List UInt8)) (p1:Int) (y5:Int):St:=⟨[(4,.p (nV .i32 y5)),(5,.p (iV 1))],⟨[],[]⟩⟩
noncomputable def Qz4 (p0:(List UInt8)) (p1:Int) (x2:UInt8) (o6:Bool):St:=⟨[(0,.p (sV p0)),(1,.p (iV p1)),(6,.p (nV .u8 (x2.toNat:Int))),(26,.p (bV o6))],⟨[],[]⟩⟩
noncomputable def Qz5 (p0:(List UInt8)) (p1:Int) (x2:UInt8) (o7:Bool):St:=⟨[(0,.p (sV p0)),(1,.p (iV p1)),(6,.p (nV .u8 (x2.toNat:Int))),(36,.p (bV o7))],⟨[],[]⟩⟩
noncomputable def Qz6 (p0:(List UInt8)) (p1:Int) (x2:UInt8) (o8:Bool):St:=⟨[(0,.p (sV p0)),(1,.p (iV p1)),(6,.p (nV .u8 (x2.toNat:Int))),(46,.p (bV o8))],⟨[],[]⟩⟩
noncomputable def Qz7 (y4:Int×Int×Int) (x10:Int×Bool) (o11:Bool):St:=⟨[(4,.p (nV .i32 x10.1)),(8,.p (iV y4.2.2)),(77,.p (bV o11))],⟨[],[]⟩⟩
noncomputable def Qva (y:(List UInt8)):D :=.fn (.func 185) [] [.p (.ep [sV y])]
noncomputable def Q6c:List (Nat×List Nat):=[(0,[1]),(1,[2])]
noncomputable def Qe7 (y:(Int×Int)):List V:=[nV .i32 y.1,iV y.2]
noncomputable def Qsw:List (Nat×List Nat):=[(0,[0,1,3]),(1,[0,1,3,9]),(2,[0,1,3,4,5]),(3,[0,1,3,5,20]),(4,[0,1,3]),(1000001,[0,1,3])]
noncomputable def Qhb (p0:(List UInt8)) (v3:Int) (gxs gp:List (List V)):St:=⟨[(0,.yld Tryz.prog 0 gxs),(1,.p (.ep [sV p0])),(3,.p (iV v3))],⟨[],[gp.length]⟩⟩
noncomputable def Qks (p0:(List UInt8)) (gxs:List (List V)) (gq1:List (List V)) (oy:Unit):St:=⟨[],⟨[],[gq1.length]⟩⟩
noncomputable def Qpy:Code:=((loopsOf (Tryz.f185.body.getD .skip)).getD 0 .skip)
noncomputable def Qz8 (y:Bool):D :=.p (bV y)
noncomputable def Q7o:List (Nat×List Nat):=[(0,[0]),(1,[2]),(3000001,[])]
noncomputable def Q4c  (o1:Bool):St:=⟨[(2,.p (bV o1))],⟨[],[]⟩⟩
noncomputable def Ql7 (y:Int×Bool):D :=.tup [.p (nV .i32 y.1),.p (bV y.2)]
noncomputable def Qvb:List (Nat×List Nat):=[(0,[0,1,2]),(1,[0,1,2,12]),(2,[6,7]),(3,[0,1,13,14]),(4,[0,1,13,14,15]),(5,[0,1,8,13,14]),(6,[0,1,8,13,14,21]),(7,[6,7]),(8,[0,1,13,14]),(9,[0,1,13,14]),(10,[6,7]),(1000004,[0,1,13,14])]
noncomputable def Qin (p0:(List UInt8)) (p2:Int) (v1:Int) (v14:Int):St:=⟨[(0,.p (sV p0)),(1,.p (nV .i32 v1)),(13,.p (iV p2)),(14,.p (iV v14))],⟨[],[]⟩⟩
noncomputable def Qlx (p0:(List UInt8)) (p2:Int) (y2:Int):St:=⟨[(1,.p (nV .i32 y2))],⟨[],[]⟩⟩
noncomputable def Qly (p0:(List UInt8)) (p2:Int) (y3:Unit):St:=⟨[(6,.p (nV .i32 0)),(7,.p (bV false))],⟨[],[]⟩⟩
noncomputable def Qq8:Code:=((loopsOf (Tryz.f187.body.getD .skip)).getD 0 .skip)
noncomputable def Ql8 (p0:(List UInt8)) (p1:(List UInt8)) (p2:Int):Option (Bool) :=
 ( if(decide (p2 ≥ 0)) then
   if(decide (p2≤(p0.length:Int))) then
    if(decide ((p1.length:Int)≤(wr ((p0.length:Int)-p2)))) then
     cutL p0 p2 (wr (p2+(p1.length:Int)))>>=fun x2 =>
     some (x2==p1)
    else
     some false
   else
    some false
  else
   some false:Option (Bool))>>=fun o1 =>
 some o1
theorem Qz9:∀ (p0:(List UInt8)) (p1:(List UInt8)) (p2:Int) (o:Bool),Ql8 p0 p1 p2=some o→PCall Tryz.prog 141 [sV p0,sV p1,iV p2] (Qn3 o):=by
 intro p0 p1 p2 o h
 unfold Ql8 at h
 refine PCall.ofB mixed tbOk Qy8 Tryz.func141 rfl (by kernel_rfl) (Nat.le_of_ble_eq_true rfl) ?_
 refine Qag h (fun o1 ho hk=>?_)
 refine Exists.intro (JP1 _ _ o1 .normal (Qur )) (And.intro ?_ (join1 ?_))
 ·have h:=ho
  refine Qae h (fun hb h=>?_) (fun hb h=>?_)
  ·refine vrfl ?_
   refine Qae h (fun hb h=>?_) (fun hb h=>?_)
   ·refine vrfl ?_
    refine vrfl ?_
    refine Qae h (fun hb h=>?_) (fun hb h=>?_)
    ·refine vrfl ?_
     refine Qn0 (some p2) (some (wr (p2+(p1.length:Int)))) h (fun x2 hi h=>?_)
     refine JP1.a h ?_
     exact Le.tz 0 0 rfl rfl rfl
    ·refine JP1.a h ?_
     exact Le.tz 0 0 rfl rfl rfl
   ·refine bF ?_
    refine JP1.a h ?_
    exact Le.tz 0 0 rfl rfl rfl
  ·refine bF ?_
   refine bF ?_
   refine JP1.a h ?_
   exact Le.tz 0 0 rfl rfl rfl
 ·have h:=hk
  refine Qal (t:=Qn3) h ?_
  exact .refl _
noncomputable def Qe8 (p0:(List (List UInt8))) (p1:(List (List UInt8))) (v5:Int):Option (Unit⊕Unit) :=
 if(decide (v5<(p0.length:Int))) then
  idx p0 v5>>=fun x4 =>
  idx p1 v5>>=fun x5 =>
  if(!(x4==x5)) then
   some (.inr ())
  else
   Qe8 p0 p1 (wr (v5+1))
 else
  some (.inl ())
 partial_fixpoint
theorem Qvc:∀ (p0:(List (List UInt8))) (p1:(List (List UInt8))),(∀ (v5:Int) (o1:Unit⊕Unit),Qe8 p0 p1 v5=some o1→TL (0,0) Tryz.prog 26 Qqs (JP2 (0,0) 26 o1 (.exit 0) (Qle p0 p1) .ret (Qlf p0 p1)) (Qid p0 p1 v5)):=by
 intro p0 p1
 refine Qe8.partial_correctness p0 p1 _ ?_
 intro Qe8' iQe8 v5 o1 h
 refine TL.round (Qai mixed tbOk (lv:=Qus) _ _ _ ?_)
 refine view (lenMap _ _) rfl ?_
 refine Qae h (fun hb h=>?_) (fun hb h=>?_)
 ·refine And.intro (by decide +kernel) (And.intro rfl ?_)
  refine Qa5 (l:=p0) (c:=cStr) (c' := cStr) h (fun _=>rfl) (fun _=>rfl) (by decide) (fun x4 hi h=>?_)
  refine Qa5 (l:=p1) (c:=cStr) (c' := cStr) h (fun _=>rfl) (fun _=>rfl) (by decide) (fun x5 hi h=>?_)
  refine Qae h (fun hb h=>?_) (fun hb h=>?_)
  ·exact JP2.b h (Le.tz 0 0 rfl rfl rfl)
  ·refine TL.le (τ := Qid p0 p1 (wr (v5+1))) ?_ ((iQe8 (wr (v5+1)) _ h))
   exact Le.tz 0 0 rfl rfl rfl
 ·exact JP2.a h (Le.tz 0 0 rfl rfl rfl)
theorem Qw9:∀ (p0:(List (List UInt8))) (p1:(List (List UInt8))) (v5:Int) (o1:Unit⊕Unit),Qe8 p0 p1 v5=some o1→TL (0,0) Tryz.prog 26 Qqs (JP2 (0,0) 26 o1 (.exit 0) (Qle p0 p1) .ret (Qlf p0 p1)) (Qid p0 p1 v5):=fun p0 p1 v5=>(Qvc p0 p1) v5
noncomputable def Qk9 (p0:(List (List UInt8))) (p1:(List (List UInt8))):Option (Bool) :=
 if((p0.length:Int) != (p1.length:Int)) then
  some false
 else
  (Qe8 p0 p1 0)>>=fun o1 =>
  match o1 with
  | .inl y2 =>
   some true
  | .inr y3 =>
   some false
theorem Qmz:∀ (p0:(List (List UInt8))) (p1:(List (List UInt8))) (o:Bool),Qk9 p0 p1=some o→PCall Tryz.prog 17 [.sl false (p0.map cStr),.sl false (p1.map cStr)] (Qgi o):=by
 intro p0 p1 o h
 unfold Qk9 at h
 refine PCall.ofB mixed tbOk Qus Tryz.func17 rfl (by kernel_rfl) (Nat.le_of_ble_eq_true rfl) ?_
 refine view (lenMap _ _) rfl ?_
 refine view (lenMap _ _) rfl ?_
 refine Qae h (fun hb h=>?_) (fun hb h=>?_)
 ·refine Qal (t:=Qgi) h ?_
  exact .refl _
 ·refine Qag h (fun o1 ho hk=>?_)
  refine Exists.intro (JP2 _ _ o1 (.exit 0) (Qle p0 p1) .ret (Qlf p0 p1)) (And.intro (T_le (τ := Qid p0 p1 0) ?_ (TL.loop (Qw9 p0 p1 0 o1 ho))) (join2 (fun y2 hy=>?_) (fun y3 hy=>?_)))
  ·exact Le.tz 0 0 rfl rfl rfl
  ·have h:=(by rw[hy] at hk; exact hk)
   refine Qal (t:=Qgi) h ?_
   exact .refl _
  ·have h:=(by rw[hy] at hk; exact hk)
   refine Qal (t:=Qgi) h ?_
   exact .refl _
noncomputable def Qm0 (p0:Int):Option (Bool) :=
 ( if(decide (p0 ≥ 0)) then
   if(decide (p0≤1114111)) then
    if(decide (p0 ≥ 55296)) then
     some (!(decide (p0≤57343)))
    else
     some true
   else
    some false
  else
   some false:Option (Bool))>>=fun o1 =>
 some o1
theorem Qvd:∀ (p0:Int) (o:Bool),Qm0 p0=some o→PCall Tryz.prog 180 [iV p0] (Qo8 o):=by
 intro p0 o h
 unfold Qm0 at h
 refine PCall.ofB mixed tbOk Q34 Tryz.func180 rfl (by kernel_rfl) (Nat.le_of_ble_eq_true rfl) ?_
 refine Qag h (fun o1 ho hk=>?_)
 refine Exists.intro (JP1 _ _ o1 .normal (Qzc )) (And.intro ?_ (join1 ?_))
 ·have h:=ho
  refine Qae h (fun hb h=>?_) (fun hb h=>?_)
  ·refine Qae h (fun hb h=>?_) (fun hb h=>?_)
   ·refine Qae h (fun hb h=>?_) (fun hb h=>?_)
    ·refine JP1.a h ?_
     exact Le.tz 0 0 rfl rfl rfl
    ·refine JP1.a h ?_
     exact Le.tz 0 0 rfl rfl rfl
   ·refine JP1.a h ?_
    exact Le.tz 0 0 rfl rfl rfl
  ·refine bF ?_
   refine JP1.a h ?_
   exact Le.tz 0 0 rfl rfl rfl
 ·have h:=hk
  refine Qal (t:=Qo8) h ?_
  exact .refl _
noncomputable def Ql9 (p0:Int):Option ((List UInt8)) :=
 ( Qm0 p0>>=fun x2 =>
  if(!x2) then
   some 65533
  else
   some p0:Option (Int))>>=fun o1 =>
 if(decide (o1<128)) then
  b2s [(IntKind.u8.wrap o1)]>>=fun x3 =>
  some x3
 else
  if(decide (o1<2048)) then
   b2s [(IntKind.u8.wrap (wr (192+(wr (o1.tdiv 64))))),(IntKind.u8.wrap (wr (128+(o1.tmod 64))))]>>=fun x4 =>
   some x4
  else
   if(decide (o1<65536)) then
    b2s [(IntKind.u8.wrap (wr (224+(wr (o1.tdiv 4096))))),(IntKind.u8.wrap (wr (128+((wr (o1.tdiv 64)).tmod 64)))),(IntKind.u8.wrap (wr (128+(o1.tmod 64))))]>>=fun x5 =>
    some x5
   else
    b2s [(IntKind.u8.wrap (wr (240+(wr (o1.tdiv 262144))))),(IntKind.u8.wrap (wr (128+((wr (o1.tdiv 4096)).tmod 64)))),(IntKind.u8.wrap (wr (128+((wr (o1.tdiv 64)).tmod 64)))),(IntKind.u8.wrap (wr (128+(o1.tmod 64))))]>>=fun x6 =>
    some x6
theorem Q2a:∀ (p0:Int) (o:(List UInt8)),Ql9 p0=some o→PCall Tryz.prog 181 [iV p0] (Qhs o):=by
 intro p0 o h
 unfold Ql9 at h
 refine PCall.ofB mixed tbOk Q1y Tryz.func181 rfl (by kernel_rfl) (Nat.le_of_ble_eq_true rfl) ?_
 refine Qag h (fun o1 ho hk=>?_)
 refine Exists.intro (JP1 _ _ o1 .normal (Qwf )) (And.intro ?_ (join1 ?_))
 ·have h:=ho
  refine Qah [iV p0] Qo8 h (fun x2 hy=>(Qvd p0 x2 hy)) (fun x2 hy h=>?_)
  refine Qae h (fun hb h=>?_) (fun hb h=>?_)
  ·refine JP1.a h ?_
   exact Le.tz 0 0 rfl rfl rfl
  ·refine JP1.a h ?_
   exact Le.tz 0 0 rfl rfl rfl
 ·have h:=hk
  refine Qae h (fun hb h=>?_) (fun hb h=>?_)
  ·refine vrfl ?_
   refine Q1u (l:=[(IntKind.u8.wrap o1)]) h (fun x3 hi h=>?_)
   refine Qal (t:=Qhs) h ?_
   exact .refl _
  ·refine Qae h (fun hb h=>?_) (fun hb h=>?_)
   ·refine And.intro (by decide) ?_
    refine vrfl ?_
    refine And.intro (by decide) ?_
    refine vrfl ?_
    refine Q1u (l:=[(IntKind.u8.wrap (wr (192+(wr (o1.tdiv 64))))),(IntKind.u8.wrap (wr (128+(o1.tmod 64))))]) h (fun x4 hi h=>?_)
    refine Qal (t:=Qhs) h ?_
    exact .refl _
   ·refine Qae h (fun hb h=>?_) (fun hb h=>?_)
    ·refine And.intro (by decide) ?_
     refine vrfl ?_
     refine And.intro (by decide) ?_
     refine And.intro (by decide) ?_
     refine vrfl ?_
     refine And.intro (by decide) ?_
     refine vrfl ?_
     refine Q1u (l:=[(IntKind.u8.wrap (wr (224+(wr (o1.tdiv 4096))))),(IntKind.u8.wrap (wr (128+((wr (o1.tdiv 64)).tmod 64)))),(IntKind.u8.wrap (wr (128+(o1.tmod 64))))]) h (fun x5 hi h=>?_)
     refine Qal (t:=Qhs) h ?_
     exact .refl _
    ·refine And.intro (by decide) ?_
     refine vrfl ?_
     refine And.intro (by decide) ?_
     refine And.intro (by decide) ?_
     refine vrfl ?_
     refine And.intro (by decide) ?_
     refine And.intro (by decide) ?_
     refine vrfl ?_
     refine And.intro (by decide) ?_
     refine vrfl ?_
     refine Q1u (l:=[(IntKind.u8.wrap (wr (240+(wr (o1.tdiv 262144))))),(IntKind.u8.wrap (wr (128+((wr (o1.tdiv 4096)).tmod 64)))),(IntKind.u8.wrap (wr (128+((wr (o1.tdiv 64)).tmod 64)))),(IntKind.u8.wrap (wr (128+(o1.tmod 64))))]) h (fun x6 hi h=>?_)
     refine Qal (t:=Qhs) h ?_
     exact .refl _
noncomputable def Qe9 (p0:(List UInt8)) (p1:Int) (v6:(List Int)) (v7:Int) (v8:Int) (v9:Int):Option (Int) :=
 if(decide (v9<v7)) then
  idx p0 (wr (p1+v9))>>=fun x9 =>
  Qe9 p0 p1 v6 v7 (wr ((wr ((wr (64*v8))+(wr (x9.toNat:Int))))-128)) (wr (v9+1))
 else
  some v8
 partial_fixpoint
theorem Qve:∀ (p0:(List UInt8)) (p1:Int) (v6:(List Int)) (v7:Int),(∀ (v8:Int) (v9:Int) (o8:Int),Qe9 p0 p1 v6 v7 v8 v9=some o8→TL (0,0) Tryz.prog 74 Qqt (JP1 (0,0) 74 o8 (.exit 2) (Qlg p0 p1 v6 v7)) (Qie p0 p1 v6 v7 v8 v9)):=by
 intro p0 p1 v6 v7
 refine Qe9.partial_correctness p0 p1 v6 v7 _ ?_
 intro Qe9' iQe9 v8 v9 o8 h
 refine TL.round (Qai mixed tbOk (lv:=Qp5) _ _ _ ?_)
 refine Qae h (fun hb h=>?_) (fun hb h=>?_)
 ·refine Qfx h (fun x9 hi h=>?_)
  refine vrfl ?_
  refine TL.le (τ := Qie p0 p1 v6 v7 (wr ((wr ((wr (64*v8))+(wr (x9.toNat:Int))))-128)) (wr (v9+1))) ?_ ((iQe9 (wr ((wr ((wr (64*v8))+(wr (x9.toNat:Int))))-128)) (wr (v9+1)) _ h))
  exact Le.tz 0 0 rfl rfl rfl
 ·exact JP1.a h (Le.tz 0 0 rfl rfl rfl)
theorem Qxa:∀ (p0:(List UInt8)) (p1:Int) (v6:(List Int)) (v7:Int) (v8:Int) (v9:Int) (o8:Int),Qe9 p0 p1 v6 v7 v8 v9=some o8→TL (0,0) Tryz.prog 74 Qqt (JP1 (0,0) 74 o8 (.exit 2) (Qlg p0 p1 v6 v7)) (Qie p0 p1 v6 v7 v8 v9):=fun p0 p1 v6 v7 v8 v9=>(Qve p0 p1 v6 v7) v8 v9
noncomputable def Qc7 (p0:(List UInt8)) (p1:Int) (v6:(List Int)) (v7:Int):Option (Unit⊕(Int×Int)) :=
 ( if(decide (v7≤4)) then
   some (decide (v7≤(wr ((p0.length:Int)-p1))))
  else
   some false:Option (Bool))>>=fun o5 =>
 if o5 then
  idx p0 p1>>=fun x6 =>
  idx v6 v7>>=fun x7 =>
  (Qe9 p0 p1 v6 v7 (wr ((wr (x6.toNat:Int))-x7)) 1)>>=fun o8 =>
  ( if(decide (o8 ≥ 0)) then
    Qm0 o8>>=fun x11 =>
    if x11 then
     Ql9 o8>>=fun x12 =>
     cutL p0 p1 (wr (p1+v7))>>=fun x13 =>
     some (x12==x13)
    else
     some false
   else
    some false:Option (Bool))>>=fun o10 =>
  if o10 then
   some (.inr (o8,v7))
  else
   Qc7 p0 p1 v6 (wr (v7+1))
 else
  some (.inl ())
 partial_fixpoint
theorem Qvf:∀ (p0:(List UInt8)) (p1:Int) (v6:(List Int)),(∀ (v7:Int) (o2:Unit⊕(Int×Int)),Qc7 p0 p1 v6 v7=some o2→TL (0,0) Tryz.prog 74 Qqu (JP2 (0,0) 74 o2 (.exit 0) (Qlh p0 p1) .ret (Qli p0 p1)) (Qif p0 p1 v6 v7)):=by
 intro p0 p1 v6
 refine Qc7.partial_correctness p0 p1 v6 _ ?_
 intro Qc7' iQc7 v7 o2 h
 refine TL.round (Qai mixed tbOk (lv:=Qp5) _ _ _ ?_)
 refine Qag h (fun o5 ho hk=>?_)
 refine Exists.intro (JP1 _ _ o5 .normal (Qza p0 p1 v6 v7)) (And.intro ?_ (join1 ?_))
 ·have h:=ho
  refine Qae h (fun hb h=>?_) (fun hb h=>?_)
  ·refine vrfl ?_
   refine JP1.a h ?_
   exact Le.tz 0 0 rfl rfl rfl
  ·refine JP1.a h ?_
   exact Le.tz 0 0 rfl rfl rfl
 ·have h:=hk
  refine Qae h (fun hb h=>?_) (fun hb h=>?_)
  ·refine And.intro (by decide +kernel) (And.intro rfl ?_)
   refine Qfx h (fun x6 hi h=>?_)
   refine vrfl ?_
   refine Qa5 (l:=v6) (c:=cInt) (c' := cInt) h (fun _=>rfl) (fun _=>rfl) (by decide) (fun x7 hi h=>?_)
   refine Qag h (fun o8 ho hk=>?_)
   refine Exists.intro (JP1 _ _ o8 (.exit 2) (Qlg p0 p1 v6 v7)) (And.intro (T_le (τ := Qie p0 p1 v6 v7 (wr ((wr (x6.toNat:Int))-x7)) 1) ?_ (TL.loop (Qxa p0 p1 v6 v7 (wr ((wr (x6.toNat:Int))-x7)) 1 o8 ho))) (join1 ?_))
   ·exact Le.tz 0 0 rfl rfl rfl
   have h:=hk
   refine Qag h (fun o10 ho hk=>?_)
   refine Exists.intro (JP1 _ _ o10 .normal (Qzb p0 p1 v6 v7 o8)) (And.intro ?_ (join1 ?_))
   ·have h:=ho
    refine And.intro (by decide +kernel) (And.intro rfl ?_)
    refine Qae h (fun hb h=>?_) (fun hb h=>?_)
    ·refine Qfn [iV o8] Qo8 h (fun x11 hy=>(Qvd o8 x11 hy)) (fun x11 hy h=>?_)
     refine Qae h (fun hb h=>?_) (fun hb h=>?_)
     ·refine Qfn [iV o8] Qhs h (fun x12 hy=>(Q2a o8 x12 hy)) (fun x12 hy h=>?_)
      refine Qn0 (some p1) (some (wr (p1+v7))) h (fun x13 hi h=>?_)
      refine JP1.a h ?_
      exact Le.tz 0 0 rfl rfl rfl
     ·refine JP1.a h ?_
      exact Le.tz 0 0 rfl rfl rfl
    ·refine bF ?_
     refine JP1.a h ?_
     exact Le.tz 0 0 rfl rfl rfl
   ·have h:=hk
    refine Qae h (fun hb h=>?_) (fun hb h=>?_)
    ·exact JP2.b h (Le.tz 0 0 rfl rfl rfl)
    ·refine TL.le (τ := Qif p0 p1 v6 (wr (v7+1))) ?_ ((iQc7 (wr (v7+1)) _ h))
     exact Le.tz 0 0 rfl rfl rfl
  ·exact JP2.a h (Le.tz 0 0 rfl rfl rfl)
theorem Qxb:∀ (p0:(List UInt8)) (p1:Int) (v6:(List Int)) (v7:Int) (o2:Unit⊕(Int×Int)),Qc7 p0 p1 v6 v7=some o2→TL (0,0) Tryz.prog 74 Qqu (JP2 (0,0) 74 o2 (.exit 0) (Qlh p0 p1) .ret (Qli p0 p1)) (Qif p0 p1 v6 v7):=fun p0 p1 v6 v7=>(Qvf p0 p1 v6) v7
noncomputable def Qq9 (p0:(List UInt8)) (p1:Int):Option (Int×Int) :=
 ( if(decide (p1<0)) then
   some true
  else
   some (decide (p1 ≥ (p0.length:Int))):Option (Bool))>>=fun o1 =>
 if o1 then
  some (0,0)
 else
  (Qc7 p0 p1 [0,0,192,224,240] 1)>>=fun o2 =>
  match o2 with
  | .inl y3 =>
   some (65533,1)
  | .inr y4 =>
   some (y4.1,y4.2)
theorem Q4d:∀ (p0:(List UInt8)) (p1:Int) (o:Int×Int),Qq9 p0 p1=some o→PCall Tryz.prog 171 [sV p0,iV p1] (Ql4 o):=by
 intro p0 p1 o h
 unfold Qq9 at h
 refine PCall.ofB mixed tbOk Qp5 Tryz.func171 rfl (by kernel_rfl) (Nat.le_of_ble_eq_true rfl) ?_
 refine Qag h (fun o1 ho hk=>?_)
 refine Exists.intro (JP1 _ _ o1 .normal (Qy9 p0 p1)) (And.intro ?_ (join1 ?_))
 ·have h:=ho
  refine Qae h (fun hb h=>?_) (fun hb h=>?_)
  ·refine JP1.a h ?_
   exact Le.tz 0 0 rfl rfl rfl
  ·refine vrfl ?_
   refine JP1.a h ?_
   exact Le.tz 0 0 rfl rfl rfl
 ·have h:=hk
  refine Qae h (fun hb h=>?_) (fun hb h=>?_)
  ·refine Qal (t:=Ql4) h ?_
   exact .refl _
  ·refine Qag h (fun o2 ho hk=>?_)
   refine Exists.intro (JP2 _ _ o2 (.exit 0) (Qlh p0 p1) .ret (Qli p0 p1)) (And.intro (T_le (τ := Qif p0 p1 [0,0,192,224,240] 1) ?_ (TL.loop (Qxb p0 p1 [0,0,192,224,240] 1 o2 ho))) (join2 (fun y3 hy=>?_) (fun y4 hy=>?_)))
   ·exact Le.tz 0 0 rfl rfl rfl
   ·have h:=(by rw[hy] at hk; exact hk)
    refine Qal (t:=Ql4) h ?_
    exact .refl _
   ·have h:=(by rw[hy] at hk; exact hk)
    refine Qal (t:=Ql4) h ?_
    exact .refl _
noncomputable def Qhc (p0:(List UInt8)) (v3:Int):Option (Unit⊕Unit) :=
 if(decide (v3<(p0.length:Int))) then
  Qq9 p0 v3>>=fun x4 =>
  ( if(x4.1==65533) then
    some (x4.2==1)
   else
    some false:Option (Bool))>>=fun o5 =>
  if o5 then
   some (.inr ())
  else
   Qhc p0 (wr (v3+x4.2))
 else
  some (.inl ())
 partial_fixpoint
theorem Q0a:∀ (p0:(List UInt8)),(∀ (v3:Int) (o1:Unit⊕Unit),Qhc p0 v3=some o1→TL (0,0) Tryz.prog 25 Qut (JP2 (0,0) 25 o1 (.exit 0) (Qn4 p0) .ret (Qn5 p0)) (Qk2 p0 v3)):=by
 intro p0
 refine Qhc.partial_correctness p0 _ ?_
 intro Qhc' iQhc v3 o1 h
 refine TL.round (Qai mixed tbOk (lv:=Q1z) _ _ _ ?_)
 refine vrfl ?_
 refine Qae h (fun hb h=>?_) (fun hb h=>?_)
 ·refine Qah [sV p0,iV v3] Ql4 h (fun x4 hy=>(Q4d p0 v3 x4 hy)) (fun x4 hy h=>?_)
  refine Qag h (fun o5 ho hk=>?_)
  refine Exists.intro (JP1 _ _ o5 .normal (Q33 p0 v3 x4)) (And.intro ?_ (join1 ?_))
  ·have h:=ho
   refine Qae h (fun hb h=>?_) (fun hb h=>?_)
   ·refine JP1.a h ?_
    exact Le.tz 0 0 rfl rfl rfl
   ·refine JP1.a h ?_
    exact Le.tz 0 0 rfl rfl rfl
  ·have h:=hk
   refine Qae h (fun hb h=>?_) (fun hb h=>?_)
   ·exact JP2.b h (Le.tz 0 0 rfl rfl rfl)
   ·refine TL.le (τ := Qk2 p0 (wr (v3+x4.2))) ?_ ((iQhc (wr (v3+x4.2)) _ h))
    exact Le.tz 0 0 rfl rfl rfl
 ·exact JP2.a h (Le.tz 0 0 rfl rfl rfl)
theorem Q2b:∀ (p0:(List UInt8)) (v3:Int) (o1:Unit⊕Unit),Qhc p0 v3=some o1→TL (0,0) Tryz.prog 25 Qut (JP2 (0,0) 25 o1 (.exit 0) (Qn4 p0) .ret (Qn5 p0)) (Qk2 p0 v3):=fun p0 v3=>(Q0a p0) v3
noncomputable def Q2c (p0:(List UInt8)):Option (Bool) :=
 (Qhc p0 0)>>=fun o1 =>
 match o1 with
 | .inl y2 =>
  some true
 | .inr y3 =>
  some false
theorem Q7p:∀ (p0:(List UInt8)) (o:Bool),Q2c p0=some o→PCall Tryz.prog 179 [sV p0] (Qt0 o):=by
 intro p0 o h
 unfold Q2c at h
 refine PCall.ofB mixed tbOk Q1z Tryz.func179 rfl (by kernel_rfl) (Nat.le_of_ble_eq_true rfl) ?_
 refine Qag h (fun o1 ho hk=>?_)
 refine Exists.intro (JP2 _ _ o1 (.exit 0) (Qn4 p0) .ret (Qn5 p0)) (And.intro (T_le (τ := Qk2 p0 0) ?_ (TL.loop (Q2b p0 0 o1 ho))) (join2 (fun y2 hy=>?_) (fun y3 hy=>?_)))
 ·exact Le.tz 0 0 rfl rfl rfl
 ·have h:=(by rw[hy] at hk; exact hk)
  refine Qal (t:=Qt0) h ?_
  exact .refl _
 ·have h:=(by rw[hy] at hk; exact hk)
  refine Qal (t:=Qt0) h ?_
  exact .refl _
noncomputable def Qdm (p0:(List UInt8)) (v4:(List UInt8)) (v5:Int):Option ((List UInt8)⊕Unit) :=
 if(decide (v5<(p0.length:Int))) then
  cutL p0 v5 (wr (v5+1))>>=fun x5 =>
  if(x5==[13]) then
   some (.inr ())
  else
   ( if(x5==[10]) then
     some [92,110]
    else
     if(x5==[9]) then
      some [92,116]
     else
      ( if(x5==[34]) then
        some true
       else
        some (x5==[92]):Option (Bool))>>=fun o7 =>
      if o7 then
       need ([92].length+x5.length≤9223372036854775807)>>=fun _ =>
       some ([92]++x5)
      else
       some x5:Option ((List UInt8)))>>=fun o6 =>
   need (v4.length+o6.length≤9223372036854775807)>>=fun _ =>
   Qdm p0 (v4++o6) (wr (v5+1))
 else
  some (.inl v4)
 partial_fixpoint
theorem Qs6:∀ (p0:(List UInt8)),(∀ (v4:(List UInt8)) (v5:Int) (o2:(List UInt8)⊕Unit),Qdm p0 v4 v5=some o2→TL (0,0) Tryz.prog 40 Qpk (JP2 (0,0) 40 o2 (.exit 0) (Qj7 p0) .ret (Qj8 p0)) (Qgu p0 v4 v5)):=by
 intro p0
 refine Qdm.partial_correctness p0 _ ?_
 intro Qdm' iQdm v4 v5 o2 h
 refine TL.round (Qai mixed tbOk (lv:=Qsq) _ _ _ ?_)
 refine vrfl ?_
 refine Qae h (fun hb h=>?_) (fun hb h=>?_)
 ·refine Qn0 (some v5) (some (wr (v5+1))) h (fun x5 hi h=>?_)
  refine Qae h (fun hb h=>?_) (fun hb h=>?_)
  ·exact JP2.b h (Le.tz 0 0 rfl rfl rfl)
  ·refine Qag h (fun o6 ho hk=>?_)
   refine Exists.intro (JP1 _ _ o6 .normal (Qwg p0 v4 v5)) (And.intro ?_ (join1 ?_))
   ·have h:=ho
    refine Qae h (fun hb h=>?_) (fun hb h=>?_)
    ·refine JP1.a h ?_
     exact Le.tz 0 0 rfl rfl rfl
    ·refine Qae h (fun hb h=>?_) (fun hb h=>?_)
     ·refine JP1.a h ?_
      exact Le.tz 0 0 rfl rfl rfl
     ·refine Qag h (fun o7 ho hk=>?_)
      refine Exists.intro (JP1 _ _ o7 .normal (Qwh p0 v4 v5 x5)) (And.intro ?_ (join1 ?_))
      ·have h:=ho
       refine Qae h (fun hb h=>?_) (fun hb h=>?_)
       ·refine JP1.a h ?_
        exact Le.tz 0 0 rfl rfl rfl
       ·refine JP1.a h ?_
        exact Le.tz 0 0 rfl rfl rfl
      ·have h:=hk
       refine Qae h (fun hb h=>?_) (fun hb h=>?_)
       ·refine Q30 h (fun h=>?_)
        refine JP1.a h ?_
        exact Le.tz 0 0 rfl rfl rfl
       ·refine JP1.a h ?_
        exact Le.tz 0 0 rfl rfl rfl
   ·have h:=hk
    refine Q30 h (fun h=>?_)
    refine TL.le (τ := Qgu p0 (v4++o6) (wr (v5+1))) ?_ ((iQdm (v4++o6) (wr (v5+1)) _ h))
    exact Le.tz 0 0 rfl rfl rfl
 ·exact JP2.a h (Le.tz 0 0 rfl rfl rfl)
theorem Qvg:∀ (p0:(List UInt8)) (v4:(List UInt8)) (v5:Int) (o2:(List UInt8)⊕Unit),Qdm p0 v4 v5=some o2→TL (0,0) Tryz.prog 40 Qpk (JP2 (0,0) 40 o2 (.exit 0) (Qj7 p0) .ret (Qj8 p0)) (Qgu p0 v4 v5):=fun p0 v4 v5=>(Qs6 p0) v4 v5
noncomputable def Qkt (p0:(List UInt8)):Option ((List UInt8)×Bool) :=
 Q2c p0>>=fun x1 =>
 if(!x1) then
  some ([],false)
 else
  (Qdm p0 [34] 0)>>=fun o2 =>
  match o2 with
  | .inl y3 =>
   need (y3.length+[34].length≤9223372036854775807)>>=fun _ =>
   some ((y3++[34]),true)
  | .inr y4 =>
   some ([],false)
theorem Q2d:∀ (p0:(List UInt8)) (o:(List UInt8)×Bool),Qkt p0=some o→PCall Tryz.prog 170 [sV p0] (Qj6 o):=by
 intro p0 o h
 unfold Qkt at h
 refine PCall.ofB mixed tbOk Qsq Tryz.func170 rfl (by kernel_rfl) (Nat.le_of_ble_eq_true rfl) ?_
 refine Qah [sV p0] Qt0 h (fun x1 hy=>(Q7p p0 x1 hy)) (fun x1 hy h=>?_)
 refine Qae h (fun hb h=>?_) (fun hb h=>?_)
 ·refine Qal (t:=Qj6) h ?_
  exact .refl _
 ·refine Qag h (fun o2 ho hk=>?_)
  refine Exists.intro (JP2 _ _ o2 (.exit 0) (Qj7 p0) .ret (Qj8 p0)) (And.intro (T_le (τ := Qgu p0 [34] 0) ?_ (TL.loop (Qvg p0 [34] 0 o2 ho))) (join2 (fun y3 hy=>?_) (fun y4 hy=>?_)))
  ·exact Le.tz 0 0 rfl rfl rfl
  ·have h:=(by rw[hy] at hk; exact hk)
   refine Q30 h (fun h=>?_)
   refine Qal (t:=Qj6) h ?_
   exact .refl _
  ·have h:=(by rw[hy] at hk; exact hk)
   refine Qal (t:=Qj6) h ?_
   exact .refl _
noncomputable def Qon (p0:Int):Option (Bool) :=
 ( if(decide (p0 ≥ 48)) then
   some (decide (p0≤57))
  else
   some false:Option (Bool))>>=fun o1 =>
 some o1
theorem Q2e:∀ (p0:Int) (o:Bool),Qon p0=some o→PCall Tryz.prog 102 [nV .u8 p0] (Qp6 o):=by
 intro p0 o h
 unfold Qon at h
 refine PCall.ofB mixed tbOk Q10 Tryz.func102 rfl (by kernel_rfl) (Nat.le_of_ble_eq_true rfl) ?_
 refine Qag h (fun o1 ho hk=>?_)
 refine Exists.intro (JP1 _ _ o1 .normal (Qwi )) (And.intro ?_ (join1 ?_))
 ·have h:=ho
  refine Qae h (fun hb h=>?_) (fun hb h=>?_)
  ·refine JP1.a h ?_
   exact Le.tz 0 0 rfl rfl rfl
  ·refine JP1.a h ?_
   exact Le.tz 0 0 rfl rfl rfl
 ·have h:=hk
  refine Qal (t:=Qp6) h ?_
  exact .refl _
noncomputable def Qma (p0:Int):Option (Bool) :=
 ( if(decide (p0 ≥ 97)) then
   some (decide (p0≤122))
  else
   some false:Option (Bool))>>=fun o1 =>
 some o1
theorem Qsx:∀ (p0:Int) (o:Bool),Qma p0=some o→PCall Tryz.prog 101 [nV .u8 p0] (Qmp o):=by
 intro p0 o h
 unfold Qma at h
 refine PCall.ofB mixed tbOk Q11 Tryz.func101 rfl (by kernel_rfl) (Nat.le_of_ble_eq_true rfl) ?_
 refine Qag h (fun o1 ho hk=>?_)
 refine Exists.intro (JP1 _ _ o1 .normal (Qwj )) (And.intro ?_ (join1 ?_))
 ·have h:=ho
  refine Qae h (fun hb h=>?_) (fun hb h=>?_)
  ·refine JP1.a h ?_
   exact Le.tz 0 0 rfl rfl rfl
  ·refine JP1.a h ?_
   exact Le.tz 0 0 rfl rfl rfl
 ·have h:=hk
  refine Qal (t:=Qmp) h ?_
  exact .refl _
noncomputable def Qfa (p0:(List UInt8)) (v3:Int):Option (Unit⊕Unit) :=
 if(decide (v3<(p0.length:Int))) then
  ( idx p0 v3>>=fun x8 =>
   Qma (x8.toNat:Int)>>=fun x9 =>
   if(!x9) then
    idx p0 v3>>=fun x10 =>
    Qon (x10.toNat:Int)>>=fun x11 =>
    if(!x11) then
     idx p0 v3>>=fun x12 =>
     some ((x12.toNat:Int) != 95)
    else
     some false
   else
    some false:Option (Bool))>>=fun o7 =>
  if o7 then
   some (.inr ())
  else
   Qfa p0 (wr (v3+1))
 else
  some (.inl ())
 partial_fixpoint
theorem Qvh:∀ (p0:(List UInt8)),(∀ (v3:Int) (o4:Unit⊕Unit),Qfa p0 v3=some o4→TL (0,0) Tryz.prog 42 Qqv (JP2 (0,0) 42 o4 (.exit 0) (Qlj p0) .ret (Qlk p0)) (Qig p0 v3)):=by
 intro p0
 refine Qfa.partial_correctness p0 _ ?_
 intro Qfa' iQfa v3 o4 h
 refine TL.round (Qai mixed tbOk (lv:=Quu) _ _ _ ?_)
 refine vrfl ?_
 refine Qae h (fun hb h=>?_) (fun hb h=>?_)
 ·refine Qag h (fun o7 ho hk=>?_)
  refine Exists.intro (JP1 _ _ o7 .normal (Qze p0 v3)) (And.intro ?_ (join1 ?_))
  ·have h:=ho
   refine Qfx h (fun x8 hi h=>?_)
   refine Qah [nV .u8 (x8.toNat:Int)] Qmp h (fun x9 hy=>(Qsx (x8.toNat:Int) x9 hy)) (fun x9 hy h=>?_)
   refine Qae h (fun hb h=>?_) (fun hb h=>?_)
   ·refine Qfx h (fun x10 hi h=>?_)
    refine Qah [nV .u8 (x10.toNat:Int)] Qp6 h (fun x11 hy=>(Q2e (x10.toNat:Int) x11 hy)) (fun x11 hy h=>?_)
    refine Qae h (fun hb h=>?_) (fun hb h=>?_)
    ·refine Qfx h (fun x12 hi h=>?_)
     refine JP1.a h ?_
     exact Le.tz 0 0 rfl rfl rfl
    ·refine JP1.a h ?_
     exact Le.tz 0 0 rfl rfl rfl
   ·refine bF ?_
    refine JP1.a h ?_
    exact Le.tz 0 0 rfl rfl rfl
  ·have h:=hk
   refine Qae h (fun hb h=>?_) (fun hb h=>?_)
   ·exact JP2.b h (Le.tz 0 0 rfl rfl rfl)
   ·refine TL.le (τ := Qig p0 (wr (v3+1))) ?_ ((iQfa (wr (v3+1)) _ h))
    exact Le.tz 0 0 rfl rfl rfl
 ·exact JP2.a h (Le.tz 0 0 rfl rfl rfl)
theorem Qxc:∀ (p0:(List UInt8)) (v3:Int) (o4:Unit⊕Unit),Qfa p0 v3=some o4→TL (0,0) Tryz.prog 42 Qqv (JP2 (0,0) 42 o4 (.exit 0) (Qlj p0) .ret (Qlk p0)) (Qig p0 v3):=fun p0 v3=>(Qvh p0) v3
noncomputable def Qm1 (p0:(List UInt8)):Option (Bool) :=
 ( if(decide ((p0.length:Int)<1)) then
   some true
  else
   if(decide ((p0.length:Int)>32)) then
    some true
   else
    idx p0 0>>=fun x2 =>
    Qma (x2.toNat:Int)>>=fun x3 =>
    some (!x3):Option (Bool))>>=fun o1 =>
 if o1 then
  some false
 else
  (Qfa p0 0)>>=fun o4 =>
  match o4 with
  | .inl y5 =>
   some true
  | .inr y6 =>
   some false
theorem Qqb:∀ (p0:(List UInt8)) (o:Bool),Qm1 p0=some o→PCall Tryz.prog 77 [sV p0] (Qht o):=by
 intro p0 o h
 unfold Qm1 at h
 refine PCall.ofB mixed tbOk Quu Tryz.func77 rfl (by kernel_rfl) (Nat.le_of_ble_eq_true rfl) ?_
 refine Qag h (fun o1 ho hk=>?_)
 refine Exists.intro (JP1 _ _ o1 .normal (Qzd p0)) (And.intro ?_ (join1 ?_))
 ·have h:=ho
  refine vrfl ?_
  refine Qae h (fun hb h=>?_) (fun hb h=>?_)
  ·refine bT ?_
   refine JP1.a h ?_
   exact Le.tz 0 0 rfl rfl rfl
  ·refine vrfl ?_
   refine Qae h (fun hb h=>?_) (fun hb h=>?_)
   ·refine JP1.a h ?_
    exact Le.tz 0 0 rfl rfl rfl
   ·refine Qfx h (fun x2 hi h=>?_)
    refine Qah [nV .u8 (x2.toNat:Int)] Qmp h (fun x3 hy=>(Qsx (x2.toNat:Int) x3 hy)) (fun x3 hy h=>?_)
    refine JP1.a h ?_
    exact Le.tz 0 0 rfl rfl rfl
 ·have h:=hk
  refine Qae h (fun hb h=>?_) (fun hb h=>?_)
  ·refine Qal (t:=Qht) h ?_
   exact .refl _
  ·refine Qag h (fun o4 ho hk=>?_)
   refine Exists.intro (JP2 _ _ o4 (.exit 0) (Qlj p0) .ret (Qlk p0)) (And.intro (T_le (τ := Qig p0 0) ?_ (TL.loop (Qxc p0 0 o4 ho))) (join2 (fun y5 hy=>?_) (fun y6 hy=>?_)))
   ·exact Le.tz 0 0 rfl rfl rfl
   ·have h:=(by rw[hy] at hk; exact hk)
    refine Qal (t:=Qht) h ?_
    exact .refl _
   ·have h:=(by rw[hy] at hk; exact hk)
    refine Qal (t:=Qht) h ?_
    exact .refl _
mutual
noncomputable def Qfb (p0:(List Qab)):Option (Int) :=
 (Qfc p0 0 0)>>=fun o1 =>
 some o1
 partial_fixpoint
noncomputable def Qfc (p0:(List Qab)) (v3:Int) (v4:Int):Option (Int) :=
 if(decide (v4<(p0.length:Int))) then
  idx p0 v4>>=fun x2 =>
  Qfb x2.L>>=fun x3 =>
  idx p0 v4>>=fun x4 =>
  Qfb x4.Then>>=fun x5 =>
  idx p0 v4>>=fun x6 =>
  Qfb x6.Else>>=fun x7 =>
  Qfc p0 (wr ((wr ((wr ((wr (v3+1))+x3))+x5))+x7)) (wr (v4+1))
 else
  some v3
 partial_fixpoint
end
theorem Q0b:(∀ (p0:(List Qab)) (o:Int),Qfb p0=some o→PCall Tryz.prog 80 [.sl false (p0.map Qaa)] (Qf7 o))∧(∀ (p0:(List Qab)) (v3:Int) (v4:Int) (o1:Int),Qfc p0 v3 v4=some o1→TL (0,0) Tryz.prog 35 Qwk (JP1 (0,0) 35 o1 (.exit 0) (Qn6 p0)) (Qj9 p0 v3 v4)):=by
 refine Qfb.mutual_partial_correctness _ _ ?_ ?_
 ·intro Qfc' iQfc p0 o h
  refine PCall.ofB mixed tbOk Qsr Tryz.func80 rfl (by kernel_rfl) (Nat.le_of_ble_eq_true rfl) ?_
  refine Qag h (fun o1 ho hk=>?_)
  refine Exists.intro (JP1 _ _ o1 (.exit 0) (Qn6 p0)) (And.intro (T_le (τ := Qj9 p0 0 0) ?_ (TL.loop (iQfc p0 0 0 o1 ho))) (join1 ?_))
  ·exact Le.tz 0 0 rfl rfl rfl
  have h:=hk
  refine Qal (t:=Qf7) h ?_
  exact .refl _
 ·intro Qfb' Qfc' iQfb iQfc p0 v3 v4 o1 h
  refine TL.round (Qai mixed tbOk (lv:=Qsr) _ _ _ ?_)
  refine view (lenMap _ _) rfl ?_
  refine Qae h (fun hb h=>?_) (fun hb h=>?_)
  ·refine And.intro (by decide +kernel) (And.intro rfl ?_)
   refine Qa5 (l:=p0) (c:=Qaa) (c' := Qa7) h Qam (fun _=>rfl) (by decide) (fun x2 hi h=>?_)
   refine Qfn [.sl false (x2.L.map Qaa)] Qf7 h (fun x3 hy=>(iQfb x2.L x3 hy)) (fun x3 hy h=>?_)
   refine Qa5 (l:=p0) (c:=Qaa) (c' := Qa7) h Qam (fun _=>rfl) (by decide) (fun x4 hi h=>?_)
   refine Qfn [.sl false (x4.Then.map Qaa)] Qf7 h (fun x5 hy=>(iQfb x4.Then x5 hy)) (fun x5 hy h=>?_)
   refine Qa5 (l:=p0) (c:=Qaa) (c' := Qa7) h Qam (fun _=>rfl) (by decide) (fun x6 hi h=>?_)
   refine Qfn [.sl false (x6.Else.map Qaa)] Qf7 h (fun x7 hy=>(iQfb x6.Else x7 hy)) (fun x7 hy h=>?_)
   refine TL.le (τ := Qj9 p0 (wr ((wr ((wr ((wr (v3+1))+x3))+x5))+x7)) (wr (v4+1))) ?_ ((iQfc p0 (wr ((wr ((wr ((wr (v3+1))+x3))+x5))+x7)) (wr (v4+1)) _ h))
   exact Le.tz 0 0 rfl rfl rfl
  ·exact JP1.a h (Le.tz 0 0 rfl rfl rfl)
theorem Q2f:∀ (p0:(List Qab)) (o:Int),Qfb p0=some o→PCall Tryz.prog 80 [.sl false (p0.map Qaa)] (Qf7 o):=fun p0=>Q0b.1 p0
mutual
noncomputable def Qhd (p0:(List Qab)):Option (Int) :=
 (Qgb p0 0 0)>>=fun o1 =>
 some o1
 partial_fixpoint
noncomputable def Qgb (p0:(List Qab)) (v3:Int) (v4:Int):Option (Int) :=
 if(decide (v4<(p0.length:Int))) then
  idx p0 v4>>=fun x2 =>
  Qhd x2.L>>=fun x3 =>
  idx p0 v4>>=fun x4 =>
  Qhd x4.Then>>=fun x5 =>
  idx p0 v4>>=fun x6 =>
  Qhd x6.Else>>=fun x7 =>
  Qgb p0 (if(wr (1+(if x7>(if x5>x3 then x5 else x3) then x7 else(if x5>x3 then x5 else x3))))>v3 then(wr (1+(if x7>(if x5>x3 then x5 else x3) then x7 else(if x5>x3 then x5 else x3)))) else v3) (wr (v4+1))
 else
  some v3
 partial_fixpoint
end
theorem Q2g:(∀ (p0:(List Qab)) (o:Int),Qhd p0=some o→PCall Tryz.prog 79 [.sl false (p0.map Qaa)] (Qhu o))∧(∀ (p0:(List Qab)) (v3:Int) (v4:Int) (o1:Int),Qgb p0 v3 v4=some o1→TL (0,0) Tryz.prog 34 Qzf (JP1 (0,0) 34 o1 (.exit 0) (Qpl p0)) (Qll p0 v3 v4)):=by
 refine Qhd.mutual_partial_correctness _ _ ?_ ?_
 ·intro Qgb' iQgb p0 o h
  refine PCall.ofB mixed tbOk Quv Tryz.func79 rfl (by kernel_rfl) (Nat.le_of_ble_eq_true rfl) ?_
  refine Qag h (fun o1 ho hk=>?_)
  refine Exists.intro (JP1 _ _ o1 (.exit 0) (Qpl p0)) (And.intro (T_le (τ := Qll p0 0 0) ?_ (TL.loop (iQgb p0 0 0 o1 ho))) (join1 ?_))
  ·exact Le.tz 0 0 rfl rfl rfl
  have h:=hk
  refine Qal (t:=Qhu) h ?_
  exact .refl _
 ·intro Qhd' Qgb' iQhd iQgb p0 v3 v4 o1 h
  refine TL.round (Qai mixed tbOk (lv:=Quv) _ _ _ ?_)
  refine view (lenMap _ _) rfl ?_
  refine Qae h (fun hb h=>?_) (fun hb h=>?_)
  ·refine And.intro (by decide +kernel) (And.intro rfl ?_)
   refine Qa5 (l:=p0) (c:=Qaa) (c' := Qa7) h Qam (fun _=>rfl) (by decide) (fun x2 hi h=>?_)
   refine Qfn [.sl false (x2.L.map Qaa)] Qhu h (fun x3 hy=>(iQhd x2.L x3 hy)) (fun x3 hy h=>?_)
   refine Qa5 (l:=p0) (c:=Qaa) (c' := Qa7) h Qam (fun _=>rfl) (by decide) (fun x4 hi h=>?_)
   refine Qfn [.sl false (x4.Then.map Qaa)] Qhu h (fun x5 hy=>(iQhd x4.Then x5 hy)) (fun x5 hy h=>?_)
   refine Qa5 (l:=p0) (c:=Qaa) (c' := Qa7) h Qam (fun _=>rfl) (by decide) (fun x6 hi h=>?_)
   refine Qfn [.sl false (x6.Else.map Qaa)] Qhu h (fun x7 hy=>(iQhd x6.Else x7 hy)) (fun x7 hy h=>?_)
   refine TL.le (τ := Qll p0 (if(wr (1+(if x7>(if x5>x3 then x5 else x3) then x7 else(if x5>x3 then x5 else x3))))>v3 then(wr (1+(if x7>(if x5>x3 then x5 else x3) then x7 else(if x5>x3 then x5 else x3)))) else v3) (wr (v4+1))) ?_ ((iQgb p0 (if(wr (1+(if x7>(if x5>x3 then x5 else x3) then x7 else(if x5>x3 then x5 else x3))))>v3 then(wr (1+(if x7>(if x5>x3 then x5 else x3) then x7 else(if x5>x3 then x5 else x3)))) else v3) (wr (v4+1)) _ h))
   exact Le.tz 0 0 rfl rfl rfl
  ·exact JP1.a h (Le.tz 0 0 rfl rfl rfl)
theorem Q4e:∀ (p0:(List Qab)) (o:Int),Qhd p0=some o→PCall Tryz.prog 79 [.sl false (p0.map Qaa)] (Qhu o):=fun p0=>Q2g.1 p0
noncomputable def Qek (p0:(List UInt8)) (x1:(List (List UInt8))) (v4:Int):Option (Unit⊕Unit) :=
 if(decide (v4<(x1.length:Int))) then
  idx x1 v4>>=fun x5 =>
  if(x5==p0) then
   some (.inr ())
  else
   Qek p0 x1 (wr (v4+1))
 else
  some (.inl ())
 partial_fixpoint
theorem Qvi:∀ (p0:(List UInt8)) (x1:(List (List UInt8))),(∀ (v4:Int) (o2:Unit⊕Unit),Qek p0 x1 v4=some o2→TL (0,0) Tryz.prog 20 Qqw (JP2 (0,0) 20 o2 (.exit 0) (Qlm p0 x1) .ret (Qln p0 x1)) (Qih p0 x1 v4)):=by
 intro p0 x1
 refine Qek.partial_correctness p0 x1 _ ?_
 intro Qek' iQek v4 o2 h
 refine TL.round (Qai mixed tbOk (lv:=Quw) _ _ _ ?_)
 refine view (lenMap _ _) rfl ?_
 refine Qae h (fun hb h=>?_) (fun hb h=>?_)
 ·refine Qa5 (l:=x1) (c:=cStr) (c' := cStr) h (fun _=>rfl) (fun _=>rfl) (by decide) (fun x5 hi h=>?_)
  refine Qae h (fun hb h=>?_) (fun hb h=>?_)
  ·exact JP2.b h (Le.tz 0 0 rfl rfl rfl)
  ·refine TL.le (τ := Qih p0 x1 (wr (v4+1))) ?_ ((iQek (wr (v4+1)) _ h))
   exact Le.tz 0 0 rfl rfl rfl
 ·exact JP2.a h (Le.tz 0 0 rfl rfl rfl)
theorem Qxd:∀ (p0:(List UInt8)) (x1:(List (List UInt8))) (v4:Int) (o2:Unit⊕Unit),Qek p0 x1 v4=some o2→TL (0,0) Tryz.prog 20 Qqw (JP2 (0,0) 20 o2 (.exit 0) (Qlm p0 x1) .ret (Qln p0 x1)) (Qih p0 x1 v4):=fun p0 x1 v4=>(Qvi p0 x1) v4
noncomputable def Qra:Option ((List (List UInt8))) :=
 some ([[105,102],[101,108,115,101],[101,110,100],[101,97,99,104],[105,110],[108,101,116],[117,115,101],[116,114,117,101],[102,97,108,115,101],[115,101,99,114,101,116]])
theorem Q2h:∀ (o:(List (List UInt8))),Qra  = some o→PCall Tryz.prog 76 [] (Qp7 o):=by
 intro o h
 unfold Qra at h
 refine PCall.ofB mixed tbOk Q12 Tryz.func76 rfl (by kernel_rfl) (Nat.le_of_ble_eq_true rfl) ?_
 refine Qal (t:=Qp7) h ?_
 exact .p (.not)
noncomputable def Qjr (p0:(List UInt8)):Option (Bool) :=
 Qra>>=fun x1 =>
 (Qek p0 x1 0)>>=fun o2 =>
 match o2 with
 | .inl y3 =>
  Qm1 p0>>=fun x6 =>
  some x6
 | .inr y4 =>
  some false
theorem Qku:∀ (p0:(List UInt8)) (o:Bool),Qjr p0=some o→PCall Tryz.prog 43 [sV p0] (Qgj o):=by
 intro p0 o h
 unfold Qjr at h
 refine PCall.ofB mixed tbOk Quw Tryz.func43 rfl (by kernel_rfl) (Nat.le_of_ble_eq_true rfl) ?_
 refine Qah [] Qp7 h (fun x1 hy=>(Q2h x1 hy)) (fun x1 hy h=>?_)
 refine Qag h (fun o2 ho hk=>?_)
 refine Exists.intro (JP2 _ _ o2 (.exit 0) (Qlm p0 x1) .ret (Qln p0 x1)) (And.intro (T_le (τ := Qih p0 x1 0) ?_ (TL.loop (Qxd p0 x1 0 o2 ho))) (join2 (fun y3 hy=>?_) (fun y4 hy=>?_)))
 ·exact Le.tz 0 0 rfl rfl rfl
 ·have h:=(by rw[hy] at hk; exact hk)
  refine Qah [sV p0] Qht h (fun x6 hy=>(Qqb p0 x6 hy)) (fun x6 hy h=>?_)
  refine Qal (t:=Qgj) h ?_
  exact .refl _
 ·have h:=(by rw[hy] at hk; exact hk)
  refine Qal (t:=Qgj) h ?_
  exact .refl _
noncomputable def Qdn (p0:Qab) (p1:Bool) (p2:Bool) (p3:Bool) (p4:Bool) (p5:Bool):Option (Bool) :=
 ( if p1 then
   if p2 then
    if p3 then
     if p4 then
      if p5 then
       if(p0.Kind==10) then
        some true
       else
        some ((p0.Else.length:Int)==0)
      else
       if((p0.Then.length:Int)==0) then
        if(p0.Kind==10) then
         some true
        else
         some ((p0.Else.length:Int)==0)
       else
        some false
     else
      if((p0.L.length:Int)==0) then
       if p5 then
        if(p0.Kind==10) then
         some true
        else
         some ((p0.Else.length:Int)==0)
       else
        if((p0.Then.length:Int)==0) then
         if(p0.Kind==10) then
          some true
         else
          some ((p0.Else.length:Int)==0)
        else
         some false
      else
       some false
    else
     if(p0.N==0) then
      if p4 then
       if p5 then
        if(p0.Kind==10) then
         some true
        else
         some ((p0.Else.length:Int)==0)
       else
        if((p0.Then.length:Int)==0) then
         if(p0.Kind==10) then
          some true
         else
          some ((p0.Else.length:Int)==0)
        else
         some false
      else
       if((p0.L.length:Int)==0) then
        if p5 then
         if(p0.Kind==10) then
          some true
         else
          some ((p0.Else.length:Int)==0)
        else
         if((p0.Then.length:Int)==0) then
          if(p0.Kind==10) then
           some true
          else
           some ((p0.Else.length:Int)==0)
         else
          some false
       else
        some false
     else
      some false
   else
    if(p0.Text==[]) then
     if p3 then
      if p4 then
       if p5 then
        if(p0.Kind==10) then
         some true
        else
         some ((p0.Else.length:Int)==0)
       else
        if((p0.Then.length:Int)==0) then
         if(p0.Kind==10) then
          some true
         else
          some ((p0.Else.length:Int)==0)
        else
         some false
      else
       if((p0.L.length:Int)==0) then
        if p5 then
         if(p0.Kind==10) then
          some true
         else
          some ((p0.Else.length:Int)==0)
        else
         if((p0.Then.length:Int)==0) then
          if(p0.Kind==10) then
           some true
          else
           some ((p0.Else.length:Int)==0)
         else
          some false
       else
        some false
     else
      if(p0.N==0) then
       if p4 then
        if p5 then
         if(p0.Kind==10) then
          some true
         else
          some ((p0.Else.length:Int)==0)
        else
         if((p0.Then.length:Int)==0) then
          if(p0.Kind==10) then
           some true
          else
           some ((p0.Else.length:Int)==0)
         else
          some false
       else
        if((p0.L.length:Int)==0) then
         if p5 then
          if(p0.Kind==10) then
           some true
          else
           some ((p0.Else.length:Int)==0)
         else
          if((p0.Then.length:Int)==0) then
           if(p0.Kind==10) then
            some true
           else
            some ((p0.Else.length:Int)==0)
          else
           some false
        else
         some false
      else
       some false
    else
     some false
  else
   if(p0.Name==[]) then
    if p2 then
     if p3 then
      if p4 then
       if p5 then
        if(p0.Kind==10) then
         some true
        else
         some ((p0.Else.length:Int)==0)
       else
        if((p0.Then.length:Int)==0) then
         if(p0.Kind==10) then
          some true
         else
          some ((p0.Else.length:Int)==0)
        else
         some false
      else
       if((p0.L.length:Int)==0) then
        if p5 then
         if(p0.Kind==10) then
          some true
         else
          some ((p0.Else.length:Int)==0)
        else
         if((p0.Then.length:Int)==0) then
          if(p0.Kind==10) then
           some true
          else
           some ((p0.Else.length:Int)==0)
         else
          some false
       else
        some false
     else
      if(p0.N==0) then
       if p4 then
        if p5 then
         if(p0.Kind==10) then
          some true
         else
          some ((p0.Else.length:Int)==0)
        else
         if((p0.Then.length:Int)==0) then
          if(p0.Kind==10) then
           some true
          else
           some ((p0.Else.length:Int)==0)
         else
          some false
       else
        if((p0.L.length:Int)==0) then
         if p5 then
          if(p0.Kind==10) then
           some true
          else
           some ((p0.Else.length:Int)==0)
         else
          if((p0.Then.length:Int)==0) then
           if(p0.Kind==10) then
            some true
           else
            some ((p0.Else.length:Int)==0)
          else
           some false
        else
         some false
      else
       some false
    else
     if(p0.Text==[]) then
      if p3 then
       if p4 then
        if p5 then
         if(p0.Kind==10) then
          some true
         else
          some ((p0.Else.length:Int)==0)
        else
         if((p0.Then.length:Int)==0) then
          if(p0.Kind==10) then
           some true
          else
           some ((p0.Else.length:Int)==0)
         else
          some false
       else
        if((p0.L.length:Int)==0) then
         if p5 then
          if(p0.Kind==10) then
           some true
          else
           some ((p0.Else.length:Int)==0)
         else
          if((p0.Then.length:Int)==0) then
           if(p0.Kind==10) then
            some true
           else
            some ((p0.Else.length:Int)==0)
          else
           some false
        else
         some false
      else
       if(p0.N==0) then
        if p4 then
         if p5 then
          if(p0.Kind==10) then
           some true
          else
           some ((p0.Else.length:Int)==0)
         else
          if((p0.Then.length:Int)==0) then
           if(p0.Kind==10) then
            some true
           else
            some ((p0.Else.length:Int)==0)
          else
           some false
        else
         if((p0.L.length:Int)==0) then
          if p5 then
           if(p0.Kind==10) then
            some true
           else
            some ((p0.Else.length:Int)==0)
          else
           if((p0.Then.length:Int)==0) then
            if(p0.Kind==10) then
             some true
            else
             some ((p0.Else.length:Int)==0)
           else
            some false
         else
          some false
       else
        some false
     else
      some false
   else
    some false:Option (Bool))>>=fun o1 =>
 some o1
theorem Qcc:∀ (p0:Qab) (p1:Bool) (p2:Bool) (p3:Bool) (p4:Bool) (p5:Bool) (o:Bool),Qdn p0 p1 p2 p3 p4 p5=some o→PCall Tryz.prog 132 [.agg [iV p0.Kind,sV p0.Name,sV p0.Text,iV p0.N,.sl false (p0.L.map Qaa),.sl false (p0.Then.map Qaa),.sl false (p0.Else.map Qaa)],bV p1,bV p2,bV p3,bV p4,bV p5] (Qb9 o):=by
 intro p0 p1 p2 p3 p4 p5 o h
 unfold Qdn at h
 refine PCall.ofB mixed tbOk Q36 Tryz.func132 rfl (by kernel_rfl) (Nat.le_of_ble_eq_true rfl) ?_
 refine Qag h (fun o1 ho hk=>?_)
 refine Exists.intro (JP1 _ _ o1 .normal (Qzh p0)) (And.intro ?_ (join1 ?_))
 ·have h:=ho
  refine Qae h (fun hb h=>?_) (fun hb h=>?_)
  ·refine bT ?_
   refine Qae h (fun hb h=>?_) (fun hb h=>?_)
   ·refine bT ?_
    refine Qae h (fun hb h=>?_) (fun hb h=>?_)
    ·refine bT ?_
     refine Qae h (fun hb h=>?_) (fun hb h=>?_)
     ·refine bT ?_
      refine Qae h (fun hb h=>?_) (fun hb h=>?_)
      ·refine bT ?_
       refine Qae h (fun hb h=>?_) (fun hb h=>?_)
       ·refine JP1.a h ?_
        exact Le.tz 1 0 rfl rfl rfl
       ·refine view (lenMap _ _) rfl ?_
        refine JP1.a h ?_
        exact Le.tz 1 0 rfl rfl rfl
      ·refine view (lenMap _ _) rfl ?_
       refine Qae h (fun hb h=>?_) (fun hb h=>?_)
       ·refine Qae h (fun hb h=>?_) (fun hb h=>?_)
        ·refine JP1.a h ?_
         exact Le.tz 1 0 rfl rfl rfl
        ·refine view (lenMap _ _) rfl ?_
         refine JP1.a h ?_
         exact Le.tz 1 0 rfl rfl rfl
       ·refine JP1.a h ?_
        exact Le.tz 1 0 rfl rfl rfl
     ·refine view (lenMap _ _) rfl ?_
      refine Qae h (fun hb h=>?_) (fun hb h=>?_)
      ·refine Qae h (fun hb h=>?_) (fun hb h=>?_)
       ·refine bT ?_
        refine Qae h (fun hb h=>?_) (fun hb h=>?_)
        ·refine JP1.a h ?_
         exact Le.tz 1 0 rfl rfl rfl
        ·refine view (lenMap _ _) rfl ?_
         refine JP1.a h ?_
         exact Le.tz 1 0 rfl rfl rfl
       ·refine view (lenMap _ _) rfl ?_
        refine Qae h (fun hb h=>?_) (fun hb h=>?_)
        ·refine Qae h (fun hb h=>?_) (fun hb h=>?_)
         ·refine JP1.a h ?_
          exact Le.tz 1 0 rfl rfl rfl
         ·refine view (lenMap _ _) rfl ?_
          refine JP1.a h ?_
          exact Le.tz 1 0 rfl rfl rfl
        ·refine JP1.a h ?_
         exact Le.tz 1 0 rfl rfl rfl
      ·refine bF ?_
       refine JP1.a h ?_
       exact Le.tz 1 0 rfl rfl rfl
    ·refine Qae h (fun hb h=>?_) (fun hb h=>?_)
     ·refine Qae h (fun hb h=>?_) (fun hb h=>?_)
      ·refine bT ?_
       refine Qae h (fun hb h=>?_) (fun hb h=>?_)
       ·refine bT ?_
        refine Qae h (fun hb h=>?_) (fun hb h=>?_)
        ·refine JP1.a h ?_
         exact Le.tz 1 0 rfl rfl rfl
        ·refine view (lenMap _ _) rfl ?_
         refine JP1.a h ?_
         exact Le.tz 1 0 rfl rfl rfl
       ·refine view (lenMap _ _) rfl ?_
        refine Qae h (fun hb h=>?_) (fun hb h=>?_)
        ·refine Qae h (fun hb h=>?_) (fun hb h=>?_)
         ·refine JP1.a h ?_
          exact Le.tz 1 0 rfl rfl rfl
         ·refine view (lenMap _ _) rfl ?_
          refine JP1.a h ?_
          exact Le.tz 1 0 rfl rfl rfl
        ·refine JP1.a h ?_
         exact Le.tz 1 0 rfl rfl rfl
      ·refine view (lenMap _ _) rfl ?_
       refine Qae h (fun hb h=>?_) (fun hb h=>?_)
       ·refine Qae h (fun hb h=>?_) (fun hb h=>?_)
        ·refine bT ?_
         refine Qae h (fun hb h=>?_) (fun hb h=>?_)
         ·refine JP1.a h ?_
          exact Le.tz 1 0 rfl rfl rfl
         ·refine view (lenMap _ _) rfl ?_
          refine JP1.a h ?_
          exact Le.tz 1 0 rfl rfl rfl
        ·refine view (lenMap _ _) rfl ?_
         refine Qae h (fun hb h=>?_) (fun hb h=>?_)
         ·refine Qae h (fun hb h=>?_) (fun hb h=>?_)
          ·refine JP1.a h ?_
           exact Le.tz 1 0 rfl rfl rfl
          ·refine view (lenMap _ _) rfl ?_
           refine JP1.a h ?_
           exact Le.tz 1 0 rfl rfl rfl
         ·refine JP1.a h ?_
          exact Le.tz 1 0 rfl rfl rfl
       ·refine bF ?_
        refine JP1.a h ?_
        exact Le.tz 1 0 rfl rfl rfl
     ·refine bF ?_
      refine bF ?_
      refine JP1.a h ?_
      exact Le.tz 1 0 rfl rfl rfl
   ·refine Qae h (fun hb h=>?_) (fun hb h=>?_)
    ·refine Qae h (fun hb h=>?_) (fun hb h=>?_)
     ·refine bT ?_
      refine Qae h (fun hb h=>?_) (fun hb h=>?_)
      ·refine bT ?_
       refine Qae h (fun hb h=>?_) (fun hb h=>?_)
       ·refine bT ?_
        refine Qae h (fun hb h=>?_) (fun hb h=>?_)
        ·refine JP1.a h ?_
         exact Le.tz 1 0 rfl rfl rfl
        ·refine view (lenMap _ _) rfl ?_
         refine JP1.a h ?_
         exact Le.tz 1 0 rfl rfl rfl
       ·refine view (lenMap _ _) rfl ?_
        refine Qae h (fun hb h=>?_) (fun hb h=>?_)
        ·refine Qae h (fun hb h=>?_) (fun hb h=>?_)
         ·refine JP1.a h ?_
          exact Le.tz 1 0 rfl rfl rfl
         ·refine view (lenMap _ _) rfl ?_
          refine JP1.a h ?_
          exact Le.tz 1 0 rfl rfl rfl
        ·refine JP1.a h ?_
         exact Le.tz 1 0 rfl rfl rfl
      ·refine view (lenMap _ _) rfl ?_
       refine Qae h (fun hb h=>?_) (fun hb h=>?_)
       ·refine Qae h (fun hb h=>?_) (fun hb h=>?_)
        ·refine bT ?_
         refine Qae h (fun hb h=>?_) (fun hb h=>?_)
         ·refine JP1.a h ?_
          exact Le.tz 1 0 rfl rfl rfl
         ·refine view (lenMap _ _) rfl ?_
          refine JP1.a h ?_
          exact Le.tz 1 0 rfl rfl rfl
        ·refine view (lenMap _ _) rfl ?_
         refine Qae h (fun hb h=>?_) (fun hb h=>?_)
         ·refine Qae h (fun hb h=>?_) (fun hb h=>?_)
          ·refine JP1.a h ?_
           exact Le.tz 1 0 rfl rfl rfl
          ·refine view (lenMap _ _) rfl ?_
           refine JP1.a h ?_
           exact Le.tz 1 0 rfl rfl rfl
         ·refine JP1.a h ?_
          exact Le.tz 1 0 rfl rfl rfl
       ·refine bF ?_
        refine JP1.a h ?_
        exact Le.tz 1 0 rfl rfl rfl
     ·refine Qae h (fun hb h=>?_) (fun hb h=>?_)
      ·refine Qae h (fun hb h=>?_) (fun hb h=>?_)
       ·refine bT ?_
        refine Qae h (fun hb h=>?_) (fun hb h=>?_)
        ·refine bT ?_
         refine Qae h (fun hb h=>?_) (fun hb h=>?_)
         ·refine JP1.a h ?_
          exact Le.tz 1 0 rfl rfl rfl
         ·refine view (lenMap _ _) rfl ?_
          refine JP1.a h ?_
          exact Le.tz 1 0 rfl rfl rfl
        ·refine view (lenMap _ _) rfl ?_
         refine Qae h (fun hb h=>?_) (fun hb h=>?_)
         ·refine Qae h (fun hb h=>?_) (fun hb h=>?_)
          ·refine JP1.a h ?_
           exact Le.tz 1 0 rfl rfl rfl
          ·refine view (lenMap _ _) rfl ?_
           refine JP1.a h ?_
           exact Le.tz 1 0 rfl rfl rfl
         ·refine JP1.a h ?_
          exact Le.tz 1 0 rfl rfl rfl
       ·refine view (lenMap _ _) rfl ?_
        refine Qae h (fun hb h=>?_) (fun hb h=>?_)
        ·refine Qae h (fun hb h=>?_) (fun hb h=>?_)
         ·refine bT ?_
          refine Qae h (fun hb h=>?_) (fun hb h=>?_)
          ·refine JP1.a h ?_
           exact Le.tz 1 0 rfl rfl rfl
          ·refine view (lenMap _ _) rfl ?_
           refine JP1.a h ?_
           exact Le.tz 1 0 rfl rfl rfl
         ·refine view (lenMap _ _) rfl ?_
          refine Qae h (fun hb h=>?_) (fun hb h=>?_)
          ·refine Qae h (fun hb h=>?_) (fun hb h=>?_)
           ·refine JP1.a h ?_
            exact Le.tz 1 0 rfl rfl rfl
           ·refine view (lenMap _ _) rfl ?_
            refine JP1.a h ?_
            exact Le.tz 1 0 rfl rfl rfl
          ·refine JP1.a h ?_
           exact Le.tz 1 0 rfl rfl rfl
        ·refine bF ?_
         refine JP1.a h ?_
         exact Le.tz 1 0 rfl rfl rfl
      ·refine bF ?_
       refine bF ?_
       refine JP1.a h ?_
       exact Le.tz 1 0 rfl rfl rfl
    ·refine bF ?_
     refine bF ?_
     refine bF ?_
     refine JP1.a h ?_
     exact Le.tz 1 0 rfl rfl rfl
  ·refine Qae h (fun hb h=>?_) (fun hb h=>?_)
   ·refine Qae h (fun hb h=>?_) (fun hb h=>?_)
    ·refine bT ?_
     refine Qae h (fun hb h=>?_) (fun hb h=>?_)
     ·refine bT ?_
      refine Qae h (fun hb h=>?_) (fun hb h=>?_)
      ·refine bT ?_
       refine Qae h (fun hb h=>?_) (fun hb h=>?_)
       ·refine bT ?_
        refine Qae h (fun hb h=>?_) (fun hb h=>?_)
        ·refine JP1.a h ?_
         exact Le.tz 1 0 rfl rfl rfl
        ·refine view (lenMap _ _) rfl ?_
         refine JP1.a h ?_
         exact Le.tz 1 0 rfl rfl rfl
       ·refine view (lenMap _ _) rfl ?_
        refine Qae h (fun hb h=>?_) (fun hb h=>?_)
        ·refine Qae h (fun hb h=>?_) (fun hb h=>?_)
         ·refine JP1.a h ?_
          exact Le.tz 1 0 rfl rfl rfl
         ·refine view (lenMap _ _) rfl ?_
          refine JP1.a h ?_
          exact Le.tz 1 0 rfl rfl rfl
        ·refine JP1.a h ?_
         exact Le.tz 1 0 rfl rfl rfl
      ·refine view (lenMap _ _) rfl ?_
       refine Qae h (fun hb h=>?_) (fun hb h=>?_)
       ·refine Qae h (fun hb h=>?_) (fun hb h=>?_)
        ·refine bT ?_
         refine Qae h (fun hb h=>?_) (fun hb h=>?_)
         ·refine JP1.a h ?_
          exact Le.tz 1 0 rfl rfl rfl
         ·refine view (lenMap _ _) rfl ?_
          refine JP1.a h ?_
          exact Le.tz 1 0 rfl rfl rfl
        ·refine view (lenMap _ _) rfl ?_
         refine Qae h (fun hb h=>?_) (fun hb h=>?_)
         ·refine Qae h (fun hb h=>?_) (fun hb h=>?_)
          ·refine JP1.a h ?_
           exact Le.tz 1 0 rfl rfl rfl
          ·refine view (lenMap _ _) rfl ?_
           refine JP1.a h ?_
           exact Le.tz 1 0 rfl rfl rfl
         ·refine JP1.a h ?_
          exact Le.tz 1 0 rfl rfl rfl
       ·refine bF ?_
        refine JP1.a h ?_
        exact Le.tz 1 0 rfl rfl rfl
     ·refine Qae h (fun hb h=>?_) (fun hb h=>?_)
      ·refine Qae h (fun hb h=>?_) (fun hb h=>?_)
       ·refine bT ?_
        refine Qae h (fun hb h=>?_) (fun hb h=>?_)
        ·refine bT ?_
         refine Qae h (fun hb h=>?_) (fun hb h=>?_)
         ·refine JP1.a h ?_
          exact Le.tz 1 0 rfl rfl rfl
         ·refine view (lenMap _ _) rfl ?_
          refine JP1.a h ?_
          exact Le.tz 1 0 rfl rfl rfl
        ·refine view (lenMap _ _) rfl ?_
         refine Qae h (fun hb h=>?_) (fun hb h=>?_)
         ·refine Qae h (fun hb h=>?_) (fun hb h=>?_)
          ·refine JP1.a h ?_
           exact Le.tz 1 0 rfl rfl rfl
          ·refine view (lenMap _ _) rfl ?_
           refine JP1.a h ?_
           exact Le.tz 1 0 rfl rfl rfl
         ·refine JP1.a h ?_
          exact Le.tz 1 0 rfl rfl rfl
       ·refine view (lenMap _ _) rfl ?_
        refine Qae h (fun hb h=>?_) (fun hb h=>?_)
        ·refine Qae h (fun hb h=>?_) (fun hb h=>?_)
         ·refine bT ?_
          refine Qae h (fun hb h=>?_) (fun hb h=>?_)
          ·refine JP1.a h ?_
           exact Le.tz 1 0 rfl rfl rfl
          ·refine view (lenMap _ _) rfl ?_
           refine JP1.a h ?_
           exact Le.tz 1 0 rfl rfl rfl
         ·refine view (lenMap _ _) rfl ?_
          refine Qae h (fun hb h=>?_) (fun hb h=>?_)
          ·refine Qae h (fun hb h=>?_) (fun hb h=>?_)
           ·refine JP1.a h ?_
            exact Le.tz 1 0 rfl rfl rfl
           ·refine view (lenMap _ _) rfl ?_
            refine JP1.a h ?_
            exact Le.tz 1 0 rfl rfl rfl
          ·refine JP1.a h ?_
           exact Le.tz 1 0 rfl rfl rfl
        ·refine bF ?_
         refine JP1.a h ?_
         exact Le.tz 1 0 rfl rfl rfl
      ·refine bF ?_
       refine bF ?_
       refine JP1.a h ?_
       exact Le.tz 1 0 rfl rfl rfl
    ·refine Qae h (fun hb h=>?_) (fun hb h=>?_)
     ·refine Qae h (fun hb h=>?_) (fun hb h=>?_)
      ·refine bT ?_
       refine Qae h (fun hb h=>?_) (fun hb h=>?_)
       ·refine bT ?_
        refine Qae h (fun hb h=>?_) (fun hb h=>?_)
        ·refine bT ?_
         refine Qae h (fun hb h=>?_) (fun hb h=>?_)
         ·refine JP1.a h ?_
          exact Le.tz 1 0 rfl rfl rfl
         ·refine view (lenMap _ _) rfl ?_
          refine JP1.a h ?_
          exact Le.tz 1 0 rfl rfl rfl
        ·refine view (lenMap _ _) rfl ?_
         refine Qae h (fun hb h=>?_) (fun hb h=>?_)
         ·refine Qae h (fun hb h=>?_) (fun hb h=>?_)
          ·refine JP1.a h ?_
           exact Le.tz 1 0 rfl rfl rfl
          ·refine view (lenMap _ _) rfl ?_
           refine JP1.a h ?_
           exact Le.tz 1 0 rfl rfl rfl
         ·refine JP1.a h ?_
          exact Le.tz 1 0 rfl rfl rfl
       ·refine view (lenMap _ _) rfl ?_
        refine Qae h (fun hb h=>?_) (fun hb h=>?_)
        ·refine Qae h (fun hb h=>?_) (fun hb h=>?_)
         ·refine bT ?_
          refine Qae h (fun hb h=>?_) (fun hb h=>?_)
          ·refine JP1.a h ?_
           exact Le.tz 1 0 rfl rfl rfl
          ·refine view (lenMap _ _) rfl ?_
           refine JP1.a h ?_
           exact Le.tz 1 0 rfl rfl rfl
         ·refine view (lenMap _ _) rfl ?_
          refine Qae h (fun hb h=>?_) (fun hb h=>?_)
          ·refine Qae h (fun hb h=>?_) (fun hb h=>?_)
           ·refine JP1.a h ?_
            exact Le.tz 1 0 rfl rfl rfl
           ·refine view (lenMap _ _) rfl ?_
            refine JP1.a h ?_
            exact Le.tz 1 0 rfl rfl rfl
          ·refine JP1.a h ?_
           exact Le.tz 1 0 rfl rfl rfl
        ·refine bF ?_
         refine JP1.a h ?_
         exact Le.tz 1 0 rfl rfl rfl
      ·refine Qae h (fun hb h=>?_) (fun hb h=>?_)
       ·refine Qae h (fun hb h=>?_) (fun hb h=>?_)
        ·refine bT ?_
         refine Qae h (fun hb h=>?_) (fun hb h=>?_)
         ·refine bT ?_
          refine Qae h (fun hb h=>?_) (fun hb h=>?_)
          ·refine JP1.a h ?_
           exact Le.tz 1 0 rfl rfl rfl
          ·refine view (lenMap _ _) rfl ?_
           refine JP1.a h ?_
           exact Le.tz 1 0 rfl rfl rfl
         ·refine view (lenMap _ _) rfl ?_
          refine Qae h (fun hb h=>?_) (fun hb h=>?_)
          ·refine Qae h (fun hb h=>?_) (fun hb h=>?_)
           ·refine JP1.a h ?_
            exact Le.tz 1 0 rfl rfl rfl
           ·refine view (lenMap _ _) rfl ?_
            refine JP1.a h ?_
            exact Le.tz 1 0 rfl rfl rfl
          ·refine JP1.a h ?_
           exact Le.tz 1 0 rfl rfl rfl
        ·refine view (lenMap _ _) rfl ?_
         refine Qae h (fun hb h=>?_) (fun hb h=>?_)
         ·refine Qae h (fun hb h=>?_) (fun hb h=>?_)
          ·refine bT ?_
           refine Qae h (fun hb h=>?_) (fun hb h=>?_)
           ·refine JP1.a h ?_
            exact Le.tz 1 0 rfl rfl rfl
           ·refine view (lenMap _ _) rfl ?_
            refine JP1.a h ?_
            exact Le.tz 1 0 rfl rfl rfl
          ·refine view (lenMap _ _) rfl ?_
           refine Qae h (fun hb h=>?_) (fun hb h=>?_)
           ·refine Qae h (fun hb h=>?_) (fun hb h=>?_)
            ·refine JP1.a h ?_
             exact Le.tz 1 0 rfl rfl rfl
            ·refine view (lenMap _ _) rfl ?_
             refine JP1.a h ?_
             exact Le.tz 1 0 rfl rfl rfl
           ·refine JP1.a h ?_
            exact Le.tz 1 0 rfl rfl rfl
         ·refine bF ?_
          refine JP1.a h ?_
          exact Le.tz 1 0 rfl rfl rfl
       ·refine bF ?_
        refine bF ?_
        refine JP1.a h ?_
        exact Le.tz 1 0 rfl rfl rfl
     ·refine bF ?_
      refine bF ?_
      refine bF ?_
      refine JP1.a h ?_
      exact Le.tz 1 0 rfl rfl rfl
   ·refine bF ?_
    refine bF ?_
    refine bF ?_
    refine bF ?_
    refine JP1.a h ?_
    exact Le.tz 1 0 rfl rfl rfl
 ·have h:=hk
  refine Qal (t:=Qb9) h ?_
  exact .refl _
mutual
noncomputable def Qo9 (p0:Qab):Option (Bool) :=
 if(p0.Kind==1) then
  Qkt p0.Text>>=fun x1 =>
  ( if x1.2 then
    Qdn p0 false true false false false>>=fun x3 =>
    some x3
   else
    some false:Option (Bool))>>=fun o2 =>
  some o2
 else
  if(p0.Kind==2) then
   Qdn p0 false false true false false>>=fun x4 =>
   some x4
  else
   if(p0.Kind==3) then
    ( if(p0.N==0) then
      Qdn p0 false false true false false>>=fun x6 =>
      some x6
     else
      if(p0.N==1) then
       Qdn p0 false false true false false>>=fun x7 =>
       some x7
      else
       some false:Option (Bool))>>=fun o5 =>
    some o5
   else
    if(p0.Kind==4) then
     ( Qjr p0.Name>>=fun x9 =>
      if x9 then
       Qdn p0 true false false false false>>=fun x10 =>
       some x10
      else
       some false:Option (Bool))>>=fun o8 =>
     some o8
    else
     if(p0.Kind==5) then
      ( Qm1 p0.Name>>=fun x12 =>
       if x12 then
        if((p0.L.length:Int)==1) then
         Qkv p0.L>>=fun x13 =>
         if x13 then
          Qdn p0 true false false true false>>=fun x14 =>
          some x14
         else
          some false
        else
         some false
       else
        some false:Option (Bool))>>=fun o11 =>
      some o11
     else
      if(p0.Kind==6) then
       ( Qjr p0.Name>>=fun x16 =>
        if x16 then
         if(decide ((p0.L.length:Int)≤3)) then
          Qkv p0.L>>=fun x17 =>
          if x17 then
           Qdn p0 true false false true false>>=fun x18 =>
           some x18
          else
           some false
         else
          some false
        else
         some false:Option (Bool))>>=fun o15 =>
       some o15
      else
       if(p0.Kind==7) then
        ( Qm1 p0.Name>>=fun x20 =>
         if x20 then
          Qdn p0 true false false false false>>=fun x21 =>
          some x21
         else
          some false:Option (Bool))>>=fun o19 =>
        some o19
       else
        some false
 partial_fixpoint
noncomputable def Qkv (p0:(List Qab)):Option (Bool) :=
 (Qgn p0 0)>>=fun o1 =>
 match o1 with
 | .inl y2 =>
  some true
 | .inr y3 =>
  some false
 partial_fixpoint
noncomputable def Qgn (p0:(List Qab)) (v3:Int):Option (Unit⊕Unit) :=
 if(decide (v3<(p0.length:Int))) then
  idx p0 v3>>=fun x4 =>
  Qo9 x4>>=fun x5 =>
  if(!x5) then
   some (.inr ())
  else
   Qgn p0 (wr (v3+1))
 else
  some (.inl ())
 partial_fixpoint
end
theorem Q2i:(∀ (p0:Qab) (o:Bool),Qo9 p0=some o→PCall Tryz.prog 156 [.agg [iV p0.Kind,sV p0.Name,sV p0.Text,iV p0.N,.sl false (p0.L.map Qaa),.sl false (p0.Then.map Qaa),.sl false (p0.Else.map Qaa)]] (Qep o))∧(∀ (p0:(List Qab)) (o:Bool),Qkv p0=some o→PCall Tryz.prog 130 [.sl false (p0.map Qaa)] (Qf8 o))∧(∀ (p0:(List Qab)) (v3:Int) (o1:Unit⊕Unit),Qgn p0 v3=some o1→TL (0,0) Tryz.prog 16 Qwn (JP2 (0,0) 16 o1 (.exit 0) (Qn9 p0) .ret (Qoa p0)) (Qka p0 v3)):=by
 refine Qo9.mutual_partial_correctness _ _ _ ?_ ?_ ?_
 ·intro Qkv' iQkv p0 o h
  refine PCall.ofB mixed tbOk Q37 Tryz.func156 rfl (by kernel_rfl) (Nat.le_of_ble_eq_true rfl) ?_
  refine Qae h (fun hb h=>?_) (fun hb h=>?_)
  ·refine Qah [sV p0.Text] Qj6 h (fun x1 hy=>(Q2d p0.Text x1 hy)) (fun x1 hy h=>?_)
   refine Qag h (fun o2 ho hk=>?_)
   refine Exists.intro (JP1 _ _ o2 .normal (Qzi p0)) (And.intro ?_ (join1 ?_))
   ·have h:=ho
    refine Qae h (fun hb h=>?_) (fun hb h=>?_)
    ·refine Qah [.agg [iV p0.Kind,sV p0.Name,sV p0.Text,iV p0.N,.sl false (p0.L.map Qaa),.sl false (p0.Then.map Qaa),.sl false (p0.Else.map Qaa)],bV false,bV true,bV false,bV false,bV false] Qb9 h (fun x3 hy=>(Qcc p0 false true false false false x3 hy)) (fun x3 hy h=>?_)
     refine JP1.a h ?_
     exact Le.tz 1 0 rfl rfl rfl
    ·refine JP1.a h ?_
     exact Le.tz 1 0 rfl rfl rfl
   ·have h:=hk
    refine Qal (t:=Qep) h ?_
    exact .refl _
  ·refine Qae h (fun hb h=>?_) (fun hb h=>?_)
   ·refine Qah [.agg [iV p0.Kind,sV p0.Name,sV p0.Text,iV p0.N,.sl false (p0.L.map Qaa),.sl false (p0.Then.map Qaa),.sl false (p0.Else.map Qaa)],bV false,bV false,bV true,bV false,bV false] Qb9 h (fun x4 hy=>(Qcc p0 false false true false false x4 hy)) (fun x4 hy h=>?_)
    refine Qal (t:=Qep) h ?_
    exact .refl _
   ·refine Qae h (fun hb h=>?_) (fun hb h=>?_)
    ·refine Qag h (fun o5 ho hk=>?_)
     refine Exists.intro (JP1 _ _ o5 .normal (Qzj p0)) (And.intro ?_ (join1 ?_))
     ·have h:=ho
      refine Qae h (fun hb h=>?_) (fun hb h=>?_)
      ·refine bT ?_
       refine Qah [.agg [iV p0.Kind,sV p0.Name,sV p0.Text,iV p0.N,.sl false (p0.L.map Qaa),.sl false (p0.Then.map Qaa),.sl false (p0.Else.map Qaa)],bV false,bV false,bV true,bV false,bV false] Qb9 h (fun x6 hy=>(Qcc p0 false false true false false x6 hy)) (fun x6 hy h=>?_)
       refine JP1.a h ?_
       exact Le.tz 1 0 rfl rfl rfl
      ·refine Qae h (fun hb h=>?_) (fun hb h=>?_)
       ·refine Qah [.agg [iV p0.Kind,sV p0.Name,sV p0.Text,iV p0.N,.sl false (p0.L.map Qaa),.sl false (p0.Then.map Qaa),.sl false (p0.Else.map Qaa)],bV false,bV false,bV true,bV false,bV false] Qb9 h (fun x7 hy=>(Qcc p0 false false true false false x7 hy)) (fun x7 hy h=>?_)
        refine JP1.a h ?_
        exact Le.tz 1 0 rfl rfl rfl
       ·refine JP1.a h ?_
        exact Le.tz 1 0 rfl rfl rfl
     ·have h:=hk
      refine Qal (t:=Qep) h ?_
      exact .refl _
    ·refine Qae h (fun hb h=>?_) (fun hb h=>?_)
     ·refine Qag h (fun o8 ho hk=>?_)
      refine Exists.intro (JP1 _ _ o8 .normal (Qzk p0)) (And.intro ?_ (join1 ?_))
      ·have h:=ho
       refine Qah [sV p0.Name] Qgj h (fun x9 hy=>(Qku p0.Name x9 hy)) (fun x9 hy h=>?_)
       refine Qae h (fun hb h=>?_) (fun hb h=>?_)
       ·refine Qah [.agg [iV p0.Kind,sV p0.Name,sV p0.Text,iV p0.N,.sl false (p0.L.map Qaa),.sl false (p0.Then.map Qaa),.sl false (p0.Else.map Qaa)],bV true,bV false,bV false,bV false,bV false] Qb9 h (fun x10 hy=>(Qcc p0 true false false false false x10 hy)) (fun x10 hy h=>?_)
        refine JP1.a h ?_
        exact Le.tz 1 0 rfl rfl rfl
       ·refine JP1.a h ?_
        exact Le.tz 1 0 rfl rfl rfl
      ·have h:=hk
       refine Qal (t:=Qep) h ?_
       exact .refl _
     ·refine Qae h (fun hb h=>?_) (fun hb h=>?_)
      ·refine Qag h (fun o11 ho hk=>?_)
       refine Exists.intro (JP1 _ _ o11 .normal (Qzl p0)) (And.intro ?_ (join1 ?_))
       ·have h:=ho
        refine Qah [sV p0.Name] Qht h (fun x12 hy=>(Qqb p0.Name x12 hy)) (fun x12 hy h=>?_)
        refine Qae h (fun hb h=>?_) (fun hb h=>?_)
        ·refine view (lenMap _ _) rfl ?_
         refine Qae h (fun hb h=>?_) (fun hb h=>?_)
         ·refine Qah [.sl false (p0.L.map Qaa)] Qf8 h (fun x13 hy=>(iQkv p0.L x13 hy)) (fun x13 hy h=>?_)
          refine Qae h (fun hb h=>?_) (fun hb h=>?_)
          ·refine Qah [.agg [iV p0.Kind,sV p0.Name,sV p0.Text,iV p0.N,.sl false (p0.L.map Qaa),.sl false (p0.Then.map Qaa),.sl false (p0.Else.map Qaa)],bV true,bV false,bV false,bV true,bV false] Qb9 h (fun x14 hy=>(Qcc p0 true false false true false x14 hy)) (fun x14 hy h=>?_)
           refine JP1.a h ?_
           exact Le.tz 1 0 rfl rfl rfl
          ·refine JP1.a h ?_
           exact Le.tz 1 0 rfl rfl rfl
         ·refine bF ?_
          refine JP1.a h ?_
          exact Le.tz 1 0 rfl rfl rfl
        ·refine bF ?_
         refine bF ?_
         refine JP1.a h ?_
         exact Le.tz 1 0 rfl rfl rfl
       ·have h:=hk
        refine Qal (t:=Qep) h ?_
        exact .refl _
      ·refine Qae h (fun hb h=>?_) (fun hb h=>?_)
       ·refine Qag h (fun o15 ho hk=>?_)
        refine Exists.intro (JP1 _ _ o15 .normal (Qzm p0)) (And.intro ?_ (join1 ?_))
        ·have h:=ho
         refine Qah [sV p0.Name] Qgj h (fun x16 hy=>(Qku p0.Name x16 hy)) (fun x16 hy h=>?_)
         refine Qae h (fun hb h=>?_) (fun hb h=>?_)
         ·refine view (lenMap _ _) rfl ?_
          refine Qae h (fun hb h=>?_) (fun hb h=>?_)
          ·refine Qah [.sl false (p0.L.map Qaa)] Qf8 h (fun x17 hy=>(iQkv p0.L x17 hy)) (fun x17 hy h=>?_)
           refine Qae h (fun hb h=>?_) (fun hb h=>?_)
           ·refine Qah [.agg [iV p0.Kind,sV p0.Name,sV p0.Text,iV p0.N,.sl false (p0.L.map Qaa),.sl false (p0.Then.map Qaa),.sl false (p0.Else.map Qaa)],bV true,bV false,bV false,bV true,bV false] Qb9 h (fun x18 hy=>(Qcc p0 true false false true false x18 hy)) (fun x18 hy h=>?_)
            refine JP1.a h ?_
            exact Le.tz 1 0 rfl rfl rfl
           ·refine JP1.a h ?_
            exact Le.tz 1 0 rfl rfl rfl
          ·refine bF ?_
           refine JP1.a h ?_
           exact Le.tz 1 0 rfl rfl rfl
         ·refine bF ?_
          refine bF ?_
          refine JP1.a h ?_
          exact Le.tz 1 0 rfl rfl rfl
        ·have h:=hk
         refine Qal (t:=Qep) h ?_
         exact .refl _
       ·refine Qae h (fun hb h=>?_) (fun hb h=>?_)
        ·refine Qag h (fun o19 ho hk=>?_)
         refine Exists.intro (JP1 _ _ o19 .normal (Qzn p0)) (And.intro ?_ (join1 ?_))
         ·have h:=ho
          refine Qah [sV p0.Name] Qht h (fun x20 hy=>(Qqb p0.Name x20 hy)) (fun x20 hy h=>?_)
          refine Qae h (fun hb h=>?_) (fun hb h=>?_)
          ·refine Qah [.agg [iV p0.Kind,sV p0.Name,sV p0.Text,iV p0.N,.sl false (p0.L.map Qaa),.sl false (p0.Then.map Qaa),.sl false (p0.Else.map Qaa)],bV true,bV false,bV false,bV false,bV false] Qb9 h (fun x21 hy=>(Qcc p0 true false false false false x21 hy)) (fun x21 hy h=>?_)
           refine JP1.a h ?_
           exact Le.tz 1 0 rfl rfl rfl
          ·refine JP1.a h ?_
           exact Le.tz 1 0 rfl rfl rfl
         ·have h:=hk
          refine Qal (t:=Qep) h ?_
          exact .refl _
        ·refine Qal (t:=Qep) h ?_
         exact .refl _
 ·intro Qgn' iQgn p0 o h
  refine PCall.ofB mixed tbOk Qst Tryz.func130 rfl (by kernel_rfl) (Nat.le_of_ble_eq_true rfl) ?_
  refine Qag h (fun o1 ho hk=>?_)
  refine Exists.intro (JP2 _ _ o1 (.exit 0) (Qn9 p0) .ret (Qoa p0)) (And.intro (T_le (τ := Qka p0 0) ?_ (TL.loop (iQgn p0 0 o1 ho))) (join2 (fun y2 hy=>?_) (fun y3 hy=>?_)))
  ·exact Le.tz 0 0 rfl rfl rfl
  ·have h:=(by rw[hy] at hk; exact hk)
   refine Qal (t:=Qf8) h ?_
   exact .refl _
  ·have h:=(by rw[hy] at hk; exact hk)
   refine Qal (t:=Qf8) h ?_
   exact .refl _
 ·intro Qo9' Qgn' iQo9 iQgn p0 v3 o1 h
  refine TL.round (Qai mixed tbOk (lv:=Qst) _ _ _ ?_)
  refine view (lenMap _ _) rfl ?_
  refine Qae h (fun hb h=>?_) (fun hb h=>?_)
  ·refine Qa5 (l:=p0) (c:=Qaa) (c' := Qa7) h Qam (fun _=>rfl) (by decide) (fun x4 hi h=>?_)
   refine Qah [.agg [iV x4.Kind,sV x4.Name,sV x4.Text,iV x4.N,.sl false (x4.L.map Qaa),.sl false (x4.Then.map Qaa),.sl false (x4.Else.map Qaa)]] Qep h (fun x5 hy=>(iQo9 x4 x5 hy)) (fun x5 hy h=>?_)
   refine Qae h (fun hb h=>?_) (fun hb h=>?_)
   ·exact JP2.b h (Le.tz 0 0 rfl rfl rfl)
   ·refine TL.le (τ := Qka p0 (wr (v3+1))) ?_ ((iQgn p0 (wr (v3+1)) _ h))
    exact Le.tz 0 0 rfl rfl rfl
  ·exact JP2.a h (Le.tz 0 0 rfl rfl rfl)
theorem Q2j:∀ (p0:(List Qab)) (o:Bool),Qkv p0=some o→PCall Tryz.prog 130 [.sl false (p0.map Qaa)] (Qf8 o):=fun p0=>Q2i.2.1 p0
noncomputable def Qdo (p0:(List UInt8)) (p1:(List UInt8)) (v5:Int):Option (Unit⊕Unit) :=
 if(decide (v5<(p0.length:Int))) then
  Ql8 p0 p1 v5>>=fun x4 =>
  if x4 then
   some (.inr ())
  else
   Qdo p0 p1 (wr (v5+1))
 else
  some (.inl ())
 partial_fixpoint
theorem Qr7:∀ (p0:(List UInt8)) (p1:(List UInt8)),(∀ (v5:Int) (o1:Unit⊕Unit),Qdo p0 p1 v5=some o1→TL (0,0) Tryz.prog 16 Qob (JP2 (0,0) 16 o1 (.exit 0) (Qi1 p0 p1) .ret (Qi2 p0 p1)) (Qf4 p0 p1 v5)):=by
 intro p0 p1
 refine Qdo.partial_correctness p0 p1 _ ?_
 intro Qdo' iQdo v5 o1 h
 refine TL.round (Qai mixed tbOk (lv:=Qqx) _ _ _ ?_)
 refine vrfl ?_
 refine Qae h (fun hb h=>?_) (fun hb h=>?_)
 ·refine Qah [sV p0,sV p1,iV v5] Qn3 h (fun x4 hy=>(Qz9 p0 p1 v5 x4 hy)) (fun x4 hy h=>?_)
  refine Qae h (fun hb h=>?_) (fun hb h=>?_)
  ·exact JP2.b h (Le.tz 0 0 rfl rfl rfl)
  ·refine TL.le (τ := Qf4 p0 p1 (wr (v5+1))) ?_ ((iQdo (wr (v5+1)) _ h))
   exact Le.tz 0 0 rfl rfl rfl
 ·exact JP2.a h (Le.tz 0 0 rfl rfl rfl)
theorem Qs7:∀ (p0:(List UInt8)) (p1:(List UInt8)) (v5:Int) (o1:Unit⊕Unit),Qdo p0 p1 v5=some o1→TL (0,0) Tryz.prog 16 Qob (JP2 (0,0) 16 o1 (.exit 0) (Qi1 p0 p1) .ret (Qi2 p0 p1)) (Qf4 p0 p1 v5):=fun p0 p1 v5=>(Qr7 p0 p1) v5
noncomputable def Qmb (p0:(List UInt8)) (p1:(List UInt8)):Option (Bool) :=
 (Qdo p0 p1 0)>>=fun o1 =>
 match o1 with
 | .inl y2 =>
  some false
 | .inr y3 =>
  some true
theorem Q0c:∀ (p0:(List UInt8)) (p1:(List UInt8)) (o:Bool),Qmb p0 p1=some o→PCall Tryz.prog 131 [sV p0,sV p1] (Qk3 o):=by
 intro p0 p1 o h
 unfold Qmb at h
 refine PCall.ofB mixed tbOk Qqx Tryz.func131 rfl (by kernel_rfl) (Nat.le_of_ble_eq_true rfl) ?_
 refine Qag h (fun o1 ho hk=>?_)
 refine Exists.intro (JP2 _ _ o1 (.exit 0) (Qi1 p0 p1) .ret (Qi2 p0 p1)) (And.intro (T_le (τ := Qf4 p0 p1 0) ?_ (TL.loop (Qs7 p0 p1 0 o1 ho))) (join2 (fun y2 hy=>?_) (fun y3 hy=>?_)))
 ·exact Le.tz 0 0 rfl rfl rfl
 ·have h:=(by rw[hy] at hk; exact hk)
  refine Qal (t:=Qk3) h ?_
  exact .refl _
 ·have h:=(by rw[hy] at hk; exact hk)
  refine Qal (t:=Qk3) h ?_
  exact .refl _
end Go.Proofs.YtfgegilhjlnohaaGreat
end
